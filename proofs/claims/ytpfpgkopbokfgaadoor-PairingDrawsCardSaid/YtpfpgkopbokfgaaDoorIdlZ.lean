/-
  The laws' frames: what came in, as the calculus' values.
-/
import Derived.Test.YtpfpgkopbokfgaaDoorIdlY
import Derived.ProofKit
import Derived.OpenShut
import Derived.Deep.Slices
namespace Go.Idl
set_option linter.all false
open Go.RowKit Go.Deep

variable {P : Program} {w : World}

theorem VRs.nil {μ : Mu} {F : Fz} : VRs μ F w [] [] := ⟨rfl, fun j v c h _ => by simp at h⟩
theorem VRs.cons {μ : Mu} {F : Fz} {v : Value} {c : IV} {vs : List Value} {cs : List IV} (h : VR μ F w v c) (hs : VRs μ F w vs cs) : VRs μ F w (v :: vs) (c :: cs) :=
  ⟨by simp [hs.1], fun j v' c' h1 h2 => by
    cases j with
    | zero => simp at h1 h2; subst h1; subst h2; exact h
    | succ j => simp at h1 h2; exact hs.2 j v' c' h1 h2⟩

/-- A slice of arrays of two integers that came in. -/
theorem pairs_in {H : Type} {enc : TypeId × Value → H} {base : Nat} {spare : Nat → Bool} {held : Bool} {t e k : TypeId} {fuel : Nat} {a : Option Addr} {len cap : Nat} {x : DataW H × List MemPlace}
    (ht : P.underlying t = some (.slice e)) (he : P.underlying e = some (.array 2 k)) (hk : P.underlying k = some (.int .i64)) (ce : P.cellsOf e = 2) (ck : P.cellsOf k = 1)
    (h : DataW.trod enc P w base spare held fuel t [.slice a len cap] = some x) :
    ∃ l : List (Int × Int), VR Mu.none (Fz.all w) w (.slice a len cap) (.fz 2 (mp (fun p => [.int .i64 p.1, .int .i64 p.2]) l)) := by
  rcases open_slice ht h with ⟨h0, _⟩ | ⟨a', len', cap', m, n, D, Pl, h1, hb, hl, hm, hmm, rfl, hx⟩
  · simp only [List.cons.injEq, Value.slice.injEq, and_true] at h0
    obtain ⟨rfl, rfl, rfl⟩ := h0
    exact ⟨[], .fz0 _ _ _⟩
  · simp only [List.cons.injEq, Value.slice.injEq, and_true] at h1
    obtain ⟨rfl, rfl, rfl⟩ := h1
    have hlm : len ≤ m := by rw [hmm]; split <;> omega
    have each : ∀ i, i < len → ∃ p : Int × Int, w.cell? (a'.add (i * 2)) = some (.int .i64 p.1) ∧ w.cell? (a'.add (i * 2 + 1)) = some (.int .i64 p.2) := by
      intro i hi
      obtain ⟨cs', h1, h2⟩ := hx i (by omega)
      rw [ce] at h1
      obtain ⟨_, hlen, hcell⟩ := World.cells?_some h1
      obtain ⟨xs, q, hq, _, _, hxl, hf⟩ := DataW.trod_array he h2
      rw [ck] at hf
      match xs, hxl, cs', hlen with
      | [y0, y1], _, [v0, v1], _ =>
        have g0 := hf 0 (by omega)
        have g1 := hf 1 (by omega)
        simp at g0 g1
        obtain ⟨n0, e0, _, _⟩ := DataW.trod_int hk g0
        obtain ⟨n1, e1, _, _⟩ := DataW.trod_int hk g1
        simp at e0 e1
        subst e0; subst e1
        have c0 := hcell 0 (by omega)
        have c1 := hcell 1 (by omega)
        rw [add_add] at c0 c1
        exact ⟨(n0, n1), by simpa using c0, by simpa using c1⟩
    obtain ⟨p, hp⟩ := choose_lt each
    refine ⟨(List.range len).map p, ?_⟩
    obtain ⟨b, off, spot⟩ := a'
    by_cases h0 : len = 0
    · subst h0
      exact .fz0 _ _ _
    · have hspot : spot = none := World.cell?_spot (hp 0 (by omega)).1
      subst hspot
      have hrows : ∀ (i : Nat) (row : List IV), (mp (fun p => [IV.int .i64 p.1, IV.int .i64 p.2]) ((List.range len).map p))[i]? = some row → i < len ∧ row = [.int .i64 (p i).1, .int .i64 (p i).2] := by
        intro i row hr
        simp only [mp, List.getElem?_map, Option.map_eq_some_iff] at hr
        obtain ⟨q, ⟨j, hj, rfl⟩, rfl⟩ := hr
        obtain ⟨h2, h3⟩ := List.getElem?_eq_some_iff.1 hj
        simp at h2 h3
        subst h3
        exact ⟨h2, rfl⟩
      refine vr_in (fun i j => if j = 0 then .int .i64 (p i).1 else .int .i64 (p i).2) (by simp [mp]) hl (by omega) (fun i row hr => by rw [(hrows i row hr).2]; rfl) (fun i j hi hj => ?_) (fun i row j c hr hc => ?_)
      · have := hp i hi
        have ea : ∀ n, (⟨b, off, none⟩ : Addr).add n = ⟨b, off + n, none⟩ := fun n => by unfold Addr.add; split <;> simp_all
        rw [ea, ea] at this
        rcases (by omega : j = 0 ∨ j = 1) with rfl | rfl
        · simpa using this.1
        · simpa [Nat.add_assoc] using this.2
      · obtain ⟨hi, rfl⟩ := hrows i row hr
        match j, hc with
        | 0, hc => simp at hc; subst hc; exact .int _ _
        | 1, hc => simp at hc; subst hc; exact .int _ _
end Go.Idl
