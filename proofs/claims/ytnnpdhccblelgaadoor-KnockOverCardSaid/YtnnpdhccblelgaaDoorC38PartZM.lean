/-
  Chapter 38: better, Reverse; maps that count places.
-/
import Derived.Test.YtnnpdhccblelgaaDoorC38PartZG
import Derived.Test.YtnnpdhccblelgaaDoorC38PartZL
namespace Go.Idl
set_option linter.all false
open Go.Proofs
set_option maxHeartbeats 16000000
set_option maxRecDepth 40000

theorem low01 : lowF 0 1 = ⟨0, 1⟩ := by decide +kernel
theorem low11 : lowF 1 1 = ⟨1, 1⟩ := by decide +kernel
theorem add01_fun : FN 64 [.agg [.int .i64 0, .int .i64 1], .agg [.int .i64 1, .int .i64 1]] (fun v => v = .tup [.agg [.int .i64 1, .int .i64 1], .int .i64 0]) := by
  refine IFun.of_bodyZ false 6 [13] Tryd.func64 rfl Tryd.call64 rfl fun R hR => ?_
  have c1 := right_fun ⟨0, 1⟩ (by decide) (by decide)
  have c2 := right_fun ⟨1, 1⟩ (by decide) (by decide)
  have ca := add_lows (a := 0) (b := 1) (N := 1) (by decide) (by decide) (by decide) (by decide)
  rw [show (0 : Int) + 1 = 1 from rfl, low01, low11, show decide ((⟨1, 1⟩ : Frc).num < 0) = false by decide] at ca
  rw [show rightB ⟨0, 1⟩ = true by decide +kernel] at c1
  rw [show rightB ⟨1, 1⟩ = true by decide +kernel] at c2
  simp only [Frc.v] at *
  simp [go_sem]
  refine c1.callF (by simp [go_sem]) ?_
  rintro _ rfl
  simp [go_sem]
  refine c2.callF (by simp [go_sem]) ?_
  rintro _ rfl
  simp [go_sem]
  refine ca.callF (by simp [go_sem]) ?_
  rintro _ rfl
  simp [go_sem]
  exact hR _ _ _ rfl (by simp [go_sem])
/-- A wins by 1 to 0. -/
theorem better_fun (m : Mt) (q i : Int) : FN 35 [m.v, .agg [.int .i64 q, .int .i64 i, .int .i64 1, .int .i64 0, .int .i64 0, .int .i64 1]] (fun v => v = .bool true) := by
  refine IFun.of_bodyZ false 9 [] Tryd.func35 rfl Tryd.call35 rfl fun R hR => ?_
  have ca := add01_fun
  have cc := cmpG_fun ⟨1, 1⟩ ⟨0, 1⟩ (by decide) (by decide)
  rw [show cmpR ⟨1, 1⟩ ⟨0, 1⟩ = (1, 0) by decide +kernel] at cc
  obtain ⟨mr, mi, ma, mb⟩ := m
  simp only [Frc.v, Mt.v] at *
  simp [go_sem]
  refine ca.callF (by simp [go_sem]) ?_
  rintro _ rfl
  simp [go_sem]
  refine cc.callF (by simp [go_sem]) ?_
  rintro _ rfl
  simp [go_sem]
  exact hR _ _ _ rfl (by simp [go_sem])
/-- A list turned round from both ends. -/
structure RevI (l : List Rs) (i j : Nat) (M : List Rs) : Prop where
  len : M.length = l.length
  sum : i + j + 1 = l.length ∨ l.length = 0
  out : ∀ x (h : x < M.length), (x < i ∨ j < x) → M[x] = l[l.length - 1 - x]'(by rw [len] at h; omega)
  mid : ∀ x (h : x < M.length), i ≤ x → x ≤ j → M[x] = l[x]'(by rw [len] at h; omega)
theorem reverse_calls (l : List Rs) (hl : l.length ≤ 2 ^ 32) :
    ICalls Tryd.prog glT 36 [.sl 0 l.length 0 l.length none] [.rows 6 (rss l)] (fun _ σ => σ = [.rows 6 (rss l.reverse)]) := by
  refine ICalls.forget (ICalls.of_bodyE false 4 [9] Tryd.func36 rfl Tryd.call36 rfl fun R hR => ?_)
  by_cases h0 : l.length = 0
  · have e : l = [] := List.length_eq_zero_iff.1 h0
    subst e
    have z1 : IntKind.i64.wrap (-1) = -1 := by decide
    simp [go_sem, z1]
    refine IWp.loopT (α := Unit) (fun p => (⟨false, 28, 4, [9], glT, [(0, .sl 0 0 0 0 none), (2, .int .i64 0), (3, .int .i64 (-1))], []⟩, [.rows 6 []]))
      (fun p => True) (fun p => 0) () trivial (by simp [go_sem]) ?_
    rintro _ _
    simp [go_sem]
    exact hR _ _ ⟨_, by simp [go_sem], rfl⟩
  have v0 : IntKind.i64.wrap ((l.length : Int) - 1) = ((l.length - 1 : Nat) : Int) := by rw [wrap64 (by omega) (by omega)]; omega
  simp [go_sem, v0]
  refine IWp.loopT (α := Nat × Nat × List Rs) (fun p => (⟨false, 28, 4, [9], glT, [(0, .sl 0 l.length 0 l.length none), (2, .int .i64 (p.1 : Int)), (3, .int .i64 (p.2.1 : Int))], []⟩, [.rows 6 (rss p.2.2)]))
    (fun p => RevI l p.1 p.2.1 p.2.2) (fun p => p.2.1) (0, l.length - 1, l) ⟨rfl, by simp; omega, fun x h hx => by
      have h1 : x < l.length := h
      have h2 : x < 0 ∨ l.length - 1 < x := hx
      omega, fun x h _ _ => rfl⟩ (by simp [go_sem]) ?_
  rintro ⟨i, j, M⟩ hI
  simp only at hI
  have hMl := hI.len
  have hsm := hI.sum
  by_cases h : i < j
  · have h' : (i : Int) < j := by omega
    have v1 : IntKind.i64.wrap ((i : Int) + 1) = ((i + 1 : Nat) : Int) := by rw [wrap64 (by omega) (by omega)]; omega
    have v2 : IntKind.i64.wrap ((j : Int) - 1) = ((j - 1 : Nat) : Int) := by rw [wrap64 (by omega) (by omega)]; omega
    have hi : i < M.length := by omega
    have hj : j < M.length := by omega
    have hil : i < l.length := by omega
    have hjl : j < l.length := by omega
    have hnx : RevI l (i + 1) (j - 1) ((M.set i M[j]).set j M[i]) := by
      refine ⟨by simp [hMl], by omega, fun x hx hc => ?_, fun x hx h1 h2 => ?_⟩
      · simp only [List.getElem_set]
        simp only [List.length_set] at hx
        by_cases e : j = x
        · rw [if_pos e]
          exact (hI.mid i hi (by omega) (by omega)).trans (by congr 1; omega)
        · rw [if_neg e]
          by_cases e2 : i = x
          · rw [if_pos e2]
            exact (hI.mid j hj (by omega) (by omega)).trans (by congr 1; omega)
          · rw [if_neg e2]
            exact hI.out x hx (by omega)
      · simp only [List.getElem_set]
        simp only [List.length_set] at hx
        rw [if_neg (by omega), if_neg (by omega)]
        exact hI.mid x hx (by omega) (by omega)
    have hset : rss ((M.set i M[j]).set j M[i]) = ((rss M).set i M[j].c).set j M[i].c := by unfold rss; rw [mp_set, mp_set]
    have hne : i ≠ j := by omega
    have e1 : (rss M)[j]?.getD [] = M[j].c := by rw [List.getElem?_eq_getElem (by simpa using hj), Option.getD_some, rss_getElem]; rfl
    have e2 : (rss M)[i]?.getD [] = M[i].c := by rw [List.getElem?_eq_getElem (by simpa using hi), Option.getD_some, rss_getElem]; rfl
    obtain ⟨⟨ar, ai, aa, ab, ⟨an, ad⟩⟩, hA⟩ : ∃ x, M[i] = x := ⟨_, rfl⟩
    obtain ⟨⟨br, bi, ba, bb, ⟨bn, bd⟩⟩, hB⟩ : ∃ x, M[j] = x := ⟨_, rfl⟩
    rw [hA, hB] at hset hnx
    rw [hA] at e2
    rw [hB] at e1
    simp only [Rs.c] at hset e1 e2
    simp [go_sem, h, h', hil, hjl, hMl, hA, hB, e1, e2, v1, v2]
    refine ⟨by decide +kernel, i + 1, j - 1, _, ⟨⟨by omega, rfl⟩, ?_⟩, hnx, by omega⟩
    rw [hset, List.getElem_set_ne hne, rss_getElem]
    rfl
  · have h' : ¬ (i : Int) < j := by omega
    have hM : M = l.reverse := by
      refine List.ext_getElem (by simp [hMl]) fun x hx hx' => ?_
      rw [List.getElem_reverse]
      by_cases e : i ≤ x ∧ x ≤ j
      · exact (hI.mid x hx e.1 e.2).trans (by congr 1; omega)
      · exact hI.out x hx (by omega)
    clear hI hMl
    subst hM
    simp [go_sem, h, h']
    exact hR _ _ ⟨[.rows 6 (rss l.reverse)], by simp [go_sem], rfl⟩
end Go.Idl
