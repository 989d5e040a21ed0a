/-
  A slice that stands in a map becomes what nobody writes.
-/
import Derived.Test.YtjmjdjdabmlgeaaIdlPartK
import Derived.Test.YtjmjdjdabmlgeaaIdlPartH
namespace Go.Idl
set_option linter.all false
open Go.RowKit
section
variable {P : Program} {μ : Mu} {F : Fz} {w : World} {σ : Heap} {Q : XPost} {b s : Nat} {rs : List (List IV)}

theorem fzH_ge : ∀ (l : Heap) (k : Nat), b < k → fzH b s rs k l l
  | [], _, _ => trivial
  | _ :: l, k, h => ⟨by rw [if_neg (by omega)]; exact .inl rfl, fzH_ge l (k + 1) (by omega)⟩
theorem fzH_kill : ∀ (l : Heap) (k : Nat), k ≤ b → fzH b s rs k l (l.set (b - k) .dead)
  | [], _, _ => trivial
  | o :: l, k, h => by
    by_cases e : k = b
    · subst e
      rw [Nat.sub_self]
      exact ⟨by rw [if_pos rfl], fzH_ge l (k + 1) (by omega)⟩
    · obtain ⟨n, hn⟩ : ∃ n, b - k = n + 1 := ⟨b - k - 1, by omega⟩
      rw [hn]
      refine ⟨by rw [if_neg e]; exact .inl rfl, ?_⟩
      have := fzH_kill l (k + 1) (by omega)
      rwa [show b - (k + 1) = n by omega] at this
/-- Entries of which some may be frozen. -/
def fzEs (b s : Nat) (rs : List (List IV)) (es es' : List (IV × IV)) : Prop :=
  es'.length = es.length ∧ ∀ (j : Nat) (p p' : IV × IV), es[j]? = some p → es'[j]? = some p' → p'.1 = p.1 ∧ fzR b s rs p.2 p'.2
theorem HR.setMap {m : Nat} {es es' : List (IV × IV)} (hH : HR μ F σ w) (hm : σ[m]? = some (.map es)) (ho : ObjR μ F w m (.map es')) : HR μ F (σ.set m (.map es')) w := by
  have hml := (List.getElem?_eq_some_iff.1 hm).1
  have hget : ∀ (y : Nat) (o : IObj), (σ.set m (.map es'))[y]? = some o → (y = m ∧ o = .map es') ∨ (y ≠ m ∧ σ[y]? = some o) := fun y o h => by
    rw [List.getElem?_set] at h
    split at h
    · rename_i e
      simp only [Option.some.injEq] at h; exact .inl ⟨e.symm, h.symm⟩
    · rename_i e; exact .inr ⟨fun e' => e e'.symm, h⟩
  refine ⟨fun y hu => ?_, fun y o h => ?_, hH.inj, hH.fro, hH.lt, hH.flt, fun y z l r r' e e' h1 h2 => ?_, fun y b' es2 cur2 todo2 o h1 h2 => ?_⟩
  · obtain ⟨o, h1, h2⟩ := hH.n y hu
    rw [List.getElem?_set]
    by_cases e : m = y
    · subst e; exact ⟨.map es', by simp [hml], rfl⟩
    · exact ⟨o, by rw [if_neg e]; exact h1, h2⟩
  · rcases hget y o h with ⟨rfl, rfl⟩ | ⟨_, h⟩
    · exact ho
    · exact hH.obj y o h
  · rcases hget y _ h1 with ⟨_, h⟩ | ⟨_, h⟩
    · cases h
    · rcases hget z _ h2 with ⟨_, h'⟩ | ⟨_, h'⟩
      · cases h'
      · exact hH.yin y z l r r' e e' h h'
  · rcases hget y _ h1 with ⟨_, h⟩ | ⟨_, h⟩
    · cases h
    · rcases hget b' _ h2 with ⟨rfl, _⟩ | ⟨_, h'⟩
      · have := hH.itd y b' es2 cur2 todo2 _ h hm
        cases this
      · exact hH.itd y b' es2 cur2 todo2 o h h'
theorem HR.freezeM {m : Nat} {es es' : List (IV × IV)} (hH : HR μ F σ w) (hb : σ[b]? = some (.rows s rs)) (hm : σ[m]? = some (.map es)) (hes : fzEs b s rs es es') : HR (μ.kill b) (F.with μ b) ((σ.set b .dead).set m (.map es')) w ∧ Ext μ F w (μ.kill b) (F.with μ b) w := by
  have hne : b ≠ m := fun e => by subst e; rw [hb] at hm; cases hm
  have hfz : fzH b s rs 0 σ (σ.set b .dead) := by simpa using fzH_kill (b := b) (s := s) (rs := rs) σ 0 (Nat.zero_le _)
  obtain ⟨h2, hX⟩ := hH.freeze hb hfz
  refine ⟨h2.setMap (es := es) (by rw [List.getElem?_set_ne hne]; exact hm) ?_, hX⟩
  obtain ⟨hu, hsz, g, es0, cl, hpl, hg, hents, hnd, hcl⟩ := hH.obj m _ hm
  refine ⟨hu, hsz, g, es0, cl, ?_, hg, ⟨hents.1.trans hes.1.symm, fun j e p' e1 e2 => ?_⟩, hnd, hcl⟩
  · simp only [Mu.kill]
    rw [if_neg (Ne.symm hne)]; exact hpl
  · have hj : j < es.length := by rw [← hes.1]; exact (List.getElem?_eq_some_iff.1 e2).1
    have e3 : es[j]? = some es[j] := List.getElem?_eq_getElem hj
    obtain ⟨v1, v2⟩ := hents.2 j e _ e1 e3
    obtain ⟨k1, k2⟩ := hes.2 j _ _ e3 e2
    exact ⟨by rw [k1]; exact fzR_vr hH hb (.inl rfl) v1, fzR_vr hH hb k2 v2⟩
/-- **A BLOCK OF ONE's OWN BECOMES WHAT NOBODY WRITES**: slices into it that stand in a map (block m) are frozen. -/
theorem IWp.freezeM {c : Code} {x : Bool} {n m' : Nat} {ex : List Nat} {gl nm : List (Nat × IV)} (b m s : Nat) (rs : List (List IV)) (es es' : List (IV × IV)) (hb : σ[b]? = some (.rows s rs)) (hm : σ[m]? = some (.map es)) (hes : fzEs b s rs es es')
    (h : IWp P c Q ⟨x, n, m', ex, gl, nm, []⟩ ((σ.set b .dead).set m (.map es'))) : IWp P c Q ⟨x, n, m', ex, gl, nm, []⟩ σ := fun ro μ F a w hR hE hH => by
  obtain ⟨hH2, hX1⟩ := hH.freezeM hb hm hes
  have hv : ∀ {v : Value} {c : IV}, VR μ F w v c → VR (μ.kill b) (F.with μ b) w v c := fun hv => fzR_vr hH hb (.inl rfl) hv
  have hE' : EnvR (μ.kill b) (F.with μ b) w a.tmps ⟨x, n, m', ex, gl, nm, []⟩ := ⟨hE.size, fun t c hc => let ⟨v, v1, v2⟩ := hE.slot t c hc; ⟨v, v1, hv v2⟩, fun g c hc => hv (hE.glob g c hc)⟩
  exact wpIn_mono (h ro _ _ a w (hR.ext hX1) hE' hH2) fun ex a' w' hp => hp.ext hH2 hX1 (.refl rfl)
end
end Go.Idl
