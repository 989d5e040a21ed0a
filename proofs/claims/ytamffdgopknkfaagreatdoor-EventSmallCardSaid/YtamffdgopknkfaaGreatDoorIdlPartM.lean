import Derived.Test.YtamffdgopknkfaaGreatDoorIdlPartK
set_option linter.all false
namespace Go.Idl
open Go.RowKit
section
variable {P : Program} {Q : XPost} {σ : Heap}
theorem IWp.room {c : Code} {x : Bool} {n m : Nat} {ex : List Nat} {gl nm : List (Nat × IV)} (t b s : Nat) (rs : List (List IV)) (ht : isNamed m ex t = true) (hg : eget nm t = some (.sl b rs.length 0 rs.length none)) (hb : σ[b]? = some (.rows s rs))
  (h : ∀ cap, rs.length ≤ cap → IWp P c Q ⟨x, n, m, ex, gl, eput nm t (.sl b cap 0 rs.length (some cap)), []⟩ (hput σ b (.rows s (rs ++ List.replicate (cap - rs.length) (List.replicate s .junk))))) : IWp P c Q ⟨x, n, m, ex, gl, nm, []⟩ σ := fun ro μ F a w hR hE hH => by
 obtain ⟨v, v1, v2⟩ := hE.slot t _ (by unfold Env.get; simp only [ht, cond_true]; exact hg)
 obtain ⟨hub, hpos, hszb, hml, hrow, hcs⟩ := hH.obj b _ hb
 cases v2 with
 | sl _ _ _ _ _ _ hk hb' ht' hsl =>
  have hsl := hsl hml.symm
  rcases hcs with ⟨hpl, he0⟩ | ⟨g, off, cs, T, hpl, hgg, hcp1, hcp2, hcs⟩
  ·subst he0
   rw [hpl] at hsl
   obtain ⟨rfl, _⟩ := hsl
   have hput : hput σ b (.rows s ([] ++ List.replicate (0 - 0) (List.replicate s .junk))) = σ := by
    apply List.ext_getElem?
    intro x
    rw [getElem?_hput]
    have hbl := (List.getElem?_eq_some_iff.1 hb).1
    split
    ·rename_i e; subst e; rw [hb]; simp
    ·split
     ·rfl
     ·rw [if_neg (by omega)]; simp at *; omega
   have h1 := h 0 (Nat.le_refl _)
   simp only [List.length_nil] at h1 hg
   rw [hput] at h1
   refine h1 ro μ F a w hR ⟨hE.size, fun q c hq => ?_, hE.glob⟩ hH
   by_cases e : isNamed m ex q = true
   ·have hq' : eget (eput nm t (.sl b 0 0 0 (some 0))) q = some c := by
     unfold Env.get at hq; simpa only [e, cond_true] using hq
    rw [eget_eput] at hq'
    by_cases e2 : t = q
    ·subst e2
     rw [if_pos rfl] at hq'
     cases hq'
     exact ⟨_, v1, .sl _ b 0 0 0 _ rfl hub (Nat.zero_le _) fun _ => by rw [hpl]; exact ⟨rfl, rfl⟩⟩
    ·rw [if_neg e2] at hq'
     exact hE.slot q c (by unfold Env.get; simpa only [e, cond_true] using hq')
   ·have e' : isNamed m ex q = false := by simpa using e
    exact hE.slot q c (by unfold Env.get at hq ⊢; simpa only [e', cond_false] using hq)
  ·rw [hpl] at hsl
   obtain ⟨a', c', rfl, hle, hcp, ha, _⟩ := hsl
   have hlen : (rs ++ List.replicate (c' - rs.length) (List.replicate s IV.junk)).length = c' := by simp; omega
   obtain ⟨μ', hμ'⟩ : ∃ μ', μ' = μ.add b s c' (μ.cp b) (.at_ g off) := ⟨_, rfl⟩
   have hle' : μ.le μ' := by
    intro y hy
    rw [hμ']
    by_cases e : y = b
    ·subst e
     exact ⟨.inl rfl, by simp [Mu.add, hszb], by simp [Mu.add]; omega, fun _ => .inl (by simp [Mu.add, hpl]), fun h0 => by omega⟩
    ·simp [Mu.add, e, hy]
   have hch := hH.change (b := b) (o' := .rows s (rs ++ List.replicate (c' - rs.length) (List.replicate s IV.junk))) (μ' := μ') (w' := w) hle' (fun y e => by rw [hμ']; exact Mu.add_other y e) (fun _ _ _ => rfl)
    (fun g' off' hu e => by
     rw [hμ'] at e; simp [Mu.add] at e; obtain ⟨rfl, rfl⟩ := e
     exact ⟨.inr ⟨hub, off, hpl⟩, hH.lt b g off hub hpl⟩) (Nat.le_refl _) rfl rfl rfl (hH.notIt hb (by intro h; cases h)) (by
     refine ⟨by rw [hμ']; exact .inl rfl, hpos, by rw [hμ']; simp [Mu.add], by rw [hμ', hlen]; simp [Mu.add], fun i row e => ?_, .inr ⟨g, off, cs, T, by rw [hμ']; simp [Mu.add], hgg, by rw [hlen, hμ']; simp [Mu.add]; omega, by rw [hμ']; simpa [Mu.add] using hcp2, fun i row j c0 e1 e2 => ?_⟩⟩
     ·rcases List.mem_append.1 (List.mem_of_getElem? e) with h | h
      ·obtain ⟨j, hj, rfl⟩ := List.getElem_of_mem h; exact hrow j _ (List.getElem?_eq_getElem hj)
      ·rw [List.eq_of_mem_replicate h]; simp
     ·by_cases hi : i < rs.length
      ·rw [List.getElem?_append_left hi] at e1
       obtain ⟨u, u1, u2⟩ := hcs i row j c0 e1 e2
       exact ⟨u, u1, u2.mono hle' (fun _ h => h) (fun _ _ => rfl)⟩
      ·rw [List.getElem?_append_right (by omega)] at e1
       have hr := List.mem_of_getElem? e1
       have hir := (List.getElem?_eq_some_iff.1 e1).1
       simp only [List.length_replicate] at hir
       obtain rfl := List.eq_of_mem_replicate hr
       have hc0 := List.eq_of_mem_replicate (List.mem_of_getElem? e2)
       subst hc0
       have hj := (List.getElem?_eq_some_iff.1 e2).1
       simp only [List.length_replicate] at hj
       have hlt : off + i * s + j < cs.size := by
        have : (i + 1) * s ≤ μ.cp b * s := Nat.mul_le_mul_right _ (by omega)
        rw [Nat.add_mul] at this; omega
       exact ⟨_, Array.getElem?_eq_getElem hlt, .junk _⟩)
   have hE' : EnvR μ' F w a.tmps ⟨x, n, m, ex, gl, eput nm t (.sl b c' 0 rs.length (some c')), []⟩ := by
    refine ⟨hE.size, fun q c hq => ?_, fun g c hg => (hE.glob g c hg).mono hle' (fun _ h => h) (fun _ _ => rfl)⟩
    by_cases e : isNamed m ex q = true
    ·have hq' : eget (eput nm t (.sl b c' 0 rs.length (some c'))) q = some c := by
      unfold Env.get at hq; simpa only [e, cond_true] using hq
     rw [eget_eput] at hq'
     by_cases e2 : t = q
     ·subst e2
      rw [if_pos rfl] at hq'
      cases hq'
      refine ⟨_, v1, .sl _ b c' 0 _ _ rfl (by rw [hμ']; exact .inl rfl) (by rw [hμ']; simp [Mu.add]) fun _ => ?_⟩
      rw [hμ']
      simp only [Mu.add, if_true]
      exact ⟨a', c', rfl, hle, by omega, by rw [hszb] at ha; exact ha, fun c2 h2 => by cases h2; rfl⟩
     ·rw [if_neg e2] at hq'
      obtain ⟨u, u1, u2⟩ := hE.slot q c (by unfold Env.get; simpa only [e, cond_true] using hq')
      exact ⟨u, u1, u2.mono hle' (fun _ h => h) (fun _ _ => rfl)⟩
    ·have e' : isNamed m ex q = false := by simpa using e
     obtain ⟨u, u1, u2⟩ := hE.slot q c (by unfold Env.get at hq ⊢; simpa only [e', cond_false] using hq)
     exact ⟨u, u1, u2.mono hle' (fun _ h => h) (fun _ _ => rfl)⟩
   exact wpIn_mono (h c' hle ro _ _ a w (hR.ext hch.2) hE' hch.1) fun ex a' w' hp => hp.ext hch.1 hch.2 (.refl rfl)
end
end Go.Idl
namespace Go.Idl
open Go.RowKit
section
variable {P : Program} {σ : Heap}
theorem hput_selfK {σ : Heap} {b : Nat} {o : IObj} (h : σ[b]? = some o) : hput σ b o = σ := by
 apply List.ext_getElem?
 intro x
 rw [getElem?_hput]
 have hbl := (List.getElem?_eq_some_iff.1 h).1
 split
 ·rename_i e; subst e; exact h.symm
 ·split
  ·rfl
  ·rw [if_neg (by omega)]; simp at *; omega
theorem HR.room {μ : Mu} {F : Fz} {w : World} {v : Value} {b s n : Nat} {rs : List (List IV)} (hH : HR μ F σ w) (hb : σ[b]? = some (.rows s rs)) (hn : n = rs.length) (hv : VR μ F w v (.sl b n 0 n none)) :
  ∃ cap μ', n ≤ cap ∧ HR μ' F (hput σ b (.rows s (rs ++ List.replicate (cap - n) (List.replicate s .junk)))) w ∧ Ext μ F w μ' F w ∧ VR μ' F w v (.sl b cap 0 n (some cap)) := by
 subst hn
 obtain ⟨hub, hpos, hszb, hml, hrow, hcs⟩ := hH.obj b _ hb
 have hv0 := hv
 cases hv with
 | sl _ _ _ _ _ _ hk hb' ht' hsl =>
  have hsl := hsl hml.symm
  rcases hcs with ⟨hpl, he0⟩ | ⟨g, off, cs, T, hpl, hgg, hcp1, hcp2, hcs⟩
  ·subst he0
   rw [hpl] at hsl
   obtain ⟨rfl, _⟩ := hsl
   refine ⟨0, μ, Nat.le_refl _, ?_, Ext.refl _ _ _, .sl _ b 0 0 0 _ rfl hub (Nat.zero_le _) fun _ => by rw [hpl]; exact ⟨rfl, rfl⟩⟩
   rw [show ([] ++ List.replicate (0 - ([] : List (List IV)).length) (List.replicate s IV.junk)) = [] from rfl, hput_selfK hb]
   exact hH
  ·rw [hpl] at hsl
   obtain ⟨a', c', rfl, hle, hcp, ha, _⟩ := hsl
   have hlen : (rs ++ List.replicate (c' - rs.length) (List.replicate s IV.junk)).length = c' := by simp; omega
   obtain ⟨μ', hμ'⟩ : ∃ μ', μ' = μ.add b s c' (μ.cp b) (.at_ g off) := ⟨_, rfl⟩
   have hle' : μ.le μ' := by
    intro y hy
    rw [hμ']
    by_cases e : y = b
    ·subst e
     exact ⟨.inl rfl, by simp [Mu.add, hszb], by simp [Mu.add]; omega, fun _ => .inl (by simp [Mu.add, hpl]), fun h0 => by omega⟩
    ·simp [Mu.add, e, hy]
   have hch := hH.change (b := b) (o' := .rows s (rs ++ List.replicate (c' - rs.length) (List.replicate s IV.junk))) (μ' := μ') (w' := w) hle' (fun y e => by rw [hμ']; exact Mu.add_other y e) (fun _ _ _ => rfl)
    (fun g' off' hu e => by
     rw [hμ'] at e; simp [Mu.add] at e; obtain ⟨rfl, rfl⟩ := e
     exact ⟨.inr ⟨hub, off, hpl⟩, hH.lt b g off hub hpl⟩) (Nat.le_refl _) rfl rfl rfl (hH.notIt hb (by intro h; cases h)) (by
     refine ⟨by rw [hμ']; exact .inl rfl, hpos, by rw [hμ']; simp [Mu.add], by rw [hμ', hlen]; simp [Mu.add], fun i row e => ?_, .inr ⟨g, off, cs, T, by rw [hμ']; simp [Mu.add], hgg, by rw [hlen, hμ']; simp [Mu.add]; omega, by rw [hμ']; simpa [Mu.add] using hcp2, fun i row j c0 e1 e2 => ?_⟩⟩
     ·rcases List.mem_append.1 (List.mem_of_getElem? e) with h | h
      ·obtain ⟨j, hj, rfl⟩ := List.getElem_of_mem h; exact hrow j _ (List.getElem?_eq_getElem hj)
      ·rw [List.eq_of_mem_replicate h]; simp
     ·by_cases hi : i < rs.length
      ·rw [List.getElem?_append_left hi] at e1
       obtain ⟨u, u1, u2⟩ := hcs i row j c0 e1 e2
       exact ⟨u, u1, u2.mono hle' (fun _ h => h) (fun _ _ => rfl)⟩
      ·rw [List.getElem?_append_right (by omega)] at e1
       have hr := List.mem_of_getElem? e1
       have hir := (List.getElem?_eq_some_iff.1 e1).1
       simp only [List.length_replicate] at hir
       obtain rfl := List.eq_of_mem_replicate hr
       have hc0 := List.eq_of_mem_replicate (List.mem_of_getElem? e2)
       subst hc0
       have hj := (List.getElem?_eq_some_iff.1 e2).1
       simp only [List.length_replicate] at hj
       have hlt : off + i * s + j < cs.size := by
        have : (i + 1) * s ≤ μ.cp b * s := Nat.mul_le_mul_right _ (by omega)
        rw [Nat.add_mul] at this; omega
       exact ⟨_, Array.getElem?_eq_getElem hlt, .junk _⟩)
   refine ⟨c', μ', hle, hch.1, hch.2, .sl _ b c' 0 _ _ rfl (by rw [hμ']; exact .inl rfl) (by rw [hμ']; simp [Mu.add]) fun _ => ?_⟩
   rw [hμ']
   simp only [Mu.add, if_true]
   exact ⟨a', c', rfl, hle, by omega, by rw [hszb] at ha; exact ha, fun c2 h2 => by cases h2; rfl⟩
theorem ICalls.room {gl : List (Nat × IV)} {f : FuncId} {K : IV → Heap → Prop} {b s n : Nat} {rs : List (List IV)} {args : List IV} (hb : σ[b]? = some (.rows s rs)) (hn : n = rs.length)
  (h : ∀ cap, n ≤ cap → ICalls P gl f (.sl b cap 0 n (some cap) :: args) (hput σ b (.rows s (rs ++ List.replicate (cap - n) (List.replicate s .junk)))) K) : ICalls P gl f (.sl b n 0 n none :: args) σ K := by
 refine ⟨(h n (Nat.le_refl _)).1, fun μ F w vs hH hv hgl => ?_⟩
 obtain ⟨v, vs, rfl⟩ : ∃ v vs', vs = v :: vs' := by
  match vs, hv.1 with
  | v :: vs', _ => exact ⟨v, vs', rfl⟩
 obtain ⟨cap, μ', h1, h2, h3, h4⟩ := hH.room hb hn (hv.2 0 v _ rfl rfl)
 refine ((h cap h1).2 μ' F w (v :: vs) h2 ⟨hv.1, fun j u c e1 e2 => ?_⟩ fun g c hg => (hgl g c hg).mono h3.mu h3.fr (fun _ _ => rfl)).mono ?_
 ·cases j with
  | zero => cases e1; cases e2; exact h4
  | succ j => exact (hv.2 (j + 1) u c e1 e2).mono h3.mu h3.fr (fun _ _ => rfl)
 ·rintro en w' ⟨u, r, σ', μ2, F2, rfl, e2, e3, e4, e5⟩
  exact ⟨u, r, σ', μ2, F2, rfl, e2, e3, e4, h3.trans e5⟩
end
end Go.Idl
