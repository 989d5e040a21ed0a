import Derived.Test.YteedopeniojppaaGreatDoorIdlPartI
import Derived.Sort.Grow
set_option linter.all false
namespace Go.Idl
open Go.Sort
section
variable {P : Program} {μ : Mu} {F : Fz} {w : World} {σ : Heap}
end
end Go.Idl
namespace Go.Idl
theorem IWp.meet {P : Program} {Q : XPost} {e : Env} {σ : Heap} {c d : Code} {T : Type} (K : T → Env × Heap) (C : T → Prop) (h2 : ∀ t, C t → IWp P d Q (K t).1 (K t).2)
  (h1 : ∀ Q' : XPost, (∀ e' σ' t, ((K t).1.subE e' ∧ fgt (K t).2 σ' ∧ σ.length ≤ (K t).2.length ∧ blS (K t).1 (K t).2) → C t → Q' .normal e' σ') → (∀ i e' σ', Q (.exit i) e' σ' → Q' (.exit i) e' σ') → (∀ e' σ', Q .ret e' σ' → Q' .ret e' σ') → IWp P c Q' e σ) : IWp P (.seq c d) Q e σ := fun ro μ F a w hR hE hH => by
 refine wpIn_seq (wpIn_mono (h1 (thenQ (fun e' σ' => ∃ t, ((K t).1.subE e' ∧ fgt (K t).2 σ' ∧ σ.length ≤ (K t).2.length ∧ blS (K t).1 (K t).2) ∧ C t) Q) (fun _ _ t hs hc => ⟨t, hs, hc⟩) (fun _ _ _ h => h) (fun _ _ h => h) ro μ F a w hR hE hH) ?_)
 rintro ex a' w' ⟨xe, e', σ', μ', F', h1, h3, h4, h5, h6, h7⟩
 cases xe with
 | normal =>
  cases ex <;> simp only [XExit.rel] at h1
  obtain ⟨t, hs, hc⟩ := h3
  obtain ⟨k1, k2⟩ := forget_sound h4 h5 hs.1 hs.2.1 hs.2.2.2
  have hX := Mu.cut_ext hH h6 hs.2.2.1
  refine wpIn_mono (h2 t hc ro _ F' a' w' (hR.ext hX) k1 k2) fun ex a'' w'' h => h.ext k2 hX h7
 | exit i => cases ex <;> simp only [XExit.rel] at h1; exact ⟨.exit i, e', σ', μ', F', h1, h3, h4, h5, h6, h7⟩
 | ret => cases ex <;> simp only [XExit.rel] at h1; exact ⟨.ret, e', σ', μ', F', trivial, h3, h4, h5, h6, h7⟩
end Go.Idl
