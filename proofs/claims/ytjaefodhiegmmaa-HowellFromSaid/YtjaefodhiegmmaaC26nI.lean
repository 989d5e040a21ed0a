import Derived.Test.YtjaefodhiegmmaaC26nE
import Derived.Test.YtjaefodhiegmmaaC26nH
namespace Go.Idl
set_option linter.all false
open Go.Proofs
set_option maxHeartbeats 2000000
set_option maxRecDepth 20000

def Dst (w p : Int) (n : Nat) : Prop := ∀ j k : Nat, 1 ≤ j → j < k → k ≤ n → powI w p j ≠ powI w p k

theorem refRoot_fun (p g : Int) (hg : 3 ≤ p → p ≤ 1000 → PrimeAll p → 2 ≤ g ∧ g < p ∧ Dst g p (p.toNat - 1) ∧ ∀ b, 2 ≤ b → b < g → ¬ Dst b p (p.toNat - 1)) :
    IFun true Try.prog [] 26 [.int .i64 p] (fun v => (v = .tup [.int .i64 g, .int .i64 0] ∧ 3 ≤ p ∧ p ≤ 1000 ∧ PrimeAll p) ∨ (v = .tup [.int .i64 0, .int .i64 2] ∧ ¬ (3 ≤ p ∧ p ≤ 1000 ∧ PrimeAll p))) := by
  refine IFun.of_bodyF false 9 [19, 26, 38, 47] Try.func26 rfl Try.call26 rfl fun R hR => ?_
  simp [go_sem]
  split
  case isFalse h3 =>
    refine ⟨by omega, by omega, hR _ _ ?_⟩
    simp [go_sem]
    omega
  rename_i h3
  refine ⟨h3, (prime_fun p (by omega)).callM (by simp [go_sem]) ?_⟩
  rintro _ ⟨b, rfl, hb⟩
  have hb' : b = true ↔ PrimeAll p := hb
  simp [go_sem, h3.1, h3.2]
  split
  case isTrue hbf =>
    refine hR _ _ ?_
    simp [go_sem]
    intro _ _ hpr
    have := hb'.2 hpr
    rw [this] at hbf
    rcases hbf with hbf | hbf
    · omega
    · cases hbf
  rename_i hbt
  have hpr : PrimeAll p := hb'.1 (by simpa [h3.1, h3.2] using hbt)
  obtain ⟨g1, g2, g3, gb⟩ := hg h3.1 h3.2 hpr
  refine IWp.loopT (α := Int) (fun x => (⟨false, 49, 9, [19, 26, 38, 47], [], [(0, .int .i64 p), (4, .int .i64 x)], []⟩, [])) (fun x => 2 ≤ x ∧ x ≤ g) (fun x => (g - x).toNat) 2 ⟨by omega, by omega⟩ (by simp [go_sem]) ?_
  rintro x ⟨hx, hx2⟩
  have hxp : x < p := by omega
  simp [go_sem]
  rw [ar_rep]
  refine ⟨⟨by omega, by omega⟩, IWp.loopE (α := Nat × (Nat → Bool) × Nat) (fun y => (⟨false, 49, 9, [19, 26, 38, 47], [], [(0, .int .i64 p), (4, .int .i64 x), (5, .sl 0 p.toNat 0 p.toNat none), (6, .int .i64 y.2.2), (7, .int .i64 (powI x p y.1)), (8, .int .i64 (y.1 + 1))], []⟩, [.rows 1 (ar p.toNat fun i => .bool (y.2.1 i))]))
    (fun y => y.1 + 1 ≤ p.toNat ∧ (∀ i, y.2.1 i = true ↔ ∃ j : Nat, 1 ≤ j ∧ j ≤ y.1 ∧ powI x p j = (i : Int)) ∧ y.2.2 ≤ y.1 ∧ (y.2.2 = y.1 ↔ Dst x p y.1)) (fun y => p.toNat - y.1) (0, fun _ => false, 0) ?_ ?_ ?_⟩
  · refine ⟨by simp; omega, fun i => ⟨fun h => by simp at h, fun ⟨j, h1, h2, _⟩ => by simp at h2; omega⟩, by simp, iff_of_true rfl fun j k h1 h2 h3 => by simp at h3; omega⟩
  · simp [go_sem, powI]
  · rintro ⟨n, f, m⟩ ⟨hn, hf, hm, hd⟩
    simp only at hn hf hm hd
    have hbd := powI_bd (w := x) (p := p) (by omega) (by omega) n
    have h0 : 0 ≤ powI x p n * x := Int.mul_nonneg hbd.1 (by omega)
    have h1 : powI x p n * x ≤ 2 ^ 31 * 2 ^ 31 := Int.mul_le_mul (by omega) (by omega) (by omega) (by omega)
    have hw : IntKind.i64.wrap (powI x p n * x) = powI x p n * x := wrap64 (by omega) (by omega)
    have hs : (powI x p n * x).tmod p = powI x p (n + 1) := rfl
    have hy0 : 0 ≤ powI x p (n + 1) := (powI_bd (w := x) (p := p) (by omega) (by omega) (n + 1)).1
    have hy1 : powI x p (n + 1) < p := by rw [← hs, Int.tmod_eq_emod_of_nonneg h0]; exact Int.emod_lt_of_pos _ (by omega)
    obtain ⟨y, hy⟩ : ∃ y : Nat, powI x p (n + 1) = (y : Int) := ⟨_, (Int.toNat_of_nonneg hy0).symm⟩
    have hyp : y < p.toNat := by omega
    have hd' : Dst x p (n + 1) ↔ (Dst x p n ∧ f y = false) := by
      constructor
      · intro h
        refine ⟨fun j k a b c => h j k a b (by omega), ?_⟩
        cases hfy : f y with
        | false => rfl
        | true =>
          obtain ⟨j, j1, j2, j3⟩ := (hf y).1 hfy
          exact absurd (j3.trans hy.symm) (h j (n + 1) j1 (by omega) (by omega))
      · rintro ⟨h, hfy⟩ j k a b c
        by_cases hk : k = n + 1
        · subst hk
          intro e
          have := (hf y).2 ⟨j, a, by omega, e.trans hy⟩
          rw [this] at hfy; cases hfy
        · exact h j k a b (by omega)
    by_cases hlt : (n : Int) + 1 < p
    · have hyp2 : (y : Int) < p := by omega
      simp [go_sem, hlt, hw, hs, hy, ar_at hyp, hyp, hyp2, ar_set]
      refine ⟨by omega, by omega, ?_⟩
      have hf' : ∀ i : Nat, (if i = y then true else f i) = true ↔ ∃ j : Nat, 1 ≤ j ∧ j ≤ n + 1 ∧ powI x p j = (i : Int) := fun i => by
        by_cases hi : i = y
        · subst hi
          simp only [if_true, true_iff]
          exact ⟨n + 1, by omega, by omega, hy⟩
        · rw [if_neg hi, hf i]
          constructor
          · rintro ⟨j, a, b, c⟩; exact ⟨j, a, by omega, c⟩
          · rintro ⟨j, a, b, c⟩
            by_cases hj : j = n + 1
            · subst hj; omega
            · exact ⟨j, a, by omega, c⟩
      split
      · rename_i hfy
        refine ⟨by omega, n + 1, fun i => if i = y then true else f i, m, ⟨⟨rfl, hy.symm, by rw [wrap64 (by omega) (by omega)]; rfl⟩, by rw [upF_bool]⟩, ⟨by omega, hf', by omega, ?_⟩, by omega⟩
        rw [hd', hfy]
        simp
        omega
      · rename_i hfy
        refine ⟨by omega, n + 1, fun i => if i = y then true else f i, m + 1, ⟨⟨by rw [wrap64 (by omega) (by omega)]; rfl, hy.symm, by rw [wrap64 (by omega) (by omega)]; rfl⟩, by rw [upF_bool]⟩, ⟨by omega, hf', by omega, ?_⟩, by omega⟩
        rw [hd', ← hd]
        simp at hfy
        simp [hfy]
    · simp [go_sem, hlt]
      have hpn : n = p.toNat - 1 := by omega
      rw [wrap64 (by omega) (by omega), wrap64 (by omega) (by omega)]
      by_cases hxg : x = g
      · subst hxg
        rw [hpn] at hd
        rw [if_pos (by have := hd.2 g3; omega)]
        refine hR _ _ ?_
        simp [go_sem]
        exact ⟨h3.1, h3.2, hpr⟩
      · rw [if_neg fun h => gb x hx (by omega) (by rw [← hpn]; exact hd.1 (by omega))]
        omega
end Go.Idl
