import Derived.Test.YtjaefodhiegmmaaC26nC
import Derived.Test.YtjaefodhiegmmaaC26nD
namespace Go.Idl
set_option linter.all false
open Go.Proofs
set_option maxHeartbeats 1000000
set_option maxRecDepth 20000

def bx (n : Int) : IV := .fptr 1 [[.int .i64 n]] 0 0
theorem powers_fun (b p : Int) : IFun true Try.prog [] 35 [.int .i64 b, .int .i64 p] (fun v => v = .func (.func 41) [] [bx b, bx p]) := by
  refine IFun.of_bodyF false 5 [] Try.func35 rfl Try.call35 rfl fun R hR => ?_
  simp [go_sem]
  refine hR _ _ ?_
  simp [go_sem, bx]

theorem powers1 (b p : Int) (hp : 0 < p) (hp2 : p ≤ 2 ^ 31) (hb : 0 ≤ b) (hb2 : b ≤ 2 ^ 31) (l : Nat) (I : Nat → Heap → Prop) (K : Heap → Prop) (N : Nat) (hN : ∀ n σ, I n σ → n < N) (hN2 : N < 2 ^ 62) (σ : Heap) (h0 : I 0 σ)
    (hY : ∀ n σ, I n σ → YCalls Try.prog [] l [.int .i64 n, .int .i64 (powI b p n)] σ fun r σ' => (r = .bool true ∧ I (n + 1) σ') ∨ (r = .bool false ∧ K σ')) :
    ICalls Try.prog [] 41 [.func (.yield l) [] [], bx b, bx p] σ fun _ σ' => K σ' := by
  refine ICalls.of_bodyE false 6 [9] Try.func41 rfl Try.call41 rfl fun R hR => ?_
  simp [go_sem, bx]
  refine IWp.loopE (α := Nat × Heap) (fun x => (⟨false, 17, 6, [9], [], [(0, .func (.yield l) [] []), (1, .fptr 1 [[.int .i64 b]] 0 0), (2, .fptr 1 [[.int .i64 p]] 0 0), (4, .int .i64 (powI b p x.1)), (5, .int .i64 x.1)], []⟩, x.2)) (fun x => I x.1 x.2) (fun x => N - x.1) (0, σ) h0 (by simp [go_sem, powI]) ?_
  rintro ⟨n, σ⟩ hI
  simp only at hI
  have hn := hN n σ hI
  have hbd := powI_bd (w := b) hp hb n
  have h0 : 0 ≤ powI b p n * b := Int.mul_nonneg hbd.1 hb
  have h1 : powI b p n * b ≤ 2 ^ 31 * 2 ^ 31 := Int.mul_le_mul (by omega) hb2 hb (by omega)
  simp [go_sem]
  refine (hY n σ hI).mono ?_
  rintro r σ' (⟨rfl, hI'⟩ | ⟨rfl, hK⟩)
  · simp [go_sem, hasP3, sizeP3, aggP3]
    refine ⟨by omega, n + 1, σ', ⟨⟨?_, ?_⟩, rfl⟩, hI', by omega⟩
    · rw [wrap64 (by omega) (by omega)]; rfl
    · rw [wrap64 (by omega) (by omega)]; rfl
  · simp [go_sem]
    exact hR _ _ hK

/-- The least exponent from 1 on with power 1. -/
def OrdI (b p : Int) (k : Nat) : Prop := 0 < k ∧ powI b p k = 1 ∧ ∀ j, 0 < j → j < k → powI b p j ≠ 1

theorem order_fun (b p : Int) (hp : 0 < p) (hp2 : p ≤ 2 ^ 31) (hb : 0 ≤ b) (hb2 : b ≤ 2 ^ 31) (k : Nat) (hk : OrdI b p k) (hk2 : k < 2 ^ 60) : IFun true Try.prog [] 37 [.int .i64 b, .int .i64 p] (fun v => v = .int .i64 k) := by
  refine IFun.of_bodyF false 7 [9, 10, 11, 17] Try.func37 rfl Try.call37 rfl fun R hR => ?_
  simp [go_sem]
  refine (powers_fun b p).callM (by simp [go_sem]) ?_
  rintro _ rfl
  simp [go_sem]
  refine IWp.rangeFunc (g := 41) (cap := [bx b, bx p]) (by simp [go_sem]) (by simp [go_sem]) fun l r h1 h2 h3 h4 h5 => ?_
  obtain ⟨e, he⟩ : ∃ e : Env, e = ⟨false, 19, 7, [9, 10, 11, 17], [], [(0, .int .i64 b), (1, .int .i64 p), (4, .ptr 0 1 0 0), (9, .func (.func 41) [] [bx b, bx p])], []⟩ := ⟨_, rfl⟩
  rw [← he, show e.gl = [] by rw [he]]
  refine (powers1 b p hp hp2 hb hb2 l (fun n σ' => n ≤ k ∧ σ' = [.rows 1 [[.int .i64 0]], .yrec l r e]) (fun σ' => σ' = [.rows 1 [[.int .i64 k]], .yrec l { r with state := .done, pending := some .ret } e]) (k + 1) (fun n σ h => by omega) (by omega) _ ⟨by omega, rfl⟩ ?_).mono ?_
  · rintro n σ ⟨hn, rfl⟩
    refine YCalls.roundE 1 h1 h2 h3 h4 h5 rfl rfl ?_
    rw [he]
    by_cases hnk : n = k
    · simp [go_sem]
      rw [if_pos ⟨by have := hk.1; omega, by rw [hnk]; exact hk.2.1⟩, hnk]
    · simp [go_sem]
      rw [if_neg fun h => hk.2.2 n h.1 (by omega) h.2]
      omega
  · rintro _ _ rfl
    simp [go_sem, he]
    refine hR _ _ ?_
    simp [go_sem]

theorem Root_fun (p : Int) (g : Int) (hg : 3 ≤ p → p ≤ 1000 → PrimeOK p → 2 ≤ g ∧ g < p ∧ (∃ k : Nat, OrdI g p k ∧ (k : Int) = p - 1) ∧ ∀ b, 2 ≤ b → b < g → ∃ k : Nat, OrdI b p k ∧ k < 2000 ∧ (k : Int) ≠ p - 1) :
    IFun true Try.prog [] 22 [.int .i64 p] (fun v => (v = .tup [.int .i64 g, .int .i64 0] ∧ 3 ≤ p ∧ p ≤ 1000 ∧ PrimeOK p) ∨ (v = .tup [.int .i64 0, .int .i64 2] ∧ ¬ (3 ≤ p ∧ p ≤ 1000 ∧ PrimeOK p))) := by
  refine IFun.of_bodyF false 5 [15, 18, 26] Try.func22 rfl Try.call22 rfl fun R hR => ?_
  simp [go_sem]
  split
  case isFalse h3 =>
    refine ⟨by omega, by omega, hR _ _ ?_⟩
    simp [go_sem]
    omega
  rename_i h3
  refine ⟨h3, (isPrime_fun p (by omega)).callM (by simp [go_sem]) ?_⟩
  rintro _ ⟨b, rfl, hb⟩
  have hb' : b = true ↔ PrimeOK p := hb
  simp [go_sem, h3.1, h3.2]
  split
  case isTrue hbf =>
    refine hR _ _ ?_
    simp [go_sem]
    intro _ _ hpr
    have := hb'.2 hpr
    rw [this] at hbf
    rcases hbf with hbf | hbf
    · omega
    · cases hbf
  rename_i hbt
  have hpr : PrimeOK p := hb'.1 (by simpa [h3.1, h3.2] using hbt)
  obtain ⟨g1, g2, ⟨k, gk, gk2⟩, gb⟩ := hg h3.1 h3.2 hpr
  refine IWp.loopE (α := Int) (fun x => (⟨false, 28, 5, [15, 18, 26], [], [(0, .int .i64 p), (4, .int .i64 x)], []⟩, [])) (fun x => 2 ≤ x ∧ x ≤ g) (fun x => (g - x).toNat) 2 ⟨by omega, by omega⟩ (by simp [go_sem]) ?_
  rintro x ⟨hx, hx2⟩
  have hxp : x < p := by omega
  by_cases hxg : x = g
  · subst hxg
    simp [go_sem, hxp]
    refine (order_fun x p (by omega) (by omega) (by omega) (by omega) k gk (by omega)).callM (by simp [go_sem]) ?_
    rintro _ rfl
    simp [go_sem]
    refine ⟨by rw [wrap64 (by omega) (by omega)]; omega, hR _ _ ?_⟩
    simp [go_sem]
    exact ⟨h3.1, h3.2, hpr⟩
  · obtain ⟨k, gk, gk2, gk3⟩ := gb x hx (by omega)
    simp [go_sem, hxp]
    refine (order_fun x p (by omega) (by omega) (by omega) (by omega) k gk (by omega)).callM (by simp [go_sem]) ?_
    rintro _ rfl
    simp [go_sem]
    rw [wrap64 (by omega) (by omega), wrap64 (by omega) (by omega), if_neg gk3]
    omega
end Go.Idl
