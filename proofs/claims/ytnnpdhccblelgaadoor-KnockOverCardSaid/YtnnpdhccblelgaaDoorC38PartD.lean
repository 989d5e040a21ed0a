/-
  Package frac: size, gcd, pack, Make, Right, Near.
  Package frac: Make, Right.
  frac: Cmp, of small numbers.
-/
import Derived.Test.YtnnpdhccblelgaaDoorC38PartB
namespace Go.Idl
set_option linter.all false
open Go.Proofs
set_option maxHeartbeats 8000000
set_option maxRecDepth 40000

theorem wrapu {n : Int} (h1 : 0 ≤ n) (h2 : n < 18446744073709551616) : IntKind.u64.wrap n = n := by
  simp [IntKind.wrap, IntKind.bits, IntKind.signed]
  omega
theorem wrapu_neg {n : Int} (h1 : -18446744073709551616 ≤ n) (h2 : n < 0) : IntKind.u64.wrap n = n + 18446744073709551616 := by
  simp [IntKind.wrap, IntKind.bits, IntKind.signed]
  omega
theorem wrap64_top {n : Int} (h1 : 9223372036854775808 ≤ n) (h2 : n < 18446744073709551616) : IntKind.i64.wrap n = n - 18446744073709551616 := by
  simp [IntKind.wrap, IntKind.bits, IntKind.signed]
  omega
theorem size_fun (n : Int) (h : -2 ^ 63 ≤ n ∧ n < 2 ^ 63) : FN 52 [.int .i64 n] (fun v => v = .int .u64 (n.natAbs : Nat)) := by
  refine IFun.of_bodyZ false 3 [4] Tryd.func52 rfl Tryd.call52 rfl fun R hR => ?_
  by_cases h0 : n < 0
  · have w1 : IntKind.u64.wrap n = n + 18446744073709551616 := wrapu_neg (by omega) h0
    have w2 : IntKind.u64.wrap (0 - (n + 18446744073709551616)) = (n.natAbs : Nat) := by rw [wrapu_neg (by omega) (by omega)]; omega
    have w3 : IntKind.u64.wrap (-(n + 18446744073709551616)) = (n.natAbs : Nat) := by rw [← w2]; congr 1; omega
    simp [go_sem, h0, w1, w2, w3]
    exact hR _ _ _ rfl (by simp [go_sem])
  · have w1 : IntKind.u64.wrap n = (n.natAbs : Nat) := by rw [wrapu (by omega) (by omega)]; omega
    simp [go_sem, h0, w1]
    exact hR _ _ _ rfl (by simp [go_sem])
theorem gcd_step {a b : Nat} : Nat.gcd b (a % b) = Nat.gcd a b := by rw [Nat.gcd_comm a b, Nat.gcd_rec b a, Nat.gcd_comm]
theorem gcd_fun (a b : Nat) (ha : a < 2 ^ 64) (hb : b < 2 ^ 64) : FN 53 [.int .u64 (a : Int), .int .u64 (b : Int)] (fun v => v = .int .u64 (Nat.gcd a b : Nat)) := by
  refine IFun.of_bodyZ false 5 [6] Tryd.func53 rfl Tryd.call53 rfl fun R hR => ?_
  simp [go_sem]
  refine IWp.loopT (α := Nat × Nat) (fun x => (⟨false, 12, 5, [6], glT, [(0, .int .u64 (x.1 : Int)), (1, .int .u64 (x.2 : Int))], []⟩, []))
    (fun x => x.1 < 2 ^ 64 ∧ x.2 < 2 ^ 64 ∧ Nat.gcd x.1 x.2 = Nat.gcd a b) (fun x => x.2) (a, b) ⟨ha, hb, rfl⟩ (by simp [go_sem]) ?_
  rintro ⟨x, y⟩ ⟨hx, hy, hg⟩
  simp only at hx hy hg
  by_cases h : y = 0
  · subst h
    rw [Nat.gcd_zero_right] at hg
    simp [go_sem]
    exact hR _ _ _ rfl (by simp [go_sem, hg])
  · have h' : ¬ (y : Int) = 0 := by omega
    have e : (x : Int).tmod (y : Int) = ((x % y : Nat) : Int) := by rw [Int.tmod_eq_emod_of_nonneg (by omega)]; exact (Int.natCast_emod x y).symm
    have hlt := Nat.mod_lt x (show 0 < y by omega)
    obtain ⟨z, hz⟩ : ∃ z, x % y = z := ⟨_, rfl⟩
    have hgz : Nat.gcd y z = Nat.gcd a b := by rw [← hz, gcd_step, hg]
    rw [hz] at e hlt
    simp [go_sem, h, h', e]
    exact ⟨by decide +kernel, y, z, ⟨rfl, rfl⟩, ⟨by omega, by omega, hgz⟩, hlt⟩
/-- A fraction. -/
structure Frc where
  num : Int
  den : Int
  deriving DecidableEq
def Frc.c (f : Frc) : List IV := [.int .i64 f.num, .int .i64 f.den]
def Frc.v (f : Frc) : IV := .agg [.int .i64 f.num, .int .i64 f.den]
def packF (m : Bool) (n d : Nat) : Frc × Int := if (if m = true then 9223372036854775808 else 9223372036854775807) < n ∨ 9223372036854775807 < d then (⟨0, 0⟩, 3) else (⟨if m = true then -(n : Int) else n, d⟩, 0)
theorem pack_fun (m : Bool) (n0 n d0 d : Nat) (h0 : n0 < 2 ^ 64) (h1 : n < 2 ^ 64) (h2 : d0 < 2 ^ 64) (h3 : d < 2 ^ 64) : FN 54 [.bool m, .agg [.int .u64 (n0 : Int), .int .u64 (n : Int)], .agg [.int .u64 (d0 : Int), .int .u64 (d : Int)]]
    (fun v => v = .tup [(if n0 ≠ 0 ∨ d0 ≠ 0 then (⟨0, 0⟩ : Frc) else (packF m n d).1).v, .int .i64 (if n0 ≠ 0 ∨ d0 ≠ 0 then 3 else (packF m n d).2)]) := by
  refine IFun.of_bodyZ false 9 [9, 30, 32] Tryd.func54 rfl Tryd.call54 rfl fun R hR => ?_
  have wm : IntKind.u64.wrap 9223372036854775808 = 9223372036854775808 := by decide
  by_cases a0 : n0 = 0
  case neg =>
    have a0' : ¬ (n0 : Int) = 0 := by omega
    cases m
    all_goals
      simp [go_sem, a0, a0', wm]
      exact hR _ _ _ rfl (by simp [go_sem, a0, Frc.v])
  by_cases a1 : (if m = true then 9223372036854775808 else 9223372036854775807) < n
  · have hp : packF m n d = (⟨0, 0⟩, 3) := by unfold packF; rw [if_pos (.inl a1)]
    cases m
    · have a1' : (9223372036854775807 : Int) < n := by simp at a1; omega
      simp [go_sem, a0, a1', wm]
      exact hR _ _ _ rfl (by simp [go_sem, a0, hp, Frc.v])
    · have a1' : (9223372036854775808 : Int) < n := by simp at a1; omega
      simp [go_sem, a0, a1', wm]
      exact hR _ _ _ rfl (by simp [go_sem, a0, hp, Frc.v])
  have b1 : m = false → ¬ (9223372036854775807 : Int) < n := fun e => by subst e; simp at a1; omega
  have b2 : m = true → ¬ (9223372036854775808 : Int) < n := fun e => by subst e; simp at a1; omega
  by_cases a2 : d0 = 0
  case neg =>
    have a2' : ¬ (d0 : Int) = 0 := by omega
    cases m
    · have b := b1 rfl
      simp [go_sem, a0, b, a2, a2', wm]
      exact hR _ _ _ rfl (by simp [go_sem, a2, Frc.v])
    · have b := b2 rfl
      simp [go_sem, a0, b, a2, a2', wm]
      exact hR _ _ _ rfl (by simp [go_sem, a2, Frc.v])
  by_cases a3 : 9223372036854775807 < d
  · have a3' : (9223372036854775807 : Int) < d := by omega
    have hp : packF m n d = (⟨0, 0⟩, 3) := by unfold packF; rw [if_pos (.inr a3)]
    cases m
    · have b := b1 rfl
      simp [go_sem, a0, b, a2, a3', wm]
      exact hR _ _ _ rfl (by simp [go_sem, hp, Frc.v])
    · have b := b2 rfl
      simp [go_sem, a0, b, a2, a3', wm]
      exact hR _ _ _ rfl (by simp [go_sem, hp, Frc.v])
  have a3' : ¬ (9223372036854775807 : Int) < d := by omega
  have w1 : IntKind.i64.wrap (d : Int) = d := wrap64 (by omega) (by omega)
  have hp : packF m n d = (⟨if m = true then -(n : Int) else n, d⟩, 0) := by unfold packF; rw [if_neg (by omega)]
  cases m
  · have b := b1 rfl
    have w2 : IntKind.i64.wrap (n : Int) = n := wrap64 (by omega) (by omega)
    simp [go_sem, a0, b, a2, a3', w1, w2, wm]
    exact hR _ _ _ rfl (by simp [go_sem, a0, a2, hp, Frc.v])
  · have b := b2 rfl
    obtain ⟨z, hz⟩ : ∃ z, IntKind.u64.wrap (0 - (n : Int)) = z := ⟨_, rfl⟩
    have hz' : IntKind.u64.wrap (-(n : Int)) = z := by rw [← hz]; congr 1; omega
    have w2 : IntKind.i64.wrap z = -(n : Int) := by
      by_cases hn : n = 0
      · subst hn; rw [← hz]; decide
      · rw [← hz, wrapu_neg (by omega) (by omega)]
        rw [wrap64_top (by omega) (by omega)]; omega
    simp [go_sem, a0, b, a2, a3', w1, hz, hz', w2, wm]
    exact hR _ _ _ rfl (by simp [go_sem, a0, a2, hp, Frc.v])
end Go.Idl
namespace Go.Idl
set_option linter.all false
open Go.Proofs
set_option maxHeartbeats 8000000
set_option maxRecDepth 40000

def mkF (n d : Int) : Frc × Int := if d = 0 then (⟨0, 0⟩, 2) else packF (decide (n < 0) != decide (d < 0)) (n.natAbs / Nat.gcd n.natAbs d.natAbs) (d.natAbs / Nat.gcd n.natAbs d.natAbs)
theorem makeF_fun (n d : Int) (hn : -2 ^ 63 ≤ n ∧ n < 2 ^ 63) (hd : -2 ^ 63 ≤ d ∧ d < 2 ^ 63) : FN 16 [.int .i64 n, .int .i64 d] (fun v => v = .tup [(mkF n d).1.v, .int .i64 (mkF n d).2]) := by
  refine IFun.of_bodyZ false 9 [10] Tryd.func16 rfl Tryd.call16 rfl fun R hR => ?_
  by_cases h0 : d = 0
  · subst h0
    simp [go_sem]
    exact hR _ _ _ rfl (by simp [go_sem, mkF, Frc.v])
  have c1 := size_fun n hn
  have c2 := size_fun d hd
  have hm : mkF n d = packF (decide (n < 0) != decide (d < 0)) (n.natAbs / Nat.gcd n.natAbs d.natAbs) (d.natAbs / Nat.gcd n.natAbs d.natAbs) := by unfold mkF; rw [if_neg h0]
  obtain ⟨a, ha⟩ : ∃ a, n.natAbs = a := ⟨_, rfl⟩
  obtain ⟨b, hb⟩ : ∃ b, d.natAbs = b := ⟨_, rfl⟩
  have hbp : 0 < b := by omega
  have c3 := gcd_fun a b (by omega) (by omega)
  have hgp := Nat.gcd_pos_of_pos_right a hbp
  have hq1 := Nat.div_le_self a (Nat.gcd a b)
  have hq2 := Nat.div_le_self b (Nat.gcd a b)
  rw [ha, hb] at hm
  rw [ha] at c1
  rw [hb] at c2
  obtain ⟨g, hg⟩ : ∃ g, Nat.gcd a b = g := ⟨_, rfl⟩
  rw [hg] at hm hgp hq1 hq2 c3
  have d1 : (a : Int).tdiv (g : Int) = ((a / g : Nat) : Int) := (Int.tdiv_eq_ediv_of_nonneg (by omega)).trans (Int.natCast_ediv a g).symm
  have d2 : (b : Int).tdiv (g : Int) = ((b / g : Nat) : Int) := (Int.tdiv_eq_ediv_of_nonneg (by omega)).trans (Int.natCast_ediv b g).symm
  obtain ⟨x, hx⟩ : ∃ x, a / g = x := ⟨_, rfl⟩
  obtain ⟨y, hy⟩ : ∃ y, b / g = y := ⟨_, rfl⟩
  rw [hx] at hm d1 hq1
  rw [hy] at hm d2 hq2
  have w1 : IntKind.u64.wrap (x : Int) = x := wrapu (by omega) (by omega)
  have w2 : IntKind.u64.wrap (y : Int) = y := wrapu (by omega) (by omega)
  have hgz : ¬ (g : Int) = 0 := by omega
  have hgz' : ¬ g = 0 := by omega
  have c4 := pack_fun (decide (n < 0) != decide (d < 0)) 0 x 0 y (by omega) (by omega) (by omega) (by omega)
  simp only [ne_eq, not_true_eq_false, or_self, if_false, Frc.v] at c4
  rw [← hm, show ((0 : Nat) : Int) = 0 from rfl] at c4
  simp [go_sem, h0]
  refine c1.callF (by simp [go_sem]) ?_
  rintro _ rfl
  simp [go_sem]
  refine c2.callF (by simp [go_sem]) ?_
  rintro _ rfl
  simp [go_sem]
  refine c3.callF (by simp [go_sem]) ?_
  rintro _ rfl
  simp [go_sem]
  refine Drawn.intro (fun k => if k = 13 then .tup [.agg [.int .i64 (mkF n d).1.num, .int .i64 (mkF n d).1.den], .int .i64 (mkF n d).2] else .tup []) ?_
  generalize mkF n d = F at *
  simp [go_sem, d1, d2, w1, w2, hgz, hgz', c4]
  refine ⟨by decide +kernel, ?_⟩
  exact hR _ _ _ rfl (by simp [go_sem, Frc.v])
def rightB (f : Frc) : Bool := decide (0 < f.den) && Nat.gcd f.num.natAbs f.den.natAbs == 1
theorem right_fun (f : Frc) (hn : -2 ^ 63 ≤ f.num ∧ f.num < 2 ^ 63) (hd : -2 ^ 63 ≤ f.den ∧ f.den < 2 ^ 63) : FN 20 [f.v] (fun v => v = .bool (rightB f)) := by
  refine IFun.of_bodyZ false 3 [] Tryd.func20 rfl Tryd.call20 rfl fun R hR => ?_
  obtain ⟨n, d⟩ := f
  simp only at hn hd
  by_cases h0 : 0 < d
  · have c1 := size_fun n hn
    have c2 := size_fun d hd
    have c3 := gcd_fun n.natAbs d.natAbs (by omega) (by omega)
    have hr : rightB ⟨n, d⟩ = (Nat.gcd n.natAbs d.natAbs == 1) := by unfold rightB; simp [h0]
    generalize n.natAbs = a at *
    generalize d.natAbs = b at *
    generalize Nat.gcd a b = g at *
    simp [go_sem, Frc.v]
    refine Drawn.intro (fun k => if k = 6 then .int .u64 (a : Int) else if k = 9 then .int .u64 (b : Int) else if k = 10 then .int .u64 (g : Int) else .tup []) ?_
    simp [go_sem, h0, c1, c2, c3]
    refine ⟨by decide +kernel, ?_⟩
    refine hR _ _ _ rfl ?_
    simp [go_sem, hr]
    rw [Bool.eq_iff_iff]
    simp
    omega
  · have hr : rightB ⟨n, d⟩ = false := by unfold rightB; simp [h0]
    simp [go_sem, Frc.v]
    refine Drawn.intro (fun k => .tup []) ?_
    simp [go_sem, h0]
    refine ⟨by decide +kernel, ?_⟩
    exact hR _ _ _ rfl (by simp [go_sem, hr])
/-- A fraction in lowest terms, with a sign. -/
def redF (m : Bool) (N D : Nat) : Frc × Int := packF m (N / Nat.gcd N D) (D / Nat.gcd N D)
end Go.Idl
namespace Go.Idl
set_option linter.all false
open Go.Proofs
set_option maxHeartbeats 8000000
set_option maxRecDepth 40000

theorem u64_lo {a : Nat} (ha : a < 2 ^ 32) : bitsOf .and .u64 (a : Int) 4294967295 = (a : Int) := by
  have e : (4294967295 : Int) = ((4294967295 : Nat) : Int) := rfl
  rw [e]
  simp only [bitsOf, BitVec.ofInt_natCast, BitVec.toNat_and, BitVec.toNat_ofNat, show IntKind.u64.bits = 64 from rfl]
  rw [Nat.mod_eq_of_lt (by omega), Nat.mod_eq_of_lt (by omega), show 4294967295 = 2 ^ 32 - 1 from rfl, Nat.and_two_pow_sub_one_eq_mod, Nat.mod_eq_of_lt ha]
  exact wrapu (by omega) (by omega)
theorem mul64_fun (x y : Nat) (hx : x < 2 ^ 31) (hy : y < 2 ^ 31) : FN 75 [.int .u64 (x : Int), .int .u64 (y : Int)] (fun v => v = .tup [.int .u64 0, .int .u64 ((x * y : Nat) : Int)]) := by
  refine IFun.of_bodyZ false 14 [] Tryd.func75 rfl Tryd.call75 rfl fun R hR => ?_
  have hp : x * y < 2 ^ 62 := by
    have := Nat.mul_lt_mul'' hx hy
    omega
  have f1 : (x : Int).fdiv 4294967296 = 0 := by rw [Int.fdiv_eq_ediv_of_nonneg _ (by decide)]; omega
  have f2 : (y : Int).fdiv 4294967296 = 0 := by rw [Int.fdiv_eq_ediv_of_nonneg _ (by decide)]; omega
  have a1 := u64_lo (a := x) (by omega)
  have a2 := u64_lo (a := y) (by omega)
  obtain ⟨p, hpe⟩ : ∃ p : Nat, x * y = p := ⟨_, rfl⟩
  have hpi : (x : Int) * y = p := by rw [← hpe]; simp
  rw [hpe] at hp
  have w1 : IntKind.u64.wrap (p : Int) = p := wrapu (by omega) (by omega)
  obtain ⟨t, hte⟩ : ∃ t : Nat, p / 2 ^ 32 = t := ⟨_, rfl⟩
  have hpt : (p : Int).fdiv 4294967296 = t := by rw [Int.fdiv_eq_ediv_of_nonneg _ (by decide)]; omega
  have a3 := u64_lo (a := t) (by omega)
  have w2 : IntKind.u64.wrap (t : Int) = t := wrapu (by omega) (by omega)
  have f3 : (t : Int).fdiv 4294967296 = 0 := by rw [Int.fdiv_eq_ediv_of_nonneg _ (by decide)]; omega
  have wz : IntKind.u64.wrap 0 = 0 := by decide
  simp [go_sem, f1, f2, a1, a2, hpi, w1, hpt, a3, w2, f3, wz]
  refine hR _ _ _ rfl ?_
  simp [go_sem, ← hpe]
theorem product_fun (x y : Nat) (hx : x < 2 ^ 31) (hy : y < 2 ^ 31) : FN 58 [.int .u64 (x : Int), .int .u64 (y : Int)] (fun v => v = .agg [.int .u64 0, .int .u64 ((x * y : Nat) : Int)]) := by
  refine IFun.of_bodyZ false 7 [] Tryd.func58 rfl Tryd.call58 rfl fun R hR => ?_
  simp [go_sem]
  refine (mul64_fun x y hx hy).callF (by simp [go_sem]) ?_
  rintro _ rfl
  simp [go_sem]
  refine hR _ _ _ rfl ?_
  simp [go_sem]
def ncmp (x y : Nat) : Int := if x < y then -1 else if y < x then 1 else 0
theorem wcmp_fun (x y : Nat) (hx : x < 2 ^ 64) (hy : y < 2 ^ 64) : FN 59 [.agg [.int .u64 0, .int .u64 (x : Int)], .agg [.int .u64 0, .int .u64 (y : Int)]] (fun v => v = .int .i64 (ncmp x y)) := by
  refine IFun.of_bodyZ false 7 [7, 8, 9, 16, 21] Tryd.func59 rfl Tryd.call59 rfl fun R hR => ?_
  simp [go_sem]
  refine IWp.loopT (α := Nat) (fun i => (⟨false, 23, 7, [7, 8, 9, 16, 21], glT, [(3, .ptr 1 1 0 0), (7, .agg [.int .u64 0, .int .u64 (x : Int)]), (8, .int .i64 (i : Int))], []⟩, [.rows 2 [[.int .u64 0, .int .u64 (x : Int)]], .rows 2 [[.int .u64 0, .int .u64 (y : Int)]]]))
    (fun i => i ≤ 2 ∧ (i = 2 → x = y)) (fun i => 2 - i) 0 ⟨by omega, by omega⟩ (by simp [go_sem]) ?_
  rintro i ⟨hi, hxy⟩
  rcases (by omega : i = 0 ∨ i = 1 ∨ i = 2) with rfl | rfl | rfl
  · simp [go_sem]
    exact ⟨1, by decide, by omega⟩
  · by_cases h1 : x < y
    · simp [go_sem, h1]
      exact hR _ _ _ rfl (by simp [go_sem, ncmp, h1])
    · by_cases h2 : y < x
      · simp [go_sem, h1, h2]
        exact hR _ _ _ rfl (by simp [go_sem, ncmp, h1, h2])
      · simp [go_sem, h1, h2]
        exact ⟨2, by decide, by omega⟩
  · obtain rfl := hxy rfl
    simp [go_sem]
    exact hR _ _ _ rfl (by simp [go_sem, ncmp])
/-- The order of two fractions. -/
def cmpI (f g : Frc) : Int := if f.num * g.den < g.num * f.den then -1 else if g.num * f.den < f.num * g.den then 1 else 0
def Sml (f : Frc) : Prop := (-2 ^ 30 ≤ f.num ∧ f.num ≤ 2 ^ 30) ∧ (1 ≤ f.den ∧ f.den ≤ 2 ^ 30) ∧ rightB f = true
theorem cmp_fun (f g : Frc) (hf : Sml f) (hg : Sml g) : FN 21 [f.v, g.v] (fun v => v = .tup [.int .i64 (cmpI f g), .int .i64 0]) := by
  refine IFun.of_bodyZ false 7 [14, 17, 24, 27, 45] Tryd.func21 rfl Tryd.call21 rfl fun R hR => ?_
  obtain ⟨hf1, hf2, hf3⟩ := hf
  obtain ⟨hg1, hg2, hg3⟩ := hg
  have cf := right_fun f (by omega) (by omega)
  have cg := right_fun g (by omega) (by omega)
  rw [hf3] at cf
  rw [hg3] at cg
  obtain ⟨a, b⟩ := f
  obtain ⟨c, d⟩ := g
  simp only [Frc.v] at *
  simp [go_sem]
  refine cf.callF (by simp [go_sem]) ?_
  rintro _ rfl
  simp [go_sem]
  refine cg.callF (by simp [go_sem]) ?_
  rintro _ rfl
  simp [go_sem]
  have hres : cmpI ⟨a, b⟩ ⟨c, d⟩ = if a * d < c * b then -1 else if c * b < a * d then 1 else 0 := rfl
  have sgn : ∀ x y : Int, 1 ≤ y → (x < 0 → x * y < 0) ∧ (0 ≤ x → 0 ≤ x * y) := fun x y hy => ⟨fun h => Int.mul_neg_of_neg_of_pos h (by omega), fun h => Int.mul_nonneg h (by omega)⟩
  split
  · rename_i h
    obtain ⟨rfl, rfl⟩ := h
    exact hR _ _ _ rfl (by simp [go_sem, hres])
  · split
    · rename_i _ hs
      have sa := size_fun a (by omega)
      have sb := size_fun b (by omega)
      have sc := size_fun c (by omega)
      have sd := size_fun d (by omega)
      have p1 := product_fun a.natAbs d.natAbs (by omega) (by omega)
      have p2 := product_fun c.natAbs b.natAbs (by omega) (by omega)
      have q1 : a.natAbs * d.natAbs < 2 ^ 62 := by
        have := Nat.mul_lt_mul'' (show a.natAbs < 2 ^ 31 by omega) (show d.natAbs < 2 ^ 31 by omega)
        omega
      have q2 : c.natAbs * b.natAbs < 2 ^ 62 := by
        have := Nat.mul_lt_mul'' (show c.natAbs < 2 ^ 31 by omega) (show b.natAbs < 2 ^ 31 by omega)
        omega
      have p3 := wcmp_fun (a.natAbs * d.natAbs) (c.natAbs * b.natAbs) (by omega) (by omega)
      have r1 : ((a.natAbs * d.natAbs : Nat) : Int) = if a < 0 then -(a * d) else a * d := by
        rw [Int.natCast_mul, show (d.natAbs : Int) = d by omega]
        split
        · rw [show (a.natAbs : Int) = -a by omega, Int.neg_mul]
        · rw [show (a.natAbs : Int) = a by omega]
      have r2 : ((c.natAbs * b.natAbs : Nat) : Int) = if a < 0 then -(c * b) else c * b := by
        rw [Int.natCast_mul, show (b.natAbs : Int) = b by omega]
        split
        · rw [show (c.natAbs : Int) = -c by omega, Int.neg_mul]
        · rw [show (c.natAbs : Int) = c by omega]
      generalize a.natAbs * d.natAbs = P1 at *
      generalize c.natAbs * b.natAbs = P2 at *
      have hn : ncmp P1 P2 = if a < 0 then -cmpI ⟨a, b⟩ ⟨c, d⟩ else cmpI ⟨a, b⟩ ⟨c, d⟩ := by
        rw [hres]
        unfold ncmp
        generalize a * d = u at *
        generalize c * b = v at *
        by_cases ha : a < 0
        · rw [if_pos ha] at r1 r2 ⊢
          split <;> split <;> (try split) <;> omega
        · rw [if_neg ha] at r1 r2 ⊢
          split <;> split <;> (try split) <;> omega
      have hcb : -1 ≤ cmpI ⟨a, b⟩ ⟨c, d⟩ ∧ cmpI ⟨a, b⟩ ⟨c, d⟩ ≤ 1 := by rw [hres]; split <;> (try split) <;> omega
      generalize cmpI ⟨a, b⟩ ⟨c, d⟩ = V at *
      refine Drawn.intro (fun k => if k = 2 then .int .u64 (a.natAbs : Nat) else if k = 5 then .int .u64 (d.natAbs : Nat) else if k = 6 then .agg [.int .u64 0, .int .u64 (P1 : Int)] else if k = 9 then .int .u64 (c.natAbs : Nat) else if k = 12 then .int .u64 (b.natAbs : Nat) else if k = 13 then .agg [.int .u64 0, .int .u64 (P2 : Int)] else if k = 14 then .int .i64 (ncmp P1 P2) else .tup []) ?_
      generalize ncmp P1 P2 = N at *
      simp [go_sem, sa, sb, sc, sd, p1, p2, p3]
      refine ⟨by decide +kernel, ?_⟩
      by_cases ha : a < 0
      · rw [if_pos ha] at hn
        have w1 : IntKind.i64.wrap (-N) = -N := wrap64 (by omega) (by omega)
        simp [go_sem, ha, w1]
        exact hR _ _ _ rfl (by simp [go_sem]; omega)
      · rw [if_neg ha] at hn
        simp [go_sem, ha]
        exact hR _ _ _ rfl (by simp [go_sem]; omega)
    · have s1 := sgn a d (by omega)
      have s2 := sgn c b (by omega)
      split
      · exact hR _ _ _ rfl (by simp [go_sem, hres]; omega)
      · exact hR _ _ _ rfl (by simp [go_sem, hres]; omega)
end Go.Idl
