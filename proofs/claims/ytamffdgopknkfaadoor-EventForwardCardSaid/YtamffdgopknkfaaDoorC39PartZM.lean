/-
  Package frac: Make, Right.
  frac: Cmp, of small numbers.
  frac: products of any numbers.
-/
import Derived.Test.YtamffdgopknkfaaDoorC39PartQ
import Derived.Lib.Mul64
namespace Go.Idl
set_option linter.all false
open Go.Proofs
set_option maxHeartbeats 8000000
set_option maxRecDepth 40000

def mkF (n d : Int) : Frc × Int := if d = 0 then (⟨0, 0⟩, 2) else packF (decide (n < 0) != decide (d < 0)) (n.natAbs / Nat.gcd n.natAbs d.natAbs) (d.natAbs / Nat.gcd n.natAbs d.natAbs)
theorem makeF_fun (n d : Int) (hn : -2 ^ 63 ≤ n ∧ n < 2 ^ 63) (hd : -2 ^ 63 ≤ d ∧ d < 2 ^ 63) : FN 26 [.int .i64 n, .int .i64 d] (fun v => v = .tup [(mkF n d).1.v, .int .i64 (mkF n d).2]) := by
  refine IFun.of_bodyZ false 9 [10] Tryd.func26 rfl Tryd.call26 rfl fun R hR => ?_
  by_cases h0 : d = 0
  · subst h0
    simp [go_sem]
    exact hR _ _ _ rfl (by simp [go_sem, mkF, Frc.v])
  have c1 := size_fun n hn
  have c2 := size_fun d hd
  have hm : mkF n d = packF (decide (n < 0) != decide (d < 0)) (n.natAbs / Nat.gcd n.natAbs d.natAbs) (d.natAbs / Nat.gcd n.natAbs d.natAbs) := by unfold mkF; rw [if_neg h0]
  obtain ⟨a, ha⟩ : ∃ a, n.natAbs = a := ⟨_, rfl⟩
  obtain ⟨b, hb⟩ : ∃ b, d.natAbs = b := ⟨_, rfl⟩
  have hbp : 0 < b := by omega
  have c3 := gcd_fun a b (by omega) (by omega)
  have hgp := Nat.gcd_pos_of_pos_right a hbp
  have hq1 := Nat.div_le_self a (Nat.gcd a b)
  have hq2 := Nat.div_le_self b (Nat.gcd a b)
  rw [ha, hb] at hm
  rw [ha] at c1
  rw [hb] at c2
  obtain ⟨g, hg⟩ : ∃ g, Nat.gcd a b = g := ⟨_, rfl⟩
  rw [hg] at hm hgp hq1 hq2 c3
  have d1 : (a : Int).tdiv (g : Int) = ((a / g : Nat) : Int) := (Int.tdiv_eq_ediv_of_nonneg (by omega)).trans (Int.natCast_ediv a g).symm
  have d2 : (b : Int).tdiv (g : Int) = ((b / g : Nat) : Int) := (Int.tdiv_eq_ediv_of_nonneg (by omega)).trans (Int.natCast_ediv b g).symm
  obtain ⟨x, hx⟩ : ∃ x, a / g = x := ⟨_, rfl⟩
  obtain ⟨y, hy⟩ : ∃ y, b / g = y := ⟨_, rfl⟩
  rw [hx] at hm d1 hq1
  rw [hy] at hm d2 hq2
  have w1 : IntKind.u64.wrap (x : Int) = x := wrapu (by omega) (by omega)
  have w2 : IntKind.u64.wrap (y : Int) = y := wrapu (by omega) (by omega)
  have hgz : ¬ (g : Int) = 0 := by omega
  have hgz' : ¬ g = 0 := by omega
  have c4 := pack_fun (decide (n < 0) != decide (d < 0)) 0 x 0 y (by omega) (by omega) (by omega) (by omega)
  simp only [ne_eq, not_true_eq_false, or_self, if_false, Frc.v] at c4
  rw [← hm, show ((0 : Nat) : Int) = 0 from rfl] at c4
  simp [go_sem, h0]
  refine c1.callF (by simp [go_sem]) ?_
  rintro _ rfl
  simp [go_sem]
  refine c2.callF (by simp [go_sem]) ?_
  rintro _ rfl
  simp [go_sem]
  refine c3.callF (by simp [go_sem]) ?_
  rintro _ rfl
  simp [go_sem]
  refine Drawn.intro (fun k => if k = 13 then .tup [.agg [.int .i64 (mkF n d).1.num, .int .i64 (mkF n d).1.den], .int .i64 (mkF n d).2] else .tup []) ?_
  generalize mkF n d = F at *
  simp [go_sem, d1, d2, w1, w2, hgz, hgz', c4]
  refine ⟨by decide +kernel, ?_⟩
  exact hR _ _ _ rfl (by simp [go_sem, Frc.v])
def rightB (f : Frc) : Bool := decide (0 < f.den) && Nat.gcd f.num.natAbs f.den.natAbs == 1
theorem right_fun (f : Frc) (hn : -2 ^ 63 ≤ f.num ∧ f.num < 2 ^ 63) (hd : -2 ^ 63 ≤ f.den ∧ f.den < 2 ^ 63) : FN 60 [f.v] (fun v => v = .bool (rightB f)) := by
  refine IFun.of_bodyZ false 3 [] Tryd.func60 rfl Tryd.call60 rfl fun R hR => ?_
  obtain ⟨n, d⟩ := f
  simp only at hn hd
  by_cases h0 : 0 < d
  · have c1 := size_fun n hn
    have c2 := size_fun d hd
    have c3 := gcd_fun n.natAbs d.natAbs (by omega) (by omega)
    have hr : rightB ⟨n, d⟩ = (Nat.gcd n.natAbs d.natAbs == 1) := by unfold rightB; simp [h0]
    generalize n.natAbs = a at *
    generalize d.natAbs = b at *
    generalize Nat.gcd a b = g at *
    simp [go_sem, Frc.v]
    refine Drawn.intro (fun k => if k = 6 then .int .u64 (a : Int) else if k = 9 then .int .u64 (b : Int) else if k = 10 then .int .u64 (g : Int) else .tup []) ?_
    simp [go_sem, h0, c1, c2, c3]
    refine ⟨by decide +kernel, ?_⟩
    refine hR _ _ _ rfl ?_
    simp [go_sem, hr]
    rw [Bool.eq_iff_iff]
    simp
    omega
  · have hr : rightB ⟨n, d⟩ = false := by unfold rightB; simp [h0]
    simp [go_sem, Frc.v]
    refine Drawn.intro (fun k => .tup []) ?_
    simp [go_sem, h0]
    refine ⟨by decide +kernel, ?_⟩
    exact hR _ _ _ rfl (by simp [go_sem, hr])
/-- A fraction in lowest terms, with a sign. -/
def redF (m : Bool) (N D : Nat) : Frc × Int := packF m (N / Nat.gcd N D) (D / Nat.gcd N D)
end Go.Idl
namespace Go.Idl
set_option linter.all false
open Go.Proofs
set_option maxHeartbeats 8000000
set_option maxRecDepth 40000

def ncmp (x y : Nat) : Int := if x < y then -1 else if y < x then 1 else 0
/-- The order of two fractions. -/
def cmpI (f g : Frc) : Int := if f.num * g.den < g.num * f.den then -1 else if g.num * f.den < f.num * g.den then 1 else 0
def Sml (f : Frc) : Prop := (-2 ^ 30 ≤ f.num ∧ f.num ≤ 2 ^ 30) ∧ (1 ≤ f.den ∧ f.den ≤ 2 ^ 30) ∧ rightB f = true
end Go.Idl
namespace Go.Idl
set_option linter.all false
open Go.Proofs
set_option maxHeartbeats 8000000
set_option maxRecDepth 40000

theorem u64_low {a : Nat} (ha : a < 18446744073709551616) : bitsOf .and .u64 (a : Int) 4294967295 = ((a % 4294967296 : Nat) : Int) := by
  have e : (4294967295 : Int) = ((4294967295 : Nat) : Int) := rfl
  rw [e]
  simp only [bitsOf, BitVec.ofInt_natCast, BitVec.toNat_and, BitVec.toNat_ofNat, show IntKind.u64.bits = 64 from rfl]
  rw [Nat.mod_eq_of_lt (by omega), Nat.mod_eq_of_lt (by omega), show 4294967295 = 2 ^ 32 - 1 from rfl, Nat.and_two_pow_sub_one_eq_mod]
  exact wrapu (by omega) (by omega)
theorem fdiv32 (a : Nat) : (a : Int).fdiv 4294967296 = ((a / 4294967296 : Nat) : Int) := by rw [Int.fdiv_eq_ediv_of_nonneg _ (by decide)]; omega
theorem wrapuN (a : Nat) : IntKind.u64.wrap (a : Int) = ((a % 18446744073709551616 : Nat) : Int) := by
  simp [IntKind.wrap, IntKind.bits, IntKind.signed]
theorem mul64G_fun (x y : Nat) (hx : x < 18446744073709551616) (hy : y < 18446744073709551616) : FN 82 [.int .u64 (x : Int), .int .u64 (y : Int)] (fun v => v = .tup [.int .u64 ((x * y / 18446744073709551616 : Nat) : Int), .int .u64 ((x * y % 18446744073709551616 : Nat) : Int)]) := by
  refine IFun.of_bodyZ false 14 [] Tryd.func82 rfl Tryd.call82 rfl fun R hR => ?_
  obtain ⟨bd, bt, bw, hhi⟩ := Go.Lib.mul64_hi x y hx hy
  have ba := Go.Lib.half_mul_le (a := x / 4294967296) (b := y / 4294967296) (by omega) (by omega)
  have bb := Go.Lib.half_mul_le (a := x / 4294967296) (b := y % 4294967296) (by omega) (by omega)
  have bc := Go.Lib.half_mul_le (a := x % 4294967296) (b := y / 4294967296) (by omega) (by omega)
  have a1 := u64_low hx
  have a2 := u64_low hy
  have f1 := fdiv32 x
  have f2 := fdiv32 y
  have hx32 : x / 4294967296 < 18446744073709551616 := by omega
  have hy32 : y / 4294967296 < 18446744073709551616 := by omega
  have hlt : x * y / 18446744073709551616 < 18446744073709551616 := Nat.div_lt_of_lt_mul (Nat.mul_lt_mul'' hx hy)
  obtain ⟨lo, hlo⟩ : ∃ p : Nat, x * y % 18446744073709551616 = p := ⟨_, rfl⟩
  have hxy : IntKind.u64.wrap ((x : Int) * y) = lo := by rw [← Int.natCast_mul, wrapuN, hlo]
  obtain ⟨hi, hhe⟩ : ∃ p : Nat, x * y / 18446744073709551616 = p := ⟨_, rfl⟩
  rw [hhe] at hhi hlt hR
  rw [hlo] at hR
  generalize x / 4294967296 = x1 at *
  generalize x % 4294967296 = x0 at *
  generalize y / 4294967296 = y1 at *
  generalize y % 4294967296 = y0 at *
  have w0 : IntKind.u64.wrap ((x0 : Int) * y0) = ((x0 * y0 : Nat) : Int) := by rw [← Int.natCast_mul, wrapu (by omega) (by omega)]
  have w1 : IntKind.u64.wrap ((x1 : Int) * y0) = ((x1 * y0 : Nat) : Int) := by rw [← Int.natCast_mul, wrapu (by omega) (by omega)]
  have w2 : IntKind.u64.wrap ((x0 : Int) * y1) = ((x0 * y1 : Nat) : Int) := by rw [← Int.natCast_mul, wrapu (by omega) (by omega)]
  have w3 : IntKind.u64.wrap ((x1 : Int) * y1) = ((x1 * y1 : Nat) : Int) := by rw [← Int.natCast_mul, wrapu (by omega) (by omega)]
  generalize x0 * y0 = A at *
  generalize x1 * y0 = B at *
  generalize x0 * y1 = C at *
  generalize x1 * y1 = D at *
  have f3 := fdiv32 A
  have hA1 : A / 4294967296 < 18446744073709551616 := by omega
  generalize A / 4294967296 = A1 at *
  have v1 : IntKind.u64.wrap ((B : Int) + A1) = ((B + A1 : Nat) : Int) := by rw [← Int.natCast_add, wrapu (by omega) (by omega)]
  have va : IntKind.u64.wrap (A1 : Int) = A1 := wrapu (by omega) (by omega)
  have a3 := u64_low bt
  have f4 := fdiv32 (B + A1)
  generalize B + A1 = T at *
  have hT1 : T / 4294967296 < 18446744073709551616 := by omega
  have hT0 : T % 4294967296 < 4294967296 := by omega
  generalize T / 4294967296 = T1 at *
  generalize T % 4294967296 = T0 at *
  have vt : IntKind.u64.wrap (T1 : Int) = T1 := wrapu (by omega) (by omega)
  have v2 : IntKind.u64.wrap ((T0 : Int) + C) = ((T0 + C : Nat) : Int) := by rw [← Int.natCast_add, wrapu (by omega) (by omega)]
  have f5 := fdiv32 (T0 + C)
  generalize T0 + C = U at *
  have hU1 : U / 4294967296 < 18446744073709551616 := by omega
  generalize U / 4294967296 = U1 at *
  have vu : IntKind.u64.wrap (U1 : Int) = U1 := wrapu (by omega) (by omega)
  have v3 : IntKind.u64.wrap ((D : Int) + T1) = ((D + T1 : Nat) : Int) := by rw [← Int.natCast_add, wrapu (by omega) (by omega)]
  have v4 : IntKind.u64.wrap (((D + T1 : Nat) : Int) + U1) = hi := by rw [← Int.natCast_add, wrapu (by omega) (by omega)]; omega
  have vx : IntKind.u64.wrap (x1 : Int) = x1 := wrapu (by omega) (by omega)
  have vy : IntKind.u64.wrap (y1 : Int) = y1 := wrapu (by omega) (by omega)
  simp only [Int.natCast_add] at v3 v4
  simp [go_sem, f1, f2, a1, a2, vx, vy, w0, f3, va, w1, v1, a3, f4, vt, w2, v2, f5, vu, w3, v3, v4, hxy]
  refine hR _ _ _ rfl ?_
  simp [go_sem]
theorem productG_fun (x y : Nat) (hx : x < 18446744073709551616) (hy : y < 18446744073709551616) : FN 62 [.int .u64 (x : Int), .int .u64 (y : Int)] (fun v => v = .agg [.int .u64 ((x * y / 18446744073709551616 : Nat) : Int), .int .u64 ((x * y % 18446744073709551616 : Nat) : Int)]) := by
  refine IFun.of_bodyZ false 7 [] Tryd.func62 rfl Tryd.call62 rfl fun R hR => ?_
  have c := mul64G_fun x y hx hy
  generalize x * y / 18446744073709551616 = a at *
  generalize x * y % 18446744073709551616 = b at *
  simp [go_sem]
  refine c.callF (by simp [go_sem]) ?_
  rintro _ rfl
  simp [go_sem]
  refine hR _ _ _ rfl ?_
  simp [go_sem]
/-- A number of two words. -/
def wv (N : Nat) : IV := .agg [.int .u64 ((N / 18446744073709551616 : Nat) : Int), .int .u64 ((N % 18446744073709551616 : Nat) : Int)]
def nCmp (x y : Nat) : Int := if x < y then -1 else if y < x then 1 else 0
theorem wcmpG_fun (x y : Nat) : FN 63 [wv x, wv y] (fun v => v = .int .i64 (nCmp x y)) := by
  refine IFun.of_bodyZ false 7 [7, 8, 9, 16, 21] Tryd.func63 rfl Tryd.call63 rfl fun R hR => ?_
  unfold wv
  have ex := Nat.div_add_mod x 18446744073709551616
  have ey := Nat.div_add_mod y 18446744073709551616
  have lx := Nat.mod_lt x (show 18446744073709551616 > 0 by decide)
  have ly := Nat.mod_lt y (show 18446744073709551616 > 0 by decide)
  generalize x / 18446744073709551616 = x1 at *
  generalize x % 18446744073709551616 = x0 at *
  generalize y / 18446744073709551616 = y1 at *
  generalize y % 18446744073709551616 = y0 at *
  simp [go_sem]
  refine IWp.loopT (α := Nat) (fun i => (⟨false, 23, 7, [7, 8, 9, 16, 21], glT, [(3, .ptr 1 1 0 0), (7, .agg [.int .u64 (x1 : Int), .int .u64 (x0 : Int)]), (8, .int .i64 (i : Int))], []⟩, [.rows 2 [[.int .u64 (x1 : Int), .int .u64 (x0 : Int)]], .rows 2 [[.int .u64 (y1 : Int), .int .u64 (y0 : Int)]]]))
    (fun i => i ≤ 2 ∧ (1 ≤ i → x1 = y1) ∧ (i = 2 → x0 = y0)) (fun i => 2 - i) 0 ⟨by omega, by omega, by omega⟩ (by simp [go_sem]) ?_
  rintro i ⟨hi, hxy1, hxy0⟩
  rcases (by omega : i = 0 ∨ i = 1 ∨ i = 2) with rfl | rfl | rfl
  · by_cases h1 : x1 < y1
    · have e : nCmp x y = -1 := by unfold nCmp; rw [if_pos (by omega)]
      simp [go_sem, h1]
      exact hR _ _ _ rfl (by simp [go_sem, e])
    · by_cases h2 : y1 < x1
      · have e : nCmp x y = 1 := by unfold nCmp; rw [if_neg (by omega), if_pos (by omega)]
        simp [go_sem, h1, h2]
        exact hR _ _ _ rfl (by simp [go_sem, e])
      · simp [go_sem, h1, h2]
        exact ⟨1, by decide, by omega⟩
  · have := hxy1 (by omega)
    by_cases h1 : x0 < y0
    · have e : nCmp x y = -1 := by unfold nCmp; rw [if_pos (by omega)]
      simp [go_sem, h1]
      exact hR _ _ _ rfl (by simp [go_sem, e])
    · by_cases h2 : y0 < x0
      · have e : nCmp x y = 1 := by unfold nCmp; rw [if_neg (by omega), if_pos (by omega)]
        simp [go_sem, h1, h2]
        exact hR _ _ _ rfl (by simp [go_sem, e])
      · simp [go_sem, h1, h2]
        exact ⟨2, by decide, by omega, by omega⟩
  · have := hxy1 (by omega)
    have := hxy0 rfl
    have e : nCmp x y = 0 := by unfold nCmp; rw [if_neg (by omega), if_neg (by omega)]
    simp [go_sem]
    exact hR _ _ _ rfl (by simp [go_sem, e])
end Go.Idl
