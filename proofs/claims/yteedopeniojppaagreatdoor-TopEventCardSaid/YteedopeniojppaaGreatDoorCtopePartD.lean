import Derived.Test.YteedopeniojppaaGreatDoorCtopePartC
import Derived.Lib.Mul64
import Derived.Test.YteedopeniojppaaGreatDoorIdlPartK
set_option linter.all false
set_option maxHeartbeats 8000000
set_option maxRecDepth 40000
namespace Go.Idl
open Go.Proofs
theorem wrapu {n : Int} (h1 : 0 ≤ n) (h2 : n < 18446744073709551616) : IntKind.u64.wrap n = n := by
 simp [IntKind.wrap, IntKind.bits, IntKind.signed]
 omega
theorem wrapu_neg {n : Int} (h1 : -18446744073709551616 ≤ n) (h2 : n < 0) : IntKind.u64.wrap n = n + 18446744073709551616 := by
 simp [IntKind.wrap, IntKind.bits, IntKind.signed]
 omega
theorem wrap64_top {n : Int} (h1 : 9223372036854775808 ≤ n) (h2 : n < 18446744073709551616) : IntKind.i64.wrap n = n - 18446744073709551616 := by
 simp [IntKind.wrap, IntKind.bits, IntKind.signed]
 omega
theorem size_fun (n : Int) (h : -2 ^ 63 ≤ n ∧ n < 2 ^ 63) : FN 77 [.int .i64 n] (fun v => v = .int .u64 (n.natAbs : Nat)) := by
 refine IFun.of_bodyZ false 3 [4] Tryz.func77 rfl Tryz.call77 rfl fun R hR => ?_
 by_cases h0 : n < 0
 ·have w1 : IntKind.u64.wrap n = n + 18446744073709551616 := wrapu_neg (by omega) h0
  have w2 : IntKind.u64.wrap (0 - (n + 18446744073709551616)) = (n.natAbs : Nat) := by rw [wrapu_neg (by omega) (by omega)]; omega
  have w3 : IntKind.u64.wrap (-(n + 18446744073709551616)) = (n.natAbs : Nat) := by rw [← w2]; congr 1; omega
  simp [go_sem, h0, w1, w2, w3]
  exact hR _ _ _ rfl (by simp [go_sem])
 ·have w1 : IntKind.u64.wrap n = (n.natAbs : Nat) := by rw [wrapu (by omega) (by omega)]; omega
  simp [go_sem, h0, w1]
  exact hR _ _ _ rfl (by simp [go_sem])
theorem gcd_step {a b : Nat} : Nat.gcd b (a % b) = Nat.gcd a b := by rw [Nat.gcd_comm a b, Nat.gcd_rec b a, Nat.gcd_comm]
theorem gcd_fun (a b : Nat) (ha : a < 2 ^ 64) (hb : b < 2 ^ 64) : FN 76 [.int .u64 (a : Int), .int .u64 (b : Int)] (fun v => v = .int .u64 (Nat.gcd a b : Nat)) := by
 refine IFun.of_bodyZ false 5 [6] Tryz.func76 rfl Tryz.call76 rfl fun R hR => ?_
 simp [go_sem]
 refine IWp.loopT (α := Nat × Nat) (fun x => (⟨false, 12, 5, [6], glT, [(0, .int .u64 (x.1 : Int)), (1, .int .u64 (x.2 : Int))], []⟩, []))
  (fun x => x.1 < 2 ^ 64 ∧ x.2 < 2 ^ 64 ∧ Nat.gcd x.1 x.2 = Nat.gcd a b) (fun x => x.2) (a, b) ⟨ha, hb, rfl⟩ (by simp [go_sem]) ?_
 rintro ⟨x, y⟩ ⟨hx, hy, hg⟩
 simp only at hx hy hg
 by_cases h : y = 0
 ·subst h
  rw [Nat.gcd_zero_right] at hg
  simp [go_sem]
  exact hR _ _ _ rfl (by simp [go_sem, hg])
 ·have h' : ¬ (y : Int) = 0 := by omega
  have e : (x : Int).tmod (y : Int) = ((x % y : Nat) : Int) := by rw [Int.tmod_eq_emod_of_nonneg (by omega)]; exact (Int.natCast_emod x y).symm
  have hlt := Nat.mod_lt x (show 0 < y by omega)
  obtain ⟨z, hz⟩ : ∃ z, x % y = z := ⟨_, rfl⟩
  have hgz : Nat.gcd y z = Nat.gcd a b := by rw [← hz, gcd_step, hg]
  rw [hz] at e hlt
  simp [go_sem, h, h', e]
  exact ⟨by decide +kernel, y, z, ⟨rfl, rfl⟩, ⟨by omega, by omega, hgz⟩, hlt⟩
structure Frc where
 num : Int
 den : Int
 deriving DecidableEq
def Frc.c (f : Frc) : List IV := [.int .i64 f.num, .int .i64 f.den]
def Frc.v (f : Frc) : IV := .agg [.int .i64 f.num, .int .i64 f.den]
def packF (m : Bool) (n d : Nat) : Frc × Int := if (if m = true then 9223372036854775808 else 9223372036854775807) < n ∨ 9223372036854775807 < d then (⟨0, 0⟩, 3) else (⟨if m = true then -(n : Int) else n, d⟩, 0)
theorem pack_fun (m : Bool) (n0 n d0 d : Nat) (h0 : n0 < 2 ^ 64) (h1 : n < 2 ^ 64) (h2 : d0 < 2 ^ 64) (h3 : d < 2 ^ 64) : FN 96 [.bool m, .agg [.int .u64 (n0 : Int), .int .u64 (n : Int)], .agg [.int .u64 (d0 : Int), .int .u64 (d : Int)]]
  (fun v => v = .tup [(if n0 ≠ 0 ∨ d0 ≠ 0 then (⟨0, 0⟩ : Frc) else (packF m n d).1).v, .int .i64 (if n0 ≠ 0 ∨ d0 ≠ 0 then 3 else (packF m n d).2)]) := by
 refine IFun.of_bodyZ false 9 [9, 30, 32] Tryz.func96 rfl Tryz.call96 rfl fun R hR => ?_
 have wm : IntKind.u64.wrap 9223372036854775808 = 9223372036854775808 := by decide
 by_cases a0 : n0 = 0
 case neg =>
  have a0' : ¬ (n0 : Int) = 0 := by omega
  cases m
  all_goals
   simp [go_sem, a0, a0', wm]
   exact hR _ _ _ rfl (by simp [go_sem, a0, Frc.v])
 by_cases a1 : (if m = true then 9223372036854775808 else 9223372036854775807) < n
 ·have hp : packF m n d = (⟨0, 0⟩, 3) := by unfold packF; rw [if_pos (.inl a1)]
  cases m
  ·have a1' : (9223372036854775807 : Int) < n := by simp at a1; omega
   simp [go_sem, a0, a1', wm]
   exact hR _ _ _ rfl (by simp [go_sem, a0, hp, Frc.v])
  ·have a1' : (9223372036854775808 : Int) < n := by simp at a1; omega
   simp [go_sem, a0, a1', wm]
   exact hR _ _ _ rfl (by simp [go_sem, a0, hp, Frc.v])
 have b1 : m = false → ¬ (9223372036854775807 : Int) < n := fun e => by subst e; simp at a1; omega
 have b2 : m = true → ¬ (9223372036854775808 : Int) < n := fun e => by subst e; simp at a1; omega
 by_cases a2 : d0 = 0
 case neg =>
  have a2' : ¬ (d0 : Int) = 0 := by omega
  cases m
  ·have b := b1 rfl
   simp [go_sem, a0, b, a2, a2', wm]
   exact hR _ _ _ rfl (by simp [go_sem, a2, Frc.v])
  ·have b := b2 rfl
   simp [go_sem, a0, b, a2, a2', wm]
   exact hR _ _ _ rfl (by simp [go_sem, a2, Frc.v])
 by_cases a3 : 9223372036854775807 < d
 ·have a3' : (9223372036854775807 : Int) < d := by omega
  have hp : packF m n d = (⟨0, 0⟩, 3) := by unfold packF; rw [if_pos (.inr a3)]
  cases m
  ·have b := b1 rfl
   simp [go_sem, a0, b, a2, a3', wm]
   exact hR _ _ _ rfl (by simp [go_sem, hp, Frc.v])
  ·have b := b2 rfl
   simp [go_sem, a0, b, a2, a3', wm]
   exact hR _ _ _ rfl (by simp [go_sem, hp, Frc.v])
 have a3' : ¬ (9223372036854775807 : Int) < d := by omega
 have w1 : IntKind.i64.wrap (d : Int) = d := wrap64 (by omega) (by omega)
 have hp : packF m n d = (⟨if m = true then -(n : Int) else n, d⟩, 0) := by unfold packF; rw [if_neg (by omega)]
 cases m
 ·have b := b1 rfl
  have w2 : IntKind.i64.wrap (n : Int) = n := wrap64 (by omega) (by omega)
  simp [go_sem, a0, b, a2, a3', w1, w2, wm]
  exact hR _ _ _ rfl (by simp [go_sem, a0, a2, hp, Frc.v])
 ·have b := b2 rfl
  obtain ⟨z, hz⟩ : ∃ z, IntKind.u64.wrap (0 - (n : Int)) = z := ⟨_, rfl⟩
  have hz' : IntKind.u64.wrap (-(n : Int)) = z := by rw [← hz]; congr 1; omega
  have w2 : IntKind.i64.wrap z = -(n : Int) := by
   by_cases hn : n = 0
   ·subst hn; rw [← hz]; decide
   ·rw [← hz, wrapu_neg (by omega) (by omega)]
    rw [wrap64_top (by omega) (by omega)]; omega
  simp [go_sem, a0, b, a2, a3', w1, hz, hz', w2, wm]
  exact hR _ _ _ rfl (by simp [go_sem, a0, a2, hp, Frc.v])
end Go.Idl
namespace Go.Idl
open Go.Proofs
def mkF (n d : Int) : Frc × Int := if d = 0 then (⟨0, 0⟩, 2) else packF (decide (n < 0) != decide (d < 0)) (n.natAbs / Nat.gcd n.natAbs d.natAbs) (d.natAbs / Nat.gcd n.natAbs d.natAbs)
def rightB (f : Frc) : Bool := decide (0 < f.den) && Nat.gcd f.num.natAbs f.den.natAbs == 1
theorem right_fun (f : Frc) (hn : -2 ^ 63 ≤ f.num ∧ f.num < 2 ^ 63) (hd : -2 ^ 63 ≤ f.den ∧ f.den < 2 ^ 63) : FN 52 [f.v] (fun v => v = .bool (rightB f)) := by
 refine IFun.of_bodyZ false 3 [] Tryz.func52 rfl Tryz.call52 rfl fun R hR => ?_
 obtain ⟨n, d⟩ := f
 simp only at hn hd
 by_cases h0 : 0 < d
 ·have c1 := size_fun n hn
  have c2 := size_fun d hd
  have c3 := gcd_fun n.natAbs d.natAbs (by omega) (by omega)
  have hr : rightB ⟨n, d⟩ = (Nat.gcd n.natAbs d.natAbs == 1) := by unfold rightB; simp [h0]
  generalize n.natAbs = a at *
  generalize d.natAbs = b at *
  generalize Nat.gcd a b = g at *
  simp [go_sem, Frc.v]
  refine Drawn.intro (fun k => if k = 6 then .int .u64 (a : Int) else if k = 9 then .int .u64 (b : Int) else if k = 10 then .int .u64 (g : Int) else .tup []) ?_
  simp [go_sem, h0, c1, c2, c3]
  refine ⟨by decide +kernel, ?_⟩
  refine hR _ _ _ rfl ?_
  simp [go_sem, hr]
  rw [Bool.eq_iff_iff]
  simp
  omega
 ·have hr : rightB ⟨n, d⟩ = false := by unfold rightB; simp [h0]
  simp [go_sem, Frc.v]
  refine Drawn.intro (fun k => .tup []) ?_
  simp [go_sem, h0]
  refine ⟨by decide +kernel, ?_⟩
  exact hR _ _ _ rfl (by simp [go_sem, hr])
def redF (m : Bool) (N D : Nat) : Frc × Int := packF m (N / Nat.gcd N D) (D / Nat.gcd N D)
end Go.Idl
namespace Go.Idl
open Go.Proofs
def cmpI (f g : Frc) : Int := if f.num * g.den < g.num * f.den then -1 else if g.num * f.den < f.num * g.den then 1 else 0
end Go.Idl
namespace Go.Idl
open Go.Proofs
theorem u64_low {a : Nat} (ha : a < 18446744073709551616) : bitsOf .and .u64 (a : Int) 4294967295 = ((a % 4294967296 : Nat) : Int) := by
 have e : (4294967295 : Int) = ((4294967295 : Nat) : Int) := rfl
 rw [e]
 simp only [bitsOf, BitVec.ofInt_natCast, BitVec.toNat_and, BitVec.toNat_ofNat, show IntKind.u64.bits = 64 from rfl]
 rw [Nat.mod_eq_of_lt (by omega), Nat.mod_eq_of_lt (by omega), show 4294967295 = 2 ^ 32 - 1 from rfl, Nat.and_two_pow_sub_one_eq_mod]
 exact wrapu (by omega) (by omega)
theorem fdiv32 (a : Nat) : (a : Int).fdiv 4294967296 = ((a / 4294967296 : Nat) : Int) := by rw [Int.fdiv_eq_ediv_of_nonneg _ (by decide)]; omega
theorem wrapuN (a : Nat) : IntKind.u64.wrap (a : Int) = ((a % 18446744073709551616 : Nat) : Int) := by
 simp [IntKind.wrap, IntKind.bits, IntKind.signed]
theorem mul64G_fun (x y : Nat) (hx : x < 18446744073709551616) (hy : y < 18446744073709551616) : FN 104 [.int .u64 (x : Int), .int .u64 (y : Int)] (fun v => v = .tup [.int .u64 ((x * y / 18446744073709551616 : Nat) : Int), .int .u64 ((x * y % 18446744073709551616 : Nat) : Int)]) := by
 refine IFun.of_bodyZ false 14 [] Tryz.func104 rfl Tryz.call104 rfl fun R hR => ?_
 obtain ⟨bd, bt, bw, hhi⟩ := Go.Lib.mul64_hi x y hx hy
 have ba := Go.Lib.half_mul_le (a := x / 4294967296) (b := y / 4294967296) (by omega) (by omega)
 have bb := Go.Lib.half_mul_le (a := x / 4294967296) (b := y % 4294967296) (by omega) (by omega)
 have bc := Go.Lib.half_mul_le (a := x % 4294967296) (b := y / 4294967296) (by omega) (by omega)
 have a1 := u64_low hx
 have a2 := u64_low hy
 have f1 := fdiv32 x
 have f2 := fdiv32 y
 have hx32 : x / 4294967296 < 18446744073709551616 := by omega
 have hy32 : y / 4294967296 < 18446744073709551616 := by omega
 have hlt : x * y / 18446744073709551616 < 18446744073709551616 := Nat.div_lt_of_lt_mul (Nat.mul_lt_mul'' hx hy)
 obtain ⟨lo, hlo⟩ : ∃ p : Nat, x * y % 18446744073709551616 = p := ⟨_, rfl⟩
 have hxy : IntKind.u64.wrap ((x : Int) * y) = lo := by rw [← Int.natCast_mul, wrapuN, hlo]
 obtain ⟨hi, hhe⟩ : ∃ p : Nat, x * y / 18446744073709551616 = p := ⟨_, rfl⟩
 rw [hhe] at hhi hlt hR
 rw [hlo] at hR
 generalize x / 4294967296 = x1 at *
 generalize x % 4294967296 = x0 at *
 generalize y / 4294967296 = y1 at *
 generalize y % 4294967296 = y0 at *
 have w0 : IntKind.u64.wrap ((x0 : Int) * y0) = ((x0 * y0 : Nat) : Int) := by rw [← Int.natCast_mul, wrapu (by omega) (by omega)]
 have w1 : IntKind.u64.wrap ((x1 : Int) * y0) = ((x1 * y0 : Nat) : Int) := by rw [← Int.natCast_mul, wrapu (by omega) (by omega)]
 have w2 : IntKind.u64.wrap ((x0 : Int) * y1) = ((x0 * y1 : Nat) : Int) := by rw [← Int.natCast_mul, wrapu (by omega) (by omega)]
 have w3 : IntKind.u64.wrap ((x1 : Int) * y1) = ((x1 * y1 : Nat) : Int) := by rw [← Int.natCast_mul, wrapu (by omega) (by omega)]
 generalize x0 * y0 = A at *
 generalize x1 * y0 = B at *
 generalize x0 * y1 = C at *
 generalize x1 * y1 = D at *
 have f3 := fdiv32 A
 have hA1 : A / 4294967296 < 18446744073709551616 := by omega
 generalize A / 4294967296 = A1 at *
 have v1 : IntKind.u64.wrap ((B : Int) + A1) = ((B + A1 : Nat) : Int) := by rw [← Int.natCast_add, wrapu (by omega) (by omega)]
 have va : IntKind.u64.wrap (A1 : Int) = A1 := wrapu (by omega) (by omega)
 have a3 := u64_low bt
 have f4 := fdiv32 (B + A1)
 generalize B + A1 = T at *
 have hT1 : T / 4294967296 < 18446744073709551616 := by omega
 have hT0 : T % 4294967296 < 4294967296 := by omega
 generalize T / 4294967296 = T1 at *
 generalize T % 4294967296 = T0 at *
 have vt : IntKind.u64.wrap (T1 : Int) = T1 := wrapu (by omega) (by omega)
 have v2 : IntKind.u64.wrap ((T0 : Int) + C) = ((T0 + C : Nat) : Int) := by rw [← Int.natCast_add, wrapu (by omega) (by omega)]
 have f5 := fdiv32 (T0 + C)
 generalize T0 + C = U at *
 have hU1 : U / 4294967296 < 18446744073709551616 := by omega
 generalize U / 4294967296 = U1 at *
 have vu : IntKind.u64.wrap (U1 : Int) = U1 := wrapu (by omega) (by omega)
 have v3 : IntKind.u64.wrap ((D : Int) + T1) = ((D + T1 : Nat) : Int) := by rw [← Int.natCast_add, wrapu (by omega) (by omega)]
 have v4 : IntKind.u64.wrap (((D + T1 : Nat) : Int) + U1) = hi := by rw [← Int.natCast_add, wrapu (by omega) (by omega)]; omega
 have vx : IntKind.u64.wrap (x1 : Int) = x1 := wrapu (by omega) (by omega)
 have vy : IntKind.u64.wrap (y1 : Int) = y1 := wrapu (by omega) (by omega)
 simp only [Int.natCast_add] at v3 v4
 simp [go_sem, f1, f2, a1, a2, vx, vy, w0, f3, va, w1, v1, a3, f4, vt, w2, v2, f5, vu, w3, v3, v4, hxy]
 refine hR _ _ _ rfl ?_
 simp [go_sem]
theorem productG_fun (x y : Nat) (hx : x < 18446744073709551616) (hy : y < 18446744073709551616) : FN 94 [.int .u64 (x : Int), .int .u64 (y : Int)] (fun v => v = .agg [.int .u64 ((x * y / 18446744073709551616 : Nat) : Int), .int .u64 ((x * y % 18446744073709551616 : Nat) : Int)]) := by
 refine IFun.of_bodyZ false 7 [] Tryz.func94 rfl Tryz.call94 rfl fun R hR => ?_
 have c := mul64G_fun x y hx hy
 generalize x * y / 18446744073709551616 = a at *
 generalize x * y % 18446744073709551616 = b at *
 simp [go_sem]
 refine c.callF (by simp [go_sem]) ?_
 rintro _ rfl
 simp [go_sem]
 refine hR _ _ _ rfl ?_
 simp [go_sem]
def wv (N : Nat) : IV := .agg [.int .u64 ((N / 18446744073709551616 : Nat) : Int), .int .u64 ((N % 18446744073709551616 : Nat) : Int)]
def nCmp (x y : Nat) : Int := if x < y then -1 else if y < x then 1 else 0
theorem wcmpG_fun (x y : Nat) : FN 95 [wv x, wv y] (fun v => v = .int .i64 (nCmp x y)) := by
 refine IFun.of_bodyZ false 7 [7, 8, 9, 16, 21] Tryz.func95 rfl Tryz.call95 rfl fun R hR => ?_
 unfold wv
 have ex := Nat.div_add_mod x 18446744073709551616
 have ey := Nat.div_add_mod y 18446744073709551616
 have lx := Nat.mod_lt x (show 18446744073709551616 > 0 by decide)
 have ly := Nat.mod_lt y (show 18446744073709551616 > 0 by decide)
 generalize x / 18446744073709551616 = x1 at *
 generalize x % 18446744073709551616 = x0 at *
 generalize y / 18446744073709551616 = y1 at *
 generalize y % 18446744073709551616 = y0 at *
 simp [go_sem]
 refine IWp.loopT (α := Nat) (fun i => (⟨false, 23, 7, [7, 8, 9, 16, 21], glT, [(3, .ptr 1 1 0 0), (7, .agg [.int .u64 (x1 : Int), .int .u64 (x0 : Int)]), (8, .int .i64 (i : Int))], []⟩, [.rows 2 [[.int .u64 (x1 : Int), .int .u64 (x0 : Int)]], .rows 2 [[.int .u64 (y1 : Int), .int .u64 (y0 : Int)]]]))
  (fun i => i ≤ 2 ∧ (1 ≤ i → x1 = y1) ∧ (i = 2 → x0 = y0)) (fun i => 2 - i) 0 ⟨by omega, by omega, by omega⟩ (by simp [go_sem]) ?_
 rintro i ⟨hi, hxy1, hxy0⟩
 rcases (by omega : i = 0 ∨ i = 1 ∨ i = 2) with rfl | rfl | rfl
 ·by_cases h1 : x1 < y1
  ·have e : nCmp x y = -1 := by unfold nCmp; rw [if_pos (by omega)]
   simp [go_sem, h1]
   exact hR _ _ _ rfl (by simp [go_sem, e])
  ·by_cases h2 : y1 < x1
   ·have e : nCmp x y = 1 := by unfold nCmp; rw [if_neg (by omega), if_pos (by omega)]
    simp [go_sem, h1, h2]
    exact hR _ _ _ rfl (by simp [go_sem, e])
   ·simp [go_sem, h1, h2]
    exact ⟨1, by decide, by omega⟩
 ·have := hxy1 (by omega)
  by_cases h1 : x0 < y0
  ·have e : nCmp x y = -1 := by unfold nCmp; rw [if_pos (by omega)]
   simp [go_sem, h1]
   exact hR _ _ _ rfl (by simp [go_sem, e])
  ·by_cases h2 : y0 < x0
   ·have e : nCmp x y = 1 := by unfold nCmp; rw [if_neg (by omega), if_pos (by omega)]
    simp [go_sem, h1, h2]
    exact hR _ _ _ rfl (by simp [go_sem, e])
   ·simp [go_sem, h1, h2]
    exact ⟨2, by decide, by omega, by omega⟩
 ·have := hxy1 (by omega)
  have := hxy0 rfl
  have e : nCmp x y = 0 := by unfold nCmp; rw [if_neg (by omega), if_neg (by omega)]
  simp [go_sem]
  exact hR _ _ _ rfl (by simp [go_sem, e])
end Go.Idl
namespace Go.Idl
open Go.Proofs
def FitF (f : Frc) : Prop := (-2 ^ 63 ≤ f.num ∧ f.num < 2 ^ 63) ∧ (-2 ^ 63 ≤ f.den ∧ f.den < 2 ^ 63)
theorem right_pos {f : Frc} (h : rightB f = true) : 0 < f.den ∧ Nat.gcd f.num.natAbs f.den.natAbs = 1 := by
 unfold rightB at h
 simpa using h
def cmpR (f g : Frc) : Int × Int := if rightB f = true ∧ rightB g = true then (cmpI f g, 0) else (0, 2)
theorem cmpG_fun (f g : Frc) (hf : FitF f) (hg : FitF g) : FN 78 [f.v, g.v] (fun v => v = .tup [.int .i64 (cmpR f g).1, .int .i64 (cmpR f g).2]) := by
 refine IFun.of_bodyZ false 7 [14, 17, 24, 27, 45] Tryz.func78 rfl Tryz.call78 rfl fun R hR => ?_
 have cf := right_fun f hf.1 hf.2
 have cg := right_fun g hg.1 hg.2
 by_cases r1 : rightB f = true
 case neg =>
  have e : cmpR f g = (0, 2) := by unfold cmpR; rw [if_neg (fun h => r1 h.1)]
  rw [e] at hR
  rw [Bool.not_eq_true] at r1
  rw [r1] at cf
  simp only [Frc.v] at *
  simp [go_sem]
  refine cf.callF (by simp [go_sem]) ?_
  rintro _ rfl
  simp [go_sem]
  exact hR _ _ _ rfl (by simp [go_sem])
 by_cases r2 : rightB g = true
 case neg =>
  have e : cmpR f g = (0, 2) := by unfold cmpR; rw [if_neg (fun h => r2 h.2)]
  rw [e] at hR
  rw [Bool.not_eq_true] at r2
  rw [r1] at cf
  rw [r2] at cg
  simp only [Frc.v] at *
  simp [go_sem]
  refine cf.callF (by simp [go_sem]) ?_
  rintro _ rfl
  simp [go_sem]
  refine cg.callF (by simp [go_sem]) ?_
  rintro _ rfl
  simp [go_sem]
  exact hR _ _ _ rfl (by simp [go_sem])
 have e : cmpR f g = (cmpI f g, 0) := by unfold cmpR; rw [if_pos ⟨r1, r2⟩]
 rw [e] at hR
 obtain ⟨hd1, -⟩ := right_pos r1
 obtain ⟨hd2, -⟩ := right_pos r2
 rw [r1] at cf
 rw [r2] at cg
 obtain ⟨⟨f1, f2⟩, ⟨f3, f4⟩⟩ := hf
 obtain ⟨⟨g1, g2⟩, ⟨g3, g4⟩⟩ := hg
 obtain ⟨a, b⟩ := f
 obtain ⟨c, d⟩ := g
 simp only [Frc.v] at *
 simp [go_sem]
 refine cf.callF (by simp [go_sem]) ?_
 rintro _ rfl
 simp [go_sem]
 refine cg.callF (by simp [go_sem]) ?_
 rintro _ rfl
 simp [go_sem]
 have hres : cmpI ⟨a, b⟩ ⟨c, d⟩ = if a * d < c * b then -1 else if c * b < a * d then 1 else 0 := rfl
 have sgn : ∀ x y : Int, 1 ≤ y → (x < 0 → x * y < 0) ∧ (0 ≤ x → 0 ≤ x * y) := fun x y hy => ⟨fun h => Int.mul_neg_of_neg_of_pos h (by omega), fun h => Int.mul_nonneg h (by omega)⟩
 split
 ·rename_i h
  obtain ⟨rfl, rfl⟩ := h
  exact hR _ _ _ rfl (by simp [go_sem, hres])
 ·split
  ·rename_i _ hs
   have sa := size_fun a (by omega)
   have sb := size_fun b (by omega)
   have sc := size_fun c (by omega)
   have sd := size_fun d (by omega)
   have p1 := productG_fun a.natAbs d.natAbs (by omega) (by omega)
   have p2 := productG_fun c.natAbs b.natAbs (by omega) (by omega)
   have p3 := wcmpG_fun (a.natAbs * d.natAbs) (c.natAbs * b.natAbs)
   have r1 : ((a.natAbs * d.natAbs : Nat) : Int) = if a < 0 then -(a * d) else a * d := by
    rw [Int.natCast_mul, show (d.natAbs : Int) = d by omega]
    split
    ·rw [show (a.natAbs : Int) = -a by omega, Int.neg_mul]
    ·rw [show (a.natAbs : Int) = a by omega]
   have r2 : ((c.natAbs * b.natAbs : Nat) : Int) = if a < 0 then -(c * b) else c * b := by
    rw [Int.natCast_mul, show (b.natAbs : Int) = b by omega]
    split
    ·rw [show (c.natAbs : Int) = -c by omega, Int.neg_mul]
    ·rw [show (c.natAbs : Int) = c by omega]
   unfold wv at p3
   generalize a.natAbs * d.natAbs = P1 at *
   generalize c.natAbs * b.natAbs = P2 at *
   have hn : nCmp P1 P2 = if a < 0 then -cmpI ⟨a, b⟩ ⟨c, d⟩ else cmpI ⟨a, b⟩ ⟨c, d⟩ := by
    rw [hres]
    unfold nCmp
    generalize a * d = u at *
    generalize c * b = v at *
    by_cases ha : a < 0
    ·rw [if_pos ha] at r1 r2 ⊢
     split <;> split <;> (try split) <;> omega
    ·rw [if_neg ha] at r1 r2 ⊢
     split <;> split <;> (try split) <;> omega
   have hcb : -1 ≤ cmpI ⟨a, b⟩ ⟨c, d⟩ ∧ cmpI ⟨a, b⟩ ⟨c, d⟩ ≤ 1 := by rw [hres]; split <;> (try split) <;> omega
   generalize cmpI ⟨a, b⟩ ⟨c, d⟩ = V at *
   generalize P1 / 18446744073709551616 = x1 at *
   generalize P1 % 18446744073709551616 = x0 at *
   generalize P2 / 18446744073709551616 = y1 at *
   generalize P2 % 18446744073709551616 = y0 at *
   refine Drawn.intro (fun k => if k = 2 then .int .u64 (a.natAbs : Nat) else if k = 5 then .int .u64 (d.natAbs : Nat) else if k = 6 then .agg [.int .u64 (x1 : Int), .int .u64 (x0 : Int)] else if k = 9 then .int .u64 (c.natAbs : Nat) else if k = 12 then .int .u64 (b.natAbs : Nat) else if k = 13 then .agg [.int .u64 (y1 : Int), .int .u64 (y0 : Int)] else if k = 14 then .int .i64 (nCmp P1 P2) else .tup []) ?_
   generalize nCmp P1 P2 = N at *
   simp [go_sem, sa, sb, sc, sd, p1, p2, p3]
   refine ⟨by decide +kernel, ?_⟩
   by_cases ha : a < 0
   ·rw [if_pos ha] at hn
    have w1 : IntKind.i64.wrap (-N) = -N := wrap64 (by omega) (by omega)
    simp [go_sem, ha, w1]
    exact hR _ _ _ rfl (by simp [go_sem]; omega)
   ·rw [if_neg ha] at hn
    simp [go_sem, ha]
    exact hR _ _ _ rfl (by simp [go_sem]; omega)
  ·have s1 := sgn a d (by omega)
   have s2 := sgn c b (by omega)
   split
   ·exact hR _ _ _ rfl (by simp [go_sem, hres]; omega)
   ·exact hR _ _ _ rfl (by simp [go_sem, hres]; omega)
theorem packW_fun (m : Bool) (N D : Nat) (hN : N < 340282366920938463463374607431768211456) (hD : D < 340282366920938463463374607431768211456) : FN 96 [.bool m, wv N, wv D] (fun v => v = .tup [(packF m N D).1.v, .int .i64 (packF m N D).2]) := by
 have h := pack_fun m (N / 18446744073709551616) (N % 18446744073709551616) (D / 18446744073709551616) (D % 18446744073709551616) (by omega) (by omega) (by omega) (by omega)
 have e : (if N / 18446744073709551616 ≠ 0 ∨ D / 18446744073709551616 ≠ 0 then (⟨0, 0⟩ : Frc) else (packF m (N % 18446744073709551616) (D % 18446744073709551616)).1) = (packF m N D).1 ∧ (if N / 18446744073709551616 ≠ 0 ∨ D / 18446744073709551616 ≠ 0 then (3 : Int) else (packF m (N % 18446744073709551616) (D % 18446744073709551616)).2) = (packF m N D).2 := by
  by_cases h0 : N / 18446744073709551616 ≠ 0 ∨ D / 18446744073709551616 ≠ 0
  ·rw [if_pos h0, if_pos h0]
   have : packF m N D = (⟨0, 0⟩, 3) := by unfold packF; rw [if_pos (by split <;> omega)]
   rw [this]; exact ⟨rfl, rfl⟩
  ·rw [if_neg h0, if_neg h0, Nat.mod_eq_of_lt (by omega), Nat.mod_eq_of_lt (by omega)]
   exact ⟨rfl, rfl⟩
 rw [e.1, e.2] at h
 exact h
theorem times_fun (m : Bool) (a b c d : Nat) (ha : a < 2 ^ 64) (hb : b < 2 ^ 64) (hc : c < 2 ^ 64) (hd : d < 2 ^ 64) (hb0 : 0 < b) (hd0 : 0 < d) :
  FN 79 [.bool m, .int .u64 (a : Int), .int .u64 (b : Int), .int .u64 (c : Int), .int .u64 (d : Int)]
   (fun v => v = .tup [(packF m (a / Nat.gcd a d * (c / Nat.gcd c b)) (b / Nat.gcd c b * (d / Nat.gcd a d))).1.v, .int .i64 (packF m (a / Nat.gcd a d * (c / Nat.gcd c b)) (b / Nat.gcd c b * (d / Nat.gcd a d))).2]) := by
 refine IFun.of_bodyW false 14 [] Tryz.func79 rfl Tryz.call79 rfl fun R hR => ?_
 have c1 := gcd_fun a d ha hd
 have c2 := gcd_fun c b hc hb
 have g1 : 0 < Nat.gcd a d := Nat.gcd_pos_of_pos_right _ hd0
 have g2 : 0 < Nat.gcd c b := Nat.gcd_pos_of_pos_right _ hb0
 generalize Nat.gcd a d = g at *
 generalize Nat.gcd c b = h at *
 have q1 := Nat.div_le_self a g
 have q2 := Nat.div_le_self c h
 have q3 := Nat.div_le_self b h
 have q4 := Nat.div_le_self d g
 have t1 : (a : Int).tdiv (g : Int) = ((a / g : Nat) : Int) := (Int.tdiv_eq_ediv_of_nonneg (by omega)).trans (Int.natCast_ediv a g).symm
 have t2 : (c : Int).tdiv (h : Int) = ((c / h : Nat) : Int) := (Int.tdiv_eq_ediv_of_nonneg (by omega)).trans (Int.natCast_ediv c h).symm
 have t3 : (b : Int).tdiv (h : Int) = ((b / h : Nat) : Int) := (Int.tdiv_eq_ediv_of_nonneg (by omega)).trans (Int.natCast_ediv b h).symm
 have t4 : (d : Int).tdiv (g : Int) = ((d / g : Nat) : Int) := (Int.tdiv_eq_ediv_of_nonneg (by omega)).trans (Int.natCast_ediv d g).symm
 generalize a / g = a' at *
 generalize c / h = c' at *
 generalize b / h = b' at *
 generalize d / g = d' at *
 have w1 : IntKind.u64.wrap (a' : Int) = a' := wrapu (by omega) (by omega)
 have w2 : IntKind.u64.wrap (c' : Int) = c' := wrapu (by omega) (by omega)
 have w3 : IntKind.u64.wrap (b' : Int) = b' := wrapu (by omega) (by omega)
 have w4 : IntKind.u64.wrap (d' : Int) = d' := wrapu (by omega) (by omega)
 have p1 := productG_fun a' c' (by omega) (by omega)
 have p2 := productG_fun b' d' (by omega) (by omega)
 have m1 : a' * c' < 18446744073709551616 * 18446744073709551616 := Nat.mul_lt_mul'' (by omega) (by omega)
 have m2 : b' * d' < 18446744073709551616 * 18446744073709551616 := Nat.mul_lt_mul'' (by omega) (by omega)
 have pk := packW_fun m (a' * c') (b' * d') (by omega) (by omega)
 have gz : ¬ (g : Int) = 0 := by omega
 have gz' : ¬ g = 0 := by omega
 have hz : ¬ (h : Int) = 0 := by omega
 have hz' : ¬ h = 0 := by omega
 unfold wv at pk
 generalize packF m (a' * c') (b' * d') = E at *
 generalize a' * c' / 18446744073709551616 = x1 at *
 generalize a' * c' % 18446744073709551616 = x0 at *
 generalize b' * d' / 18446744073709551616 = y1 at *
 generalize b' * d' % 18446744073709551616 = y0 at *
 refine IWp.seqI ?_
 simp [go_sem]
 refine IWp.seqI ?_
 simp [go_sem]
 refine c1.callF (by simp [go_sem]) ?_
 rintro _ rfl
 simp [go_sem]
 refine c2.callF (by simp [go_sem]) ?_
 rintro _ rfl
 simp [go_sem]
 refine IWp.seqI ?_
 refine Drawn.intro (fun k => if k = 7 then .agg [.int .u64 (x1 : Int), .int .u64 (x0 : Int)] else if k = 14 then .agg [.int .u64 (y1 : Int), .int .u64 (y0 : Int)] else if k = 15 then .tup [E.1.v, .int .i64 E.2] else .tup []) ?_
 simp only [Frc.v] at *
 simp [go_sem, t1, t2, t3, t4, w1, w2, w3, w4, gz, gz', hz, hz', p1, p2, pk]
 refine ⟨by decide +kernel, ?_⟩
 refine IWp.now ?_
 simp [go_sem]
 exact hR _ _ _ rfl (by simp [go_sem])
end Go.Idl
namespace Go.Idl
open Go.Proofs
theorem gcd_cross {a b c d : Nat} (hb : 0 < b) (hd : 0 < d) (h1 : Nat.gcd a b = 1) (h2 : Nat.gcd c d = 1) : Nat.gcd (a * c) (b * d) = Nat.gcd a d * Nat.gcd c b := by
 have g1 : 0 < Nat.gcd a d := Nat.gcd_pos_of_pos_right _ hd
 have g2 : 0 < Nat.gcd c b := Nat.gcd_pos_of_pos_right _ hb
 obtain ⟨g, hg⟩ : ∃ g, Nat.gcd a d = g := ⟨_, rfl⟩
 obtain ⟨h, hh⟩ : ∃ h, Nat.gcd c b = h := ⟨_, rfl⟩
 obtain ⟨a', ha'⟩ : g ∣ a := hg ▸ Nat.gcd_dvd_left _ _
 obtain ⟨d', hd'⟩ : g ∣ d := hg ▸ Nat.gcd_dvd_right _ _
 obtain ⟨c', hc'⟩ : h ∣ c := hh ▸ Nat.gcd_dvd_left _ _
 obtain ⟨b', hb'⟩ : h ∣ b := hh ▸ Nat.gcd_dvd_right _ _
 have k1 : Nat.Coprime a' d' := by
  have : Nat.gcd (g * a') (g * d') = g := by rw [← ha', ← hd']; exact hg
  rw [Nat.gcd_mul_left] at this
  exact Nat.eq_of_mul_eq_mul_left (hg ▸ g1) (by rw [this, Nat.mul_one])
 have k2 : Nat.Coprime c' b' := by
  have : Nat.gcd (h * c') (h * b') = h := by rw [← hc', ← hb']; exact hh
  rw [Nat.gcd_mul_left] at this
  exact Nat.eq_of_mul_eq_mul_left (hh ▸ g2) (by rw [this, Nat.mul_one])
 have k3 : Nat.Coprime a' b' := Nat.Coprime.coprime_dvd_left (ha' ▸ Nat.dvd_mul_left _ _) (Nat.Coprime.coprime_dvd_right (hb' ▸ Nat.dvd_mul_left _ _) h1)
 have k4 : Nat.Coprime c' d' := Nat.Coprime.coprime_dvd_left (hc' ▸ Nat.dvd_mul_left _ _) (Nat.Coprime.coprime_dvd_right (hd' ▸ Nat.dvd_mul_left _ _) h2)
 have k5 : Nat.Coprime (a' * c') (b' * d') := Nat.Coprime.mul_right (Nat.Coprime.mul_left k3 k2) (Nat.Coprime.mul_left k1 k4)
 rw [hg, hh, ha', hc', hb', hd']
 rw [show g * a' * (h * c') = g * h * (a' * c') by rw [Nat.mul_assoc, Nat.mul_assoc, Nat.mul_left_comm a' h c'], show h * b' * (g * d') = g * h * (b' * d') by rw [Nat.mul_assoc, Nat.mul_left_comm b' g d', ← Nat.mul_assoc, Nat.mul_comm h g], Nat.gcd_mul_left, k5, Nat.mul_one]
theorem mul_red (m : Bool) {a b c d : Nat} (hb : 0 < b) (hd : 0 < d) (h1 : Nat.gcd a b = 1) (h2 : Nat.gcd c d = 1) : packF m (a / Nat.gcd a d * (c / Nat.gcd c b)) (b / Nat.gcd c b * (d / Nat.gcd a d)) = redF m (a * c) (b * d) := by
 unfold redF
 rw [gcd_cross hb hd h1 h2]
 have g1 : 0 < Nat.gcd a d := Nat.gcd_pos_of_pos_right _ hd
 have g2 : 0 < Nat.gcd c b := Nat.gcd_pos_of_pos_right _ hb
 have e1 : a / Nat.gcd a d * (c / Nat.gcd c b) = a * c / (Nat.gcd a d * Nat.gcd c b) := Nat.div_mul_div_comm (Nat.gcd_dvd_left _ _) (Nat.gcd_dvd_left _ _)
 have e2 : b / Nat.gcd c b * (d / Nat.gcd a d) = b * d / (Nat.gcd a d * Nat.gcd c b) := by
  rw [Nat.mul_comm (Nat.gcd a d)]
  exact Nat.div_mul_div_comm (Nat.gcd_dvd_right _ _) (Nat.gcd_dvd_right _ _)
 rw [e1, e2]
def mulF (f g : Frc) : Frc × Int := if rightB f = true ∧ rightB g = true then redF (decide (f.num < 0) != decide (g.num < 0)) (f.num.natAbs * g.num.natAbs) (f.den.natAbs * g.den.natAbs) else (⟨0, 0⟩, 2)
theorem mulF_fun (f g : Frc) (hf : FitF f) (hg : FitF g) : FN 54 [f.v, g.v] (fun v => v = .tup [(mulF f g).1.v, .int .i64 (mulF f g).2]) := by
 refine IFun.of_bodyW false 6 [13] Tryz.func54 rfl Tryz.call54 rfl fun R hR => ?_
 have cf := right_fun f hf.1 hf.2
 have cg := right_fun g hg.1 hg.2
 by_cases r1 : rightB f = true
 case neg =>
  have e : mulF f g = (⟨0, 0⟩, 2) := by unfold mulF; rw [if_neg (fun h => r1 h.1)]
  rw [e] at hR
  rw [Bool.not_eq_true] at r1
  rw [r1] at cf
  simp only [Frc.v] at *
  refine IWp.seqI ?_
  simp [go_sem]
  refine IWp.seqI ?_
  simp [go_sem]
  refine cf.callF (by simp [go_sem]) ?_
  rintro _ rfl
  simp [go_sem]
  exact hR _ _ _ rfl (by simp [go_sem])
 by_cases r2 : rightB g = true
 case neg =>
  have e : mulF f g = (⟨0, 0⟩, 2) := by unfold mulF; rw [if_neg (fun h => r2 h.2)]
  rw [e] at hR
  rw [Bool.not_eq_true] at r2
  rw [r1] at cf
  rw [r2] at cg
  simp only [Frc.v] at *
  refine IWp.seqI ?_
  simp [go_sem]
  refine IWp.seqI ?_
  simp [go_sem]
  refine cf.callF (by simp [go_sem]) ?_
  rintro _ rfl
  simp [go_sem]
  refine cg.callF (by simp [go_sem]) ?_
  rintro _ rfl
  simp [go_sem]
  exact hR _ _ _ rfl (by simp [go_sem])
 have e : mulF f g = redF (decide (f.num < 0) != decide (g.num < 0)) (f.num.natAbs * g.num.natAbs) (f.den.natAbs * g.den.natAbs) := by unfold mulF; rw [if_pos ⟨r1, r2⟩]
 obtain ⟨d1, k1⟩ := right_pos r1
 obtain ⟨d2, k2⟩ := right_pos r2
 obtain ⟨⟨f1, f2⟩, ⟨f3, f4⟩⟩ := hf
 obtain ⟨⟨g1, g2⟩, ⟨g3, g4⟩⟩ := hg
 have ct := times_fun (decide (f.num < 0) != decide (g.num < 0)) f.num.natAbs f.den.natAbs g.num.natAbs g.den.natAbs (by omega) (by omega) (by omega) (by omega) (by omega) (by omega)
 rw [mul_red _ (by omega) (by omega) k1 k2, ← e] at ct
 have s1 := size_fun f.num (by omega)
 have s2 := size_fun f.den (by omega)
 have s3 := size_fun g.num (by omega)
 have s4 := size_fun g.den (by omega)
 rw [r1] at cf
 rw [r2] at cg
 generalize mulF f g = E at *
 obtain ⟨a, b⟩ := f
 obtain ⟨c, d⟩ := g
 simp only [Frc.v] at *
 obtain ⟨A, hA⟩ : ∃ A, a.natAbs = A := ⟨_, rfl⟩
 obtain ⟨B, hB⟩ : ∃ B, b.natAbs = B := ⟨_, rfl⟩
 obtain ⟨C, hC⟩ : ∃ C, c.natAbs = C := ⟨_, rfl⟩
 obtain ⟨D, hD⟩ : ∃ D, d.natAbs = D := ⟨_, rfl⟩
 rw [hA] at s1 ct
 rw [hB] at s2 ct
 rw [hC] at s3 ct
 rw [hD] at s4 ct
 refine IWp.seqI ?_
 simp [go_sem]
 refine IWp.seqI ?_
 simp [go_sem]
 refine cf.callF (by simp [go_sem]) ?_
 rintro _ rfl
 simp [go_sem]
 refine cg.callF (by simp [go_sem]) ?_
 rintro _ rfl
 simp [go_sem]
 refine IWp.seqI ?_
 refine Drawn.intro (fun k => if k = 9 then .int .u64 (A : Int) else if k = 12 then .int .u64 (B : Int) else if k = 15 then .int .u64 (C : Int) else if k = 18 then .int .u64 (D : Int) else if k = 19 then .tup [.agg [.int .i64 E.1.num, .int .i64 E.1.den], .int .i64 E.2] else .tup []) ?_
 simp [go_sem, s1, s2, s3, s4, ct]
 refine ⟨by decide +kernel, ?_⟩
 refine IWp.now ?_
 simp [go_sem]
 exact hR _ _ _ rfl (by simp [go_sem])
end Go.Idl
namespace Go.Idl
open Go.Proofs
end Go.Idl
namespace Go.Idl
open Go.Proofs
def whF (n : Int) : Frc := ⟨n, 1⟩
theorem whole38_fun (n : Int) : FN 55 [.int .i64 n] (fun v => v = (whF n).v) := by
 refine IFun.of_bodyZ false 3 [] Tryz.func55 rfl Tryz.call55 rfl fun R hR => ?_
 simp [go_sem]
 exact hR _ _ _ rfl (by simp [go_sem, Frc.v, whF])
theorem whF_right (n : Int) : rightB (whF n) = true := by simp [rightB, whF]
theorem whF_fit {n : Int} (h : -2 ^ 63 ≤ n ∧ n < 2 ^ 63) : FitF (whF n) := ⟨h, by simp [whF]⟩
def withinB (f : Frc) (lo hi : Int) : Bool := rightB f && decide (lo * f.den ≤ f.num) && decide (f.num ≤ hi * f.den)
theorem cmpI_whole (f : Frc) (n : Int) : cmpI f (whF n) = if f.num < n * f.den then -1 else if n * f.den < f.num then 1 else 0 := by simp [cmpI, whF]
theorem within38_fun (f : Frc) (lo hi : Int) (hf : FitF f) (hl : -2 ^ 63 ≤ lo ∧ lo < 2 ^ 63) (hh : -2 ^ 63 ≤ hi ∧ hi < 2 ^ 63) : FN 53 [f.v, .int .i64 lo, .int .i64 hi] (fun v => v = .bool (withinB f lo hi)) := by
 refine IFun.of_bodyW false 10 [22] Tryz.func53 rfl Tryz.call53 rfl fun R hR => ?_
 have c1 := cmpG_fun f (whF lo) hf (whF_fit hl)
 have c2 := cmpG_fun f (whF hi) hf (whF_fit hh)
 have v1 := whole38_fun lo
 have v2 := whole38_fun hi
 by_cases r : rightB f = true
 case neg =>
  have e : ∀ n, cmpR f (whF n) = (0, 2) := fun n => by unfold cmpR; rw [if_neg (fun h => r h.1)]
  have e2 : withinB f lo hi = false := by unfold withinB; simp [r]
  rw [e] at c1
  rw [e2] at hR
  simp only [Frc.v, whF] at *
  refine IWp.seqI ?_
  simp [go_sem]
  refine IWp.seqI ?_
  refine Drawn.intro (fun k => if k = 2 then .agg [.int .i64 lo, .int .i64 1] else if k = 3 then .tup [.int .i64 0, .int .i64 2] else .tup []) ?_
  simp [go_sem, v1, c1]
  refine ⟨by decide +kernel, ?_⟩
  refine IWp.seqI ?_
  simp [go_sem]
  exact hR _ _ _ rfl (by simp [go_sem])
 have e : ∀ n, cmpR f (whF n) = (cmpI f (whF n), 0) := fun n => by unfold cmpR; rw [if_pos ⟨r, whF_right n⟩]
 have e2 : withinB f lo hi = (decide (lo * f.den ≤ f.num) && decide (f.num ≤ hi * f.den)) := by unfold withinB; rw [r]; simp
 rw [e] at c1 c2
 rw [e2] at hR
 have k1 := cmpI_whole f lo
 have k2 := cmpI_whole f hi
 generalize cmpI f (whF lo) = X at *
 generalize cmpI f (whF hi) = Y at *
 generalize lo * f.den = A at *
 generalize hi * f.den = B at *
 obtain ⟨u, w⟩ := f
 simp only [Frc.v, whF] at *
 refine IWp.seqI ?_
 simp [go_sem]
 refine IWp.seqI ?_
 refine Drawn.intro (fun k => if k = 2 then .agg [.int .i64 lo, .int .i64 1] else if k = 3 then .tup [.int .i64 X, .int .i64 0] else .tup []) ?_
 simp [go_sem, v1, c1]
 refine ⟨by decide +kernel, ?_⟩
 by_cases h1 : A ≤ u
 ·have hX : ¬ X < 0 := by rw [k1]; split <;> (try split) <;> omega
  refine IWp.seqI ?_
  simp [go_sem, hX]
  refine IWp.seqI ?_
  refine Drawn.intro (fun k => if k = 2 then .agg [.int .i64 hi, .int .i64 1] else if k = 3 then .tup [.int .i64 Y, .int .i64 0] else .tup []) ?_
  simp [go_sem, v2, c2]
  refine ⟨by decide +kernel, ?_⟩
  have hY : (Y ≤ 0) ↔ u ≤ B := by rw [k2]; split <;> (try split) <;> omega
  refine IWp.now ?_
  simp [go_sem]
  exact hR _ _ _ rfl (by simp [go_sem, h1, hY])
 ·have hX : X < 0 := by rw [k1, if_pos (by omega)]; decide
  refine IWp.seqI ?_
  simp [go_sem, hX]
  exact hR _ _ _ rfl (by simp [go_sem, h1])
theorem packF_cases (m : Bool) (n d : Nat) : packF m n d = (⟨0, 0⟩, 3) ∨ (packF m n d = (⟨if m = true then -(n : Int) else n, d⟩, 0) ∧ (if m = true then n ≤ 9223372036854775808 else n ≤ 9223372036854775807) ∧ d ≤ 9223372036854775807) := by
 unfold packF
 by_cases h : (if m = true then 9223372036854775808 else 9223372036854775807) < n ∨ 9223372036854775807 < d
 ·rw [if_pos h]; exact .inl rfl
 ·rw [if_neg h]; refine .inr ⟨rfl, ?_, by omega⟩
  cases m <;> simp at h ⊢ <;> omega
theorem packF_fit (m : Bool) (n d : Nat) : FitF (packF m n d).1 := by
 rcases packF_cases m n d with h | ⟨h, h1, h2⟩
 ·rw [h]; simp [FitF]
 ·rw [h]; unfold FitF; cases m <;> simp at h1 ⊢ <;> omega
theorem mulF_fit (f g : Frc) : FitF (mulF f g).1 := by
 unfold mulF redF
 split
 ·exact packF_fit _ _ _
 ·simp [FitF]
def carryF (p : Frc) (m d : Int) : Frc × Int :=
 if withinB p 0 1 = false ∨ m < 0 ∨ 100000 < m ∨ d < -100000 ∨ 100000 < d then (⟨0, 0⟩, 2)
 else if (mulF p (whF d)).2 ≠ 0 then (⟨0, 0⟩, 3)
 else if withinB (mulF p (whF d)).1 (-m) m = true then ((mulF p (whF d)).1, 0)
 else if d < 0 then (whF (-m), 0) else (whF m, 0)
theorem carry38_fun (p : Frc) (m d : Int) (hp : FitF p) (hm : -2 ^ 63 ≤ m ∧ m < 2 ^ 63) (hd : -2 ^ 63 ≤ d ∧ d < 2 ^ 63) : FN 35 [p.v, .int .i64 m, .int .i64 d] (fun v => v = .tup [(carryF p m d).1.v, .int .i64 (carryF p m d).2]) := by
 refine IFun.of_bodyW false 10 [33, 42, 46, 53] Tryz.func35 rfl Tryz.call35 rfl fun R hR => ?_
 have cr := right_fun p hp.1 hp.2
 have cw := within38_fun p 0 1 hp (by decide) (by decide)
 by_cases h1 : withinB p 0 1 = false ∨ m < 0 ∨ 100000 < m ∨ d < -100000 ∨ 100000 < d
 ·have e : carryF p m d = (⟨0, 0⟩, 2) := by unfold carryF; rw [if_pos h1]
  rw [e] at hR
  have hrw : rightB p = false → withinB p 0 1 = false := fun h => by unfold withinB; rw [h]; rfl
  generalize withinB p 0 1 = W at *
  generalize rightB p = Rg at *
  simp only [Frc.v] at *
  refine IWp.seqI ?_
  simp [go_sem]
  refine IWp.seqI ?_
  simp [go_sem]
  refine cr.callF (by simp [go_sem]) ?_
  rintro _ rfl
  cases Rg with
  | false =>
   simp [go_sem]
   exact hR _ _ _ rfl (by simp [go_sem])
  | true =>
   simp [go_sem]
   refine cw.callF (by simp [go_sem]) ?_
   rintro _ rfl
   cases W with
   | false =>
    simp [go_sem]
    exact hR _ _ _ rfl (by simp [go_sem])
   | true =>
    by_cases a1 : m < 0
    ·simp [go_sem, a1]
     exact hR _ _ _ rfl (by simp [go_sem])
    ·by_cases a2 : 100000 < m
     ·simp [go_sem, a1, a2]
      exact hR _ _ _ rfl (by simp [go_sem])
     ·by_cases a3 : d < -100000
      ·simp [go_sem, a1, a2, a3]
       exact hR _ _ _ rfl (by simp [go_sem])
      ·have a4 : 100000 < d := by
        rcases h1 with h | h | h | h | h
        ·cases h
        all_goals omega
       simp [go_sem, a1, a2, a3, a4]
       exact hR _ _ _ rfl (by simp [go_sem])
 have e : carryF p m d = if (mulF p (whF d)).2 ≠ 0 then (⟨0, 0⟩, 3) else if withinB (mulF p (whF d)).1 (-m) m = true then ((mulF p (whF d)).1, 0) else if d < 0 then (whF (-m), 0) else (whF m, 0) := by unfold carryF; rw [if_neg h1]
 have hW : withinB p 0 1 = true := by
  cases h : withinB p 0 1 with
  | true => rfl
  | false => exact absurd (.inl h) h1
 have hRt : rightB p = true := by
  cases h : rightB p with
  | true => rfl
  | false => unfold withinB at hW; rw [h] at hW; cases hW
 rw [hW] at cw
 rw [hRt] at cr
 have a1 : ¬ m < 0 := fun h => h1 (.inr (.inl h))
 have a2 : ¬ 100000 < m := fun h => h1 (.inr (.inr (.inl h)))
 have a3 : ¬ d < -100000 := fun h => h1 (.inr (.inr (.inr (.inl h))))
 have a4 : ¬ 100000 < d := fun h => h1 (.inr (.inr (.inr (.inr h))))
 have cm := mulF_fun p (whF d) hp (whF_fit hd)
 have c2 := within38_fun (mulF p (whF d)).1 (-m) m (mulF_fit _ _) (by omega) hm
 have v1 := whole38_fun d
 have v2 := whole38_fun m
 have v3 := whole38_fun (-m)
 have wm : IntKind.i64.wrap (-m) = -m := wrap64 (by omega) (by omega)
 generalize withinB (mulF p (whF d)).1 (-m) m = W at *
 generalize mulF p (whF d) = F at *
 obtain ⟨⟨fn, fd⟩, fe⟩ := F
 simp only [Frc.v, whF] at *
 rw [e] at hR
 refine IWp.seqI ?_
 simp [go_sem]
 refine IWp.seqI ?_
 simp [go_sem]
 refine cr.callF (by simp [go_sem]) ?_
 rintro _ rfl
 simp [go_sem]
 refine cw.callF (by simp [go_sem]) ?_
 rintro _ rfl
 simp [go_sem, a1, a2, a3, a4]
 refine IWp.seqI ?_
 refine Drawn.intro (fun k => if k = 2 then .agg [.int .i64 d, .int .i64 1] else if k = 3 then .tup [.agg [.int .i64 fn, .int .i64 fd], .int .i64 fe] else .tup []) ?_
 simp [go_sem, v1, cm]
 refine ⟨by decide +kernel, ?_⟩
 refine IWp.seqI ?_
 by_cases he : fe = 0
 case neg =>
  rw [if_pos he] at hR
  simp [go_sem, he]
  exact hR _ _ _ rfl (by simp [go_sem])
 rw [if_neg (by simp [he])] at hR
 subst he
 simp [go_sem, wm]
 refine c2.callF (by simp [go_sem]) ?_
 rintro _ rfl
 cases W with
 | true =>
  simp [go_sem]
  exact hR _ _ _ rfl (by simp [go_sem])
 | false =>
  by_cases hd0 : d < 0
  ·rw [if_pos hd0] at hR
   simp [go_sem, hd0, wm]
   refine v3.callF (by simp [go_sem]) ?_
   rintro _ rfl
   simp [go_sem]
   exact hR _ _ _ rfl (by simp [go_sem])
  ·rw [if_neg hd0] at hR
   simp [go_sem, hd0]
   refine IWp.now ?_
   simp [go_sem]
   refine v2.callF (by simp [go_sem]) ?_
   rintro _ rfl
   simp [go_sem]
   exact hR _ _ _ rfl (by simp [go_sem])
end Go.Idl
