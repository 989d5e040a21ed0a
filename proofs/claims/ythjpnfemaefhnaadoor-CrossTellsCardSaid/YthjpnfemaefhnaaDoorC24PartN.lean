/-
  frac: products of any numbers.
  Fractions in lowest terms (plain).
-/
import Derived.Test.YthjpnfemaefhnaaDoorC24PartD
import Derived.Lib.Mul64
namespace Go.Idl
set_option linter.all false
open Go.Proofs
set_option maxHeartbeats 8000000
set_option maxRecDepth 40000

theorem u64_low {a : Nat} (ha : a < 18446744073709551616) : bitsOf .and .u64 (a : Int) 4294967295 = ((a % 4294967296 : Nat) : Int) := by
  have e : (4294967295 : Int) = ((4294967295 : Nat) : Int) := rfl
  rw [e]
  simp only [bitsOf, BitVec.ofInt_natCast, BitVec.toNat_and, BitVec.toNat_ofNat, show IntKind.u64.bits = 64 from rfl]
  rw [Nat.mod_eq_of_lt (by omega), Nat.mod_eq_of_lt (by omega), show 4294967295 = 2 ^ 32 - 1 from rfl, Nat.and_two_pow_sub_one_eq_mod]
  exact wrapu (by omega) (by omega)
theorem fdiv32 (a : Nat) : (a : Int).fdiv 4294967296 = ((a / 4294967296 : Nat) : Int) := by rw [Int.fdiv_eq_ediv_of_nonneg _ (by decide)]; omega
theorem wrapuN (a : Nat) : IntKind.u64.wrap (a : Int) = ((a % 18446744073709551616 : Nat) : Int) := by
  simp [IntKind.wrap, IntKind.bits, IntKind.signed]
theorem mul64G_fun (x y : Nat) (hx : x < 18446744073709551616) (hy : y < 18446744073709551616) : FN 56 [.int .u64 (x : Int), .int .u64 (y : Int)] (fun v => v = .tup [.int .u64 ((x * y / 18446744073709551616 : Nat) : Int), .int .u64 ((x * y % 18446744073709551616 : Nat) : Int)]) := by
  refine IFun.of_bodyZ false 14 [] Tryd.func56 rfl Tryd.call56 rfl fun R hR => ?_
  obtain ⟨bd, bt, bw, hhi⟩ := Go.Lib.mul64_hi x y hx hy
  have ba := Go.Lib.half_mul_le (a := x / 4294967296) (b := y / 4294967296) (by omega) (by omega)
  have bb := Go.Lib.half_mul_le (a := x / 4294967296) (b := y % 4294967296) (by omega) (by omega)
  have bc := Go.Lib.half_mul_le (a := x % 4294967296) (b := y / 4294967296) (by omega) (by omega)
  have a1 := u64_low hx
  have a2 := u64_low hy
  have f1 := fdiv32 x
  have f2 := fdiv32 y
  have hx32 : x / 4294967296 < 18446744073709551616 := by omega
  have hy32 : y / 4294967296 < 18446744073709551616 := by omega
  have hlt : x * y / 18446744073709551616 < 18446744073709551616 := Nat.div_lt_of_lt_mul (Nat.mul_lt_mul'' hx hy)
  obtain ⟨lo, hlo⟩ : ∃ p : Nat, x * y % 18446744073709551616 = p := ⟨_, rfl⟩
  have hxy : IntKind.u64.wrap ((x : Int) * y) = lo := by rw [← Int.natCast_mul, wrapuN, hlo]
  obtain ⟨hi, hhe⟩ : ∃ p : Nat, x * y / 18446744073709551616 = p := ⟨_, rfl⟩
  rw [hhe] at hhi hlt hR
  rw [hlo] at hR
  generalize x / 4294967296 = x1 at *
  generalize x % 4294967296 = x0 at *
  generalize y / 4294967296 = y1 at *
  generalize y % 4294967296 = y0 at *
  have w0 : IntKind.u64.wrap ((x0 : Int) * y0) = ((x0 * y0 : Nat) : Int) := by rw [← Int.natCast_mul, wrapu (by omega) (by omega)]
  have w1 : IntKind.u64.wrap ((x1 : Int) * y0) = ((x1 * y0 : Nat) : Int) := by rw [← Int.natCast_mul, wrapu (by omega) (by omega)]
  have w2 : IntKind.u64.wrap ((x0 : Int) * y1) = ((x0 * y1 : Nat) : Int) := by rw [← Int.natCast_mul, wrapu (by omega) (by omega)]
  have w3 : IntKind.u64.wrap ((x1 : Int) * y1) = ((x1 * y1 : Nat) : Int) := by rw [← Int.natCast_mul, wrapu (by omega) (by omega)]
  generalize x0 * y0 = A at *
  generalize x1 * y0 = B at *
  generalize x0 * y1 = C at *
  generalize x1 * y1 = D at *
  have f3 := fdiv32 A
  have hA1 : A / 4294967296 < 18446744073709551616 := by omega
  generalize A / 4294967296 = A1 at *
  have v1 : IntKind.u64.wrap ((B : Int) + A1) = ((B + A1 : Nat) : Int) := by rw [← Int.natCast_add, wrapu (by omega) (by omega)]
  have va : IntKind.u64.wrap (A1 : Int) = A1 := wrapu (by omega) (by omega)
  have a3 := u64_low bt
  have f4 := fdiv32 (B + A1)
  generalize B + A1 = T at *
  have hT1 : T / 4294967296 < 18446744073709551616 := by omega
  have hT0 : T % 4294967296 < 4294967296 := by omega
  generalize T / 4294967296 = T1 at *
  generalize T % 4294967296 = T0 at *
  have vt : IntKind.u64.wrap (T1 : Int) = T1 := wrapu (by omega) (by omega)
  have v2 : IntKind.u64.wrap ((T0 : Int) + C) = ((T0 + C : Nat) : Int) := by rw [← Int.natCast_add, wrapu (by omega) (by omega)]
  have f5 := fdiv32 (T0 + C)
  generalize T0 + C = U at *
  have hU1 : U / 4294967296 < 18446744073709551616 := by omega
  generalize U / 4294967296 = U1 at *
  have vu : IntKind.u64.wrap (U1 : Int) = U1 := wrapu (by omega) (by omega)
  have v3 : IntKind.u64.wrap ((D : Int) + T1) = ((D + T1 : Nat) : Int) := by rw [← Int.natCast_add, wrapu (by omega) (by omega)]
  have v4 : IntKind.u64.wrap (((D + T1 : Nat) : Int) + U1) = hi := by rw [← Int.natCast_add, wrapu (by omega) (by omega)]; omega
  have vx : IntKind.u64.wrap (x1 : Int) = x1 := wrapu (by omega) (by omega)
  have vy : IntKind.u64.wrap (y1 : Int) = y1 := wrapu (by omega) (by omega)
  simp only [Int.natCast_add] at v3 v4
  simp [go_sem, f1, f2, a1, a2, vx, vy, w0, f3, va, w1, v1, a3, f4, vt, w2, v2, f5, vu, w3, v3, v4, hxy]
  refine hR _ _ _ rfl ?_
  simp [go_sem]
theorem productG_fun (x y : Nat) (hx : x < 18446744073709551616) (hy : y < 18446744073709551616) : FN 40 [.int .u64 (x : Int), .int .u64 (y : Int)] (fun v => v = .agg [.int .u64 ((x * y / 18446744073709551616 : Nat) : Int), .int .u64 ((x * y % 18446744073709551616 : Nat) : Int)]) := by
  refine IFun.of_bodyZ false 7 [] Tryd.func40 rfl Tryd.call40 rfl fun R hR => ?_
  have c := mul64G_fun x y hx hy
  generalize x * y / 18446744073709551616 = a at *
  generalize x * y % 18446744073709551616 = b at *
  simp [go_sem]
  refine c.callF (by simp [go_sem]) ?_
  rintro _ rfl
  simp [go_sem]
  refine hR _ _ _ rfl ?_
  simp [go_sem]
/-- A number of two words. -/
def wv (N : Nat) : IV := .agg [.int .u64 ((N / 18446744073709551616 : Nat) : Int), .int .u64 ((N % 18446744073709551616 : Nat) : Int)]
def nCmp (x y : Nat) : Int := if x < y then -1 else if y < x then 1 else 0
theorem wcmpG_fun (x y : Nat) : FN 42 [wv x, wv y] (fun v => v = .int .i64 (nCmp x y)) := by
  refine IFun.of_bodyZ false 7 [7, 8, 9, 16, 21] Tryd.func42 rfl Tryd.call42 rfl fun R hR => ?_
  unfold wv
  have ex := Nat.div_add_mod x 18446744073709551616
  have ey := Nat.div_add_mod y 18446744073709551616
  have lx := Nat.mod_lt x (show 18446744073709551616 > 0 by decide)
  have ly := Nat.mod_lt y (show 18446744073709551616 > 0 by decide)
  generalize x / 18446744073709551616 = x1 at *
  generalize x % 18446744073709551616 = x0 at *
  generalize y / 18446744073709551616 = y1 at *
  generalize y % 18446744073709551616 = y0 at *
  simp [go_sem]
  refine IWp.loopT (α := Nat) (fun i => (⟨false, 23, 7, [7, 8, 9, 16, 21], glT, [(3, .ptr 1 1 0 0), (7, .agg [.int .u64 (x1 : Int), .int .u64 (x0 : Int)]), (8, .int .i64 (i : Int))], []⟩, [.rows 2 [[.int .u64 (x1 : Int), .int .u64 (x0 : Int)]], .rows 2 [[.int .u64 (y1 : Int), .int .u64 (y0 : Int)]]]))
    (fun i => i ≤ 2 ∧ (1 ≤ i → x1 = y1) ∧ (i = 2 → x0 = y0)) (fun i => 2 - i) 0 ⟨by omega, by omega, by omega⟩ (by simp [go_sem]) ?_
  rintro i ⟨hi, hxy1, hxy0⟩
  rcases (by omega : i = 0 ∨ i = 1 ∨ i = 2) with rfl | rfl | rfl
  · by_cases h1 : x1 < y1
    · have e : nCmp x y = -1 := by unfold nCmp; rw [if_pos (by omega)]
      simp [go_sem, h1]
      exact hR _ _ _ rfl (by simp [go_sem, e])
    · by_cases h2 : y1 < x1
      · have e : nCmp x y = 1 := by unfold nCmp; rw [if_neg (by omega), if_pos (by omega)]
        simp [go_sem, h1, h2]
        exact hR _ _ _ rfl (by simp [go_sem, e])
      · simp [go_sem, h1, h2]
        exact ⟨1, by decide, by omega⟩
  · have := hxy1 (by omega)
    by_cases h1 : x0 < y0
    · have e : nCmp x y = -1 := by unfold nCmp; rw [if_pos (by omega)]
      simp [go_sem, h1]
      exact hR _ _ _ rfl (by simp [go_sem, e])
    · by_cases h2 : y0 < x0
      · have e : nCmp x y = 1 := by unfold nCmp; rw [if_neg (by omega), if_pos (by omega)]
        simp [go_sem, h1, h2]
        exact hR _ _ _ rfl (by simp [go_sem, e])
      · simp [go_sem, h1, h2]
        exact ⟨2, by decide, by omega, by omega⟩
  · have := hxy1 (by omega)
    have := hxy0 rfl
    have e : nCmp x y = 0 := by unfold nCmp; rw [if_neg (by omega), if_neg (by omega)]
    simp [go_sem]
    exact hR _ _ _ rfl (by simp [go_sem, e])
end Go.Idl
namespace Go.Idl
set_option linter.all false
open Go.Proofs

/-- u / d in lowest terms. -/
def lowF (u : Int) (d : Nat) : Frc := ⟨u / (Nat.gcd u.natAbs d : Nat), ((d / Nat.gcd u.natAbs d : Nat) : Int)⟩
theorem low_of {u a : Int} {d b g : Nat} (hg : 0 < g) (_hb : 0 < b) (hu : u = g * a) (hd : d = g * b) (hc : Nat.gcd a.natAbs b = 1) : lowF u d = ⟨a, b⟩ := by
  subst hu; subst hd
  have e : Nat.gcd ((g : Int) * a).natAbs (g * b) = g := by
    rw [Int.natAbs_mul, Int.natAbs_natCast, Nat.gcd_mul_left, hc, Nat.mul_one]
  unfold lowF
  rw [e, Int.mul_ediv_cancel_left _ (by omega), Nat.mul_div_cancel_left _ hg]
theorem low_ex (u : Int) {d : Nat} (hd : 0 < d) : ∃ (g : Nat) (a : Int) (b : Nat), 0 < g ∧ 0 < b ∧ u = g * a ∧ d = g * b ∧ Nat.gcd a.natAbs b = 1 ∧ lowF u d = ⟨a, b⟩ := by
  have hg : 0 < Nat.gcd u.natAbs d := Nat.gcd_pos_of_pos_right _ hd
  have h1 : ((Nat.gcd u.natAbs d : Nat) : Int) ∣ u := Int.ofNat_dvd_left.2 (Nat.gcd_dvd_left _ _)
  obtain ⟨a, ha⟩ := h1
  obtain ⟨b, hb⟩ := Nat.gcd_dvd_right u.natAbs d
  have hb0 : 0 < b := Nat.pos_of_ne_zero fun e => by rw [e, Nat.mul_zero] at hb; omega
  have hc : Nat.gcd a.natAbs b = 1 := by
    have e1 : u.natAbs = Nat.gcd u.natAbs d * a.natAbs := by
      have := congrArg Int.natAbs ha
      rwa [Int.natAbs_mul, Int.natAbs_natCast] at this
    have e2 : Nat.gcd (Nat.gcd u.natAbs d * a.natAbs) (Nat.gcd u.natAbs d * b) = Nat.gcd u.natAbs d := by rw [← e1, ← hb]
    rw [Nat.gcd_mul_left] at e2
    exact Nat.eq_of_mul_eq_mul_left hg (by rw [e2, Nat.mul_one])
  exact ⟨_, a, b, hg, hb0, ha, hb, hc, low_of hg hb0 ha hb hc⟩
theorem low_scale {u : Int} {d c : Nat} (hc : 0 < c) (hd : 0 < d) : lowF (c * u) (c * d) = lowF u d := by
  obtain ⟨g, a, b, h1, h2, h3, h4, h5, h6⟩ := low_ex u hd
  rw [h6]
  refine low_of (g := c * g) (Nat.mul_pos hc h1) h2 ?_ ?_ h5
  · rw [h3, Int.natCast_mul, Int.mul_assoc]
  · rw [h4, Nat.mul_assoc]
theorem low_add {a b : Int} {N : Nat} (hN : 0 < N) : lowF ((lowF a N).num * (lowF b N).den + (lowF b N).num * (lowF a N).den) ((lowF a N).den * (lowF b N).den).natAbs = lowF (a + b) N := by
  obtain ⟨g, p, q, h1, h2, h3, h4, h5, h6⟩ := low_ex a hN
  obtain ⟨h, r, s, k1, k2, k3, k4, k5, k6⟩ := low_ex b hN
  rw [h6, k6]
  simp only
  rw [← Int.natCast_mul, Int.natAbs_natCast]
  rw [← low_scale (c := g * h) (Nat.mul_pos h1 k1) (Nat.mul_pos h2 k2), ← low_scale (c := N) hN hN]
  have e1 : ((g * h : Nat) : Int) * (p * s + r * q) = N * (a + b) := by
    have e2 : ((g * h : Nat) : Int) * (p * s + r * q) = (g * p) * (h * s) + (h * r) * (g * q) := by
      rw [Int.natCast_mul, Int.mul_add]
      congr 1
      · rw [Int.mul_assoc, Int.mul_assoc]; congr 1; rw [← Int.mul_assoc, Int.mul_comm (h : Int) p, Int.mul_assoc]
      · rw [Int.mul_comm (g : Int) h, Int.mul_assoc, Int.mul_assoc]; congr 1; rw [← Int.mul_assoc, Int.mul_comm (g : Int) r, Int.mul_assoc]
    rw [e2, ← h3, ← k3, ← Int.natCast_mul, ← k4, ← Int.natCast_mul, ← h4, Int.mul_comm a, Int.mul_comm b, ← Int.mul_add]
  have e3 : g * h * (q * s) = N * N := by
    have : g * h * (q * s) = (g * q) * (h * s) := by rw [Nat.mul_assoc, Nat.mul_assoc]; congr 1; rw [← Nat.mul_assoc, Nat.mul_comm h q, Nat.mul_assoc]
    rw [this, ← h4, ← k4]
  rw [e1, e3]
theorem mk_low {u : Int} {d : Nat} (hd : 0 < d) (hd2 : (d : Int) < 2 ^ 63) (hu : -2 ^ 63 < u ∧ u < 2 ^ 63) : mkF u (d : Int) = (lowF u d, 0) := by
  obtain ⟨g, a, b, h1, h2, h3, h4, h5, h6⟩ := low_ex u hd
  have hg : Nat.gcd u.natAbs d = g := by
    rw [h3, h4, Int.natAbs_mul, Int.natAbs_natCast, Nat.gcd_mul_left, h5, Nat.mul_one]
  have hua : u.natAbs = g * a.natAbs := by rw [h3, Int.natAbs_mul, Int.natAbs_natCast]
  rw [h6]
  unfold mkF
  rw [if_neg (by omega), Int.natAbs_natCast, hg, hua, h4, Nat.mul_div_cancel_left _ h1, Nat.mul_div_cancel_left _ h1]
  have b1 : a.natAbs ≤ u.natAbs := by rw [hua]; exact Nat.le_mul_of_pos_left _ h1
  have b2 : b ≤ d := by rw [h4]; exact Nat.le_mul_of_pos_left _ h1
  have hs : (decide (u < 0) != decide (((g * b : Nat) : Int) < 0)) = decide (a < 0) := by
    have e1 : decide (((g * b : Nat) : Int) < 0) = false := by simp; omega
    rw [e1, Bool.bne_false, decide_eq_decide, h3]
    constructor
    · intro h
      rcases Int.lt_or_le a 0 with h' | h'
      · exact h'
      · have := Int.mul_nonneg (show (0 : Int) ≤ g by omega) h'
        omega
    · intro h; exact Int.mul_neg_of_pos_of_neg (by omega) h
  rw [hs]
  unfold packF
  by_cases ha : a < 0
  · simp only [ha, decide_true, if_true]
    rw [if_neg (by omega)]
    congr 2
    omega
  · simp only [ha, decide_false, Bool.false_eq_true, if_false]
    rw [if_neg (by omega)]
    congr 2
    omega
/-- A sum as the program makes it. -/
theorem add_low {u v : Int} {d p q : Nat} (hd : 0 < d) (hp : 0 < p) (hq : 0 < q) (hpq : Nat.gcd p q = 1) (hu : Nat.gcd u.natAbs (d * p) = 1) (hv : Nat.gcd v.natAbs (d * q) = 1) :
    lowF (u * (d * q : Nat) + v * (d * p : Nat)) (d * p * (d * q)) = ⟨(u * q + v * p) / (Nat.gcd d ((u * q + v * p).natAbs % d) : Nat), ((p * (d * q / Nat.gcd d ((u * q + v * p).natAbs % d)) : Nat) : Int)⟩ := by
  obtain ⟨t, ht⟩ : ∃ t, u * q + v * p = t := ⟨_, rfl⟩
  have e1 : u * (d * q : Nat) + v * (d * p : Nat) = d * t := by
    rw [← ht, Int.natCast_mul, Int.natCast_mul, Int.mul_add, ← Int.mul_assoc, ← Int.mul_assoc, ← Int.mul_assoc, ← Int.mul_assoc, Int.mul_comm (d : Int) u, Int.mul_comm (d : Int) v]
  rw [e1, ht]
  have e2 : Nat.gcd d (t.natAbs % d) = Nat.gcd t.natAbs d := by
    rw [Nat.gcd_comm d, ← Nat.gcd_rec, Nat.gcd_comm]
  rw [e2]
  have cp : Nat.gcd t.natAbs p = 1 := by
    have h1 : Nat.Coprime (u * q).natAbs p := by
      rw [Int.natAbs_mul, Int.natAbs_natCast]
      exact Nat.Coprime.mul_left (Nat.Coprime.coprime_dvd_right (Nat.dvd_mul_left p d) hu) (Nat.coprime_comm.1 hpq)
    have : Nat.gcd t.natAbs p ∣ 1 := by
      rw [← h1]
      refine Nat.dvd_gcd ?_ (Nat.gcd_dvd_right _ _)
      have h2 : ((Nat.gcd t.natAbs p : Nat) : Int) ∣ t := Int.ofNat_dvd_left.2 (Nat.gcd_dvd_left _ _)
      have h3 : ((Nat.gcd t.natAbs p : Nat) : Int) ∣ v * p := Int.dvd_trans (Int.natCast_dvd_natCast.2 (Nat.gcd_dvd_right _ _)) (Int.dvd_mul_left _ _)
      have h4 := Int.dvd_sub h2 h3
      rw [← ht, show u * (q : Int) + v * p - v * p = u * q by omega] at h4
      rw [ht] at h4
      exact Int.ofNat_dvd_left.1 h4
    exact Nat.dvd_one.1 this
  have cq : Nat.gcd t.natAbs q = 1 := by
    have h1 : Nat.Coprime (v * p).natAbs q := by
      rw [Int.natAbs_mul, Int.natAbs_natCast]
      exact Nat.Coprime.mul_left (Nat.Coprime.coprime_dvd_right (Nat.dvd_mul_left q d) hv) hpq
    have : Nat.gcd t.natAbs q ∣ 1 := by
      rw [← h1]
      refine Nat.dvd_gcd ?_ (Nat.gcd_dvd_right _ _)
      have h2 : ((Nat.gcd t.natAbs q : Nat) : Int) ∣ t := Int.ofNat_dvd_left.2 (Nat.gcd_dvd_left _ _)
      have h3 : ((Nat.gcd t.natAbs q : Nat) : Int) ∣ u * q := Int.dvd_trans (Int.natCast_dvd_natCast.2 (Nat.gcd_dvd_right _ _)) (Int.dvd_mul_left _ _)
      have h4 := Int.dvd_sub h2 h3
      rw [← ht, show u * (q : Int) + v * p - u * q = v * p by omega] at h4
      rw [ht] at h4
      exact Int.ofNat_dvd_left.1 h4
    exact Nat.dvd_one.1 this
  have hg : 0 < Nat.gcd t.natAbs d := Nat.gcd_pos_of_pos_right _ hd
  obtain ⟨g, hge⟩ : ∃ g, Nat.gcd t.natAbs d = g := ⟨_, rfl⟩
  obtain ⟨k, hk⟩ : g ∣ d := hge ▸ Nat.gcd_dvd_right _ _
  have htg : (g : Int) ∣ t := Int.ofNat_dvd_left.2 (hge ▸ Nat.gcd_dvd_left _ _)
  obtain ⟨s, hs⟩ := htg
  rw [hge] at hg ⊢
  have e3 : d * q / g = k * q := by rw [hk, Nat.mul_assoc, Nat.mul_div_cancel_left _ hg]
  have e4 : t / (g : Int) = s := by rw [hs, Int.mul_ediv_cancel_left _ (by omega)]
  have hk0 : 0 < k := Nat.pos_of_ne_zero fun e => by rw [e] at hk; omega
  rw [e3, e4]
  have hts : t.natAbs = g * s.natAbs := by rw [hs, Int.natAbs_mul, Int.natAbs_natCast]
  have hsd : s.natAbs ∣ t.natAbs := hts ▸ Nat.dvd_mul_left _ _
  refine low_of (g := d * g) (Nat.mul_pos hd hg) (Nat.mul_pos hp (Nat.mul_pos hk0 hq)) ?_ ?_ ?_
  · rw [hs, Int.natCast_mul, Int.mul_assoc]
  · have : d * p * (d * q) = d * (p * (d * q)) := Nat.mul_assoc _ _ _
    rw [this, Nat.mul_assoc]
    congr 1
    rw [hk]
    rw [Nat.mul_left_comm g p, Nat.mul_assoc g k q]
  · have c1 : Nat.Coprime s.natAbs p := Nat.Coprime.coprime_dvd_left hsd cp
    have c2 : Nat.Coprime s.natAbs q := Nat.Coprime.coprime_dvd_left hsd cq
    have c3 : Nat.Coprime s.natAbs k := by
      have : Nat.gcd (g * s.natAbs) (g * k) = g := by rw [← hts, ← hk]; exact hge
      rw [Nat.gcd_mul_left] at this
      exact Nat.eq_of_mul_eq_mul_left hg (by rw [this, Nat.mul_one])
    exact Nat.Coprime.mul_right c1 (Nat.Coprime.mul_right c3 c2)
end Go.Idl
