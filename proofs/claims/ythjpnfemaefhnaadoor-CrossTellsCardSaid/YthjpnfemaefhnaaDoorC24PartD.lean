/-
  Package frac: size, gcd, pack, Make, Right, Near.
  Package frac: Make, Right, Near.
  Lists of fractions.
-/
import Derived.Test.YthjpnfemaefhnaaDoorC24PartC
namespace Go.Idl
set_option linter.all false
open Go.Proofs
set_option maxHeartbeats 8000000
set_option maxRecDepth 40000

theorem wrapu {n : Int} (h1 : 0 ≤ n) (h2 : n < 18446744073709551616) : IntKind.u64.wrap n = n := by
  simp [IntKind.wrap, IntKind.bits, IntKind.signed]
  omega
theorem wrapu_neg {n : Int} (h1 : -18446744073709551616 ≤ n) (h2 : n < 0) : IntKind.u64.wrap n = n + 18446744073709551616 := by
  simp [IntKind.wrap, IntKind.bits, IntKind.signed]
  omega
theorem wrap64_top {n : Int} (h1 : 9223372036854775808 ≤ n) (h2 : n < 18446744073709551616) : IntKind.i64.wrap n = n - 18446744073709551616 := by
  simp [IntKind.wrap, IntKind.bits, IntKind.signed]
  omega
theorem size_fun (n : Int) (h : -2 ^ 63 ≤ n ∧ n < 2 ^ 63) : FN 41 [.int .i64 n] (fun v => v = .int .u64 (n.natAbs : Nat)) := by
  refine IFun.of_bodyZ false 3 [4] Tryd.func41 rfl Tryd.call41 rfl fun R hR => ?_
  by_cases h0 : n < 0
  · have w1 : IntKind.u64.wrap n = n + 18446744073709551616 := wrapu_neg (by omega) h0
    have w2 : IntKind.u64.wrap (0 - (n + 18446744073709551616)) = (n.natAbs : Nat) := by rw [wrapu_neg (by omega) (by omega)]; omega
    have w3 : IntKind.u64.wrap (-(n + 18446744073709551616)) = (n.natAbs : Nat) := by rw [← w2]; congr 1; omega
    simp [go_sem, h0, w1, w2, w3]
    exact hR _ _ _ rfl (by simp [go_sem])
  · have w1 : IntKind.u64.wrap n = (n.natAbs : Nat) := by rw [wrapu (by omega) (by omega)]; omega
    simp [go_sem, h0, w1]
    exact hR _ _ _ rfl (by simp [go_sem])
theorem gcd_step {a b : Nat} : Nat.gcd b (a % b) = Nat.gcd a b := by rw [Nat.gcd_comm a b, Nat.gcd_rec b a, Nat.gcd_comm]
theorem gcd_fun (a b : Nat) (ha : a < 2 ^ 64) (hb : b < 2 ^ 64) : FN 52 [.int .u64 (a : Int), .int .u64 (b : Int)] (fun v => v = .int .u64 (Nat.gcd a b : Nat)) := by
  refine IFun.of_bodyZ false 5 [6] Tryd.func52 rfl Tryd.call52 rfl fun R hR => ?_
  simp [go_sem]
  refine IWp.loopT (α := Nat × Nat) (fun x => (⟨false, 12, 5, [6], glT, [(0, .int .u64 (x.1 : Int)), (1, .int .u64 (x.2 : Int))], []⟩, []))
    (fun x => x.1 < 2 ^ 64 ∧ x.2 < 2 ^ 64 ∧ Nat.gcd x.1 x.2 = Nat.gcd a b) (fun x => x.2) (a, b) ⟨ha, hb, rfl⟩ (by simp [go_sem]) ?_
  rintro ⟨x, y⟩ ⟨hx, hy, hg⟩
  simp only at hx hy hg
  by_cases h : y = 0
  · subst h
    rw [Nat.gcd_zero_right] at hg
    simp [go_sem]
    exact hR _ _ _ rfl (by simp [go_sem, hg])
  · have h' : ¬ (y : Int) = 0 := by omega
    have e : (x : Int).tmod (y : Int) = ((x % y : Nat) : Int) := by rw [Int.tmod_eq_emod_of_nonneg (by omega)]; exact (Int.natCast_emod x y).symm
    have hlt := Nat.mod_lt x (show 0 < y by omega)
    obtain ⟨z, hz⟩ : ∃ z, x % y = z := ⟨_, rfl⟩
    have hgz : Nat.gcd y z = Nat.gcd a b := by rw [← hz, gcd_step, hg]
    rw [hz] at e hlt
    simp [go_sem, h, h', e]
    exact ⟨by decide +kernel, y, z, ⟨rfl, rfl⟩, ⟨by omega, by omega, hgz⟩, hlt⟩
/-- A fraction. -/
structure Frc where
  num : Int
  den : Int
  deriving DecidableEq
def Frc.c (f : Frc) : List IV := [.int .i64 f.num, .int .i64 f.den]
def Frc.v (f : Frc) : IV := .agg [.int .i64 f.num, .int .i64 f.den]
def packF (m : Bool) (n d : Nat) : Frc × Int := if (if m = true then 9223372036854775808 else 9223372036854775807) < n ∨ 9223372036854775807 < d then (⟨0, 0⟩, 3) else (⟨if m = true then -(n : Int) else n, d⟩, 0)
theorem pack_fun (m : Bool) (n0 n d0 d : Nat) (h0 : n0 < 2 ^ 64) (h1 : n < 2 ^ 64) (h2 : d0 < 2 ^ 64) (h3 : d < 2 ^ 64) : FN 53 [.bool m, .agg [.int .u64 (n0 : Int), .int .u64 (n : Int)], .agg [.int .u64 (d0 : Int), .int .u64 (d : Int)]]
    (fun v => v = .tup [(if n0 ≠ 0 ∨ d0 ≠ 0 then (⟨0, 0⟩ : Frc) else (packF m n d).1).v, .int .i64 (if n0 ≠ 0 ∨ d0 ≠ 0 then 3 else (packF m n d).2)]) := by
  refine IFun.of_bodyZ false 9 [9, 30, 32] Tryd.func53 rfl Tryd.call53 rfl fun R hR => ?_
  have wm : IntKind.u64.wrap 9223372036854775808 = 9223372036854775808 := by decide
  by_cases a0 : n0 = 0
  case neg =>
    have a0' : ¬ (n0 : Int) = 0 := by omega
    cases m
    all_goals
      simp [go_sem, a0, a0', wm]
      exact hR _ _ _ rfl (by simp [go_sem, a0, Frc.v])
  by_cases a1 : (if m = true then 9223372036854775808 else 9223372036854775807) < n
  · have hp : packF m n d = (⟨0, 0⟩, 3) := by unfold packF; rw [if_pos (.inl a1)]
    cases m
    · have a1' : (9223372036854775807 : Int) < n := by simp at a1; omega
      simp [go_sem, a0, a1', wm]
      exact hR _ _ _ rfl (by simp [go_sem, a0, hp, Frc.v])
    · have a1' : (9223372036854775808 : Int) < n := by simp at a1; omega
      simp [go_sem, a0, a1', wm]
      exact hR _ _ _ rfl (by simp [go_sem, a0, hp, Frc.v])
  have b1 : m = false → ¬ (9223372036854775807 : Int) < n := fun e => by subst e; simp at a1; omega
  have b2 : m = true → ¬ (9223372036854775808 : Int) < n := fun e => by subst e; simp at a1; omega
  by_cases a2 : d0 = 0
  case neg =>
    have a2' : ¬ (d0 : Int) = 0 := by omega
    cases m
    · have b := b1 rfl
      simp [go_sem, a0, b, a2, a2', wm]
      exact hR _ _ _ rfl (by simp [go_sem, a2, Frc.v])
    · have b := b2 rfl
      simp [go_sem, a0, b, a2, a2', wm]
      exact hR _ _ _ rfl (by simp [go_sem, a2, Frc.v])
  by_cases a3 : 9223372036854775807 < d
  · have a3' : (9223372036854775807 : Int) < d := by omega
    have hp : packF m n d = (⟨0, 0⟩, 3) := by unfold packF; rw [if_pos (.inr a3)]
    cases m
    · have b := b1 rfl
      simp [go_sem, a0, b, a2, a3', wm]
      exact hR _ _ _ rfl (by simp [go_sem, hp, Frc.v])
    · have b := b2 rfl
      simp [go_sem, a0, b, a2, a3', wm]
      exact hR _ _ _ rfl (by simp [go_sem, hp, Frc.v])
  have a3' : ¬ (9223372036854775807 : Int) < d := by omega
  have w1 : IntKind.i64.wrap (d : Int) = d := wrap64 (by omega) (by omega)
  have hp : packF m n d = (⟨if m = true then -(n : Int) else n, d⟩, 0) := by unfold packF; rw [if_neg (by omega)]
  cases m
  · have b := b1 rfl
    have w2 : IntKind.i64.wrap (n : Int) = n := wrap64 (by omega) (by omega)
    simp [go_sem, a0, b, a2, a3', w1, w2, wm]
    exact hR _ _ _ rfl (by simp [go_sem, a0, a2, hp, Frc.v])
  · have b := b2 rfl
    obtain ⟨z, hz⟩ : ∃ z, IntKind.u64.wrap (0 - (n : Int)) = z := ⟨_, rfl⟩
    have hz' : IntKind.u64.wrap (-(n : Int)) = z := by rw [← hz]; congr 1; omega
    have w2 : IntKind.i64.wrap z = -(n : Int) := by
      by_cases hn : n = 0
      · subst hn; rw [← hz]; decide
      · rw [← hz, wrapu_neg (by omega) (by omega)]
        rw [wrap64_top (by omega) (by omega)]; omega
    simp [go_sem, a0, b, a2, a3', w1, hz, hz', w2, wm]
    exact hR _ _ _ rfl (by simp [go_sem, a0, a2, hp, Frc.v])
end Go.Idl
namespace Go.Idl
set_option linter.all false
open Go.Proofs
set_option maxHeartbeats 8000000
set_option maxRecDepth 40000

def mkF (n d : Int) : Frc × Int := if d = 0 then (⟨0, 0⟩, 2) else packF (decide (n < 0) != decide (d < 0)) (n.natAbs / Nat.gcd n.natAbs d.natAbs) (d.natAbs / Nat.gcd n.natAbs d.natAbs)
theorem makeF_fun (n d : Int) (hn : -2 ^ 63 ≤ n ∧ n < 2 ^ 63) (hd : -2 ^ 63 ≤ d ∧ d < 2 ^ 63) : FN 31 [.int .i64 n, .int .i64 d] (fun v => v = .tup [(mkF n d).1.v, .int .i64 (mkF n d).2]) := by
  refine IFun.of_bodyZ false 9 [10] Tryd.func31 rfl Tryd.call31 rfl fun R hR => ?_
  by_cases h0 : d = 0
  · subst h0
    simp [go_sem]
    exact hR _ _ _ rfl (by simp [go_sem, mkF, Frc.v])
  have c1 := size_fun n hn
  have c2 := size_fun d hd
  have hm : mkF n d = packF (decide (n < 0) != decide (d < 0)) (n.natAbs / Nat.gcd n.natAbs d.natAbs) (d.natAbs / Nat.gcd n.natAbs d.natAbs) := by unfold mkF; rw [if_neg h0]
  obtain ⟨a, ha⟩ : ∃ a, n.natAbs = a := ⟨_, rfl⟩
  obtain ⟨b, hb⟩ : ∃ b, d.natAbs = b := ⟨_, rfl⟩
  have hbp : 0 < b := by omega
  have c3 := gcd_fun a b (by omega) (by omega)
  have hgp := Nat.gcd_pos_of_pos_right a hbp
  have hq1 := Nat.div_le_self a (Nat.gcd a b)
  have hq2 := Nat.div_le_self b (Nat.gcd a b)
  rw [ha, hb] at hm
  rw [ha] at c1
  rw [hb] at c2
  obtain ⟨g, hg⟩ : ∃ g, Nat.gcd a b = g := ⟨_, rfl⟩
  rw [hg] at hm hgp hq1 hq2 c3
  have d1 : (a : Int).tdiv (g : Int) = ((a / g : Nat) : Int) := (Int.tdiv_eq_ediv_of_nonneg (by omega)).trans (Int.natCast_ediv a g).symm
  have d2 : (b : Int).tdiv (g : Int) = ((b / g : Nat) : Int) := (Int.tdiv_eq_ediv_of_nonneg (by omega)).trans (Int.natCast_ediv b g).symm
  obtain ⟨x, hx⟩ : ∃ x, a / g = x := ⟨_, rfl⟩
  obtain ⟨y, hy⟩ : ∃ y, b / g = y := ⟨_, rfl⟩
  rw [hx] at hm d1 hq1
  rw [hy] at hm d2 hq2
  have w1 : IntKind.u64.wrap (x : Int) = x := wrapu (by omega) (by omega)
  have w2 : IntKind.u64.wrap (y : Int) = y := wrapu (by omega) (by omega)
  have hgz : ¬ (g : Int) = 0 := by omega
  have hgz' : ¬ g = 0 := by omega
  have c4 := pack_fun (decide (n < 0) != decide (d < 0)) 0 x 0 y (by omega) (by omega) (by omega) (by omega)
  simp only [ne_eq, not_true_eq_false, or_self, if_false, Frc.v] at c4
  rw [← hm, show ((0 : Nat) : Int) = 0 from rfl] at c4
  simp [go_sem, h0]
  refine c1.callF (by simp [go_sem]) ?_
  rintro _ rfl
  simp [go_sem]
  refine c2.callF (by simp [go_sem]) ?_
  rintro _ rfl
  simp [go_sem]
  refine c3.callF (by simp [go_sem]) ?_
  rintro _ rfl
  simp [go_sem]
  refine Drawn.intro (fun k => if k = 13 then .tup [.agg [.int .i64 (mkF n d).1.num, .int .i64 (mkF n d).1.den], .int .i64 (mkF n d).2] else .tup []) ?_
  generalize mkF n d = F at *
  simp [go_sem, d1, d2, w1, w2, hgz, hgz', c4]
  refine ⟨by decide +kernel, ?_⟩
  exact hR _ _ _ rfl (by simp [go_sem, Frc.v])
def rightB (f : Frc) : Bool := decide (0 < f.den) && Nat.gcd f.num.natAbs f.den.natAbs == 1
theorem right_fun (f : Frc) (hn : -2 ^ 63 ≤ f.num ∧ f.num < 2 ^ 63) (hd : -2 ^ 63 ≤ f.den ∧ f.den < 2 ^ 63) : FN 39 [f.v] (fun v => v = .bool (rightB f)) := by
  refine IFun.of_bodyZ false 3 [] Tryd.func39 rfl Tryd.call39 rfl fun R hR => ?_
  obtain ⟨n, d⟩ := f
  simp only at hn hd
  by_cases h0 : 0 < d
  · have c1 := size_fun n hn
    have c2 := size_fun d hd
    have c3 := gcd_fun n.natAbs d.natAbs (by omega) (by omega)
    have hr : rightB ⟨n, d⟩ = (Nat.gcd n.natAbs d.natAbs == 1) := by unfold rightB; simp [h0]
    generalize n.natAbs = a at *
    generalize d.natAbs = b at *
    generalize Nat.gcd a b = g at *
    simp [go_sem, Frc.v]
    refine Drawn.intro (fun k => if k = 6 then .int .u64 (a : Int) else if k = 9 then .int .u64 (b : Int) else if k = 10 then .int .u64 (g : Int) else .tup []) ?_
    simp [go_sem, h0, c1, c2, c3]
    refine ⟨by decide +kernel, ?_⟩
    refine hR _ _ _ rfl ?_
    simp [go_sem, hr]
    rw [Bool.eq_iff_iff]
    simp
    omega
  · have hr : rightB ⟨n, d⟩ = false := by unfold rightB; simp [h0]
    simp [go_sem, Frc.v]
    refine Drawn.intro (fun k => .tup []) ?_
    simp [go_sem, h0]
    refine ⟨by decide +kernel, ?_⟩
    exact hR _ _ _ rfl (by simp [go_sem, hr])
def nearI (f : Frc) : Int := (if f.num < 0 then -1 else 1) * ((f.num.natAbs / f.den.natAbs + if f.den.natAbs ≤ 2 * (f.num.natAbs % f.den.natAbs) then 1 else 0 : Nat) : Int)
theorem near_fun (f : Frc) (hn : -2 ^ 63 ≤ f.num ∧ f.num < 2 ^ 63) (hd : -2 ^ 63 ≤ f.den ∧ f.den < 2 ^ 63) : FN 38 [f.v] (fun v => v = .tup [.int .i64 (if rightB f = true then nearI f else 0), .int .i64 (if rightB f = true then 0 else 2)]) := by
  refine IFun.of_bodyZ false 8 [10, 26, 31] Tryd.func38 rfl Tryd.call38 rfl fun R hR => ?_
  have cr := right_fun f hn hd
  have hpos : rightB f = true → 0 < f.den := fun h => by unfold rightB at h; simp at h; exact h.1
  have hni : nearI f = (if f.num < 0 then -1 else 1) * ((f.num.natAbs / f.den.natAbs + if f.den.natAbs ≤ 2 * (f.num.natAbs % f.den.natAbs) then 1 else 0 : Nat) : Int) := rfl
  generalize rightB f = rb at *
  generalize nearI f = ni at *
  obtain ⟨n, d⟩ := f
  simp only [Frc.v] at hn hd cr hpos hni
  simp [go_sem, Frc.v]
  refine cr.callF (by simp [go_sem]) ?_
  rintro _ rfl
  cases rb with
  | false =>
    simp [go_sem]
    exact hR _ _ _ rfl (by simp [go_sem])
  | true =>
    have hd0 := hpos rfl
    have c1 := size_fun n hn
    have c2 := size_fun d hd
    obtain ⟨a, ha⟩ : ∃ a, n.natAbs = a := ⟨_, rfl⟩
    obtain ⟨b, hb⟩ : ∃ b, d.natAbs = b := ⟨_, rfl⟩
    rw [ha] at c1 hni
    rw [hb] at c2 hni
    have hb0 : 0 < b := by omega
    have d1 : (a : Int).tdiv (b : Int) = ((a / b : Nat) : Int) := (Int.tdiv_eq_ediv_of_nonneg (by omega)).trans (Int.natCast_ediv a b).symm
    have d2 : (a : Int).tmod (b : Int) = ((a % b : Nat) : Int) := (Int.tmod_eq_emod_of_nonneg (by omega)).trans (Int.natCast_emod a b).symm
    have hq := Nat.div_le_self a b
    have hr := Nat.mod_lt a hb0
    have hdm := Nat.div_add_mod a b
    obtain ⟨q, hqe⟩ : ∃ q, a / b = q := ⟨_, rfl⟩
    obtain ⟨r, hre⟩ : ∃ r, a % b = r := ⟨_, rfl⟩
    rw [hqe] at d1 hq hni hdm
    rw [hre] at d2 hr hni hdm
    have hq2 : b ≤ 2 * r → 2 * q ≤ 2 ^ 63 := fun h => by
      have : 2 ≤ b := by omega
      have := Nat.mul_le_mul_right q this
      omega
    have hbz : ¬ (b : Int) = 0 := by omega
    have hbz' : ¬ b = 0 := by omega
    have w1 : IntKind.u64.wrap (q : Int) = q := wrapu (by omega) (by omega)
    have w2 : IntKind.u64.wrap (2 * (r : Int)) = 2 * r := wrapu (by omega) (by omega)
    have w3 : IntKind.u64.wrap ((q : Int) + 1) = q + 1 := wrapu (by omega) (by omega)
    have neg : ∀ z : Nat, (z : Int) ≤ 9223372036854775808 → n < 0 → IntKind.i64.wrap (IntKind.u64.wrap (-(z : Int))) = -(z : Int) := fun z hz _ => by
      by_cases h0 : z = 0
      · subst h0; decide
      · rw [wrapu_neg (by omega) (by omega), wrap64_top (by omega) (by omega)]; omega
    have pos : ∀ z : Nat, (z : Int) ≤ 9223372036854775807 → IntKind.i64.wrap (z : Int) = z := fun z hz => wrap64 (by omega) (by omega)
    simp [go_sem]
    refine Drawn.intro (fun k => if k = 2 then .int .u64 (a : Int) else if k = 5 then .int .u64 (b : Int) else .tup []) ?_
    simp [go_sem, c1, c2, hbz, hbz', d1, d2, w1]
    refine ⟨by decide +kernel, by decide +kernel, ?_⟩
    by_cases hh : b ≤ 2 * r
    · have hh' : (b : Int) ≤ 2 * r := by omega
      have := hq2 hh
      rw [if_pos hh] at hni
      by_cases hs : n < 0
      · have e := neg (q + 1) (by omega) hs
        simp only [Int.natCast_add, Int.natCast_one] at e
        rw [if_pos hs] at hni
        simp [go_sem, w2, hh', w3, hs, e]
        exact hR _ _ _ rfl (by simp [go_sem, hni])
      · have e := pos (q + 1) (by omega)
        simp only [Int.natCast_add, Int.natCast_one] at e
        rw [if_neg hs] at hni
        simp [go_sem, w2, hh', w3, hs, e]
        exact hR _ _ _ rfl (by simp [go_sem, hni])
    · have hh' : ¬ (b : Int) ≤ 2 * r := by omega
      rw [if_neg hh] at hni
      by_cases hs : n < 0
      · have e := neg q (by omega) hs
        rw [if_pos hs] at hni
        simp [go_sem, w2, hh', hs, e]
        exact hR _ _ _ rfl (by simp [go_sem, hni])
      · have e := pos q (by omega)
        rw [if_neg hs] at hni
        simp [go_sem, w2, hh', hs, e]
        exact hR _ _ _ rfl (by simp [go_sem, hni])
end Go.Idl
namespace Go.Idl
set_option linter.all false
open Go.Proofs

def frs (l : List Frc) : List (List IV) := mp Frc.c l
@[simp] theorem frs_length (l : List Frc) : (frs l).length = l.length := mp_length
@[simp] theorem frs_getElem (l : List Frc) (i : Nat) (h : i < (frs l).length) : (frs l)[i] = [.int .i64 (l[i]'(by simpa using h)).num, .int .i64 (l[i]'(by simpa using h)).den] := by simp [frs, mp, Frc.c]
theorem frs_snoc {l : List Frc} {x : Frc} : frs (l ++ [x]) = frs l ++ [[.int .i64 x.num, .int .i64 x.den]] := mp_snoc
theorem frs_cons {l : List Frc} {x : Frc} : frs (x :: l) = [.int .i64 x.num, .int .i64 x.den] :: frs l := rfl
@[go_sem] theorem frs_nil : frs [] = [] := rfl
@[go_sem] theorem ScR_frs {l : List Frc} : ScR (frs l) = True := eq_true (mp_sc (by simp [scal, Frc.c]))
@[go_sem] theorem ClR_frs {l : List Frc} : ClR (frs l) = True := eq_true (ScR.cl (mp_sc (by simp [scal, Frc.c])))
@[go_sem] theorem BlR_frs {n : Nat} {l : List Frc} : BlR n (frs l) = True := eq_true (ScR.bl (mp_sc (by simp [scal, Frc.c])))
theorem frs_one {l : List Frc} : ∀ a ∈ frs l, a.length = 2 ∧ ∀ x ∈ a, IV.one x = true := rows_one (mp_sc (by simp [scal, Frc.c])) (mp_rows (by simp [Frc.c]))
end Go.Idl
