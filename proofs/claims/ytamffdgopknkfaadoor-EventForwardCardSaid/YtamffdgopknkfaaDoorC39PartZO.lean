/-
  Lists of fractions.
  Fractions in lowest terms (plain).
  frac: numbers of two words: plus, minus, over.
  frac: add, of small numbers.
-/
import Derived.Test.YtamffdgopknkfaaDoorC39PartZM
import Derived.Test.YtamffdgopknkfaaDoorIdlPartK
import Derived.Shelf.Spec.BitsCarry
namespace Go.Idl
set_option linter.all false
open Go.Proofs

def frs (l : List Frc) : List (List IV) := mp Frc.c l
@[simp] theorem frs_length (l : List Frc) : (frs l).length = l.length := mp_length
@[simp] theorem frs_getElem (l : List Frc) (i : Nat) (h : i < (frs l).length) : (frs l)[i] = [.int .i64 (l[i]'(by simpa using h)).num, .int .i64 (l[i]'(by simpa using h)).den] := by simp [frs, mp, Frc.c]
@[go_sem] theorem frs_nil : frs [] = [] := rfl
@[go_sem] theorem ScR_frs {l : List Frc} : ScR (frs l) = True := eq_true (mp_sc (by simp [scal, Frc.c]))
@[go_sem] theorem ClR_frs {l : List Frc} : ClR (frs l) = True := eq_true (ScR.cl (mp_sc (by simp [scal, Frc.c])))
@[go_sem] theorem BlR_frs {n : Nat} {l : List Frc} : BlR n (frs l) = True := eq_true (ScR.bl (mp_sc (by simp [scal, Frc.c])))
end Go.Idl
namespace Go.Idl
set_option linter.all false
open Go.Proofs

/-- u / d in lowest terms. -/
def lowF (u : Int) (d : Nat) : Frc := ⟨u / (Nat.gcd u.natAbs d : Nat), ((d / Nat.gcd u.natAbs d : Nat) : Int)⟩
theorem low_of {u a : Int} {d b g : Nat} (hg : 0 < g) (_hb : 0 < b) (hu : u = g * a) (hd : d = g * b) (hc : Nat.gcd a.natAbs b = 1) : lowF u d = ⟨a, b⟩ := by
  subst hu; subst hd
  have e : Nat.gcd ((g : Int) * a).natAbs (g * b) = g := by
    rw [Int.natAbs_mul, Int.natAbs_natCast, Nat.gcd_mul_left, hc, Nat.mul_one]
  unfold lowF
  rw [e, Int.mul_ediv_cancel_left _ (by omega), Nat.mul_div_cancel_left _ hg]
theorem low_ex (u : Int) {d : Nat} (hd : 0 < d) : ∃ (g : Nat) (a : Int) (b : Nat), 0 < g ∧ 0 < b ∧ u = g * a ∧ d = g * b ∧ Nat.gcd a.natAbs b = 1 ∧ lowF u d = ⟨a, b⟩ := by
  have hg : 0 < Nat.gcd u.natAbs d := Nat.gcd_pos_of_pos_right _ hd
  have h1 : ((Nat.gcd u.natAbs d : Nat) : Int) ∣ u := Int.ofNat_dvd_left.2 (Nat.gcd_dvd_left _ _)
  obtain ⟨a, ha⟩ := h1
  obtain ⟨b, hb⟩ := Nat.gcd_dvd_right u.natAbs d
  have hb0 : 0 < b := Nat.pos_of_ne_zero fun e => by rw [e, Nat.mul_zero] at hb; omega
  have hc : Nat.gcd a.natAbs b = 1 := by
    have e1 : u.natAbs = Nat.gcd u.natAbs d * a.natAbs := by
      have := congrArg Int.natAbs ha
      rwa [Int.natAbs_mul, Int.natAbs_natCast] at this
    have e2 : Nat.gcd (Nat.gcd u.natAbs d * a.natAbs) (Nat.gcd u.natAbs d * b) = Nat.gcd u.natAbs d := by rw [← e1, ← hb]
    rw [Nat.gcd_mul_left] at e2
    exact Nat.eq_of_mul_eq_mul_left hg (by rw [e2, Nat.mul_one])
  exact ⟨_, a, b, hg, hb0, ha, hb, hc, low_of hg hb0 ha hb hc⟩
theorem low_scale {u : Int} {d c : Nat} (hc : 0 < c) (hd : 0 < d) : lowF (c * u) (c * d) = lowF u d := by
  obtain ⟨g, a, b, h1, h2, h3, h4, h5, h6⟩ := low_ex u hd
  rw [h6]
  refine low_of (g := c * g) (Nat.mul_pos hc h1) h2 ?_ ?_ h5
  · rw [h3, Int.natCast_mul, Int.mul_assoc]
  · rw [h4, Nat.mul_assoc]
theorem low_add {a b : Int} {N : Nat} (hN : 0 < N) : lowF ((lowF a N).num * (lowF b N).den + (lowF b N).num * (lowF a N).den) ((lowF a N).den * (lowF b N).den).natAbs = lowF (a + b) N := by
  obtain ⟨g, p, q, h1, h2, h3, h4, h5, h6⟩ := low_ex a hN
  obtain ⟨h, r, s, k1, k2, k3, k4, k5, k6⟩ := low_ex b hN
  rw [h6, k6]
  simp only
  rw [← Int.natCast_mul, Int.natAbs_natCast]
  rw [← low_scale (c := g * h) (Nat.mul_pos h1 k1) (Nat.mul_pos h2 k2), ← low_scale (c := N) hN hN]
  have e1 : ((g * h : Nat) : Int) * (p * s + r * q) = N * (a + b) := by
    have e2 : ((g * h : Nat) : Int) * (p * s + r * q) = (g * p) * (h * s) + (h * r) * (g * q) := by
      rw [Int.natCast_mul, Int.mul_add]
      congr 1
      · rw [Int.mul_assoc, Int.mul_assoc]; congr 1; rw [← Int.mul_assoc, Int.mul_comm (h : Int) p, Int.mul_assoc]
      · rw [Int.mul_comm (g : Int) h, Int.mul_assoc, Int.mul_assoc]; congr 1; rw [← Int.mul_assoc, Int.mul_comm (g : Int) r, Int.mul_assoc]
    rw [e2, ← h3, ← k3, ← Int.natCast_mul, ← k4, ← Int.natCast_mul, ← h4, Int.mul_comm a, Int.mul_comm b, ← Int.mul_add]
  have e3 : g * h * (q * s) = N * N := by
    have : g * h * (q * s) = (g * q) * (h * s) := by rw [Nat.mul_assoc, Nat.mul_assoc]; congr 1; rw [← Nat.mul_assoc, Nat.mul_comm h q, Nat.mul_assoc]
    rw [this, ← h4, ← k4]
  rw [e1, e3]
theorem mk_low {u : Int} {d : Nat} (hd : 0 < d) (hd2 : (d : Int) < 2 ^ 63) (hu : -2 ^ 63 < u ∧ u < 2 ^ 63) : mkF u (d : Int) = (lowF u d, 0) := by
  obtain ⟨g, a, b, h1, h2, h3, h4, h5, h6⟩ := low_ex u hd
  have hg : Nat.gcd u.natAbs d = g := by
    rw [h3, h4, Int.natAbs_mul, Int.natAbs_natCast, Nat.gcd_mul_left, h5, Nat.mul_one]
  have hua : u.natAbs = g * a.natAbs := by rw [h3, Int.natAbs_mul, Int.natAbs_natCast]
  rw [h6]
  unfold mkF
  rw [if_neg (by omega), Int.natAbs_natCast, hg, hua, h4, Nat.mul_div_cancel_left _ h1, Nat.mul_div_cancel_left _ h1]
  have b1 : a.natAbs ≤ u.natAbs := by rw [hua]; exact Nat.le_mul_of_pos_left _ h1
  have b2 : b ≤ d := by rw [h4]; exact Nat.le_mul_of_pos_left _ h1
  have hs : (decide (u < 0) != decide (((g * b : Nat) : Int) < 0)) = decide (a < 0) := by
    have e1 : decide (((g * b : Nat) : Int) < 0) = false := by simp; omega
    rw [e1, Bool.bne_false, decide_eq_decide, h3]
    constructor
    · intro h
      rcases Int.lt_or_le a 0 with h' | h'
      · exact h'
      · have := Int.mul_nonneg (show (0 : Int) ≤ g by omega) h'
        omega
    · intro h; exact Int.mul_neg_of_pos_of_neg (by omega) h
  rw [hs]
  unfold packF
  by_cases ha : a < 0
  · simp only [ha, decide_true, if_true]
    rw [if_neg (by omega)]
    congr 2
    omega
  · simp only [ha, decide_false, Bool.false_eq_true, if_false]
    rw [if_neg (by omega)]
    congr 2
    omega
/-- A sum as the program makes it. -/
theorem add_low {u v : Int} {d p q : Nat} (hd : 0 < d) (hp : 0 < p) (hq : 0 < q) (hpq : Nat.gcd p q = 1) (hu : Nat.gcd u.natAbs (d * p) = 1) (hv : Nat.gcd v.natAbs (d * q) = 1) :
    lowF (u * (d * q : Nat) + v * (d * p : Nat)) (d * p * (d * q)) = ⟨(u * q + v * p) / (Nat.gcd d ((u * q + v * p).natAbs % d) : Nat), ((p * (d * q / Nat.gcd d ((u * q + v * p).natAbs % d)) : Nat) : Int)⟩ := by
  obtain ⟨t, ht⟩ : ∃ t, u * q + v * p = t := ⟨_, rfl⟩
  have e1 : u * (d * q : Nat) + v * (d * p : Nat) = d * t := by
    rw [← ht, Int.natCast_mul, Int.natCast_mul, Int.mul_add, ← Int.mul_assoc, ← Int.mul_assoc, ← Int.mul_assoc, ← Int.mul_assoc, Int.mul_comm (d : Int) u, Int.mul_comm (d : Int) v]
  rw [e1, ht]
  have e2 : Nat.gcd d (t.natAbs % d) = Nat.gcd t.natAbs d := by
    rw [Nat.gcd_comm d, ← Nat.gcd_rec, Nat.gcd_comm]
  rw [e2]
  have cp : Nat.gcd t.natAbs p = 1 := by
    have h1 : Nat.Coprime (u * q).natAbs p := by
      rw [Int.natAbs_mul, Int.natAbs_natCast]
      exact Nat.Coprime.mul_left (Nat.Coprime.coprime_dvd_right (Nat.dvd_mul_left p d) hu) (Nat.coprime_comm.1 hpq)
    have : Nat.gcd t.natAbs p ∣ 1 := by
      rw [← h1]
      refine Nat.dvd_gcd ?_ (Nat.gcd_dvd_right _ _)
      have h2 : ((Nat.gcd t.natAbs p : Nat) : Int) ∣ t := Int.ofNat_dvd_left.2 (Nat.gcd_dvd_left _ _)
      have h3 : ((Nat.gcd t.natAbs p : Nat) : Int) ∣ v * p := Int.dvd_trans (Int.natCast_dvd_natCast.2 (Nat.gcd_dvd_right _ _)) (Int.dvd_mul_left _ _)
      have h4 := Int.dvd_sub h2 h3
      rw [← ht, show u * (q : Int) + v * p - v * p = u * q by omega] at h4
      rw [ht] at h4
      exact Int.ofNat_dvd_left.1 h4
    exact Nat.dvd_one.1 this
  have cq : Nat.gcd t.natAbs q = 1 := by
    have h1 : Nat.Coprime (v * p).natAbs q := by
      rw [Int.natAbs_mul, Int.natAbs_natCast]
      exact Nat.Coprime.mul_left (Nat.Coprime.coprime_dvd_right (Nat.dvd_mul_left q d) hv) hpq
    have : Nat.gcd t.natAbs q ∣ 1 := by
      rw [← h1]
      refine Nat.dvd_gcd ?_ (Nat.gcd_dvd_right _ _)
      have h2 : ((Nat.gcd t.natAbs q : Nat) : Int) ∣ t := Int.ofNat_dvd_left.2 (Nat.gcd_dvd_left _ _)
      have h3 : ((Nat.gcd t.natAbs q : Nat) : Int) ∣ u * q := Int.dvd_trans (Int.natCast_dvd_natCast.2 (Nat.gcd_dvd_right _ _)) (Int.dvd_mul_left _ _)
      have h4 := Int.dvd_sub h2 h3
      rw [← ht, show u * (q : Int) + v * p - u * q = v * p by omega] at h4
      rw [ht] at h4
      exact Int.ofNat_dvd_left.1 h4
    exact Nat.dvd_one.1 this
  have hg : 0 < Nat.gcd t.natAbs d := Nat.gcd_pos_of_pos_right _ hd
  obtain ⟨g, hge⟩ : ∃ g, Nat.gcd t.natAbs d = g := ⟨_, rfl⟩
  obtain ⟨k, hk⟩ : g ∣ d := hge ▸ Nat.gcd_dvd_right _ _
  have htg : (g : Int) ∣ t := Int.ofNat_dvd_left.2 (hge ▸ Nat.gcd_dvd_left _ _)
  obtain ⟨s, hs⟩ := htg
  rw [hge] at hg ⊢
  have e3 : d * q / g = k * q := by rw [hk, Nat.mul_assoc, Nat.mul_div_cancel_left _ hg]
  have e4 : t / (g : Int) = s := by rw [hs, Int.mul_ediv_cancel_left _ (by omega)]
  have hk0 : 0 < k := Nat.pos_of_ne_zero fun e => by rw [e] at hk; omega
  rw [e3, e4]
  have hts : t.natAbs = g * s.natAbs := by rw [hs, Int.natAbs_mul, Int.natAbs_natCast]
  have hsd : s.natAbs ∣ t.natAbs := hts ▸ Nat.dvd_mul_left _ _
  refine low_of (g := d * g) (Nat.mul_pos hd hg) (Nat.mul_pos hp (Nat.mul_pos hk0 hq)) ?_ ?_ ?_
  · rw [hs, Int.natCast_mul, Int.mul_assoc]
  · have : d * p * (d * q) = d * (p * (d * q)) := Nat.mul_assoc _ _ _
    rw [this, Nat.mul_assoc]
    congr 1
    rw [hk]
    rw [Nat.mul_left_comm g p, Nat.mul_assoc g k q]
  · have c1 : Nat.Coprime s.natAbs p := Nat.Coprime.coprime_dvd_left hsd cp
    have c2 : Nat.Coprime s.natAbs q := Nat.Coprime.coprime_dvd_left hsd cq
    have c3 : Nat.Coprime s.natAbs k := by
      have : Nat.gcd (g * s.natAbs) (g * k) = g := by rw [← hts, ← hk]; exact hge
      rw [Nat.gcd_mul_left] at this
      exact Nat.eq_of_mul_eq_mul_left hg (by rw [this, Nat.mul_one])
    exact Nat.Coprime.mul_right c1 (Nat.Coprime.mul_right c3 c2)
end Go.Idl
namespace Go.Idl
set_option linter.all false
open Go.Proofs
set_option maxHeartbeats 8000000
set_option maxRecDepth 40000

theorem vrs3 {μ : Mu} {F : Fz} {w : World} {vs : List Value} {k1 k2 k3 : IntKind} {x y z : Int} (h : VRs μ F w vs [.int k1 x, .int k2 y, .int k3 z]) : vs = [.int k1 x, .int k2 y, .int k3 z] := by
  obtain ⟨hl, hv⟩ := h
  match vs, hl with
  | [a, b, c], _ =>
    have h1 := hv 0 _ _ rfl rfl
    have h2 := hv 1 _ _ rfl rfl
    have h3 := hv 2 _ _ rfl rfl
    cases h1; cases h2; cases h3; rfl
theorem vr_two {μ : Mu} {F : Fz} {w : World} {x y : Int} : VR μ F w (.tuple #[.int .u64 x, .int .u64 y]) (.tup [.int .u64 x, .int .u64 y]) := by
  refine VR.tup [.int .u64 x, .int .u64 y] _ rfl fun j v c h1 h2 => ?_
  match j with
  | 0 => simp at h1 h2; subst h1; subst h2; exact .int _ _
  | 1 => simp at h1 h2; subst h1; subst h2; exact .int _ _
  | j + 2 => simp at h1
theorem add64_e (x y c : Nat) (hc : c ≤ 1) : ECall Tryd.prog 94 [.int .u64 (x : Int), .int .u64 (y : Int), .int .u64 (c : Int)] (.tup [.int .u64 (((x + y + c) % 18446744073709551616 : Nat) : Int), .int .u64 (((x + y + c) / 18446744073709551616 : Nat) : Int)]) := by
  intro μ F w vs hv
  obtain rfl := vrs3 hv
  refine ⟨_, ?_, vr_two⟩
  rw [run_callFunc_extern Tryd.func94 (by kernel_rfl) (by kernel_rfl) (by kernel_rfl) (e := add64Entry) (by kernel_rfl), run_add64 x y c (by omega) (by omega) (by omega) (by omega)]
  simp only [Result.andThen]
  congr 5 <;> omega
theorem sub64_e (x y c : Nat) (hc : c ≤ 1) : ECall Tryd.prog 95 [.int .u64 (x : Int), .int .u64 (y : Int), .int .u64 (c : Int)] (.tup [.int .u64 (((x + 18446744073709551616 - y - c) % 18446744073709551616 : Nat) : Int), .int .u64 ((if x < y + c then 1 else 0 : Nat) : Int)]) := by
  intro μ F w vs hv
  obtain rfl := vrs3 hv
  refine ⟨_, ?_, vr_two⟩
  rw [run_callFunc_extern Tryd.func95 (by kernel_rfl) (by kernel_rfl) (by kernel_rfl) (e := sub64Entry) (by kernel_rfl)]
  rw [run_sub64 x y c hc w]
  rfl
theorem plus_fun (X Y : Nat) (h : X + Y < 340282366920938463463374607431768211456) : FN 79 [wv X, wv Y] (fun v => v = wv (X + Y)) := by
  refine IFun.of_bodyW false 29 [] Tryd.func79 rfl Tryd.call79 rfl fun R hR => ?_
  have eX := Nat.div_add_mod X 18446744073709551616
  have eY := Nat.div_add_mod Y 18446744073709551616
  have lX := Nat.mod_lt X (show 18446744073709551616 > 0 by decide)
  have lY := Nat.mod_lt Y (show 18446744073709551616 > 0 by decide)
  have a1 : (X + Y) % 18446744073709551616 = (X % 18446744073709551616 + Y % 18446744073709551616 + 0) % 18446744073709551616 := by omega
  have a2 : (X + Y) / 18446744073709551616 = (X / 18446744073709551616 + Y / 18446744073709551616 + (X % 18446744073709551616 + Y % 18446744073709551616 + 0) / 18446744073709551616) % 18446744073709551616 := by omega
  have a3 : (X % 18446744073709551616 + Y % 18446744073709551616 + 0) / 18446744073709551616 ≤ 1 := by omega
  unfold wv at hR ⊢
  rw [a1, a2] at hR
  generalize X / 18446744073709551616 = x1 at *
  generalize X % 18446744073709551616 = x0 at *
  generalize Y / 18446744073709551616 = y1 at *
  generalize Y % 18446744073709551616 = y0 at *
  have c1 := add64_e x0 y0 0 (by omega)
  generalize (x0 + y0 + 0) / 18446744073709551616 = c at *
  generalize (x0 + y0 + 0) % 18446744073709551616 = L at *
  have c2 := add64_e x1 y1 c a3
  generalize (x1 + y1 + c) % 18446744073709551616 = H at *
  generalize (x1 + y1 + c) / 18446744073709551616 = H2 at *
  refine IWp.seqI ?_
  simp [go_sem]
  refine IWp.seq (IWp.regionX 4 rfl rfl fun K hK => ?_)
  simp [go_sem]
  refine hK _ _ ⟨_, _, _, rfl, by simp [go_sem], c1, ?_⟩
  clear hK K
  simp [go_sem]
  refine IWp.seq (IWp.regionX 5 rfl rfl fun K hK => ?_)
  simp [go_sem]
  refine hK _ _ ⟨_, _, _, rfl, by simp [go_sem], c2, ?_⟩
  clear hK K
  simp [go_sem]
  refine IWp.now ?_
  simp [go_sem]
  exact hR _ _ _ rfl (by simp [go_sem])
theorem minus_fun (X Y : Nat) (h : Y ≤ X) (hX : X < 340282366920938463463374607431768211456) : FN 80 [wv X, wv Y] (fun v => v = wv (X - Y)) := by
  refine IFun.of_bodyW false 29 [] Tryd.func80 rfl Tryd.call80 rfl fun R hR => ?_
  have eX := Nat.div_add_mod X 18446744073709551616
  have eY := Nat.div_add_mod Y 18446744073709551616
  have lX := Nat.mod_lt X (show 18446744073709551616 > 0 by decide)
  have lY := Nat.mod_lt Y (show 18446744073709551616 > 0 by decide)
  obtain ⟨c, hc⟩ : ∃ c, (if X % 18446744073709551616 < Y % 18446744073709551616 + 0 then 1 else 0 : Nat) = c := ⟨_, rfl⟩
  have a3 : c ≤ 1 := by rw [← hc]; split <;> omega
  have a1 : (X - Y) % 18446744073709551616 = (X % 18446744073709551616 + 18446744073709551616 - Y % 18446744073709551616 - 0) % 18446744073709551616 := by omega
  have a2 : (X - Y) / 18446744073709551616 = (X / 18446744073709551616 + 18446744073709551616 - Y / 18446744073709551616 - c) % 18446744073709551616 := by
    rw [← hc]; split <;> omega
  unfold wv at hR ⊢
  rw [a1, a2] at hR
  generalize X / 18446744073709551616 = x1 at *
  generalize X % 18446744073709551616 = x0 at *
  generalize Y / 18446744073709551616 = y1 at *
  generalize Y % 18446744073709551616 = y0 at *
  have c1 := sub64_e x0 y0 0 (by omega)
  rw [hc] at c1
  generalize (x0 + 18446744073709551616 - y0 - 0) % 18446744073709551616 = L at *
  have c2 := sub64_e x1 y1 c a3
  generalize (x1 + 18446744073709551616 - y1 - c) % 18446744073709551616 = H at *
  generalize (if x1 < y1 + c then 1 else 0 : Nat) = H2 at *
  refine IWp.seqI ?_
  simp [go_sem]
  refine IWp.seq (IWp.regionX 4 rfl rfl fun K hK => ?_)
  simp [go_sem]
  refine hK _ _ ⟨_, _, _, rfl, by simp [go_sem], c1, ?_⟩
  clear hK K
  simp [go_sem]
  refine IWp.seq (IWp.regionX 5 rfl rfl fun K hK => ?_)
  simp [go_sem]
  refine hK _ _ ⟨_, _, _, rfl, by simp [go_sem], c2, ?_⟩
  clear hK K
  simp [go_sem]
  refine IWp.now ?_
  simp [go_sem]
  exact hR _ _ _ rfl (by simp [go_sem])
theorem wv_small {X : Nat} (h : X < 18446744073709551616) : wv X = .agg [.int .u64 0, .int .u64 (X : Int)] := by
  unfold wv
  rw [Nat.div_eq_of_lt h, Nat.mod_eq_of_lt h]; rfl
theorem div64_fun (x y : Nat) (hx : x < 18446744073709551616) (hy : y < 18446744073709551616) (h0 : 0 < y) : FN 96 [.int .u64 0, .int .u64 (x : Int), .int .u64 (y : Int)] (fun v => v = .tup [.int .u64 ((x / y : Nat) : Int), .int .u64 ((x % y : Nat) : Int)]) := by
  refine IFun.of_bodyZ false 19 [20, 24, 27, 78, 85, 113, 120] Tryd.func96 rfl Tryd.call96 rfl fun R hR => ?_
  have d1 : (x : Int).tdiv (y : Int) = ((x / y : Nat) : Int) := (Int.tdiv_eq_ediv_of_nonneg (by omega)).trans (Int.natCast_ediv x y).symm
  have d2 : (x : Int).tmod (y : Int) = ((x % y : Nat) : Int) := (Int.tmod_eq_emod_of_nonneg (by omega)).trans (Int.natCast_emod x y).symm
  have hq := Nat.div_le_self x y
  have hr := Nat.mod_lt x h0
  generalize x / y = q at *
  generalize x % y = r at *
  have w1 : IntKind.u64.wrap (q : Int) = q := wrapu (by omega) (by omega)
  have hz : ¬ (y : Int) = 0 := by omega
  have hz' : ¬ y = 0 := by omega
  have hz2 : ¬ (y : Int) ≤ 0 := by omega
  simp [go_sem, hz, hz', hz2, d1, d2, w1]
  refine ⟨by decide +kernel, ?_⟩
  exact hR _ _ _ rfl (by simp [go_sem])
theorem fover_fun (X d : Nat) (hX : X < 18446744073709551616) (h0 : 0 < d) (hd : d < 18446744073709551616) : FN 81 [wv X, .int .u64 (d : Int)] (fun v => v = .tup [wv (X / d), .int .u64 ((X % d : Nat) : Int)]) := by
  refine IFun.of_bodyZ false 9 [] Tryd.func81 rfl Tryd.call81 rfl fun R hR => ?_
  have c := div64_fun X d hX hd h0
  have hq := Nat.div_le_self X d
  rw [wv_small hX]
  rw [wv_small (show X / d < 18446744073709551616 by omega)] at hR
  generalize X / d = q at *
  generalize X % d = r at *
  have hz : ¬ (d : Int) = 0 := by omega
  have hz' : ¬ d = 0 := by omega
  have w0 : IntKind.u64.wrap 0 = 0 := by decide
  have d0 : (0 : Int).tdiv d = 0 := by simp
  have m0 : (0 : Int).tmod d = 0 := by simp
  simp [go_sem, hz, hz', w0]
  refine ⟨by decide +kernel, ?_⟩
  refine c.callF (by simp [go_sem]) ?_
  rintro _ rfl
  simp [go_sem]
  exact hR _ _ _ rfl (by simp [go_sem])
end Go.Idl
namespace Go.Idl
set_option linter.all false
open Go.Proofs
set_option maxHeartbeats 8000000
set_option maxRecDepth 40000

theorem rightB_gcd {f : Frc} (h : rightB f = true) : 0 < f.den ∧ Nat.gcd f.num.natAbs f.den.natAbs = 1 := by
  unfold rightB at h
  simpa using h
theorem prodS_fun {x y : Nat} (hx : x < 2 ^ 32) (hy : y < 2 ^ 32) : x * y < 18446744073709551616 ∧ FN 62 [.int .u64 (x : Int), .int .u64 (y : Int)] (fun v => v = .agg [.int .u64 0, .int .u64 ((x * y : Nat) : Int)]) := by
  have hp := Nat.mul_lt_mul'' hx hy
  refine ⟨by omega, ?_⟩
  have := productG_fun x y (by omega) (by omega)
  rw [Nat.div_eq_of_lt (by omega), Nat.mod_eq_of_lt (by omega)] at this
  exact this
theorem add_fun (f g : Frc) (m : Bool) (s : Int) (hf : Sml f) (hg : Sml g) (hs : s.natAbs = g.num.natAbs) (hm : m = true → s ≤ 0) (hm' : m = false → 0 ≤ s) :
    FN 61 [f.v, g.v, .bool m] (fun v => v = .tup [(lowF (f.num * g.den + s * f.den) (f.den.natAbs * g.den.natAbs)).v, .int .i64 0]) := by
  refine IFun.of_bodyW false 18 [48, 55] Tryd.func61 rfl Tryd.call61 rfl fun R hR => ?_
  obtain ⟨hf1, hf2, hf3⟩ := hf
  obtain ⟨hg1, hg2, hg3⟩ := hg
  obtain ⟨-, cf⟩ := rightB_gcd hf3
  obtain ⟨-, cg⟩ := rightB_gcd hg3
  obtain ⟨u, fd⟩ := f
  obtain ⟨v, gd⟩ := g
  simp only [Frc.v] at *
  obtain ⟨F, hF⟩ : ∃ F : Nat, fd = F := ⟨fd.natAbs, by omega⟩
  obtain ⟨G, hG⟩ : ∃ G : Nat, gd = G := ⟨gd.natAbs, by omega⟩
  subst hF; subst hG
  rw [Int.natAbs_natCast] at *
  rw [Int.natAbs_natCast] at *
  rw [← hs] at cg
  have s1 := size_fun u (by omega)
  have s2 := size_fun v (by omega)
  have s3 := size_fun F (by omega)
  have s4 := size_fun G (by omega)
  rw [Int.natAbs_natCast] at s3 s4
  rw [← hs] at s2
  have c5 := gcd_fun F G (by omega) (by omega)
  have hd0 : 0 < Nat.gcd F G := Nat.gcd_pos_of_pos_left _ (by omega)
  obtain ⟨p, hp⟩ := Nat.gcd_dvd_left F G
  obtain ⟨q, hq⟩ := Nat.gcd_dvd_right F G
  have hpq : Nat.gcd p q = 1 := by
    have e := Nat.gcd_mul_left (Nat.gcd F G) p q
    rw [← hp, ← hq] at e
    exact Nat.eq_of_mul_eq_mul_left hd0 (by rw [← e, Nat.mul_one])
  obtain ⟨d, hd⟩ : ∃ d, Nat.gcd F G = d := ⟨_, rfl⟩
  rw [hd] at hp hq hd0 c5
  have hp0 : 0 < p := Nat.pos_of_ne_zero fun e => by rw [e] at hp; omega
  have hq0 : 0 < q := Nat.pos_of_ne_zero fun e => by rw [e] at hq; omega
  have hpF : p ≤ F := by rw [hp]; exact Nat.le_mul_of_pos_left _ hd0
  have hqG : q ≤ G := by rw [hq]; exact Nat.le_mul_of_pos_left _ hd0
  have hdF : d ≤ F := by rw [hp]; exact Nat.le_mul_of_pos_right _ hp0
  have hL := add_low (u := u) (v := s) hd0 hp0 hq0 hpq (by rw [← hp]; exact cf) (by rw [← hq]; exact cg)
  rw [← hp, ← hq] at hL
  rw [hL] at hR
  have dF : (F : Int).tdiv (d : Int) = (p : Int) := by
    rw [Int.tdiv_eq_ediv_of_nonneg (by omega), ← Int.natCast_ediv, hp, Nat.mul_div_cancel_left _ hd0]
  have dG : (G : Int).tdiv (d : Int) = (q : Int) := by
    rw [Int.tdiv_eq_ediv_of_nonneg (by omega), ← Int.natCast_ediv, hq, Nat.mul_div_cancel_left _ hd0]
  have hdz : ¬ (d : Int) = 0 := by omega
  have hdz' : ¬ d = 0 := by omega
  have wp : IntKind.u64.wrap (p : Int) = p := wrapu (by omega) (by omega)
  have wq : IntKind.u64.wrap (q : Int) = q := wrapu (by omega) (by omega)
  obtain ⟨hA, cA⟩ := prodS_fun (x := u.natAbs) (y := q) (by omega) (by omega)
  obtain ⟨hB, cB⟩ := prodS_fun (x := s.natAbs) (y := p) (by omega) (by omega)
  have hA2 : u.natAbs * q ≤ 2 ^ 30 * 2 ^ 30 := Nat.mul_le_mul (by omega) (by omega)
  have hB2 : s.natAbs * p ≤ 2 ^ 30 * 2 ^ 30 := Nat.mul_le_mul (by omega) (by omega)
  have tA : u * (q : Int) = if u < 0 then -((u.natAbs * q : Nat) : Int) else ((u.natAbs * q : Nat) : Int) := by
    rw [Int.natCast_mul]
    split
    · rw [show (u.natAbs : Int) = -u by omega, Int.neg_mul]; omega
    · rw [show (u.natAbs : Int) = u by omega]
  have tB : s * (p : Int) = if m = true then -((s.natAbs * p : Nat) : Int) else ((s.natAbs * p : Nat) : Int) := by
    rw [Int.natCast_mul]
    cases m with
    | true => rw [if_pos rfl, show (s.natAbs : Int) = -s by have := hm rfl; omega, Int.neg_mul]; omega
    | false => rw [if_neg (by simp), show (s.natAbs : Int) = s by have := hm' rfl; omega]
  generalize u.natAbs * q = A at *
  generalize s.natAbs * p = B at *
  have cP := plus_fun A B (by omega)
  rw [wv_small hA, wv_small hB, wv_small (show A + B < 18446744073709551616 by omega)] at cP
  have cC := wcmpG_fun A B
  rw [wv_small hA, wv_small hB] at cC
  obtain ⟨t, ht⟩ : ∃ t, u * q + s * p = t := ⟨_, rfl⟩
  rw [ht] at hR
  rw [tA, tB] at ht
  have w0 : IntKind.i64.wrap 0 = 0 := by decide
  refine IWp.seqI ?_
  simp [go_sem]
  refine IWp.seqI ?_
  refine Drawn.intro (fun k => if k = 2 then .int .u64 (F : Int) else if k = 5 then .int .u64 (G : Int) else .tup []) ?_
  simp [go_sem, s3, s4]
  refine ⟨by decide +kernel, ?_⟩
  refine IWp.seqI ?_
  simp [go_sem]
  refine c5.callF (by simp [go_sem]) ?_
  rintro _ rfl
  simp [go_sem]
  refine IWp.seqI ?_
  refine Drawn.intro (fun k => if k = 2 then .int .u64 (u.natAbs : Int) else if k = 6 then .agg [.int .u64 0, .int .u64 (A : Int)] else .tup []) ?_
  simp [go_sem, s1, hdz, hdz', dG, wq, cA]
  refine ⟨by decide +kernel, ?_⟩
  refine IWp.seqI ?_
  refine Drawn.intro (fun k => if k = 2 then .int .u64 (s.natAbs : Int) else if k = 6 then .agg [.int .u64 0, .int .u64 (B : Int)] else .tup []) ?_
  simp [go_sem, s2, hdz, hdz', dF, wp, cB]
  refine ⟨by decide +kernel, ?_⟩
  refine IWp.seqI ?_
  simp [go_sem]
  refine IWp.seqI ?_
  simp [go_sem]
  refine IWp.seqT (α := Nat × Bool) (fun x => (⟨false, 90, 18, [48, 55], glT, [(6, .ptr 2 1 0 0), (7, .int .i64 0), (8, .int .u64 (F : Int)), (9, .int .u64 (G : Int)), (10, .int .u64 (d : Int)), (13, .bool x.2), (14, .ptr 19 1 0 0)], []⟩,
    [.dead, .dead, .rows 2 [[.int .i64 0, .int .i64 0]], .dead, .dead, .dead, .dead, .dead, .dead, .dead, .dead, .dead, .dead, .dead, .dead, .dead, .dead, .dead, .dead, .rows 2 [[.int .u64 0, .int .u64 (x.1 : Int)]]]))
    (fun x => x.1 ≤ 2 ^ 61 ∧ t = if x.2 = true then -(x.1 : Int) else x.1) ?_ ?_
  · by_cases h1 : decide (u < 0) = m
    · have ht' : t = if m = true then -((A + B : Nat) : Int) else ((A + B : Nat) : Int) := by
        rw [← ht, ← h1]
        by_cases hu : u < 0
        · simp [hu]; omega
        · simp [hu]
      simp [go_sem, h1]
      refine cP.callF (by simp [go_sem]) ?_
      rintro _ rfl
      simp [go_sem]
      refine ⟨A + B, ?_⟩
      cases m <;> simp at ht' ⊢ <;> omega
    · by_cases h2 : B ≤ A
      · have cM := minus_fun A B h2 (by omega)
        rw [wv_small hA, wv_small hB, wv_small (show A - B < 18446744073709551616 by omega)] at cM
        have h3 : nCmp A B = if B < A then 1 else 0 := by unfold nCmp; split <;> split <;> omega
        have h4 : 0 ≤ nCmp A B := by rw [h3]; split <;> omega
        generalize nCmp A B = N at *
        simp [go_sem, h1]
        refine cC.callF (by simp [go_sem]) ?_
        rintro _ rfl
        simp [go_sem, h4]
        refine cM.callF (by simp [go_sem]) ?_
        rintro _ rfl
        simp [go_sem]
        refine ⟨A - B, ?_⟩
        rw [← ht]
        cases m <;> by_cases hu : u < 0 <;> simp [hu] at h1 ⊢ <;> omega
      · have cM := minus_fun B A (by omega) (by omega)
        rw [wv_small hA, wv_small hB, wv_small (show B - A < 18446744073709551616 by omega)] at cM
        have h4 : ¬ 0 ≤ nCmp A B := by unfold nCmp; rw [if_pos (by omega)]; omega
        generalize nCmp A B = N at *
        simp [go_sem, h1]
        refine cC.callF (by simp [go_sem]) ?_
        rintro _ rfl
        simp [go_sem, h4]
        refine cM.callF (by simp [go_sem]) ?_
        rintro _ rfl
        simp [go_sem]
        refine ⟨B - A, ?_⟩
        rw [← ht]
        cases m <;> by_cases hu : u < 0 <;> simp [hu] at h1 ⊢ <;> omega
  rintro ⟨N, sg⟩ ⟨hN, htN⟩
  simp only at hN htN
  have hNt : t.natAbs = N := by rw [htN]; split <;> omega
  rw [hNt] at hR
  have hN64 : N < 18446744073709551616 := by omega
  have cO := fover_fun N d hN64 hd0 (by omega)
  have hrd := Nat.mod_lt N hd0
  have cG := gcd_fun d (N % d) (by omega) (by omega)
  have hNd := Nat.div_le_self N d
  rw [wv_small hN64, wv_small (show N / d < 18446744073709551616 by omega)] at cO
  have hg0 : 0 < Nat.gcd d (N % d) := Nat.gcd_pos_of_pos_left _ hd0
  have hgN : Nat.gcd d (N % d) ∣ N := by
    rw [Nat.gcd_comm, ← Nat.gcd_rec]; exact Nat.gcd_dvd_right _ _
  have hgd : Nat.gcd d (N % d) ≤ d := Nat.gcd_le_left _ hd0
  generalize N / d = Nq at *
  generalize N % d = Nr at *
  generalize Nat.gcd d Nr = h at *
  obtain ⟨n, hn⟩ := hgN
  have cO2 := fover_fun N h hN64 hg0 (by omega)
  have hNh : N / h = n := by rw [hn, Nat.mul_div_cancel_left _ hg0]
  have hnN : n ≤ N := by rw [hn]; exact Nat.le_mul_of_pos_left _ hg0
  rw [wv_small hN64, hNh, wv_small (show n < 18446744073709551616 by omega)] at cO2
  have dH : (G : Int).tdiv (h : Int) = ((G / h : Nat) : Int) := (Int.tdiv_eq_ediv_of_nonneg (by omega)).trans (Int.natCast_ediv G h).symm
  have hGh := Nat.div_le_self G h
  generalize N % h = Nh at *
  obtain ⟨r, hr⟩ : ∃ r, G / h = r := ⟨_, rfl⟩
  rw [hr] at dH hGh hR
  obtain ⟨hD, cD⟩ := prodS_fun (x := p) (y := r) (by omega) (by omega)
  have hD2 : p * r ≤ 2 ^ 30 * 2 ^ 30 := Nat.mul_le_mul (by omega) (by omega)
  have wr : IntKind.u64.wrap (r : Int) = r := wrapu (by omega) (by omega)
  have hhz : ¬ (h : Int) = 0 := by omega
  have hhz' : ¬ h = 0 := by omega
  generalize p * r = D at *
  have c4 := pack_fun sg 0 n 0 D (by omega) (by omega) (by omega) (by omega)
  have hP : packF sg n D = (⟨if sg = true then -(n : Int) else n, D⟩, 0) := by unfold packF; rw [if_neg (by split <;> omega)]
  have hres : t / (h : Int) = if sg = true then -(n : Int) else n := by
    rw [htN]
    split
    · rw [hn, Int.natCast_mul, ← Int.mul_neg, Int.mul_ediv_cancel_left _ (by omega)]
    · rw [hn, Int.natCast_mul, Int.mul_ediv_cancel_left _ (by omega)]
  simp only [ne_eq, not_true_eq_false, or_self, if_false, Frc.v, hP] at c4
  rw [show ((0 : Nat) : Int) = 0 from rfl] at c4
  rw [hres] at hR
  generalize (if sg = true then -(n : Int) else n) = V at *
  refine IWp.seqI ?_
  simp [go_sem]
  refine cO.callF (by simp [go_sem]) ?_
  rintro _ rfl
  simp [go_sem]
  refine IWp.seqI ?_
  simp [go_sem]
  refine cG.callF (by simp [go_sem]) ?_
  rintro _ rfl
  simp [go_sem]
  refine IWp.seqI ?_
  simp [go_sem]
  refine cO2.callF (by simp [go_sem]) ?_
  rintro _ rfl
  simp [go_sem]
  refine IWp.seqI ?_
  refine Drawn.intro (fun k => if k = 8 then .agg [.int .u64 0, .int .u64 (D : Int)] else if k = 9 then .tup [.agg [.int .i64 V, .int .i64 (D : Int)], .int .i64 0] else .tup []) ?_
  simp [go_sem, hdz, hdz', hhz, hhz', dF, dH, wp, wr, cD, c4]
  refine ⟨by decide +kernel, ?_⟩
  refine IWp.now ?_
  simp [go_sem]
  exact hR _ _ _ rfl (by simp [go_sem])
/-- A fraction in lowest terms of a small number. -/
theorem low_sml {u : Int} {N : Nat} (hN : 0 < N) (hN2 : N ≤ 2 ^ 30) (hu : -2 ^ 30 ≤ u ∧ u ≤ 2 ^ 30) : Sml (lowF u N) := by
  obtain ⟨g, a, b, h1, h2, h3, h4, h5, h6⟩ := low_ex u hN
  rw [h6]
  have e1 : u.natAbs = g * a.natAbs := by rw [h3, Int.natAbs_mul, Int.natAbs_natCast]
  have b1 : a.natAbs ≤ u.natAbs := by rw [e1]; exact Nat.le_mul_of_pos_left _ h1
  have b2 : b ≤ N := by rw [h4]; exact Nat.le_mul_of_pos_left _ h1
  refine ⟨⟨by simp only; omega, by simp only; omega⟩, ⟨by simp only; omega, by simp only; omega⟩, ?_⟩
  unfold rightB
  simp [h2, h5]
theorem add_lows {a b : Int} {N : Nat} (hN : 0 < N) (hN2 : N ≤ 2 ^ 30) (ha : -2 ^ 30 ≤ a ∧ a ≤ 2 ^ 30) (hb : -2 ^ 30 ≤ b ∧ b ≤ 2 ^ 30) :
    FN 61 [(lowF a N).v, (lowF b N).v, .bool (decide ((lowF b N).num < 0))] (fun v => v = .tup [(lowF (a + b) N).v, .int .i64 0]) := by
  have h := add_fun (lowF a N) (lowF b N) (decide ((lowF b N).num < 0)) (lowF b N).num (low_sml hN hN2 ha) (low_sml hN hN2 hb) rfl (fun h => by simp at h; omega) (fun h => by simpa using h)
  rw [← Int.natAbs_mul, low_add hN] at h
  exact h
theorem lowF_zero {N : Nat} (h : 0 < N) : lowF 0 N = ⟨0, 1⟩ := low_of (g := N) (a := 0) (b := 1) h (by omega) (by simp) (by simp) (by simp)
end Go.Idl
