/-
  frac: Cmp, of small numbers.
  Chapter 24: the order of the results (plain).
-/
import Derived.Test.YthjpnfemaefhnaaDoorC24PartD
import Derived.Test.YthjpnfemaefhnaaDoorC24PartH
namespace Go.Idl
set_option linter.all false
open Go.Proofs
set_option maxHeartbeats 8000000
set_option maxRecDepth 40000

theorem u64_lo {a : Nat} (ha : a < 2 ^ 32) : bitsOf .and .u64 (a : Int) 4294967295 = (a : Int) := by
  have e : (4294967295 : Int) = ((4294967295 : Nat) : Int) := rfl
  rw [e]
  simp only [bitsOf, BitVec.ofInt_natCast, BitVec.toNat_and, BitVec.toNat_ofNat, show IntKind.u64.bits = 64 from rfl]
  rw [Nat.mod_eq_of_lt (by omega), Nat.mod_eq_of_lt (by omega), show 4294967295 = 2 ^ 32 - 1 from rfl, Nat.and_two_pow_sub_one_eq_mod, Nat.mod_eq_of_lt ha]
  exact wrapu (by omega) (by omega)
theorem mul64_fun (x y : Nat) (hx : x < 2 ^ 31) (hy : y < 2 ^ 31) : FN 56 [.int .u64 (x : Int), .int .u64 (y : Int)] (fun v => v = .tup [.int .u64 0, .int .u64 ((x * y : Nat) : Int)]) := by
  refine IFun.of_bodyZ false 14 [] Tryd.func56 rfl Tryd.call56 rfl fun R hR => ?_
  have hp : x * y < 2 ^ 62 := by
    have := Nat.mul_lt_mul'' hx hy
    omega
  have f1 : (x : Int).fdiv 4294967296 = 0 := by rw [Int.fdiv_eq_ediv_of_nonneg _ (by decide)]; omega
  have f2 : (y : Int).fdiv 4294967296 = 0 := by rw [Int.fdiv_eq_ediv_of_nonneg _ (by decide)]; omega
  have a1 := u64_lo (a := x) (by omega)
  have a2 := u64_lo (a := y) (by omega)
  obtain ⟨p, hpe⟩ : ∃ p : Nat, x * y = p := ⟨_, rfl⟩
  have hpi : (x : Int) * y = p := by rw [← hpe]; simp
  rw [hpe] at hp
  have w1 : IntKind.u64.wrap (p : Int) = p := wrapu (by omega) (by omega)
  obtain ⟨t, hte⟩ : ∃ t : Nat, p / 2 ^ 32 = t := ⟨_, rfl⟩
  have hpt : (p : Int).fdiv 4294967296 = t := by rw [Int.fdiv_eq_ediv_of_nonneg _ (by decide)]; omega
  have a3 := u64_lo (a := t) (by omega)
  have w2 : IntKind.u64.wrap (t : Int) = t := wrapu (by omega) (by omega)
  have f3 : (t : Int).fdiv 4294967296 = 0 := by rw [Int.fdiv_eq_ediv_of_nonneg _ (by decide)]; omega
  have wz : IntKind.u64.wrap 0 = 0 := by decide
  simp [go_sem, f1, f2, a1, a2, hpi, w1, hpt, a3, w2, f3, wz]
  refine hR _ _ _ rfl ?_
  simp [go_sem, ← hpe]
theorem product_fun (x y : Nat) (hx : x < 2 ^ 31) (hy : y < 2 ^ 31) : FN 40 [.int .u64 (x : Int), .int .u64 (y : Int)] (fun v => v = .agg [.int .u64 0, .int .u64 ((x * y : Nat) : Int)]) := by
  refine IFun.of_bodyZ false 7 [] Tryd.func40 rfl Tryd.call40 rfl fun R hR => ?_
  simp [go_sem]
  refine (mul64_fun x y hx hy).callF (by simp [go_sem]) ?_
  rintro _ rfl
  simp [go_sem]
  refine hR _ _ _ rfl ?_
  simp [go_sem]
def ncmp (x y : Nat) : Int := if x < y then -1 else if y < x then 1 else 0
theorem wcmp_fun (x y : Nat) (hx : x < 2 ^ 64) (hy : y < 2 ^ 64) : FN 42 [.agg [.int .u64 0, .int .u64 (x : Int)], .agg [.int .u64 0, .int .u64 (y : Int)]] (fun v => v = .int .i64 (ncmp x y)) := by
  refine IFun.of_bodyZ false 7 [7, 8, 9, 16, 21] Tryd.func42 rfl Tryd.call42 rfl fun R hR => ?_
  simp [go_sem]
  refine IWp.loopT (α := Nat) (fun i => (⟨false, 23, 7, [7, 8, 9, 16, 21], glT, [(3, .ptr 1 1 0 0), (7, .agg [.int .u64 0, .int .u64 (x : Int)]), (8, .int .i64 (i : Int))], []⟩, [.rows 2 [[.int .u64 0, .int .u64 (x : Int)]], .rows 2 [[.int .u64 0, .int .u64 (y : Int)]]]))
    (fun i => i ≤ 2 ∧ (i = 2 → x = y)) (fun i => 2 - i) 0 ⟨by omega, by omega⟩ (by simp [go_sem]) ?_
  rintro i ⟨hi, hxy⟩
  rcases (by omega : i = 0 ∨ i = 1 ∨ i = 2) with rfl | rfl | rfl
  · simp [go_sem]
    exact ⟨1, by decide, by omega⟩
  · by_cases h1 : x < y
    · simp [go_sem, h1]
      exact hR _ _ _ rfl (by simp [go_sem, ncmp, h1])
    · by_cases h2 : y < x
      · simp [go_sem, h1, h2]
        exact hR _ _ _ rfl (by simp [go_sem, ncmp, h1, h2])
      · simp [go_sem, h1, h2]
        exact ⟨2, by decide, by omega⟩
  · obtain rfl := hxy rfl
    simp [go_sem]
    exact hR _ _ _ rfl (by simp [go_sem, ncmp])
/-- The order of two fractions. -/
def cmpI (f g : Frc) : Int := if f.num * g.den < g.num * f.den then -1 else if g.num * f.den < f.num * g.den then 1 else 0
def Sml (f : Frc) : Prop := (-2 ^ 30 ≤ f.num ∧ f.num ≤ 2 ^ 30) ∧ (1 ≤ f.den ∧ f.den ≤ 2 ^ 30) ∧ rightB f = true
theorem cmp_fun (f g : Frc) (hf : Sml f) (hg : Sml g) : FN 17 [f.v, g.v] (fun v => v = .tup [.int .i64 (cmpI f g), .int .i64 0]) := by
  refine IFun.of_bodyZ false 7 [14, 17, 24, 27, 45] Tryd.func17 rfl Tryd.call17 rfl fun R hR => ?_
  obtain ⟨hf1, hf2, hf3⟩ := hf
  obtain ⟨hg1, hg2, hg3⟩ := hg
  have cf := right_fun f (by omega) (by omega)
  have cg := right_fun g (by omega) (by omega)
  rw [hf3] at cf
  rw [hg3] at cg
  obtain ⟨a, b⟩ := f
  obtain ⟨c, d⟩ := g
  simp only [Frc.v] at *
  simp [go_sem]
  refine cf.callF (by simp [go_sem]) ?_
  rintro _ rfl
  simp [go_sem]
  refine cg.callF (by simp [go_sem]) ?_
  rintro _ rfl
  simp [go_sem]
  have hres : cmpI ⟨a, b⟩ ⟨c, d⟩ = if a * d < c * b then -1 else if c * b < a * d then 1 else 0 := rfl
  have sgn : ∀ x y : Int, 1 ≤ y → (x < 0 → x * y < 0) ∧ (0 ≤ x → 0 ≤ x * y) := fun x y hy => ⟨fun h => Int.mul_neg_of_neg_of_pos h (by omega), fun h => Int.mul_nonneg h (by omega)⟩
  split
  · rename_i h
    obtain ⟨rfl, rfl⟩ := h
    exact hR _ _ _ rfl (by simp [go_sem, hres])
  · split
    · rename_i _ hs
      have sa := size_fun a (by omega)
      have sb := size_fun b (by omega)
      have sc := size_fun c (by omega)
      have sd := size_fun d (by omega)
      have p1 := product_fun a.natAbs d.natAbs (by omega) (by omega)
      have p2 := product_fun c.natAbs b.natAbs (by omega) (by omega)
      have q1 : a.natAbs * d.natAbs < 2 ^ 62 := by
        have := Nat.mul_lt_mul'' (show a.natAbs < 2 ^ 31 by omega) (show d.natAbs < 2 ^ 31 by omega)
        omega
      have q2 : c.natAbs * b.natAbs < 2 ^ 62 := by
        have := Nat.mul_lt_mul'' (show c.natAbs < 2 ^ 31 by omega) (show b.natAbs < 2 ^ 31 by omega)
        omega
      have p3 := wcmp_fun (a.natAbs * d.natAbs) (c.natAbs * b.natAbs) (by omega) (by omega)
      have r1 : ((a.natAbs * d.natAbs : Nat) : Int) = if a < 0 then -(a * d) else a * d := by
        rw [Int.natCast_mul, show (d.natAbs : Int) = d by omega]
        split
        · rw [show (a.natAbs : Int) = -a by omega, Int.neg_mul]
        · rw [show (a.natAbs : Int) = a by omega]
      have r2 : ((c.natAbs * b.natAbs : Nat) : Int) = if a < 0 then -(c * b) else c * b := by
        rw [Int.natCast_mul, show (b.natAbs : Int) = b by omega]
        split
        · rw [show (c.natAbs : Int) = -c by omega, Int.neg_mul]
        · rw [show (c.natAbs : Int) = c by omega]
      generalize a.natAbs * d.natAbs = P1 at *
      generalize c.natAbs * b.natAbs = P2 at *
      have hn : ncmp P1 P2 = if a < 0 then -cmpI ⟨a, b⟩ ⟨c, d⟩ else cmpI ⟨a, b⟩ ⟨c, d⟩ := by
        rw [hres]
        unfold ncmp
        generalize a * d = u at *
        generalize c * b = v at *
        by_cases ha : a < 0
        · rw [if_pos ha] at r1 r2 ⊢
          split <;> split <;> (try split) <;> omega
        · rw [if_neg ha] at r1 r2 ⊢
          split <;> split <;> (try split) <;> omega
      have hcb : -1 ≤ cmpI ⟨a, b⟩ ⟨c, d⟩ ∧ cmpI ⟨a, b⟩ ⟨c, d⟩ ≤ 1 := by rw [hres]; split <;> (try split) <;> omega
      generalize cmpI ⟨a, b⟩ ⟨c, d⟩ = V at *
      refine Drawn.intro (fun k => if k = 2 then .int .u64 (a.natAbs : Nat) else if k = 5 then .int .u64 (d.natAbs : Nat) else if k = 6 then .agg [.int .u64 0, .int .u64 (P1 : Int)] else if k = 9 then .int .u64 (c.natAbs : Nat) else if k = 12 then .int .u64 (b.natAbs : Nat) else if k = 13 then .agg [.int .u64 0, .int .u64 (P2 : Int)] else if k = 14 then .int .i64 (ncmp P1 P2) else .tup []) ?_
      generalize ncmp P1 P2 = N at *
      simp [go_sem, sa, sb, sc, sd, p1, p2, p3]
      refine ⟨by decide +kernel, ?_⟩
      by_cases ha : a < 0
      · rw [if_pos ha] at hn
        have w1 : IntKind.i64.wrap (-N) = -N := wrap64 (by omega) (by omega)
        simp [go_sem, ha, w1]
        exact hR _ _ _ rfl (by simp [go_sem]; omega)
      · rw [if_neg ha] at hn
        simp [go_sem, ha]
        exact hR _ _ _ rfl (by simp [go_sem]; omega)
    · have s1 := sgn a d (by omega)
      have s2 := sgn c b (by omega)
      split
      · exact hR _ _ _ rfl (by simp [go_sem, hres]; omega)
      · exact hR _ _ _ rfl (by simp [go_sem, hres]; omega)
end Go.Idl
namespace Go.Idl
set_option linter.all false
open Go.Proofs
set_option maxHeartbeats 8000000
set_option maxRecDepth 40000

theorem impUp_mono {L : List Int} {d e : Int} (h : d ≤ e) : impUp L d ≤ impUp L e := List.countP_mono_left fun s _ hs => by
  simp only [decide_eq_true_eq] at *
  omega
theorem impI_mono {d e : Int} (h : d ≤ e) : impI d ≤ impI e := by
  have h1 := impUp_mono (L := scaleL) h
  have h2 := impUp_mono (L := scaleL) (show -e ≤ -d by omega)
  unfold impI
  omega
theorem impI_zero : impI 0 = 0 := by unfold impI; rw [Int.neg_zero]; omega
/-- What a result x scores against all of l. -/
def vI (l : List Int) (x : Int) : Int := (l.map fun y => impI (x - y)).sum
theorem vI_mono {l : List Int} {x y : Int} (h : x ≤ y) : vI l x ≤ vI l y := by
  induction l with
  | nil => simp [vI]
  | cons a l ih =>
    have := impI_mono (show x - a ≤ y - a by omega)
    unfold vI at *
    rw [List.map_cons, List.map_cons, List.sum_cons, List.sum_cons]
    omega
theorem vI_rev {l : List Int} {x : Int} : vI l.reverse x = vI l x := by unfold vI; rw [List.map_reverse, sum_rev]
theorem vsI_take {l : List Int} {i : Nat} (hi : i < l.length) : ∀ k, k ≤ l.length → vsI l i l[i] k = vI (l.take k) l[i]
  | 0, _ => by simp [vsI, vI]
  | k + 1, h => by
    rw [vsI_succ (by omega), vsI_take hi k (by omega), List.take_succ_eq_append_getElem (by omega)]
    unfold vI
    rw [List.map_append, List.sum_append]
    by_cases hk : k = i
    · subst hk
      simp [impI_zero]
    · simp [hk]
theorem vI_all {l : List Int} {i : Nat} (hi : i < l.length) : vsI l i l[i] l.length = vI l l[i] := by
  rw [vsI_take hi _ (Nat.le_refl _), List.take_length]
def fS (l : List Int) (x : Int) : Frc := if l.length = 1 then ⟨0, 1⟩ else (mkF (vI l x) ((l.length : Int) - 1)).1
theorem crossL_at {l : List Int} {i : Nat} (hi : i < l.length) : (crossL l)[i]'(by simpa using hi) = fS l l[i] := by
  simp only [crossL, List.getElem_map, List.getElem_range]
  rw [show l.getD i 0 = l[i] by simp [hi]]
  unfold crossF fS
  rw [vI_all hi]
theorem plainL_at {l : List Int} {i : Nat} (hi : i < l.length) : (plainL l l.sum)[i]'(by simpa using hi) = plainF l l.sum l[i] := by
  simp only [plainL, List.getElem_map, List.getElem_range]
  rw [show l.getD i 0 = l[i] by simp [hi]]
theorem butlerL_at {l : List Int} {i : Nat} {dt : Int} (hi : i < l.length) : (butlerL l dt)[i]'(by simpa using hi) = impI (l[i] - dt) := by
  simp only [butlerL, List.getElem_map, List.getElem_range]
  rw [show l.getD i 0 = l[i] by simp [hi]]
theorem crossL_rev {l : List Int} : crossL l.reverse = (crossL l).reverse := by
  refine List.ext_getElem (by simp) fun i h1 h2 => ?_
  have hi : i < l.reverse.length := by simpa using h1
  have hi' : (crossL l).length - 1 - i < l.length := by simp at hi ⊢; omega
  rw [crossL_at hi, List.getElem_reverse, List.getElem_reverse, crossL_at hi']
  unfold fS
  rw [vI_rev, List.length_reverse]
  simp
theorem plainL_rev {l : List Int} : plainL l.reverse l.reverse.sum = (plainL l l.sum).reverse := by
  refine List.ext_getElem (by simp) fun i h1 h2 => ?_
  have hi : i < l.reverse.length := by simpa using h1
  have hi' : (plainL l l.sum).length - 1 - i < l.length := by simp at hi ⊢; omega
  rw [plainL_at hi, List.getElem_reverse, List.getElem_reverse, plainL_at hi']
  unfold plainF
  rw [sum_rev, List.length_reverse]
  simp
theorem butlerL_rev {l : List Int} {dt : Int} : butlerL l.reverse dt = (butlerL l dt).reverse := by
  refine List.ext_getElem (by simp) fun i h1 h2 => ?_
  have hi : i < l.reverse.length := by simpa using h1
  have hi' : (butlerL l dt).length - 1 - i < l.length := by simp at hi ⊢; omega
  rw [butlerL_at hi, List.getElem_reverse, List.getElem_reverse, butlerL_at hi']
  simp
theorem srtI_rev {l : List Int} : srtI l.reverse = srtI l := srtI_eq (srtI_le l) ((srtI_perm l).trans (List.reverse_perm l).symm)
theorem exE_rev {l : List Int} : exE l.reverse = exE l := by unfold exE; rw [List.length_reverse, List.any_reverse]
theorem datE_rev {l : List Int} {d : Int} : datE l.reverse d = datE l d := by
  unfold datE
  rw [exE_rev, List.length_reverse]
  simp
theorem datI_rev {l : List Int} {d : Int} : datI l.reverse d = datI l d := by
  unfold datI leftL
  rw [datE_rev, srtI_rev, List.length_reverse]
theorem butR_rev {l : List Int} {d : Int} : butR l.reverse d = (butR l d).reverse := by
  unfold butR
  rw [datE_rev, datI_rev, butlerL_rev]
  split <;> simp
theorem mk_cmp {u w : Int} {d : Nat} (hd : 0 < d) (hd2 : d ≤ 24) (hu : -2 ^ 30 ≤ u ∧ u ≤ 2 ^ 30) (hw : -2 ^ 30 ≤ w ∧ w ≤ 2 ^ 30) : cmpI (mkF u d).1 (mkF w d).1 = if u < w then -1 else if w < u then 1 else 0 := by
  obtain ⟨x, y, hm, hy, _, hx1, hy1, _, _⟩ := mkF_ok hd (by omega) (show -2 ^ 63 ≤ u ∧ u < 2 ^ 63 by omega)
  obtain ⟨x', y', hm', hy', _, hx1', hy1', _, _⟩ := mkF_ok hd (by omega) (show -2 ^ 63 ≤ w ∧ w < 2 ^ 63 by omega)
  have e1 : (if u < 0 then -(x : Int) else x) * d = u * y := by
    generalize Nat.gcd u.natAbs d = g at *
    have h1 : u = (if u < 0 then -(x : Int) else x) * g := by
      split
      · have : (u.natAbs : Int) = (g * x : Nat) := by rw [hx1]
        rw [Int.neg_mul, ← Int.natCast_mul, Nat.mul_comm x g]; omega
      · have : (u.natAbs : Int) = (g * x : Nat) := by rw [hx1]
        rw [← Int.natCast_mul, Nat.mul_comm x g]; omega
    have h2 : (d : Int) = g * y := by rw [hy1]; simp
    rw [h2]
    conv => rhs; rw [h1]
    rw [Int.mul_assoc]
  have e2 : (if w < 0 then -(x' : Int) else x') * d = w * y' := by
    generalize Nat.gcd w.natAbs d = g at *
    have h1 : w = (if w < 0 then -(x' : Int) else x') * g := by
      split
      · have : (w.natAbs : Int) = (g * x' : Nat) := by rw [hx1']
        rw [Int.neg_mul, ← Int.natCast_mul, Nat.mul_comm x' g]; omega
      · have : (w.natAbs : Int) = (g * x' : Nat) := by rw [hx1']
        rw [← Int.natCast_mul, Nat.mul_comm x' g]; omega
    have h2 : (d : Int) = g * y' := by rw [hy1']; simp
    rw [h2]
    conv => rhs; rw [h1]
    rw [Int.mul_assoc]
  rw [hm, hm']
  unfold cmpI
  simp only
  generalize (if u < 0 then -(x : Int) else x) = a at *
  generalize (if w < 0 then -(x' : Int) else x') = b at *
  have hdp : (0 : Int) < d := by omega
  have hyy : (0 : Int) < (y : Int) * y' := Int.mul_pos (by omega) (by omega)
  have k1 : (a * (y' : Int)) * d = u * (y * y') := by rw [Int.mul_right_comm, e1, Int.mul_assoc]
  have k2 : (b * (y : Int)) * d = w * (y * y') := by rw [Int.mul_right_comm, e2, Int.mul_assoc, Int.mul_comm (y' : Int)]
  have lt1 : a * (y' : Int) < b * y ↔ u < w := by
    rw [← Int.mul_lt_mul_right hdp, k1, k2, Int.mul_lt_mul_right hyy]
  have lt2 : b * (y : Int) < a * y' ↔ w < u := by
    rw [← Int.mul_lt_mul_right hdp, k1, k2, Int.mul_lt_mul_right hyy]
  simp only [lt1, lt2]
theorem mk_sml {u : Int} {d : Nat} (hd : 0 < d) (hd2 : d ≤ 24) (hu : -2 ^ 30 ≤ u ∧ u ≤ 2 ^ 30) : Sml (mkF u d).1 := by
  have h1 := mkF_bd (n := u) hd (by omega) (by omega)
  have h2 := near_mk (n := u) hd (by omega) (by omega)
  exact ⟨by omega, by omega, h2.2.1⟩
section
variable {l : List Int} (hl : l.length ≤ 24) (hb : ∀ y ∈ l, -7600 ≤ y ∧ y ≤ 7600)
include hl hb
theorem vI_bd {x : Int} : -1000 ≤ vI l x ∧ vI l x ≤ 1000 := by
  have h : ∀ m : List Int, -(24 * (m.length : Int)) ≤ vI m x ∧ vI m x ≤ 24 * m.length := by
    intro m
    induction m with
    | nil => simp [vI]
    | cons a m ih =>
      have := impI_bd (x - a)
      unfold vI at *
      rw [List.map_cons, List.sum_cons, List.length_cons]
      omega
  have := h l
  omega
theorem plain_in {x : Int} (hx : -7600 ≤ x ∧ x ≤ 7600) : -2 ^ 30 ≤ (l.length : Int) * x - l.sum ∧ (l.length : Int) * x - l.sum ≤ 2 ^ 30 := by
  have hs := sum_take_bd hl hb l.length
  rw [List.take_length] at hs
  have h1 := Int.mul_le_mul_of_nonneg_left hx.2 (show 0 ≤ (l.length : Int) by omega)
  have h2 := Int.mul_le_mul_of_nonneg_left hx.1 (show 0 ≤ (l.length : Int) by omega)
  omega
theorem fS_sml {x : Int} (h0 : 0 < l.length) : Sml (fS l x) := by
  unfold fS
  split
  · exact ⟨by decide, by decide, by decide⟩
  · have := vI_bd hl hb (x := x)
    rw [show (l.length : Int) - 1 = ((l.length - 1 : Nat) : Int) by omega]
    exact mk_sml (by omega) (by omega) (by omega)
theorem fS_cmp {x y : Int} (h0 : 0 < l.length) (h : y ≤ x) : 0 ≤ cmpI (fS l x) (fS l y) := by
  unfold fS
  split
  · decide
  · have h1 := vI_bd hl hb (x := x)
    have h2 := vI_bd hl hb (x := y)
    have h3 := vI_mono (l := l) h
    rw [show (l.length : Int) - 1 = ((l.length - 1 : Nat) : Int) by omega, mk_cmp (by omega) (by omega) (by omega) (by omega)]
    split
    · omega
    · split <;> omega
theorem plainF_sml {x : Int} (h0 : 0 < l.length) (hx : -7600 ≤ x ∧ x ≤ 7600) : Sml (plainF l l.sum x) := mk_sml h0 hl (plain_in hl hb hx)
theorem plainF_cmp {x y : Int} (h0 : 0 < l.length) (hx : -7600 ≤ x ∧ x ≤ 7600) (hy : -7600 ≤ y ∧ y ≤ 7600) (h : y < x) : cmpI (plainF l l.sum x) (plainF l l.sum y) = 1 := by
  unfold plainF
  rw [mk_cmp h0 hl (plain_in hl hb hx) (plain_in hl hb hy)]
  have := Int.mul_lt_mul_of_pos_left h (show 0 < (l.length : Int) by omega)
  rw [if_neg (by omega), if_pos (by omega)]
end
theorem cmpI_self (f : Frc) : cmpI f f = 0 := by simp [cmpI]
theorem cmpI_rng (f g : Frc) : -1 ≤ cmpI f g ∧ cmpI f g ≤ 1 := by unfold cmpI; split <;> (try split) <;> omega
end Go.Idl
