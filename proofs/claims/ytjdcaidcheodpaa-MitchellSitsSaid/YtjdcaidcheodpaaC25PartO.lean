/-
  Chapter 25: fair.
-/
import Derived.Test.YtjdcaidcheodpaaC25PartG
import Derived.Test.YtjdcaidcheodpaaC25PartH
import Derived.Test.YtjdcaidcheodpaaIdlPartL
namespace Go.Idl
set_option linter.all false
open Go.Proofs
set_option maxHeartbeats 8000000
set_option maxRecDepth 40000

def sitB (r p : Int) (x : Rw) : Bool := x.r == r && (x.ns == p || x.ew == p)
def plyB (p s : Int) (x : Rw) : Bool := x.s == s && (x.ns == p || x.ew == p)
def metB (a b : Int) (x : Rw) : Bool := x.ns != 0 && x.ew != 0 && (min x.ns x.ew == a && max x.ns x.ew == b)
theorem Fair.sits {T N S C Q : Int} {L : List Rw} (h : Fair T N S C Q L) {r p : Int} (hp : p ≠ 0) : L.countP (sitB r p) ≤ 1 := by
  refine countP_one (h.pw.imp fun {x y} ha => ?_)
  rintro ⟨a, b⟩
  simp only [sitB, Bool.and_eq_true, Bool.or_eq_true, beq_iff_eq] at a b
  exact (ha.2.1 p hp a.2 b.2).1 (a.1.trans b.1.symm)
theorem Fair.plays {T N S C Q : Int} {L : List Rw} (h : Fair T N S C Q L) {p s : Int} (hp : p ≠ 0) : L.countP (plyB p s) ≤ 1 := by
  refine countP_one (h.pw.imp fun {x y} ha => ?_)
  rintro ⟨a, b⟩
  simp only [plyB, Bool.and_eq_true, Bool.or_eq_true, beq_iff_eq] at a b
  exact (ha.2.1 p hp a.2 b.2).2 (a.1.trans b.1.symm)
theorem Fair.mets {T N S C Q : Int} {L : List Rw} (h : Fair T N S C Q L) (u v : Int) : L.countP (metB u v) ≤ 1 := by
  refine countP_one (h.pw.imp fun {x y} ha => ?_)
  rintro ⟨a, b⟩
  simp only [metB, Bool.and_eq_true, bne_iff_ne, beq_iff_eq] at a b
  refine ha.2.2 ⟨a.1.1, a.1.2, ?_⟩
  omega
theorem take_countP {P : Rw → Bool} {L : List Rw} {i : Nat} (h : i < L.length) : (L.take (i + 1)).countP P = (L.take i).countP P + if P L[i] = true then 1 else 0 := by
  rw [List.take_succ_eq_append_getElem h, List.countP_append, List.countP_singleton]
theorem take_countP_le {P : Rw → Bool} {L : List Rw} (i : Nat) : (L.take i).countP P ≤ L.countP P := (List.take_sublist i L).countP_le
theorem fair_fun {Q : Int} (m : Mv) (hF : Fair m.tables m.rounds m.sets m.copies Q m.rows) (hQ : Q ≤ 1000) (hl : m.rows.length ≤ 10000) : FN 16 [m.v] (fun v => v = .bool true) := by
  refine IFun.of_bodyZ false 12 [17, 18, 19, 20, 27, 28, 29, 30, 34, 76, 133, 139, 160] Try.func16 rfl Try.call16 rfl fun R hR => ?_
  obtain ⟨tb, ro, se, co, wi, L⟩ := m
  simp only at hF hl
  simp [go_sem, Mv.v]
  obtain ⟨cA, hA⟩ : ∃ cA : Nat → Int → Int → Int, cA = fun i r p => ((L.take i).countP (sitB r p) : Int) := ⟨_, rfl⟩
  obtain ⟨cB, hB⟩ : ∃ cB : Nat → Int → Int → Int, cB = fun i p s => ((L.take i).countP (plyB p s) : Int) := ⟨_, rfl⟩
  obtain ⟨cC, hC⟩ : ∃ cC : Nat → Int → Int → Int, cC = fun i a b => ((L.take i).countP (metB a b) : Int) := ⟨_, rfl⟩
  obtain ⟨cD, hD⟩ : ∃ cD : Nat → Int → Int → Int, cD = fun i r s => ((L.take i).countP (rsB r s) : Int) := ⟨_, rfl⟩
  have sA : ∀ i (h : i < L.length) r p, cA (i + 1) r p = cA i r p + if sitB r p L[i] = true then 1 else 0 := fun i h r p => by rw [hA]; simp only [take_countP h]; split <;> simp
  have sB : ∀ i (h : i < L.length) r p, cB (i + 1) r p = cB i r p + if plyB r p L[i] = true then 1 else 0 := fun i h r p => by rw [hB]; simp only [take_countP h]; split <;> simp
  have sC : ∀ i (h : i < L.length) r p, cC (i + 1) r p = cC i r p + if metB r p L[i] = true then 1 else 0 := fun i h r p => by rw [hC]; simp only [take_countP h]; split <;> simp
  have sD : ∀ i (h : i < L.length) r p, cD (i + 1) r p = cD i r p + if rsB r p L[i] = true then 1 else 0 := fun i h r p => by rw [hD]; simp only [take_countP h]; split <;> simp
  have mA : ∀ i r p, p ≠ 0 → 0 ≤ cA i r p ∧ cA i r p ≤ 1 := fun i r p hp => by rw [hA]; have := hF.sits (r := r) hp; have := take_countP_le (P := sitB r p) (L := L) i; simp only; omega
  have mB : ∀ i p s, p ≠ 0 → 0 ≤ cB i p s ∧ cB i p s ≤ 1 := fun i p s hp => by rw [hB]; have := hF.plays (s := s) hp; have := take_countP_le (P := plyB p s) (L := L) i; simp only; omega
  have mC : ∀ i a b, 0 ≤ cC i a b ∧ cC i a b ≤ 1 := fun i a b => by rw [hC]; have := hF.mets a b; have := take_countP_le (P := metB a b) (L := L) i; simp only; omega
  have mD : ∀ i r s, 0 ≤ cD i r s ∧ cD i r s ≤ co ∧ cD i r s ≤ 10000 := fun i r s => by rw [hD]; have := hF.load r s; have := take_countP_le (P := rsB r s) (L := L) i; have := List.countP_le_length (p := rsB r s) (l := L); simp only; omega
  have z : (∀ r p, cA 0 r p = 0) ∧ (∀ r p, cB 0 r p = 0) ∧ (∀ r p, cC 0 r p = 0) ∧ (∀ r p, cD 0 r p = 0) := by rw [hA, hB, hC, hD]; simp
  clear hA hB hC hD
  refine IWp.loopT (α := Nat × List ((Int × Int) × Int) × List ((Int × Int) × Int) × List ((Int × Int) × Int) × List ((Int × Int) × Int)) (fun x => (⟨false, 162, 12, [17, 18, 19, 20, 27, 28, 29, 30, 34, 76, 133, 139, 160], [], [(1, .ptr 0 1 0 0), (3, .map 1), (4, .map 2), (5, .map 3), (6, .map 4), (17, .fz 5 (rws L)), (18, .int .i64 L.length), (19, .int .i64 (x.1 : Int))], []⟩, [.rows 6 [[.int .i64 tb, .int .i64 ro, .int .i64 se, .int .i64 co, .int .i64 wi, .fz 5 (rws L)]], .map (enP x.2.1), .map (enP x.2.2.1), .map (enP x.2.2.2.1), .map (enP x.2.2.2.2)]))
    (fun x => x.1 ≤ L.length ∧ (∀ r p, p ≠ 0 → getC x.2.1 (r, p) = cA x.1 r p) ∧ (∀ p s, p ≠ 0 → getC x.2.2.1 (p, s) = cB x.1 p s) ∧ (∀ a b, getC x.2.2.2.1 (a, b) = cC x.1 a b) ∧ (∀ r s, getC x.2.2.2.2 (r, s) = cD x.1 r s)) (fun x => L.length - x.1) (0, [], [], [], []) ⟨by simp, fun r p _ => by simp [z], fun r p _ => by simp [z], fun r p => by simp [z], fun r p => by simp [z]⟩ (by simp [go_sem]) ?_
  rintro ⟨i, SA, SB, SC, SD⟩ ⟨hi, iA, iB, iC, iD⟩
  simp only at hi iA iB iC iD
  by_cases h : i < L.length
  · have w1 : IntKind.i64.wrap ((i : Int) + 1) = i + 1 := wrap64 (by omega) (by omega)
    have hr := hF.rng L[i] (List.getElem_mem h)
    have sA := sA i h
    have sB := sB i h
    have sC := sC i h
    have sD := sD i h
    have mA0 := mA i
    have mB0 := mB i
    have mA := mA (i + 1)
    have mB := mB (i + 1)
    have mC0 := mC i
    have mC := mC (i + 1)
    have mD := mD (i + 1)
    generalize hx : L[i] = x at *
    simp [go_sem, h, hx]
    refine IWp.loopT (α := Nat × List ((Int × Int) × Int) × List ((Int × Int) × Int)) (fun y => (⟨false, 162, 12, [17, 18, 19, 20, 27, 28, 29, 30, 34, 76, 133, 139, 160], [], [(1, .ptr 0 1 0 0), (3, .map 1), (4, .map 2), (5, .map 3), (6, .map 4), (8, .ptr 5 1 0 0), (17, .fz 5 (rws L)), (18, .int .i64 L.length), (19, .int .i64 (i : Int)), (27, .sl 6 2 0 2 none), (28, .int .i64 2), (29, .int .i64 (y.1 : Int))], []⟩, [.rows 6 [[.int .i64 tb, .int .i64 ro, .int .i64 se, .int .i64 co, .int .i64 wi, .fz 5 (rws L)]], .map (enP y.2.1), .map (enP y.2.2), .map (enP SC), .map (enP SD), .rows 5 [[.int .i64 x.r, .int .i64 x.t, .int .i64 x.ns, .int .i64 x.ew, .int .i64 x.s]], .rows 1 [[.int .i64 x.ns], [.int .i64 x.ew]]]))
      (fun y => y.1 ≤ 2 ∧ (∀ r p, p ≠ 0 → getC y.2.1 (r, p) = cA i r p + (if 1 ≤ y.1 ∧ x.r = r ∧ x.ns = p then 1 else 0) + if 2 ≤ y.1 ∧ x.r = r ∧ x.ew = p then 1 else 0) ∧ (∀ p s, p ≠ 0 → getC y.2.2 (p, s) = cB i p s + (if 1 ≤ y.1 ∧ x.s = s ∧ x.ns = p then 1 else 0) + if 2 ≤ y.1 ∧ x.s = s ∧ x.ew = p then 1 else 0)) (fun y => 2 - y.1) (0, SA, SB) ⟨by simp, fun r p hp => by simp [iA r p hp], fun r p hp => by simp [iB r p hp]⟩ (by simp [go_sem]) ?_
    rintro ⟨q, SA', SB'⟩ ⟨hq, jA, jB⟩
    simp only at hq jA jB
    have key : ∀ p, p ≠ 0 → ∀ (c1 c2 : Int), getC SA' (x.r, p) = c1 → getC SB' (p, x.s) = c2 → c1 = 0 → c2 = 0 →
        mget (.agg [.int .i64 x.r, .int .i64 p]) (enP SA') = (aget (x.r, p) SA').map (fun v => .int .i64 v) ∧ (aget (x.r, p) SA').getD 0 = 0 ∧ mget (.agg [.int .i64 p, .int .i64 x.s]) (enP SB') = (aget (p, x.s) SB').map (fun v => .int .i64 v) ∧ (aget (p, x.s) SB').getD 0 = 0 ∧
        mget (.agg [.int .i64 x.r, .int .i64 p]) (enP (aset (x.r, p) 1 SA')) = some (.int .i64 1) ∧ mget (.agg [.int .i64 p, .int .i64 x.s]) (enP (aset (p, x.s) 1 SB')) = some (.int .i64 1) := fun p hp c1 c2 h1 h2 h3 h4 =>
      ⟨mget_p _ _ _, h1.trans h3, mget_p _ _ _, h2.trans h4, by rw [mget_p, aget_aset, if_pos rfl]; rfl, by rw [mget_p, aget_aset, if_pos rfl]; rfl⟩
    have wo : IntKind.i64.wrap 1 = 1 := rfl
    have hmul : 0 ≤ x.ns * x.ew ∧ x.ns * x.ew ≤ 1000 * 1000 := ⟨Int.mul_nonneg hr.2.2.2.1.1 hr.2.2.2.2.1.1, Int.mul_le_mul (by omega) (by omega) hr.2.2.2.2.1.1 (by omega)⟩
    have wm : IntKind.i64.wrap (x.ns * x.ew) = x.ns * x.ew := wrap64 (by omega) (by omega)
    have w2 : IntKind.i64.wrap 2 = 2 := rfl
    have w0 : IntKind.i64.wrap 0 = 0 := rfl
    rcases (by omega : q = 0 ∨ q = 1 ∨ q = 2) with rfl | rfl | rfl
    · by_cases hp : x.ns = 0
      · simp [go_sem, hp, wo]
        refine ⟨1, SA', SB', ⟨by simp, rfl, rfl⟩, ⟨by omega, fun r p hp2 => ?_, fun p s hp2 => ?_⟩, by omega⟩
        · rw [jA r p hp2]
          simp [hp, Ne.symm hp2]
        · rw [jB p s hp2]
          simp [hp, Ne.symm hp2]
      · have e1 := jA x.r x.ns hp
        have e2 := jB x.ns x.s hp
        have u1 := sA x.r x.ns
        have u2 := sB x.ns x.s
        rw [if_pos (by simp [sitB])] at u1
        rw [if_pos (by simp [plyB])] at u2
        have v1 := mA x.r x.ns hp
        have v2 := mB x.ns x.s hp
        have v3 := mA0 x.r x.ns hp
        have v4 := mB0 x.ns x.s hp
        have hne : ¬ (2 ≤ 1) := by omega
        simp at e1 e2
        obtain ⟨g1, g2, g3, g4, g5, g6⟩ := key x.ns hp _ _ e1 e2 (by omega) (by omega)
        simp [go_sem, hp]
        refine Drawn.incr 5 [35, 39] rfl rfl rfl rfl rfl (by decide +kernel) rfl ?_
        simp [go_sem, g1, g2, mset_p, wo]
        refine ⟨by decide +kernel, ?_⟩
        refine Drawn.incr 5 [44, 48] rfl rfl rfl rfl rfl (by decide +kernel) rfl ?_
        have fA : ∀ r p, p ≠ 0 → getC (aset (x.r, x.ns) 1 SA') (r, p) = cA i r p + (if 1 ≤ 1 ∧ x.r = r ∧ x.ns = p then 1 else 0) + if 2 ≤ 1 ∧ x.r = r ∧ x.ew = p then 1 else 0 := fun r p hp3 => by
          rw [getC_set]
          have := jA r p hp3
          by_cases e3 : (r, p) = (x.r, x.ns)
          · rw [if_pos e3]
            simp only [Prod.mk.injEq] at e3
            obtain ⟨rfl, rfl⟩ := e3
            rw [e1] at this
            have hz : cA i x.r x.ns = 0 := by omega
            simp [hz, hne]
          · rw [if_neg e3, this]
            simp only [Prod.mk.injEq] at e3
            have : ¬ (x.r = r ∧ x.ns = p) := fun h => e3 ⟨h.1.symm, h.2.symm⟩
            simp [this]
        have fB : ∀ p s, p ≠ 0 → getC (aset (x.ns, x.s) 1 SB') (p, s) = cB i p s + (if 1 ≤ 1 ∧ x.s = s ∧ x.ns = p then 1 else 0) + if 2 ≤ 1 ∧ x.s = s ∧ x.ew = p then 1 else 0 := fun p s hp3 => by
          rw [getC_set]
          have := jB p s hp3
          by_cases e3 : (p, s) = (x.ns, x.s)
          · rw [if_pos e3]
            simp only [Prod.mk.injEq] at e3
            obtain ⟨rfl, rfl⟩ := e3
            rw [e2] at this
            have hz : cB i x.ns x.s = 0 := by omega
            simp [hz, hne]
          · rw [if_neg e3, this]
            simp only [Prod.mk.injEq] at e3
            have : ¬ (x.s = s ∧ x.ns = p) := fun h => e3 ⟨h.2.symm, h.1.symm⟩
            simp [this]
        by_cases hp2 : x.ew = 0
        · simp [go_sem, g3, g4, g5, g6, mset_p, wo, w0, hp2]
          exact ⟨by decide +kernel, 1, _, _, ⟨by simp, rfl, rfl⟩, ⟨by omega, by simpa [hp2] using fA, by simpa [hp2] using fB⟩, by omega⟩
        · simp [go_sem, g3, g4, g5, g6, mset_p, wo, wm, hp, hp2]
          exact ⟨by decide +kernel, 1, _, _, ⟨by simp, rfl, rfl⟩, ⟨by omega, fA, fB⟩, by omega⟩
    · by_cases hp : x.ew = 0
      · simp [go_sem, hp, wo, w2]
        refine ⟨2, SA', SB', ⟨by simp, rfl, rfl⟩, ⟨by omega, fun r p hp2 => ?_, fun p s hp2 => ?_⟩, by omega⟩
        · rw [jA r p hp2]
          simp [hp, Ne.symm hp2]
        · rw [jB p s hp2]
          simp [hp, Ne.symm hp2]
      · have e1 := jA x.r x.ew hp
        have e2 := jB x.ew x.s hp
        have u1 := sA x.r x.ew
        have u2 := sB x.ew x.s
        rw [if_pos (by simp [sitB])] at u1
        rw [if_pos (by simp [plyB])] at u2
        have v1 := mA x.r x.ew hp
        have v2 := mB x.ew x.s hp
        have v3 := mA0 x.r x.ew hp
        have v4 := mB0 x.ew x.s hp
        have hne : ¬ x.ns = x.ew := by intro h; have := hr.2.2.2.2.2 h; omega
        simp [show ¬ x.ns = x.ew by intro h; have := hr.2.2.2.2.2 h; omega] at e1 e2
        obtain ⟨g1, g2, g3, g4, g5, g6⟩ := key x.ew hp _ _ e1 e2 (by omega) (by omega)
        simp [go_sem, hp]
        refine Drawn.incr 5 [35, 39] rfl rfl rfl rfl rfl (by decide +kernel) rfl ?_
        simp [go_sem, g1, g2, mset_p, wo]
        refine ⟨by decide +kernel, ?_⟩
        refine Drawn.incr 5 [44, 48] rfl rfl rfl rfl rfl (by decide +kernel) rfl ?_
        have fA : ∀ r p, p ≠ 0 → getC (aset (x.r, x.ew) 1 SA') (r, p) = cA i r p + (if 1 ≤ 2 ∧ x.r = r ∧ x.ns = p then 1 else 0) + if 2 ≤ 2 ∧ x.r = r ∧ x.ew = p then 1 else 0 := fun r p hp3 => by
          rw [getC_set]
          have := jA r p hp3
          by_cases e3 : (r, p) = (x.r, x.ew)
          · rw [if_pos e3]
            simp only [Prod.mk.injEq] at e3
            obtain ⟨rfl, rfl⟩ := e3
            rw [e1] at this
            have hz : cA i x.r x.ew = 0 := by omega
            simp [hz, hne]
          · rw [if_neg e3, this]
            simp only [Prod.mk.injEq] at e3
            have : ¬ (x.r = r ∧ x.ew = p) := fun h => e3 ⟨h.1.symm, h.2.symm⟩
            simp [this]
        have fB : ∀ p s, p ≠ 0 → getC (aset (x.ew, x.s) 1 SB') (p, s) = cB i p s + (if 1 ≤ 2 ∧ x.s = s ∧ x.ns = p then 1 else 0) + if 2 ≤ 2 ∧ x.s = s ∧ x.ew = p then 1 else 0 := fun p s hp3 => by
          rw [getC_set]
          have := jB p s hp3
          by_cases e3 : (p, s) = (x.ew, x.s)
          · rw [if_pos e3]
            simp only [Prod.mk.injEq] at e3
            obtain ⟨rfl, rfl⟩ := e3
            rw [e2] at this
            have hz : cB i x.ew x.s = 0 := by omega
            simp [hz, hne]
          · rw [if_neg e3, this]
            simp only [Prod.mk.injEq] at e3
            have : ¬ (x.s = s ∧ x.ew = p) := fun h => e3 ⟨h.2.symm, h.1.symm⟩
            simp [this]
        by_cases hp2 : x.ns = 0
        · simp [go_sem, g3, g4, g5, g6, mset_p, wo, w0, hp2, w2]
          exact ⟨by decide +kernel, 2, _, _, ⟨by simp, rfl, rfl⟩, ⟨by omega, by simpa [hp2] using fA, by simpa [hp2] using fB⟩, by omega⟩
        · simp [go_sem, g3, g4, g5, g6, mset_p, wo, wm, hp, hp2, w2]
          exact ⟨by decide +kernel, 2, _, _, ⟨by simp, rfl, rfl⟩, ⟨by omega, fA, fB⟩, by omega⟩
    · have gD := mget_p x.r x.s SD
      have hD1 := iD x.r x.s
      have u4 := sD x.r x.s
      rw [if_pos (by simp [rsB])] at u4
      have v4 := mD x.r x.s
      obtain ⟨c4, hc4⟩ : ∃ c4, cD i x.r x.s = c4 := ⟨_, rfl⟩
      have hD2 : (aget (x.r, x.s) SD).getD 0 = c4 := hD1.trans hc4
      rw [u4, hc4] at v4
      have w4 : IntKind.i64.wrap (c4 + 1) = c4 + 1 := wrap64 (by omega) (by omega)
      have gD2 : mget (.agg [.int .i64 x.r, .int .i64 x.s]) (enP (aset (x.r, x.s) (c4 + 1) SD)) = some (.int .i64 (c4 + 1)) := by rw [mget_p, aget_aset, if_pos rfl]; rfl
      have t1 : ¬ co < c4 + 1 := by omega
      have t2 : ¬ x.s < 0 := by omega
      have t3 : ¬ se ≤ x.s := by omega
      have t4 : ¬ x.t < 0 := by omega
      have t5 : ¬ tb ≤ x.t := by omega
      have t6 : ¬ x.r < 0 := by omega
      have t7 : ¬ ro ≤ x.r := by omega
      have nxtA : ∀ r p, p ≠ 0 → getC SA' (r, p) = cA (i + 1) r p := fun r p hp => by
        rw [jA r p hp, sA r p]
        by_cases b1 : x.r = r <;> by_cases b2 : x.ns = p <;> by_cases b3 : x.ew = p <;> simp [sitB, b1, b2, b3]
        have := hr.2.2.2.2.2 (b2.trans b3.symm)
        omega
      have nxtB : ∀ p s, p ≠ 0 → getC SB' (p, s) = cB (i + 1) p s := fun p s hp => by
        rw [jB p s hp, sB p s]
        by_cases b1 : x.s = s <;> by_cases b2 : x.ns = p <;> by_cases b3 : x.ew = p <;> simp [plyB, b1, b2, b3]
        have := hr.2.2.2.2.2 (b2.trans b3.symm)
        omega
      have nxtD : ∀ r s, getC (aset (x.r, x.s) (c4 + 1) SD) (r, s) = cD (i + 1) r s := fun r s => by
        rw [getC_set, sD r s]
        by_cases e3 : (r, s) = (x.r, x.s)
        · rw [if_pos e3]
          simp only [Prod.mk.injEq] at e3
          obtain ⟨rfl, rfl⟩ := e3
          rw [hc4, if_pos (by simp [rsB])]
        · rw [if_neg e3, iD]
          simp only [Prod.mk.injEq] at e3
          have : rsB r s x = false := by
            simp only [rsB, Bool.and_eq_false_iff, beq_eq_false_iff_ne]
            by_cases b1 : x.r = r
            · right; intro h; exact e3 ⟨b1.symm, h.symm⟩
            · exact .inl b1
          simp [this]
      have wi : IntKind.i64.wrap ((i : Int) + 1) = i + 1 := w1
      by_cases hz : x.ns = 0 ∨ x.ew = 0
      · have nxtC : ∀ a b, getC SC (a, b) = cC (i + 1) a b := fun a b => by
          rw [iC, sC]
          have : metB a b x = false := by
            simp only [metB, Bool.and_eq_false_iff, bne_eq_false_iff_eq]
            exact .inl hz
          simp [this]
        have hm0 : x.ns * x.ew = 0 := by rcases hz with h | h <;> simp [h]
        rw [hm0] at wm
        simp [go_sem]
        refine Drawn.incr 6 [78, 83] rfl rfl rfl rfl rfl (by decide +kernel) rfl ?_
        simp [go_sem, gD, hD2, gD2, mset_p, w4, t1, t2, t3, t4, t5, t6, t7, hm0, wm, wi]
        exact ⟨by decide +kernel, by decide +kernel, i + 1, _, _, _, _, ⟨by simp, rfl, rfl, rfl, rfl⟩, ⟨by omega, nxtA, nxtB, nxtC, nxtD⟩, by omega⟩
      · have hm0 : ¬ x.ns * x.ew = 0 := by rw [Int.mul_eq_zero]; exact hz
        have hz1 : ¬ x.ns = 0 := fun h => hz (.inl h)
        have hz2 : ¬ x.ew = 0 := fun h => hz (.inr h)
        obtain ⟨mn, hmn⟩ : ∃ mn, min x.ns x.ew = mn := ⟨_, rfl⟩
        obtain ⟨mx, hmx⟩ : ∃ mx, max x.ns x.ew = mx := ⟨_, rfl⟩
        have hmn' : (if x.ew < x.ns then x.ew else x.ns) = mn := by rw [← hmn, Int.min_def]; split <;> split <;> omega
        have hmx' : (if x.ns < x.ew then x.ew else x.ns) = mx := by rw [← hmx, Int.max_def]; split <;> split <;> omega
        have u5 := sC mn mx
        rw [if_pos (by simp [metB, hz1, hz2, hmn, hmx])] at u5
        have v5 := mC mn mx
        have v6 := mC0 mn mx
        have hC1 : (aget (mn, mx) SC).getD 0 = 0 := (iC mn mx).trans (by omega)
        have gC := mget_p mn mx SC
        have gC2 : mget (.agg [.int .i64 mn, .int .i64 mx]) (enP (aset (mn, mx) 1 SC)) = some (.int .i64 1) := by rw [mget_p, aget_aset, if_pos rfl]; rfl
        have nxtC : ∀ a b, getC (aset (mn, mx) 1 SC) (a, b) = cC (i + 1) a b := fun a b => by
          rw [getC_set, sC a b]
          by_cases e3 : (a, b) = (mn, mx)
          · rw [if_pos e3]
            simp only [Prod.mk.injEq] at e3
            obtain ⟨rfl, rfl⟩ := e3
            rw [if_pos (by simp [metB, hz1, hz2, hmn, hmx])]
            omega
          · rw [if_neg e3, iC]
            simp only [Prod.mk.injEq] at e3
            have : metB a b x = false := by
              simp only [metB, Bool.and_eq_false_iff, beq_eq_false_iff_ne, hmn, hmx]
              by_cases b1 : mn = a
              · right; right; intro h; exact e3 ⟨b1.symm, h.symm⟩
              · exact .inr (.inl b1)
            simp [this]
        simp [go_sem]
        refine Drawn.incr 6 [78, 83] rfl rfl rfl rfl rfl (by decide +kernel) rfl ?_
        simp [go_sem, gD, hD2, gD2, mset_p, w4, t1, t2, t3, t4, t5, t6, t7, hz1, hz2, wm, hmn', hmx']
        refine ⟨by decide +kernel, by decide +kernel, ?_⟩
        refine Drawn.incr 2 [151, 152] rfl rfl rfl rfl rfl (by decide +kernel) rfl ?_
        simp [go_sem, gC, hC1, gC2, mset_p, wo, wi]
        exact ⟨by decide +kernel, i + 1, _, _, _, _, ⟨by simp, rfl, rfl, rfl, rfl⟩, ⟨by omega, nxtA, nxtB, nxtC, nxtD⟩, by omega⟩
  · simp [go_sem, h]
    exact hR _ _ _ rfl (by simp [go_sem])
end Go.Idl
