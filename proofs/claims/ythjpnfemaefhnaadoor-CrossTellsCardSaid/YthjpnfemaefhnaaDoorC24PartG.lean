/-
  Chapter 24: Butler, SameFracs.
  Chapter 24: the examples of the chapter.
  Chapter 24: seen from the other side (plain).
-/
import Derived.Test.YthjpnfemaefhnaaDoorC24PartF
import Derived.Test.YthjpnfemaefhnaaDoorC24PartC
namespace Go.Idl
set_option linter.all false
open Go.Proofs
set_option maxHeartbeats 8000000
set_option maxRecDepth 40000

theorem nearQ_bd {s : Int} {k : Nat} (h : -(7600 * (k : Int)) ≤ s ∧ s ≤ 7600 * k) : -761 ≤ nearQ s (10 * k) ∧ nearQ s (10 * k) ≤ 761 := by
  have hQ : s.natAbs / (10 * k) ≤ 760 := Nat.div_le_of_le_mul (by omega)
  unfold nearQ
  generalize s.natAbs / (10 * k) = Q at *
  generalize s.natAbs % (10 * k) = R at *
  split <;> split <;> omega
theorem datE_zero {l : List Int} {d : Int} (h : datE l d = 0) : exE l = 0 ∧ 0 ≤ d ∧ l ≠ [] ∧ d ≤ ((l.length : Int) - 1) / 2 := by
  unfold datE at h
  split at h
  · rename_i h0; exact absurd h h0
  · rename_i h0
    split at h
    · omega
    · rename_i h1
      refine ⟨by simpa using h0, by omega, fun e => h1 (.inr (.inl e)), ?_⟩
      have : ¬ ((l.length : Int) - 1) / 2 < d := fun hh => h1 (.inr (.inr hh))
      omega
theorem datI_bd (l : List Int) (d : Int) : -7610 ≤ datI l d ∧ datI l d ≤ 7610 := by
  unfold datI
  split
  · rename_i h
    obtain ⟨h0, h1, h2, h3⟩ := datE_zero h
    obtain ⟨h4, h5⟩ := exE_ok h0
    have := sum_bd (leftL l d.toNat) fun y hy => h5 y (srtI_mem.1 (List.mem_of_mem_drop (List.mem_of_mem_take hy)))
    have := nearQ_bd this
    omega
  · omega
def butR (l : List Int) (d : Int) : List Int := if datE l d = 0 then butlerL l (datI l d) else []
theorem butler_fun (l : List Int) (d : Int) (hl : l.length < 2 ^ 63) : FN 15 [.fz 1 (ints l), .int .i64 d] (fun v => v = .tup [.fz 1 (ints (butR l d)), .int .i64 (datE l d)]) := by
  refine IFun.of_bodyZ false 8 [15] Tryd.func15 rfl Tryd.call15 rfl fun R hR => ?_
  have hb := datI_bd l d
  simp [go_sem]
  refine (datum_fun l d hl).callF (by simp [go_sem]) ?_
  rintro _ rfl
  by_cases h : datE l d = 0
  · obtain ⟨h0, _, _, _⟩ := datE_zero h
    obtain ⟨h4, h5⟩ := exE_ok h0
    have hc : butR l d = butlerL l (datI l d) := by unfold butR; rw [if_pos h]
    generalize datI l d = D at *
    simp [go_sem, h]
    refine (butlerEach_fun l D (by omega) h4 h5).callOF (by simp [go_sem]) ?_
    rintro _ rfl
    refine ⟨fun v => v, 1, _, .here, by decide, rfl, by simp [go_sem], ?_⟩
    simp [go_sem]
    exact hR _ _ _ rfl (by simp [go_sem, h, hc])
  · have hc : butR l d = [] := by unfold butR; rw [if_neg h]
    simp [go_sem, h]
    exact hR _ _ _ rfl (by simp [go_sem, hc])
theorem sameFracs_fun (a b : List Frc) (ha : a.length ≤ 2 ^ 40) : FN 23 [.fz 2 (frs a), .fz 2 (frs b)] (fun v => v = .bool (decide (a = b))) := by
  refine IFun.of_bodyZ false 6 [10, 14, 25] Tryd.func23 rfl Tryd.call23 rfl fun R hR => ?_
  by_cases hl : a.length = b.length
  case neg =>
    have hl' : ¬ (a.length : Int) = b.length := by omega
    have : ¬ a = b := fun e => hl (by rw [e])
    simp [go_sem, hl, hl']
    exact hR _ _ _ rfl (by simp [go_sem, this])
  simp [go_sem, hl]
  refine IWp.loopT (α := Nat) (fun i => (⟨false, 26, 6, [10, 14, 25], glT, [(0, .fz 2 (frs a)), (1, .fz 2 (frs b)), (5, .int .i64 (i : Int))], []⟩, []))
    (fun i => i ≤ a.length ∧ a.take i = b.take i) (fun i => a.length - i) 0 (by simp) (by simp [go_sem]) ?_
  rintro i ⟨hi, hp⟩
  by_cases h : i < a.length
  · have w1 : IntKind.i64.wrap ((i : Int) + 1) = i + 1 := wrap64 (by omega) (by omega)
    have hb : i < b.length := by omega
    have hab : a.take (i + 1) = b.take (i + 1) ↔ a[i] = b[i] := by
      have e1 := List.take_succ_eq_append_getElem h
      have e2 := List.take_succ_eq_append_getElem hb
      rw [e1, e2, hp, List.append_cancel_left_eq]; simp
    have hne : a[i] ≠ b[i] → a ≠ b := fun h1 e => h1 (by subst e; rfl)
    obtain ⟨⟨x1, x2⟩, hx⟩ : ∃ x, a[i] = x := ⟨_, rfl⟩
    obtain ⟨⟨y1, y2⟩, hy⟩ : ∃ x, b[i] = x := ⟨_, rfl⟩
    rw [hx, hy] at hab hne
    have hbI : (i : Int) < b.length := by omega
    by_cases e : x1 = y1 ∧ x2 = y2
    · simp [go_sem, h, hb, hbI, hx, hy, e.1, e.2, w1]
      refine ⟨by decide +kernel, i + 1, by omega, ⟨by omega, hab.2 (by rw [e.1, e.2])⟩, by omega⟩
    · have hn : a ≠ b := hne (by simpa using e)
      by_cases e1 : x1 = y1
      · have e2 : ¬ x2 = y2 := fun h => e ⟨e1, h⟩
        simp [go_sem, h, hb, hbI, hx, hy, e1, e2]
        exact ⟨by decide +kernel, hR _ _ _ rfl (by simp [go_sem, hn])⟩
      · simp [go_sem, h, hb, hbI, hx, hy, e1]
        exact ⟨by decide +kernel, hR _ _ _ rfl (by simp [go_sem, hn])⟩
  · obtain rfl : i = a.length := by omega
    have : a = b := by rw [List.take_length, hl, List.take_length] at hp; exact hp
    subst this
    simp [go_sem]
    exact hR _ _ _ rfl (by simp [go_sem])
end Go.Idl
namespace Go.Idl
set_option linter.all false
open Go.Proofs
set_option maxHeartbeats 8000000
set_option maxRecDepth 40000

theorem srtI_eq {l a : List Int} (ha : a.Pairwise (· ≤ ·)) (hp : a.Perm l) : srtI l = a := by
  have h1 : (srtI l).Pairwise (· ≤ ·) := by
    have := List.pairwise_mergeSort (le := fun x y : Int => decide (x ≤ y)) (fun a b c h1 h2 => by simp at *; omega) (fun a b => by simp; omega) l
    exact this.imp fun h => by simpa using h
  have h2 : (srtI l).Perm a := (List.mergeSort_perm l _).trans hp.symm
  exact List.Perm.eq_of_pairwise (fun x y _ _ h1 h2 => by omega) h1 ha h2
def A4 : List Int := [420, 420, -50, 170]
theorem aw_cross : exE A4 = 0 ∧ crossR A4 = [⟨16, 3⟩, ⟨16, 3⟩, ⟨-26, 3⟩, ⟨-2, 1⟩] ∧ plainR A4 = [⟨180, 1⟩, ⟨180, 1⟩, ⟨-290, 1⟩, ⟨-70, 1⟩] := by decide +kernel
theorem dat_at {l a : List Int} {d : Nat} (hs : srtI l = a) (he : datE l d = 0) : datI l (d : Int) = 10 * nearQ ((a.drop d).take (l.length - 2 * d)).sum (10 * ((a.drop d).take (l.length - 2 * d)).length) := by
  unfold datI leftL
  rw [if_pos he, hs]
  simp
theorem aw_srt : srtI A4 = [-50, 170, 420, 420] := srtI_eq (by decide) (by decide)
theorem aw_dat0 : datE A4 0 = 0 ∧ datI A4 0 = 240 := ⟨by decide +kernel, (dat_at (d := 0) aw_srt (by decide +kernel)).trans (by decide +kernel)⟩
theorem aw_dat1 : datE A4 1 = 0 ∧ datI A4 1 = 300 := ⟨by decide +kernel, (dat_at (d := 1) aw_srt (by decide +kernel)).trans (by decide +kernel)⟩
theorem aw_but : butR A4 0 = [5, 5, -7, -2] := by
  unfold butR
  rw [if_pos aw_dat0.1, aw_dat0.2]
  decide +kernel
theorem aw_1 : datE [10] 0 = 0 ∧ datI [10] 0 = 10 := ⟨by decide +kernel, (dat_at (d := 0) (a := [10]) (srtI_eq (by decide) (by decide)) (by decide +kernel)).trans (by decide +kernel)⟩
theorem aw_2 : datE [5] 0 = 0 ∧ datI [5] 0 = 10 := ⟨by decide +kernel, (dat_at (d := 0) (a := [5]) (srtI_eq (by decide) (by decide)) (by decide +kernel)).trans (by decide +kernel)⟩
theorem aw_3 : datE [-5] 0 = 0 ∧ datI [-5] 0 = -10 := ⟨by decide +kernel, (dat_at (d := 0) (a := [-5]) (srtI_eq (by decide) (by decide)) (by decide +kernel)).trans (by decide +kernel)⟩
theorem aw_4 : datE [5, 0] 0 = 0 ∧ datI [5, 0] 0 = 0 := ⟨by decide +kernel, (dat_at (d := 0) (a := [0, 5]) (srtI_eq (by decide) (by decide)) (by decide +kernel)).trans (by decide +kernel)⟩
theorem awake24_fun : FN 11 [] (fun v => v = .bool true) := by
  refine IFun.of_bodyZ false 16 [59, 91, 100, 101, 102, 103, 119] Tryd.func11 rfl Tryd.call11 rfl fun R hR => ?_
  simp [go_sem]
  refine (cross_fun A4 (by decide)).callF (by simp [go_sem, A4, ints_cons]) ?_
  rintro _ rfl
  rw [aw_cross.1, aw_cross.2.1]
  simp [go_sem]
  refine (datum_fun A4 0 (by decide)).callF (by simp [go_sem, A4, ints_cons]) ?_
  rintro _ rfl
  rw [aw_dat0.1, aw_dat0.2]
  simp [go_sem]
  refine (datum_fun A4 1 (by decide)).callF (by simp [go_sem, A4, ints_cons]) ?_
  rintro _ rfl
  rw [aw_dat1.1, aw_dat1.2]
  simp [go_sem]
  refine (butler_fun A4 0 (by decide)).callF (by simp [go_sem, A4, ints_cons]) ?_
  rintro _ rfl
  rw [aw_dat0.1, aw_but]
  simp [go_sem]
  refine (plain_fun A4 (by decide)).callF (by simp [go_sem, A4, ints_cons]) ?_
  rintro _ rfl
  rw [aw_cross.1, aw_cross.2.2]
  simp [go_sem]
  refine (sameFracs_fun [⟨16, 3⟩, ⟨16, 3⟩, ⟨-26, 3⟩, ⟨-2, 1⟩] [⟨16, 3⟩, ⟨16, 3⟩, ⟨-26, 3⟩, ⟨-2, 1⟩] (by decide)).callF (by simp [go_sem, frs_cons]) ?_
  rintro _ rfl
  simp [go_sem]
  refine (sameInts_fun [5, 5, -7, -2] [5, 5, -7, -2] (by decide)).callF (by simp [go_sem, ints_cons]) ?_
  rintro _ rfl
  simp [go_sem]
  refine (sameFracs_fun [⟨180, 1⟩, ⟨180, 1⟩, ⟨-290, 1⟩, ⟨-70, 1⟩] [⟨180, 1⟩, ⟨180, 1⟩, ⟨-290, 1⟩, ⟨-70, 1⟩] (by decide)).callF (by simp [go_sem, frs_cons]) ?_
  rintro _ rfl
  simp [go_sem]
  have vn : ∀ n : Int, 0 ≤ n → n ≤ 20 → IntKind.i64.wrap n = n := fun n h1 h2 => wrap64 (by omega) (by omega)
  refine IWp.loopT (α := Nat) (fun i => (⟨false, 121, 16, [59, 91, 100, 101, 102, 103, 119], glT, [(100, .sl 8 4 0 4 none), (101, .int .i64 4), (102, .int .i64 (i : Int))], []⟩, [.dead, .dead, .dead, .dead, .rows 1 [[.int .i64 10]], .rows 1 [[.int .i64 5]], .rows 1 [[.int .i64 (-5)]], .rows 1 [[.int .i64 5], [.int .i64 0]], .rows 2 [[.sl 4 1 0 1 none, .int .i64 10], [.sl 5 1 0 1 none, .int .i64 10], [.sl 6 1 0 1 none, .int .i64 (-10)], [.sl 7 2 0 2 none, .int .i64 0]]]))
    (fun i => i ≤ 4) (fun i => 4 - i) 0 (by simp) (by simp [go_sem]) ?_
  intro i hi
  rcases (by omega : i = 0 ∨ i = 1 ∨ i = 2 ∨ i = 3 ∨ i = 4) with rfl | rfl | rfl | rfl | rfl
  · simp [go_sem]
    refine (datum_fun [10] 0 (by decide)).callF (by simp [go_sem, ints_cons]) ?_
    rintro _ rfl
    rw [aw_1.1, aw_1.2]
    simp [go_sem, vn]
    exact ⟨1, by omega, by omega, by omega⟩
  · simp [go_sem]
    refine (datum_fun [5] 0 (by decide)).callF (by simp [go_sem, ints_cons]) ?_
    rintro _ rfl
    rw [aw_2.1, aw_2.2]
    simp [go_sem, vn]
    exact ⟨2, by omega, by omega, by omega⟩
  · simp [go_sem]
    refine (datum_fun [-5] 0 (by decide)).callF (by simp [go_sem, ints_cons]) ?_
    rintro _ rfl
    rw [aw_3.1, aw_3.2]
    simp [go_sem, vn]
    exact ⟨3, by omega, by omega, by omega⟩
  · simp [go_sem]
    refine (datum_fun [5, 0] 0 (by decide)).callF (by simp [go_sem, ints_cons]) ?_
    rintro _ rfl
    rw [aw_4.1, aw_4.2]
    simp [go_sem, vn]
    exact ⟨4, by omega, by omega, by omega⟩
  · simp [go_sem]
    exact hR _ _ _ rfl (by simp [go_sem])
end Go.Idl
namespace Go.Idl
set_option linter.all false
open Go.Proofs
set_option maxHeartbeats 8000000
set_option maxRecDepth 40000

theorem impI_neg (d : Int) : impI (-d) = -impI d := by unfold impI; rw [Int.neg_neg]; omega
theorem mkF_neg {n : Int} {d : Nat} (hd : 0 < d) (hd2 : (d : Int) < 2 ^ 63) (hn : -2 ^ 62 ≤ n ∧ n ≤ 2 ^ 62) : (mkF (-n) d).1 = ⟨-(mkF n d).1.num, (mkF n d).1.den⟩ := by
  have e1 : (-n).natAbs = n.natAbs := Int.natAbs_neg n
  have hda : (d : Int).natAbs = d := by simp
  have hdn : decide ((d : Int) < 0) = false := by simp
  unfold mkF
  rw [if_neg (by omega), if_neg (by omega), e1, hda, hdn]
  have hxl := Nat.div_le_self n.natAbs (Nat.gcd n.natAbs d)
  have hyl := Nat.div_le_self d (Nat.gcd n.natAbs d)
  have hx0 : n = 0 → n.natAbs / Nat.gcd n.natAbs d = 0 := fun e => by subst e; simp
  generalize n.natAbs / Nat.gcd n.natAbs d = x at *
  generalize d / Nat.gcd n.natAbs d = y at *
  have key : ∀ b : Bool, packF b x y = (⟨if b = true then -(x : Int) else x, y⟩, 0) := fun b => by
    unfold packF
    rw [if_neg]
    cases b <;> simp <;> omega
  rw [key, key]
  simp only
  by_cases h : n < 0
  · have h1 : (decide (-n < 0) != false) = false := by simp; omega
    have h2 : (decide (n < 0) != false) = true := by simp [h]
    rw [h1, h2]; simp
  · by_cases h0 : n = 0
    · have := hx0 h0
      subst this
      simp
    · have h1 : (decide (-n < 0) != false) = true := by simp; omega
      have h2 : (decide (n < 0) != false) = false := by simp [h]
      rw [h1, h2]; simp
theorem vsI_neg {l : List Int} {i : Nat} {x : Int} : ∀ k, k ≤ l.length → vsI (l.map (- ·)) i (-x) k = -vsI l i x k
  | 0, _ => by simp [vsI]
  | k + 1, h => by
    rw [vsI_succ (by rw [List.length_map]; omega), vsI_succ (by omega), vsI_neg k (by omega), List.getElem_map]
    have : -x - -l[k] = -(x - l[k]) := by omega
    rw [this, impI_neg]
    split <;> omega
theorem crossF_neg {l : List Int} {i : Nat} {x : Int} (h0 : 0 < l.length) (hl : l.length ≤ 24) : crossF (l.map (- ·)) i (-x) = ⟨-(crossF l i x).num, (crossF l i x).den⟩ := by
  unfold crossF
  rw [List.length_map]
  split
  · simp
  · rename_i h1
    have hb := vsI_bd (l := l) (i := i) (x := x) l.length (Nat.le_refl _)
    rw [vsI_neg _ (Nat.le_refl _), show (l.length : Int) - 1 = ((l.length - 1 : Nat) : Int) by omega]
    exact mkF_neg (by omega) (by omega) (by omega)
theorem plainF_neg {l : List Int} {sm x : Int} (h0 : 0 < l.length) (hl : l.length ≤ 24) (hs : -200000 ≤ sm ∧ sm ≤ 200000) (hx : -7600 ≤ x ∧ x ≤ 7600) : plainF (l.map (- ·)) (-sm) (-x) = ⟨-(plainF l sm x).num, (plainF l sm x).den⟩ := by
  unfold plainF
  rw [List.length_map]
  have hb1 : -(24 * 7600) ≤ (l.length : Int) * x ∧ (l.length : Int) * x ≤ 24 * 7600 := by
    have h1 := Int.mul_le_mul_of_nonneg_left hx.2 (show 0 ≤ (l.length : Int) by omega)
    have h2 := Int.mul_le_mul_of_nonneg_left hx.1 (show 0 ≤ (l.length : Int) by omega)
    omega
  have e : (l.length : Int) * -x - -sm = -((l.length : Int) * x - sm) := by rw [Int.mul_neg]; omega
  rw [e]
  exact mkF_neg h0 (by omega) (by omega)
theorem sum_neg : ∀ l : List Int, (l.map (- ·)).sum = -l.sum
  | [] => by simp
  | x :: l => by rw [List.map_cons, List.sum_cons, List.sum_cons, sum_neg l]; omega
theorem sum_rev : ∀ l : List Int, l.reverse.sum = l.sum
  | [] => by simp
  | x :: l => by rw [List.reverse_cons, List.sum_append, List.sum_cons, sum_rev l]; simp; omega
theorem srtI_le (l : List Int) : (srtI l).Pairwise (· ≤ ·) := by
  have := List.pairwise_mergeSort (le := fun x y : Int => decide (x ≤ y)) (fun a b c h1 h2 => by simp at *; omega) (fun a b => by simp; omega) l
  exact this.imp fun h => by simpa using h
theorem srtI_perm (l : List Int) : (srtI l).Perm l := List.mergeSort_perm l _
theorem srtI_neg (l : List Int) : srtI (l.map (- ·)) = ((srtI l).map (- ·)).reverse := by
  refine srtI_eq ?_ ?_
  · rw [List.pairwise_reverse]
    exact List.pairwise_map.2 ((srtI_le l).imp fun h => by omega)
  · exact (List.reverse_perm _).trans ((srtI_perm l).map _)
theorem leftL_neg {l : List Int} {d : Nat} (h : 2 * d ≤ l.length) : leftL (l.map (- ·)) d = ((leftL l d).map (- ·)).reverse := by
  unfold leftL
  rw [srtI_neg, List.length_map]
  have hn := srtI_length l
  generalize srtI l = S at *
  rw [← List.map_reverse, ← List.map_drop, ← List.map_take, ← List.map_reverse]
  congr 1
  rw [List.drop_reverse, List.take_reverse]
  congr 1
  simp only [List.length_take, hn]
  rw [List.drop_take]
  congr 1
  · omega
  · congr 1
    omega
theorem nearQ_neg (s : Int) {b : Nat} (hb : 0 < b) : nearQ (-s) b = -nearQ s b := by
  unfold nearQ
  rw [Int.natAbs_neg]
  by_cases h0 : s = 0
  · subst h0
    have : ¬ b ≤ 0 := by omega
    simp [this]
  · generalize (s.natAbs / b + if b ≤ 2 * (s.natAbs % b) then 1 else 0 : Nat) = q
    by_cases h : s < 0
    · rw [if_neg (by omega), if_pos h]; omega
    · rw [if_pos (by omega), if_neg h]; omega
section
variable {l : List Int} (hl : l.length ≤ 24) (hb : ∀ y ∈ l, -7600 ≤ y ∧ y ≤ 7600) (h0 : 0 < l.length)
include hl hb
theorem exE_neg : exE (l.map (- ·)) = 0 := exE_of (by rw [List.length_map]; exact hl) fun y hy => by
  obtain ⟨x, hx, rfl⟩ := List.mem_map.1 hy
  have := hb x hx
  omega
theorem datE_good {d : Nat} (h0 : 0 < l.length) (hd : 2 * d < l.length) : datE l (d : Int) = 0 := by
  unfold datE
  rw [if_neg (by simp [exE_of hl hb]), if_neg]
  rintro (h | h | h)
  · omega
  · rw [h] at h0; simp at h0
  · omega
theorem datE_gneg {d : Nat} (h0 : 0 < l.length) (hd : 2 * d < l.length) : datE (l.map (- ·)) (d : Int) = 0 :=
  datE_good (l := l.map (- ·)) (by rw [List.length_map]; exact hl) (fun y hy => by
    obtain ⟨x, hx, rfl⟩ := List.mem_map.1 hy
    have := hb x hx
    omega) (by rw [List.length_map]; exact h0) (by rw [List.length_map]; exact hd)
theorem datI_neg {d : Nat} (h0 : 0 < l.length) (hd : 2 * d < l.length) : datI (l.map (- ·)) (d : Int) = -datI l d := by
  unfold datI
  rw [if_pos (datE_good hl hb h0 hd), if_pos (datE_gneg hl hb h0 hd)]
  simp only [Int.toNat_natCast]
  rw [leftL_neg (by omega), sum_rev, sum_neg, List.length_reverse, List.length_map]
  have hL := leftL_length (l := l) (d := d) (by omega)
  rw [nearQ_neg _ (by omega)]
  omega
theorem crossL_neg {i : Nat} (hi : i < l.length) : (crossL (l.map (- ·)))[i]'(by simpa using hi) = ⟨-((crossL l)[i]'(by simpa using hi)).num, ((crossL l)[i]'(by simpa using hi)).den⟩ := by
  have e : (l.map (- ·)).getD i 0 = -l.getD i 0 := by simp [hi]
  simp only [crossL, List.getElem_map, List.getElem_range]
  rw [e, crossF_neg (by omega) hl]
theorem plainL_neg {i : Nat} (hi : i < l.length) : (plainL (l.map (- ·)) (l.map (- ·)).sum)[i]'(by simpa using hi) = ⟨-((plainL l l.sum)[i]'(by simpa using hi)).num, ((plainL l l.sum)[i]'(by simpa using hi)).den⟩ := by
  have e : (l.map (- ·)).getD i 0 = -l.getD i 0 := by simp [hi]
  have hx := hb l[i] (List.getElem_mem hi)
  have hs := sum_take_bd hl hb l.length
  rw [List.take_length] at hs
  simp only [plainL, List.getElem_map, List.getElem_range]
  rw [e, sum_neg, show l.getD i 0 = l[i] by simp [hi], plainF_neg (by omega) hl hs hx]
theorem butlerL_neg {i : Nat} {dt : Int} (hi : i < l.length) : (butlerL (l.map (- ·)) (-dt))[i]'(by simpa using hi) = -(butlerL l dt)[i]'(by simpa using hi) := by
  have e : (l.map (- ·)).getD i 0 = -l.getD i 0 := by simp [hi]
  simp only [butlerL, List.getElem_map, List.getElem_range]
  rw [e, ← impI_neg]
  congr 1
  omega
end
end Go.Idl
