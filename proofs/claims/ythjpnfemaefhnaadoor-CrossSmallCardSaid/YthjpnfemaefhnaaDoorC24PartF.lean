/-
  Chapter 24: Cross, Plain.
  Chapter 24: Datum.
-/
import Derived.Test.YthjpnfemaefhnaaDoorC24PartE
import Derived.Test.YthjpnfemaefhnaaDoorC24PartB
namespace Go.Idl
set_option linter.all false
open Go.Proofs
set_option maxHeartbeats 8000000
set_option maxRecDepth 40000

theorem exE_ok {l : List Int} (h : exE l = 0) : l.length ≤ 24 ∧ ∀ y ∈ l, -7600 ≤ y ∧ y ≤ 7600 := by
  unfold exE at h
  split at h
  · omega
  · rename_i h0
    split at h
    · omega
    · rename_i h1
      refine ⟨by omega, fun y hy => ?_⟩
      simp only [Bool.not_eq_true, List.any_eq_false] at h1
      have := h1 y hy
      unfold badS at this
      simp at this
      omega
theorem exE_of {l : List Int} (h1 : l.length ≤ 24) (h2 : ∀ y ∈ l, -7600 ≤ y ∧ y ≤ 7600) : exE l = 0 := by
  unfold exE
  rw [if_neg (by omega), if_neg]
  rw [Bool.not_eq_true, List.any_eq_false]
  intro y hy
  have := h2 y hy
  unfold badS; simp; omega
theorem sum_succ24 {l : List Int} {k : Nat} (h : k < l.length) : (l.take (k + 1)).sum = (l.take k).sum + l[k] := by
  rw [List.take_succ_eq_append_getElem h, List.sum_append]; simp
theorem sum_bd : ∀ (l : List Int), (∀ y ∈ l, -7600 ≤ y ∧ y ≤ 7600) → -(7600 * (l.length : Int)) ≤ l.sum ∧ l.sum ≤ 7600 * l.length
  | [], _ => by simp
  | x :: l, h => by
    have := sum_bd l fun y hy => h y (by simp [hy])
    have := h x (by simp)
    rw [List.sum_cons, List.length_cons]
    omega
theorem sum_take_bd {l : List Int} (h1 : l.length ≤ 24) (h2 : ∀ y ∈ l, -7600 ≤ y ∧ y ≤ 7600) (k : Nat) : -200000 ≤ (l.take k).sum ∧ (l.take k).sum ≤ 200000 := by
  have := sum_bd (l.take k) fun y hy => h2 y (List.mem_of_mem_take hy)
  have : (l.take k).length ≤ l.length := by simp; omega
  omega
def crossR (l : List Int) : List Frc := if exE l = 0 then crossL l else []
def plainR (l : List Int) : List Frc := if exE l = 0 then plainL l l.sum else []
theorem cross_fun (l : List Int) (hl : l.length < 2 ^ 63) : FN 13 [.fz 1 (ints l)] (fun v => v = .tup [.fz 2 (frs (crossR l)), .int .i64 (exE l)]) := by
  refine IFun.of_bodyZ false 6 [9] Tryd.func13 rfl Tryd.call13 rfl fun R hR => ?_
  simp [go_sem]
  refine (examine_fun l hl).callF (by simp [go_sem]) ?_
  rintro _ rfl
  by_cases h : exE l = 0
  · obtain ⟨h1, h2⟩ := exE_ok h
    have hc : crossR l = crossL l := by unfold crossR; rw [if_pos h]
    simp [go_sem, h]
    refine (crossEach_fun l h1 h2).callOF (by simp [go_sem]) ?_
    rintro _ rfl
    refine ⟨fun v => v, 2, _, .here, by decide, rfl, by simp [go_sem], ?_⟩
    simp [go_sem]
    exact hR _ _ _ rfl (by simp [go_sem, h, hc])
  · have hc : crossR l = [] := by unfold crossR; rw [if_neg h]
    simp [go_sem, h]
    exact hR _ _ _ rfl (by simp [go_sem, hc])
theorem plain_fun (l : List Int) (hl : l.length < 2 ^ 63) : FN 14 [.fz 1 (ints l)] (fun v => v = .tup [.fz 2 (frs (plainR l)), .int .i64 (exE l)]) := by
  refine IFun.of_bodyZ false 8 [11, 13, 14, 15, 16] Tryd.func14 rfl Tryd.call14 rfl fun R hR => ?_
  simp [go_sem]
  refine (examine_fun l hl).callF (by simp [go_sem]) ?_
  rintro _ rfl
  by_cases h : exE l = 0
  · obtain ⟨h1, h2⟩ := exE_ok h
    have hc : plainR l = plainL l l.sum := by unfold plainR; rw [if_pos h]
    simp [go_sem, h]
    refine IWp.loopT (α := Nat) (fun k => (⟨false, 26, 8, [11, 13, 14, 15, 16], glT, [(1, .ptr 0 1 0 0), (5, .ptr 1 1 0 0), (13, .fz 1 (ints l)), (14, .int .i64 l.length), (15, .int .i64 (k : Int))], []⟩, [.rows 1 [[.fz 1 (ints l)]], .rows 1 [[.int .i64 (l.take k).sum]]]))
      (fun k => k ≤ l.length) (fun k => l.length - k) 0 (by simp) (by simp [go_sem]) ?_
    intro k hk
    have hb := sum_take_bd h1 h2 k
    by_cases hkl : k < l.length
    · have w1 : IntKind.i64.wrap ((k : Int) + 1) = k + 1 := wrap64 (by omega) (by omega)
      have hs := sum_succ24 hkl
      have hy := h2 l[k] (List.getElem_mem hkl)
      obtain ⟨y, hye⟩ : ∃ y, l[k] = y := ⟨_, rfl⟩
      rw [hye] at hs hy
      have w2 : IntKind.i64.wrap ((l.take k).sum + y) = (l.take k).sum + y := wrap64 (by omega) (by omega)
      simp [go_sem, hkl, hye, w1, w2]
      exact ⟨k + 1, ⟨by omega, by rw [hs]⟩, by omega, by omega⟩
    · obtain rfl : k = l.length := by omega
      rw [List.take_length] at hb ⊢
      simp [go_sem]
      refine (plainEach_fun l l.sum (by omega) h1 h2).callOF (by simp [go_sem]) ?_
      rintro _ rfl
      refine ⟨fun v => v, 2, _, .here, by decide, rfl, by simp [go_sem], ?_⟩
      simp [go_sem]
      exact hR _ _ _ rfl (by simp [go_sem, h, hc])
  · have hc : plainR l = [] := by unfold plainR; rw [if_neg h]
    simp [go_sem, h]
    exact hR _ _ _ rfl (by simp [go_sem, hc])
end Go.Idl
namespace Go.Idl
set_option linter.all false
open Go.Proofs
set_option maxHeartbeats 8000000
set_option maxRecDepth 40000

theorem cloneInts_fun (l : List Int) (hl : l.length ≤ 2 ^ 32) : FN 36 [.fz 1 (ints l)] (fun v => v = .fz 1 (ints l)) := by
  refine IFun.of_bodyZ false 3 [4] Tryd.func36 rfl Tryd.call36 rfl fun R hR => ?_
  simp [go_sem]
  refine ⟨⟨⟨by omega, ints_one⟩, hR _ _ _ rfl (by simp [go_sem])⟩, fun e => hR _ _ _ rfl (by simp [go_sem, e])⟩
/-- The nearest integer. -/
def nearQ (s : Int) (b : Nat) : Int := (if s < 0 then -1 else 1) * ((s.natAbs / b + if b ≤ 2 * (s.natAbs % b) then 1 else 0 : Nat) : Int)
theorem mkF_ok {n : Int} {d : Nat} (hd : 0 < d) (hd2 : (d : Int) < 2 ^ 63) (hn : -2 ^ 63 ≤ n ∧ n < 2 ^ 63) : ∃ x y : Nat, mkF n d = (⟨if n < 0 then -(x : Int) else x, y⟩, 0) ∧ 0 < y ∧ Nat.gcd x y = 1 ∧ n.natAbs = Nat.gcd n.natAbs d * x ∧ d = Nat.gcd n.natAbs d * y ∧ y ≤ d ∧ x ≤ n.natAbs := by
  have hg := Nat.gcd_pos_of_pos_right n.natAbs hd
  have h1 : n.natAbs / Nat.gcd n.natAbs d * Nat.gcd n.natAbs d = n.natAbs := Nat.div_mul_cancel (Nat.gcd_dvd_left _ _)
  have h2 : d / Nat.gcd n.natAbs d * Nat.gcd n.natAbs d = d := Nat.div_mul_cancel (Nat.gcd_dvd_right _ _)
  have hy : 0 < d / Nat.gcd n.natAbs d := Nat.div_pos (Nat.le_of_dvd hd (Nat.gcd_dvd_right _ _)) hg
  have hxl := Nat.div_le_self n.natAbs (Nat.gcd n.natAbs d)
  have hyl := Nat.div_le_self d (Nat.gcd n.natAbs d)
  have hcop : Nat.gcd (n.natAbs / Nat.gcd n.natAbs d) (d / Nat.gcd n.natAbs d) = 1 := Nat.gcd_div_gcd_div_gcd_of_pos_right hd
  refine ⟨n.natAbs / Nat.gcd n.natAbs d, d / Nat.gcd n.natAbs d, ?_, hy, hcop, by rw [Nat.mul_comm]; exact h1.symm, by rw [Nat.mul_comm]; exact h2.symm, hyl, hxl⟩
  unfold mkF
  rw [if_neg (by omega)]
  have hda : (d : Int).natAbs = d := by simp
  rw [hda]
  have hdn : decide ((d : Int) < 0) = false := by simp
  rw [hdn]
  generalize n.natAbs / Nat.gcd n.natAbs d = x at *
  generalize d / Nat.gcd n.natAbs d = y at *
  by_cases h : n < 0
  · have hb : (decide (n < 0) != false) = true := by simp [h]
    rw [hb]
    unfold packF
    rw [if_neg]
    · simp [h]
    · simp; omega
  · have hb : (decide (n < 0) != false) = false := by simp [h]
    rw [hb]
    unfold packF
    rw [if_neg]
    · simp [h]
    · simp; omega
theorem near_mk {n : Int} {d : Nat} (hd : 0 < d) (hd2 : (d : Int) < 2 ^ 63) (hn : -2 ^ 63 ≤ n ∧ n < 2 ^ 63) : (mkF n d).2 = 0 ∧ rightB (mkF n d).1 = true ∧ nearI (mkF n d).1 = nearQ n d ∧ (-2 ^ 63 ≤ (mkF n d).1.num ∧ (mkF n d).1.num < 2 ^ 63) ∧ (-2 ^ 63 ≤ (mkF n d).1.den ∧ (mkF n d).1.den < 2 ^ 63) := by
  obtain ⟨x, y, hm, hy, hg, hx1, hy1, hyd, hxn⟩ := mkF_ok hd hd2 hn
  have hg0 := Nat.gcd_pos_of_pos_right n.natAbs hd
  generalize Nat.gcd n.natAbs d = g at *
  rw [hm]
  have hab : (if n < 0 then -(x : Int) else (x : Int)).natAbs = x := by split <;> omega
  refine ⟨rfl, ?_, ?_, ?_, ?_⟩
  · unfold rightB
    simp only [hab]
    simp [hg, hy]
  · unfold nearI nearQ
    simp only [hab, Int.natAbs_natCast]
    rw [hx1, hy1, Nat.mul_div_mul_left _ _ hg0, Nat.mul_mod_mul_left]
    have e1 : (g * y ≤ 2 * (g * (x % y))) ↔ (y ≤ 2 * (x % y)) := by
      rw [Nat.mul_left_comm]
      exact Nat.mul_le_mul_left_iff hg0
    simp only [e1]
    by_cases h : n < 0
    · by_cases h0 : x = 0
      · subst h0; omega
      · have : (if n < 0 then -(x : Int) else (x : Int)) < 0 := by rw [if_pos h]; omega
        rw [if_pos this, if_pos h]
    · have : ¬ (if n < 0 then -(x : Int) else (x : Int)) < 0 := by rw [if_neg h]; omega
      rw [if_neg this, if_neg h]
  · simp only
    split <;> omega
  · simp only
    omega
def srtI (l : List Int) : List Int := l.mergeSort fun x y => decide (x ≤ y)
/-- The results that are left. -/
def leftL (l : List Int) (d : Nat) : List Int := ((srtI l).drop d).take (l.length - 2 * d)
def datE (l : List Int) (d : Int) : Int := if exE l ≠ 0 then exE l else if d < 0 ∨ l = [] ∨ ((l.length : Int) - 1) / 2 < d then 2 else 0
def datI (l : List Int) (d : Int) : Int := if datE l d = 0 then 10 * nearQ (leftL l d.toNat).sum (10 * (leftL l d.toNat).length) else 0
theorem srtI_length (l : List Int) : (srtI l).length = l.length := by simp [srtI]
theorem srtI_mem {l : List Int} {x : Int} : x ∈ srtI l ↔ x ∈ l := by simp [srtI, List.mem_mergeSort]
theorem leftL_length {l : List Int} {d : Nat} (h : 2 * d ≤ l.length) : (leftL l d).length = l.length - 2 * d := by simp [leftL, srtI_length]; omega
theorem leftL_get {l : List Int} {d k : Nat} (h : k < (leftL l d).length) : (leftL l d)[k] = (srtI l)[d + k]'(by simp [leftL, srtI_length] at h ⊢; omega) := by simp [leftL]
theorem datum_fun (l : List Int) (d : Int) (hl : l.length < 2 ^ 63) : FN 16 [.fz 1 (ints l), .int .i64 d] (fun v => v = .tup [.int .i64 (datI l d), .int .i64 (datE l d)]) := by
  refine IFun.of_bodyZ false 15 [18, 34, 46, 47, 48, 49, 65, 73] Tryd.func16 rfl Tryd.call16 rfl fun R hR => ?_
  simp [go_sem]
  refine (examine_fun l hl).callF (by simp [go_sem]) ?_
  rintro _ rfl
  by_cases h : exE l = 0
  case neg =>
    have e1 : datE l d = exE l := by unfold datE; rw [if_pos h]
    have e2 : datI l d = 0 := by unfold datI; rw [e1, if_neg h]
    simp [go_sem, h]
    exact hR _ _ _ rfl (by simp [go_sem, e1, e2])
  obtain ⟨h1, h2⟩ := exE_ok h
  have hE : datE l d = if d < 0 ∨ l = [] ∨ ((l.length : Int) - 1) / 2 < d then 2 else 0 := by unfold datE; rw [if_neg (by simp [h])]
  have bad : (d < 0 ∨ l = [] ∨ ((l.length : Int) - 1) / 2 < d) → datE l d = 2 ∧ datI l d = 0 := fun hc => by
    have e1 : datE l d = 2 := by rw [hE, if_pos hc]
    exact ⟨e1, by unfold datI; rw [e1]; rfl⟩
  have w1 : IntKind.i64.wrap ((l.length : Int) - 1) = l.length - 1 := wrap64 (by omega) (by omega)
  by_cases h3 : d < 0
  · obtain ⟨e1, e2⟩ := bad (.inl h3)
    simp [go_sem, h, h3]
    exact hR _ _ _ rfl (by simp [go_sem, e1, e2])
  by_cases h4 : l = []
  · obtain ⟨e1, e2⟩ := bad (.inr (.inl h4))
    subst h4
    simp [go_sem, h, h3]
    exact hR _ _ _ rfl (by simp [go_sem, e1, e2])
  have hpos : 0 < l.length := List.length_pos_iff.2 h4
  have hz : ¬ (l.length : Int) = 0 := by omega
  have hd1 : ((l.length : Int) - 1).tdiv 2 = ((l.length : Int) - 1) / 2 := Int.tdiv_eq_ediv_of_nonneg (by omega)
  have w2 : IntKind.i64.wrap (((l.length : Int) - 1) / 2) = ((l.length : Int) - 1) / 2 := wrap64 (by omega) (by omega)
  by_cases h5 : ((l.length : Int) - 1) / 2 < d
  · obtain ⟨e1, e2⟩ := bad (.inr (.inr h5))
    simp [go_sem, h, h3, h4, hz, w1, hd1, w2, h5]
    exact hR _ _ _ rfl (by simp [go_sem, e1, e2])
  have e1 : datE l d = 0 := by rw [hE, if_neg (by intro hc; rcases hc with hc | hc | hc; exact h3 hc; exact h4 hc; exact h5 hc)]
  obtain ⟨D, hD⟩ : ∃ D : Nat, d = D := ⟨d.toNat, by omega⟩
  subst hD
  have h2D : 2 * D < l.length := by omega
  have e2 : datI l (D : Int) = 10 * nearQ (leftL l D).sum (10 * (leftL l D).length) := by unfold datI; rw [if_pos e1]; simp
  have hLl := leftL_length (l := l) (d := D) (by omega)
  have hLm : ∀ y ∈ leftL l D, -7600 ≤ y ∧ y ≤ 7600 := fun y hy => h2 y (srtI_mem.1 (List.mem_of_mem_drop (List.mem_of_mem_take hy)))
  have hLget := fun (k : Nat) (hk : k < (leftL l D).length) => leftL_get hk
  have hsl := srtI_length l
  obtain ⟨n, hn⟩ : ∃ n, l.length = n := ⟨_, rfl⟩
  rw [hn] at hsl
  obtain ⟨m, hm⟩ : ∃ m, n - 2 * D = m := ⟨_, rfl⟩
  rw [hn, hm] at hLl
  have w3 : IntKind.i64.wrap ((n : Int) - D) = n - D := wrap64 (by omega) (by omega)
  simp [go_sem, h, h3, h4, hz, w1, hd1, w2, h5]
  refine (cloneInts_fun l (by omega)).callOF (by simp [go_sem]) ?_
  rintro _ rfl
  refine ⟨fun v => v, 1, _, .here, by decide, rfl, by simp [go_sem], ?_⟩
  simp [go_sem]
  rw [hn]
  refine ICalls.sortA (zs := l) (b := 0) sortInt sort0 Tryd.call37 (by simp [ints]) hn.symm (by omega) ?_
  have hsr : mp (fun z => [IV.int .i64 z]) (l.mergeSort fun x y => decide (x ≤ y)) = ints (srtI l) := rfl
  rw [hsr]
  have hS := hLget
  have hsumB := fun k => sum_take_bd (l := leftL l D) (by omega) hLm k
  have hsucc := fun (k : Nat) (hk : k < (leftL l D).length) => sum_succ24 hk
  obtain ⟨S, hSe⟩ : ∃ S, srtI l = S := ⟨_, rfl⟩
  obtain ⟨F, hF⟩ : ∃ F, leftL l D = F := ⟨_, rfl⟩
  simp only [hSe] at hS hsl
  simp only [hF] at hS hsumB hsucc hLl hLm e2
  rw [hSe]
  have b1 : 0 ≤ (n : Int) - D := by omega
  have b2 : (D : Int) ≤ n - D := by omega
  have b3 : ((n : Int) - D).toNat - D = m := by omega
  have b4 : (n : Int) - D ≤ n := by omega
  have b5 : n - D - D = m := by omega
  simp [go_sem, hsl, w3, b1, b2, b3, b4, b5]
  have hDm : D + m ≤ n := by omega
  refine IWp.loopT (α := Nat) (fun k => (⟨false, 77, 15, [18, 34, 46, 47, 48, 49, 65, 73], glT, [(8, .sl 0 n D m none), (9, .int .i64 (F.take k).sum), (46, .sl 0 n D m none), (47, .int .i64 (m : Int)), (48, .int .i64 (k : Int))], []⟩, [.rows 1 (ints S)]))
    (fun k => k ≤ m) (fun k => m - k) 0 (by simp) (by simp [go_sem, hsl, b5]) ?_
  intro k hk
  have hb := hsumB k
  by_cases hkm : k < m
  · have v1 : IntKind.i64.wrap ((k : Int) + 1) = k + 1 := wrap64 (by omega) (by omega)
    have hkF : k < F.length := by omega
    have hs := hsucc k hkF
    have hy := hLm F[k] (List.getElem_mem hkF)
    have hSk : D + k < S.length := by omega
    have hget := hS k hkF
    obtain ⟨y, hye⟩ : ∃ y, F[k] = y := ⟨_, rfl⟩
    rw [hye] at hs hy hget
    have v2 : IntKind.i64.wrap ((F.take k).sum + y) = (F.take k).sum + y := wrap64 (by omega) (by omega)
    obtain ⟨q, hq⟩ : ∃ q, D + k = q := ⟨_, rfl⟩
    simp only [hq] at hSk hget
    have hI : (ints S)[q]?.getD [] = [.int .i64 y] := by
      rw [List.getElem?_eq_getElem (by simpa using hSk), Option.getD_some, ints_getElem, ← hget]
    have hqn : q < n := by omega
    have hkm' : (k : Int) < m := by omega
    simp [go_sem, hsl, hkm, hkm', hDm, hq, hqn, hI, hget.symm, v1, v2]
    exact ⟨k + 1, ⟨by rw [hs], by simp⟩, by omega, by omega⟩
  · obtain rfl : k = m := by omega
    have hall : F.take k = F := List.take_of_length_le (by omega)
    rw [hall] at hb ⊢
    have hk0 : 0 < k := by omega
    have v1 : IntKind.i64.wrap (10 * (k : Int)) = ((10 * k : Nat) : Int) := by rw [wrap64 (by omega) (by omega)]; simp
    obtain ⟨q1, q2, q3, q4, q5⟩ := near_mk (n := F.sum) (d := 10 * k) (by omega) (by omega) (by omega)
    have cm := makeF_fun F.sum ((10 * k : Nat) : Int) (by omega) (by omega)
    have cn := near_fun (mkF F.sum ((10 * k : Nat) : Int)).1 q4 q5
    have hnb : -400000 ≤ nearQ F.sum (10 * k) ∧ nearQ F.sum (10 * k) ≤ 400000 := by
      unfold nearQ
      have hQ := Nat.div_le_self F.sum.natAbs (10 * k)
      generalize F.sum.natAbs / (10 * k) = Q at *
      generalize F.sum.natAbs % (10 * k) = R at *
      split <;> split <;> omega
    rw [q2, q3] at cn
    rw [q1] at cm
    rw [hLl] at e2
    obtain ⟨V, hV⟩ : ∃ V, nearQ F.sum (10 * k) = V := ⟨_, rfl⟩
    rw [hV] at cn e2 hnb
    have v2 : IntKind.i64.wrap (10 * V) = 10 * V := wrap64 (by omega) (by omega)
    generalize (mkF F.sum ((10 * k : Nat) : Int)).1 = G at *
    simp [go_sem, hsl, hDm, v1]
    refine cm.callF (by simp [go_sem]) ?_
    rintro _ rfl
    simp [go_sem, Frc.v]
    refine cn.callF (by simp [go_sem, Frc.v]) ?_
    rintro _ rfl
    simp [go_sem, v2]
    exact hR _ _ _ rfl (by simp [go_sem, e1, e2])
end Go.Idl
