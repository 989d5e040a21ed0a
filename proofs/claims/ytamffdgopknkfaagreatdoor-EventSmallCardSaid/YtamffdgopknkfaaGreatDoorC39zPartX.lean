import Derived.Test.YtamffdgopknkfaaGreatDoorC39zPartF
set_option linter.all false
set_option maxHeartbeats 8000000
set_option maxRecDepth 40000
namespace Go.Idl
open Go.Proofs
theorem refMet_fun (met : List (Int × Int)) (a b : Int) (hl : met.length ≤ 2 ^ 32) : FN 87 [.fz 2 (prs met), .int .i64 a, .int .i64 b] (fun v => v = .bool (metB met a b)) := by
 refine IFun.of_bodyZ false 8 [11, 47] Tryz.func87 rfl Tryz.call87 rfl fun R hR => ?_
 simp [go_sem]
 refine IWp.loopT (α := Nat) (fun i => (⟨false, 48, 8, [11, 47], glT, [(0, .fz 2 (prs met)), (1, .int .i64 a), (2, .int .i64 b), (7, .int .i64 (i : Int))], []⟩, []))
  (fun i => i ≤ met.length ∧ metB (met.take i) a b = false) (fun i => met.length - i) 0 ⟨by omega, by simp [metB]⟩ (by simp [go_sem]) ?_
 rintro i ⟨hi, hne⟩
 by_cases h : i < met.length
 ·have w1 : IntKind.i64.wrap ((i : Int) + 1) = i + 1 := wrap64 (by omega) (by omega)
  obtain ⟨p, hp⟩ : ∃ p, met[i] = p := ⟨_, rfl⟩
  obtain ⟨x, y⟩ := p
  have yes : ((x = a ∧ y = b) ∨ (x = b ∧ y = a)) → metB met a b = true := fun hx => by
   unfold metB
   rw [List.any_eq_true]
   exact ⟨(x, y), hp ▸ List.getElem_mem h, by simpa using hx⟩
  have no : ¬ ((x = a ∧ y = b) ∨ (x = b ∧ y = a)) → metB (met.take (i + 1)) a b = false := fun hx => by
   rw [metB, List.take_succ_eq_append_getElem h, List.any_append, ← metB, hne, hp]
   simpa using hx
  by_cases h1 : x = a
  ·by_cases h2 : y = b
   ·simp [go_sem, h, hp, h1, h2]
    exact hR _ _ _ rfl (by simp [go_sem, yes (.inl ⟨h1, h2⟩)])
   ·by_cases h3 : x = b
    ·by_cases h4 : y = a
     ·have hab : a = b := by omega
      exact absurd (by omega) h2
     ·have h3' : a = b := by omega
      simp [go_sem, h, hp, h1, h2, h3', h4, w1]
      exact ⟨i + 1, by omega, ⟨by omega, by have := no (by omega); rw [h3'] at this; exact this⟩, by omega⟩
    ·have h3' : ¬ a = b := by omega
     simp [go_sem, h, hp, h1, h2, h3', w1]
     exact ⟨i + 1, by omega, ⟨by omega, no (by omega)⟩, by omega⟩
  ·by_cases h3 : x = b
   ·by_cases h4 : y = a
    ·simp [go_sem, h, hp, h1, h3, h4]
     exact ⟨by omega, hR _ _ _ rfl (by simp [go_sem, yes (.inr ⟨h3, h4⟩)])⟩
    ·simp [go_sem, h, hp, h1, h3, h4, w1]
     refine ⟨by omega, ?_⟩
     rw [if_neg (by omega)]
     exact ⟨i + 1, by omega, ⟨by omega, no (by omega)⟩, by omega⟩
   ·simp [go_sem, h, hp, h1, h3, w1]
    exact ⟨i + 1, by omega, ⟨by omega, no (by omega)⟩, by omega⟩
 ·simp [go_sem, h]
  have e : met.take i = met := List.take_of_length_le (by omega)
  rw [e] at hne
  exact hR _ _ _ rfl (by simp [go_sem, hne])
theorem refRight_fun (teams : List Int) (met : List (Int × Int)) (hl : teams.length ≤ 2 ^ 32) (hm : met.length ≤ 2 ^ 32) : FN 86 [.fz 1 (ints teams), .fz 2 (prs met)] (fun v => v = .bool (rightP teams met)) := by
 refine IFun.of_bodyZ false 8 [11, 25, 28, 39, 43, 88] Tryz.func86 rfl Tryz.call86 rfl fun R hR => ?_
 simp [go_sem]
 refine IWp.loopT (α := Nat) (fun i => (⟨false, 89, 8, [11, 25, 28, 39, 43, 88], glT, [(0, .fz 1 (ints teams)), (1, .fz 2 (prs met)), (5, .int .i64 (i : Int))], []⟩, []))
  (fun i => i ≤ teams.length ∧ (teams.take i).all numB = true ∧ (teams.take i).Nodup) (fun i => teams.length - i) 0 ⟨by omega, by simp, by simp⟩ (by simp [go_sem]) ?_
 rintro i ⟨hi, hnum, hnd⟩
 by_cases h : i < teams.length
 ·have w1 : IntKind.i64.wrap ((i : Int) + 1) = i + 1 := wrap64 (by omega) (by omega)
  obtain ⟨t, ht⟩ : ∃ t, teams[i] = t := ⟨_, rfl⟩
  have hsn : teams.take (i + 1) = teams.take i ++ [t] := by rw [List.take_succ_eq_append_getElem h, ht]
  have hsp : teams = teams.take i ++ t :: teams.drop (i + 1) := by rw [← ht]; simp
  have badn : numB t = false → rightP teams met = false := fun hn => by
   have : teams.all numB = false := by rw [hsp, List.all_append]; simp [hn]
   simp [rightP, this]
  by_cases h1 : t < 1
  ·simp [go_sem, h, ht, h1]
   exact hR _ _ _ rfl (by simp [go_sem, badn (by simp [numB]; omega)])
  by_cases h2 : 64 < t
  ·simp [go_sem, h, ht, h1, h2]
   exact hR _ _ _ rfl (by simp [go_sem, badn (by simp [numB]; omega)])
  simp [go_sem, h, ht, h1, h2]
  refine IWp.loopT (α := Nat) (fun k => (⟨false, 89, 8, [11, 25, 28, 39, 43, 88], glT, [(0, .fz 1 (ints teams)), (1, .fz 2 (prs met)), (5, .int .i64 (i : Int)), (6, .int .i64 (k : Int))], []⟩, []))
   (fun k => k ≤ i ∧ ∀ j (hj : j < teams.length), j < k → teams[j] ≠ t) (fun k => i - k) 0 ⟨by omega, by omega⟩ (by simp [go_sem]) ?_
  rintro k ⟨hk, hne⟩
  by_cases hki : k < i
  ·have hkl : k < teams.length := by omega
   have w2 : IntKind.i64.wrap ((k : Int) + 1) = k + 1 := wrap64 (by omega) (by omega)
   by_cases he : teams[k] = t
   ·have bad : rightP teams met = false := by
     have : ¬ teams.Nodup := fun hnd2 => by
      have := nodup_eq hnd2 hkl h (by rw [he, ht]); omega
     simp [rightP, this]
    simp [go_sem, hki, hkl, h, ht, he]
    exact ⟨by decide +kernel, hR _ _ _ rfl (by simp [go_sem, bad])⟩
   ·simp [go_sem, hki, hkl, h, ht, he, w2]
    refine ⟨by decide +kernel, k + 1, by omega, ⟨by omega, fun j hj hjk => ?_⟩, by omega⟩
    by_cases e : j = k
    ·subst e; exact he
    ·exact hne j hj (by omega)
  ·simp [go_sem, hki, w1]
   refine ⟨i + 1, by omega, ⟨by omega, ?_, ?_⟩, by omega⟩
   ·intro x hx
    rw [hsn] at hx
    rcases List.mem_append.1 hx with hx | hx
    ·exact List.all_eq_true.1 hnum x hx
    ·have : x = t := by simpa using hx
     rw [this]; simp [numB]; omega
   ·rw [hsn, List.nodup_append]
    refine ⟨hnd, by simp, fun a ha b hb e => ?_⟩
    have : b = t := by simpa using hb
    subst this
    obtain ⟨j, hj, e2⟩ := List.mem_iff_getElem.1 ha
    rw [List.length_take] at hj
    rw [List.getElem_take] at e2
    exact hne j (by omega) (by omega) (by rw [e2, e])
 ·have e : teams.take i = teams := List.take_of_length_le (by omega)
  rw [e] at hnum hnd
  simp [go_sem, h]
  refine IWp.loopT (α := Nat) (fun j => (⟨false, 89, 8, [11, 25, 28, 39, 43, 88], glT, [(1, .fz 2 (prs met)), (7, .int .i64 (j : Int))], []⟩, []))
   (fun j => j ≤ met.length ∧ (met.take j).all (fun p => numB p.1 && numB p.2 && !(decide (p.1 = p.2))) = true) (fun j => met.length - j) 0 ⟨by omega, by simp⟩ (by simp [go_sem]) ?_
  rintro j ⟨hj, hok⟩
  by_cases h2 : j < met.length
  ·have w1 : IntKind.i64.wrap ((j : Int) + 1) = j + 1 := wrap64 (by omega) (by omega)
   obtain ⟨p, hp⟩ : ∃ p, met[j] = p := ⟨_, rfl⟩
   obtain ⟨x, y⟩ := p
   have bad : (numB x && numB y && !(decide (x = y))) = false → rightP teams met = false := fun hb => by
    have : (met.all fun p => numB p.1 && numB p.2 && !(decide (p.1 = p.2))) = false := by
     rw [List.all_eq_false]
     exact ⟨(x, y), hp ▸ List.getElem_mem h2, by simp only [hb]; simp⟩
    rw [rightP, this, Bool.and_false]
   by_cases q1 : x < 1
   ·simp [go_sem, h2, hp, q1]
    exact ⟨by decide +kernel, hR _ _ _ rfl (by simp [go_sem, bad (by simp [numB]; omega)])⟩
   by_cases q2 : 64 < x
   ·simp [go_sem, h2, hp, q1, q2]
    exact ⟨by decide +kernel, hR _ _ _ rfl (by simp [go_sem, bad (by simp [numB]; omega)])⟩
   by_cases q3 : y < 1
   ·simp [go_sem, h2, hp, q1, q2, q3]
    exact ⟨by decide +kernel, hR _ _ _ rfl (by simp [go_sem, bad (by simp [numB]; omega)])⟩
   by_cases q4 : 64 < y
   ·simp [go_sem, h2, hp, q1, q2, q3, q4]
    exact ⟨by decide +kernel, hR _ _ _ rfl (by simp [go_sem, bad (by simp [numB]; omega)])⟩
   by_cases q5 : x = y
   ·simp [go_sem, h2, hp, q1, q2, q3, q4, q5]
    exact ⟨by decide +kernel, hR _ _ _ rfl (by simp [go_sem, bad (by simp [q5])])⟩
   ·simp [go_sem, h2, hp, q1, q2, q3, q4, q5, w1]
    refine ⟨by decide +kernel, j + 1, by omega, ⟨by omega, ?_⟩, by omega⟩
    rw [List.take_succ_eq_append_getElem h2, hp]
    intro a b hab
    rcases List.mem_append.1 hab with hab | hab
    ·have := List.all_eq_true.1 hok _ hab; simpa using this
    ·have : (a, b) = (x, y) := by simpa using hab
     cases this
     refine ⟨⟨?_, ?_⟩, q5⟩ <;> simp [numB] <;> omega
  ·have e2 : met.take j = met := List.take_of_length_le (by omega)
   rw [e2] at hok
   have : rightP teams met = true := by rw [rightP, hnum, hok]; simp [hnd]
   simp [go_sem, h2]
   exact hR _ _ _ rfl (by simp [go_sem, this])
theorem wrong_fun (teams : List Int) (met : List (Int × Int)) (odd : Bool) (hl : teams.length ≤ 2 ^ 32) (hm : met.length ≤ 2 ^ 32) : FN 66 [.fz 1 (ints teams), .fz 2 (prs met), .bool odd] (fun v => v = .int .i64 (errN teams met odd)) := by
 refine IFun.of_bodyZ false 7 [10, 13, 21] Tryz.func66 rfl Tryz.call66 rfl fun R hR => ?_
 simp [go_sem]
 refine (refRight_fun teams met hl hm).callF (by simp [go_sem]) ?_
 rintro _ rfl
 cases hr : rightP teams met with
 | false =>
  have e : errN teams met odd = 2 := by unfold errN; rw [if_pos hr]
  simp [go_sem]
  exact hR _ _ _ rfl (by simp [go_sem, e])
 | true =>
  by_cases h16 : 16 < teams.length
  ·have hI : (16 : Int) < teams.length := by omega
   have e : errN teams met odd = 5 := by unfold errN; rw [if_neg (by simp [hr]), if_pos h16]
   simp [go_sem, hI]
   exact hR _ _ _ rfl (by simp [go_sem, e])
  ·have hI : ¬ (16 : Int) < teams.length := by omega
   cases odd with
   | true =>
    have e : errN teams met true = 0 := by unfold errN; rw [if_neg (by simp [hr]), if_neg h16, if_neg (by simp)]
    simp [go_sem, hI]
    exact hR _ _ _ rfl (by simp [go_sem, e])
   | false =>
    by_cases hp : teams.length % 2 = 1
    ·have e : errN teams met false = 360 := by unfold errN; rw [if_neg (by simp [hr]), if_neg h16, if_pos ⟨rfl, hp⟩]
     have hp' : (teams.length : Int).tmod 2 = 1 := by rw [Int.tmod_eq_emod_of_nonneg (by omega)]; omega
     simp [go_sem, hI, hp']
     exact hR _ _ _ rfl (by simp [go_sem, e])
    ·have e : errN teams met false = 0 := by unfold errN; rw [if_neg (by simp [hr]), if_neg h16, if_neg (fun h => hp h.2)]
     have hp' : (teams.length : Int).tmod 2 = 0 := by rw [Int.tmod_eq_emod_of_nonneg (by omega)]; omega
     simp [go_sem, hI, hp']
     exact hR _ _ _ rfl (by simp [go_sem, e])
end Go.Idl
namespace Go.Idl
open Go.Proofs
def lls (l : List (List (Int × Int))) : List (List IV) := mp (fun d => [.fz 2 (prs d)]) l
@[go_sem] theorem lls_nil : lls [] = [] := rfl
theorem lls_cell {l : List (List (Int × Int))} : ∀ row ∈ lls l, ∀ c ∈ row, ∃ d, c = .fz 2 (prs d) := by
 intro row hr c hc
 simp only [lls, mp, List.mem_map] at hr
 obtain ⟨d, _, rfl⟩ := hr
 exact ⟨d, by simpa using hc⟩
@[go_sem] theorem ClR_lls {l : List (List (Int × Int))} : ClR (lls l) = True := eq_true fun row hr c hc => by obtain ⟨d, rfl⟩ := lls_cell row hr c hc; simp [go_sem]
@[go_sem] theorem BlR_lls {n : Nat} {l : List (List (Int × Int))} : BlR n (lls l) = True := eq_true fun row hr c hc => by obtain ⟨d, rfl⟩ := lls_cell row hr c hc; simp [go_sem]
@[go_sem] theorem okR_lls {d : Nat} {h : Heap} {l : List (List (Int × Int))} : okR true d h (lls l) = True := eq_true (by
 simp only [okR]
 intro row hr c hc; obtain ⟨x, rfl⟩ := lls_cell row hr c hc
 rw [frzOK_fz]; exact ⟨rfl, by simp [go_sem]⟩)
@[go_sem] theorem frzR_lls {d : Nat} {h : Heap} {l : List (List (Int × Int))} : frzR d h (lls l) = lls l := by
 simp only [frzR]
 conv => rhs; rw [← List.map_id (lls l)]
 apply List.map_congr_left
 intro row hr
 conv => rhs; rw [show id row = row from rfl, ← List.map_id row]
 apply List.map_congr_left
 intro c hc
 obtain ⟨x, rfl⟩ := lls_cell row hr c hc
 rw [frzV_fz]; rfl
def restT (teams : List Int) (i k : Nat) : List Int := ((List.range k).filter fun j => decide (1 ≤ j) && !(decide (j = i))).map fun j => teams.getD j 0
theorem restT_succ (teams : List Int) (i k : Nat) : restT teams i (k + 1) = restT teams i k ++ (if 1 ≤ k ∧ k ≠ i then [teams.getD k 0] else []) := by
 unfold restT
 rw [List.range_succ, List.filter_append, List.map_append]
 congr 1
 by_cases h : 1 ≤ k ∧ k ≠ i
 ·rw [if_pos h]; simp [h.1, h.2]
 ·rw [if_neg h]
  have : (decide (1 ≤ k) && !(decide (k = i))) = false := by
   rw [← Bool.not_eq_true]; simpa using h
  simp [this]
theorem restT_one (teams : List Int) (i : Nat) : restT teams i 1 = [] := rfl
theorem restT_le (teams : List Int) (i : Nat) : ∀ k, k + 1 ≤ i → k < teams.length → restT teams i (k + 1) = (teams.drop 1).take k
 | 0, _, _ => by rw [restT_one]; simp
 | k + 1, h, hk => by
  rw [restT_succ, restT_le teams i k (by omega) (by omega), if_pos (by omega), List.take_succ_eq_append_getElem (by simp; omega)]
  simp [hk, Nat.add_comm]
theorem restT_gt (teams : List Int) (i : Nat) (hi : 1 ≤ i) (hil : i < teams.length) : ∀ k, i + 1 + k ≤ teams.length → restT teams i (i + 1 + k) = (teams.drop 1).take (i - 1) ++ (teams.drop (i + 1)).take k
 | 0, _ => by
  rw [Nat.add_zero, restT_succ, if_neg (by omega), List.append_nil]
  have := restT_le teams i (i - 1) (by omega) (by omega)
  rw [show i - 1 + 1 = i by omega] at this
  rw [this]; simp
 | k + 1, h => by
  rw [← Nat.add_assoc, restT_succ, restT_gt teams i hi hil k (by omega), if_pos (by omega), List.append_assoc]
  congr 1
  rw [List.take_succ_eq_append_getElem (by simp; omega)]
  simp [show i + 1 + k < teams.length by omega]
theorem restT_all (a : Int) (ts : List Int) (i : Nat) (hi : 1 ≤ i) (hil : i < (a :: ts).length) : restT (a :: ts) i (a :: ts).length = ts.eraseIdx (i - 1) := by
 have := restT_gt (a :: ts) i hi hil ((a :: ts).length - (i + 1)) (by omega)
 rw [show i + 1 + ((a :: ts).length - (i + 1)) = (a :: ts).length by omega] at this
 have h1 : ((a :: ts).drop (i + 1)).take ((a :: ts).length - (i + 1)) = (a :: ts).drop (i + 1) := List.take_of_length_le (by rw [List.length_drop]; exact Nat.le_refl _)
 rw [this, h1, List.eraseIdx_eq_take_drop_succ, show i - 1 + 1 = i by omega]
 rfl
def oAt (met : List (Int × Int)) (a : Int) (ts : List Int) (j : Nat) : List (List (Int × Int)) := ((picks ts).take j).flatMap fun p => if okT met a p.1 = true then (drT met p.2).map ((a, p.1) :: ·) else []
theorem oAt_zero (met : List (Int × Int)) (a : Int) (ts : List Int) : oAt met a ts 0 = [] := by simp [oAt]
theorem oAt_succ (met : List (Int × Int)) (a : Int) (ts : List Int) (j : Nat) (h : j < ts.length) : oAt met a ts (j + 1) = oAt met a ts j ++ (if okT met a ts[j] = true then (drT met (ts.eraseIdx j)).map ((a, ts[j]) :: ·) else []) := by
 have hl : j < (picks ts).length := by rw [picks_length]; exact h
 have hp : (picks ts)[j] = (ts[j], ts.eraseIdx j) := by
  have := picks_at ts j h
  rw [List.getElem?_eq_getElem hl] at this
  exact Option.some.inj this
 unfold oAt
 rw [List.take_succ_eq_append_getElem hl, List.flatMap_append, hp]
 simp
theorem oAt_end (met : List (Int × Int)) (a : Int) (ts : List Int) : oAt met a ts ts.length = drT met (a :: ts) := by
 unfold oAt
 rw [List.take_of_length_le (by rw [picks_length]; exact Nat.le_refl _), drT, drs_cons]; rfl
end Go.Idl
namespace Go.Idl
open Go.Proofs
theorem refFirst_fun (met : List (Int × Int)) (hm : met.length ≤ 2 ^ 32) : ∀ (n : Nat) (teams : List Int), teams.length ≤ n → teams.length ≤ 16 → FN 67 [.fz 1 (ints teams), .fz 2 (prs met)] (fun v => v = .tup [.fz 2 (prs (fstD met teams)), .bool (fstB met teams)]) := by
 intro n
 induction n with
 | zero =>
  intro teams h0 _
  have : teams = [] := List.eq_nil_of_length_eq_zero (by omega)
  subst this
  refine IFun.of_bodyZ false 11 [13, 18, 29, 33, 38, 52] Tryz.func67 rfl Tryz.call67 rfl fun R hR => ?_
  simp [go_sem]
  exact hR _ _ _ rfl (by simp [go_sem, fstD, fstB, drT, drs_nil, okR, frzR])
 | succ n ih =>
  intro teams h0 h17
  cases teams with
  | nil => exact ih [] (by simp) (by simp)
  | cons a ts =>
  refine IFun.of_bodyZ false 11 [13, 18, 29, 33, 38, 52] Tryz.func67 rfl Tryz.call67 rfl fun R hR => ?_
  obtain ⟨T, hT⟩ : ∃ T, a :: ts = T := ⟨_, rfl⟩
  have hT0 : 0 < T.length := by rw [← hT]; simp
  have hTa : T[0]'hT0 = a := by subst hT; rfl
  have hTl : T.length = ts.length + 1 := by rw [← hT]; rfl
  rw [hT] at h0 h17 ⊢
  have hne : ¬ T.length = 0 := by omega
  have hne2 : ¬ T = [] := fun e => by rw [e] at hT0; simp at hT0
  simp [go_sem, hne, hne2]
  refine IWp.loopT (α := Nat) (fun i => (⟨false, 64, 11, [13, 18, 29, 33, 38, 52], glT, [(0, .fz 1 (ints T)), (1, .fz 2 (prs met)), (6, .int .i64 (i : Int))], []⟩, []))
   (fun i => 1 ≤ i ∧ i ≤ T.length ∧ oAt met a ts (i - 1) = []) (fun i => T.length - i) 1 (by refine ⟨by omega, by omega, oAt_zero ..⟩) (by simp [go_sem]) ?_
  rintro i ⟨hi1, hi, hO⟩
  by_cases h : i < T.length
  case neg =>
   have hi2 : i - 1 = ts.length := by omega
   rw [hi2, oAt_end] at hO
   simp [go_sem, h]
   exact hR _ _ _ rfl (by simp [go_sem, fstD, fstB, hO])
  have w1 : IntKind.i64.wrap ((i : Int) + 1) = i + 1 := wrap64 (by omega) (by omega)
  have hts : i - 1 < ts.length := by omega
  have hTi : T[i] = ts[i - 1] := by
   subst hT
   obtain ⟨j, rfl⟩ : ∃ j, i = j + 1 := ⟨i - 1, by omega⟩
   simp
  have hosn := oAt_succ met a ts (i - 1) hts
  rw [hO, show i - 1 + 1 = i by omega, List.nil_append] at hosn
  have cM := refMet_fun met a T[i] hm
  simp [go_sem, h]
  refine Drawn.intro (fun k => if k = 8 then .bool (metB met a T[i]) else .tup []) ?_
  simp [go_sem, h, hT0, hTa, cM]
  cases hmb : metB met a T[i] with
  | true =>
   rw [if_neg (by rw [← hTi]; simp [okT, hmb])] at hosn
   simp [go_sem, w1]
   exact ⟨by decide +kernel, i + 1, by omega, ⟨by omega, by omega, by rw [Nat.add_sub_cancel]; exact hosn⟩, by omega⟩
  | false =>
   rw [if_pos (by rw [← hTi]; simp [okT, hmb]), ← hTi] at hosn
   simp [go_sem]
   refine ⟨by decide +kernel, ?_⟩
   refine IWp.ownNilS 1 7 (by decide) (by simp [go_sem]) ?_
   simp only [go_sem]
   refine IWp.loopT (α := Nat) (fun k => (⟨false, 64, 11, [13, 18, 29, 33, 38, 52], glT, [(0, .fz 1 (ints T)), (1, .fz 2 (prs met)), (6, .int .i64 (i : Int)), (7, .sl 0 (restT T i k).length 0 (restT T i k).length none), (8, .int .i64 (k : Int))], []⟩, [.rows 1 (ints (restT T i k))]))
    (fun k => 1 ≤ k ∧ k ≤ T.length) (fun k => T.length - k) 1 (by omega) (by simp [go_sem, restT_one]) ?_
   rintro k ⟨hk1, hk⟩
   have hrs := restT_succ T i k
   have hrl : (restT T i k).length ≤ k := by unfold restT; rw [List.length_map]; exact Nat.le_trans (List.length_filter_le _ _) (by simp)
   by_cases hkT : k < T.length
   ·have w2 : IntKind.i64.wrap ((k : Int) + 1) = k + 1 := wrap64 (by omega) (by omega)
    have hTk : T.getD k 0 = T[k] := by simp [hkT]
    by_cases hki : k = i
    ·rw [if_neg (by omega), List.append_nil] at hrs
     subst hki
     simp [go_sem, h, w2]
     exact ⟨k + 1, ⟨⟨by rw [hrs], by omega⟩, by rw [hrs]⟩, by omega, by omega⟩
    ·rw [if_pos ⟨hk1, hki⟩, hTk] at hrs
     have hkiI : ¬ (k : Int) = i := by omega
     simp [go_sem, hkT, hki, w2]
     rw [if_neg hkiI]
     exact ⟨by omega, k + 1, ⟨⟨by rw [hrs]; simp, by omega⟩, by rw [hrs, ints_snoc]⟩, by omega, by omega⟩
   ·have hkl : k = T.length := by omega
    obtain ⟨Rs, hRs⟩ : ∃ Rs, restT T i k = Rs := ⟨_, rfl⟩
    have hre : Rs = ts.eraseIdx (i - 1) := by
     rw [← hRs, hkl]; subst hT; exact restT_all a ts i hi1 h
    have hRl : Rs.length + 2 = T.length := by rw [hre, List.length_eraseIdx, if_pos hts]; omega
    rw [← hre] at hosn
    simp [go_sem, hkT, hRs]
    refine (ih Rs (by omega) (by omega)).callF (by simp [go_sem]) ?_
    rintro _ rfl
    cases hb : fstB met Rs with
    | false =>
     have hnil : drT met Rs = [] := by
      unfold fstB at hb
      cases hd : drT met Rs with
      | nil => rfl
      | cons x l => rw [hd] at hb; simp at hb
     rw [hnil] at hosn
     simp [go_sem, w1]
     exact ⟨i + 1, by omega, ⟨by omega, by omega, by rw [Nat.add_sub_cancel]; exact hosn⟩, by omega⟩
    | true =>
     obtain ⟨d, L, hd⟩ : ∃ d L, drT met Rs = d :: L := by
      unfold fstB at hb
      cases hd : drT met Rs with
      | nil => rw [hd] at hb; simp at hb
      | cons x l => exact ⟨x, l, rfl⟩
     have hfd : fstD met Rs = d := by unfold fstD; rw [hd]; rfl
     have hdl : d.length ≤ 16 := by
      have := drs_len (ok := okT met) _ Rs (Nat.le_refl _) d (by have : d ∈ drT met Rs := by rw [hd]; simp
                                                                 exact this)
      omega
     rw [hd, List.map_cons] at hosn
     have hpre : ∃ M, drT met (a :: ts) = ((a, T[i]) :: d) :: M := by
      rw [← oAt_end]
      have : oAt met a ts ts.length = oAt met a ts i ++ ((picks ts).drop i).flatMap fun p => if okT met a p.1 = true then (drT met p.2).map ((a, p.1) :: ·) else [] := by
       unfold oAt
       rw [List.take_of_length_le (l := picks ts) (i := ts.length) (by rw [picks_length]; exact Nat.le_refl _)]
       conv => lhs; rw [← List.take_append_drop i (picks ts), List.flatMap_append]
      rw [this, hosn]
      exact ⟨_, rfl⟩
     obtain ⟨M, hM⟩ := hpre
     have hres : fstD met (a :: ts) = (a, T[i]) :: d ∧ fstB met (a :: ts) = true := by unfold fstD fstB; rw [hM]; exact ⟨rfl, rfl⟩
     rw [hfd]
     simp [go_sem, hT0, hTa, h]
     refine ⟨⟨by omega, fun r hr => prs_one r hr⟩, by decide +kernel, ?_⟩
     have hpc : ([IV.int .i64 a, IV.int .i64 T[i]] :: prs d) = prs ((a, T[i]) :: d) := rfl
     rw [hpc]
     exact hR _ _ _ rfl (by simp [go_sem, hres, Nat.add_comm])
end Go.Idl
namespace Go.Idl
open Go.Proofs
theorem refFirst_c (teams : List Int) (met : List (Int × Int)) (hm : met.length ≤ 2 ^ 32) (h : teams.length ≤ 16) : FN 67 [.fz 1 (ints teams), .fz 2 (prs met)] (fun v => v = .tup [.fz 2 (prs (fstD met teams)), .bool (fstB met teams)]) := refFirst_fun met hm teams.length teams (Nat.le_refl _) h
theorem refDraw_fun (teams : List Int) (met : List (Int × Int)) (byes : List Int) (hl : teams.length ≤ 2 ^ 32) (hm : met.length ≤ 2 ^ 32) (hb : byes.length ≤ 2 ^ 32) : FN 45 [.fz 1 (ints teams), .fz 2 (prs met), .fz 1 (ints byes)] (fun v => v = drawV (drawR teams met byes)) := by
 refine IFun.of_bodyZ false 19 [23, 28, 36, 42, 48, 66, 71, 79, 86] Tryz.func45 rfl Tryz.call45 rfl fun R hR => ?_
 have fin : ∀ (r : IV) (σ : Heap) (q : List (Int × Int) × Int × Int), drawR teams met byes = q → frzOK false 4 σ r ∧ nz 4 (frzV 4 σ r) (drawV q) → R r σ := fun r σ q e h => hR r σ _ rfl (by rw [e]; exact h)
 simp [go_sem]
 refine (wrong_fun teams met true hl hm).callF (by simp [go_sem]) ?_
 rintro _ rfl
 by_cases he : errN teams met true = 0
 case neg =>
  simp [go_sem, he]
  exact fin _ _ _ (by unfold drawR; rw [if_pos he]) (by simp [go_sem, drawV])
 obtain ⟨_, hn, _⟩ := errN_zero he
 simp [go_sem, he]
 by_cases hp : teams.length % 2 = 0
 ·have hp' : (teams.length : Int).tmod 2 = 0 := by rw [Int.tmod_eq_emod_of_nonneg (by omega)]; omega
  simp [go_sem, hp']
  refine (refFirst_c teams met hm hn).callOF (by simp [go_sem]) ?_
  rintro _ rfl
  refine ⟨_, 2, prs (fstD met teams), fst_C (fstB met teams), by decide, rfl, by simp [go_sem], ?_⟩
  cases hf : fstB met teams with
  | true =>
   simp [go_sem]
   exact fin _ _ (fstD met teams, 0, 0) (by unfold drawR; rw [if_neg (by simp [he]), if_pos hp, if_pos hf]) (by simp [go_sem, drawV])
  | false =>
   simp [go_sem]
   exact fin _ _ ([], 0, 6) (by unfold drawR; rw [if_neg (by simp [he]), if_pos hp, if_neg (by simp [hf])]) (by simp [go_sem, drawV])
 have hp' : ¬ (teams.length : Int).tmod 2 = 0 := by rw [Int.tmod_eq_emod_of_nonneg (by omega)]; omega
 have hres : drawR teams met byes = byeGo teams met byes teams.length := by unfold drawR; rw [if_neg (by simp [he]), if_neg hp]
 have w0 : IntKind.i64.wrap ((teams.length : Int) - 1) = (teams.length : Int) - 1 := wrap64 (by omega) (by omega)
 simp [go_sem, hp', w0]
 refine IWp.loopT (α := Nat) (fun i => (⟨false, 92, 19, [23, 28, 36, 42, 48, 66, 71, 79, 86], glT, [(0, .fz 1 (ints teams)), (1, .fz 2 (prs met)), (2, .fz 1 (ints byes)), (12, .int .i64 ((i : Int) - 1))], []⟩, []))
  (fun i => i ≤ teams.length ∧ byeGo teams met byes teams.length = byeGo teams met byes i) (fun i => i) teams.length ⟨Nat.le_refl _, rfl⟩ (by simp [go_sem]) ?_
 rintro i ⟨hi, hgo⟩
 cases i with
 | zero =>
  simp [go_sem]
  exact fin _ _ ([], 0, 6) (by rw [hres, hgo]; rfl) (by simp [go_sem, drawV])
 | succ i =>
  have hil : i < teams.length := by omega
  have hti : teams.getD i 0 = teams[i] := by simp [hil]
  have ei : ((i + 1 : Nat) : Int) - 1 = i := by omega
  rw [ei]
  rw [byeGo, hti] at hgo
  have hge : (i : Int) ≥ 0 := by omega
  have w1 : IntKind.i64.wrap ((i : Int) - 1) = (i : Int) - 1 := wrap64 (by omega) (by omega)
  simp [go_sem]
  refine IWp.loopT (α := Nat) (fun k => (⟨false, 92, 19, [23, 28, 36, 42, 48, 66, 71, 79, 86], glT, [(0, .fz 1 (ints teams)), (1, .fz 2 (prs met)), (2, .fz 1 (ints byes)), (12, .int .i64 (i : Int)), (13, .bool (decide (teams[i] ∈ byes.take k))), (14, .int .i64 (k : Int))], []⟩, []))
   (fun k => k ≤ byes.length) (fun k => byes.length - k) 0 (by omega) (by simp [go_sem]) ?_
  intro k hk
  by_cases hkb : k < byes.length
  ·have w2 : IntKind.i64.wrap ((k : Int) + 1) = k + 1 := wrap64 (by omega) (by omega)
   have hsn : byes.take (k + 1) = byes.take k ++ [byes[k]] := List.take_succ_eq_append_getElem hkb
   have hdec : decide (teams[i] ∈ byes.take (k + 1)) = (decide (teams[i] ∈ byes.take k) || (byes[k] == teams[i])) := by
    have hmem : teams[i] ∈ byes.take (k + 1) ↔ (teams[i] ∈ byes.take k ∨ byes[k] = teams[i]) := by
     rw [hsn, List.mem_append, List.mem_singleton]
     exact ⟨fun h => h.imp_right Eq.symm, fun h => h.imp_right Eq.symm⟩
    rw [decide_eq_decide.2 hmem, Bool.decide_or]; rfl
   cases hh : decide (teams[i] ∈ byes.take k) with
   | true =>
    rw [hh, Bool.true_or] at hdec
    simp [go_sem, hkb, hil, w2]
    exact ⟨by decide +kernel, k + 1, ⟨of_decide_eq_true hdec, by omega⟩, by omega, by omega⟩
   | false =>
    rw [hh, Bool.false_or] at hdec
    simp [go_sem, hkb, hil, w2]
    exact ⟨by decide +kernel, k + 1, ⟨hdec.symm, by omega⟩, by omega, by omega⟩
  ·have hkl : k = byes.length := by omega
   subst hkl
   rw [List.take_length]
   simp [go_sem]
   refine IWp.ownNilS 1 15 (by decide) (by simp [go_sem]) ?_
   simp only [go_sem]
   refine IWp.loopT (α := Nat) (fun k => (⟨false, 92, 19, [23, 28, 36, 42, 48, 66, 71, 79, 86], glT, [(0, .fz 1 (ints teams)), (1, .fz 2 (prs met)), (2, .fz 1 (ints byes)), (12, .int .i64 (i : Int)), (13, .bool (decide (teams[i] ∈ byes))), (15, .sl 0 (restZ teams i k).length 0 (restZ teams i k).length none), (16, .int .i64 (k : Int))], []⟩, [.rows 1 (ints (restZ teams i k))]))
    (fun k => k ≤ teams.length) (fun k => teams.length - k) 0 (by omega) (by simp [go_sem, restZ]) ?_
   intro k hk
   have hrs := restZ_succ teams i k
   have hrl : (restZ teams i k).length ≤ k := by unfold restZ; rw [List.length_map]; exact Nat.le_trans (List.length_filter_le _ _) (by simp)
   by_cases hkT : k < teams.length
   ·have w2 : IntKind.i64.wrap ((k : Int) + 1) = k + 1 := wrap64 (by omega) (by omega)
    have hTk : teams.getD k 0 = teams[k] := by simp [hkT]
    by_cases hki : k = i
    ·rw [if_neg (by omega), List.append_nil] at hrs
     subst hki
     simp [go_sem, hil, w2]
     exact ⟨k + 1, ⟨⟨by rw [hrs], by omega⟩, by rw [hrs]⟩, by omega, by omega⟩
    ·rw [if_pos hki, hTk] at hrs
     have hkiI : ¬ (k : Int) = i := by omega
     simp [go_sem, hkT, hki, w2]
     rw [if_neg hkiI]
     exact ⟨by omega, k + 1, ⟨⟨by rw [hrs]; simp, by omega⟩, by rw [hrs, ints_snoc]⟩, by omega, by omega⟩
   ·have hkl : k = teams.length := by omega
    obtain ⟨Rs, hRs⟩ : ∃ Rs, restZ teams i k = Rs := ⟨_, rfl⟩
    have hre : Rs = teams.eraseIdx i := by rw [← hRs, hkl]; exact restZ_all teams i hil
    have hRl : Rs.length + 1 = teams.length := by rw [hre, List.length_eraseIdx, if_pos hil]; omega
    rw [← hre] at hgo
    by_cases hmem : teams[i] ∈ byes
    ·rw [if_pos hmem] at hgo
     simp [go_sem, hkT, hRs, hmem, w1]
     exact ⟨i, rfl, ⟨by omega, hgo⟩, by omega⟩
    ·rw [if_neg hmem] at hgo
     simp [go_sem, hkT, hRs, hmem]
     refine (refFirst_c Rs met hm (by omega)).callOF (by simp [go_sem]) ?_
     rintro _ rfl
     refine ⟨_, 2, prs (fstD met Rs), fst_C (fstB met Rs), by decide, rfl, by simp [go_sem], ?_⟩
     cases hf : fstB met Rs with
     | true =>
      rw [if_pos hf] at hgo
      simp [go_sem, hil]
      exact ⟨by decide +kernel, fin _ _ (fstD met Rs, teams[i], 0) (by rw [hres, hgo]) (by simp [go_sem, drawV])⟩
     | false =>
      rw [if_neg (by simp [hf])] at hgo
      simp [go_sem, w1]
      exact ⟨i, rfl, ⟨by omega, hgo⟩, by omega⟩
end Go.Idl
