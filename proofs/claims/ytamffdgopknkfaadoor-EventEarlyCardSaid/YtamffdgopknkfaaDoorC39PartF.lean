/-
  Pairing: even; counter, drawn and the functions that they make.
  Pairing: Count.
  Pairing: the reference: Met, Right, wrong.
-/
import Derived.Test.YtamffdgopknkfaaDoorC39PartE
namespace Go.Idl
set_option linter.all false
open Go.Proofs
set_option maxHeartbeats 8000000
set_option maxRecDepth 40000

def errN (teams : List Int) (met : List (Int × Int)) (odd : Bool) : Int :=
  if rightP teams met = false then 2 else if 16 < teams.length then 5 else if odd = false ∧ teams.length % 2 = 1 then 360 else 0
def TabV (odd : Bool) (teams : List Int) (met : List (Int × Int)) (v : IV) : Prop :=
  (errN teams met odd ≠ 0 ∧ v = .tup [.nilp, .int .i64 (errN teams met odd)]) ∨
  (errN teams met odd = 0 ∧ ∃ g, OpenOK teams met g ∧ v = .tup [.fptr 17 [tbR teams g] 0 0, .int .i64 0])
theorem errN_zero {teams : List Int} {met : List (Int × Int)} {odd : Bool} (h : errN teams met odd = 0) : rightP teams met = true ∧ teams.length ≤ 16 ∧ (odd = false → teams.length % 2 = 0) := by
  unfold errN at h
  split at h
  · omega
  · rename_i h1
    split at h
    · omega
    · rename_i h2
      split at h
      · omega
      · rename_i h3
        refine ⟨by simpa using h1, by omega, fun ho => ?_⟩
        have : ¬ teams.length % 2 = 1 := fun e => h3 ⟨ho, e⟩
        omega
theorem set_c (teams : List Int) (met : List (Int × Int)) (hl : teams.length ≤ 2 ^ 32) (hm : met.length ≤ 2 ^ 32) : ON 98 [.fz 1 (ints teams), .fz 2 (prs met)] (TabV true teams met) :=
  (set_fun teams met hl hm).mono fun v h => by
    unfold TabV errN
    rcases h with ⟨h1, rfl⟩ | ⟨h1, h2, rfl⟩ | ⟨h1, h2, g, h3, rfl⟩
    · rw [if_pos h1]; exact .inl ⟨by decide, rfl⟩
    · rw [if_neg (by simp [h1]), if_pos h2]; exact .inl ⟨by decide, rfl⟩
    · rw [if_neg (by simp [h1]), if_neg (by omega), if_neg (by simp)]; exact .inr ⟨rfl, g, h3, rfl⟩
@[go_sem] theorem fgt_self {τ : Heap} : fgt τ τ = True := eq_true (fgt_refl τ)
/-! ### the function that counts -/
/-- Whether two places can meet. -/
def okG (g : Nat → Nat) (a b : Nat) : Bool := Nat.testBit (g a) b
def cntM (g : Nat → Nat) (m : Nat) : Nat := cntL (okG g) (bitsL m)
theorem ku32 (a b : Nat) : keq (.int .u32 (a : Int)) (.int .u32 (b : Int)) = decide (a = b) := by
  show (match ceqs [IV.int .u32 (a : Int)] [IV.int .u32 (b : Int)] with | some b => b | none => false) = _
  simp [ceqs, ceq]
  exact decide_eq_decide.2 (by omega)
theorem cntM_zero (g : Nat → Nat) : cntM g 0 = 1 := by rw [cntM, bitsL_zero, cntL_nil]
theorem cntM_rec {g : Nat → Nat} {m : Nat} (h0 : m ≠ 0) (h : m < 2 ^ 32) : cntM g m = ((bitsL ((m &&& (m - 1)) &&& g (tz m))).map fun b => cntM g (anb (m &&& (m - 1)) (2 ^ b))).sum := by
  have hr : m &&& (m - 1) < 2 ^ 32 := and_lt h
  unfold cntM
  generalize hrr : m &&& (m - 1) = r at hr ⊢
  rw [bitsL_clear h0 h, hrr, cntL_nodup _ (bitsL_nodup _), bitsL_and]
  show (List.map _ (List.filter (okG g (tz m)) (bitsL r))).sum = (List.map _ (List.filter (okG g (tz m)) (bitsL r))).sum
  congr 1
  apply List.map_congr_left
  intro b _
  rw [bitsL_anb b hr]
theorem bits_len {m n : Nat} (h : m < 2 ^ n) (hn : n ≤ 32) : (bitsL m).length ≤ n := by
  have : bitsL m = (List.range n).filter fun i => Nat.testBit m i := by
    unfold bitsL
    rw [show 32 = n + (32 - n) by omega, List.range_add, List.filter_append]
    have hnil : List.filter (fun i => Nat.testBit m i) (List.map (fun x => n + x) (List.range (32 - n))) = [] := by
     rw [List.filter_eq_nil_iff]
     intro x hx
     obtain ⟨k, _, rfl⟩ := List.mem_map.1 hx
     rw [Nat.testBit_lt_two_pow (Nat.lt_of_lt_of_le h (Nat.pow_le_pow_right (by decide) (by omega)))]
     simp
    rw [hnil, List.append_nil]
  rw [this]
  exact Nat.le_trans (List.length_filter_le _ _) (by simp)
theorem cntM_le {g : Nat → Nat} {m : Nat} (h : m < 2 ^ 16) : cntM g m ≤ 4294967296 := by
  have := bits_len h (by decide)
  exact cntL_le 8 _ (by omega) (by omega)
end Go.Idl
namespace Go.Idl
set_option linter.all false
open Go.Proofs
set_option maxHeartbeats 8000000
set_option maxRecDepth 40000

/-- Whether two teams can meet; the draws of some teams. -/
def okT (met : List (Int × Int)) (a b : Int) : Bool := !(metB met a b)
def drT (met : List (Int × Int)) (teams : List Int) : List (List (Int × Int)) := drs (okT met) teams
/-- Places as teams. -/
def asT (teams : List Int) (d : List (Nat × Nat)) : List (Int × Int) := d.map fun p => (teams.getD p.1 0, teams.getD p.2 0)
theorem bitsL_full {n : Nat} (h : n ≤ 32) : bitsL (2 ^ n - 1) = List.range n := by
  unfold bitsL
  rw [show 32 = n + (32 - n) by omega, List.range_add, List.filter_append]
  have h1 : List.filter (fun i => Nat.testBit (2 ^ n - 1) i) (List.range n) = List.range n := by
    rw [List.filter_eq_self]
    intro x hx
    rw [Nat.testBit_two_pow_sub_one]; simpa using hx
  have h2 : List.filter (fun i => Nat.testBit (2 ^ n - 1) i) (List.map (fun x => n + x) (List.range (32 - n))) = [] := by
    rw [List.filter_eq_nil_iff]
    intro x hx
    obtain ⟨k, _, rfl⟩ := List.mem_map.1 hx
    rw [Nat.testBit_two_pow_sub_one]; simp
  rw [h1, h2, List.append_nil]
theorem teams_range (teams : List Int) : (List.range teams.length).map (fun i => teams.getD i 0) = teams := by
  apply List.ext_getElem
  · simp
  · intro i h1 h2; simp [h2]
theorem getD_inj {teams : List Int} (hnd : teams.Nodup) {i k : Nat} (hi : i < teams.length) (hk : k < teams.length) (e : teams.getD i 0 = teams.getD k 0) : i = k := by
  simp only [List.getD_eq_getElem?_getD, List.getElem?_eq_getElem hi, List.getElem?_eq_getElem hk, Option.getD_some] at e
  exact nodup_eq hnd hi hk e
/-- The draws of some places are the draws of their teams. -/
theorem drs_teams {teams : List Int} {met : List (Int × Int)} {g : Nat → Nat} (hn : teams.length ≤ 16) (ho : OpenOK teams met g) {l : List Nat} (hnd : l.Nodup) (hl : ∀ i ∈ l, i < teams.length) :
    drT met (l.map fun i => teams.getD i 0) = (drs (okG g) l).map (asT teams) := by
  have h1 : drs (okG g) l = drs (fun a b => okT met (teams.getD a 0) (teams.getD b 0)) l := by
    refine drs_congr l.length l (Nat.le_refl _) hnd fun a ha b hb hab => ?_
    have ha' := hl a ha
    have hb' := hl b hb
    have := (ho a (by omega)).2 b ha'
    rw [okG, this]
    have e : ¬ b = a := fun e => hab e.symm
    simp [okT, hb', e]
  rw [drT, h1]
  exact drs_map (fun i => teams.getD i 0) (fun a b => rfl) l.length l (Nat.le_refl _)
theorem cnt_teams {teams : List Int} {met : List (Int × Int)} {g : Nat → Nat} (hn : teams.length ≤ 16) (ho : OpenOK teams met g) : cntM g (2 ^ teams.length - 1) = (drT met teams).length := by
  have h := drs_teams hn ho (l := List.range teams.length) List.nodup_range (fun i hi => List.mem_range.1 hi)
  rw [teams_range] at h
  rw [h, List.length_map, cntM, bitsL_full (by omega)]; rfl

theorem all_c (teams : List Int) (g : Nat → Nat) (hn : teams.length ≤ 16) : FN 101 [.fptr 17 [tbR teams g] 0 0] (fun v => v = .int .u32 ((2 ^ teams.length - 1 : Nat) : Int)) := all_fun teams (opC g) hn
end Go.Idl
namespace Go.Idl
set_option linter.all false
open Go.Proofs
set_option maxHeartbeats 8000000
set_option maxRecDepth 40000

theorem refMet_fun (met : List (Int × Int)) (a b : Int) (hl : met.length ≤ 2 ^ 32) : FN 127 [.fz 2 (prs met), .int .i64 a, .int .i64 b] (fun v => v = .bool (metB met a b)) := by
  refine IFun.of_bodyZ false 8 [11, 47] Tryd.func127 rfl Tryd.call127 rfl fun R hR => ?_
  simp [go_sem]
  refine IWp.loopT (α := Nat) (fun i => (⟨false, 48, 8, [11, 47], glT, [(0, .fz 2 (prs met)), (1, .int .i64 a), (2, .int .i64 b), (7, .int .i64 (i : Int))], []⟩, []))
    (fun i => i ≤ met.length ∧ metB (met.take i) a b = false) (fun i => met.length - i) 0 ⟨by omega, by simp [metB]⟩ (by simp [go_sem]) ?_
  rintro i ⟨hi, hne⟩
  by_cases h : i < met.length
  · have w1 : IntKind.i64.wrap ((i : Int) + 1) = i + 1 := wrap64 (by omega) (by omega)
    obtain ⟨p, hp⟩ : ∃ p, met[i] = p := ⟨_, rfl⟩
    obtain ⟨x, y⟩ := p
    have yes : ((x = a ∧ y = b) ∨ (x = b ∧ y = a)) → metB met a b = true := fun hx => by
      unfold metB
      rw [List.any_eq_true]
      exact ⟨(x, y), hp ▸ List.getElem_mem h, by simpa using hx⟩
    have no : ¬ ((x = a ∧ y = b) ∨ (x = b ∧ y = a)) → metB (met.take (i + 1)) a b = false := fun hx => by
      rw [metB, List.take_succ_eq_append_getElem h, List.any_append, ← metB, hne, hp]
      simpa using hx
    by_cases h1 : x = a
    · by_cases h2 : y = b
      · simp [go_sem, h, hp, h1, h2]
        exact hR _ _ _ rfl (by simp [go_sem, yes (.inl ⟨h1, h2⟩)])
      · by_cases h3 : x = b
        · by_cases h4 : y = a
          · have hab : a = b := by omega
            exact absurd (by omega) h2
          · have h3' : a = b := by omega
            simp [go_sem, h, hp, h1, h2, h3', h4, w1]
            exact ⟨i + 1, by omega, ⟨by omega, by have := no (by omega); rw [h3'] at this; exact this⟩, by omega⟩
        · have h3' : ¬ a = b := by omega
          simp [go_sem, h, hp, h1, h2, h3', w1]
          exact ⟨i + 1, by omega, ⟨by omega, no (by omega)⟩, by omega⟩
    · by_cases h3 : x = b
      · by_cases h4 : y = a
        · simp [go_sem, h, hp, h1, h3, h4]
          exact ⟨by omega, hR _ _ _ rfl (by simp [go_sem, yes (.inr ⟨h3, h4⟩)])⟩
        · simp [go_sem, h, hp, h1, h3, h4, w1]
          refine ⟨by omega, ?_⟩
          rw [if_neg (by omega)]
          exact ⟨i + 1, by omega, ⟨by omega, no (by omega)⟩, by omega⟩
      · simp [go_sem, h, hp, h1, h3, w1]
        exact ⟨i + 1, by omega, ⟨by omega, no (by omega)⟩, by omega⟩
  · simp [go_sem, h]
    have e : met.take i = met := List.take_of_length_le (by omega)
    rw [e] at hne
    exact hR _ _ _ rfl (by simp [go_sem, hne])

theorem refRight_fun (teams : List Int) (met : List (Int × Int)) (hl : teams.length ≤ 2 ^ 32) (hm : met.length ≤ 2 ^ 32) : FN 126 [.fz 1 (ints teams), .fz 2 (prs met)] (fun v => v = .bool (rightP teams met)) := by
  refine IFun.of_bodyZ false 8 [11, 25, 28, 39, 43, 88] Tryd.func126 rfl Tryd.call126 rfl fun R hR => ?_
  simp [go_sem]
  refine IWp.loopT (α := Nat) (fun i => (⟨false, 89, 8, [11, 25, 28, 39, 43, 88], glT, [(0, .fz 1 (ints teams)), (1, .fz 2 (prs met)), (5, .int .i64 (i : Int))], []⟩, []))
    (fun i => i ≤ teams.length ∧ (teams.take i).all numB = true ∧ (teams.take i).Nodup) (fun i => teams.length - i) 0 ⟨by omega, by simp, by simp⟩ (by simp [go_sem]) ?_
  rintro i ⟨hi, hnum, hnd⟩
  by_cases h : i < teams.length
  · have w1 : IntKind.i64.wrap ((i : Int) + 1) = i + 1 := wrap64 (by omega) (by omega)
    obtain ⟨t, ht⟩ : ∃ t, teams[i] = t := ⟨_, rfl⟩
    have hsn : teams.take (i + 1) = teams.take i ++ [t] := by rw [List.take_succ_eq_append_getElem h, ht]
    have hsp : teams = teams.take i ++ t :: teams.drop (i + 1) := by rw [← ht]; simp
    have badn : numB t = false → rightP teams met = false := fun hn => by
      have : teams.all numB = false := by rw [hsp, List.all_append]; simp [hn]
      simp [rightP, this]
    by_cases h1 : t < 1
    · simp [go_sem, h, ht, h1]
      exact hR _ _ _ rfl (by simp [go_sem, badn (by simp [numB]; omega)])
    by_cases h2 : 64 < t
    · simp [go_sem, h, ht, h1, h2]
      exact hR _ _ _ rfl (by simp [go_sem, badn (by simp [numB]; omega)])
    simp [go_sem, h, ht, h1, h2]
    refine IWp.loopT (α := Nat) (fun k => (⟨false, 89, 8, [11, 25, 28, 39, 43, 88], glT, [(0, .fz 1 (ints teams)), (1, .fz 2 (prs met)), (5, .int .i64 (i : Int)), (6, .int .i64 (k : Int))], []⟩, []))
      (fun k => k ≤ i ∧ ∀ j (hj : j < teams.length), j < k → teams[j] ≠ t) (fun k => i - k) 0 ⟨by omega, by omega⟩ (by simp [go_sem]) ?_
    rintro k ⟨hk, hne⟩
    by_cases hki : k < i
    · have hkl : k < teams.length := by omega
      have w2 : IntKind.i64.wrap ((k : Int) + 1) = k + 1 := wrap64 (by omega) (by omega)
      by_cases he : teams[k] = t
      · have bad : rightP teams met = false := by
          have : ¬ teams.Nodup := fun hnd2 => by
            have := nodup_eq hnd2 hkl h (by rw [he, ht]); omega
          simp [rightP, this]
        simp [go_sem, hki, hkl, h, ht, he]
        exact ⟨by decide +kernel, hR _ _ _ rfl (by simp [go_sem, bad])⟩
      · simp [go_sem, hki, hkl, h, ht, he, w2]
        refine ⟨by decide +kernel, k + 1, by omega, ⟨by omega, fun j hj hjk => ?_⟩, by omega⟩
        by_cases e : j = k
        · subst e; exact he
        · exact hne j hj (by omega)
    · simp [go_sem, hki, w1]
      refine ⟨i + 1, by omega, ⟨by omega, ?_, ?_⟩, by omega⟩
      · intro x hx
        rw [hsn] at hx
        rcases List.mem_append.1 hx with hx | hx
        · exact List.all_eq_true.1 hnum x hx
        · have : x = t := by simpa using hx
          rw [this]; simp [numB]; omega
      · rw [hsn, List.nodup_append]
        refine ⟨hnd, by simp, fun a ha b hb e => ?_⟩
        have : b = t := by simpa using hb
        subst this
        obtain ⟨j, hj, e2⟩ := List.mem_iff_getElem.1 ha
        rw [List.length_take] at hj
        rw [List.getElem_take] at e2
        exact hne j (by omega) (by omega) (by rw [e2, e])
  · have e : teams.take i = teams := List.take_of_length_le (by omega)
    rw [e] at hnum hnd
    simp [go_sem, h]
    refine IWp.loopT (α := Nat) (fun j => (⟨false, 89, 8, [11, 25, 28, 39, 43, 88], glT, [(1, .fz 2 (prs met)), (7, .int .i64 (j : Int))], []⟩, []))
      (fun j => j ≤ met.length ∧ (met.take j).all (fun p => numB p.1 && numB p.2 && !(decide (p.1 = p.2))) = true) (fun j => met.length - j) 0 ⟨by omega, by simp⟩ (by simp [go_sem]) ?_
    rintro j ⟨hj, hok⟩
    by_cases h2 : j < met.length
    · have w1 : IntKind.i64.wrap ((j : Int) + 1) = j + 1 := wrap64 (by omega) (by omega)
      obtain ⟨p, hp⟩ : ∃ p, met[j] = p := ⟨_, rfl⟩
      obtain ⟨x, y⟩ := p
      have bad : (numB x && numB y && !(decide (x = y))) = false → rightP teams met = false := fun hb => by
        have : (met.all fun p => numB p.1 && numB p.2 && !(decide (p.1 = p.2))) = false := by
          rw [List.all_eq_false]
          exact ⟨(x, y), hp ▸ List.getElem_mem h2, by simp only [hb]; simp⟩
        rw [rightP, this, Bool.and_false]
      by_cases q1 : x < 1
      · simp [go_sem, h2, hp, q1]
        exact ⟨by decide +kernel, hR _ _ _ rfl (by simp [go_sem, bad (by simp [numB]; omega)])⟩
      by_cases q2 : 64 < x
      · simp [go_sem, h2, hp, q1, q2]
        exact ⟨by decide +kernel, hR _ _ _ rfl (by simp [go_sem, bad (by simp [numB]; omega)])⟩
      by_cases q3 : y < 1
      · simp [go_sem, h2, hp, q1, q2, q3]
        exact ⟨by decide +kernel, hR _ _ _ rfl (by simp [go_sem, bad (by simp [numB]; omega)])⟩
      by_cases q4 : 64 < y
      · simp [go_sem, h2, hp, q1, q2, q3, q4]
        exact ⟨by decide +kernel, hR _ _ _ rfl (by simp [go_sem, bad (by simp [numB]; omega)])⟩
      by_cases q5 : x = y
      · simp [go_sem, h2, hp, q1, q2, q3, q4, q5]
        exact ⟨by decide +kernel, hR _ _ _ rfl (by simp [go_sem, bad (by simp [q5])])⟩
      · simp [go_sem, h2, hp, q1, q2, q3, q4, q5, w1]
        refine ⟨by decide +kernel, j + 1, by omega, ⟨by omega, ?_⟩, by omega⟩
        rw [List.take_succ_eq_append_getElem h2, hp]
        intro a b hab
        rcases List.mem_append.1 hab with hab | hab
        · have := List.all_eq_true.1 hok _ hab; simpa using this
        · have : (a, b) = (x, y) := by simpa using hab
          cases this
          refine ⟨⟨?_, ?_⟩, q5⟩ <;> simp [numB] <;> omega
    · have e2 : met.take j = met := List.take_of_length_le (by omega)
      rw [e2] at hok
      have : rightP teams met = true := by rw [rightP, hnum, hok]; simp [hnd]
      simp [go_sem, h2]
      exact hR _ _ _ rfl (by simp [go_sem, this])

theorem wrong_fun (teams : List Int) (met : List (Int × Int)) (odd : Bool) (hl : teams.length ≤ 2 ^ 32) (hm : met.length ≤ 2 ^ 32) : FN 113 [.fz 1 (ints teams), .fz 2 (prs met), .bool odd] (fun v => v = .int .i64 (errN teams met odd)) := by
  refine IFun.of_bodyZ false 7 [10, 13, 21] Tryd.func113 rfl Tryd.call113 rfl fun R hR => ?_
  simp [go_sem]
  refine (refRight_fun teams met hl hm).callF (by simp [go_sem]) ?_
  rintro _ rfl
  cases hr : rightP teams met with
  | false =>
    have e : errN teams met odd = 2 := by unfold errN; rw [if_pos hr]
    simp [go_sem]
    exact hR _ _ _ rfl (by simp [go_sem, e])
  | true =>
    by_cases h16 : 16 < teams.length
    · have hI : (16 : Int) < teams.length := by omega
      have e : errN teams met odd = 5 := by unfold errN; rw [if_neg (by simp [hr]), if_pos h16]
      simp [go_sem, hI]
      exact hR _ _ _ rfl (by simp [go_sem, e])
    · have hI : ¬ (16 : Int) < teams.length := by omega
      cases odd with
      | true =>
        have e : errN teams met true = 0 := by unfold errN; rw [if_neg (by simp [hr]), if_neg h16, if_neg (by simp)]
        simp [go_sem, hI]
        exact hR _ _ _ rfl (by simp [go_sem, e])
      | false =>
        by_cases hp : teams.length % 2 = 1
        · have e : errN teams met false = 360 := by unfold errN; rw [if_neg (by simp [hr]), if_neg h16, if_pos ⟨rfl, hp⟩]
          have hp' : (teams.length : Int).tmod 2 = 1 := by rw [Int.tmod_eq_emod_of_nonneg (by omega)]; omega
          simp [go_sem, hI, hp']
          exact hR _ _ _ rfl (by simp [go_sem, e])
        · have e : errN teams met false = 0 := by unfold errN; rw [if_neg (by simp [hr]), if_neg h16, if_neg (fun h => hp h.2)]
          have hp' : (teams.length : Int).tmod 2 = 0 := by rw [Int.tmod_eq_emod_of_nonneg (by omega)]; omega
          simp [go_sem, hI, hp']
          exact hR _ _ _ rfl (by simp [go_sem, e])
end Go.Idl
