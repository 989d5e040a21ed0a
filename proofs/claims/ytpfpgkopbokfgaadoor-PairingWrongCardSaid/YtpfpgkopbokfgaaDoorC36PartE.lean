/-
  Chapter 36: the reference: Draw f15.
  Chapter 36: Draw f14.
-/
import Derived.Test.YtpfpgkopbokfgaaDoorC36PartD
import Derived.Test.YtpfpgkopbokfgaaDoorC36PartC
import Derived.Test.YtpfpgkopbokfgaaDoorIdlPartH
namespace Go.Idl
set_option linter.all false
open Go.Proofs
set_option maxHeartbeats 4000000
set_option maxRecDepth 40000

def restZ (teams : List Int) (i k : Nat) : List Int := ((List.range k).filter fun j => !(decide (j = i))).map fun j => teams.getD j 0
theorem restZ_succ (teams : List Int) (i k : Nat) : restZ teams i (k + 1) = restZ teams i k ++ (if k ≠ i then [teams.getD k 0] else []) := by
  unfold restZ
  rw [List.range_succ, List.filter_append, List.map_append]
  congr 1
  by_cases h : k = i
  · rw [if_neg (by simpa using h)]; simp [h]
  · rw [if_pos h]; simp [h]
theorem restZ_le (teams : List Int) (i : Nat) : ∀ k, k ≤ i → k ≤ teams.length → restZ teams i k = teams.take k
  | 0, _, _ => by simp [restZ]
  | k + 1, h, hk => by
    rw [restZ_succ, restZ_le teams i k (by omega) (by omega), if_pos (by omega), List.take_succ_eq_append_getElem (by omega)]
    simp [show k < teams.length by omega]
theorem restZ_gt (teams : List Int) (i : Nat) (hil : i < teams.length) : ∀ k, i + 1 + k ≤ teams.length → restZ teams i (i + 1 + k) = teams.take i ++ (teams.drop (i + 1)).take k
  | 0, _ => by
    rw [Nat.add_zero, restZ_succ, if_neg (by simp), List.append_nil, restZ_le teams i i (Nat.le_refl _) (by omega)]; simp
  | k + 1, h => by
    rw [← Nat.add_assoc, restZ_succ, restZ_gt teams i hil k (by omega), if_pos (by omega), List.append_assoc]
    congr 1
    rw [List.take_succ_eq_append_getElem (by simp; omega)]
    simp [show i + 1 + k < teams.length by omega]
theorem restZ_all (teams : List Int) (i : Nat) (hil : i < teams.length) : restZ teams i teams.length = teams.eraseIdx i := by
  have := restZ_gt teams i hil (teams.length - (i + 1)) (by omega)
  rw [show i + 1 + (teams.length - (i + 1)) = teams.length by omega] at this
  have h1 : (teams.drop (i + 1)).take (teams.length - (i + 1)) = teams.drop (i + 1) := List.take_of_length_le (by rw [List.length_drop]; exact Nat.le_refl _)
  rw [this, h1, List.eraseIdx_eq_take_drop_succ]

/-- The draw of an odd number of teams: who has a bye, from the i-th down. -/
def byeGo (teams : List Int) (met : List (Int × Int)) (byes : List Int) : Nat → List (Int × Int) × Int × Int
  | 0 => ([], 0, 6)
  | i + 1 => if teams.getD i 0 ∈ byes then byeGo teams met byes i else if fstB met (teams.eraseIdx i) = true then (fstD met (teams.eraseIdx i), teams.getD i 0, 0) else byeGo teams met byes i
def drawR (teams : List Int) (met : List (Int × Int)) (byes : List Int) : List (Int × Int) × Int × Int :=
  if errN teams met true ≠ 0 then ([], 0, errN teams met true) else
  if teams.length % 2 = 0 then (if fstB met teams = true then (fstD met teams, 0, 0) else ([], 0, 6)) else byeGo teams met byes teams.length
def drawV (r : List (Int × Int) × Int × Int) : IV := .tup [.fz 2 (prs r.1), .int .i64 r.2.1, .int .i64 r.2.2]

theorem refFirst_c (teams : List Int) (met : List (Int × Int)) (hm : met.length ≤ 2 ^ 32) (h : teams.length ≤ 16) : F36 36 [.fz 1 (ints teams), .fz 2 (prs met)] (fun v => v = .tup [.fz 2 (prs (fstD met teams)), .bool (fstB met teams)]) := refFirst_fun met hm teams.length teams (Nat.le_refl _) h

theorem F36.callO {f : FuncId} {args args' : List IV} {σ : Heap} {V : IV → Prop} {K : IV → Heap → Prop} (h : F36 f args' V) (ha : okL true 4 σ args ∧ nzL 4 (frzL 4 σ args) args')
    (hK : ∀ v, V v → ∃ (C : IV → IV) (s : Nat) (rows : List (List IV)), Cx C ∧ 0 < s ∧ v = C (.fz s rows) ∧ ScR rows ∧ K (C (.sl σ.length rows.length 0 rows.length none)) (σ ++ [.rows s rows])) : ICalls Tryd.prog glT f args σ K :=
  IFun.callO h (nzL_frs (okL_frs ha.1) ha.2) (glCl_get glT_cl) hK
theorem fst_C (b : Bool) : Cx fun v => .tup [v, .bool b] := .tup [] [.bool b] (fun v => v) (by simp) (by simp [scal]) .here

theorem refDraw_fun (teams : List Int) (met : List (Int × Int)) (byes : List Int) (hl : teams.length ≤ 2 ^ 32) (hm : met.length ≤ 2 ^ 32) (hb : byes.length ≤ 2 ^ 32) : F36 15 [.fz 1 (ints teams), .fz 2 (prs met), .fz 1 (ints byes)] (fun v => v = drawV (drawR teams met byes)) := by
  refine IFun.of_bodyZ false 9 [9, 10, 11, 12, 13, 14, 15, 16, 17, 18, 23, 28, 36, 42, 48, 66, 71, 79, 86] Tryd.func15 rfl Tryd.call15 rfl fun R hR => ?_
  have fin : ∀ (r : IV) (σ : Heap) (q : List (Int × Int) × Int × Int), drawR teams met byes = q → frzOK false 4 σ r ∧ nz 4 (frzV 4 σ r) (drawV q) → R r σ := fun r σ q e h => hR r σ _ rfl (by rw [e]; exact h)
  simp [go_sem]
  refine (wrong_fun teams met true hl hm).call (by simp [go_sem]) ?_
  rintro _ rfl
  by_cases he : errN teams met true = 0
  case neg =>
    simp [go_sem, he]
    exact fin _ _ _ (by unfold drawR; rw [if_pos he]) (by simp [go_sem, drawV])
  obtain ⟨_, hn, _⟩ := errN_zero he
  simp [go_sem, he]
  by_cases hp : teams.length % 2 = 0
  · have hp' : (teams.length : Int).tmod 2 = 0 := by rw [Int.tmod_eq_emod_of_nonneg (by omega)]; omega
    simp [go_sem, hp']
    refine (refFirst_c teams met hm hn).callO (by simp [go_sem]) ?_
    rintro _ rfl
    refine ⟨_, 2, prs (fstD met teams), fst_C (fstB met teams), by decide, rfl, by simp [go_sem], ?_⟩
    cases hf : fstB met teams with
    | true =>
      simp [go_sem]
      exact fin _ _ (fstD met teams, 0, 0) (by unfold drawR; rw [if_neg (by simp [he]), if_pos hp, if_pos hf]) (by simp [go_sem, drawV])
    | false =>
      simp [go_sem]
      exact fin _ _ ([], 0, 6) (by unfold drawR; rw [if_neg (by simp [he]), if_pos hp, if_neg (by simp [hf])]) (by simp [go_sem, drawV])
  have hp' : ¬ (teams.length : Int).tmod 2 = 0 := by rw [Int.tmod_eq_emod_of_nonneg (by omega)]; omega
  have hres : drawR teams met byes = byeGo teams met byes teams.length := by unfold drawR; rw [if_neg (by simp [he]), if_neg hp]
  have w0 : IntKind.i64.wrap ((teams.length : Int) - 1) = (teams.length : Int) - 1 := wrap64 (by omega) (by omega)
  simp [go_sem, hp', w0]
  refine IWp.loopT (α := Nat) (fun i => (⟨false, 92, 9, [9, 10, 11, 12, 13, 14, 15, 16, 17, 18, 23, 28, 36, 42, 48, 66, 71, 79, 86], glT, [(0, .fz 1 (ints teams)), (1, .fz 2 (prs met)), (2, .fz 1 (ints byes)), (12, .int .i64 ((i : Int) - 1))], []⟩, []))
    (fun i => i ≤ teams.length ∧ byeGo teams met byes teams.length = byeGo teams met byes i) (fun i => i) teams.length ⟨Nat.le_refl _, rfl⟩ (by simp [go_sem]) ?_
  rintro i ⟨hi, hgo⟩
  cases i with
  | zero =>
    simp [go_sem]
    exact fin _ _ ([], 0, 6) (by rw [hres, hgo]; rfl) (by simp [go_sem, drawV])
  | succ i =>
    have hil : i < teams.length := by omega
    have hti : teams.getD i 0 = teams[i] := by simp [hil]
    have ei : ((i + 1 : Nat) : Int) - 1 = i := by omega
    rw [ei]
    rw [byeGo, hti] at hgo
    have hge : (i : Int) ≥ 0 := by omega
    have w1 : IntKind.i64.wrap ((i : Int) - 1) = (i : Int) - 1 := wrap64 (by omega) (by omega)
    simp [go_sem]
    refine IWp.loopT (α := Nat) (fun k => (⟨false, 92, 9, [9, 10, 11, 12, 13, 14, 15, 16, 17, 18, 23, 28, 36, 42, 48, 66, 71, 79, 86], glT, [(0, .fz 1 (ints teams)), (1, .fz 2 (prs met)), (2, .fz 1 (ints byes)), (12, .int .i64 (i : Int)), (13, .bool (decide (teams[i] ∈ byes.take k))), (14, .int .i64 (k : Int))], []⟩, []))
      (fun k => k ≤ byes.length) (fun k => byes.length - k) 0 (by omega) (by simp [go_sem]) ?_
    intro k hk
    by_cases hkb : k < byes.length
    · have w2 : IntKind.i64.wrap ((k : Int) + 1) = k + 1 := wrap64 (by omega) (by omega)
      have hsn : byes.take (k + 1) = byes.take k ++ [byes[k]] := List.take_succ_eq_append_getElem hkb
      have hdec : decide (teams[i] ∈ byes.take (k + 1)) = (decide (teams[i] ∈ byes.take k) || (byes[k] == teams[i])) := by
        have hmem : teams[i] ∈ byes.take (k + 1) ↔ (teams[i] ∈ byes.take k ∨ byes[k] = teams[i]) := by
          rw [hsn, List.mem_append, List.mem_singleton]
          exact ⟨fun h => h.imp_right Eq.symm, fun h => h.imp_right Eq.symm⟩
        rw [decide_eq_decide.2 hmem, Bool.decide_or]; rfl
      cases hh : decide (teams[i] ∈ byes.take k) with
      | true =>
        rw [hh, Bool.true_or] at hdec
        simp [go_sem, hkb, hil, w2]
        exact ⟨by decide +kernel, k + 1, ⟨of_decide_eq_true hdec, by omega⟩, by omega, by omega⟩
      | false =>
        rw [hh, Bool.false_or] at hdec
        simp [go_sem, hkb, hil, w2]
        exact ⟨by decide +kernel, k + 1, ⟨hdec.symm, by omega⟩, by omega, by omega⟩
    · have hkl : k = byes.length := by omega
      subst hkl
      rw [List.take_length]
      simp [go_sem]
      refine IWp.ownNilS 1 15 (by decide) (by simp [go_sem]) ?_
      simp only [go_sem]
      refine IWp.loopT (α := Nat) (fun k => (⟨false, 92, 9, [9, 10, 11, 12, 13, 14, 15, 16, 17, 18, 23, 28, 36, 42, 48, 66, 71, 79, 86], glT, [(0, .fz 1 (ints teams)), (1, .fz 2 (prs met)), (2, .fz 1 (ints byes)), (12, .int .i64 (i : Int)), (13, .bool (decide (teams[i] ∈ byes))), (15, .sl 0 (restZ teams i k).length 0 (restZ teams i k).length none), (16, .int .i64 (k : Int))], []⟩, [.rows 1 (ints (restZ teams i k))]))
        (fun k => k ≤ teams.length) (fun k => teams.length - k) 0 (by omega) (by simp [go_sem, restZ]) ?_
      intro k hk
      have hrs := restZ_succ teams i k
      have hrl : (restZ teams i k).length ≤ k := by unfold restZ; rw [List.length_map]; exact Nat.le_trans (List.length_filter_le _ _) (by simp)
      by_cases hkT : k < teams.length
      · have w2 : IntKind.i64.wrap ((k : Int) + 1) = k + 1 := wrap64 (by omega) (by omega)
        have hTk : teams.getD k 0 = teams[k] := by simp [hkT]
        by_cases hki : k = i
        · rw [if_neg (by omega), List.append_nil] at hrs
          subst hki
          simp [go_sem, hil, w2]
          exact ⟨k + 1, ⟨⟨by rw [hrs], by omega⟩, by rw [hrs]⟩, by omega, by omega⟩
        · rw [if_pos hki, hTk] at hrs
          have hkiI : ¬ (k : Int) = i := by omega
          simp [go_sem, hkT, hki, w2]
          rw [if_neg hkiI]
          exact ⟨by omega, k + 1, ⟨⟨by rw [hrs]; simp, by omega⟩, by rw [hrs, ints_snoc]⟩, by omega, by omega⟩
      · have hkl : k = teams.length := by omega
        obtain ⟨Rs, hRs⟩ : ∃ Rs, restZ teams i k = Rs := ⟨_, rfl⟩
        have hre : Rs = teams.eraseIdx i := by rw [← hRs, hkl]; exact restZ_all teams i hil
        have hRl : Rs.length + 1 = teams.length := by rw [hre, List.length_eraseIdx, if_pos hil]; omega
        rw [← hre] at hgo
        by_cases hmem : teams[i] ∈ byes
        · rw [if_pos hmem] at hgo
          simp [go_sem, hkT, hRs, hmem, w1]
          exact ⟨i, rfl, ⟨by omega, hgo⟩, by omega⟩
        · rw [if_neg hmem] at hgo
          simp [go_sem, hkT, hRs, hmem]
          refine (refFirst_c Rs met hm (by omega)).callO (by simp [go_sem]) ?_
          rintro _ rfl
          refine ⟨_, 2, prs (fstD met Rs), fst_C (fstB met Rs), by decide, rfl, by simp [go_sem], ?_⟩
          cases hf : fstB met Rs with
          | true =>
            rw [if_pos hf] at hgo
            simp [go_sem, hil]
            exact ⟨by decide +kernel, fin _ _ (fstD met Rs, teams[i], 0) (by rw [hres, hgo]) (by simp [go_sem, drawV])⟩
          | false =>
            rw [if_neg (by simp [hf])] at hgo
            simp [go_sem, w1]
            exact ⟨i, rfl, ⟨by omega, hgo⟩, by omega⟩
end Go.Idl
namespace Go.Idl
set_option linter.all false
open Go.Proofs
set_option maxHeartbeats 8000000
set_option maxRecDepth 40000

theorem fst_head {met : List (Int × Int)} {l : List Int} : (drT met l).head? = if fstB met l = true then some (fstD met l) else none := by
  unfold fstB fstD
  cases drT met l <;> simp
theorem head_asT {teams : List Int} {met : List (Int × Int)} {g : Nat → Nat} (hn : teams.length ≤ 16) (ho : OpenOK teams met g) {m : Nat} (hm : m < 2 ^ teams.length) :
    (drT met ((bitsL m).map fun i => teams.getD i 0)).head? = ((drs (okG g) (bitsL m)).head?).map (asT teams) := by
  have hp16 : 2 ^ teams.length ≤ 2 ^ 16 := Nat.pow_le_pow_right (by decide) hn
  rw [drs_teams hn ho (bitsL_nodup m) (fun i hi => lt_of_bit hm (bitsL_mem.1 hi).2), List.head?_map]
theorem bits_full_map {teams : List Int} (hn : teams.length ≤ 16) : ((bitsL (2 ^ teams.length - 1)).map fun i => teams.getD i 0) = teams := by
  rw [bitsL_full (by omega), teams_range]
theorem bits_wo_map {teams : List Int} (hn : teams.length ≤ 16) {i : Nat} (hi : i < teams.length) : ((bitsL (anb (2 ^ teams.length - 1) (2 ^ i))).map fun i => teams.getD i 0) = teams.eraseIdx i := by
  have hp16 : 2 ^ teams.length ≤ 2 ^ 16 := Nat.pow_le_pow_right (by decide) hn
  rw [bitsL_wo (by omega), bitsL_full (by omega), ← restZ_all teams i hi]
  rfl
theorem fstD_len {met : List (Int × Int)} {teams : List Int} : (fstD met teams).length ≤ teams.length := by
  unfold fstD
  cases hd : drT met teams with
  | nil => simp
  | cons d r =>
    have := drs_len (ok := okT met) _ teams (Nat.le_refl _) d (by rw [show drs (okT met) teams = drT met teams from rfl, hd]; simp)
    simp only [List.headD_cons]; omega

theorem Draw_fun (teams : List Int) (met : List (Int × Int)) (byes : List Int) (hl : teams.length ≤ 2 ^ 32) (hm : met.length ≤ 2 ^ 32) (hb : byes.length ≤ 2 ^ 32) : F36 14 [.fz 1 (ints teams), .fz 2 (prs met), .fz 1 (ints byes)] (fun v => v = drawV (drawR teams met byes)) := by
  refine IFun.of_bodyZ false 9 [9, 10, 11, 12, 13, 14, 15, 16, 24, 31, 41, 47, 56, 68] Tryd.func14 rfl Tryd.call14 rfl fun R hR => ?_
  have fin : ∀ (r : IV) (σ : Heap) (q : List (Int × Int) × Int × Int), drawR teams met byes = q → frzOK false 4 σ r ∧ nz 4 (frzV 4 σ r) (drawV q) → R r σ := fun r σ q e h => hR r σ _ rfl (by rw [e]; exact h)
  simp [go_sem]
  refine (set_fun teams met hl hm).call (by simp [go_sem]) ?_
  rintro v (⟨hr, rfl⟩ | ⟨hr, hn, rfl⟩ | ⟨hr, hn, g, ho, rfl⟩)
  · have he : errN teams met true = 2 := by unfold errN; rw [if_pos hr]
    simp [go_sem]
    exact fin _ _ ([], 0, 2) (by unfold drawR; rw [he]; rfl) (by simp [go_sem, drawV])
  · have he : errN teams met true = 5 := by unfold errN; rw [if_neg (by simp [hr]), if_pos hn]
    simp [go_sem]
    exact fin _ _ ([], 0, 5) (by unfold drawR; rw [he]; rfl) (by simp [go_sem, drawV])
  have he : errN teams met true = 0 := by unfold errN; rw [if_neg (by simp [hr]), if_neg (by omega), if_neg (by simp)]
  have hp : 2 ^ teams.length - 1 < 2 ^ teams.length := by have : 0 < 2 ^ teams.length := Nat.pow_pos (by decide); omega
  have hp16 : 2 ^ teams.length ≤ 2 ^ 16 := Nat.pow_le_pow_right (by decide) hn
  have hgb : ∀ i, i < 16 → g i < 2 ^ 32 := fun i hi => (ho i hi).1
  have hH := head_asT hn ho hp
  rw [bits_full_map hn, fst_head] at hH
  have hW : ∀ i, i < teams.length → _ := fun i hi => head_asT (m := anb (2 ^ teams.length - 1) (2 ^ i)) hn ho (Nat.lt_of_le_of_lt (anb_le (by omega)) hp)
  have hWm := fun i hi => bits_wo_map hn (i := i) hi
  have hWl : ∀ i, anb (2 ^ teams.length - 1) (2 ^ i) < 2 ^ teams.length := fun i => Nat.lt_of_le_of_lt (anb_le (by omega)) hp
  have allc := all_c teams g hn
  simp [go_sem]
  refine (drawn_calls teams g).mono ?_
  rintro _ _ ⟨rfl, rfl⟩
  generalize 2 ^ teams.length - 1 = M at *
  by_cases hpr : teams.length % 2 = 0
  · have hp' : (teams.length : Int).tmod 2 = 0 := by rw [Int.tmod_eq_emod_of_nonneg (by omega)]; omega
    simp [go_sem, smF, smH, hp']
    refine allc.call (by simp [go_sem]) ?_
    rintro _ rfl
    simp [go_sem]
    refine (first_calls teams g hn hgb M hp [(0, true)] memB0 rfl).mono ?_
    rintro _ _ ⟨S', ⟨hS', hS0'⟩, (⟨hd, rfl, rfl⟩ | ⟨D, hd, rfl, rfl⟩)⟩
    · rw [hd] at hH
      have hf : fstB met teams = false := by
        cases h : fstB met teams with
        | false => rfl
        | true => rw [h] at hH; simp at hH
      simp [go_sem, smH]
      exact fin _ _ ([], 0, 6) (by unfold drawR; rw [if_neg (by simp [he]), if_pos hpr, if_neg (by simp [hf])]) (by simp [go_sem, drawV])
    · rw [hd] at hH
      have hf : fstB met teams = true ∧ fstD met teams = asT teams D := by
        cases h : fstB met teams with
        | false => rw [h] at hH; simp at hH
        | true => rw [h] at hH; simpa using hH
      have hDl := fstD_len (met := met) (teams := teams)
      rw [hf.2, asT_length] at hDl
      simp [go_sem, smH]
      exact fin _ _ (fstD met teams, 0, 0) (by unfold drawR; rw [if_neg (by simp [he]), if_pos hpr, if_pos hf.1]) (by simp [go_sem, drawV, hf.2])
  have hp' : ¬ (teams.length : Int).tmod 2 = 0 := by rw [Int.tmod_eq_emod_of_nonneg (by omega)]; omega
  have hres : drawR teams met byes = byeGo teams met byes teams.length := by unfold drawR; rw [if_neg (by simp [he]), if_neg hpr]
  have w0 : IntKind.i64.wrap ((teams.length : Int) - 1) = (teams.length : Int) - 1 := wrap64 (by omega) (by omega)
  simp [go_sem, smF, smH, hp', w0]
  refine IWp.loopT (α := Nat × List (Nat × Bool)) (fun x => (⟨false, 74, 9, [9, 10, 11, 12, 13, 14, 15, 16, 24, 31, 41, 47, 56, 68], glT, [(0, .fz 1 (ints teams)), (2, .fz 1 (ints byes)), (9, .fptr 17 [tbR teams g] 0 0), (11, smF), (14, .int .i64 ((x.1 : Int) - 1))], []⟩, smH teams g x.2))
    (fun x => x.1 ≤ teams.length ∧ byeGo teams met byes teams.length = byeGo teams met byes x.1 ∧ MemoB g x.2 ∧ aget 0 x.2 = some true) (fun x => x.1) (teams.length, [(0, true)]) ⟨Nat.le_refl _, rfl, memB0, rfl⟩ (by simp [go_sem, smH, smF]) ?_
  rintro ⟨i, S⟩ ⟨hi, hgo, hS, hS0⟩
  simp only at hi hgo hS hS0
  cases i with
  | zero =>
    simp [go_sem, smH, smF]
    exact fin _ _ ([], 0, 6) (by rw [hres, hgo]; rfl) (by simp [go_sem, drawV])
  | succ i =>
    have hil : i < teams.length := by omega
    have hti : teams.getD i 0 = teams[i] := by simp [hil]
    have ei : ((i + 1 : Nat) : Int) - 1 = i := by omega
    simp only [ei]
    rw [byeGo, hti] at hgo
    have w1 : IntKind.i64.wrap ((i : Int) - 1) = (i : Int) - 1 := wrap64 (by omega) (by omega)
    have hWi := hW i hil
    rw [hWm i hil, fst_head] at hWi
    simp [go_sem, smH, smF, hil]
    refine (place_fun byes teams[i] hb).call (by simp [go_sem]) ?_
    rintro _ rfl
    cases hix : ix byes teams[i] with
    | some b =>
      have hmem : teams[i] ∈ byes := by
        apply Decidable.byContradiction; intro hc
        rw [ix_none.2 hc] at hix; cases hix
      have hpl : plc byes teams[i] = (b : Int) := by rw [plc, hix]
      rw [if_pos hmem] at hgo
      simp [go_sem, hpl, w1]
      exact ⟨i, S, ⟨rfl, rfl⟩, ⟨by omega, hgo, hS, hS0⟩, by omega⟩
    | none =>
      have hmem : ¬ teams[i] ∈ byes := ix_none.1 hix
      have hpl : plc byes teams[i] = -1 := by rw [plc, hix]
      rw [if_neg hmem] at hgo
      have hi16 : i < 16 := by omega
      have e1 := shl32 (i := i) (by omega)
      have e2 : bitsOf .andNot .u32 (M : Int) (IntKind.u32.wrap (2 ^ min i 32)) = ((anb M (2 ^ i) : Nat) : Int) := by
        rw [min32 (by omega), e1, u32_andNot]
      have hWl' := hWl i
      obtain ⟨A, hA⟩ : ∃ A, anb M (2 ^ i) = A := ⟨_, rfl⟩
      rw [hA] at hWi e2 hWl'
      simp [go_sem, hpl]
      refine Drawn.oneC 7 (fun k => if k = 2 then .int .u32 (M : Int) else .tup []) (fun _ => .tup []) _ rfl rfl (by decide +kernel) fun k hk => ?_
      simp [go_sem, allc, e2]
      refine hk _ _ ?_
      clear hk k
      refine ⟨_, _, rfl, by simp [go_sem], ?_⟩
      simp [go_sem]
      refine (first_calls teams g hn hgb A hWl' S hS hS0).mono ?_
      rintro _ _ ⟨S', ⟨hS', hS0'⟩, (⟨hd, rfl, rfl⟩ | ⟨D, hd, rfl, rfl⟩)⟩
      · rw [hd] at hWi
        have hf : fstB met (teams.eraseIdx i) = false := by
          cases h : fstB met (teams.eraseIdx i) with
          | false => rfl
          | true => rw [h] at hWi; simp at hWi
        rw [if_neg (by simp [hf])] at hgo
        simp [go_sem, smH, w1]
        exact ⟨i, S', ⟨rfl, rfl⟩, ⟨by omega, hgo, hS', hS0'⟩, by omega⟩
      · rw [hd] at hWi
        have hf : fstB met (teams.eraseIdx i) = true ∧ fstD met (teams.eraseIdx i) = asT teams D := by
          cases h : fstB met (teams.eraseIdx i) with
          | false => rw [h] at hWi; simp at hWi
          | true => rw [h] at hWi; simpa using hWi
        rw [if_pos hf.1] at hgo
        simp [go_sem, smH, hil]
        exact ⟨by decide +kernel, fin _ _ (fstD met (teams.eraseIdx i), teams[i], 0) (by rw [hres, hgo]) (by simp [go_sem, drawV, hf.2])⟩
end Go.Idl
