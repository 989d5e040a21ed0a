/-
  Chapter 36: Draw f14.
-/
import Derived.Test.YtpfpgkopbokfgaaDoorC36nI
import Derived.Test.YtpfpgkopbokfgaaDoorC36nN
import Derived.Test.YtpfpgkopbokfgaaDoorIdlP
namespace Go.Idl
set_option linter.all false
open Go.Proofs
set_option maxHeartbeats 8000000
set_option maxRecDepth 40000

theorem fst_head {met : List (Int × Int)} {l : List Int} : (drT met l).head? = if fstB met l = true then some (fstD met l) else none := by
  unfold fstB fstD
  cases drT met l <;> simp
theorem head_asT {teams : List Int} {met : List (Int × Int)} {g : Nat → Nat} (hn : teams.length ≤ 16) (ho : OpenOK teams met g) {m : Nat} (hm : m < 2 ^ teams.length) :
    (drT met ((bitsL m).map fun i => teams.getD i 0)).head? = ((drs (okG g) (bitsL m)).head?).map (asT teams) := by
  have hp16 : 2 ^ teams.length ≤ 2 ^ 16 := Nat.pow_le_pow_right (by decide) hn
  rw [drs_teams hn ho (bitsL_nodup m) (fun i hi => lt_of_bit hm (bitsL_mem.1 hi).2), List.head?_map]
theorem bits_full_map {teams : List Int} (hn : teams.length ≤ 16) : ((bitsL (2 ^ teams.length - 1)).map fun i => teams.getD i 0) = teams := by
  rw [bitsL_full (by omega), teams_range]
theorem bits_wo_map {teams : List Int} (hn : teams.length ≤ 16) {i : Nat} (hi : i < teams.length) : ((bitsL (anb (2 ^ teams.length - 1) (2 ^ i))).map fun i => teams.getD i 0) = teams.eraseIdx i := by
  have hp16 : 2 ^ teams.length ≤ 2 ^ 16 := Nat.pow_le_pow_right (by decide) hn
  rw [bitsL_wo (by omega), bitsL_full (by omega), ← restZ_all teams i hi]
  rfl
theorem fstD_len {met : List (Int × Int)} {teams : List Int} : (fstD met teams).length ≤ teams.length := by
  unfold fstD
  cases hd : drT met teams with
  | nil => simp
  | cons d r =>
    have := drs_len (ok := okT met) _ teams (Nat.le_refl _) d (by rw [show drs (okT met) teams = drT met teams from rfl, hd]; simp)
    simp only [List.headD_cons]; omega

theorem Draw_fun (teams : List Int) (met : List (Int × Int)) (byes : List Int) (hl : teams.length ≤ 2 ^ 32) (hm : met.length ≤ 2 ^ 32) (hb : byes.length ≤ 2 ^ 32) : F36 14 [.fz 1 (ints teams), .fz 2 (prs met), .fz 1 (ints byes)] (fun v => v = drawV (drawR teams met byes)) := by
  refine IFun.of_bodyZ false 9 [9, 10, 11, 12, 13, 14, 15, 16, 24, 31, 41, 47, 56, 68] Tryd.func14 rfl Tryd.call14 rfl fun R hR => ?_
  have fin : ∀ (r : IV) (σ : Heap) (q : List (Int × Int) × Int × Int), drawR teams met byes = q → frzOK false 4 σ r ∧ nz 4 (frzV 4 σ r) (drawV q) → R r σ := fun r σ q e h => hR r σ _ rfl (by rw [e]; exact h)
  simp [go_sem]
  refine (set_fun teams met hl hm).call (by simp [go_sem]) ?_
  rintro v (⟨hr, rfl⟩ | ⟨hr, hn, rfl⟩ | ⟨hr, hn, g, ho, rfl⟩)
  · have he : errN teams met true = 2 := by unfold errN; rw [if_pos hr]
    simp [go_sem]
    exact fin _ _ ([], 0, 2) (by unfold drawR; rw [he]; rfl) (by simp [go_sem, drawV])
  · have he : errN teams met true = 5 := by unfold errN; rw [if_neg (by simp [hr]), if_pos hn]
    simp [go_sem]
    exact fin _ _ ([], 0, 5) (by unfold drawR; rw [he]; rfl) (by simp [go_sem, drawV])
  have he : errN teams met true = 0 := by unfold errN; rw [if_neg (by simp [hr]), if_neg (by omega), if_neg (by simp)]
  have hp : 2 ^ teams.length - 1 < 2 ^ teams.length := by have : 0 < 2 ^ teams.length := Nat.pow_pos (by decide); omega
  have hp16 : 2 ^ teams.length ≤ 2 ^ 16 := Nat.pow_le_pow_right (by decide) hn
  have hgb : ∀ i, i < 16 → g i < 2 ^ 32 := fun i hi => (ho i hi).1
  have hH := head_asT hn ho hp
  rw [bits_full_map hn, fst_head] at hH
  have hW : ∀ i, i < teams.length → _ := fun i hi => head_asT (m := anb (2 ^ teams.length - 1) (2 ^ i)) hn ho (Nat.lt_of_le_of_lt (anb_le (by omega)) hp)
  have hWm := fun i hi => bits_wo_map hn (i := i) hi
  have hWl : ∀ i, anb (2 ^ teams.length - 1) (2 ^ i) < 2 ^ teams.length := fun i => Nat.lt_of_le_of_lt (anb_le (by omega)) hp
  have allc := all_c teams g hn
  simp [go_sem]
  refine (drawn_calls teams g).mono ?_
  rintro _ _ ⟨rfl, rfl⟩
  generalize 2 ^ teams.length - 1 = M at *
  by_cases hpr : teams.length % 2 = 0
  · have hp' : (teams.length : Int).tmod 2 = 0 := by rw [Int.tmod_eq_emod_of_nonneg (by omega)]; omega
    simp [go_sem, smF, smH, hp']
    refine allc.call (by simp [go_sem]) ?_
    rintro _ rfl
    simp [go_sem]
    refine (first_calls teams g hn hgb M hp [(0, true)] memB0 rfl).mono ?_
    rintro _ _ ⟨S', ⟨hS', hS0'⟩, (⟨hd, rfl, rfl⟩ | ⟨D, hd, rfl, rfl⟩)⟩
    · rw [hd] at hH
      have hf : fstB met teams = false := by
        cases h : fstB met teams with
        | false => rfl
        | true => rw [h] at hH; simp at hH
      simp [go_sem, smH]
      exact fin _ _ ([], 0, 6) (by unfold drawR; rw [if_neg (by simp [he]), if_pos hpr, if_neg (by simp [hf])]) (by simp [go_sem, drawV])
    · rw [hd] at hH
      have hf : fstB met teams = true ∧ fstD met teams = asT teams D := by
        cases h : fstB met teams with
        | false => rw [h] at hH; simp at hH
        | true => rw [h] at hH; simpa using hH
      have hDl := fstD_len (met := met) (teams := teams)
      rw [hf.2, asT_length] at hDl
      simp [go_sem, smH]
      exact fin _ _ (fstD met teams, 0, 0) (by unfold drawR; rw [if_neg (by simp [he]), if_pos hpr, if_pos hf.1]) (by simp [go_sem, drawV, hf.2])
  have hp' : ¬ (teams.length : Int).tmod 2 = 0 := by rw [Int.tmod_eq_emod_of_nonneg (by omega)]; omega
  have hres : drawR teams met byes = byeGo teams met byes teams.length := by unfold drawR; rw [if_neg (by simp [he]), if_neg hpr]
  have w0 : IntKind.i64.wrap ((teams.length : Int) - 1) = (teams.length : Int) - 1 := wrap64 (by omega) (by omega)
  simp [go_sem, smF, smH, hp', w0]
  refine IWp.loopT (α := Nat × List (Nat × Bool)) (fun x => (⟨false, 74, 9, [9, 10, 11, 12, 13, 14, 15, 16, 24, 31, 41, 47, 56, 68], glT, [(0, .fz 1 (ints teams)), (2, .fz 1 (ints byes)), (9, .fptr 17 [tbR teams g] 0 0), (11, smF), (14, .int .i64 ((x.1 : Int) - 1))], []⟩, smH teams g x.2))
    (fun x => x.1 ≤ teams.length ∧ byeGo teams met byes teams.length = byeGo teams met byes x.1 ∧ MemoB g x.2 ∧ aget 0 x.2 = some true) (fun x => x.1) (teams.length, [(0, true)]) ⟨Nat.le_refl _, rfl, memB0, rfl⟩ (by simp [go_sem, smH, smF]) ?_
  rintro ⟨i, S⟩ ⟨hi, hgo, hS, hS0⟩
  simp only at hi hgo hS hS0
  cases i with
  | zero =>
    simp [go_sem, smH, smF]
    exact fin _ _ ([], 0, 6) (by rw [hres, hgo]; rfl) (by simp [go_sem, drawV])
  | succ i =>
    have hil : i < teams.length := by omega
    have hti : teams.getD i 0 = teams[i] := by simp [hil]
    have ei : ((i + 1 : Nat) : Int) - 1 = i := by omega
    simp only [ei]
    rw [byeGo, hti] at hgo
    have w1 : IntKind.i64.wrap ((i : Int) - 1) = (i : Int) - 1 := wrap64 (by omega) (by omega)
    have hWi := hW i hil
    rw [hWm i hil, fst_head] at hWi
    simp [go_sem, smH, smF, hil]
    refine (place_fun byes teams[i] hb).call (by simp [go_sem]) ?_
    rintro _ rfl
    cases hix : ix byes teams[i] with
    | some b =>
      have hmem : teams[i] ∈ byes := by
        apply Decidable.byContradiction; intro hc
        rw [ix_none.2 hc] at hix; cases hix
      have hpl : plc byes teams[i] = (b : Int) := by rw [plc, hix]
      rw [if_pos hmem] at hgo
      simp [go_sem, hpl, w1]
      exact ⟨i, S, ⟨rfl, rfl⟩, ⟨by omega, hgo, hS, hS0⟩, by omega⟩
    | none =>
      have hmem : ¬ teams[i] ∈ byes := ix_none.1 hix
      have hpl : plc byes teams[i] = -1 := by rw [plc, hix]
      rw [if_neg hmem] at hgo
      have hi16 : i < 16 := by omega
      have e1 := shl32 (i := i) (by omega)
      have e2 : bitsOf .andNot .u32 (M : Int) (IntKind.u32.wrap (2 ^ min i 32)) = ((anb M (2 ^ i) : Nat) : Int) := by
        rw [min32 (by omega), e1, u32_andNot]
      have hWl' := hWl i
      obtain ⟨A, hA⟩ : ∃ A, anb M (2 ^ i) = A := ⟨_, rfl⟩
      rw [hA] at hWi e2 hWl'
      simp [go_sem, hpl]
      refine Drawn.oneC 7 (fun k => if k = 2 then .int .u32 (M : Int) else .tup []) (fun _ => .tup []) _ rfl rfl (by decide +kernel) fun k hk => ?_
      simp [go_sem, allc, e2]
      refine hk _ _ ?_
      clear hk k
      refine ⟨_, _, rfl, by simp [go_sem], ?_⟩
      simp [go_sem]
      refine (first_calls teams g hn hgb A hWl' S hS hS0).mono ?_
      rintro _ _ ⟨S', ⟨hS', hS0'⟩, (⟨hd, rfl, rfl⟩ | ⟨D, hd, rfl, rfl⟩)⟩
      · rw [hd] at hWi
        have hf : fstB met (teams.eraseIdx i) = false := by
          cases h : fstB met (teams.eraseIdx i) with
          | false => rfl
          | true => rw [h] at hWi; simp at hWi
        rw [if_neg (by simp [hf])] at hgo
        simp [go_sem, smH, w1]
        exact ⟨i, S', ⟨rfl, rfl⟩, ⟨by omega, hgo, hS', hS0'⟩, by omega⟩
      · rw [hd] at hWi
        have hf : fstB met (teams.eraseIdx i) = true ∧ fstD met (teams.eraseIdx i) = asT teams D := by
          cases h : fstB met (teams.eraseIdx i) with
          | false => rw [h] at hWi; simp at hWi
          | true => rw [h] at hWi; simpa using hWi
        rw [if_pos hf.1] at hgo
        simp [go_sem, smH, hil]
        exact ⟨by decide +kernel, fin _ _ (fstD met (teams.eraseIdx i), teams[i], 0) (by rw [hres, hgo]) (by simp [go_sem, drawV, hf.2])⟩
end Go.Idl
