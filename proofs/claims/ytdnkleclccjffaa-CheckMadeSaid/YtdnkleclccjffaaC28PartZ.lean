/-
  Chapter 28: CheckBoards.
-/
import Derived.Test.YtdnkleclccjffaaC28PartY
import Derived.Test.YtdnkleclccjffaaC28PartC
namespace Go.Idl
set_option linter.all false
open Go.Proofs Go.RowKit
set_option maxHeartbeats 8000000
set_option maxRecDepth 40000

theorem div_at {d b s : Int} (hb : 0 < b) (h1 : s * b ≤ d) (h2 : d < s * b + b) : d / b = s := by
  have a := Int.le_ediv_of_mul_le hb h1
  have c := Int.ediv_lt_of_lt_mul (a := d) (b := s + 1) hb (by rw [Int.add_mul]; omega)
  omega
theorem brd_at {M : Mv} {b s : Int} (h : sesE M b = 0) (h1 : 0 ≤ s) (h2 : s < M.sets) : brdR M b s = (s * b + 1, s * b + b, 0) := by
  unfold brdR
  rw [if_neg (by simp [h]), if_neg (by omega), Int.add_mul, Int.one_mul]
theorem set_at {M : Mv} {b s d : Int} (h : sesE M b = 0) (hb : 0 < b) (h0 : 0 ≤ s) (h1 : s * b < d) (h2 : d ≤ s * b + b) (h3 : s * b + b ≤ M.sets * b) : setR M b d = (s, 0) := by
  have := Int.mul_nonneg h0 (show 0 ≤ b by omega)
  unfold setR
  rw [if_neg (by simp [h]), if_neg (by omega), div_at hb (show s * b ≤ d - 1 by omega) (by omega)]
theorem checkBoards_fun (t r k bo n : Int) (ht : 0 ≤ t ∧ t < 256) (hr : 0 ≤ r ∧ r < 256) (hk : 0 ≤ k ∧ k < 256) (hbo : 0 ≤ bo ∧ bo < 256) (hn : -2 ^ 63 ≤ n ∧ n < 2 ^ 63) : FN 5 [.int .u8 t, .int .u8 r, .int .u8 k, .int .u8 bo, .int .i64 n] (fun v => v = .bool true) := by
  refine IFun.of_bodyZ false 30 [31, 49, 51, 52, 53, 77, 84, 85, 86, 87, 102, 113] Try.func5 rfl Try.call5 rfl fun R hR => ?_
  obtain ⟨T, N, ok⟩ := md28_ok ht.1 hr.1 hk.1 (t := t) (r := r) (k := k)
  have c := made28_fun t r k ht hr hk
  obtain ⟨M, hM⟩ : ∃ M, md28 t r k = M := ⟨_, rfl⟩
  rw [hM] at ok c
  clear hM
  have s1 := ok.s1
  have s2 := ok.s2
  have hses := fun b => fair_ses (b := b) ok.frame ok.fair (by have := ok.t2; omega)
  obtain ⟨q, hq⟩ : ∃ q, 128 / M.sets = q := ⟨_, rfl⟩
  have hq1 : 1 ≤ q := by rw [← hq]; exact Int.le_ediv_of_mul_le (by omega) (by omega)
  have hq2 : q ≤ 128 := by rw [← hq]; exact Int.ediv_le_self _ (by omega)
  have hdq : (128 : Int).tdiv M.sets = q := by rw [Int.tdiv_eq_ediv_of_nonneg (by omega), hq]
  have w1 : IntKind.i64.wrap bo = bo := wrap64 (by omega) (by omega)
  have w2 : IntKind.i64.wrap q = q := wrap64 (by omega) (by omega)
  have e1 : bo.tmod q = bo % q := Int.tmod_eq_emod_of_nonneg (by omega)
  have m1 := Int.emod_nonneg bo (show q ≠ 0 by omega)
  have m2 := Int.emod_lt_of_pos bo (show 0 < q by omega)
  obtain ⟨b, hb⟩ : ∃ b, 1 + bo % q = b := ⟨_, rfl⟩
  have w3 : IntKind.i64.wrap (1 + bo % q) = b := by rw [hb]; exact wrap64 (by omega) (by omega)
  have hs0 : sesE M b = 0 := by rw [hses, hq, if_neg (by omega)]
  have hsn : ¬ M.sets < 1 := by omega
  have hqn : ¬ q < 1 := by omega
  have hsz : ¬ M.sets = 0 := by omega
  have hqz : ¬ q = 0 := by omega
  simp [go_sem]
  refine awake_fun.callF (by simp [go_sem]) ?_
  rintro _ rfl
  simp [go_sem]
  refine c.callM (by simp [go_sem]) ?_
  rintro _ rfl
  simp [go_sem, Mv.v, w1, w2, w3, e1, hdq, hsn, hqn, hsz, hqz]
  refine ⟨by decide +kernel, ?_⟩
  refine (session_fun M b).callF (by simp [go_sem, sesV]) ?_
  rintro _ rfl
  rw [hs0]
  simp [go_sem]
  have vn : ∀ n : Int, 0 ≤ n → n ≤ 20 → IntKind.i64.wrap n = n := fun n h1 h2 => wrap64 (by omega) (by omega)
  have hb1 : 1 ≤ b ∧ b ≤ q := by omega
  have hSb : ∀ s : Nat, (s : Int) < M.sets → 0 ≤ (s : Int) * b ∧ (s : Int) * b + b ≤ M.sets * b := fun s hs => by
    refine ⟨Int.mul_nonneg (by omega) (by omega), ?_⟩
    have := Int.mul_le_mul_of_nonneg_right (show (s : Int) + 1 ≤ M.sets by omega) (show 0 ≤ b by omega)
    rw [Int.add_mul, Int.one_mul] at this
    exact this
  have hB : M.sets * b ≤ 47 * 128 := Int.mul_le_mul s2 (by omega) (by omega) (by omega)
  have hB0 : 0 ≤ M.sets * b := Int.mul_nonneg (by omega) (by omega)
  refine IWp.loopT (α := Nat) (fun s => (⟨false, 149, 30, [31, 49, 51, 52, 53, 77, 84, 85, 86, 87, 102, 113], [], [(4, .int .i64 n), (11, .ptr 0 1 0 0), (12, .ptr 12 1 0 0), (13, .int .i64 ((s : Int) * b + 1)), (51, .int .i64 M.sets), (52, .int .i64 (s : Int))], []⟩, .rows 6 [mcells M] :: (List.replicate 11 IObj.hole ++ [.rows 7 [scells M b]])))
    (fun s => (s : Int) ≤ M.sets) (fun s => (M.sets - s).toNat) 0 (by simp; omega) (by simp [go_sem, mcells, scells]) ?_
  intro s hs
  by_cases h : (s : Int) < M.sets
  · have w4 : IntKind.i64.wrap ((s : Int) + 1) = s + 1 := wrap64 (by omega) (by omega)
    have hX := hSb s h
    have hbr := brd_at hs0 (show 0 ≤ (s : Int) by omega) h
    have hst := fun d (h1 : (s : Int) * b < d) (h2 : d ≤ s * b + b) => set_at hs0 (by omega) (by omega) h1 h2 hX.2
    have hnx : ((s + 1 : Nat) : Int) * b + 1 = s * b + b + 1 := by rw [Int.natCast_add, Int.add_mul]; simp
    obtain ⟨X, hXe⟩ : ∃ X, (s : Int) * b = X := ⟨_, rfl⟩
    rw [hXe] at hX hbr hst hnx
    simp only [hXe]
    have v1 : IntKind.i64.wrap (X + 1 + b) = X + 1 + b := wrap64 (by omega) (by omega)
    have v2 : IntKind.i64.wrap (X + 1 + b - 1) = X + b := by rw [show X + 1 + b - 1 = X + b by omega]; exact wrap64 (by omega) (by omega)
    have v3 : IntKind.i64.wrap (X + 1 + (X + b)) = X + 1 + (X + b) := wrap64 (by omega) (by omega)
    have d1 : (X + 1 + (X + b)).tdiv 2 = (X + 1 + (X + b)) / 2 := Int.tdiv_eq_ediv_of_nonneg (by omega)
    obtain ⟨mid, hmid⟩ : ∃ mid, (X + 1 + (X + b)) / 2 = mid := ⟨_, rfl⟩
    have v4 : IntKind.i64.wrap mid = mid := wrap64 (by omega) (by omega)
    have v5 : IntKind.i64.wrap (X + b + 1) = X + b + 1 := wrap64 (by omega) (by omega)
    simp [go_sem, mcells, scells, h]
    refine (boards_fun28 M b s).callF (by simp [go_sem, sesV]) ?_
    rintro _ rfl
    rw [hbr]
    simp [go_sem, v1, v2, v3, d1, hmid, v4]
    refine IWp.loopT (α := Nat) (fun j => (⟨false, 149, 30, [31, 49, 51, 52, 53, 77, 84, 85, 86, 87, 102, 113], [], [(4, .int .i64 n), (11, .ptr 0 1 0 0), (12, .ptr 12 1 0 0), (14, .int .i64 (s : Int)), (16, .int .i64 (X + b)), (51, .int .i64 M.sets), (52, .int .i64 (s : Int)), (84, .sl 13 3 0 3 none), (85, .int .i64 3), (86, .int .i64 (j : Int))], []⟩, .rows 6 [mcells M] :: (List.replicate 11 IObj.hole ++ [.rows 7 [scells M b], .rows 1 (ints [X + 1, mid, X + b])])))
      (fun j => j ≤ 3) (fun j => 3 - j) 0 (by simp) (by simp [go_sem, mcells, scells, ints_cons]) ?_
    intro j hj
    rcases (by omega : j = 0 ∨ j = 1 ∨ j = 2 ∨ j = 3) with rfl | rfl | rfl | rfl
    · simp [go_sem, mcells, scells, ints_cons]
      refine (set_fun28 M b (X + 1) (by omega)).callF (by simp [go_sem, sesV]) ?_
      rintro _ rfl
      rw [hst _ (by omega) (by omega)]
      simp [go_sem, vn]
      exact ⟨1, by omega, by omega, by omega⟩
    · simp [go_sem, mcells, scells, ints_cons]
      refine (set_fun28 M b mid (by omega)).callF (by simp [go_sem, sesV]) ?_
      rintro _ rfl
      rw [hst _ (by omega) (by omega)]
      simp [go_sem, vn]
      exact ⟨2, by omega, by omega, by omega⟩
    · simp [go_sem, mcells, scells, ints_cons]
      refine (set_fun28 M b (X + b) (by omega)).callF (by simp [go_sem, sesV]) ?_
      rintro _ rfl
      rw [hst _ (by omega) (by omega)]
      simp [go_sem, vn]
      exact ⟨3, by omega, by omega, by omega⟩
    · simp [go_sem, mcells, scells, w4, v5]
      exact ⟨s + 1, ⟨by omega, by omega⟩, by omega, by omega⟩
  · obtain ⟨S, hS⟩ : ∃ S, M.sets = S := ⟨_, rfl⟩
    have hsS : (s : Int) = S := by omega
    rw [hsS]
    have hbS : brdR M b S = (0, 0, 6) := by unfold brdR; rw [if_neg (by simp [hs0]), if_pos (by omega)]
    have hb_ : brdR M b (-1) = (0, 0, 6) := by unfold brdR; rw [if_neg (by simp [hs0]), if_pos (by omega)]
    have hsn : ∀ n, n < 1 ∨ S * b < n → setR M b n = (0, 6) := fun n h => by unfold setR; rw [if_neg (by simp [hs0]), hS, if_pos h]
    rw [hS] at hB hB0 h
    have h' : ¬ S < S := by omega
    obtain ⟨X, hXe⟩ : ∃ X, S * b = X := ⟨_, rfl⟩
    rw [hXe] at hB hB0 hsn
    have v0 : IntKind.i64.wrap 0 = 0 := by decide
    have fin : ∀ z, (z < 1 ∨ X < z) → -2 ^ 63 ≤ z ∧ z < 2 ^ 63 → setR M b z = (0, 6) := fun z h _ => hsn z h
    by_cases hin : 1 ≤ n ∧ n < X + 1
    · simp [go_sem, mcells, scells, hS, h', hXe, hin]
      refine (set_fun28 M b (X + 1) (by omega)).callF (by simp [go_sem, sesV, hS]) ?_
      rintro _ rfl
      rw [hsn _ (by omega)]
      simp [go_sem]
      refine (boards_fun28 M b S).callF (by simp [go_sem, sesV, hS]) ?_
      rintro _ rfl
      rw [hbS]
      simp [go_sem]
      refine (boards_fun28 M b (-1)).callF (by simp [go_sem, sesV, hS]) ?_
      rintro _ rfl
      rw [hb_]
      simp [go_sem]
      exact hR _ _ _ rfl (by simp [go_sem])
    · by_cases h1 : 1 ≤ n
      · have h2 : ¬ n < X + 1 := by omega
        simp [go_sem, mcells, scells, hS, h', hXe, h1, h2]
        refine (set_fun28 M b n (by omega)).callF (by simp [go_sem, sesV, hS]) ?_
        rintro _ rfl
        rw [hsn _ (by omega)]
        simp [go_sem]
        refine (boards_fun28 M b S).callF (by simp [go_sem, sesV, hS]) ?_
        rintro _ rfl
        rw [hbS]
        simp [go_sem]
        refine (boards_fun28 M b (-1)).callF (by simp [go_sem, sesV, hS]) ?_
        rintro _ rfl
        rw [hb_]
        simp [go_sem]
        exact hR _ _ _ rfl (by simp [go_sem])
      · have h2 : n < X + 1 := by omega
        simp [go_sem, mcells, scells, hS, h', hXe, h1, h2]
        refine (set_fun28 M b n (by omega)).callF (by simp [go_sem, sesV, hS]) ?_
        rintro _ rfl
        rw [hsn _ (by omega)]
        simp [go_sem]
        refine (boards_fun28 M b S).callF (by simp [go_sem, sesV, hS]) ?_
        rintro _ rfl
        rw [hbS]
        simp [go_sem]
        refine (boards_fun28 M b (-1)).callF (by simp [go_sem, sesV, hS]) ?_
        rintro _ rfl
        rw [hb_]
        simp [go_sem]
        exact hR _ _ _ rfl (by simp [go_sem])
theorem checkBoards_law (t r k b n : Int) (h0 : (Lit.int .u8 t).wf = true) (h1 : (Lit.int .u8 r).wf = true) (h2 : (Lit.int .u8 k).wf = true) (h3 : (Lit.int .u8 b).wf = true) (h4 : (Lit.int .i64 n).wf = true) :
    FN 5 [.int .u8 t, .int .u8 r, .int .u8 k, .int .u8 b, .int .i64 n] (fun v => v = .bool true) := checkBoards_fun t r k b n (wf8 h0) (wf8 h1) (wf8 h2) (wf8 h3) (wf64 h4)
end Go.Idl
