/-
  Chapter 25's Made.
-/
import Derived.Test.YtdnkleclccjffaaC28PartF
import Derived.Test.YtdnkleclccjffaaIdlPartK
namespace Go.Idl
set_option linter.all false
open Go.Proofs
set_option maxHeartbeats 4000000
set_option maxRecDepth 40000

def mdT0 (t : Int) : Int := 2 + t % 23
def oddT (t : Int) : Int := if t % 2 = 1 then t else if t = 24 then 23 else t + 1
def mdK (t k : Int) : Int := if k % 4 = 0 then (if mdT0 t % 6 = 1 ∨ mdT0 t % 6 = 5 then 0 else 1) else k % 4
def mdT (t k : Int) : Int := if mdK t k = 0 then mdT0 t else if mdK t k = 1 then oddT (mdT0 t) else mdT0 t - mdT0 t % 2
def mdN (t r k : Int) : Int := 1 + r % max (mostK (mdT t k) (max (mdK t k) 1)) 1
def mdM (t r k : Int) : Mv := if mdK t k = 0 then roverM (mdT t k) (mdN t r k) else makeM (mdK t k) (mdT t k) (mdN t r k)
theorem or_one {T : Int} (h : 0 ≤ T ∧ T ≤ 24) : bitsOf .or .i64 T 1 = if T % 2 = 1 then T else T + 1 := by
  obtain ⟨n, rfl⟩ : ∃ n : Nat, T = n := ⟨T.toNat, by omega⟩
  have : ∀ m : Fin 25, bitsOf .or .i64 (m.val : Int) 1 = if (m.val : Int) % 2 = 1 then (m.val : Int) else m.val + 1 := by decide +kernel
  exact this ⟨n, by omega⟩
theorem andNot_one {T : Int} (h : 0 ≤ T ∧ T ≤ 24) : bitsOf .andNot .i64 T 1 = T - T % 2 := by
  obtain ⟨n, rfl⟩ : ∃ n : Nat, T = n := ⟨T.toNat, by omega⟩
  have : ∀ m : Fin 25, bitsOf .andNot .i64 (m.val : Int) 1 = (m.val : Int) - m.val % 2 := by decide +kernel
  exact this ⟨n, by omega⟩
theorem mdT_range {t : Int} (k : Int) (ht : 0 ≤ t) : 2 ≤ mdT t k ∧ mdT t k ≤ 24 := by
  have : 2 ≤ mdT0 t ∧ mdT0 t ≤ 24 := by unfold mdT0; omega
  unfold mdT oddT
  split
  · exact this
  · split
    · split
      · omega
      · split <;> omega
    · omega
theorem mdK_range {t k : Int} (hk : 0 ≤ k) : 0 ≤ mdK t k ∧ mdK t k ≤ 3 := by
  unfold mdK
  split
  · split <;> omega
  · omega
theorem made_fun (t r k : Int) (ht : 0 ≤ t ∧ t < 256) (hr : 0 ≤ r ∧ r < 256) (hk : 0 ≤ k ∧ k < 256) : ON 47 [.int .u8 t, .int .u8 r, .int .u8 k] (fun v => v = (mdM t r k).v) := by
  refine IFun.of_bodyW false 13 [19, 32, 35, 41, 60] Try.func47 rfl Try.call47 rfl fun R hR => ?_
  have e1 : t.tmod 23 = t % 23 := Int.tmod_eq_emod_of_nonneg (by omega)
  have e2 : k.tmod 4 = k % 4 := Int.tmod_eq_emod_of_nonneg (by omega)
  have w1 : IntKind.i64.wrap t = t := wrap64 (by omega) (by omega)
  have w2 : IntKind.i64.wrap (t % 23) = t % 23 := wrap64 (by omega) (by omega)
  have w3 : IntKind.i64.wrap (2 + t % 23) = mdT0 t := wrap64 (by omega) (by omega)
  have w4 : IntKind.u8.wrap (k % 4) = k % 4 := by rw [IntKind.wrap_u8]; omega
  have hT0 : 2 ≤ mdT0 t ∧ mdT0 t ≤ 24 := by unfold mdT0; omega
  have e3 : (mdT0 t).tmod 6 = mdT0 t % 6 := Int.tmod_eq_emod_of_nonneg (by omega)
  have w5 : IntKind.i64.wrap (mdT0 t % 6) = mdT0 t % 6 := wrap64 (by omega) (by omega)
  have hod := or_one (T := mdT0 t) (by omega)
  have hev := andNot_one (T := mdT0 t) (by omega)
  have hTd : mdT t k = if mdK t k = 0 then mdT0 t else if mdK t k = 1 then oddT (mdT0 t) else mdT0 t - mdT0 t % 2 := rfl
  have hKd : mdK t k = if k % 4 = 0 then (if mdT0 t % 6 = 1 ∨ mdT0 t % 6 = 5 then 0 else 1) else k % 4 := rfl
  have hTr := mdT_range (t := t) k ht.1
  have hKr := mdK_range (t := t) hk.1
  refine IWp.seqI ?_
  simp [go_sem]
  refine IWp.seqI ?_
  simp [go_sem, e1, w1, w2, w3]
  refine IWp.seqI ?_
  simp [go_sem, e2, w4]
  refine IWp.seqT (α := Int × Int) (fun x => (⟨false, 75, 13, [19, 32, 35, 41, 60], [], [(0, .int .u8 t), (1, .int .u8 r), (2, .int .u8 k), (6, .ptr 0 1 0 0), (7, .int .i64 x.1), (8, .int .u8 x.2)], []⟩, [.rows 6 [[.int .i64 0, .int .i64 0, .int .i64 0, .int .i64 0, .int .i64 0, .nils]]])) (fun x => x.1 = mdT t k ∧ x.2 = mdK t k) ?_ ?_
  · have h24 : bitsOf .or .i64 24 1 = 25 := by decide +kernel
    by_cases h0 : k % 4 = 0
    · rw [if_pos h0] at hKd
      by_cases h1 : mdT0 t % 6 = 1
      · rw [if_pos (.inl h1)] at hKd
        rw [hKd, if_pos rfl] at hTd
        simp [go_sem, e3, w5, h0, h1]
        exact ⟨hTd.symm, hKd.symm⟩
      · by_cases h2 : mdT0 t % 6 = 5
        · rw [if_pos (.inr h2)] at hKd
          rw [hKd, if_pos rfl] at hTd
          simp [go_sem, e3, w5, h0, h1, h2]
          exact ⟨hTd.symm, hKd.symm⟩
        · rw [if_neg (by omega)] at hKd
          rw [hKd, if_neg (by omega), if_pos rfl] at hTd
          unfold oddT at hTd
          by_cases h3 : mdT0 t % 2 = 1
          · rw [if_pos h3] at hod hTd
            simp [go_sem, e3, w5, h0, h1, h2, hod, show ¬ 24 < mdT0 t by omega]
            exact ⟨hTd.symm, hKd.symm⟩
          · rw [if_neg h3] at hod hTd
            by_cases h4 : mdT0 t = 24
            · rw [if_pos h4] at hTd
              simp [go_sem, e3, w5, h0, h1, h2, hod, h4, h24, show IntKind.i64.wrap 23 = 23 from rfl]
              exact ⟨hTd.symm, hKd.symm⟩
            · rw [if_neg h4] at hTd
              simp [go_sem, e3, w5, h0, h1, h2, hod, show ¬ 24 < mdT0 t + 1 by omega]
              exact ⟨hTd.symm, hKd.symm⟩
    · rw [if_neg h0] at hKd
      by_cases h1 : k % 4 = 1
      · rw [h1] at hKd
        rw [hKd, if_neg (by omega), if_pos rfl] at hTd
        unfold oddT at hTd
        by_cases h3 : mdT0 t % 2 = 1
        · rw [if_pos h3] at hod hTd
          simp [go_sem, h0, h1, hod, show ¬ 24 < mdT0 t by omega]
          exact ⟨hTd.symm, hKd.symm⟩
        · rw [if_neg h3] at hod hTd
          by_cases h4 : mdT0 t = 24
          · rw [if_pos h4] at hTd
            simp [go_sem, h0, h1, hod, h4, h24, show IntKind.i64.wrap 23 = 23 from rfl]
            exact ⟨hTd.symm, hKd.symm⟩
          · rw [if_neg h4] at hTd
            simp [go_sem, h0, h1, hod, show ¬ 24 < mdT0 t + 1 by omega]
            exact ⟨hTd.symm, hKd.symm⟩
      · rw [if_neg (by omega), if_neg (by omega)] at hTd
        simp [go_sem, h0, h1, hev, show 1 < k % 4 by omega]
        exact ⟨hTd.symm, hKd.symm⟩
  · rintro ⟨T, K⟩ ⟨hT, hK⟩
    simp only at hT hK
    have hMd : mdM t r k = if mdK t k = 0 then roverM (mdT t k) (mdN t r k) else makeM (mdK t k) (mdT t k) (mdN t r k) := rfl
    have hNd : mdN t r k = 1 + r % max (mostK (mdT t k) (max (mdK t k) 1)) 1 := rfl
    rw [← hT, ← hK] at hMd hNd
    rw [← hT] at hTr
    rw [← hK] at hKr
    have hmx : (if K < 1 then 1 else K) = max K 1 := by rw [Int.max_def]; split <;> split <;> omega
    obtain ⟨J, hJ⟩ : ∃ J, max K 1 = J := ⟨_, rfl⟩
    have hJr : 1 ≤ J ∧ J ≤ 3 := by omega
    rw [hJ] at hmx hNd
    have hmo : mostK T J ≤ 24 := by
      unfold mostK fewK
      split
      · split <;> omega
      · omega
    obtain ⟨M, hM⟩ : ∃ M, mostK T J = M := ⟨_, rfl⟩
    rw [hM] at hNd hmo
    have hmx2 : (if M < 1 then 1 else M) = max M 1 := by rw [Int.max_def]; split <;> split <;> omega
    obtain ⟨M2, hM2⟩ : ∃ M2, max M 1 = M2 := ⟨_, rfl⟩
    have hM2r : 1 ≤ M2 ∧ M2 ≤ 24 := by omega
    rw [hM2] at hmx2 hNd
    have e4 : r.tmod M2 = r % M2 := Int.tmod_eq_emod_of_nonneg (by omega)
    have hm0 : 0 ≤ r % M2 := Int.emod_nonneg _ (by omega)
    have hm1 : r % M2 < M2 := Int.emod_lt_of_pos _ (by omega)
    have w6 : IntKind.i64.wrap (r % M2) = r % M2 := wrap64 (by omega) (by omega)
    have w7 : IntKind.i64.wrap (1 + r % M2) = mdN t r k := by rw [hNd]; exact wrap64 (by omega) (by omega)
    have w8 : IntKind.i64.wrap r = r := wrap64 (by omega) (by omega)
    have hM20 : ¬ M2 = 0 := by omega
    generalize mdN t r k = N at *
    refine IWp.now ?_
    simp [go_sem, hmx]
    refine (most_fun T J (by omega)).callF (by simp [go_sem]) ?_
    rintro _ rfl
    simp [go_sem, hM, hmx2, e4, w6, w7, w8, hM20]
    by_cases hK0 : K = 0
    · rw [if_pos hK0] at hMd
      simp [go_sem, hK0]
      refine (rover_fun T N).callF (by simp [go_sem]) ?_
      rintro _ rfl
      rw [hMd] at hR
      generalize roverM T N = X at *
      simp [go_sem, Mv.v]
      exact hR _ _ _ rfl (by simp [go_sem, Mv.v])
    · rw [if_neg hK0] at hMd
      simp [go_sem, hK0]
      refine (make_fun T N K (by omega)).callF (by simp [go_sem]) ?_
      rintro _ rfl
      rw [hMd] at hR
      generalize makeM K T N = X at *
      simp [go_sem, Mv.v]
      exact hR _ _ _ rfl (by simp [go_sem, Mv.v])
end Go.Idl
