/-
  Chapter 26: fair f16, walked.
-/
import Derived.Test.YtjaefodhiegmmaaC26nY
import Derived.Test.YtjaefodhiegmmaaIdlP
namespace Go.Idl
set_option linter.all false
open Go.Proofs
set_option maxHeartbeats 8000000
set_option maxRecDepth 40000

theorem fair_fun (m : Mov) (T S C R : Nat) (hT : m.t = T) (hS : m.s = S) (hC : m.c = C) (hR' : m.r = R) (hT0 : 1 ≤ T) (hT1 : T ≤ 24) (hS1 : S ≤ 47) (hC1 : C ≤ 47) (hR1 : R ≤ 47) (hl : m.l.length = R * T) (h : FairL T S C m.l) :
    IFun true Try.prog [] 16 [m.v] (fun v => v = .bool true) := by
  refine IFun.of_bodyZ false 3 [3, 4, 5, 6, 7, 8, 9, 10, 11, 28, 29, 30, 39, 40, 41, 103, 178] Try.func16 rfl Try.call16 rfl fun Q hQ => ?_
  have e1 : IntKind.i64.wrap (2 * (T : Int)) = 2 * T := wrap64 (by omega) (by omega)
  obtain ⟨N1, hN1⟩ : ∃ N1 : Nat, 2 * T + 1 = N1 := ⟨_, rfl⟩
  have e2 : IntKind.i64.wrap (2 * (T : Int) + 1) = (N1 : Int) := by rw [wrap64 (by omega) (by omega)]; omega
  have b4 : N1 * S ≤ 49 * 47 := Nat.mul_le_mul (by omega) (by omega)
  have b5 : N1 * N1 ≤ 49 * 49 := Nat.mul_le_mul (by omega) (by omega)
  have e3 : IntKind.i64.wrap ((N1 : Int) * S) = ((N1 * S : Nat) : Int) := by rw [← Int.natCast_mul]; exact wrap64 (by omega) (by omega)
  have e4 : IntKind.i64.wrap ((N1 : Int) * N1) = ((N1 * N1 : Nat) : Int) := by rw [← Int.natCast_mul]; exact wrap64 (by omega) (by omega)
  obtain ⟨A4, hA4⟩ : ∃ A4 : Nat, N1 * S = A4 := ⟨_, rfl⟩
  obtain ⟨A5, hA5⟩ : ∃ A5 : Nat, N1 * N1 = A5 := ⟨_, rfl⟩
  rw [hA4] at e3 b4
  rw [hA5] at e4 b5
  simp [go_sem, Mov.v, hT, hS, hC, hR', e1, e2, e3, e4]
  refine ⟨by omega, by omega, by decide +kernel, ?_⟩
  rw [ar_rep, ar_rep]
  refine IWp.loopT (α := Nat) (fun r => (⟨false, 221, 3, [3, 4, 5, 6, 7, 8, 9, 10, 11, 28, 29, 30, 39, 40, 41, 103, 178], [], [(1, .ptr 0 1 0 0), (3, .int .i64 (2 * (T : Int))), (4, .sl 6 A4 0 A4 none), (5, .sl 12 A5 0 A5 none), (28, .int .i64 (R : Int)), (29, .int .i64 (r : Int))], []⟩, [.rows 6 [[.int .i64 (T : Int), .int .i64 (R : Int), .int .i64 (S : Int), .int .i64 (C : Int), .int .i64 m.w, .fz 5 (rws m.l)]], .hole, .hole, .hole, .hole, .hole, .rows 1 (ar A4 fun i => .bool (plA S (m.l.take (r * T)) i)), .hole, .hole, .hole, .hole, .hole, .rows 1 (ar A5 fun i => .bool (meA N1 (m.l.take (r * T)) i))]))
    (fun r => r ≤ R) (fun r => R - r) 0 (by simp) (by simp [go_sem, plA, meA]) ?_
  intro r hr
  by_cases hrR : (r : Int) < R
  · simp [go_sem, hrR, e2]
    refine ⟨by omega, by omega, by decide +kernel, ?_⟩
    rw [ar_rep, ar_rep]
    refine IWp.loopT (α := Nat) (fun t => (⟨false, 221, 3, [3, 4, 5, 6, 7, 8, 9, 10, 11, 28, 29, 30, 39, 40, 41, 103, 178], [], [(1, .ptr 0 1 0 0), (3, .int .i64 (2 * (T : Int))), (4, .sl 6 A4 0 A4 none), (5, .sl 12 A5 0 A5 none), (28, .int .i64 (R : Int)), (29, .int .i64 (r : Int)), (6, .int .i64 (r : Int)), (7, .sl 15 N1 0 N1 none), (8, .sl 18 S 0 S none), (39, .int .i64 (T : Int)), (40, .int .i64 (t : Int))], []⟩, [.rows 6 [[.int .i64 (T : Int), .int .i64 (R : Int), .int .i64 (S : Int), .int .i64 (C : Int), .int .i64 m.w, .fz 5 (rws m.l)]], .hole, .hole, .hole, .hole, .hole, .rows 1 (ar A4 fun i => .bool (plA S (m.l.take (r * T + t)) i)), .hole, .hole, .hole, .hole, .hole, .rows 1 (ar A5 fun i => .bool (meA N1 (m.l.take (r * T + t)) i)), .hole, .hole, .rows 1 (ar N1 fun i => .bool (siA ((m.l.take (r * T + t)).drop (r * T)) i)), .hole, .hole, .rows 1 (ar S fun i => .int .i64 ((stA ((m.l.take (r * T + t)).drop (r * T)) i : Nat) : Int))]))
      (fun t => t ≤ T) (fun t => T - t) 0 (by simp) (by simp [go_sem, siA, stA]) ?_
    intro t ht
    by_cases htT : (t : Int) < T
    · have hlt : r * T + t < m.l.length := by
        rw [hl]
        have : (r + 1) * T ≤ R * T := Nat.mul_le_mul_right _ (by omega)
        rw [Nat.add_mul] at this; omega
      obtain ⟨w, hw⟩ : ∃ w, m.l[r * T + t] = w := ⟨_, rfl⟩
      have hg := h r t (by omega) w (by rw [List.getElem?_eq_getElem hlt, hw])
      have hrow : (rws m.l)[r * T + t]?.getD [] = [.int .i64 w.r, .int .i64 w.t, .int .i64 w.n, .int .i64 w.e, .int .i64 w.s] := by rw [rws_at hlt, hw]
      have brT : r * T ≤ 47 * 24 := Nat.mul_le_mul (by omega) (by omega)
      have f1 : IntKind.i64.wrap ((r : Int) * T) = ((r * T : Nat) : Int) := by rw [← Int.natCast_mul]; exact wrap64 (by omega) (by omega)
      have f2 : IntKind.i64.wrap (((r * T : Nat) : Int) + t) = ((r * T + t : Nat) : Int) := by rw [← Int.natCast_add]; exact wrap64 (by omega) (by omega)
      have hsn : m.l.take (r * T + (t + 1)) = m.l.take (r * T + t) ++ [w] := by rw [← Nat.add_assoc, List.take_succ_eq_append_getElem hlt, hw]
      have hsd : (m.l.take (r * T + (t + 1))).drop (r * T) = (m.l.take (r * T + t)).drop (r * T) ++ [w] := by
        rw [hsn, List.drop_append_of_le_length (by simp; omega)]
      generalize hD : m.l.take (r * T + t) = D at hg hsn hsd ⊢
      generalize hE : D.drop (r * T) = E at hg hsd ⊢
      obtain ⟨K, hK⟩ : ∃ K, r * T = K := ⟨_, rfl⟩
      rw [hK] at f1 f2 hrow hlt hsn hsd
      obtain ⟨J, hJ⟩ : ∃ J, K + t = J := ⟨_, rfl⟩
      rw [hJ] at f2 hrow hlt
      obtain ⟨wr, wt, wn, we, ws⟩ := w
      obtain ⟨k1, k2, k3, k4, k5, k6, k7, k8, k9, k10, k11, k12, k13, k14, k15⟩ := hg
      simp only at k1 k2 k3 k4 k5 k6 k7 k8 k9 k10 k11 k12 k13 k14 k15
      rw [hN1] at k12
      obtain ⟨n, rfl⟩ : ∃ n : Nat, wn = n := ⟨wn.toNat, by omega⟩
      obtain ⟨e, rfl⟩ : ∃ e : Nat, we = e := ⟨we.toNat, by omega⟩
      obtain ⟨s, rfl⟩ : ∃ s : Nat, ws = s := ⟨ws.toNat, by omega⟩
      simp only [Int.toNat_natCast] at k10 k11 k12 k13 k14 k15
      have hSp : 0 < S := by omega
      have hnS : n * S + s < A4 := by rw [← hA4]; have : (n + 1) * S ≤ N1 * S := Nat.mul_le_mul_right _ (by omega); rw [Nat.add_mul] at this; omega
      have heS : e * S + s < A4 := by rw [← hA4]; have : (e + 1) * S ≤ N1 * S := Nat.mul_le_mul_right _ (by omega); rw [Nat.add_mul] at this; omega
      obtain ⟨X, hX⟩ : ∃ X, mtI N1 ⟨wr, wt, n, e, s⟩ = X := ⟨_, rfl⟩
      obtain ⟨X1, hX1⟩ : ∃ X1, n * S + s = X1 := ⟨_, rfl⟩
      obtain ⟨X2, hX2⟩ : ∃ X2, e * S + s = X2 := ⟨_, rfl⟩
      obtain ⟨mn, hmn⟩ : ∃ mn, min n e = mn := ⟨_, rfl⟩
      obtain ⟨mx, hmx⟩ : ∃ mx, max n e = mx := ⟨_, rfl⟩
      have hXe : mn * N1 + mx = X := by rw [← hX, ← hmn, ← hmx]; rfl
      have hXA : X < A5 := by
        rw [← hXe, ← hA5]
        have : (mn + 1) * N1 ≤ N1 * N1 := Nat.mul_le_mul_right _ (by omega)
        rw [Nat.add_mul] at this; omega
      obtain ⟨MN, hMN⟩ : ∃ MN, mn * N1 = MN := ⟨_, rfl⟩
      have bMN : MN ≤ 49 * 49 := by rw [← hMN]; exact Nat.mul_le_mul (by omega) (by omega)
      have g1 : IntKind.i64.wrap ((mn : Int) * (N1 : Int)) = (MN : Int) := by rw [← Int.natCast_mul, hMN]; exact wrap64 (by omega) (by omega)
      have g2 : IntKind.i64.wrap ((MN : Int) + (mx : Int)) = (X : Int) := by rw [← hXe, hMN, ← Int.natCast_add]; exact wrap64 (by omega) (by omega)
      have hnS' : n * S ≤ 49 * 47 := Nat.mul_le_mul (by omega) (by omega)
      have heS' : e * S ≤ 49 * 47 := Nat.mul_le_mul (by omega) (by omega)
      obtain ⟨Y1, hY1⟩ : ∃ Y1, n * S = Y1 := ⟨_, rfl⟩
      obtain ⟨Y2, hY2⟩ : ∃ Y2, e * S = Y2 := ⟨_, rfl⟩
      have g3 : IntKind.i64.wrap ((n : Int) * S) = (Y1 : Int) := by rw [← Int.natCast_mul, hY1]; exact wrap64 (by omega) (by omega)
      have g4 : IntKind.i64.wrap ((e : Int) * S) = (Y2 : Int) := by rw [← Int.natCast_mul, hY2]; exact wrap64 (by omega) (by omega)
      have g5 : IntKind.i64.wrap ((Y1 : Int) + s) = (X1 : Int) := by rw [← Int.natCast_add, ← hX1, hY1]; exact wrap64 (by omega) (by omega)
      have g6 : IntKind.i64.wrap ((Y2 : Int) + s) = (X2 : Int) := by rw [← Int.natCast_add, ← hX2, hY2]; exact wrap64 (by omega) (by omega)
      have hst : stA E s < 2000 := by omega
      have g7 : IntKind.i64.wrap ((stA E s : Int) + 1) = (stA E s : Int) + 1 := wrap64 (by omega) (by omega)
      have t3 : ¬ (n : Int) < 1 := by omega
      have t4 : ¬ 2 * (T : Int) < n := by omega
      have t5 : ¬ (e : Int) < 1 := by omega
      have t6 : ¬ 2 * (T : Int) < e := by omega
      have t7 : ¬ (n : Int) = e := by omega
      have t7' : ¬ n = e := by omega
      have t9 : ¬ (S : Int) ≤ s := by omega
      have m1 : (if e < n then (e : Int) else n) = (mn : Int) := by rw [← hmn]; split <;> omega
      have m2 : (if n < e then (e : Int) else n) = (mx : Int) := by rw [← hmx]; split <;> omega
      have l1 : n < N1 := by omega
      have l2 : e < N1 := by omega
      have l3 : s < S := by omega
      rw [hX1] at hnS k10
      rw [hX2] at heS k11
      rw [hX] at k12
      have a1 := ar_at (n := S) (f := fun i => IV.int .i64 (stA E i : Int)) l3
      have htT' : t < T := by omega
      have hwJ : m.l[J] = ⟨wr, wt, n, e, s⟩ := by subst hJ; subst hK; exact hw
      refine yC_cut fun k hk => ?_
      simp [go_sem]
      refine hk _ _ ?_
      clear hk k
      refine yC_cut fun k hk => ?_
      simp [go_sem, htT']
      refine hk _ _ ?_
      clear hk k
      refine yC_cut fun k0 hk0 => ?_
      rw [yC_block]
      refine yC_cut fun k hk => ?_
      simp [go_sem]
      refine hk _ _ ?_
      clear hk k
      refine yC_cut fun k hk => ?_
      simp [go_sem, f1, f2, hlt, hwJ]
      refine hk _ _ ?_
      clear hk k
      refine yC_cut fun k hk => ?_
      have n0 : ¬ n < 1 := by omega
      have n1 : ¬ 2 * T < n := by omega
      have n2 : ¬ e < 1 := by omega
      have n3 : ¬ 2 * T < e := by omega
      have n4 : ¬ S ≤ s := by omega
      simp [go_sem, hwJ, k1, k2, t3, t4, t5, t6, t7, t7', t9, n4]
      refine hk _ _ ?_
      clear hk k
      obtain ⟨c0, hc0⟩ : ∃ c0, stA E s = c0 := ⟨_, rfl⟩
      rw [hc0] at g7 k15
      have k15' : ¬ (C : Int) < (c0 : Int) + 1 := by omega
      refine yC_cut fun k hk => ?_
      simp [go_sem, hwJ, m1, m2, g1, g2, g7, e2, l3, hc0, ar_set, upF_int]
      refine hk _ _ ?_
      clear hk k
      refine yC_cut fun k hk => ?_
      simp [go_sem, g7, l3, hc0, ar_set, upF_int]
      refine hk _ _ ?_
      clear hk k
      refine yC_cut fun k hk => ?_
      have k15'' : c0 + 1 ≤ C := by omega
      simp [go_sem, g3, g4, g5, g6, l1, l2, l3, hnS, heS, hXA, k10, k11, k12, k13, k14, k15']
      refine ⟨by decide +kernel, hk _ _ ?_⟩
      clear hk k
      refine yC_cut fun k hk => ?_
      simp [go_sem, l1, l2, hXA, ar_set, upF_bool]
      refine ⟨by decide +kernel, hk _ _ ?_⟩
      clear hk k
      simp [go_sem, g3, g4, g5, g6, hnS, heS, ar_set, upF_bool]
      refine ⟨by decide +kernel, hk0 _ _ ?_⟩
      clear hk0 k0
      have wt1 : IntKind.i64.wrap ((t : Int) + 1) = (t : Int) + 1 := wrap64 (by omega) (by omega)
      simp [go_sem, wt1]
      refine ⟨t + 1, ⟨by omega, ?_, ?_, ?_, ?_⟩, by omega, by omega⟩
      · rw [hK, hsn, ← hX1, ← hX2]
        congr 1; funext j
        simp [plA, beq_dec, Bool.or_comm, Bool.or_left_comm, Bool.or_assoc]
      · rw [hK, hsn, ← hX]
        congr 1; funext j
        simp [meA, beq_dec, Bool.or_comm]
      · rw [hK, hsd]
        congr 1; funext j
        simp [siA, beq_dec, Bool.or_comm, Bool.or_left_comm, Bool.or_assoc]
      · rw [hK, hsd, ← hc0]
        congr 1; funext j
        simp only [stA, List.countP_append, List.countP_cons, List.countP_nil, beq_dec, Int.toNat_natCast, decide_eq_true_eq]
        by_cases hj : j = s
        · subst hj; simp
        · simp [hj]
    · have hw1 : IntKind.i64.wrap ((r : Int) + 1) = (r : Int) + 1 := wrap64 (by omega) (by omega)
      have htt : t = T := by omega
      simp [go_sem, htT, hw1]
      refine ⟨r + 1, ⟨by omega, ?_, ?_⟩, by omega, by omega⟩
      · rw [Nat.add_mul, Nat.one_mul, htt]
      · rw [Nat.add_mul, Nat.one_mul, htt]
  · have hrr : r = R := by omega
    subst hrr
    have hTR : T * r ≤ 24 * 47 := Nat.mul_le_mul (by omega) (by omega)
    have w9 : IntKind.i64.wrap ((T : Int) * r) = ((T * r : Nat) : Int) := by rw [← Int.natCast_mul]; exact wrap64 (by omega) (by omega)
    simp [go_sem, hrR, w9, hl]
    have : ((r : Int) * T == (T : Int) * r) = true := by rw [Int.mul_comm]; simp
    rw [this]
    exact hQ _ _ _ rfl (by simp [go_sem])
end Go.Idl
