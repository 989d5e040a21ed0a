/-
  Chapter 26: HowellMeets.
-/
import Derived.Test.YtjaefodhiegmmaaC26nZ
import Derived.Test.YtjaefodhiegmmaaC26nAA
import Derived.Test.YtjaefodhiegmmaaC26nW
namespace Go.Idl
set_option linter.all false
open Go.Proofs
set_option maxHeartbeats 4000000
set_option maxRecDepth 40000

theorem rowsL_split (n T : Int) (l : List (Int × Int)) (R : Nat) : ∀ j : Nat, ∃ X, rowsL n T l (R + j) = rowsL n T l R ++ X
  | 0 => ⟨[], by simp⟩
  | j + 1 => by
    obtain ⟨X, hX⟩ := rowsL_split n T l R j
    exact ⟨X ++ innL n T l (R + j) l.length, by rw [← Nat.add_assoc, rowsL_succ, hX, List.append_assoc]⟩
theorem rowsL_take (n T : Int) (l : List (Int × Int)) {R R' : Nat} (h : R ≤ R') : (rowsL n T l R').take (R * (l.length + 1)) = rowsL n T l R := by
  obtain ⟨X, hX⟩ := rowsL_split n T l R (R' - R)
  rw [show R + (R' - R) = R' by omega] at hX
  rw [hX, ← rowsL_length n T l R, List.take_left']
  rfl

theorem lawMeets_fun (a b : Int) (ha : (Lit.int .u8 a).wf = true) (hb : (Lit.int .u8 b).wf = true) : IFun true Try.prog [] 5 [.int .u8 a, .int .u8 b] (fun v => v = .bool true) := by
  obtain ⟨a0, a1⟩ := Go.bounds_u8 ha
  obtain ⟨b0, b1⟩ := Go.bounds_u8 hb
  refine IFun.of_bodyZ false 5 [5, 6, 7, 9, 10, 11, 12, 13, 15, 95, 103] Try.func5 rfl Try.call5 rfl fun R hR => ?_
  have e1 : IntKind.i64.wrap a = a := wrap64 (by omega) (by omega)
  have e2 : IntKind.i64.wrap b = b := wrap64 (by omega) (by omega)
  have ha3 : a.tmod 23 = a % 23 := Int.tmod_eq_emod_of_nonneg a0
  obtain ⟨t, ht⟩ : ∃ t : Nat, IntKind.i64.wrap (2 + a.tmod 23) = (t : Int) ∧ 2 ≤ t ∧ t ≤ 24 := ⟨(2 + a % 23).toNat, by rw [ha3, wrap64 (by omega) (by omega)]; omega, by omega, by omega⟩
  obtain ⟨ht, t1, t2⟩ := ht
  have e3 : IntKind.i64.wrap (2 * (t : Int)) = 2 * t := wrap64 (by omega) (by omega)
  have e4 : IntKind.i64.wrap (2 * (t : Int) - 1) = 2 * t - 1 := wrap64 (by omega) (by omega)
  have hz : ¬ 2 * (t : Int) - 1 = 0 := by omega
  have hr0 : 0 ≤ b.tmod (2 * (t : Int) - 1) := Int.tmod_nonneg _ b0
  have hr1 : b.tmod (2 * (t : Int) - 1) < 2 * (t : Int) - 1 := Int.tmod_lt_of_pos _ (by omega)
  obtain ⟨r, hr⟩ : ∃ r : Nat, IntKind.i64.wrap (1 + b.tmod (2 * (t : Int) - 1)) = (r : Int) ∧ 1 ≤ r ∧ (r : Int) ≤ 2 * t - 1 := ⟨(1 + b.tmod (2 * (t : Int) - 1)).toNat, by rw [wrap64 (by omega) (by omega)]; omega, by omega, by omega⟩
  obtain ⟨hr, r1, r2⟩ := hr
  have c := chk_st t t1 t2
  have hp := HP_at t t1 t2 (hpb t) rfl
  obtain ⟨bad, hl, hg, hst⟩ := stN_good t (by omega) t1
  have hl2 := stN_len2 t (by omega) t1
  have m1 := make_at t r t1 t2 c.2 (by omega) r2
  have m2 := make_at t (2 * t - 1) t1 t2 c.2 (by omega) (by omega)
  have hT : ((2 * (t : Int) - 1) + 1).tdiv 2 = t := by rw [Int.tdiv_eq_ediv_of_nonneg (by omega)]; omega
  obtain ⟨C, hC⟩ : ∃ C : Nat, (if hpb t = true then 1 else t) = C := ⟨_, rfl⟩
  have hC2 : (if hpb t = true then (1 : Int) else (t : Int)) = C := by rw [← hC]; split <;> rfl
  have hC3 : (Str (2 * (t : Int) - 1) (stN t) ∧ C = 1) ∨ C = t := by
    rw [← hC]
    cases hh : hpb t with
    | true => rw [hh] at hst; exact .inl ⟨of_decide_eq_true hst, rfl⟩
    | false => exact .inr rfl
  have hCb : C ≤ 47 := by rw [← hC]; split <;> omega
  have v1 : makeM t r = ⟨t, r, 2 * t - 1, C, 1, rowsL (2 * t - 1) t (stN t) r⟩ := by
    rw [m1.1, movOf, hT, c.1, hC2]; rfl
  have hN : ((2 * t - 1 : Nat) : Int) = 2 * t - 1 := by omega
  have v2 : makeM t (2 * t - 1) = ⟨t, 2 * t - 1, 2 * t - 1, C, 1, rowsL (2 * t - 1) t (stN t) (2 * t - 1)⟩ := by
    rw [m2.1, movOf, hT, c.1, hC2]
    congr 1
    congr 1
    omega
  have f1 := fair_mov (n := 2 * (t : Int) - 1) (T := t) (l := stN t) (R := r) (C := C) (by omega) (by omega) hg r2 hC3
  have f2 := fair_mov (n := 2 * (t : Int) - 1) (T := t) (l := stN t) (R := 2 * t - 1) (C := C) (by omega) (by omega) hg (by omega) hC3
  have hn0 : (2 * (t : Int) - 1).toNat = 2 * t - 1 := by omega
  rw [hn0] at f1 f2
  have len1 := rowsL_length (2 * (t : Int) - 1) t (stN t) r
  have len2 := rowsL_length (2 * (t : Int) - 1) t (stN t) (2 * t - 1)
  rw [show (stN t).length + 1 = t by omega] at len1 len2
  have htk := rowsL_take (2 * (t : Int) - 1) t (stN t) (R := r) (R' := 2 * t - 1) (by omega)
  rw [show (stN t).length + 1 = t by omega] at htk
  have g1 := fair_fun ⟨t, r, 2 * t - 1, C, 1, rowsL (2 * t - 1) t (stN t) r⟩ t (2 * t - 1) C r rfl hN.symm rfl rfl (by omega) t2 (by omega) hCb (by omega) len1 f1
  have g2 := fair_fun ⟨t, 2 * t - 1, 2 * t - 1, C, 1, rowsL (2 * t - 1) t (stN t) (2 * t - 1)⟩ t (2 * t - 1) C (2 * t - 1) rfl hN.symm rfl hN.symm (by omega) t2 (by omega) hCb (by omega) len2 f2
  generalize rowsL (2 * (t : Int) - 1) t (stN t) r = L1 at *
  generalize rowsL (2 * (t : Int) - 1) t (stN t) (2 * t - 1) = L2 at *
  obtain ⟨N, hN'⟩ : ∃ N : Int, 2 * (t : Int) - 1 = N := ⟨_, rfl⟩
  have e4 : IntKind.i64.wrap (2 * (t : Int) - 1) = N := by rw [e4]; exact hN'
  rw [hN'] at v1 v2 g1 g2 m1 m2 hr hz
  have w0 : IntKind.i64.wrap 0 = 0 := by decide
  have hCt : (hpb t != ((C : Int) == 1)) = false := by
    rw [← hC]
    cases hpb t with
    | true => rfl
    | false =>
      simp only [Bool.false_eq_true, if_false]
      have : ((t : Int) == 1) = false := by rw [beq_eq_false_iff_ne]; omega
      rw [this]; rfl
  simp [go_sem]
  refine awake_fun.callF (by simp [go_sem]) ?_
  rintro _ rfl
  simp [go_sem, e1, e2, ht, e3, e4, hz, hr]
  refine (Prime_c t).callF (by simp [go_sem]) ?_
  rintro _ rfl
  simp [go_sem]
  refine (Make_c t r).callF (by simp [go_sem]) ?_
  rintro _ rfl
  rw [v1, m1.2]
  simp [go_sem, Mov.v]
  refine (Make_c t N).callF (by simp [go_sem]) ?_
  rintro _ rfl
  rw [v2, m2.2, hp.1]
  simp [go_sem, Mov.v, w0, hCt]
  have hCC : ¬ (hpb t = false ∧ ¬ (C : Int) = t) := by
    rintro ⟨h1, h2⟩
    rw [h1] at hC
    simp at hC
    omega
  rw [if_neg hCC]
  refine g1.callF (by simp [go_sem, Mov.v]) ?_
  rintro _ rfl
  simp [go_sem, Mov.v]
  refine g2.callF (by simp [go_sem, Mov.v]) ?_
  rintro _ rfl
  have b1 : r * t ≤ 47 * 24 := Nat.mul_le_mul (by omega) (by omega)
  have b2 : r * t ≤ (2 * t - 1) * t := Nat.mul_le_mul_right _ (by omega)
  have e5 : IntKind.i64.wrap ((r : Int) * t) = ((r * t : Nat) : Int) := by rw [← Int.natCast_mul]; exact wrap64 (by omega) (by omega)
  obtain ⟨K, hK⟩ : ∃ K, r * t = K := ⟨_, rfl⟩
  rw [hK] at b1 b2 htk e5
  have len2' : L2.length = (2 * t - 1) * t := len2
  have hKl : K ≤ L2.length := by omega
  have hrw : List.take K (rws L2) = rws L1 := by rw [← htk]; exact mp_take.symm
  have hNt : N * t ≤ 47 * 24 ∧ 0 ≤ N * t := by
    have h1 : ((2 * t - 1 : Nat) : Int) = N := by omega
    have h2 : (2 * t - 1) * t ≤ 47 * 24 := Nat.mul_le_mul (by omega) (by omega)
    rw [← h1, ← Int.natCast_mul]
    omega
  obtain ⟨Y, hY⟩ : ∃ Y, N * (t : Int) = Y := ⟨_, rfl⟩
  rw [hY] at hNt
  have e6 : IntKind.i64.wrap (N * t) = Y := by rw [hY]; exact wrap64 (by omega) (by omega)
  have e7 : IntKind.i64.wrap (2 * (t : Int) * N) = 2 * Y := by
    rw [show 2 * (t : Int) * N = 2 * (N * t) by rw [Int.mul_assoc, Int.mul_comm (t : Int) N], hY]; exact wrap64 (by omega) (by omega)
  have e8 : IntKind.i64.wrap ((2 * Y).tdiv 2) = Y := by
    have : (2 * Y).tdiv 2 = Y := by rw [Int.tdiv_eq_ediv_of_nonneg (by omega)]; omega
    rw [this]; exact wrap64 (by omega) (by omega)
  have e9 : IntKind.i64.wrap Y = Y := wrap64 (by omega) (by omega)
  simp [go_sem, Mov.v, e5, hKl, hrw, e3, e4, e6, e7, e8, e9]
  refine ⟨by decide +kernel, ?_⟩
  have hll : L1.length < 2 ^ 32 := by rw [len1]; omega
  refine (sameMovement_fun ⟨t, r, N, C, 1, L1⟩ ⟨t, r, N, C, 1, L1⟩ hll hll).callF (by simp [go_sem, Mov.v]) ?_
  rintro _ rfl
  simp [go_sem]
  exact hR _ _ _ rfl (by simp [go_sem])
end Go.Idl
