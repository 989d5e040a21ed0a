/-
  Chapter 26: HowellStrong.
-/
import Derived.Test.YtjaefodhiegmmaaC26nS
import Derived.OpenShut
namespace Go.Idl
set_option linter.all false
open Go.Proofs
set_option maxHeartbeats 4000000
set_option maxRecDepth 40000

theorem sL_st (t : Nat) (h1 : 2 ≤ t) (h2 : t ≤ 24) : sL t = stL t := by
  have : 2 ≤ (t : Int) ∧ (t : Int) ≤ 24 := by omega
  unfold sL; rw [if_pos this]
theorem stN_len2 : ∀ t : Nat, t < 25 → 2 ≤ t → (stN t).length = t - 1 := by decide +kernel
theorem mk_st (t : Nat) (r : Int) (h1 : 2 ≤ t) (h2 : t ≤ 24) : makeM t r = fromM (2 * (t : Int) - 1) r (stN t) ∧ makeE t r = fromE (2 * (t : Int) - 1) r (stN t) := by
  have : 2 ≤ (t : Int) ∧ (t : Int) ≤ 24 := by omega
  unfold makeM makeE
  rw [if_pos this, if_pos this, stL_eq h1 h2]
  exact ⟨rfl, rfl⟩

theorem lawStrong_fun (a b : Int) (ha : (Lit.int .u8 a).wf = true) (hb : (Lit.int .u8 b).wf = true) : IFun true Try.prog [] 6 [.int .u8 a, .int .u8 b] (fun v => v = .bool true) := by
  obtain ⟨a0, a1⟩ := Go.bounds_u8 ha
  obtain ⟨b0, b1⟩ := Go.bounds_u8 hb
  refine IFun.of_bodyZ false 5 [5, 6, 7, 8, 9, 10, 11, 12, 13, 14, 15, 16, 18] Try.func6 rfl Try.call6 rfl fun R hR => ?_
  have e1 : IntKind.i64.wrap a = a := wrap64 (by omega) (by omega)
  have e2 : IntKind.i64.wrap b = b := wrap64 (by omega) (by omega)
  have ha3 : a.tmod 23 = a % 23 := Int.tmod_eq_emod_of_nonneg a0
  obtain ⟨t, ht⟩ : ∃ t : Nat, IntKind.i64.wrap (2 + a.tmod 23) = (t : Int) ∧ 2 ≤ t ∧ t ≤ 24 := ⟨(2 + a % 23).toNat, by rw [ha3, wrap64 (by omega) (by omega)]; omega, by omega, by omega⟩
  obtain ⟨ht, t1, t2⟩ := ht
  have e3 : IntKind.i64.wrap (2 * (t : Int)) = 2 * t := wrap64 (by omega) (by omega)
  have e4 : IntKind.i64.wrap (2 * (t : Int) - 1) = 2 * t - 1 := wrap64 (by omega) (by omega)
  have e5 : IntKind.i64.wrap ((t : Int) - 1) = t - 1 := wrap64 (by omega) (by omega)
  have hz : ¬ 2 * (t : Int) - 1 = 0 := by omega
  have hr0 : 0 ≤ b.tmod (2 * (t : Int) - 1) := Int.tmod_nonneg _ b0
  have hr1 : b.tmod (2 * (t : Int) - 1) < 2 * (t : Int) - 1 := Int.tmod_lt_of_pos _ (by omega)
  obtain ⟨r, hr⟩ : ∃ r : Int, IntKind.i64.wrap (1 + b.tmod (2 * (t : Int) - 1)) = r ∧ 1 ≤ r ∧ r ≤ 2 * t - 1 := ⟨_, rfl, by rw [wrap64 (by omega) (by omega)]; omega, by rw [wrap64 (by omega) (by omega)]; omega⟩
  obtain ⟨hr, r1, r2⟩ := hr
  have s := sL_at t t1 t2
  have c := chk_st t t1 t2
  have hp := HP_at t t1 t2 (hpb t) rfl
  have mk := mk_st t r t1 t2
  have hl := stN_len2 t (by omega) t1
  have hfe : fromE (2 * (t : Int) - 1) r (stN t) = 0 := by
    unfold fromE; rw [c.2, if_neg (by simp), if_neg (by omega), if_neg (by omega)]
  simp [go_sem]
  refine awake_fun.callF (by simp [go_sem]) ?_
  rintro _ rfl
  simp [go_sem, e1, e2, ht, e3, e4, e5, hz, hr]
  refine (Prime_c t).callF (by simp [go_sem]) ?_
  rintro _ rfl
  simp [go_sem]
  refine (Starter_c t).callF (by simp [go_sem]) ?_
  rintro _ rfl
  rw [s.1, s.2]
  simp [go_sem, e3, e4]
  refine (Check_c (2 * t - 1) (stN t) (by omega)).callF (by simp [go_sem]) ?_
  rintro _ rfl
  rw [c.1, c.2]
  simp [go_sem]
  refine (Make_c t r).callF (by simp [go_sem]) ?_
  rintro _ rfl
  rw [mk.1, mk.2, hfe]
  simp [go_sem, e3, e4, Mov.v]
  refine (From_c (2 * t - 1) r (stN t) (by omega)).callF (by simp [go_sem]) ?_
  rintro _ rfl
  have w0 : IntKind.i64.wrap 0 = 0 := by decide
  have hll : ((stN t).length : Int) = t - 1 := by rw [hl]; omega
  have hpe : ((if hpb t = true then 2 * (t : Int) - 1 else 0) == 2 * (t : Int) - 1) = hpb t := by
    cases hpb t with
    | true => simp
    | false => simp; omega
  rw [hfe, hp.1, hp.2]
  simp [go_sem, e3, e4, Mov.v, w0, hll, hpe, e5]
  refine (sameMovement_fun (fromM (2 * t - 1) r (stN t)) (fromM (2 * t - 1) r (stN t)) (mk.1 ▸ makeM_len t r) (mk.1 ▸ makeM_len t r)).callF (by simp [go_sem, Mov.v]) ?_
  rintro _ rfl
  simp [go_sem, w0, hll, hpe, e5]
  exact hR _ _ _ rfl (by simp [go_sem])
end Go.Idl
