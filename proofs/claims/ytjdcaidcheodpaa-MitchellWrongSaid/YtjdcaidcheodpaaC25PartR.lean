/-
  Chapter 25: MitchellWrong.
-/
import Derived.Test.YtjdcaidcheodpaaC25PartN
namespace Go.Idl
set_option linter.all false
open Go.Proofs
set_option maxHeartbeats 8000000
set_option maxRecDepth 40000

theorem findE_far {T k : Int} (h : T < 2 ∨ 24 < T) : findE T k = 2 := by unfold findE; rw [if_pos (by omega)]
theorem makeE_far {k T n : Int} (h : T < 2 ∨ 24 < T) : makeE k T n = 2 := by unfold makeE; rw [if_pos (by rw [findE_far h]; decide), findE_far h]
theorem makeM_bad {k T n : Int} (h : makeE k T n ≠ 0) : makeM k T n = mvZ := by unfold makeM; rw [if_neg h]
theorem findE_kind {T k : Int} (h : 4 ≤ k) : findE T k = 2 := by unfold findE; rw [if_pos (by omega)]
theorem makeE_kind {k T n : Int} (h : 4 ≤ k) : makeE k T n = 2 := by unfold makeE; rw [if_pos (by rw [findE_kind h]; decide), findE_kind h]
theorem findE_par {T k : Int} (h2 : 2 ≤ T ∧ T ≤ 24) (hk : (k = 1 ∧ T % 2 = 0) ∨ ((k = 2 ∨ k = 3) ∧ T % 2 = 1)) : findE T k = 6 := by
  unfold findE
  rw [if_neg (by omega), if_neg]
  unfold evenK
  rcases hk with ⟨rfl, h⟩ | ⟨rfl | rfl, h⟩ <;> simp [h]
theorem makeE_par {k T n : Int} (h2 : 2 ≤ T ∧ T ≤ 24) (hk : (k = 1 ∧ T % 2 = 0) ∨ ((k = 2 ∨ k = 3) ∧ T % 2 = 1)) : makeE k T n = 6 := by unfold makeE; rw [if_pos (by rw [findE_par h2 hk]; decide), findE_par h2 hk]
theorem rover_three {T : Int} (h2 : 2 ≤ T ∧ T ≤ 24) (h : T % 2 = 1) (h3 : T % 3 = 0) : roverE T 1 = 6 ∧ roverM T 1 = mvZ := by
  have he : roverE T 1 = 6 := by
    unfold roverE
    rw [if_neg (by simp [findE_dsg (k := 1) (T := T) ⟨.inl ⟨rfl, h⟩, h2.1⟩ h2.2]), if_pos h3]
  refine ⟨he, ?_⟩
  unfold roverM
  rw [if_neg (by rw [he]; decide)]
theorem mitchellWrong_fun (n t r k : Int) (hn : -2 ^ 63 ≤ n ∧ n < 2 ^ 63) (ht : 0 ≤ t ∧ t < 256) (hr : 0 ≤ r ∧ r < 256) (hk : 0 ≤ k ∧ k < 256) : FN 9 [.int .i64 n, .int .u8 t, .int .u8 r, .int .u8 k] (fun v => v = .bool true) := by
  refine IFun.of_bodyW false 35 [36, 47, 71, 96, 97, 98, 99, 105, 120, 124, 164, 175] Try.func9 rfl Try.call9 rfl fun R hR => ?_
  refine IWp.seqI ?_
  simp [go_sem]
  refine IWp.seqI ?_
  simp [go_sem]
  refine awake_fun25.callF (by simp [go_sem]) ?_
  rintro _ rfl
  simp [go_sem]
  refine IWp.seqI ?_
  simp [go_sem]
  refine (made_fun t r k ht hr hk).callM (by simp [go_sem]) ?_
  rintro _ rfl
  obtain ⟨T, N, hM, _, _, hK, _⟩ := made_is (t := t) (r := r) (k := k) ht.1 hr.1 hk.1
  obtain ⟨h1, h2, h3, h4, h5, h6⟩ := hM.head
  have hlen := hM.len
  have hle := hM.le
  have hT2 := hM.dsg.2
  have hF := hM.fair
  generalize mdM t r k = M at *
  obtain ⟨ta, ro, se, co, wi, L⟩ := M
  simp only at h1 h2 h3 h4 h5 h6 hlen hF
  subst h1 h2 h3 h4
  have hrng := hF.rng
  simp [go_sem, Mv.v]
  refine IWp.seqI ?_
  simp [go_sem]
  refine IWp.seqT (α := Int) (fun f => (⟨false, 210, 35, [36, 47, 71, 96, 97, 98, 99, 105, 120, 124, 164, 175], [], [(0, .int .i64 n), (3, .int .u8 k), (9, .ptr 0 1 0 0), (10, .int .i64 f)], []⟩, [.rows 6 [[.int .i64 T, .int .i64 N, .int .i64 T, .int .i64 co, .int .i64 2, .fz 5 (rws L)]]])) (fun f => f < 2 ∨ 24 < f) ?_ ?_
  · by_cases h : 2 ≤ n
    · by_cases h' : n ≤ 24
      · have w : IntKind.i64.wrap (24 + n) = 24 + n := wrap64 (by omega) (by omega)
        simp [go_sem, h, h', w]
        omega
      · simp [go_sem, h, h']
        omega
    · simp [go_sem, h]
      omega
  intro f hf
  have e1 : k.tmod 3 = k % 3 := Int.tmod_eq_emod_of_nonneg hk.1
  have e2 : k.tmod 252 = k % 252 := Int.tmod_eq_emod_of_nonneg hk.1
  have e3 : k.tmod 2 = k % 2 := Int.tmod_eq_emod_of_nonneg hk.1
  have v1 : IntKind.u8.wrap (k % 3) = k % 3 := by rw [IntKind.wrap_u8]; omega
  have v2 : IntKind.u8.wrap (1 + k % 3) = 1 + k % 3 := by rw [IntKind.wrap_u8]; omega
  have v3 : IntKind.u8.wrap (k % 252) = k % 252 := by rw [IntKind.wrap_u8]; omega
  have v4 : IntKind.u8.wrap (4 + k % 252) = 4 + k % 252 := by rw [IntKind.wrap_u8]; omega
  have v5 : IntKind.u8.wrap (k % 2) = k % 2 := by rw [IntKind.wrap_u8]; omega
  have v6 : IntKind.u8.wrap (2 + k % 2) = 2 + k % 2 := by rw [IntKind.wrap_u8]; omega
  have t1 : (T : Int).tmod 2 = T % 2 := Int.tmod_eq_emod_of_nonneg (by omega)
  have t2 : (T : Int).tmod 4 = T % 4 := Int.tmod_eq_emod_of_nonneg (by omega)
  have u1 : IntKind.i64.wrap ((T : Int) % 2) = T % 2 := wrap64 (by omega) (by omega)
  have u2 : IntKind.i64.wrap ((T : Int) % 4) = T % 4 := wrap64 (by omega) (by omega)
  have u3 : IntKind.i64.wrap (2 * ((T : Int) % 4)) = 2 * ((T : Int) % 4) := wrap64 (by omega) (by omega)
  have u4 : IntKind.i64.wrap (1 + 2 * ((T : Int) % 4)) = 1 + 2 * ((T : Int) % 4) := wrap64 (by omega) (by omega)
  have u5 : IntKind.i64.wrap (3 * (1 + 2 * ((T : Int) % 4))) = 3 * (1 + 2 * ((T : Int) % 4)) := wrap64 (by omega) (by omega)
  obtain ⟨T3, hT3⟩ : ∃ T3, 3 * (1 + 2 * ((T : Int) % 4)) = T3 := ⟨_, rfl⟩
  rw [hT3] at u5
  have r3 := rover_three (T := T3) (by omega) (by omega) (by omega)
  -- zero
  refine IWp.seqI ?_
  simp [go_sem]
  refine IWp.seqI ?_
  simp [go_sem, e1, v1, v2]
  refine (make_fun f 1 (1 + k % 3) (by omega)).callF (by simp [go_sem]) ?_
  rintro _ rfl
  rw [makeE_far hf, makeM_bad (by rw [makeE_far hf]; decide)]
  simp [go_sem, mvZ, Mv.v]
  refine IWp.seqI ?_
  simp [go_sem, e2, v3, v4]
  refine (make_fun T 1 (4 + k % 252) (by omega)).callF (by simp [go_sem]) ?_
  rintro _ rfl
  rw [makeE_kind (by omega), makeM_bad (by rw [makeE_kind (by omega)]; decide)]
  simp [go_sem, mvZ, Mv.v]
  refine IWp.seqI ?_
  simp [go_sem]
  obtain ⟨Z, hZ⟩ : ∃ Z : IObj, Z = .rows 6 [[.int .i64 0, .int .i64 0, .int .i64 0, .int .i64 0, .int .i64 0, .fz 5 []]] := ⟨_, rfl⟩
  refine IWp.seqT (α := Int) (fun o => (⟨false, 210, 35, [36, 47, 71, 96, 97, 98, 99, 105, 120, 124, 164, 175], [], [(0, .int .i64 n), (3, .int .u8 k), (9, .ptr 0 1 0 0), (11, .ptr 1 1 0 0), (12, .ptr 2 1 0 0), (13, .int .i64 2), (14, .ptr 3 1 0 0), (15, .int .i64 2), (16, .int .u8 o)], []⟩, [.rows 6 [[.int .i64 T, .int .i64 N, .int .i64 T, .int .i64 co, .int .i64 2, .fz 5 (rws L)]], .rows 6 [[.int .i64 0, .int .i64 0, .int .i64 0, .int .i64 0, .int .i64 0, .nils]], .rows 6 [[.int .i64 0, .int .i64 0, .int .i64 0, .int .i64 0, .int .i64 0, .fz 5 []]], .rows 6 [[.int .i64 0, .int .i64 0, .int .i64 0, .int .i64 0, .int .i64 0, .fz 5 []]]])) (fun o => (o = 1 ∧ (T : Int) % 2 = 0) ∨ ((o = 2 ∨ o = 3) ∧ (T : Int) % 2 = 1)) ?_ ?_
  · by_cases h : (T : Int) % 2 = 1
    · simp [go_sem, t1, u1, h, e3, v5, v6]
      omega
    · simp [go_sem, t1, u1, h]
      omega
  intro o ho
  refine IWp.seqI ?_
  simp [go_sem]
  refine (make_fun T 1 o (by omega)).callF (by simp [go_sem]) ?_
  rintro _ rfl
  rw [makeE_par (by omega) ho, makeM_bad (by rw [makeE_par (by omega) ho]; decide)]
  simp [go_sem, mvZ, Mv.v]
  refine IWp.seqI ?_
  simp [go_sem, t2, u2, u3, u4, hT3, u5]
  refine (rover_fun T3 1).callF (by simp [go_sem]) ?_
  rintro _ rfl
  rw [r3.1, r3.2]
  simp [go_sem, mvZ, Mv.v]
  have cz := sameMovement_fun mvZ mvZ (by decide)
  simp only [mvZ, Mv.v, decide_true, rws_nil] at cz
  -- all four are zero
  refine IWp.seqI ?_
  simp [go_sem]
  refine IWp.loopT (α := Nat) (fun i => (⟨false, 210, 35, [36, 47, 71, 96, 97, 98, 99, 105, 120, 124, 164, 175], [], [(0, .int .i64 n), (3, .int .u8 k), (9, .ptr 0 1 0 0), (11, .ptr 1 1 0 0), (13, .int .i64 2), (15, .int .i64 2), (18, .int .i64 6), (20, .int .i64 6), (96, .sl 6 4 0 4 none), (97, .int .i64 4), (98, .int .i64 (i : Int))], []⟩,
      [.rows 6 [[.int .i64 T, .int .i64 N, .int .i64 T, .int .i64 co, .int .i64 2, .fz 5 (rws L)]], .rows 6 [[.int .i64 0, .int .i64 0, .int .i64 0, .int .i64 0, .int .i64 0, .nils]], .dead, .dead, .dead, .dead, .rows 6 (List.replicate 4 [.int .i64 0, .int .i64 0, .int .i64 0, .int .i64 0, .int .i64 0, .fz 5 []])]))
    (fun i => i ≤ 4) (fun i => 4 - i) 0 (by simp) (by simp [go_sem, List.replicate]) ?_
  intro i hi
  by_cases h : i < 4
  · have wi : IntKind.i64.wrap ((i : Int) + 1) = i + 1 := wrap64 (by omega) (by omega)
    have hI : (i : Int) < 4 := by omega
    rcases (by omega : i = 0 ∨ i = 1 ∨ i = 2 ∨ i = 3) with rfl | rfl | rfl | rfl
    all_goals
      simp [go_sem]
      refine cz.callF (by simp [go_sem]) ?_
      rintro _ rfl
      simp [go_sem]
    · exact ⟨1, rfl, by omega, by omega⟩
    · exact ⟨2, rfl, by omega, by omega⟩
    · exact ⟨3, rfl, by omega, by omega⟩
    · exact ⟨4, rfl, by omega, by omega⟩
  have : i = 4 := by omega
  subst this
  clear h hi
  simp [go_sem]
  refine IWp.seqI ?_
  simp [go_sem]
  refine IWp.seqI ?_
  simp [go_sem]
  -- the right kind
  refine IWp.seqT (α := Int) (fun q => (⟨false, 210, 35, [36, 47, 71, 96, 97, 98, 99, 105, 120, 124, 164, 175], [], [(0, .int .i64 n), (9, .ptr 0 1 0 0), (11, .ptr 1 1 0 0), (23, .int .u8 q)], []⟩,
      [.rows 6 [[.int .i64 T, .int .i64 N, .int .i64 T, .int .i64 co, .int .i64 2, .fz 5 (rws L)]], .rows 6 [[.int .i64 0, .int .i64 0, .int .i64 0, .int .i64 0, .int .i64 0, .nils]], .dead, .dead, .dead, .dead, .dead])) (fun q => Dsg q T) ?_ ?_
  · by_cases h : (T : Int) % 2 = 0
    · simp [go_sem, t1, u1, h, e3, v5, v6]
      exact ⟨by omega, by omega⟩
    · simp [go_sem, t1, u1, h]
      exact ⟨by omega, by omega⟩
  intro q hq
  have hq2 : q = 1 ∨ q = 2 ∨ q = 3 := by have := hq.1; omega
  have hmost : mostK T q = T - fewK q := by unfold mostK; rw [if_pos (findE_dsg hq (by omega))]
  have hfew : fewK q = 0 ∨ fewK q = 1 := by unfold fewK; split <;> simp
  have w1 : IntKind.i64.wrap ((T : Int) - fewK q + 1) = T - fewK q + 1 := wrap64 (by omega) (by omega)
  obtain ⟨big, hbig⟩ : ∃ big, (if n < (T : Int) - fewK q + 1 then (T : Int) - fewK q + 1 else n) = big := ⟨_, rfl⟩
  obtain ⟨sml, hsml⟩ : ∃ sml, (if 0 < n then 0 else n) = sml := ⟨_, rfl⟩
  have hb1 : T - fewK q < big := by rw [← hbig]; split <;> omega
  have hs1 : sml < 1 := by rw [← hsml]; split <;> omega
  have eb : makeE q T big = 5 := by unfold makeE; rw [if_neg (by simp [findE_dsg hq (by omega)]), if_neg (by omega), if_pos (by omega)]
  have es : makeE q T sml = 2 := by unfold makeE; rw [if_neg (by simp [findE_dsg hq (by omega)]), if_pos (by omega)]
  refine IWp.seqI ?_
  simp [go_sem]
  refine (most_fun T q (by omega)).callF (by simp [go_sem]) ?_
  rintro _ rfl
  rw [hmost, findE_dsg hq (by omega)]
  simp [go_sem]
  refine IWp.seqI ?_
  simp [go_sem, w1, hbig]
  refine (make_fun T big q (by omega)).callF (by simp [go_sem]) ?_
  rintro _ rfl
  rw [eb, makeM_bad (by rw [eb]; decide)]
  simp [go_sem, mvZ, Mv.v]
  refine IWp.seqI ?_
  simp [go_sem, hsml]
  refine (make_fun T sml q (by omega)).callF (by simp [go_sem]) ?_
  rintro _ rfl
  rw [es, makeM_bad (by rw [es]; decide)]
  simp [go_sem, mvZ, Mv.v]
  refine IWp.seqI ?_
  simp [go_sem]
  refine IWp.seqI ?_
  simp [go_sem]
  have x1 : IntKind.i64.wrap (2 * (T : Int)) = 2 * T := wrap64 (by omega) (by omega)
  have x2 : IntKind.i64.wrap (2 * (T : Int) + 1) = 2 * T + 1 := wrap64 (by omega) (by omega)
  refine IWp.seqT (α := Int) (fun p => (⟨false, 210, 35, [36, 47, 71, 96, 97, 98, 99, 105, 120, 124, 164, 175], [], [(9, .ptr 0 1 0 0), (11, .ptr 1 1 0 0), (30, .int .i64 p)], []⟩,
      [.rows 6 [[.int .i64 T, .int .i64 N, .int .i64 T, .int .i64 co, .int .i64 2, .fz 5 (rws L)]], .rows 6 [[.int .i64 0, .int .i64 0, .int .i64 0, .int .i64 0, .int .i64 0, .nils]], .dead, .dead, .dead, .dead, .dead, .dead, .dead])) (fun p => p < 1 ∨ 2 * T + 1 < p) ?_ ?_
  · by_cases h : 1 ≤ n
    · by_cases h' : n ≤ 2 * T + 1
      · have x3 : IntKind.i64.wrap (n + (2 * (T : Int) + 1)) = n + (2 * T + 1) := wrap64 (by omega) (by omega)
        simp [go_sem, h, h', x1, x2, x3]
        omega
      · simp [go_sem, h, h', x1, x2]
        omega
    · simp [go_sem, h]
      omega
  intro p hp
  have hno : ∀ x ∈ L, p < 1 ∨ (x.ns ≠ p ∧ x.ew ≠ p) := fun x hx => by have := hrng x hx; omega
  have hwo : woE p ⟨T, N, T, co, 2, L⟩ = 6 := by
    unfold woE
    rw [if_neg]
    rintro ⟨h, hh⟩
    unfold hasP' at hh
    obtain ⟨x, hx, hp2⟩ := List.any_eq_true.1 hh
    have := hno x hx
    simp at hp2
    omega
  have hwh : wheR L 0 p = none := by
    unfold wheR
    split
    · rfl
    · rw [List.find?_eq_none]
      intro x hx
      have := hno x hx
      simp [whC]
      omega
  have cw := without_fun ⟨T, N, T, co, 2, L⟩ p (by simp; omega)
  have ch := where_fun ⟨T, N, T, co, 2, L⟩ 0 p (by simp; omega)
  rw [hwo, show woM p ⟨T, N, T, co, 2, L⟩ = mvZ by unfold woM; rw [if_neg (by rw [hwo]; decide)]] at cw
  simp only [hwh, whV, Option.getD_none, Option.isSome_none, zRw, Rw.v] at ch
  simp only [Mv.v, mvZ, rws_nil] at cw ch
  refine IWp.seqI ?_
  simp [go_sem]
  refine cw.callF (by simp [go_sem]) ?_
  rintro _ rfl
  simp [go_sem]
  refine IWp.seqI ?_
  simp [go_sem]
  refine ch.callF (by simp [go_sem]) ?_
  rintro _ rfl
  simp [go_sem]
  refine IWp.now ?_
  simp [go_sem]
  refine cz.callF (by simp [go_sem]) ?_
  rintro _ rfl
  simp [go_sem]
  refine hR _ _ _ rfl (by simp [go_sem])
theorem mitchellWrong_law (n t r k : Int) (h : (Lit.int .i64 n).wf = true) (h0 : (Lit.int .u8 t).wf = true) (h1 : (Lit.int .u8 r).wf = true) (h2 : (Lit.int .u8 k).wf = true) : FN 9 [.int .i64 n, .int .u8 t, .int .u8 r, .int .u8 k] (fun v => v = .bool true) := mitchellWrong_fun n t r k (wf64 h) (wf8 h0) (wf8 h1) (wf8 h2)
end Go.Idl
