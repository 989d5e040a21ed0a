/-
  Chapter 26: HowellFrom.
-/
import Derived.Test.YtjaefodhiegmmaaC26nZ
import Derived.Test.YtjaefodhiegmmaaC26nAC
import Derived.Test.YtjaefodhiegmmaaC26nW
namespace Go.Idl
set_option linter.all false
open Go.Proofs
set_option maxHeartbeats 4000000
set_option maxRecDepth 40000

theorem lawFrom_fun (a b c d : Int) (ha : (Lit.int .u8 a).wf = true) (hb : (Lit.int .u8 b).wf = true) (hc : (Lit.int .u8 c).wf = true) (hd : (Lit.int .u32 d).wf = true) : IFun true Try.prog [] 7 [.int .u8 a, .int .u8 b, .int .u8 c, .int .u32 d] (fun v => v = .bool true) := by
  obtain ⟨a0, a1⟩ := Go.bounds_u8 ha
  obtain ⟨b0, b1⟩ := Go.bounds_u8 hb
  obtain ⟨c0, c1⟩ := Go.bounds_u8 hc
  refine IFun.of_bodyZ false 9 [9, 10, 11, 12, 13, 14, 15, 16, 17, 18, 19, 20, 21, 22, 24, 52, 56, 57, 58, 75] Try.func7 rfl Try.call7 rfl fun R hR => ?_
  have e1 : IntKind.i64.wrap a = a := wrap64 (by omega) (by omega)
  have e2 : IntKind.i64.wrap b = b := wrap64 (by omega) (by omega)
  have e2' : IntKind.i64.wrap c = c := wrap64 (by omega) (by omega)
  have ha3 : a.tmod 23 = a % 23 := Int.tmod_eq_emod_of_nonneg a0
  obtain ⟨t, ht⟩ : ∃ t : Nat, IntKind.i64.wrap (2 + a.tmod 23) = (t : Int) ∧ 2 ≤ t ∧ t ≤ 24 := ⟨(2 + a % 23).toNat, by rw [ha3, wrap64 (by omega) (by omega)]; omega, by omega, by omega⟩
  obtain ⟨ht, t1, t2⟩ := ht
  have e3 : IntKind.i64.wrap (2 * (t : Int)) = 2 * t := wrap64 (by omega) (by omega)
  have s := sL_at t t1 t2
  have ch := chk_st t t1 t2
  obtain ⟨bad, hl, hg, hst⟩ := stN_good t (by omega) t1
  have hl2 := stN_len2 t (by omega) t1
  obtain ⟨N, hN⟩ : ∃ N : Nat, 2 * t - 1 = N := ⟨_, rfl⟩
  have hN' : 2 * (t : Int) - 1 = N := by omega
  have e4 : IntKind.i64.wrap (2 * (t : Int) - 1) = N := by rw [wrap64 (by omega) (by omega)]; exact hN'
  have e5 : IntKind.i64.wrap ((N : Int) - 1) = N - 1 := wrap64 (by omega) (by omega)
  rw [hN'] at ch bad hl hg hst
  generalize stN t = L at *
  have hz : ¬ (N : Int) - 1 = 0 := by omega
  have hr0 : 0 ≤ b.tmod ((N : Int) - 1) := Int.tmod_nonneg _ b0
  have hr1 : b.tmod ((N : Int) - 1) < (N : Int) - 1 := Int.tmod_lt_of_pos _ (by omega)
  obtain ⟨k0, hk0, hk1, hk2⟩ : ∃ k : Nat, IntKind.i64.wrap (1 + b.tmod ((N : Int) - 1)) = (k : Int) ∧ 1 ≤ k ∧ k < N := ⟨(1 + b.tmod ((N : Int) - 1)).toNat, by rw [wrap64 (by omega) (by omega)]; omega, by omega, by omega⟩
  simp [go_sem]
  refine awake_fun.callF (by simp [go_sem]) ?_
  rintro _ rfl
  simp [go_sem, e1, ht, e3, e4]
  refine (Starter_c t).callF (by simp [go_sem]) ?_
  rintro _ rfl
  rw [s.1, s.2]
  simp [go_sem]
  refine (Check_c N L (by omega)).callF (by simp [go_sem]) ?_
  rintro _ rfl
  rw [ch.1, ch.2]
  simp [go_sem, e2, e5, hz, hk0]
  refine IWp.loopT (α := Nat) (fun k => (⟨false, 129, 9, [9, 10, 11, 12, 13, 14, 15, 16, 17, 18, 19, 20, 21, 22, 24, 52, 56, 57, 58, 75], [], [(2, .int .u8 c), (3, .int .u32 d), (10, .int .i64 N), (11, .fz 2 (prs L)), (12, .int .i64 0), (13, .bool (hpb t)), (14, .int .i64 0), (15, .int .i64 (k : Int))], []⟩, []))
    (fun k => 1 ≤ k ∧ k < N) (fun k => k) k0 ⟨hk1, hk2⟩ (by simp [go_sem]) ?_
  rintro k ⟨k1, k2⟩
  simp [go_sem]
  refine (gcd_fun k N (by omega) (by omega) (by omega)).callF (by simp [go_sem]) ?_
  rintro _ rfl
  simp [go_sem]
  split
  · rename_i h1
    have hk : k ≠ 1 := fun e => by subst e; simp at h1
    exact ⟨k - 1, by rw [wrap64 (by omega) (by omega)]; omega, by omega, by omega⟩
  rename_i hgc
  have hgc1 : Int.gcd (k : Int) N = 1 := by
    have h0 : 0 < Int.gcd (k : Int) N := by rw [Int.gcd_pos_iff]; omega
    have h2 : ¬ 1 < ((k.gcd N : Nat) : Int) := hgc
    have h3 : Int.gcd (k : Int) N = k.gcd N := rfl
    omega
  refine IWp.ownNilS 2 16 (by decide) (by simp [go_sem]) ?_
  obtain ⟨cn, rfl⟩ : ∃ n : Nat, c = n := ⟨_, (Int.toNat_of_nonneg (by omega)).symm⟩
  have hm : 0 < L.length := by omega
  simp only [go_sem]
  refine IWp.loopT (α := List (Int × Int)) (fun acc => (⟨false, 129, 9, [9, 10, 11, 12, 13, 14, 15, 16, 17, 18, 19, 20, 21, 22, 24, 52, 56, 57, 58, 75], [], [(2, .int .u8 cn), (3, .int .u32 d), (10, .int .i64 N), (11, .fz 2 (prs L)), (12, .int .i64 0), (13, .bool (hpb t)), (14, .int .i64 0), (15, .int .i64 (k : Int)), (16, .sl 0 acc.length 0 acc.length none), (56, .int .i64 (L.length : Int)), (57, .int .i64 (acc.length : Int))], []⟩, [.rows 2 (prs acc)]))
    (fun acc => acc.length ≤ L.length ∧ ∀ j (h : j < acc.length), acc[j] = trp N k (L.getD ((j + cn) % L.length) (0, 0)) ∨ acc[j] = trp N k (swp (L.getD ((j + cn) % L.length) (0, 0)))) (fun acc => L.length - acc.length) [] ⟨by simp, by simp⟩ (by simp [go_sem]) ?_
  rintro acc ⟨hal, hA⟩
  by_cases hlt : acc.length < L.length
  · obtain ⟨J, hJ⟩ : ∃ J, (acc.length + cn) % L.length = J := ⟨_, rfl⟩
    have hJl : J < L.length := by rw [← hJ]; exact Nat.mod_lt _ hm
    have w1 : IntKind.i64.wrap ((acc.length : Int) + cn) = ((acc.length + cn : Nat) : Int) := by rw [wrap64 (by omega) (by omega)]; omega
    have w2 : ((acc.length : Int) + cn).tmod L.length = (J : Int) := by rw [← hJ]; rfl
    have w1' : IntKind.i64.wrap ((acc.length : Int) + cn) = (acc.length : Int) + cn := wrap64 (by omega) (by omega)
    have hm' : ¬ L.length = 0 := by omega
    have hLe : ¬ L = [] := by intro e; rw [e] at hm; simp at hm
    simp [go_sem, hlt, w1', w2, hJl, hm', hLe, e2']
    have hin := hg.1 _ (List.getElem_mem hJl)
    unfold InR at hin
    have p1 : 0 ≤ L[J].1 * (k : Int) ∧ L[J].1 * (k : Int) ≤ 47 * 47 := ⟨Int.mul_nonneg (by omega) (by omega), Int.mul_le_mul (by omega) (by omega) (by omega) (by omega)⟩
    have p2 : 0 ≤ L[J].2 * (k : Int) ∧ L[J].2 * (k : Int) ≤ 47 * 47 := ⟨Int.mul_nonneg (by omega) (by omega), Int.mul_le_mul (by omega) (by omega) (by omega) (by omega)⟩
    have q1 : IntKind.i64.wrap (L[J].1 * (k : Int)) = L[J].1 * k := wrap64 (by omega) (by omega)
    have q2 : IntKind.i64.wrap (L[J].2 * (k : Int)) = L[J].2 * k := wrap64 (by omega) (by omega)
    have w3 : IntKind.i64.wrap ((acc.length : Int) + 1) = acc.length + 1 := wrap64 (by omega) (by omega)
    have step : ∀ x : Int × Int, (x = trp N k (L.getD J (0, 0)) ∨ x = trp N k (swp (L.getD J (0, 0)))) → ∀ j (h : j < (acc ++ [x]).length), (acc ++ [x])[j] = trp N k (L.getD ((j + cn) % L.length) (0, 0)) ∨ (acc ++ [x])[j] = trp N k (swp (L.getD ((j + cn) % L.length) (0, 0))) := by
      intro x hx j h
      by_cases hj : j < acc.length
      · rw [List.getElem_append_left hj]; exact hA j hj
      · have hj' : j = acc.length := by simp at h; omega
        subst hj'
        simp only [List.getElem_concat_length, hJ]
        exact hx
    have hgd : L.getD J (0, 0) = L[J] := by simp [hJl]
    rw [q1, q2]
    refine ⟨Int.tmod_nonneg _ (by omega), ?_⟩
    split
    · refine ⟨by omega, by omega, by decide +kernel, acc ++ [trp N k (swp L[J])], ⟨⟨by simp, by rw [w3]; simp⟩, by rw [prs_snoc]; rfl⟩, ⟨by simp; omega, ?_⟩, by simp; omega⟩
      exact step _ (.inr (by rw [hgd]))
    · refine ⟨by omega, by omega, by decide +kernel, acc ++ [trp N k L[J]], ⟨⟨by simp, by rw [w3]; simp⟩, by rw [prs_snoc]; rfl⟩, ⟨by simp; omega, ?_⟩, by simp; omega⟩
      exact step _ (.inl (by rw [hgd]))
  · have hal2 : acc.length = L.length := by omega
    obtain ⟨gA, sA⟩ := turned (n := N) (k := k) (L := L) (acc := acc) (s := cn) (by omega) (by omega) hgc1 hm hal2 hA hg
    have hstA : decide (Str N acc) = hpb t := by rw [← hst]; exact decide_eq_decide.2 sA
    have chA := chk_at bad (by rw [hal2]; exact hl) gA (hpb t) hstA
    have hfe : fromE N N acc = 0 := by
      unfold fromE; rw [chA.2, if_neg (by simp), if_neg (by omega), if_neg (by omega)]
    have hT : ((N : Int) + 1).tdiv 2 = t := by rw [Int.tdiv_eq_ediv_of_nonneg (by omega)]; omega
    obtain ⟨C, hC⟩ : ∃ C : Nat, (if hpb t = true then 1 else t) = C := ⟨_, rfl⟩
    have hC2 : (if hpb t = true then (1 : Int) else (t : Int)) = C := by rw [← hC]; split <;> rfl
    have hC3 : (Str N acc ∧ C = 1) ∨ C = t := by
      rw [← hC]
      cases hh : hpb t with
      | true => rw [hh] at hstA; exact .inl ⟨of_decide_eq_true hstA, rfl⟩
      | false => exact .inr rfl
    have hCb : C ≤ 47 := by rw [← hC]; split <;> omega
    have hfm : fromM N N acc = ⟨t, N, N, C, 1, rowsL N t acc N⟩ := by
      unfold fromM
      rw [if_pos ⟨chA.2, by omega, by omega⟩, movOf, hT, chA.1, hC2]; rfl
    have f1 := fair_mov (n := N) (T := t) (l := acc) (R := N) (C := C) (by omega) (by omega) gA (by omega) hC3
    have len1 := rowsL_length N t acc N
    rw [show acc.length + 1 = t by omega] at len1
    have g1 := fair_fun ⟨t, N, N, C, 1, rowsL N t acc N⟩ t N C N rfl rfl rfl rfl (by omega) t2 (by omega) hCb (by omega) len1 f1
    generalize rowsL N t acc N = L1 at *
    have w0 : IntKind.i64.wrap 0 = 0 := by decide
    simp [go_sem, hlt]
    refine (Check_c N acc (by omega)).callF (by simp [go_sem]) ?_
    rintro _ rfl
    rw [chA.1, chA.2]
    simp [go_sem]
    refine (From_c N N acc (by omega)).callF (by simp [go_sem]) ?_
    rintro _ rfl
    rw [hfm, hfe]
    simp [go_sem, Mov.v, w0]
    refine g1.callF (by simp [go_sem, Mov.v]) ?_
    rintro _ rfl
    simp [go_sem]
    exact hR _ _ _ rfl (by simp [go_sem])
end Go.Idl
