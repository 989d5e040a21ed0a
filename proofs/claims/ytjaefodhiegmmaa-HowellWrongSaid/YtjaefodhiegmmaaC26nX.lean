/-
  Chapter 26: HowellWrong.
-/
import Derived.Test.YtjaefodhiegmmaaC26nW
import Derived.Test.YtjaefodhiegmmaaC26nU
namespace Go.Idl
set_option linter.all false
open Go.Proofs
set_option maxHeartbeats 40000000
set_option maxRecDepth 40000

theorem blt_g {a b : Nat} : Nat.blt a b = false ↔ b ≤ a := by
  rw [← Bool.not_eq_true, Nat.blt_eq]; omega
theorem set_twice {xs : List Int} {p : Nat} {v : Int} (hp : p < xs.length) (hv : v ∈ xs) (hne : xs[p] ≠ v) : ¬ (xs.set p v).Nodup := by
  intro hn
  obtain ⟨q, hq, e⟩ := List.mem_iff_getElem.1 hv
  have hpq : p ≠ q := fun h => by subst h; exact hne e
  have h1 : (xs.set p v)[p]'(by simpa using hp) = v := by simp
  have h2 : (xs.set p v)[q]'(by simpa using hq) = v := by rw [List.getElem_set_ne hpq]; exact e
  have hw := List.pairwise_iff_getElem.1 hn
  rcases Nat.lt_or_gt_of_ne hpq with h | h
  · exact hw p q _ _ h (h1.trans h2.symm)
  · exact hw q p _ _ h (h2.trans h1.symm)
theorem nums_set1 (v b : Int) : ∀ (l : List (Int × Int)) (i : Nat) (h : i < l.length), l[i].2 = b → nums (l.set i (v, b)) = (nums l).set (2 * i) v
  | x :: l, 0, _, h => by simp only [List.getElem_cons_zero] at h; subst h; simp [nums]
  | x :: l, i + 1, h, e => by
    have := nums_set1 v b l i (by simpa using h) (by simpa using e)
    simp only [nums, List.set_cons_succ, List.flatMap_cons] at this ⊢
    rw [this]; simp [Nat.mul_add]
theorem nums_set2 (v b : Int) : ∀ (l : List (Int × Int)) (i : Nat) (h : i < l.length), l[i].1 = b → nums (l.set i (b, v)) = (nums l).set (2 * i + 1) v
  | x :: l, 0, _, h => by simp only [List.getElem_cons_zero] at h; subst h; simp [nums]
  | x :: l, i + 1, h, e => by
    have := nums_set2 v b l i (by simpa using h) (by simpa using e)
    simp only [nums, List.set_cons_succ, List.flatMap_cons] at this ⊢
    rw [this]; simp [Nat.mul_add, Nat.add_right_comm]
theorem nums_len : ∀ l : List (Int × Int), (nums l).length = 2 * l.length
  | [] => rfl
  | x :: l => by have := nums_len l; simp [nums] at this ⊢; omega
theorem nums_at1 : ∀ (l : List (Int × Int)) (i : Nat) (h : i < l.length), (nums l)[2 * i]'(by rw [nums_len]; omega) = l[i].1
  | x :: l, 0, _ => by simp [nums]
  | x :: l, i + 1, h => by
    have := nums_at1 l i (by simpa using h)
    simp only [nums, List.flatMap_cons] at this ⊢
    simpa [Nat.mul_add] using this
theorem nums_at2 : ∀ (l : List (Int × Int)) (i : Nat) (h : i < l.length), (nums l)[2 * i + 1]'(by rw [nums_len]; omega) = l[i].2
  | x :: l, 0, _ => by simp [nums]
  | x :: l, i + 1, h => by
    have := nums_at2 l i (by simpa using h)
    simp only [nums, List.flatMap_cons] at this ⊢
    simpa [Nat.mul_add, Nat.add_right_comm] using this
theorem stN_all : ((List.range 25).all fun t => (List.range (2 * t - 1)).all fun v => Nat.blt t 2 || Nat.blt v 1 || (nums (stN t)).contains (v : Int)) = true := by decide +kernel
theorem stN_mem (t : Nat) (t1 : 2 ≤ t) (t2 : t ≤ 24) (v : Int) (h1 : 1 ≤ v) (h2 : v < 2 * t - 1) : v ∈ nums (stN t) := by
  obtain ⟨n, rfl⟩ : ∃ n : Nat, v = n := ⟨v.toNat, by omega⟩
  have h := List.all_eq_true.1 (List.all_eq_true.1 stN_all t (by simp; omega)) n (by simp; omega)
  have g1 : Nat.blt t 2 = false := blt_g.2 t1
  have g2 : Nat.blt n 1 = false := blt_g.2 (by omega)
  rw [g1, g2] at h
  simpa using h
theorem not_good1 (t : Nat) (t1 : 2 ≤ t) (t2 : t ≤ 24) (i : Nat) (hi : i < (stN t).length) (v : Int) (hv : (stN t)[i].1 ≠ v) : ¬ Good (2 * (t : Int) - 1) ((stN t).set i (v, (stN t)[i].2)) := by
  rintro ⟨g1, g2, _⟩
  have := g1 (v, (stN t)[i].2) (List.mem_iff_getElem.2 ⟨i, by simpa using hi, by simp⟩)
  have hm := stN_mem t t1 t2 v this.1 this.2.1
  rw [nums_set1 v _ _ i hi rfl] at g2
  exact set_twice (by rw [nums_len]; omega) hm (by rw [nums_at1 _ i hi]; exact hv) g2
theorem not_good2 (t : Nat) (t1 : 2 ≤ t) (t2 : t ≤ 24) (i : Nat) (hi : i < (stN t).length) (v : Int) (hv : (stN t)[i].2 ≠ v) : ¬ Good (2 * (t : Int) - 1) ((stN t).set i ((stN t)[i].1, v)) := by
  rintro ⟨g1, g2, _⟩
  have := g1 ((stN t)[i].1, v) (List.mem_iff_getElem.2 ⟨i, by simpa using hi, by simp⟩)
  have hm := stN_mem t t1 t2 v this.2.2.1 this.2.2.2
  rw [nums_set2 v _ _ i hi rfl] at g2
  exact set_twice (by rw [nums_len]; omega) hm (by rw [nums_at2 _ i hi]; exact hv) g2

theorem from_bad (n r : Int) (l : List (Int × Int)) (e : Int) (h : chkE n l = e) (he : e ≠ 0) : fromM n r l = Mov.zero ∧ fromE n r l = e := by
  subst h
  unfold fromM fromE
  rw [if_neg (fun h => he h.1), if_pos he]
  exact ⟨rfl, rfl⟩
theorem chk_260 (n : Int) (l : List (Int × Int)) (h1 : ¬ BadN n) (h2 : ¬ ((l.length : Int) = (n - 1).tdiv 2 ∧ Good n l)) : chkE n l = 260 := by
  unfold chkE; rw [if_neg h1, if_neg h2]
theorem chk_2 (n : Int) (l : List (Int × Int)) (h1 : BadN n) : chkE n l = 2 := by
  unfold chkE; rw [if_pos h1]

theorem out_x (x : Int) (h : ¬ (2 ≤ x ∧ x ≤ 24)) : pN x = 0 ∧ pB x = false ∧ sL x = [] ∧ sE x = 2 ∧ makeM x 1 = Mov.zero ∧ makeE x 1 = 2 := by
  have hp : ¬ HP x := fun hp => h ⟨hp.1, hp.2.1⟩
  unfold pN pB sL sE makeM makeE
  simp [h, hp]
theorem two64 (c : Int) (h0 : 0 ≤ c) : c.tmod 2 = 0 ∨ c.tmod 2 = 1 := by
  rw [Int.tmod_eq_emod_of_nonneg h0]; omega

theorem lawWrong_fun (a b c : Int) (_ : (Lit.int .i64 a).wf = true) (hb : (Lit.int .u8 b).wf = true) (hc : (Lit.int .u8 c).wf = true) : IFun true Try.prog [] 10 [.int .i64 a, .int .u8 b, .int .u8 c] (fun v => v = .bool true) := by
  obtain ⟨b0, b1⟩ := Go.bounds_u8 hb
  obtain ⟨c0, c1⟩ := Go.bounds_u8 hc
  refine IFun.of_bodyZ false 7 [7, 8, 9, 10, 12, 14, 16, 18, 19, 20, 21, 22, 24, 25, 26, 27, 29, 36, 103, 134, 135, 136, 137, 155, 171] Try.func10 rfl Try.call10 rfl fun R hR => ?_
  have e1 : IntKind.i64.wrap b = b := wrap64 (by omega) (by omega)
  have e2 : IntKind.i64.wrap c = c := wrap64 (by omega) (by omega)
  have hb3 : b.tmod 22 = b % 22 := Int.tmod_eq_emod_of_nonneg b0
  obtain ⟨t, ht⟩ : ∃ t : Nat, IntKind.i64.wrap (3 + b.tmod 22) = (t : Int) ∧ 3 ≤ t ∧ t ≤ 24 := ⟨(3 + b % 22).toNat, by rw [hb3, wrap64 (by omega) (by omega)]; omega, by omega, by omega⟩
  obtain ⟨ht, t1, t2⟩ := ht
  have e3 : IntKind.i64.wrap (2 * (t : Int)) = 2 * t := wrap64 (by omega) (by omega)
  have e4 : IntKind.i64.wrap (2 * (t : Int) - 1) = 2 * t - 1 := wrap64 (by omega) (by omega)
  have e6 : IntKind.i64.wrap (2 * (t : Int) + 1) = 2 * t + 1 := wrap64 (by omega) (by omega)
  have w0 : IntKind.i64.wrap 0 = 0 := by decide
  have s := sL_at t (by omega) t2
  have cs := chk_st t (by omega) t2
  have hl := stN_len2 t (by omega) (by omega)
  have m1 : makeM t (min a 0) = Mov.zero ∧ makeE t (min a 0) = 2 := by
    have mk := mk_st t (min a 0) (by omega) t2
    rw [mk.1, mk.2]; unfold fromM fromE
    rw [if_neg (by omega), cs.2, if_neg (by simp), if_pos (by omega)]; exact ⟨rfl, rfl⟩
  have m2 : makeM t (max a (2 * t)) = Mov.zero ∧ makeE t (max a (2 * t)) = 5 := by
    have mk := mk_st t (max a (2 * t)) (by omega) t2
    rw [mk.1, mk.2]; unfold fromM fromE
    rw [if_neg (by omega), cs.2, if_neg (by simp), if_neg (by omega), if_pos (by omega)]; exact ⟨rfl, rfl⟩
  have hk0 : ¬ t - 1 = 0 := by omega
  have ci0 : 0 ≤ c.tmod ((t - 1 : Nat) : Int) := Int.tmod_nonneg _ c0
  have ci1 : c.tmod ((t - 1 : Nat) : Int) < ((t - 1 : Nat) : Int) := Int.tmod_lt_of_pos _ (by omega)
  obtain ⟨i, hi⟩ : ∃ i : Nat, c.tmod ((t - 1 : Nat) : Int) = (i : Int) := ⟨_, (Int.toNat_of_nonneg ci0).symm⟩
  have hii : i < t - 1 := by omega
  have wi : IntKind.i64.wrap ((i : Int) + 1) = i + 1 := wrap64 (by omega) (by omega)
  have cj0 : 0 ≤ ((i : Int) + 1).tmod ((t - 1 : Nat) : Int) := Int.tmod_nonneg _ (by omega)
  have cj1 : ((i : Int) + 1).tmod ((t - 1 : Nat) : Int) < ((t - 1 : Nat) : Int) := Int.tmod_lt_of_pos _ (by omega)
  obtain ⟨i2, hi2⟩ : ∃ i2 : Nat, ((i : Int) + 1).tmod ((t - 1 : Nat) : Int) = (i2 : Int) := ⟨_, (Int.toNat_of_nonneg cj0).symm⟩
  have hii2 : i2 < t - 1 := by omega
  have hil : i < (stN t).length := by omega
  obtain ⟨p, hp, hrow⟩ : ∃ p, (stN t)[i] = p ∧ (prs (stN t))[i]?.getD [] = [.int .i64 p.1, .int .i64 p.2] := ⟨_, rfl, mp_at (by omega)⟩
  have hil2 : i2 < (stN t).length := by omega
  obtain ⟨q, hq⟩ : ∃ q, (stN t)[i2] = q := ⟨_, rfl⟩
  have wd : IntKind.i64.wrap (c.tdiv 64) = c.tdiv 64 := by rw [Int.tdiv_eq_ediv_of_nonneg c0]; exact wrap64 (by omega) (by omega)
  have hjj : (c.tdiv 64).tmod 2 = 0 ∨ (c.tdiv 64).tmod 2 = 1 := two64 _ (by rw [Int.tdiv_eq_ediv_of_nonneg c0]; omega)
  have ng1 : ∀ v, p.1 ≠ v → chkE (2 * (t : Int) - 1) ((stN t).set i (v, p.2)) = 260 := fun v hv => chk_260 _ _ (stN_good t (by omega) (by omega)).1 fun h => not_good1 t (by omega) t2 i hil v (by rw [hp]; exact hv) (by rw [hp]; exact h.2)
  have ng2 : ∀ v, p.2 ≠ v → chkE (2 * (t : Int) - 1) ((stN t).set i (p.1, v)) = 260 := fun v hv => chk_260 _ _ (stN_good t (by omega) (by omega)).1 fun h => not_good2 t (by omega) t2 i hil v (by rw [hp]; exact hv) (by rw [hp]; exact h.2)
  obtain ⟨y, l, hxl⟩ : ∃ y l, stN t = y :: l := by
    cases h : stN t with
    | nil => rw [h] at hl; simp at hl; omega
    | cons y l => exact ⟨y, l, rfl⟩
  have hcl : IFun true Try.prog [] 24 [.fz 2 (prs (stN t))] (fun v => v = .fz 2 (prs (stN t))) := by rw [hxl] at hl ⊢; exact clone_fun y l (by simp at hl; omega)
  have hcut : cutR 0 (t - 1) (prs (stN t)) = prs (stN t) := cut_prs hl
  have hcut3 : cutR 1 (t - 1 - 1) (prs (stN t)) = prs (stN t).tail := by
    rw [hxl] at hl ⊢
    exact cut_tail (by simp at hl; omega)
  have sg := stN_good t (by omega) (by omega)
  have k1 : chkE (2 * (t : Int) - 1) (stN t).tail = 260 := chk_260 _ _ sg.1 fun h => by
    have h1 := h.1
    have h2 := sg.2.1
    rw [← h2] at h1
    simp [List.length_tail] at h1
    omega
  have k2 : chkE (2 * (t : Int)) (stN t) = 2 := chk_2 _ _ (Or.inl (by rw [Int.tmod_eq_emod_of_nonneg (by omega)]; omega))
  have k3 : chkE (2 * (t : Int) + 1) (stN t) = 260 ∨ chkE (2 * (t : Int) + 1) (stN t) = 2 := by
    by_cases h : t = 24
    · exact .inr (chk_2 _ _ (Or.inr (Or.inr (by omega))))
    · refine .inl (chk_260 _ _ ?_ ?_)
      · unfold BadN; rw [Int.tmod_eq_emod_of_nonneg (by omega)]; omega
      · rintro ⟨h1, _⟩
        rw [Int.tdiv_eq_ediv_of_nonneg (by omega), hl] at h1
        omega
  simp [go_sem]
  refine awake_fun.callF (by simp [go_sem]) ?_
  rintro _ rfl
  simp [go_sem]
  by_cases ha2 : 2 ≤ a
  · by_cases ha24 : a ≤ 24
    · have wa : IntKind.i64.wrap (a + 24) = a + 24 := wrap64 (by omega) (by omega)
      simp [go_sem, ha2, ha24, wa, e1, ht]
      have o := out_x (a + 24) (by omega)
      refine (Prime_c (a + 24)).callF (by simp [go_sem]) ?_
      rintro _ rfl
      rw [o.1, o.2.1]
      simp [go_sem]
      refine (Starter_c (a + 24)).callF (by simp [go_sem]) ?_
      rintro _ rfl
      rw [o.2.2.1, o.2.2.2.1]
      simp [go_sem]
      refine (Make_c (a + 24) 1).callF (by simp [go_sem]) ?_
      rintro _ rfl
      rw [o.2.2.2.2.1, o.2.2.2.2.2]
      simp [go_sem, Mov.v]
      refine (Make_c t (min a 0)).callF (by simp [go_sem]; split <;> omega) ?_
      rintro _ rfl
      rw [m1.1, m1.2]
      simp [go_sem, Mov.v, e3]
      refine (Make_c t (max a (2 * t))).callF (by simp [go_sem]; split <;> omega) ?_
      rintro _ rfl
      rw [m2.1, m2.2]
      simp [go_sem, Mov.v]
      refine (Starter_c t).callOF (by simp [go_sem]) ?_
      rintro _ rfl
      rw [s.1, s.2]
      refine ⟨_, 2, prs (stN t), Cx.tup1 0, by decide, rfl, by simp [go_sem], ?_⟩
      rcases hjj with hj | hj
      · simp [go_sem, hl, w0, e2, hi, wi, hi2, hj, wd, hii, hii2, hk0, hp, hq, e3, e4]
        refine ⟨by decide +kernel, ?_⟩
        refine IWp.loopT (α := Nat) (fun m => (⟨false, 211, 7, [7, 8, 9, 10, 12, 14, 16, 18, 19, 20, 21, 22, 24, 25, 26, 27, 29, 36, 103, 134, 135, 136, 137, 155, 171], [], [(8, .int .i64 (t : Int)), (19, .sl 3 (t - 1) 0 (t - 1) none), (21, .int .i64 (i : Int)), (22, .int .i64 0), (134, .sl 25 5 0 5 none), (135, .int .i64 5), (136, .int .i64 (m : Int))], []⟩, [.dead, .dead, .dead, .rows 2 (prs (stN t)), .hole, .hole, .hole, .hole, .hole, .hole, .hole, .hole, .hole, .hole, .hole, .hole, .hole, .hole, .hole, .hole, .hole, .hole, .hole, .hole, .hole, .rows 1 [[.int .i64 (0 : Int)], [.int .i64 a], [.int .i64 q.1], [.int .i64 (2 * (t : Int) - 1)], [.int .i64 (IntKind.i64.wrap (p.1 + 1))]]])) (fun m => m ≤ 5) (fun m => 5 - m) 0 (by decide) (by simp [go_sem, hl]) ?_
        intro m hm
        have hc : m = 0 ∨ m = 1 ∨ m = 2 ∨ m = 3 ∨ m = 4 ∨ m = 5 := by omega
        rcases hc with rfl | rfl | rfl | rfl | rfl | rfl
        · simp [go_sem]
          refine hcl.callOF (by simp [go_sem, hl, hcut]) ?_
          rintro _ rfl
          refine ⟨_, 2, prs (stN t), .here, by decide, rfl, by simp [go_sem], ?_⟩
          have hset : (prs (stN t)).set i [.int .i64 ((0 : Int), p.2).1, .int .i64 ((0 : Int), p.2).2] = prs ((stN t).set i ((0 : Int), p.2)) := prs_set.symm
          have hcut2 : cutR 0 (t - 1) (prs ((stN t).set i ((0 : Int), p.2))) = prs ((stN t).set i ((0 : Int), p.2)) := cut_prs (by simp [hl])
          by_cases hv : (0 : Int) = p.1
          · simp [go_sem, hl, hii, hp, hv.symm]
            exact ⟨1, by decide, by decide, by decide⟩
          · have fb := from_bad (2 * (t : Int) - 1) 1 ((stN t).set i ((0 : Int), p.2)) 260 (ng1 (0 : Int) (fun h => hv h.symm)) (by decide)
            simp [go_sem, hl, hii, hp, hv, hset, e3, e4]
            refine (From_c (2 * t - 1) 1 ((stN t).set i ((0 : Int), p.2)) (by simp [hl]; omega)).callF (by simp [go_sem, hl, hcut2]) ?_
            rintro _ rfl
            rw [fb.1, fb.2]
            simp [go_sem, Mov.v]
            refine (sameMovement_fun Mov.zero Mov.zero (by decide) (by decide)).callF (by simp [go_sem, Mov.v, Mov.zero]) ?_
            rintro _ rfl
            simp [go_sem]
            exact ⟨1, by decide, by decide, by decide⟩
        · simp [go_sem]
          refine hcl.callOF (by simp [go_sem, hl, hcut]) ?_
          rintro _ rfl
          refine ⟨_, 2, prs (stN t), .here, by decide, rfl, by simp [go_sem], ?_⟩
          have hset : (prs (stN t)).set i [.int .i64 (a, p.2).1, .int .i64 (a, p.2).2] = prs ((stN t).set i (a, p.2)) := prs_set.symm
          have hcut2 : cutR 0 (t - 1) (prs ((stN t).set i (a, p.2))) = prs ((stN t).set i (a, p.2)) := cut_prs (by simp [hl])
          by_cases hv : a = p.1
          · simp [go_sem, hl, hii, hp, hv]
            exact ⟨2, by decide, by decide, by decide⟩
          · have fb := from_bad (2 * (t : Int) - 1) 1 ((stN t).set i (a, p.2)) 260 (ng1 a (fun h => hv h.symm)) (by decide)
            simp [go_sem, hl, hii, hp, hv, hset, e3, e4]
            refine (From_c (2 * t - 1) 1 ((stN t).set i (a, p.2)) (by simp [hl]; omega)).callF (by simp [go_sem, hl, hcut2]) ?_
            rintro _ rfl
            rw [fb.1, fb.2]
            simp [go_sem, Mov.v]
            refine (sameMovement_fun Mov.zero Mov.zero (by decide) (by decide)).callF (by simp [go_sem, Mov.v, Mov.zero]) ?_
            rintro _ rfl
            simp [go_sem]
            exact ⟨2, by decide, by decide, by decide⟩
        · simp [go_sem]
          refine hcl.callOF (by simp [go_sem, hl, hcut]) ?_
          rintro _ rfl
          refine ⟨_, 2, prs (stN t), .here, by decide, rfl, by simp [go_sem], ?_⟩
          have hset : (prs (stN t)).set i [.int .i64 (q.1, p.2).1, .int .i64 (q.1, p.2).2] = prs ((stN t).set i (q.1, p.2)) := prs_set.symm
          have hcut2 : cutR 0 (t - 1) (prs ((stN t).set i (q.1, p.2))) = prs ((stN t).set i (q.1, p.2)) := cut_prs (by simp [hl])
          by_cases hv : q.1 = p.1
          · simp [go_sem, hl, hii, hp, hv]
            exact ⟨3, by decide, by decide, by decide⟩
          · have fb := from_bad (2 * (t : Int) - 1) 1 ((stN t).set i (q.1, p.2)) 260 (ng1 q.1 (fun h => hv h.symm)) (by decide)
            simp [go_sem, hl, hii, hp, hv, hset, e3, e4]
            refine (From_c (2 * t - 1) 1 ((stN t).set i (q.1, p.2)) (by simp [hl]; omega)).callF (by simp [go_sem, hl, hcut2]) ?_
            rintro _ rfl
            rw [fb.1, fb.2]
            simp [go_sem, Mov.v]
            refine (sameMovement_fun Mov.zero Mov.zero (by decide) (by decide)).callF (by simp [go_sem, Mov.v, Mov.zero]) ?_
            rintro _ rfl
            simp [go_sem]
            exact ⟨3, by decide, by decide, by decide⟩
        · simp [go_sem]
          refine hcl.callOF (by simp [go_sem, hl, hcut]) ?_
          rintro _ rfl
          refine ⟨_, 2, prs (stN t), .here, by decide, rfl, by simp [go_sem], ?_⟩
          have hset : (prs (stN t)).set i [.int .i64 ((2 * (t : Int) - 1), p.2).1, .int .i64 ((2 * (t : Int) - 1), p.2).2] = prs ((stN t).set i ((2 * (t : Int) - 1), p.2)) := prs_set.symm
          have hcut2 : cutR 0 (t - 1) (prs ((stN t).set i ((2 * (t : Int) - 1), p.2))) = prs ((stN t).set i ((2 * (t : Int) - 1), p.2)) := cut_prs (by simp [hl])
          by_cases hv : (2 * (t : Int) - 1) = p.1
          · simp [go_sem, hl, hii, hp, hv]
            exact ⟨4, by decide, by decide, by decide⟩
          · have fb := from_bad (2 * (t : Int) - 1) 1 ((stN t).set i ((2 * (t : Int) - 1), p.2)) 260 (ng1 (2 * (t : Int) - 1) (fun h => hv h.symm)) (by decide)
            simp [go_sem, hl, hii, hp, hv, hset, e3, e4]
            refine (From_c (2 * t - 1) 1 ((stN t).set i ((2 * (t : Int) - 1), p.2)) (by simp [hl]; omega)).callF (by simp [go_sem, hl, hcut2]) ?_
            rintro _ rfl
            rw [fb.1, fb.2]
            simp [go_sem, Mov.v]
            refine (sameMovement_fun Mov.zero Mov.zero (by decide) (by decide)).callF (by simp [go_sem, Mov.v, Mov.zero]) ?_
            rintro _ rfl
            simp [go_sem]
            exact ⟨4, by decide, by decide, by decide⟩
        · simp [go_sem]
          refine hcl.callOF (by simp [go_sem, hl, hcut]) ?_
          rintro _ rfl
          refine ⟨_, 2, prs (stN t), .here, by decide, rfl, by simp [go_sem], ?_⟩
          have hset : (prs (stN t)).set i [.int .i64 ((IntKind.i64.wrap (p.1 + 1)), p.2).1, .int .i64 ((IntKind.i64.wrap (p.1 + 1)), p.2).2] = prs ((stN t).set i ((IntKind.i64.wrap (p.1 + 1)), p.2)) := prs_set.symm
          have hcut2 : cutR 0 (t - 1) (prs ((stN t).set i ((IntKind.i64.wrap (p.1 + 1)), p.2))) = prs ((stN t).set i ((IntKind.i64.wrap (p.1 + 1)), p.2)) := cut_prs (by simp [hl])
          by_cases hv : (IntKind.i64.wrap (p.1 + 1)) = p.1
          · simp [go_sem, hl, hii, hp, hv]
            exact ⟨5, by decide, by decide, by decide⟩
          · have fb := from_bad (2 * (t : Int) - 1) 1 ((stN t).set i ((IntKind.i64.wrap (p.1 + 1)), p.2)) 260 (ng1 (IntKind.i64.wrap (p.1 + 1)) (fun h => hv h.symm)) (by decide)
            simp [go_sem, hl, hii, hp, hv, hset, e3, e4]
            refine (From_c (2 * t - 1) 1 ((stN t).set i ((IntKind.i64.wrap (p.1 + 1)), p.2)) (by simp [hl]; omega)).callF (by simp [go_sem, hl, hcut2]) ?_
            rintro _ rfl
            rw [fb.1, fb.2]
            simp [go_sem, Mov.v]
            refine (sameMovement_fun Mov.zero Mov.zero (by decide) (by decide)).callF (by simp [go_sem, Mov.v, Mov.zero]) ?_
            rintro _ rfl
            simp [go_sem]
            exact ⟨5, by decide, by decide, by decide⟩
        · simp [go_sem, e3, e4, e6]
          refine ⟨⟨by omega, by omega, by omega⟩, ?_⟩
          refine (Check_c (2 * t - 1) (stN t).tail (by simp [hl]; omega)).callF (by first | (simp [go_sem, hl, hcut3]; done) | (simp [go_sem, hl, hcut3]; omega)) ?_
          rintro _ rfl
          rw [k1]
          simp [go_sem, e3, e4, e6]
          refine (Check_c (2 * t) (stN t) (by omega)).callF (by first | (simp [go_sem, hl, hcut]; done) | (simp [go_sem, hl, hcut]; omega)) ?_
          rintro _ rfl
          rw [k2]
          simp [go_sem, e3, e4, e6]
          refine (Check_c (2 * t + 1) (stN t) (by omega)).callF (by first | (simp [go_sem, hl, hcut]; done) | (simp [go_sem, hl, hcut]; omega)) ?_
          rintro _ rfl
          rcases k3 with k3 | k3
          · rw [k3]
            simp [go_sem]
            exact hR _ _ _ rfl (by simp [go_sem])
          · rw [k3]
            simp [go_sem]
            exact hR _ _ _ rfl (by simp [go_sem])
      · simp [go_sem, hl, w0, e2, hi, wi, hi2, hj, wd, hii, hii2, hk0, hp, hq, e3, e4]
        refine ⟨by decide +kernel, ?_⟩
        refine IWp.loopT (α := Nat) (fun m => (⟨false, 211, 7, [7, 8, 9, 10, 12, 14, 16, 18, 19, 20, 21, 22, 24, 25, 26, 27, 29, 36, 103, 134, 135, 136, 137, 155, 171], [], [(8, .int .i64 (t : Int)), (19, .sl 3 (t - 1) 0 (t - 1) none), (21, .int .i64 (i : Int)), (22, .int .i64 1), (134, .sl 25 5 0 5 none), (135, .int .i64 5), (136, .int .i64 (m : Int))], []⟩, [.dead, .dead, .dead, .rows 2 (prs (stN t)), .hole, .hole, .hole, .hole, .hole, .hole, .hole, .hole, .hole, .hole, .hole, .hole, .hole, .hole, .hole, .hole, .hole, .hole, .hole, .hole, .hole, .rows 1 [[.int .i64 (0 : Int)], [.int .i64 a], [.int .i64 q.2], [.int .i64 (2 * (t : Int) - 1)], [.int .i64 (IntKind.i64.wrap (p.2 + 1))]]])) (fun m => m ≤ 5) (fun m => 5 - m) 0 (by decide) (by simp [go_sem, hl]) ?_
        intro m hm
        have hc : m = 0 ∨ m = 1 ∨ m = 2 ∨ m = 3 ∨ m = 4 ∨ m = 5 := by omega
        rcases hc with rfl | rfl | rfl | rfl | rfl | rfl
        · simp [go_sem]
          refine hcl.callOF (by simp [go_sem, hl, hcut]) ?_
          rintro _ rfl
          refine ⟨_, 2, prs (stN t), .here, by decide, rfl, by simp [go_sem], ?_⟩
          have hset : (prs (stN t)).set i [.int .i64 (p.1, (0 : Int)).1, .int .i64 (p.1, (0 : Int)).2] = prs ((stN t).set i (p.1, (0 : Int))) := prs_set.symm
          have hcut2 : cutR 0 (t - 1) (prs ((stN t).set i (p.1, (0 : Int)))) = prs ((stN t).set i (p.1, (0 : Int))) := cut_prs (by simp [hl])
          by_cases hv : (0 : Int) = p.2
          · simp [go_sem, hl, hii, hp, hv.symm]
            exact ⟨1, by decide, by decide, by decide⟩
          · have fb := from_bad (2 * (t : Int) - 1) 1 ((stN t).set i (p.1, (0 : Int))) 260 (ng2 (0 : Int) (fun h => hv h.symm)) (by decide)
            simp [go_sem, hl, hii, hp, hv, hset, e3, e4]
            refine (From_c (2 * t - 1) 1 ((stN t).set i (p.1, (0 : Int))) (by simp [hl]; omega)).callF (by simp [go_sem, hl, hcut2]) ?_
            rintro _ rfl
            rw [fb.1, fb.2]
            simp [go_sem, Mov.v]
            refine (sameMovement_fun Mov.zero Mov.zero (by decide) (by decide)).callF (by simp [go_sem, Mov.v, Mov.zero]) ?_
            rintro _ rfl
            simp [go_sem]
            exact ⟨1, by decide, by decide, by decide⟩
        · simp [go_sem]
          refine hcl.callOF (by simp [go_sem, hl, hcut]) ?_
          rintro _ rfl
          refine ⟨_, 2, prs (stN t), .here, by decide, rfl, by simp [go_sem], ?_⟩
          have hset : (prs (stN t)).set i [.int .i64 (p.1, a).1, .int .i64 (p.1, a).2] = prs ((stN t).set i (p.1, a)) := prs_set.symm
          have hcut2 : cutR 0 (t - 1) (prs ((stN t).set i (p.1, a))) = prs ((stN t).set i (p.1, a)) := cut_prs (by simp [hl])
          by_cases hv : a = p.2
          · simp [go_sem, hl, hii, hp, hv]
            exact ⟨2, by decide, by decide, by decide⟩
          · have fb := from_bad (2 * (t : Int) - 1) 1 ((stN t).set i (p.1, a)) 260 (ng2 a (fun h => hv h.symm)) (by decide)
            simp [go_sem, hl, hii, hp, hv, hset, e3, e4]
            refine (From_c (2 * t - 1) 1 ((stN t).set i (p.1, a)) (by simp [hl]; omega)).callF (by simp [go_sem, hl, hcut2]) ?_
            rintro _ rfl
            rw [fb.1, fb.2]
            simp [go_sem, Mov.v]
            refine (sameMovement_fun Mov.zero Mov.zero (by decide) (by decide)).callF (by simp [go_sem, Mov.v, Mov.zero]) ?_
            rintro _ rfl
            simp [go_sem]
            exact ⟨2, by decide, by decide, by decide⟩
        · simp [go_sem]
          refine hcl.callOF (by simp [go_sem, hl, hcut]) ?_
          rintro _ rfl
          refine ⟨_, 2, prs (stN t), .here, by decide, rfl, by simp [go_sem], ?_⟩
          have hset : (prs (stN t)).set i [.int .i64 (p.1, q.2).1, .int .i64 (p.1, q.2).2] = prs ((stN t).set i (p.1, q.2)) := prs_set.symm
          have hcut2 : cutR 0 (t - 1) (prs ((stN t).set i (p.1, q.2))) = prs ((stN t).set i (p.1, q.2)) := cut_prs (by simp [hl])
          by_cases hv : q.2 = p.2
          · simp [go_sem, hl, hii, hp, hv]
            exact ⟨3, by decide, by decide, by decide⟩
          · have fb := from_bad (2 * (t : Int) - 1) 1 ((stN t).set i (p.1, q.2)) 260 (ng2 q.2 (fun h => hv h.symm)) (by decide)
            simp [go_sem, hl, hii, hp, hv, hset, e3, e4]
            refine (From_c (2 * t - 1) 1 ((stN t).set i (p.1, q.2)) (by simp [hl]; omega)).callF (by simp [go_sem, hl, hcut2]) ?_
            rintro _ rfl
            rw [fb.1, fb.2]
            simp [go_sem, Mov.v]
            refine (sameMovement_fun Mov.zero Mov.zero (by decide) (by decide)).callF (by simp [go_sem, Mov.v, Mov.zero]) ?_
            rintro _ rfl
            simp [go_sem]
            exact ⟨3, by decide, by decide, by decide⟩
        · simp [go_sem]
          refine hcl.callOF (by simp [go_sem, hl, hcut]) ?_
          rintro _ rfl
          refine ⟨_, 2, prs (stN t), .here, by decide, rfl, by simp [go_sem], ?_⟩
          have hset : (prs (stN t)).set i [.int .i64 (p.1, (2 * (t : Int) - 1)).1, .int .i64 (p.1, (2 * (t : Int) - 1)).2] = prs ((stN t).set i (p.1, (2 * (t : Int) - 1))) := prs_set.symm
          have hcut2 : cutR 0 (t - 1) (prs ((stN t).set i (p.1, (2 * (t : Int) - 1)))) = prs ((stN t).set i (p.1, (2 * (t : Int) - 1))) := cut_prs (by simp [hl])
          by_cases hv : (2 * (t : Int) - 1) = p.2
          · simp [go_sem, hl, hii, hp, hv]
            exact ⟨4, by decide, by decide, by decide⟩
          · have fb := from_bad (2 * (t : Int) - 1) 1 ((stN t).set i (p.1, (2 * (t : Int) - 1))) 260 (ng2 (2 * (t : Int) - 1) (fun h => hv h.symm)) (by decide)
            simp [go_sem, hl, hii, hp, hv, hset, e3, e4]
            refine (From_c (2 * t - 1) 1 ((stN t).set i (p.1, (2 * (t : Int) - 1))) (by simp [hl]; omega)).callF (by simp [go_sem, hl, hcut2]) ?_
            rintro _ rfl
            rw [fb.1, fb.2]
            simp [go_sem, Mov.v]
            refine (sameMovement_fun Mov.zero Mov.zero (by decide) (by decide)).callF (by simp [go_sem, Mov.v, Mov.zero]) ?_
            rintro _ rfl
            simp [go_sem]
            exact ⟨4, by decide, by decide, by decide⟩
        · simp [go_sem]
          refine hcl.callOF (by simp [go_sem, hl, hcut]) ?_
          rintro _ rfl
          refine ⟨_, 2, prs (stN t), .here, by decide, rfl, by simp [go_sem], ?_⟩
          have hset : (prs (stN t)).set i [.int .i64 (p.1, (IntKind.i64.wrap (p.2 + 1))).1, .int .i64 (p.1, (IntKind.i64.wrap (p.2 + 1))).2] = prs ((stN t).set i (p.1, (IntKind.i64.wrap (p.2 + 1)))) := prs_set.symm
          have hcut2 : cutR 0 (t - 1) (prs ((stN t).set i (p.1, (IntKind.i64.wrap (p.2 + 1))))) = prs ((stN t).set i (p.1, (IntKind.i64.wrap (p.2 + 1)))) := cut_prs (by simp [hl])
          by_cases hv : (IntKind.i64.wrap (p.2 + 1)) = p.2
          · simp [go_sem, hl, hii, hp, hv]
            exact ⟨5, by decide, by decide, by decide⟩
          · have fb := from_bad (2 * (t : Int) - 1) 1 ((stN t).set i (p.1, (IntKind.i64.wrap (p.2 + 1)))) 260 (ng2 (IntKind.i64.wrap (p.2 + 1)) (fun h => hv h.symm)) (by decide)
            simp [go_sem, hl, hii, hp, hv, hset, e3, e4]
            refine (From_c (2 * t - 1) 1 ((stN t).set i (p.1, (IntKind.i64.wrap (p.2 + 1)))) (by simp [hl]; omega)).callF (by simp [go_sem, hl, hcut2]) ?_
            rintro _ rfl
            rw [fb.1, fb.2]
            simp [go_sem, Mov.v]
            refine (sameMovement_fun Mov.zero Mov.zero (by decide) (by decide)).callF (by simp [go_sem, Mov.v, Mov.zero]) ?_
            rintro _ rfl
            simp [go_sem]
            exact ⟨5, by decide, by decide, by decide⟩
        · simp [go_sem, e3, e4, e6]
          refine ⟨⟨by omega, by omega, by omega⟩, ?_⟩
          refine (Check_c (2 * t - 1) (stN t).tail (by simp [hl]; omega)).callF (by first | (simp [go_sem, hl, hcut3]; done) | (simp [go_sem, hl, hcut3]; omega)) ?_
          rintro _ rfl
          rw [k1]
          simp [go_sem, e3, e4, e6]
          refine (Check_c (2 * t) (stN t) (by omega)).callF (by first | (simp [go_sem, hl, hcut]; done) | (simp [go_sem, hl, hcut]; omega)) ?_
          rintro _ rfl
          rw [k2]
          simp [go_sem, e3, e4, e6]
          refine (Check_c (2 * t + 1) (stN t) (by omega)).callF (by first | (simp [go_sem, hl, hcut]; done) | (simp [go_sem, hl, hcut]; omega)) ?_
          rintro _ rfl
          rcases k3 with k3 | k3
          · rw [k3]
            simp [go_sem]
            exact hR _ _ _ rfl (by simp [go_sem])
          · rw [k3]
            simp [go_sem]
            exact hR _ _ _ rfl (by simp [go_sem])
    · simp [go_sem, ha2, ha24, e1, ht]
      have o := out_x a (by omega)
      refine (Prime_c a).callF (by simp [go_sem]) ?_
      rintro _ rfl
      rw [o.1, o.2.1]
      simp [go_sem]
      refine (Starter_c a).callF (by simp [go_sem]) ?_
      rintro _ rfl
      rw [o.2.2.1, o.2.2.2.1]
      simp [go_sem]
      refine (Make_c a 1).callF (by simp [go_sem]) ?_
      rintro _ rfl
      rw [o.2.2.2.2.1, o.2.2.2.2.2]
      simp [go_sem, Mov.v]
      refine (Make_c t (min a 0)).callF (by simp [go_sem]; split <;> omega) ?_
      rintro _ rfl
      rw [m1.1, m1.2]
      simp [go_sem, Mov.v, e3]
      refine (Make_c t (max a (2 * t))).callF (by simp [go_sem]; split <;> omega) ?_
      rintro _ rfl
      rw [m2.1, m2.2]
      simp [go_sem, Mov.v]
      refine (Starter_c t).callOF (by simp [go_sem]) ?_
      rintro _ rfl
      rw [s.1, s.2]
      refine ⟨_, 2, prs (stN t), Cx.tup1 0, by decide, rfl, by simp [go_sem], ?_⟩
      rcases hjj with hj | hj
      · simp [go_sem, hl, w0, e2, hi, wi, hi2, hj, wd, hii, hii2, hk0, hp, hq, e3, e4]
        refine ⟨by decide +kernel, ?_⟩
        refine IWp.loopT (α := Nat) (fun m => (⟨false, 211, 7, [7, 8, 9, 10, 12, 14, 16, 18, 19, 20, 21, 22, 24, 25, 26, 27, 29, 36, 103, 134, 135, 136, 137, 155, 171], [], [(8, .int .i64 (t : Int)), (19, .sl 3 (t - 1) 0 (t - 1) none), (21, .int .i64 (i : Int)), (22, .int .i64 0), (134, .sl 25 5 0 5 none), (135, .int .i64 5), (136, .int .i64 (m : Int))], []⟩, [.dead, .dead, .dead, .rows 2 (prs (stN t)), .hole, .hole, .hole, .hole, .hole, .hole, .hole, .hole, .hole, .hole, .hole, .hole, .hole, .hole, .hole, .hole, .hole, .hole, .hole, .hole, .hole, .rows 1 [[.int .i64 (0 : Int)], [.int .i64 a], [.int .i64 q.1], [.int .i64 (2 * (t : Int) - 1)], [.int .i64 (IntKind.i64.wrap (p.1 + 1))]]])) (fun m => m ≤ 5) (fun m => 5 - m) 0 (by decide) (by simp [go_sem, hl]) ?_
        intro m hm
        have hc : m = 0 ∨ m = 1 ∨ m = 2 ∨ m = 3 ∨ m = 4 ∨ m = 5 := by omega
        rcases hc with rfl | rfl | rfl | rfl | rfl | rfl
        · simp [go_sem]
          refine hcl.callOF (by simp [go_sem, hl, hcut]) ?_
          rintro _ rfl
          refine ⟨_, 2, prs (stN t), .here, by decide, rfl, by simp [go_sem], ?_⟩
          have hset : (prs (stN t)).set i [.int .i64 ((0 : Int), p.2).1, .int .i64 ((0 : Int), p.2).2] = prs ((stN t).set i ((0 : Int), p.2)) := prs_set.symm
          have hcut2 : cutR 0 (t - 1) (prs ((stN t).set i ((0 : Int), p.2))) = prs ((stN t).set i ((0 : Int), p.2)) := cut_prs (by simp [hl])
          by_cases hv : (0 : Int) = p.1
          · simp [go_sem, hl, hii, hp, hv.symm]
            exact ⟨1, by decide, by decide, by decide⟩
          · have fb := from_bad (2 * (t : Int) - 1) 1 ((stN t).set i ((0 : Int), p.2)) 260 (ng1 (0 : Int) (fun h => hv h.symm)) (by decide)
            simp [go_sem, hl, hii, hp, hv, hset, e3, e4]
            refine (From_c (2 * t - 1) 1 ((stN t).set i ((0 : Int), p.2)) (by simp [hl]; omega)).callF (by simp [go_sem, hl, hcut2]) ?_
            rintro _ rfl
            rw [fb.1, fb.2]
            simp [go_sem, Mov.v]
            refine (sameMovement_fun Mov.zero Mov.zero (by decide) (by decide)).callF (by simp [go_sem, Mov.v, Mov.zero]) ?_
            rintro _ rfl
            simp [go_sem]
            exact ⟨1, by decide, by decide, by decide⟩
        · simp [go_sem]
          refine hcl.callOF (by simp [go_sem, hl, hcut]) ?_
          rintro _ rfl
          refine ⟨_, 2, prs (stN t), .here, by decide, rfl, by simp [go_sem], ?_⟩
          have hset : (prs (stN t)).set i [.int .i64 (a, p.2).1, .int .i64 (a, p.2).2] = prs ((stN t).set i (a, p.2)) := prs_set.symm
          have hcut2 : cutR 0 (t - 1) (prs ((stN t).set i (a, p.2))) = prs ((stN t).set i (a, p.2)) := cut_prs (by simp [hl])
          by_cases hv : a = p.1
          · simp [go_sem, hl, hii, hp, hv]
            exact ⟨2, by decide, by decide, by decide⟩
          · have fb := from_bad (2 * (t : Int) - 1) 1 ((stN t).set i (a, p.2)) 260 (ng1 a (fun h => hv h.symm)) (by decide)
            simp [go_sem, hl, hii, hp, hv, hset, e3, e4]
            refine (From_c (2 * t - 1) 1 ((stN t).set i (a, p.2)) (by simp [hl]; omega)).callF (by simp [go_sem, hl, hcut2]) ?_
            rintro _ rfl
            rw [fb.1, fb.2]
            simp [go_sem, Mov.v]
            refine (sameMovement_fun Mov.zero Mov.zero (by decide) (by decide)).callF (by simp [go_sem, Mov.v, Mov.zero]) ?_
            rintro _ rfl
            simp [go_sem]
            exact ⟨2, by decide, by decide, by decide⟩
        · simp [go_sem]
          refine hcl.callOF (by simp [go_sem, hl, hcut]) ?_
          rintro _ rfl
          refine ⟨_, 2, prs (stN t), .here, by decide, rfl, by simp [go_sem], ?_⟩
          have hset : (prs (stN t)).set i [.int .i64 (q.1, p.2).1, .int .i64 (q.1, p.2).2] = prs ((stN t).set i (q.1, p.2)) := prs_set.symm
          have hcut2 : cutR 0 (t - 1) (prs ((stN t).set i (q.1, p.2))) = prs ((stN t).set i (q.1, p.2)) := cut_prs (by simp [hl])
          by_cases hv : q.1 = p.1
          · simp [go_sem, hl, hii, hp, hv]
            exact ⟨3, by decide, by decide, by decide⟩
          · have fb := from_bad (2 * (t : Int) - 1) 1 ((stN t).set i (q.1, p.2)) 260 (ng1 q.1 (fun h => hv h.symm)) (by decide)
            simp [go_sem, hl, hii, hp, hv, hset, e3, e4]
            refine (From_c (2 * t - 1) 1 ((stN t).set i (q.1, p.2)) (by simp [hl]; omega)).callF (by simp [go_sem, hl, hcut2]) ?_
            rintro _ rfl
            rw [fb.1, fb.2]
            simp [go_sem, Mov.v]
            refine (sameMovement_fun Mov.zero Mov.zero (by decide) (by decide)).callF (by simp [go_sem, Mov.v, Mov.zero]) ?_
            rintro _ rfl
            simp [go_sem]
            exact ⟨3, by decide, by decide, by decide⟩
        · simp [go_sem]
          refine hcl.callOF (by simp [go_sem, hl, hcut]) ?_
          rintro _ rfl
          refine ⟨_, 2, prs (stN t), .here, by decide, rfl, by simp [go_sem], ?_⟩
          have hset : (prs (stN t)).set i [.int .i64 ((2 * (t : Int) - 1), p.2).1, .int .i64 ((2 * (t : Int) - 1), p.2).2] = prs ((stN t).set i ((2 * (t : Int) - 1), p.2)) := prs_set.symm
          have hcut2 : cutR 0 (t - 1) (prs ((stN t).set i ((2 * (t : Int) - 1), p.2))) = prs ((stN t).set i ((2 * (t : Int) - 1), p.2)) := cut_prs (by simp [hl])
          by_cases hv : (2 * (t : Int) - 1) = p.1
          · simp [go_sem, hl, hii, hp, hv]
            exact ⟨4, by decide, by decide, by decide⟩
          · have fb := from_bad (2 * (t : Int) - 1) 1 ((stN t).set i ((2 * (t : Int) - 1), p.2)) 260 (ng1 (2 * (t : Int) - 1) (fun h => hv h.symm)) (by decide)
            simp [go_sem, hl, hii, hp, hv, hset, e3, e4]
            refine (From_c (2 * t - 1) 1 ((stN t).set i ((2 * (t : Int) - 1), p.2)) (by simp [hl]; omega)).callF (by simp [go_sem, hl, hcut2]) ?_
            rintro _ rfl
            rw [fb.1, fb.2]
            simp [go_sem, Mov.v]
            refine (sameMovement_fun Mov.zero Mov.zero (by decide) (by decide)).callF (by simp [go_sem, Mov.v, Mov.zero]) ?_
            rintro _ rfl
            simp [go_sem]
            exact ⟨4, by decide, by decide, by decide⟩
        · simp [go_sem]
          refine hcl.callOF (by simp [go_sem, hl, hcut]) ?_
          rintro _ rfl
          refine ⟨_, 2, prs (stN t), .here, by decide, rfl, by simp [go_sem], ?_⟩
          have hset : (prs (stN t)).set i [.int .i64 ((IntKind.i64.wrap (p.1 + 1)), p.2).1, .int .i64 ((IntKind.i64.wrap (p.1 + 1)), p.2).2] = prs ((stN t).set i ((IntKind.i64.wrap (p.1 + 1)), p.2)) := prs_set.symm
          have hcut2 : cutR 0 (t - 1) (prs ((stN t).set i ((IntKind.i64.wrap (p.1 + 1)), p.2))) = prs ((stN t).set i ((IntKind.i64.wrap (p.1 + 1)), p.2)) := cut_prs (by simp [hl])
          by_cases hv : (IntKind.i64.wrap (p.1 + 1)) = p.1
          · simp [go_sem, hl, hii, hp, hv]
            exact ⟨5, by decide, by decide, by decide⟩
          · have fb := from_bad (2 * (t : Int) - 1) 1 ((stN t).set i ((IntKind.i64.wrap (p.1 + 1)), p.2)) 260 (ng1 (IntKind.i64.wrap (p.1 + 1)) (fun h => hv h.symm)) (by decide)
            simp [go_sem, hl, hii, hp, hv, hset, e3, e4]
            refine (From_c (2 * t - 1) 1 ((stN t).set i ((IntKind.i64.wrap (p.1 + 1)), p.2)) (by simp [hl]; omega)).callF (by simp [go_sem, hl, hcut2]) ?_
            rintro _ rfl
            rw [fb.1, fb.2]
            simp [go_sem, Mov.v]
            refine (sameMovement_fun Mov.zero Mov.zero (by decide) (by decide)).callF (by simp [go_sem, Mov.v, Mov.zero]) ?_
            rintro _ rfl
            simp [go_sem]
            exact ⟨5, by decide, by decide, by decide⟩
        · simp [go_sem, e3, e4, e6]
          refine ⟨⟨by omega, by omega, by omega⟩, ?_⟩
          refine (Check_c (2 * t - 1) (stN t).tail (by simp [hl]; omega)).callF (by first | (simp [go_sem, hl, hcut3]; done) | (simp [go_sem, hl, hcut3]; omega)) ?_
          rintro _ rfl
          rw [k1]
          simp [go_sem, e3, e4, e6]
          refine (Check_c (2 * t) (stN t) (by omega)).callF (by first | (simp [go_sem, hl, hcut]; done) | (simp [go_sem, hl, hcut]; omega)) ?_
          rintro _ rfl
          rw [k2]
          simp [go_sem, e3, e4, e6]
          refine (Check_c (2 * t + 1) (stN t) (by omega)).callF (by first | (simp [go_sem, hl, hcut]; done) | (simp [go_sem, hl, hcut]; omega)) ?_
          rintro _ rfl
          rcases k3 with k3 | k3
          · rw [k3]
            simp [go_sem]
            exact hR _ _ _ rfl (by simp [go_sem])
          · rw [k3]
            simp [go_sem]
            exact hR _ _ _ rfl (by simp [go_sem])
      · simp [go_sem, hl, w0, e2, hi, wi, hi2, hj, wd, hii, hii2, hk0, hp, hq, e3, e4]
        refine ⟨by decide +kernel, ?_⟩
        refine IWp.loopT (α := Nat) (fun m => (⟨false, 211, 7, [7, 8, 9, 10, 12, 14, 16, 18, 19, 20, 21, 22, 24, 25, 26, 27, 29, 36, 103, 134, 135, 136, 137, 155, 171], [], [(8, .int .i64 (t : Int)), (19, .sl 3 (t - 1) 0 (t - 1) none), (21, .int .i64 (i : Int)), (22, .int .i64 1), (134, .sl 25 5 0 5 none), (135, .int .i64 5), (136, .int .i64 (m : Int))], []⟩, [.dead, .dead, .dead, .rows 2 (prs (stN t)), .hole, .hole, .hole, .hole, .hole, .hole, .hole, .hole, .hole, .hole, .hole, .hole, .hole, .hole, .hole, .hole, .hole, .hole, .hole, .hole, .hole, .rows 1 [[.int .i64 (0 : Int)], [.int .i64 a], [.int .i64 q.2], [.int .i64 (2 * (t : Int) - 1)], [.int .i64 (IntKind.i64.wrap (p.2 + 1))]]])) (fun m => m ≤ 5) (fun m => 5 - m) 0 (by decide) (by simp [go_sem, hl]) ?_
        intro m hm
        have hc : m = 0 ∨ m = 1 ∨ m = 2 ∨ m = 3 ∨ m = 4 ∨ m = 5 := by omega
        rcases hc with rfl | rfl | rfl | rfl | rfl | rfl
        · simp [go_sem]
          refine hcl.callOF (by simp [go_sem, hl, hcut]) ?_
          rintro _ rfl
          refine ⟨_, 2, prs (stN t), .here, by decide, rfl, by simp [go_sem], ?_⟩
          have hset : (prs (stN t)).set i [.int .i64 (p.1, (0 : Int)).1, .int .i64 (p.1, (0 : Int)).2] = prs ((stN t).set i (p.1, (0 : Int))) := prs_set.symm
          have hcut2 : cutR 0 (t - 1) (prs ((stN t).set i (p.1, (0 : Int)))) = prs ((stN t).set i (p.1, (0 : Int))) := cut_prs (by simp [hl])
          by_cases hv : (0 : Int) = p.2
          · simp [go_sem, hl, hii, hp, hv.symm]
            exact ⟨1, by decide, by decide, by decide⟩
          · have fb := from_bad (2 * (t : Int) - 1) 1 ((stN t).set i (p.1, (0 : Int))) 260 (ng2 (0 : Int) (fun h => hv h.symm)) (by decide)
            simp [go_sem, hl, hii, hp, hv, hset, e3, e4]
            refine (From_c (2 * t - 1) 1 ((stN t).set i (p.1, (0 : Int))) (by simp [hl]; omega)).callF (by simp [go_sem, hl, hcut2]) ?_
            rintro _ rfl
            rw [fb.1, fb.2]
            simp [go_sem, Mov.v]
            refine (sameMovement_fun Mov.zero Mov.zero (by decide) (by decide)).callF (by simp [go_sem, Mov.v, Mov.zero]) ?_
            rintro _ rfl
            simp [go_sem]
            exact ⟨1, by decide, by decide, by decide⟩
        · simp [go_sem]
          refine hcl.callOF (by simp [go_sem, hl, hcut]) ?_
          rintro _ rfl
          refine ⟨_, 2, prs (stN t), .here, by decide, rfl, by simp [go_sem], ?_⟩
          have hset : (prs (stN t)).set i [.int .i64 (p.1, a).1, .int .i64 (p.1, a).2] = prs ((stN t).set i (p.1, a)) := prs_set.symm
          have hcut2 : cutR 0 (t - 1) (prs ((stN t).set i (p.1, a))) = prs ((stN t).set i (p.1, a)) := cut_prs (by simp [hl])
          by_cases hv : a = p.2
          · simp [go_sem, hl, hii, hp, hv]
            exact ⟨2, by decide, by decide, by decide⟩
          · have fb := from_bad (2 * (t : Int) - 1) 1 ((stN t).set i (p.1, a)) 260 (ng2 a (fun h => hv h.symm)) (by decide)
            simp [go_sem, hl, hii, hp, hv, hset, e3, e4]
            refine (From_c (2 * t - 1) 1 ((stN t).set i (p.1, a)) (by simp [hl]; omega)).callF (by simp [go_sem, hl, hcut2]) ?_
            rintro _ rfl
            rw [fb.1, fb.2]
            simp [go_sem, Mov.v]
            refine (sameMovement_fun Mov.zero Mov.zero (by decide) (by decide)).callF (by simp [go_sem, Mov.v, Mov.zero]) ?_
            rintro _ rfl
            simp [go_sem]
            exact ⟨2, by decide, by decide, by decide⟩
        · simp [go_sem]
          refine hcl.callOF (by simp [go_sem, hl, hcut]) ?_
          rintro _ rfl
          refine ⟨_, 2, prs (stN t), .here, by decide, rfl, by simp [go_sem], ?_⟩
          have hset : (prs (stN t)).set i [.int .i64 (p.1, q.2).1, .int .i64 (p.1, q.2).2] = prs ((stN t).set i (p.1, q.2)) := prs_set.symm
          have hcut2 : cutR 0 (t - 1) (prs ((stN t).set i (p.1, q.2))) = prs ((stN t).set i (p.1, q.2)) := cut_prs (by simp [hl])
          by_cases hv : q.2 = p.2
          · simp [go_sem, hl, hii, hp, hv]
            exact ⟨3, by decide, by decide, by decide⟩
          · have fb := from_bad (2 * (t : Int) - 1) 1 ((stN t).set i (p.1, q.2)) 260 (ng2 q.2 (fun h => hv h.symm)) (by decide)
            simp [go_sem, hl, hii, hp, hv, hset, e3, e4]
            refine (From_c (2 * t - 1) 1 ((stN t).set i (p.1, q.2)) (by simp [hl]; omega)).callF (by simp [go_sem, hl, hcut2]) ?_
            rintro _ rfl
            rw [fb.1, fb.2]
            simp [go_sem, Mov.v]
            refine (sameMovement_fun Mov.zero Mov.zero (by decide) (by decide)).callF (by simp [go_sem, Mov.v, Mov.zero]) ?_
            rintro _ rfl
            simp [go_sem]
            exact ⟨3, by decide, by decide, by decide⟩
        · simp [go_sem]
          refine hcl.callOF (by simp [go_sem, hl, hcut]) ?_
          rintro _ rfl
          refine ⟨_, 2, prs (stN t), .here, by decide, rfl, by simp [go_sem], ?_⟩
          have hset : (prs (stN t)).set i [.int .i64 (p.1, (2 * (t : Int) - 1)).1, .int .i64 (p.1, (2 * (t : Int) - 1)).2] = prs ((stN t).set i (p.1, (2 * (t : Int) - 1))) := prs_set.symm
          have hcut2 : cutR 0 (t - 1) (prs ((stN t).set i (p.1, (2 * (t : Int) - 1)))) = prs ((stN t).set i (p.1, (2 * (t : Int) - 1))) := cut_prs (by simp [hl])
          by_cases hv : (2 * (t : Int) - 1) = p.2
          · simp [go_sem, hl, hii, hp, hv]
            exact ⟨4, by decide, by decide, by decide⟩
          · have fb := from_bad (2 * (t : Int) - 1) 1 ((stN t).set i (p.1, (2 * (t : Int) - 1))) 260 (ng2 (2 * (t : Int) - 1) (fun h => hv h.symm)) (by decide)
            simp [go_sem, hl, hii, hp, hv, hset, e3, e4]
            refine (From_c (2 * t - 1) 1 ((stN t).set i (p.1, (2 * (t : Int) - 1))) (by simp [hl]; omega)).callF (by simp [go_sem, hl, hcut2]) ?_
            rintro _ rfl
            rw [fb.1, fb.2]
            simp [go_sem, Mov.v]
            refine (sameMovement_fun Mov.zero Mov.zero (by decide) (by decide)).callF (by simp [go_sem, Mov.v, Mov.zero]) ?_
            rintro _ rfl
            simp [go_sem]
            exact ⟨4, by decide, by decide, by decide⟩
        · simp [go_sem]
          refine hcl.callOF (by simp [go_sem, hl, hcut]) ?_
          rintro _ rfl
          refine ⟨_, 2, prs (stN t), .here, by decide, rfl, by simp [go_sem], ?_⟩
          have hset : (prs (stN t)).set i [.int .i64 (p.1, (IntKind.i64.wrap (p.2 + 1))).1, .int .i64 (p.1, (IntKind.i64.wrap (p.2 + 1))).2] = prs ((stN t).set i (p.1, (IntKind.i64.wrap (p.2 + 1)))) := prs_set.symm
          have hcut2 : cutR 0 (t - 1) (prs ((stN t).set i (p.1, (IntKind.i64.wrap (p.2 + 1))))) = prs ((stN t).set i (p.1, (IntKind.i64.wrap (p.2 + 1)))) := cut_prs (by simp [hl])
          by_cases hv : (IntKind.i64.wrap (p.2 + 1)) = p.2
          · simp [go_sem, hl, hii, hp, hv]
            exact ⟨5, by decide, by decide, by decide⟩
          · have fb := from_bad (2 * (t : Int) - 1) 1 ((stN t).set i (p.1, (IntKind.i64.wrap (p.2 + 1)))) 260 (ng2 (IntKind.i64.wrap (p.2 + 1)) (fun h => hv h.symm)) (by decide)
            simp [go_sem, hl, hii, hp, hv, hset, e3, e4]
            refine (From_c (2 * t - 1) 1 ((stN t).set i (p.1, (IntKind.i64.wrap (p.2 + 1)))) (by simp [hl]; omega)).callF (by simp [go_sem, hl, hcut2]) ?_
            rintro _ rfl
            rw [fb.1, fb.2]
            simp [go_sem, Mov.v]
            refine (sameMovement_fun Mov.zero Mov.zero (by decide) (by decide)).callF (by simp [go_sem, Mov.v, Mov.zero]) ?_
            rintro _ rfl
            simp [go_sem]
            exact ⟨5, by decide, by decide, by decide⟩
        · simp [go_sem, e3, e4, e6]
          refine ⟨⟨by omega, by omega, by omega⟩, ?_⟩
          refine (Check_c (2 * t - 1) (stN t).tail (by simp [hl]; omega)).callF (by first | (simp [go_sem, hl, hcut3]; done) | (simp [go_sem, hl, hcut3]; omega)) ?_
          rintro _ rfl
          rw [k1]
          simp [go_sem, e3, e4, e6]
          refine (Check_c (2 * t) (stN t) (by omega)).callF (by first | (simp [go_sem, hl, hcut]; done) | (simp [go_sem, hl, hcut]; omega)) ?_
          rintro _ rfl
          rw [k2]
          simp [go_sem, e3, e4, e6]
          refine (Check_c (2 * t + 1) (stN t) (by omega)).callF (by first | (simp [go_sem, hl, hcut]; done) | (simp [go_sem, hl, hcut]; omega)) ?_
          rintro _ rfl
          rcases k3 with k3 | k3
          · rw [k3]
            simp [go_sem]
            exact hR _ _ _ rfl (by simp [go_sem])
          · rw [k3]
            simp [go_sem]
            exact hR _ _ _ rfl (by simp [go_sem])
  · simp [go_sem, ha2, e1, ht]
    have o := out_x a (by omega)
    refine (Prime_c a).callF (by simp [go_sem]) ?_
    rintro _ rfl
    rw [o.1, o.2.1]
    simp [go_sem]
    refine (Starter_c a).callF (by simp [go_sem]) ?_
    rintro _ rfl
    rw [o.2.2.1, o.2.2.2.1]
    simp [go_sem]
    refine (Make_c a 1).callF (by simp [go_sem]) ?_
    rintro _ rfl
    rw [o.2.2.2.2.1, o.2.2.2.2.2]
    simp [go_sem, Mov.v]
    refine (Make_c t (min a 0)).callF (by simp [go_sem]; split <;> omega) ?_
    rintro _ rfl
    rw [m1.1, m1.2]
    simp [go_sem, Mov.v, e3]
    refine (Make_c t (max a (2 * t))).callF (by simp [go_sem]; split <;> omega) ?_
    rintro _ rfl
    rw [m2.1, m2.2]
    simp [go_sem, Mov.v]
    refine (Starter_c t).callOF (by simp [go_sem]) ?_
    rintro _ rfl
    rw [s.1, s.2]
    refine ⟨_, 2, prs (stN t), Cx.tup1 0, by decide, rfl, by simp [go_sem], ?_⟩
    rcases hjj with hj | hj
    · simp [go_sem, hl, w0, e2, hi, wi, hi2, hj, wd, hii, hii2, hk0, hp, hq, e3, e4]
      refine ⟨by decide +kernel, ?_⟩
      refine IWp.loopT (α := Nat) (fun m => (⟨false, 211, 7, [7, 8, 9, 10, 12, 14, 16, 18, 19, 20, 21, 22, 24, 25, 26, 27, 29, 36, 103, 134, 135, 136, 137, 155, 171], [], [(8, .int .i64 (t : Int)), (19, .sl 3 (t - 1) 0 (t - 1) none), (21, .int .i64 (i : Int)), (22, .int .i64 0), (134, .sl 25 5 0 5 none), (135, .int .i64 5), (136, .int .i64 (m : Int))], []⟩, [.dead, .dead, .dead, .rows 2 (prs (stN t)), .hole, .hole, .hole, .hole, .hole, .hole, .hole, .hole, .hole, .hole, .hole, .hole, .hole, .hole, .hole, .hole, .hole, .hole, .hole, .hole, .hole, .rows 1 [[.int .i64 (0 : Int)], [.int .i64 a], [.int .i64 q.1], [.int .i64 (2 * (t : Int) - 1)], [.int .i64 (IntKind.i64.wrap (p.1 + 1))]]])) (fun m => m ≤ 5) (fun m => 5 - m) 0 (by decide) (by simp [go_sem, hl]) ?_
      intro m hm
      have hc : m = 0 ∨ m = 1 ∨ m = 2 ∨ m = 3 ∨ m = 4 ∨ m = 5 := by omega
      rcases hc with rfl | rfl | rfl | rfl | rfl | rfl
      · simp [go_sem]
        refine hcl.callOF (by simp [go_sem, hl, hcut]) ?_
        rintro _ rfl
        refine ⟨_, 2, prs (stN t), .here, by decide, rfl, by simp [go_sem], ?_⟩
        have hset : (prs (stN t)).set i [.int .i64 ((0 : Int), p.2).1, .int .i64 ((0 : Int), p.2).2] = prs ((stN t).set i ((0 : Int), p.2)) := prs_set.symm
        have hcut2 : cutR 0 (t - 1) (prs ((stN t).set i ((0 : Int), p.2))) = prs ((stN t).set i ((0 : Int), p.2)) := cut_prs (by simp [hl])
        by_cases hv : (0 : Int) = p.1
        · simp [go_sem, hl, hii, hp, hv.symm]
          exact ⟨1, by decide, by decide, by decide⟩
        · have fb := from_bad (2 * (t : Int) - 1) 1 ((stN t).set i ((0 : Int), p.2)) 260 (ng1 (0 : Int) (fun h => hv h.symm)) (by decide)
          simp [go_sem, hl, hii, hp, hv, hset, e3, e4]
          refine (From_c (2 * t - 1) 1 ((stN t).set i ((0 : Int), p.2)) (by simp [hl]; omega)).callF (by simp [go_sem, hl, hcut2]) ?_
          rintro _ rfl
          rw [fb.1, fb.2]
          simp [go_sem, Mov.v]
          refine (sameMovement_fun Mov.zero Mov.zero (by decide) (by decide)).callF (by simp [go_sem, Mov.v, Mov.zero]) ?_
          rintro _ rfl
          simp [go_sem]
          exact ⟨1, by decide, by decide, by decide⟩
      · simp [go_sem]
        refine hcl.callOF (by simp [go_sem, hl, hcut]) ?_
        rintro _ rfl
        refine ⟨_, 2, prs (stN t), .here, by decide, rfl, by simp [go_sem], ?_⟩
        have hset : (prs (stN t)).set i [.int .i64 (a, p.2).1, .int .i64 (a, p.2).2] = prs ((stN t).set i (a, p.2)) := prs_set.symm
        have hcut2 : cutR 0 (t - 1) (prs ((stN t).set i (a, p.2))) = prs ((stN t).set i (a, p.2)) := cut_prs (by simp [hl])
        by_cases hv : a = p.1
        · simp [go_sem, hl, hii, hp, hv]
          exact ⟨2, by decide, by decide, by decide⟩
        · have fb := from_bad (2 * (t : Int) - 1) 1 ((stN t).set i (a, p.2)) 260 (ng1 a (fun h => hv h.symm)) (by decide)
          simp [go_sem, hl, hii, hp, hv, hset, e3, e4]
          refine (From_c (2 * t - 1) 1 ((stN t).set i (a, p.2)) (by simp [hl]; omega)).callF (by simp [go_sem, hl, hcut2]) ?_
          rintro _ rfl
          rw [fb.1, fb.2]
          simp [go_sem, Mov.v]
          refine (sameMovement_fun Mov.zero Mov.zero (by decide) (by decide)).callF (by simp [go_sem, Mov.v, Mov.zero]) ?_
          rintro _ rfl
          simp [go_sem]
          exact ⟨2, by decide, by decide, by decide⟩
      · simp [go_sem]
        refine hcl.callOF (by simp [go_sem, hl, hcut]) ?_
        rintro _ rfl
        refine ⟨_, 2, prs (stN t), .here, by decide, rfl, by simp [go_sem], ?_⟩
        have hset : (prs (stN t)).set i [.int .i64 (q.1, p.2).1, .int .i64 (q.1, p.2).2] = prs ((stN t).set i (q.1, p.2)) := prs_set.symm
        have hcut2 : cutR 0 (t - 1) (prs ((stN t).set i (q.1, p.2))) = prs ((stN t).set i (q.1, p.2)) := cut_prs (by simp [hl])
        by_cases hv : q.1 = p.1
        · simp [go_sem, hl, hii, hp, hv]
          exact ⟨3, by decide, by decide, by decide⟩
        · have fb := from_bad (2 * (t : Int) - 1) 1 ((stN t).set i (q.1, p.2)) 260 (ng1 q.1 (fun h => hv h.symm)) (by decide)
          simp [go_sem, hl, hii, hp, hv, hset, e3, e4]
          refine (From_c (2 * t - 1) 1 ((stN t).set i (q.1, p.2)) (by simp [hl]; omega)).callF (by simp [go_sem, hl, hcut2]) ?_
          rintro _ rfl
          rw [fb.1, fb.2]
          simp [go_sem, Mov.v]
          refine (sameMovement_fun Mov.zero Mov.zero (by decide) (by decide)).callF (by simp [go_sem, Mov.v, Mov.zero]) ?_
          rintro _ rfl
          simp [go_sem]
          exact ⟨3, by decide, by decide, by decide⟩
      · simp [go_sem]
        refine hcl.callOF (by simp [go_sem, hl, hcut]) ?_
        rintro _ rfl
        refine ⟨_, 2, prs (stN t), .here, by decide, rfl, by simp [go_sem], ?_⟩
        have hset : (prs (stN t)).set i [.int .i64 ((2 * (t : Int) - 1), p.2).1, .int .i64 ((2 * (t : Int) - 1), p.2).2] = prs ((stN t).set i ((2 * (t : Int) - 1), p.2)) := prs_set.symm
        have hcut2 : cutR 0 (t - 1) (prs ((stN t).set i ((2 * (t : Int) - 1), p.2))) = prs ((stN t).set i ((2 * (t : Int) - 1), p.2)) := cut_prs (by simp [hl])
        by_cases hv : (2 * (t : Int) - 1) = p.1
        · simp [go_sem, hl, hii, hp, hv]
          exact ⟨4, by decide, by decide, by decide⟩
        · have fb := from_bad (2 * (t : Int) - 1) 1 ((stN t).set i ((2 * (t : Int) - 1), p.2)) 260 (ng1 (2 * (t : Int) - 1) (fun h => hv h.symm)) (by decide)
          simp [go_sem, hl, hii, hp, hv, hset, e3, e4]
          refine (From_c (2 * t - 1) 1 ((stN t).set i ((2 * (t : Int) - 1), p.2)) (by simp [hl]; omega)).callF (by simp [go_sem, hl, hcut2]) ?_
          rintro _ rfl
          rw [fb.1, fb.2]
          simp [go_sem, Mov.v]
          refine (sameMovement_fun Mov.zero Mov.zero (by decide) (by decide)).callF (by simp [go_sem, Mov.v, Mov.zero]) ?_
          rintro _ rfl
          simp [go_sem]
          exact ⟨4, by decide, by decide, by decide⟩
      · simp [go_sem]
        refine hcl.callOF (by simp [go_sem, hl, hcut]) ?_
        rintro _ rfl
        refine ⟨_, 2, prs (stN t), .here, by decide, rfl, by simp [go_sem], ?_⟩
        have hset : (prs (stN t)).set i [.int .i64 ((IntKind.i64.wrap (p.1 + 1)), p.2).1, .int .i64 ((IntKind.i64.wrap (p.1 + 1)), p.2).2] = prs ((stN t).set i ((IntKind.i64.wrap (p.1 + 1)), p.2)) := prs_set.symm
        have hcut2 : cutR 0 (t - 1) (prs ((stN t).set i ((IntKind.i64.wrap (p.1 + 1)), p.2))) = prs ((stN t).set i ((IntKind.i64.wrap (p.1 + 1)), p.2)) := cut_prs (by simp [hl])
        by_cases hv : (IntKind.i64.wrap (p.1 + 1)) = p.1
        · simp [go_sem, hl, hii, hp, hv]
          exact ⟨5, by decide, by decide, by decide⟩
        · have fb := from_bad (2 * (t : Int) - 1) 1 ((stN t).set i ((IntKind.i64.wrap (p.1 + 1)), p.2)) 260 (ng1 (IntKind.i64.wrap (p.1 + 1)) (fun h => hv h.symm)) (by decide)
          simp [go_sem, hl, hii, hp, hv, hset, e3, e4]
          refine (From_c (2 * t - 1) 1 ((stN t).set i ((IntKind.i64.wrap (p.1 + 1)), p.2)) (by simp [hl]; omega)).callF (by simp [go_sem, hl, hcut2]) ?_
          rintro _ rfl
          rw [fb.1, fb.2]
          simp [go_sem, Mov.v]
          refine (sameMovement_fun Mov.zero Mov.zero (by decide) (by decide)).callF (by simp [go_sem, Mov.v, Mov.zero]) ?_
          rintro _ rfl
          simp [go_sem]
          exact ⟨5, by decide, by decide, by decide⟩
      · simp [go_sem, e3, e4, e6]
        refine ⟨⟨by omega, by omega, by omega⟩, ?_⟩
        refine (Check_c (2 * t - 1) (stN t).tail (by simp [hl]; omega)).callF (by first | (simp [go_sem, hl, hcut3]; done) | (simp [go_sem, hl, hcut3]; omega)) ?_
        rintro _ rfl
        rw [k1]
        simp [go_sem, e3, e4, e6]
        refine (Check_c (2 * t) (stN t) (by omega)).callF (by first | (simp [go_sem, hl, hcut]; done) | (simp [go_sem, hl, hcut]; omega)) ?_
        rintro _ rfl
        rw [k2]
        simp [go_sem, e3, e4, e6]
        refine (Check_c (2 * t + 1) (stN t) (by omega)).callF (by first | (simp [go_sem, hl, hcut]; done) | (simp [go_sem, hl, hcut]; omega)) ?_
        rintro _ rfl
        rcases k3 with k3 | k3
        · rw [k3]
          simp [go_sem]
          exact hR _ _ _ rfl (by simp [go_sem])
        · rw [k3]
          simp [go_sem]
          exact hR _ _ _ rfl (by simp [go_sem])
    · simp [go_sem, hl, w0, e2, hi, wi, hi2, hj, wd, hii, hii2, hk0, hp, hq, e3, e4]
      refine ⟨by decide +kernel, ?_⟩
      refine IWp.loopT (α := Nat) (fun m => (⟨false, 211, 7, [7, 8, 9, 10, 12, 14, 16, 18, 19, 20, 21, 22, 24, 25, 26, 27, 29, 36, 103, 134, 135, 136, 137, 155, 171], [], [(8, .int .i64 (t : Int)), (19, .sl 3 (t - 1) 0 (t - 1) none), (21, .int .i64 (i : Int)), (22, .int .i64 1), (134, .sl 25 5 0 5 none), (135, .int .i64 5), (136, .int .i64 (m : Int))], []⟩, [.dead, .dead, .dead, .rows 2 (prs (stN t)), .hole, .hole, .hole, .hole, .hole, .hole, .hole, .hole, .hole, .hole, .hole, .hole, .hole, .hole, .hole, .hole, .hole, .hole, .hole, .hole, .hole, .rows 1 [[.int .i64 (0 : Int)], [.int .i64 a], [.int .i64 q.2], [.int .i64 (2 * (t : Int) - 1)], [.int .i64 (IntKind.i64.wrap (p.2 + 1))]]])) (fun m => m ≤ 5) (fun m => 5 - m) 0 (by decide) (by simp [go_sem, hl]) ?_
      intro m hm
      have hc : m = 0 ∨ m = 1 ∨ m = 2 ∨ m = 3 ∨ m = 4 ∨ m = 5 := by omega
      rcases hc with rfl | rfl | rfl | rfl | rfl | rfl
      · simp [go_sem]
        refine hcl.callOF (by simp [go_sem, hl, hcut]) ?_
        rintro _ rfl
        refine ⟨_, 2, prs (stN t), .here, by decide, rfl, by simp [go_sem], ?_⟩
        have hset : (prs (stN t)).set i [.int .i64 (p.1, (0 : Int)).1, .int .i64 (p.1, (0 : Int)).2] = prs ((stN t).set i (p.1, (0 : Int))) := prs_set.symm
        have hcut2 : cutR 0 (t - 1) (prs ((stN t).set i (p.1, (0 : Int)))) = prs ((stN t).set i (p.1, (0 : Int))) := cut_prs (by simp [hl])
        by_cases hv : (0 : Int) = p.2
        · simp [go_sem, hl, hii, hp, hv.symm]
          exact ⟨1, by decide, by decide, by decide⟩
        · have fb := from_bad (2 * (t : Int) - 1) 1 ((stN t).set i (p.1, (0 : Int))) 260 (ng2 (0 : Int) (fun h => hv h.symm)) (by decide)
          simp [go_sem, hl, hii, hp, hv, hset, e3, e4]
          refine (From_c (2 * t - 1) 1 ((stN t).set i (p.1, (0 : Int))) (by simp [hl]; omega)).callF (by simp [go_sem, hl, hcut2]) ?_
          rintro _ rfl
          rw [fb.1, fb.2]
          simp [go_sem, Mov.v]
          refine (sameMovement_fun Mov.zero Mov.zero (by decide) (by decide)).callF (by simp [go_sem, Mov.v, Mov.zero]) ?_
          rintro _ rfl
          simp [go_sem]
          exact ⟨1, by decide, by decide, by decide⟩
      · simp [go_sem]
        refine hcl.callOF (by simp [go_sem, hl, hcut]) ?_
        rintro _ rfl
        refine ⟨_, 2, prs (stN t), .here, by decide, rfl, by simp [go_sem], ?_⟩
        have hset : (prs (stN t)).set i [.int .i64 (p.1, a).1, .int .i64 (p.1, a).2] = prs ((stN t).set i (p.1, a)) := prs_set.symm
        have hcut2 : cutR 0 (t - 1) (prs ((stN t).set i (p.1, a))) = prs ((stN t).set i (p.1, a)) := cut_prs (by simp [hl])
        by_cases hv : a = p.2
        · simp [go_sem, hl, hii, hp, hv]
          exact ⟨2, by decide, by decide, by decide⟩
        · have fb := from_bad (2 * (t : Int) - 1) 1 ((stN t).set i (p.1, a)) 260 (ng2 a (fun h => hv h.symm)) (by decide)
          simp [go_sem, hl, hii, hp, hv, hset, e3, e4]
          refine (From_c (2 * t - 1) 1 ((stN t).set i (p.1, a)) (by simp [hl]; omega)).callF (by simp [go_sem, hl, hcut2]) ?_
          rintro _ rfl
          rw [fb.1, fb.2]
          simp [go_sem, Mov.v]
          refine (sameMovement_fun Mov.zero Mov.zero (by decide) (by decide)).callF (by simp [go_sem, Mov.v, Mov.zero]) ?_
          rintro _ rfl
          simp [go_sem]
          exact ⟨2, by decide, by decide, by decide⟩
      · simp [go_sem]
        refine hcl.callOF (by simp [go_sem, hl, hcut]) ?_
        rintro _ rfl
        refine ⟨_, 2, prs (stN t), .here, by decide, rfl, by simp [go_sem], ?_⟩
        have hset : (prs (stN t)).set i [.int .i64 (p.1, q.2).1, .int .i64 (p.1, q.2).2] = prs ((stN t).set i (p.1, q.2)) := prs_set.symm
        have hcut2 : cutR 0 (t - 1) (prs ((stN t).set i (p.1, q.2))) = prs ((stN t).set i (p.1, q.2)) := cut_prs (by simp [hl])
        by_cases hv : q.2 = p.2
        · simp [go_sem, hl, hii, hp, hv]
          exact ⟨3, by decide, by decide, by decide⟩
        · have fb := from_bad (2 * (t : Int) - 1) 1 ((stN t).set i (p.1, q.2)) 260 (ng2 q.2 (fun h => hv h.symm)) (by decide)
          simp [go_sem, hl, hii, hp, hv, hset, e3, e4]
          refine (From_c (2 * t - 1) 1 ((stN t).set i (p.1, q.2)) (by simp [hl]; omega)).callF (by simp [go_sem, hl, hcut2]) ?_
          rintro _ rfl
          rw [fb.1, fb.2]
          simp [go_sem, Mov.v]
          refine (sameMovement_fun Mov.zero Mov.zero (by decide) (by decide)).callF (by simp [go_sem, Mov.v, Mov.zero]) ?_
          rintro _ rfl
          simp [go_sem]
          exact ⟨3, by decide, by decide, by decide⟩
      · simp [go_sem]
        refine hcl.callOF (by simp [go_sem, hl, hcut]) ?_
        rintro _ rfl
        refine ⟨_, 2, prs (stN t), .here, by decide, rfl, by simp [go_sem], ?_⟩
        have hset : (prs (stN t)).set i [.int .i64 (p.1, (2 * (t : Int) - 1)).1, .int .i64 (p.1, (2 * (t : Int) - 1)).2] = prs ((stN t).set i (p.1, (2 * (t : Int) - 1))) := prs_set.symm
        have hcut2 : cutR 0 (t - 1) (prs ((stN t).set i (p.1, (2 * (t : Int) - 1)))) = prs ((stN t).set i (p.1, (2 * (t : Int) - 1))) := cut_prs (by simp [hl])
        by_cases hv : (2 * (t : Int) - 1) = p.2
        · simp [go_sem, hl, hii, hp, hv]
          exact ⟨4, by decide, by decide, by decide⟩
        · have fb := from_bad (2 * (t : Int) - 1) 1 ((stN t).set i (p.1, (2 * (t : Int) - 1))) 260 (ng2 (2 * (t : Int) - 1) (fun h => hv h.symm)) (by decide)
          simp [go_sem, hl, hii, hp, hv, hset, e3, e4]
          refine (From_c (2 * t - 1) 1 ((stN t).set i (p.1, (2 * (t : Int) - 1))) (by simp [hl]; omega)).callF (by simp [go_sem, hl, hcut2]) ?_
          rintro _ rfl
          rw [fb.1, fb.2]
          simp [go_sem, Mov.v]
          refine (sameMovement_fun Mov.zero Mov.zero (by decide) (by decide)).callF (by simp [go_sem, Mov.v, Mov.zero]) ?_
          rintro _ rfl
          simp [go_sem]
          exact ⟨4, by decide, by decide, by decide⟩
      · simp [go_sem]
        refine hcl.callOF (by simp [go_sem, hl, hcut]) ?_
        rintro _ rfl
        refine ⟨_, 2, prs (stN t), .here, by decide, rfl, by simp [go_sem], ?_⟩
        have hset : (prs (stN t)).set i [.int .i64 (p.1, (IntKind.i64.wrap (p.2 + 1))).1, .int .i64 (p.1, (IntKind.i64.wrap (p.2 + 1))).2] = prs ((stN t).set i (p.1, (IntKind.i64.wrap (p.2 + 1)))) := prs_set.symm
        have hcut2 : cutR 0 (t - 1) (prs ((stN t).set i (p.1, (IntKind.i64.wrap (p.2 + 1))))) = prs ((stN t).set i (p.1, (IntKind.i64.wrap (p.2 + 1)))) := cut_prs (by simp [hl])
        by_cases hv : (IntKind.i64.wrap (p.2 + 1)) = p.2
        · simp [go_sem, hl, hii, hp, hv]
          exact ⟨5, by decide, by decide, by decide⟩
        · have fb := from_bad (2 * (t : Int) - 1) 1 ((stN t).set i (p.1, (IntKind.i64.wrap (p.2 + 1)))) 260 (ng2 (IntKind.i64.wrap (p.2 + 1)) (fun h => hv h.symm)) (by decide)
          simp [go_sem, hl, hii, hp, hv, hset, e3, e4]
          refine (From_c (2 * t - 1) 1 ((stN t).set i (p.1, (IntKind.i64.wrap (p.2 + 1)))) (by simp [hl]; omega)).callF (by simp [go_sem, hl, hcut2]) ?_
          rintro _ rfl
          rw [fb.1, fb.2]
          simp [go_sem, Mov.v]
          refine (sameMovement_fun Mov.zero Mov.zero (by decide) (by decide)).callF (by simp [go_sem, Mov.v, Mov.zero]) ?_
          rintro _ rfl
          simp [go_sem]
          exact ⟨5, by decide, by decide, by decide⟩
      · simp [go_sem, e3, e4, e6]
        refine ⟨⟨by omega, by omega, by omega⟩, ?_⟩
        refine (Check_c (2 * t - 1) (stN t).tail (by simp [hl]; omega)).callF (by first | (simp [go_sem, hl, hcut3]; done) | (simp [go_sem, hl, hcut3]; omega)) ?_
        rintro _ rfl
        rw [k1]
        simp [go_sem, e3, e4, e6]
        refine (Check_c (2 * t) (stN t) (by omega)).callF (by first | (simp [go_sem, hl, hcut]; done) | (simp [go_sem, hl, hcut]; omega)) ?_
        rintro _ rfl
        rw [k2]
        simp [go_sem, e3, e4, e6]
        refine (Check_c (2 * t + 1) (stN t) (by omega)).callF (by first | (simp [go_sem, hl, hcut]; done) | (simp [go_sem, hl, hcut]; omega)) ?_
        rintro _ rfl
        rcases k3 with k3 | k3
        · rw [k3]
          simp [go_sem]
          exact hR _ _ _ rfl (by simp [go_sem])
        · rw [k3]
          simp [go_sem]
          exact hR _ _ _ rfl (by simp [go_sem])
end Go.Idl
