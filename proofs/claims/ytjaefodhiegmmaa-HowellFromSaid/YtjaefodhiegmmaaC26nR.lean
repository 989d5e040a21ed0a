import Derived.Test.YtjaefodhiegmmaaC26nQ
namespace Go.Idl
set_option linter.all false
open Go.Proofs
set_option maxHeartbeats 8000000
set_option maxRecDepth 40000

theorem HP_at (t : Nat) (h1 : 2 ≤ t) (h2 : t ≤ 24) (b : Bool) (h : hpb t = b) : pB t = b ∧ pN t = if b = true then 2 * (t : Int) - 1 else 0 := by
  have := HP_iff h1 h2
  unfold pB pN
  cases b with
  | true => have hp := this.2 h; exact ⟨by simp only [decide_eq_true_eq]; exact hp, by rw [if_pos hp]; simp⟩
  | false => have hp : ¬ HP t := fun hp => by rw [this.1 hp] at h; cases h
             exact ⟨by simp only [decide_eq_false_iff_not]; exact hp, by rw [if_neg hp]; simp⟩
theorem Rt_at (p : Nat) (h1 : 3 ≤ p) (h2 : p ≤ 1000) (h : isPb p = true) : rN p = rootN p 40 2 ∧ rE p = 0 := by
  have : RtOK p := ⟨by omega, by omega, (isPb_iff h2).1 h⟩
  unfold rN rE
  rw [if_pos this, if_pos this]
  exact ⟨by simp [rootOf], rfl⟩
theorem sL_at (t : Nat) (h1 : 2 ≤ t) (h2 : t ≤ 24) : sL t = stN t ∧ sE t = 0 := by
  have : 2 ≤ (t : Int) ∧ (t : Int) ≤ 24 := by omega
  unfold sL sE
  rw [if_pos this, if_pos this, stL_eq h1 h2]
  exact ⟨rfl, rfl⟩
instance (n : Int) : Decidable (BadN n) := by unfold BadN; infer_instance
instance (n : Int) (p : Int × Int) : Decidable (InR n p) := by unfold InR; infer_instance
instance (n : Int) (l : List (Int × Int)) : Decidable (Good n l) := by unfold Good; infer_instance
instance (n : Int) (l : List (Int × Int)) : Decidable (Str n l) := by unfold Str; infer_instance
theorem chk_at {n : Int} {l : List (Int × Int)} (h1 : ¬ BadN n) (h2 : (l.length : Int) = (n - 1).tdiv 2) (h3 : Good n l) (b : Bool) (h4 : decide (Str n l) = b) : chkB n l = b ∧ chkE n l = 0 := by
  unfold chkB chkE
  rw [if_neg h1, if_pos ⟨h2, h3⟩]
  refine ⟨?_, rfl⟩
  cases b with
  | true => simp only [decide_eq_true_eq]; exact ⟨h1, h2, h3, of_decide_eq_true h4⟩
  | false => simp only [decide_eq_false_iff_not]; exact fun h => of_decide_eq_false h4 h.2.2.2
theorem make_at (t : Nat) (r : Int) (h1 : 2 ≤ t) (h2 : t ≤ 24) (hb : chkE (2 * t - 1) (stN t) = 0) (h3 : 1 ≤ r) (h4 : r ≤ 2 * t - 1) : makeM t r = movOf (2 * t - 1) r (chkB (2 * t - 1) (stN t)) (stN t) ∧ makeE t r = 0 := by
  have : 2 ≤ (t : Int) ∧ (t : Int) ≤ 24 := by omega
  unfold makeM makeE
  rw [if_pos this, if_pos this, stL_eq h1 h2]
  unfold fromM fromE
  rw [if_pos ⟨hb, h3, h4⟩, if_neg (by omega), if_neg (by omega), if_neg (by omega)]
  exact ⟨rfl, rfl⟩
theorem stN_good : ∀ t : Nat, t < 25 → 2 ≤ t → ¬ BadN (2 * (t : Int) - 1) ∧ ((stN t).length : Int) = (2 * (t : Int) - 1 - 1).tdiv 2 ∧ Good (2 * (t : Int) - 1) (stN t) ∧ decide (Str (2 * (t : Int) - 1) (stN t)) = hpb t := by decide +kernel
theorem chk_st (t : Nat) (h1 : 2 ≤ t) (h2 : t ≤ 24) : chkB (2 * t - 1) (stN t) = hpb t ∧ chkE (2 * t - 1) (stN t) = 0 := by
  obtain ⟨a, b, c, d⟩ := stN_good t (by omega) h1
  exact chk_at a b c _ d

def enI (T : List (Int × Int)) : List (IV × IV) := enM (fun k => .int .i64 k) (fun v => .int .i64 v) T
@[go_sem] theorem bl_enI {n : Nat} {T : List (Int × Int)} : BlM n (enI T) = True := eq_true (en_bl (fun a => by simp [go_sem]) (fun b => by simp [go_sem]) T)
theorem enI_get {T : List (Int × Int)} {i : Nat} {kv : IV × IV} (h : (enI T)[i]? = some kv) : ∃ p, T[i]? = some p ∧ kv = (.int .i64 p.1, .int .i64 p.2) := by
  simp only [enI, enM, List.getElem?_map, Option.map_eq_some_iff] at h
  obtain ⟨p, h1, h2⟩ := h
  exact ⟨p, h1, h2.symm⟩
theorem enI_erase {T : List (Int × Int)} {i : Nat} : (enI T).eraseIdx i = enI (T.eraseIdx i) := by simp only [enI, enM]; exact (ChangeMaps.map_eraseIdx _ _ _).symm
theorem enI_nil {T : List (Int × Int)} (h : enI T = []) : T = [] := by simpa [enI, enM] using h

theorem awake_fun : IFun true Try.prog [] 12 [] (fun v => v = .bool true) := by
  refine IFun.of_bodyZ false 1 [1, 2, 3, 4, 5, 6, 7, 8, 9, 10, 11, 12, 13, 14, 15, 16, 17, 18, 19, 20, 23, 25, 42, 101, 158, 163, 164, 165, 166, 183, 191, 192, 193, 194, 214] Try.func12 rfl Try.call12 rfl fun R hR => ?_
  have p4 := HP_at 4 (by decide) (by decide) true (by decide +kernel)
  have p5 := HP_at 5 (by decide) (by decide) false (by decide +kernel)
  have p9 := HP_at 9 (by decide) (by decide) false (by decide +kernel)
  have p7 := HP_at 7 (by decide) (by decide) true (by decide +kernel)
  simp [go_sem, mset, keq]
  refine IWp.loopT (α := Option (Int × Int) × List (Int × Int)) (fun x => (⟨false, 216, 1, [1, 2, 3, 4, 5, 6, 7, 8, 9, 10, 11, 12, 13, 14, 15, 16, 17, 18, 19, 20, 23, 25, 42, 101, 158, 163, 164, 165, 166, 183, 191, 192, 193, 194, 214], [], [(23, .iter 1)], []⟩, [.dead, .iter (some 0) (enI [(4, 7), (5, 0), (9, 0), (7, 13)]) (x.1.map fun p => (.int .i64 p.1, .int .i64 p.2)) (enI x.2)]))
    (fun x => ∀ p ∈ x.2, p ∈ [((4 : Int), (7 : Int)), (5, 0), (9, 0), (7, 13)]) (fun x => x.2.length) (none, [(4, 7), (5, 0), (9, 0), (7, 13)]) (by simp) (by simp [go_sem, enI, enM]) ?_
  rintro ⟨cur, T⟩ hT
  simp only at hT
  simp [go_sem]
  refine ⟨fun h => ?_, fun i kv hkv => ?_⟩
  · simp [go_sem]
    have r7 := Rt_at 7 (by decide) (by decide) (by decide +kernel)
    have r13 := Rt_at 13 (by decide) (by decide) (by decide +kernel)
    have s4 := sL_at 4 (by decide) (by decide)
    have s3 := sL_at 3 (by decide) (by decide)
    have n7 : rootN 7 40 2 = 3 := by decide +kernel
    have n13 : rootN 13 40 2 = 2 := by decide +kernel
    have t4 : stN 4 = [(1, 3), (2, 6), (4, 5)] := by decide +kernel
    have t3 : stN 3 = [(1, 4), (2, 3)] := by decide +kernel
    have c5 := chk_st 3 (by decide) (by decide)
    have h3 : hpb 3 = false := by decide +kernel
    refine (Root_c 7).callF (by simp [go_sem]) ?_
    rintro _ rfl
    rw [show rN 7 = 3 from r7.1.trans (by rw [n7]; rfl), show rE 7 = 0 from r7.2]
    simp [go_sem]
    refine (Root_c 13).callF (by simp [go_sem]) ?_
    rintro _ rfl
    rw [show rN 13 = 2 from r13.1.trans (by rw [n13]; rfl), show rE 13 = 0 from r13.2]
    simp [go_sem]
    refine (Starter_c 4).callF (by simp [go_sem]) ?_
    rintro _ rfl
    rw [show sL 4 = [(1, 3), (2, 6), (4, 5)] from s4.1.trans t4, show sE 4 = 0 from s4.2]
    simp [go_sem]
    refine (Starter_c 3).callF (by simp [go_sem]) ?_
    rintro _ rfl
    rw [show sL 3 = [(1, 4), (2, 3)] from s3.1.trans t3, show sE 3 = 0 from s3.2]
    simp [go_sem]
    refine (Check_c 5 [(1, 4), (2, 3)] (by decide)).callF (by simp [go_sem]) ?_
    rintro _ rfl
    rw [show chkB 5 [(1, 4), (2, 3)] = false by rw [← t3]; exact c5.1.trans h3, show chkE 5 [(1, 4), (2, 3)] = 0 by rw [← t3]; exact c5.2]
    simp [go_sem]
    refine (slicesEqual_fun [(1, 3), (2, 6), (4, 5)] [(1, 3), (2, 6), (4, 5)] (by decide) (by decide)).callF (by simp [go_sem, prs, mp]) ?_
    rintro _ rfl
    simp [go_sem]
    refine (slicesEqual_fun [(1, 4), (2, 3)] [(1, 4), (2, 3)] (by decide) (by decide)).callF (by simp [go_sem, prs, mp]) ?_
    rintro _ rfl
    have z0 : IntKind.i64.wrap 0 = 0 := by decide
    simp [go_sem, z0]
    have c4 := chk_st 4 (by decide) (by decide)
    have h4 : hpb 4 = true := by decide +kernel
    have c2 := chk_st 2 (by decide) (by decide)
    have h2 : hpb 2 = false := by decide +kernel
    have m41 := make_at 4 1 (by decide) (by decide) c4.2 (by decide) (by decide)
    have m23 := make_at 2 3 (by decide) (by decide) c2.2 (by decide) (by decide)
    have v41 : movOf (2 * (4 : Nat) - 1) 1 (hpb 4) (stN 4) = ⟨4, 1, 7, 1, 1, [⟨0, 0, 8, 1, 0⟩, ⟨0, 1, 2, 4, 4⟩, ⟨0, 2, 3, 7, 1⟩, ⟨0, 3, 5, 6, 2⟩]⟩ := by decide +kernel
    have v23 : movOf (2 * (2 : Nat) - 1) 3 (hpb 2) (stN 2) = ⟨2, 3, 3, 2, 1, [⟨0, 0, 4, 1, 0⟩, ⟨0, 1, 2, 3, 0⟩, ⟨1, 0, 4, 2, 1⟩, ⟨1, 1, 3, 1, 1⟩, ⟨2, 0, 4, 3, 2⟩, ⟨2, 1, 1, 2, 2⟩]⟩ := by decide +kernel
    rw [c4.1, v41] at m41
    rw [c2.1, v23] at m23
    have e48 : makeE 4 8 = 5 := by
      have c4' : chkE (2 * 4 - 1) (stL 4) = 0 := by rw [show stL 4 = stN 4 from stL_eq (t := 4) (by decide) (by decide)]; exact c4.2
      unfold makeE fromE
      rw [if_pos (by decide), c4']
      simp
    refine (Make_c 4 1).callF (by simp [go_sem]) ?_
    rintro _ rfl
    rw [show makeM 4 1 = _ from m41.1, show makeE 4 1 = 0 from m41.2]
    simp [go_sem, Mov.v]
    refine (Make_c 2 3).callF (by simp [go_sem]) ?_
    rintro _ rfl
    rw [show makeM 2 3 = _ from m23.1, show makeE 2 3 = 0 from m23.2]
    simp [go_sem, Mov.v]
    refine (Make_c 4 8).callF (by simp [go_sem]) ?_
    rintro _ rfl
    rw [e48]
    simp [go_sem, Mov.v, z0]
    refine IWp.loopT (α := Nat) (fun i => (⟨false, 216, 1, [1, 2, 3, 4, 5, 6, 7, 8, 9, 10, 11, 12, 13, 14, 15, 16, 17, 18, 19, 20, 23, 25, 42, 101, 158, 163, 164, 165, 166, 183, 191, 192, 193, 194, 214], [], [(15, .ptr 4 1 0 0), (16, .ptr 5 1 0 0), (163, .sl 6 4 0 4 none), (164, .int .i64 4), (165, .int .i64 (i : Int))], []⟩, [.dead, .dead, .dead, .dead, .rows 6 [[.int .i64 4, .int .i64 1, .int .i64 7, .int .i64 1, .int .i64 1, .fz 5 (rws [⟨0, 0, 8, 1, 0⟩, ⟨0, 1, 2, 4, 4⟩, ⟨0, 2, 3, 7, 1⟩, ⟨0, 3, 5, 6, 2⟩])]], .rows 6 [[.int .i64 2, .int .i64 3, .int .i64 3, .int .i64 2, .int .i64 1, .fz 5 (rws [⟨0, 0, 4, 1, 0⟩, ⟨0, 1, 2, 3, 0⟩, ⟨1, 0, 4, 2, 1⟩, ⟨1, 1, 3, 1, 1⟩, ⟨2, 0, 4, 3, 2⟩, ⟨2, 1, 1, 2, 2⟩])]], .rows 3 [[.int .i64 8, .int .i64 1, .int .i64 0], [.int .i64 2, .int .i64 4, .int .i64 4], [.int .i64 3, .int .i64 7, .int .i64 1], [.int .i64 5, .int .i64 6, .int .i64 2]]]))
      (fun i => i ≤ 4) (fun i => 4 - i) 0 (by decide) (by simp [go_sem]) ?_
    intro i hi
    have hc : i = 0 ∨ i = 1 ∨ i = 2 ∨ i = 3 ∨ i = 4 := by omega
    have q0 : ((0 : Int) < 4) = True := eq_true (by decide)
    rcases hc with rfl | rfl | rfl | rfl | rfl
    · simp [go_sem, rws, mp, RowV.c]
      exact ⟨by decide +kernel, 1, by decide, by decide, by decide⟩
    · simp [go_sem, rws, mp, RowV.c]
      exact ⟨by decide +kernel, 2, by decide, by decide, by decide⟩
    · simp [go_sem, rws, mp, RowV.c]
      exact ⟨by decide +kernel, 3, by decide, by decide, by decide⟩
    · simp [go_sem, rws, mp, RowV.c]
      exact ⟨by decide +kernel, 4, by decide, by decide, by decide⟩
    · simp [go_sem, rws, mp, RowV.c]
      refine IWp.loopT (α := Nat) (fun i => (⟨false, 216, 1, [1, 2, 3, 4, 5, 6, 7, 8, 9, 10, 11, 12, 13, 14, 15, 16, 17, 18, 19, 20, 23, 25, 42, 101, 158, 163, 164, 165, 166, 183, 191, 192, 193, 194, 214], [], [(16, .ptr 5 1 0 0), (191, .sl 7 6 0 6 none), (192, .int .i64 6), (193, .int .i64 (i : Int))], []⟩, [.dead, .dead, .dead, .dead, .dead, .rows 6 [[.int .i64 2, .int .i64 3, .int .i64 3, .int .i64 2, .int .i64 1, .fz 5 (rws [⟨0, 0, 4, 1, 0⟩, ⟨0, 1, 2, 3, 0⟩, ⟨1, 0, 4, 2, 1⟩, ⟨1, 1, 3, 1, 1⟩, ⟨2, 0, 4, 3, 2⟩, ⟨2, 1, 1, 2, 2⟩])]], .dead, .rows 2 [[.int .i64 4, .int .i64 1], [.int .i64 2, .int .i64 3], [.int .i64 4, .int .i64 2], [.int .i64 3, .int .i64 1], [.int .i64 4, .int .i64 3], [.int .i64 1, .int .i64 2]]]))
        (fun i => i ≤ 6) (fun i => 6 - i) 0 (by decide) (by simp [go_sem, rws, mp, RowV.c, z0]) ?_
      intro i hi
      have hc : i = 0 ∨ i = 1 ∨ i = 2 ∨ i = 3 ∨ i = 4 ∨ i = 5 ∨ i = 6 := by omega
      rcases hc with rfl | rfl | rfl | rfl | rfl | rfl | rfl
      · simp [go_sem, rws, mp, RowV.c]
        exact ⟨by decide +kernel, 1, by decide, by decide, by decide⟩
      · simp [go_sem, rws, mp, RowV.c]
        exact ⟨by decide +kernel, 2, by decide, by decide, by decide⟩
      · simp [go_sem, rws, mp, RowV.c]
        exact ⟨by decide +kernel, 3, by decide, by decide, by decide⟩
      · simp [go_sem, rws, mp, RowV.c]
        exact ⟨by decide +kernel, 4, by decide, by decide, by decide⟩
      · simp [go_sem, rws, mp, RowV.c]
        exact ⟨by decide +kernel, 5, by decide, by decide, by decide⟩
      · simp [go_sem, rws, mp, RowV.c]
        exact ⟨by decide +kernel, 6, by decide, by decide, by decide⟩
      · simp [go_sem, rws, mp, RowV.c]
        exact hR _ _ _ rfl (by simp [go_sem])
  · obtain ⟨p, hp, rfl⟩ := enI_get hkv
    rw [enI_erase]
    have hmem := hT p (List.mem_of_getElem? hp)
    have hlt := (List.getElem?_eq_some_iff.1 hp).1
    have hT' : ∀ p ∈ T.eraseIdx i, p ∈ [((4 : Int), (7 : Int)), (5, 0), (9, 0), (7, 13)] := fun q hq => hT q (List.mem_of_mem_eraseIdx hq)
    have hlen : (T.eraseIdx i).length < T.length := by rw [List.length_eraseIdx, if_pos hlt]; omega
    have fin : ∃ y : Option (Int × Int) × List (Int × Int), y.1 = some p ∧ y.2 = T.eraseIdx i := ⟨(some p, T.eraseIdx i), rfl, rfl⟩
    simp only [List.mem_cons, List.not_mem_nil, or_false] at hmem
    rcases hmem with rfl | rfl | rfl | rfl
    · simp [go_sem]
      refine (Prime_c 4).callF (by simp [go_sem]) ?_
      rintro _ rfl
      rw [show pB 4 = true from p4.1, show pN 4 = 7 from p4.2]
      simp [go_sem]
      exact ⟨some _, T.eraseIdx i, ⟨⟨rfl, rfl⟩, fun a b x y h h1 h2 => by subst h1; subst h2; simp [go_sem]⟩, fun a b hab => by simpa using hT' (a, b) hab, hlen⟩
    · simp [go_sem]
      refine (Prime_c 5).callF (by simp [go_sem]) ?_
      rintro _ rfl
      rw [show pB 5 = false from p5.1, show pN 5 = 0 from p5.2]
      simp [go_sem]
      exact ⟨some _, T.eraseIdx i, ⟨⟨rfl, rfl⟩, fun a b x y h h1 h2 => by subst h1; subst h2; simp [go_sem]⟩, fun a b hab => by simpa using hT' (a, b) hab, hlen⟩
    · simp [go_sem]
      refine (Prime_c 9).callF (by simp [go_sem]) ?_
      rintro _ rfl
      rw [show pB 9 = false from p9.1, show pN 9 = 0 from p9.2]
      simp [go_sem]
      exact ⟨some _, T.eraseIdx i, ⟨⟨rfl, rfl⟩, fun a b x y h h1 h2 => by subst h1; subst h2; simp [go_sem]⟩, fun a b hab => by simpa using hT' (a, b) hab, hlen⟩
    · simp [go_sem]
      refine (Prime_c 7).callF (by simp [go_sem]) ?_
      rintro _ rfl
      rw [show pB 7 = true from p7.1, show pN 7 = 13 from p7.2]
      simp [go_sem]
      exact ⟨some _, T.eraseIdx i, ⟨⟨rfl, rfl⟩, fun a b x y h h1 h2 => by subst h1; subst h2; simp [go_sem]⟩, fun a b hab => by simpa using hT' (a, b) hab, hlen⟩
end Go.Idl
