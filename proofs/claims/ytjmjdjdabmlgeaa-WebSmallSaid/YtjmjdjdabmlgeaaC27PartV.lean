/-
  Chapter 27: tells.
  Chapter 27: WebTells.
-/
import Derived.Test.YtjmjdjdabmlgeaaC27PartT
import Derived.Test.YtjmjdjdabmlgeaaC27PartU
import Derived.Test.YtjmjdjdabmlgeaaC27PartK
import Derived.Test.YtjmjdjdabmlgeaaC27PartO
import Derived.Test.YtjmjdjdabmlgeaaC27PartL
import Derived.Test.YtjmjdjdabmlgeaaC27PartB
namespace Go.Idl
set_option linter.all false
open Go.Proofs
set_option maxHeartbeats 16000000
set_option maxRecDepth 40000

theorem MaxL.ex (l : List Rw) : ∃ g, MaxL l g := by
  have key : ∀ l' : List Rw, ∃ g : Int, (∀ x ∈ l', (ldN l x.r x.s : Int) ≤ g) ∧ (g = 0 ∧ l' = [] ∨ ∃ x ∈ l', g = ldN l x.r x.s) := fun l' => by
    induction l' with
    | nil => exact ⟨0, by simp, .inl ⟨rfl, rfl⟩⟩
    | cons x l' ih =>
      obtain ⟨g, h1, h2⟩ := ih
      by_cases h : g ≤ ldN l x.r x.s
      · refine ⟨ldN l x.r x.s, fun y hy => ?_, .inr ⟨x, by simp, rfl⟩⟩
        rcases List.mem_cons.1 hy with rfl | hy
        · exact Int.le_refl _
        · have := h1 y hy; omega
      · refine ⟨g, fun y hy => ?_, .inr ?_⟩
        · rcases List.mem_cons.1 hy with rfl | hy
          · omega
          · exact h1 y hy
        · rcases h2 with ⟨rfl, _⟩ | ⟨y, hy, e⟩
          · omega
          · exact ⟨y, by simp [hy], e⟩
  obtain ⟨g, h1, h2⟩ := key l
  exact ⟨g, h1, h2⟩
theorem feedsL_len (m : Mv) (r t : Int) : (feedsL m r t).length ≤ m.rows.length := by
  unfold feedsL
  split
  · simp
  · refine Nat.le_trans (srt_len _) ?_
    rw [List.length_map]; exact List.length_filter_le ..
theorem idleL_len (m : Mv) (r : Int) : (idleL m r).length ≤ 4096 := by
  unfold idleL
  rw [List.length_map]
  refine Nat.le_trans (List.length_filter_le ..) ?_
  rw [List.length_range]; exact loads_len m r
theorem tells27_fun (m : Mv) (r t : Int) (hl : m.rows.length ≤ 2 ^ 15) (hr : -2 ^ 63 ≤ r ∧ r < 2 ^ 63) : FN 13 [m.v, .int .i64 r, .int .i64 t] (fun v => v = .bool true) := by
  refine IFun.of_bodyZ false 13 [64, 68, 69, 70, 71] Try.func13 rfl Try.call13 rfl fun R hR => ?_
  have c1 := loads_fun m r (by omega)
  have c2 := feeds_fun m r t (by omega) hr
  have c3 := idle_fun m r (by omega)
  have c4 := refLoads27_fun m r (by omega)
  have c5 := refFeeds27_fun m r t hl hr
  have c6 := refIdle27_fun m r (by omega)
  obtain ⟨g, hg⟩ := MaxL.ex m.rows
  have c7 := (copies_fun m (by omega)).mono (V' := fun v => v = .int .i64 g) fun v ⟨g', e, h⟩ => by rw [e, h.eq hg]
  have c8 := (refCopies27_fun m (by omega)).mono (V' := fun v => v = .int .i64 g) fun v ⟨g', e, h⟩ => by rw [e, h.eq hg]
  have c9 := shared_fun m r hl
  have c10 := refShared27_fun m r hl
  have l1 := loads_len m r
  have l2 := feedsL_len m r t
  have l3 := idleL_len m r
  have l4 := sharedL_len m r hl
  generalize loadsL m r = A at *
  generalize feedsL m r t = B at *
  generalize idleL m r = C at *
  generalize sharedL m r = S at *
  have e1 := sameInts_fun A A (by omega)
  have e2 := sameInts_fun B B (by omega)
  have e3 := sameInts_fun C C (by omega)
  simp only [decide_true] at e1 e2 e3
  have e4 := equalPP_fun S (by omega)
  simp [go_sem, Mv.v]
  refine (lentMovement_calls m (by omega)).at [] (by simp [go_sem, Mv.v]) ?_
  rintro _ _ ⟨rfl, rfl⟩
  simp [go_sem, Mv.o, lentO]
  simp only [Mv.v] at *
  refine Drawn.intro (fun k => if k = 2 then .tup [.junk, .fz 1 (ints A)] else if k = 6 then .tup [.junk, .fz 1 (ints B)] else if k = 9 then .tup [.junk, .fz 1 (ints C)] else .tup []) ?_
  simp [go_sem, c1, c2, c3]
  have tk : ∀ l : List Int, List.take l.length (ints l) = ints l := fun l => List.take_of_length_le (by simp [ints, mp])
  have hcl2 : ∀ l : List Int, ∀ row ∈ ints l, ∀ c ∈ row, Cl c := fun l => ScR.cl (mp_sc (by simp [scal]))
  have hcl1 : ∀ row ∈ rws m.rows, ∀ c ∈ row, Cl c := ScR.cl (mp_sc (by simp [scal, Rw.c]))
  refine ⟨hcl1, by decide +kernel, ?_⟩
  refine Drawn.intro (fun k => if k = 3 then .fz 1 (ints A) else if k = 4 then .bool true else if k = 11 then .fz 1 (ints B) else if k = 12 then .bool true else if k = 19 then .fz 1 (ints C) else if k = 20 then .bool true else if k = 25 then .int .i64 g else if k = 27 then .int .i64 g else if k = 33 then .fz 2 (prR S) else if k = 36 then .fz 2 (prR S) else if k = 37 then .bool true else .tup []) ?_
  simp [go_sem, tk, eq_true hcl1, eq_true (hcl2 A), eq_true (hcl2 B), eq_true (hcl2 C), c4, c5, c6, c7, c8, c9, c10, e1, e2, e3, e4]
  refine ⟨by decide +kernel, ?_⟩
  have w1 : IntKind.i64.wrap 1 = 1 := by decide
  have w2 : IntKind.i64.wrap 2 = 2 := by decide
  have w3 : IntKind.i64.wrap 3 = 3 := by decide
  refine IWp.loopT (α := Nat) (fun i => (⟨false, 80, 13, [64, 68, 69, 70, 71], [], [(3, .ptr 0 1 0 0), (7, .ptr 4 1 0 0), (68, .sl 15 3 0 3 none), (69, .int .i64 3), (70, .int .i64 (i : Int))], []⟩, [.rows 6 [[.int .i64 m.tables, .int .i64 m.rounds, .int .i64 m.sets, .int .i64 m.copies, .int .i64 m.winners, .fz 5 (rws m.rows)]], .dead, .dead, .rows 5 (rws (m.rows ++ mks 12)), .rows 6 [[.int .i64 m.tables, .int .i64 m.rounds, .int .i64 m.sets, .int .i64 m.copies, .int .i64 m.winners, .sl 3 (m.rows.length + 12) 0 m.rows.length (some (m.rows.length + 12))]],
      .dead, .dead, if i = 0 then .rows 1 (ints A) else .dead, .dead, .dead, .dead, if i ≤ 1 then .rows 1 (ints B) else .dead, .dead, .dead, if i ≤ 2 then .rows 1 (ints C) else .dead, .rows 1 [[.sl 7 A.length 0 A.length none], [.sl 11 B.length 0 B.length none], [.sl 14 C.length 0 C.length none]]]))
    (fun i => i ≤ 3) (fun i => 3 - i) 0 (by simp) (by simp [go_sem]) ?_
  intro i hi
  rcases (by omega : i = 0 ∨ i = 1 ∨ i = 2 ∨ i = 3) with rfl | rfl | rfl | rfl
  · simp [go_sem]
    refine overInts_calls (rs := ints A) (by simp) (by simp) (by omega) ?_
    simp [go_sem, w1]
    exact ⟨1, by simp [go_sem], by omega, by omega⟩
  · simp [go_sem]
    refine overInts_calls (rs := ints B) (by simp) (by simp) (by omega) ?_
    simp [go_sem, w2]
    exact ⟨2, by simp [go_sem], by omega, by omega⟩
  · simp [go_sem]
    refine overInts_calls (rs := ints C) (by simp) (by simp) (by omega) ?_
    simp [go_sem, w3]
    exact ⟨3, by simp [go_sem], by omega, by omega⟩
  · simp [go_sem]
    refine (keptMovement_calls m (by omega)).at [3] (by simp [go_sem, Mv.o, Mv.v, lentO]) ?_
    rintro _ _ ⟨rfl, rfl⟩
    simp [go_sem]
    exact hR _ _ _ rfl (by simp [go_sem])
end Go.Idl
namespace Go.Idl
set_option linter.all false
open Go.Proofs
set_option maxHeartbeats 16000000
set_option maxRecDepth 40000

theorem webTells_law (m : Mv) (r t : Int) (h0 : (Lit.int .i64 r).wf = true) : FN 4 [.agg m.cells, .int .i64 r, .int .i64 t] (fun v => v = .bool true) := by
  refine IFun.of_bodyZ false 7 [20] Try.func4 rfl Try.call4 rfl fun R hR => ?_
  have ct := fun h => tells27_fun m r t h (wf64 h0)
  have ca := awake27_fun
  obtain ⟨tb, ro, se, co, wi, L⟩ := m
  simp only [Mv.v, Mv.cells] at *
  by_cases hl : 80 < L.length
  · have hl' : (80 : Int) < L.length := by omega
    simp [go_sem, hl']
    refine ca.callF (by simp [go_sem]) ?_
    rintro _ rfl
    simp [go_sem]
    exact hR _ _ _ rfl (by simp [go_sem])
  · have hl' : ¬ (80 : Int) < L.length := by omega
    by_cases h1 : 200 < se
    · by_cases h2 : se ≤ 4096
      · simp [go_sem, hl', h1, h2]
        refine ca.callF (by simp [go_sem]) ?_
        rintro _ rfl
        simp [go_sem]
        exact hR _ _ _ rfl (by simp [go_sem])
      · have h2' : 4096 < se := by omega
        simp [go_sem, hl', h1, h2, h2']
        refine (ct (by omega)).callF (by simp [go_sem]) ?_
        rintro _ rfl
        simp [go_sem]
        refine ca.callF (by simp [go_sem]) ?_
        rintro _ rfl
        simp [go_sem]
        exact hR _ _ _ rfl (by simp [go_sem])
    · simp [go_sem, hl', h1]
      refine (ct (by omega)).callF (by simp [go_sem]) ?_
      rintro _ rfl
      simp [go_sem]
      refine ca.callF (by simp [go_sem]) ?_
      rintro _ rfl
      simp [go_sem]
      exact hR _ _ _ rfl (by simp [go_sem])
end Go.Idl
