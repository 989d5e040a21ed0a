/-
  Chapter 27: the reference's Shared.
  Chapter 27: the reference's Feeds.
-/
import Derived.Test.YtjmjdjdabmlgeaaC27PartT
import Derived.Test.YtjmjdjdabmlgeaaC27PartJ
namespace Go.Idl
set_option linter.all false
open Go.Proofs
set_option maxHeartbeats 16000000
set_option maxRecDepth 40000

theorem bothB_succ {L : List Rw} {r a b : Int} {l : List Rw} {j : Nat} (h : j < l.length) : (l.take (j + 1)).any (fun x => x.r == r && x.t == a && hasB L r b x.s) = ((l.take j).any (fun x => x.r == r && x.t == a && hasB L r b x.s) || (l[j].r == r && l[j].t == a && hasB L r b l[j].s)) := by
  rw [List.take_succ_eq_append_getElem h, List.any_append]; simp
theorem refShared27_fun (m : Mv) (r : Int) (hl : m.rows.length ≤ 2 ^ 15) : FN 37 [m.v, .int .i64 r] (fun v => v = .fz 2 (prR (sharedL m r))) := by
  refine IFun.of_bodyW false 11 [16, 24, 31, 69, 70] Try.func37 rfl Try.call37 rfl fun R hR => ?_
  have ct := tables27_fun m (by omega)
  have ch := fun t s => has27_fun m r t s (by omega)
  have hall := shI_all (bothB m.rows r) (tabsL m.rows)
  have hTl : (tabsL m.rows).length ≤ 2 ^ 15 := Nat.le_trans (srt_len _) (by rw [List.length_map]; exact hl)
  have hsl := prsL_len (bothB m.rows r) (tabsL m.rows)
  unfold sharedL at hR
  rw [← hall] at hR
  have hsub : ∀ i, (shI (bothB m.rows r) (tabsL m.rows) i).length ≤ i * 2 ^ 15 := fun i => by
    induction i with
    | zero => simp [shI]
    | succ i ih =>
      rw [shI_succ, List.length_append]
      have : (rowP (bothB m.rows r) (tabsL m.rows) i).length ≤ (tabsL m.rows).length := by
        unfold rowP
        cases hd : (tabsL m.rows).drop i with
        | nil => simp
        | cons a M =>
          have h1 := congrArg List.length hd
          rw [List.length_drop, List.length_cons] at h1
          have h2 := List.length_filter_le (bothB m.rows r a) M
          simp only [List.length_map]; omega
      omega
  obtain ⟨tb, ro, se, co, wi, L⟩ := m
  simp only [Mv.v] at *
  generalize tabsL L = T at *
  refine IWp.seqI ?_
  simp [go_sem]
  refine IWp.seqI ?_
  simp [go_sem]
  refine IWp.seqI ?_
  simp [go_sem]
  refine ct.callM (by simp [go_sem]) ?_
  rintro _ rfl
  simp [go_sem]
  refine IWp.ownNilS 2 5 (by decide) rfl ?_
  refine IWp.seq ?_
  refine IWp.seqI ?_
  simp [go_sem]
  refine IWp.block ?_
  refine IWp.loopI (α := Nat) (fun i => (⟨false, 84, 11, [16, 24, 31, 69, 70], [], [(1, .int .i64 r), (2, .ptr 0 1 0 0), (5, .sl 1 (shI (bothB L r) T i).length 0 (shI (bothB L r) T i).length none), (6, .fz 1 (ints T)), (7, .int .i64 (i : Int))], []⟩, [.rows 6 [[.int .i64 tb, .int .i64 ro, .int .i64 se, .int .i64 co, .int .i64 wi, .fz 5 (rws L)]], .rows 2 (prR (shI (bothB L r) T i))]))
    (fun i => i ≤ T.length) (fun i => T.length - i) 0 (by simp) (by simp [go_sem, shI, prR]) ?_
  intro i hi
  refine IWp.seq ?_
  refine IWp.seqI ?_
  simp [go_sem]
  by_cases h : i < T.length
  · have v1 : IntKind.i64.wrap ((i : Int) + 1) = ((i + 1 : Nat) : Int) := by rw [wrap64 (by omega) (by omega)]; omega
    obtain ⟨x, hx⟩ : ∃ x, T[i] = x := ⟨_, rfl⟩
    obtain ⟨D, hD⟩ : ∃ D, T.drop (i + 1) = D := ⟨_, rfl⟩
    have hDl : D.length = T.length - (i + 1) := by rw [← hD, List.length_drop]
    have hDg : ∀ q (h : q < D.length), ∃ h2 : i + 1 + q < T.length, T[i + 1 + q] = D[q] := fun q h => by
      subst hD
      exact ⟨by rw [List.length_drop] at h; omega, by rw [List.getElem_drop]⟩
    have hS1 : shI (bothB L r) T (i + 1) = shI (bothB L r) T i ++ (D.filter (bothB L r x)).map fun b => (x, b) := by
      rw [shI_succ]
      congr 1
      unfold rowP
      rw [List.drop_eq_getElem_cons h, hx, hD]
    have hS0 := hsub i
    have hi15 : i * 2 ^ 15 ≤ 2 ^ 15 * 2 ^ 15 := Nat.mul_le_mul_right _ (by omega)
    generalize shI (bothB L r) T i = S at *
    refine IWp.now ?_
    simp [go_sem, h]
    refine IWp.seq ?_
    refine IWp.block ?_
    refine IWp.seqI ?_
    simp [go_sem, v1]
    refine IWp.block ?_
    refine IWp.loopI (α := Nat) (fun q => (⟨false, 84, 11, [16, 24, 31, 69, 70], [], [(1, .int .i64 r), (2, .ptr 0 1 0 0), (5, .sl 1 (S.length + ((D.take q).filter (bothB L r x)).length) 0 (S.length + ((D.take q).filter (bothB L r x)).length) none), (6, .fz 1 (ints T)), (7, .int .i64 (i : Int)), (8, .int .i64 ((i + 1 + q : Nat) : Int))], []⟩, [.rows 6 [[.int .i64 tb, .int .i64 ro, .int .i64 se, .int .i64 co, .int .i64 wi, .fz 5 (rws L)]], .rows 2 (prR (S ++ ((D.take q).filter (bothB L r x)).map fun b => (x, b)))]))
      (fun q => q ≤ D.length) (fun q => D.length - q) 0 (by simp) (by simp [go_sem]) ?_
    intro q hq
    have hfl := List.length_filter_le (bothB L r x) (D.take q)
    rw [List.length_take] at hfl
    obtain ⟨k, hk⟩ : ∃ k, i + 1 + q = k := ⟨_, rfl⟩
    rw [hk]
    refine IWp.seq ?_
    refine IWp.seqI ?_
    simp [go_sem]
    by_cases h2 : q < D.length
    · have h3 : k < T.length := by omega
      have v2 : IntKind.i64.wrap ((k : Int) + 1) = ((k + 1 : Nat) : Int) := by rw [wrap64 (by omega) (by omega)]; omega
      obtain ⟨y, hy⟩ : ∃ y, T[k] = y := ⟨_, rfl⟩
      have qx : (ints T)[i]?.getD [] = [.int .i64 x] := by rw [List.getElem?_eq_getElem (by simpa using h), Option.getD_some, ints_getElem, hx]
      have qy : (ints T)[k]?.getD [] = [.int .i64 y] := by rw [List.getElem?_eq_getElem (by simpa using h3), Option.getD_some, ints_getElem, hy]
      have hDy : D[q] = y := by
        obtain ⟨_, e⟩ := hDg q h2
        subst hk; rw [← hy, e]
      have hfs : (D.take (q + 1)).filter (bothB L r x) = (D.take q).filter (bothB L r x) ++ (if bothB L r x y = true then [y] else []) := by
        rw [List.take_succ_eq_append_getElem h2, List.filter_append, hDy]
        by_cases hb : bothB L r x y = true
        · rw [if_pos hb, List.filter_cons_of_pos hb]; simp
        · rw [if_neg hb, List.filter_cons_of_neg hb]; simp
      generalize hF : (D.take q).filter (bothB L r x) = F at *
      refine IWp.now ?_
      simp [go_sem, h3]
      refine IWp.seq ?_
      refine IWp.block ?_
      refine IWp.seqI ?_
      simp [go_sem]
      refine IWp.seq ?_
      refine IWp.seqI ?_
      simp [go_sem]
      refine IWp.block ?_
      refine IWp.loopI (α := Nat) (fun j => (⟨false, 84, 11, [16, 24, 31, 69, 70], [], [(1, .int .i64 r), (2, .ptr 0 1 0 0), (5, .sl 1 (S.length + F.length) 0 (S.length + F.length) none), (6, .fz 1 (ints T)), (7, .int .i64 (i : Int)), (8, .int .i64 (k : Int)), (9, .bool ((L.take j).any fun z => z.r == r && z.t == x && hasB L r y z.s)), (10, .int .i64 (j : Int))], []⟩, [.rows 6 [[.int .i64 tb, .int .i64 ro, .int .i64 se, .int .i64 co, .int .i64 wi, .fz 5 (rws L)]], .rows 2 (prR (S ++ F.map fun b => (x, b)))]))
        (fun j => j ≤ L.length) (fun j => L.length - j) 0 (by simp) (by simp [go_sem]) ?_
      intro j hj
      refine IWp.seq ?_
      refine IWp.seqI ?_
      simp [go_sem]
      by_cases h4 : j < L.length
      · have v3 : IntKind.i64.wrap ((j : Int) + 1) = ((j + 1 : Nat) : Int) := by rw [wrap64 (by omega) (by omega)]; omega
        have hbs := bothB_succ (L := L) (r := r) (a := x) (b := y) h4
        obtain ⟨z, hz⟩ : ∃ z, L[j] = z := ⟨_, rfl⟩
        rw [hz] at hbs
        generalize hA : (L.take j).any (fun z => z.r == r && z.t == x && hasB L r y z.s) = A at *
        have cz := ch y z.s
        obtain ⟨b, hb⟩ : ∃ b, hasB L r y z.s = b := ⟨_, rfl⟩
        rw [hb] at cz hbs
        refine IWp.now ?_
        simp [go_sem, h4]
        refine IWp.seq ?_
        refine IWp.block ?_
        refine IWp.seqI ?_
        by_cases h5 : z.r = r
        · by_cases h6 : z.t = x
          · simp [go_sem]
            refine Drawn.intro (fun k => if k = 34 then .bool b else .tup []) ?_
            simp [go_sem, h4, hz, h5, h6, h, h3, hy, hx, qx, qy, cz]
            refine ⟨by decide +kernel, ?_⟩
            refine IWp.now ?_
            cases b with
            | true =>
              simp [go_sem]
              refine IWp.now ?_
              simp [go_sem, v3]
              exact ⟨j + 1, ⟨⟨z, by rw [List.take_succ_eq_append_getElem h4, hz]; simp, ⟨h5, h6⟩, hb⟩, rfl⟩, by omega, by omega⟩
            | false =>
              simp [go_sem]
              refine IWp.now ?_
              simp [go_sem, v3]
              exact ⟨j + 1, ⟨by rw [hbs]; simp, rfl⟩, by omega, by omega⟩
          · have h6b : (z.t == x) = false := by simpa using h6
            simp [go_sem]
            refine Drawn.intro (fun k => if k = 34 then .bool b else .tup []) ?_
            simp [go_sem, h6b, h4, hz, h5, h6, h, h3, hy, hx, qx, qy, cz]
            refine ⟨by decide +kernel, ?_⟩
            refine IWp.now ?_
            simp [go_sem]
            refine IWp.now ?_
            simp [go_sem, v3]
            exact ⟨j + 1, ⟨by rw [hbs, h6b]; simp, rfl⟩, by omega, by omega⟩
        · have h5b : (z.r == r) = false := by simpa using h5
          simp [go_sem]
          refine Drawn.intro (fun k => if k = 34 then .bool b else .tup []) ?_
          simp [go_sem, h5b, h4, hz, h5, h, h3, hy, hx, qx, qy, cz]
          refine ⟨by decide +kernel, ?_⟩
          refine IWp.now ?_
          simp [go_sem]
          refine IWp.now ?_
          simp [go_sem, v3]
          exact ⟨j + 1, ⟨by rw [hbs, h5b]; simp, rfl⟩, by omega, by omega⟩
      · obtain rfl : j = L.length := by omega
        refine IWp.now ?_
        simp [go_sem]
        have hB : (L.any fun z => z.r == r && z.t == x && hasB L r y z.s) = bothB L r x y := rfl
        rw [hB]
        cases hb : bothB L r x y with
        | true =>
          rw [hb, if_pos rfl] at hfs
          have hsn := prR_snoc (S ++ F.map fun b => (x, b)) x y
          refine IWp.seqI ?_
          simp [go_sem]
          refine IWp.now ?_
          simp [go_sem, h, h3, hx, hy]
          refine ⟨by omega, by decide +kernel, ?_⟩
          refine IWp.now ?_
          simp [go_sem, v2]
          refine ⟨q + 1, ⟨⟨by rw [hfs]; simp; omega, by omega⟩, ?_⟩, by omega, by omega⟩
          rw [hfs, List.map_append, ← List.append_assoc]
          exact hsn
        | false =>
          rw [hb, if_neg (by simp), List.append_nil] at hfs
          refine IWp.seqI ?_
          simp [go_sem]
          refine IWp.now ?_
          simp [go_sem, v2]
          refine IWp.now ?_
          simp [go_sem, v2]
          exact ⟨q + 1, ⟨⟨by rw [hfs], by omega⟩, by rw [hfs]⟩, by omega, by omega⟩
    · have h3 : ¬ k < T.length := by omega
      obtain rfl : q = D.length := by omega
      refine IWp.now ?_
      simp [go_sem, h3]
      refine IWp.now ?_
      simp [go_sem, v1]
      exact ⟨i + 1, ⟨⟨by rw [hS1]; simp, by omega⟩, by rw [hS1]⟩, by omega, by omega⟩
  · obtain rfl : i = T.length := by omega
    refine IWp.now ?_
    simp [go_sem]
    refine IWp.now ?_
    simp [go_sem]
    exact hR _ _ _ rfl (by simp [go_sem])
end Go.Idl
namespace Go.Idl
set_option linter.all false
open Go.Proofs
set_option maxHeartbeats 16000000
set_option maxRecDepth 40000

/-- Whether a table is fed, as the reference asks. -/
def fedR (L : List Rw) (r t a : Int) (l : List Rw) : Bool := l.any fun x => x.r == r && x.t == t && decide (-9223372036854775808 < r) && hasB L (r - 1) a x.s
theorem fedR_succ {L : List Rw} {r t a : Int} {l : List Rw} {j : Nat} (h : j < l.length) : fedR L r t a (l.take (j + 1)) = (fedR L r t a (l.take j) || (l[j].r == r && l[j].t == t && decide (-9223372036854775808 < r) && hasB L (r - 1) a l[j].s)) := by
  unfold fedR
  rw [List.take_succ_eq_append_getElem h, List.any_append]; simp
theorem feedsL_ref {m : Mv} {r t : Int} (hr : -2 ^ 63 ≤ r) : feedsL m r t = (tabsL m.rows).filter fun a => fedR m.rows r t a m.rows && decide (a ≠ t) := by
  rw [feedsL_eq]
  refine List.filter_congr fun a _ => ?_
  congr 1
  have : decide (-9223372036854775808 < r ∨ r < -9223372036854775808) = decide (-9223372036854775808 < r) := by
    refine decide_eq_decide.2 ⟨fun h => ?_, .inl⟩
    rcases h with h | h
    · exact h
    · omega
  rw [this]
  unfold fedR
  by_cases h : -9223372036854775808 < r
  · simp [h]
  · simp [h]
theorem refFeeds27_fun (m : Mv) (r t : Int) (hl : m.rows.length ≤ 2 ^ 15) (hr : -2 ^ 63 ≤ r ∧ r < 2 ^ 63) : FN 34 [m.v, .int .i64 r, .int .i64 t] (fun v => v = .fz 1 (ints (feedsL m r t))) := by
  refine IFun.of_bodyW false 12 [17, 24, 64, 73] Try.func34 rfl Try.call34 rfl fun R hR => ?_
  have ct := tables27_fun m (by omega)
  have ch := fun a s => has27_fun m (r - 1) a s (by omega)
  have hTl : (tabsL m.rows).length ≤ 2 ^ 15 := Nat.le_trans (srt_len _) (by rw [List.length_map]; exact hl)
  rw [feedsL_ref hr.1] at hR
  obtain ⟨tb, ro, se, co, wi, L⟩ := m
  simp only [Mv.v] at *
  generalize tabsL L = T at *
  obtain ⟨pF, hpF⟩ : ∃ pF : Int → Bool, pF = fun a => fedR L r t a L && decide (a ≠ t) := ⟨_, rfl⟩
  rw [← hpF] at hR
  refine IWp.seqI ?_
  simp [go_sem]
  refine IWp.seqI ?_
  simp [go_sem]
  refine IWp.seqI ?_
  simp [go_sem]
  refine ct.callM (by simp [go_sem]) ?_
  rintro _ rfl
  simp [go_sem]
  refine IWp.ownNilS 1 7 (by decide) rfl ?_
  refine IWp.seq ?_
  refine IWp.seqI ?_
  simp [go_sem]
  refine IWp.block ?_
  refine IWp.loopI (α := Nat) (fun i => (⟨false, 82, 12, [17, 24, 64, 73], [], [(1, .int .i64 r), (2, .int .i64 t), (3, .ptr 0 1 0 0), (7, .sl 1 ((T.take i).filter pF).length 0 ((T.take i).filter pF).length none), (8, .fz 1 (ints T)), (9, .int .i64 (i : Int))], []⟩, [.rows 6 [[.int .i64 tb, .int .i64 ro, .int .i64 se, .int .i64 co, .int .i64 wi, .fz 5 (rws L)]], .rows 1 (ints ((T.take i).filter pF))]))
    (fun i => i ≤ T.length) (fun i => T.length - i) 0 (by simp) (by simp [go_sem]) ?_
  intro i hi
  refine IWp.seq ?_
  refine IWp.seqI ?_
  simp [go_sem]
  by_cases h : i < T.length
  · have v1 : IntKind.i64.wrap ((i : Int) + 1) = ((i + 1 : Nat) : Int) := by rw [wrap64 (by omega) (by omega)]; omega
    obtain ⟨x, hx⟩ : ∃ x, T[i] = x := ⟨_, rfl⟩
    have qx : (ints T)[i]?.getD [] = [.int .i64 x] := by rw [List.getElem?_eq_getElem (by simpa using h), Option.getD_some, ints_getElem, hx]
    have hfl := List.length_filter_le pF (T.take i)
    rw [List.length_take] at hfl
    have hfs : (T.take (i + 1)).filter pF = (T.take i).filter pF ++ (if pF x = true then [x] else []) := by
      rw [List.take_succ_eq_append_getElem h, List.filter_append, hx]
      by_cases hb : pF x = true
      · rw [if_pos hb, List.filter_cons_of_pos hb]; simp
      · rw [if_neg hb, List.filter_cons_of_neg hb]; simp
    have hpx : pF x = (fedR L r t x L && decide (x ≠ t)) := by rw [hpF]
    generalize hF : (T.take i).filter pF = F at *
    refine IWp.now ?_
    simp [go_sem, h]
    refine IWp.seq ?_
    refine IWp.block ?_
    refine IWp.seqI ?_
    simp [go_sem]
    refine IWp.seq ?_
    refine IWp.seqI ?_
    simp [go_sem]
    refine IWp.block ?_
    refine IWp.loopI (α := Nat) (fun j => (⟨false, 82, 12, [17, 24, 64, 73], [], [(1, .int .i64 r), (2, .int .i64 t), (3, .ptr 0 1 0 0), (7, .sl 1 F.length 0 F.length none), (8, .fz 1 (ints T)), (9, .int .i64 (i : Int)), (10, .bool (fedR L r t x (L.take j))), (11, .int .i64 (j : Int))], []⟩, [.rows 6 [[.int .i64 tb, .int .i64 ro, .int .i64 se, .int .i64 co, .int .i64 wi, .fz 5 (rws L)]], .rows 1 (ints F)]))
      (fun j => j ≤ L.length) (fun j => L.length - j) 0 (by simp) (by simp [go_sem, fedR]) ?_
    intro j hj
    refine IWp.seq ?_
    refine IWp.seqI ?_
    simp [go_sem]
    by_cases h4 : j < L.length
    · have v3 : IntKind.i64.wrap ((j : Int) + 1) = ((j + 1 : Nat) : Int) := by rw [wrap64 (by omega) (by omega)]; omega
      have hbs := fedR_succ (L := L) (r := r) (t := t) (a := x) h4
      obtain ⟨z, hz⟩ : ∃ z, L[j] = z := ⟨_, rfl⟩
      rw [hz] at hbs
      generalize hA : fedR L r t x (L.take j) = A at *
      have cz := ch x z.s
      obtain ⟨b, hb⟩ : ∃ b, hasB L (r - 1) x z.s = b := ⟨_, rfl⟩
      rw [hb] at cz hbs
      refine IWp.now ?_
      simp [go_sem, h4]
      refine IWp.seq ?_
      refine IWp.block ?_
      refine IWp.seqI ?_
      by_cases h5 : z.r = r
      · by_cases h6 : z.t = t
        · by_cases h7 : -9223372036854775808 < r
          · have w1 : IntKind.i64.wrap (r - 1) = r - 1 := wrap64 (by omega) (by omega)
            simp [go_sem]
            refine Drawn.intro (fun k => if k = 36 then .bool b else .tup []) ?_
            simp [go_sem, h4, hz, h5, h6, h7, h, hx, qx, w1, cz]
            refine ⟨by decide +kernel, ?_⟩
            refine IWp.now ?_
            cases b with
            | true =>
              simp [go_sem]
              refine IWp.now ?_
              simp [go_sem, v3]
              exact ⟨j + 1, ⟨by rw [hbs]; simp [h5, h6, h7], rfl⟩, by omega, by omega⟩
            | false =>
              simp [go_sem]
              refine IWp.now ?_
              simp [go_sem, v3]
              exact ⟨j + 1, ⟨by rw [hbs]; simp, rfl⟩, by omega, by omega⟩
          · have h7b : decide (-9223372036854775808 < r) = false := by simpa using h7
            obtain ⟨w, hw⟩ : ∃ w, IntKind.i64.wrap (r - 1) = w := ⟨_, rfl⟩
            simp [go_sem]
            refine Drawn.intro (fun k => if k = 36 then .bool b else .tup []) ?_
            simp [go_sem, h4, hz, h5, h6, h7, h7b, h, hx, qx, hw]
            refine ⟨by decide +kernel, ?_⟩
            refine IWp.now ?_
            simp [go_sem]
            refine IWp.now ?_
            simp [go_sem, v3]
            exact ⟨j + 1, ⟨by rw [hbs]; simp [h7b], rfl⟩, by omega, by omega⟩
        · have h6b : (z.t == t) = false := by simpa using h6
          obtain ⟨w, hw⟩ : ∃ w, IntKind.i64.wrap (r - 1) = w := ⟨_, rfl⟩
          simp [go_sem]
          refine Drawn.intro (fun k => if k = 36 then .bool b else .tup []) ?_
          simp [go_sem, h4, hz, h5, h6, h6b, h, hx, qx, hw]
          refine ⟨by decide +kernel, ?_⟩
          refine IWp.now ?_
          simp [go_sem]
          refine IWp.now ?_
          simp [go_sem, v3]
          exact ⟨j + 1, ⟨by rw [hbs, h6b]; simp, rfl⟩, by omega, by omega⟩
      · have h5b : (z.r == r) = false := by simpa using h5
        obtain ⟨w, hw⟩ : ∃ w, IntKind.i64.wrap (r - 1) = w := ⟨_, rfl⟩
        simp [go_sem]
        refine Drawn.intro (fun k => if k = 36 then .bool b else .tup []) ?_
        simp [go_sem, h4, hz, h5, h5b, h, hx, qx, hw]
        refine ⟨by decide +kernel, ?_⟩
        refine IWp.now ?_
        simp [go_sem]
        refine IWp.now ?_
        simp [go_sem, v3]
        exact ⟨j + 1, ⟨by rw [hbs, h5b]; simp, rfl⟩, by omega, by omega⟩
    · obtain rfl : j = L.length := by omega
      refine IWp.now ?_
      simp [go_sem]
      cases hfe : fedR L r t x L with
      | true =>
        by_cases h8 : x = t
        · rw [hpx, hfe, h8] at hfs
          rw [if_neg (by simp), List.append_nil] at hfs
          refine IWp.seqI ?_
          simp [go_sem, h, hx, qx, h8]
          refine IWp.now ?_
          simp [go_sem, h8]
          refine IWp.now ?_
          simp [go_sem, v1]
          exact ⟨i + 1, ⟨⟨by rw [hfs], rfl⟩, by rw [hfs]⟩, by omega, by omega⟩
        · have h8b : (x != t) = true := by simpa using h8
          rw [hpx, hfe] at hfs
          rw [if_pos (by simp [h8])] at hfs
          refine IWp.seqI ?_
          simp [go_sem, h, hx, qx, h8, h8b]
          refine IWp.now ?_
          simp [go_sem, h, hx, h8b]
          refine ⟨by omega, ?_⟩
          refine IWp.now ?_
          simp [go_sem, v1]
          exact ⟨i + 1, ⟨⟨by rw [hfs]; simp, rfl⟩, by rw [hfs, ints_snoc]⟩, by omega, by omega⟩
      | false =>
        rw [hpx, hfe] at hfs
        rw [if_neg (by simp), List.append_nil] at hfs
        refine IWp.seqI ?_
        simp [go_sem, h, hx, qx]
        refine IWp.now ?_
        simp [go_sem]
        refine IWp.now ?_
        simp [go_sem, v1]
        exact ⟨i + 1, ⟨⟨by rw [hfs], rfl⟩, by rw [hfs]⟩, by omega, by omega⟩
  · obtain rfl : i = T.length := by omega
    refine IWp.now ?_
    simp [go_sem]
    refine IWp.now ?_
    simp [go_sem]
    exact hR _ _ _ rfl (by simp [go_sem])
end Go.Idl
