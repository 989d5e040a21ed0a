/-
  Chapter 28: the reference's Session; Set and Boards of both.
-/
import Derived.Test.YtdnkleclccjffaaC28PartU
namespace Go.Idl
set_option linter.all false
open Go.Proofs
set_option maxHeartbeats 8000000
set_option maxRecDepth 40000

def scells (m : Mv) (b : Int) : List IV := [.int .i64 m.tables, .int .i64 m.rounds, .int .i64 m.sets, .int .i64 m.copies, .int .i64 m.winners, .fz 5 (rws m.rows), .int .i64 b]
theorem quo_le {s b : Int} (h1 : 1 ≤ s) (_h2 : s ≤ 128) : (128 / s < b) ↔ (128 < b * s) := by
  rw [← Int.not_le, Int.le_ediv_iff_mul_le (by omega)]; omega
theorem rowF_len (m : Mv) (lim : Int) (S : Mem) (i : Int) (x : Rw) : (rowF m lim S i x).length ≤ 10 := by
  rw [rowF_five]
  have hfl : ∀ j, ((fiveF m lim S i x).getD j []).length ≤ 2 := fun j => by
    by_cases hj : j < 5
    · exact fiveF_len m lim S i x j hj
    · have : (fiveF m lim S i x)[j]? = none := List.getElem?_eq_none (by simp [fiveF]; omega)
      simp [List.getD, this]
  have := partF_len [] hfl 5
  simp only [partF, List.nil_append, List.length_nil, Nat.zero_add] at this
  rw [List.take_of_length_le (by simp [fiveF])] at this
  exact this
theorem fRun_len {m : Mv} {lim : Int} : ∀ (rest : List Rw) (i : Nat) (F : List Flt) (S : Mem), (fRun m lim i rest (F, S)).1.length ≤ F.length + 10 * rest.length
  | [], i, F, S => by simp [fRun]
  | x :: rest, i, F, S => by
    rw [fRun]
    unfold fStep
    simp only
    split
    · have := fRun_len (m := m) (lim := lim) rest (i + 1) (F ++ [⟨1, i, x.ns, x.ew⟩]) S
      simp only [List.length_append, List.length_cons, List.length_nil] at this ⊢
      omega
    · have h1 := fRun_len (m := m) (lim := lim) rest (i + 1) (F ++ rowF m lim S i x) (putL i (shL x) S)
      have h2 := rowF_len m lim S i x
      simp only [List.length_append, List.length_cons] at h1 ⊢
      omega
theorem faults_len {m : Mv} {lim : Int} : (faultsOf m lim).length ≤ 10 * (24 * 47) := by
  unfold faultsOf
  split
  · rename_i he
    have hf : frameP m := by
      apply Decidable.byContradiction; intro h
      unfold errF at he; rw [if_pos h] at he; omega
    have h1 := frame_rows hf
    have h2 := fRun_len (m := m) (lim := lim) m.rows 0 [] []
    simp only [List.length_nil] at h2
    omega
  · simp
theorem refSession_fun (m : Mv) (boards : Int) : FN 39 [sesV m boards] (fun v => v = .int .i64 (sesE m boards)) := by
  refine IFun.of_bodyZ false 9 [16, 21, 29, 46, 51, 59, 79, 83] Try.func39 rfl Try.call39 rfl fun R hR => ?_
  simp [go_sem, sesV]
  refine (refFaults_c m 1).callF (by simp [go_sem, Mv.v]) ?_
  rintro _ rfl
  rw [errF_one]
  by_cases he : errF m big = 0
  case neg =>
    have e : sesE m boards = errF m big := by unfold sesE; rw [if_pos he]
    simp [go_sem, he]
    exact hR _ _ _ rfl (by simp [go_sem, e])
  have hf : frameP m := by
    apply Decidable.byContradiction; intro h
    unfold errF at he; rw [if_pos h] at he; omega
  have hs1 := hf.2.2.2.2.1
  have hs2 := hf.2.2.2.2.2.1
  have hrl := frame_rows hf
  have hfb := faults_big he hf
  have hfl := faults_len (m := m) (lim := 1)
  simp [go_sem, he]
  refine IWp.loopT (α := Nat) (fun i => (⟨false, 84, 9, [16, 21, 29, 46, 51, 59, 79, 83], [], [(1, .ptr 0 1 0 0), (3, .fz 4 (fltr (faultsOf m 1))), (5, .int .i64 (i : Int))], []⟩, [.rows 7 [scells m boards]]))
    (fun i => i ≤ (faultsOf m 1).length ∧ ∀ f ∈ (faultsOf m 1).take i, f.k = 6) (fun i => (faultsOf m 1).length - i) 0 (by simp) (by simp [go_sem, scells]) ?_
  rintro i ⟨hi, hno⟩
  by_cases h : i < (faultsOf m 1).length
  · have w1 : IntKind.i64.wrap ((i : Int) + 1) = i + 1 := wrap64 (by omega) (by omega)
    by_cases hk : (faultsOf m 1)[i].k = 6
    · simp [go_sem, scells, h, hk, w1]
      refine ⟨i + 1, rfl, ⟨by omega, fun f hf => ?_⟩, by omega⟩
      rw [List.take_succ_eq_append_getElem h, List.mem_append] at hf
      rcases hf with hf | hf
      · exact hno f hf
      · simp at hf; rw [hf]; exact hk
    · have e : sesE m boards = 281 := by
        have : (faultsOf m big).isEmpty = false := by
          rw [hfb, ← Bool.not_eq_true, List.isEmpty_iff]
          intro hn
          have : (faultsOf m 1)[i] ∈ (faultsOf m 1).filter not6 := List.mem_filter.2 ⟨List.getElem_mem h, by simp [not6, hk]⟩
          rw [hn] at this; simp at this
        unfold sesE; rw [if_neg (by simp [he]), if_pos this]
      simp [go_sem, scells, h, hk]
      exact hR _ _ _ rfl (by simp [go_sem, e])
  have : i = (faultsOf m 1).length := by omega
  subst this
  rw [List.take_length] at hno
  have hp : (faultsOf m big).isEmpty = true := by
    rw [hfb, List.isEmpty_iff, List.filter_eq_nil_iff]
    intro f hf; simp [not6, hno f hf]
  have hq := quo_le (b := boards) hs1 hs2
  simp [go_sem, scells]
  by_cases hb : boards < 1 ∨ 128 < boards
  · have e : sesE m boards = 282 := by
      unfold sesE
      rw [if_neg (by simp [he]), if_neg (by simp [hp]), if_pos]
      have : (128 : Int) / m.sets ≤ 128 := Int.ediv_le_self _ (by omega)
      omega
    rw [if_pos (.inl hb)]
    exact hR _ _ _ rfl (by simp [go_sem, e])
  have hp0 : 0 ≤ boards * m.sets := Int.mul_nonneg (by omega) (by omega)
  have hp1 : boards * m.sets ≤ 128 * 128 := Int.mul_le_mul (by omega) hs2 (by omega) (by omega)
  have wp : IntKind.i64.wrap (boards * m.sets) = boards * m.sets := wrap64 (by omega) (by omega)
  rw [wp]
  by_cases hb2 : 128 < boards * m.sets
  · have e : sesE m boards = 282 := by
      unfold sesE
      rw [if_neg (by simp [he]), if_neg (by simp [hp]), if_pos (.inr (hq.2 hb2))]
    rw [if_pos (.inr hb2)]
    exact hR _ _ _ rfl (by simp [go_sem, e])
  have e : sesE m boards = if manyB m.rows = true then 5 else 0 := by
    unfold sesE; rw [if_neg (by simp [he]), if_neg (by simp [hp]), if_neg (by rw [hq]; omega)]
  rw [← many_eq (no_faults he hp)] at e
  rw [if_neg (by omega)]
  obtain ⟨n, hn⟩ : ∃ n : Nat, m.sets = n := ⟨m.sets.toNat, by omega⟩
  refine IWp.loopI (α := Nat) (fun i => (⟨false, 84, 9, [16, 21, 29, 46, 51, 59, 79, 83], [], [(1, .ptr 0 1 0 0), (6, .int .i64 (i : Int))], []⟩, [.rows 7 [scells m boards]]))
    (fun i => i ≤ n ∧ ∀ s, s < i → setN m.rows s ≤ 24) (fun i => n - i) 0 ⟨by omega, by omega⟩ (by simp [go_sem, scells]) ?_
  rintro i ⟨hi, hno2⟩
  refine IWp.seqI ?_
  by_cases h : i < n
  · have w1 : IntKind.i64.wrap ((i : Int) + 1) = i + 1 := wrap64 (by omega) (by omega)
    simp [go_sem, scells, hn, h]
    refine IWp.seq ?_
    refine IWp.block ?_
    refine IWp.seqI ?_
    simp [go_sem]
    refine IWp.seqT (α := Unit) (fun _ => (⟨false, 84, 9, [16, 21, 29, 46, 51, 59, 79, 83], [], [(1, .ptr 0 1 0 0), (6, .int .i64 (i : Int)), (7, .int .i64 (setN m.rows i : Nat))], []⟩, [.rows 7 [scells m boards]])) (fun _ => True) ?_ ?_
    · simp [go_sem]
      refine IWp.loopT (α := Nat) (fun k => (⟨false, 84, 9, [16, 21, 29, 46, 51, 59, 79, 83], [], [(1, .ptr 0 1 0 0), (6, .int .i64 (i : Int)), (7, .int .i64 (setN (m.rows.take k) i : Nat)), (8, .int .i64 (k : Int))], []⟩, [.rows 7 [scells m boards]]))
        (fun k => k ≤ m.rows.length) (fun k => m.rows.length - k) 0 (by simp) (by simp [go_sem, scells, setN, hn]) ?_
      intro k hk
      by_cases hkl : k < m.rows.length
      · have wk : IntKind.i64.wrap ((k : Int) + 1) = k + 1 := wrap64 (by omega) (by omega)
        have hns := setN_succ hkl (i : Int)
        have hmax : setN (m.rows.take k) i ≤ 1128 := Nat.le_trans List.countP_le_length (by simp; omega)
        generalize hx : m.rows[k] = x at *
        simp [go_sem, scells, hkl, hx]
        refine (meet2_fun x).callF (by simp [go_sem, Rw.v]) ?_
        rintro _ rfl
        generalize setN (m.rows.take k) i = c at *
        have wc : IntKind.i64.wrap ((c : Int) + 1) = c + 1 := wrap64 (by omega) (by omega)
        cases hm : meetB x with
        | false =>
          rw [if_neg (by simp [hm])] at hns
          simp [go_sem, wk, hkl, hx]
          exact ⟨k + 1, ⟨by rw [hns]; rfl, rfl⟩, by omega, by omega⟩
        | true =>
          by_cases hs : x.s = i
          · rw [if_pos ⟨hm, hs⟩] at hns
            simp [go_sem, wk, hkl, hx, hs, wc]
            exact ⟨k + 1, ⟨by rw [hns]; rfl, rfl⟩, by omega, by omega⟩
          · rw [if_neg (fun h => hs h.2)] at hns
            simp [go_sem, wk, hkl, hx, hs]
            exact ⟨k + 1, ⟨by rw [hns]; rfl, rfl⟩, by omega, by omega⟩
      · have : k = m.rows.length := by omega
        subst this
        simp [go_sem, scells, hn]
    rintro _ _
    refine IWp.now ?_
    by_cases h24 : 24 < setN m.rows i
    · have hmany : manyR m = true := by
        unfold manyR
        rw [List.any_eq_true]
        exact ⟨i, by rw [List.mem_range]; omega, by simpa using h24⟩
      rw [hmany, if_pos rfl] at e
      have h24' : (24 : Int) < setN m.rows i := by omega
      simp [go_sem, h24']
      exact hR _ _ _ rfl (by simp [go_sem, e])
    · have h24' : ¬ (24 : Int) < setN m.rows i := by omega
      simp [go_sem, h24']
      refine IWp.now ?_
      simp [go_sem, w1]
      refine ⟨i + 1, ⟨rfl, by simp [scells, hn]⟩, ⟨by omega, fun s hs => ?_⟩, by omega⟩
      by_cases e2 : s = i
      · rw [e2]; omega
      · exact hno2 s (by omega)
  · have : i = n := by omega
    subst this
    have hmany : manyR m = false := by
      unfold manyR
      rw [List.any_eq_false]
      intro s hs
      rw [List.mem_range] at hs
      have := hno2 s (by omega)
      simp; exact this
    rw [hmany, if_neg (by decide)] at e
    simp [go_sem, scells, hn]
    exact hR _ _ _ rfl (by simp [go_sem, e])

/-! ### Set and Boards -/
/-- What is known of a session that is right. -/
theorem ses_ok {m : Mv} {b : Int} (h : sesE m b = 0) : 1 ≤ m.sets ∧ m.sets ≤ 128 ∧ 1 ≤ b ∧ b ≤ 128 ∧ m.sets * b ≤ 128 := by
  unfold sesE at h
  split at h
  · omega
  rename_i he
  split at h
  · omega
  split at h
  · omega
  rename_i hb
  have hf : frameP m := by
    apply Decidable.byContradiction; intro hf
    unfold errF at he; rw [if_pos hf] at he; omega
  have hs1 := hf.2.2.2.2.1
  have hs2 := hf.2.2.2.2.2.1
  have hq := quo_le (b := b) hs1 hs2
  have : (128 : Int) / m.sets ≤ 128 := Int.ediv_le_self _ (by omega)
  refine ⟨hs1, hs2, by omega, by omega, ?_⟩
  rw [Int.mul_comm]
  have : ¬ 128 < b * m.sets := fun h => hb (.inr (hq.2 h))
  omega
def setR (m : Mv) (b n : Int) : Int × Int := if sesE m b ≠ 0 then (0, sesE m b) else if n < 1 ∨ m.sets * b < n then (0, 6) else ((n - 1) / b, 0)
theorem set_fun28 (m : Mv) (b n : Int) (hn : -2 ^ 63 ≤ n ∧ n < 2 ^ 63) : FN 19 [sesV m b, .int .i64 n] (fun v => v = .tup [.int .i64 (setR m b n).1, .int .i64 (setR m b n).2]) := by
  refine IFun.of_bodyZ false 7 [10, 23] Try.func19 rfl Try.call19 rfl fun R hR => ?_
  simp [go_sem, sesV]
  refine (session_fun m b).callF (by simp [go_sem, sesV]) ?_
  rintro _ rfl
  by_cases he : sesE m b = 0
  case neg =>
    have e : setR m b n = (0, sesE m b) := by unfold setR; rw [if_pos he]
    simp [go_sem, he]
    exact hR _ _ _ rfl (by simp [go_sem, e])
  obtain ⟨h1, h2, h3, h4, h5⟩ := ses_ok he
  have h6 : 0 ≤ m.sets * b := Int.mul_nonneg (by omega) (by omega)
  have w1 : IntKind.i64.wrap (m.sets * b) = m.sets * b := wrap64 (by omega) (by omega)
  by_cases hc : n < 1 ∨ m.sets * b < n
  · have e : setR m b n = (0, 6) := by unfold setR; rw [if_neg (by simp [he]), if_pos hc]
    simp [go_sem, he, w1, hc]
    exact hR _ _ _ rfl (by simp [go_sem, e])
  have e : setR m b n = ((n - 1) / b, 0) := by unfold setR; rw [if_neg (by simp [he]), if_neg hc]
  have w2 : IntKind.i64.wrap (n - 1) = n - 1 := wrap64 (by omega) (by omega)
  have hd : (n - 1).tdiv b = (n - 1) / b := Int.tdiv_eq_ediv_of_nonneg (by omega)
  have hd1 : 0 ≤ (n - 1) / b := Int.ediv_nonneg (by omega) (by omega)
  have hd2 : (n - 1) / b ≤ n - 1 := Int.ediv_le_self _ (by omega)
  have w3 : IntKind.i64.wrap ((n - 1) / b) = (n - 1) / b := wrap64 (by omega) (by omega)
  have hb0 : ¬ b = 0 := by omega
  simp [go_sem, he, w1, hc, w2, hd, w3, hb0]
  exact hR _ _ _ rfl (by simp [go_sem, e])
def brdR (m : Mv) (b n : Int) : Int × Int × Int := if sesE m b ≠ 0 then (0, 0, sesE m b) else if n < 0 ∨ m.sets ≤ n then (0, 0, 6) else (n * b + 1, (n + 1) * b, 0)
theorem brd_bound {m : Mv} {b n : Int} (h : sesE m b = 0) (hn : ¬ (n < 0 ∨ m.sets ≤ n)) : 0 ≤ n * b ∧ n * b ≤ 128 * 128 ∧ 0 ≤ (n + 1) * b ∧ (n + 1) * b ≤ 128 * 128 ∧ n * b + b = (n + 1) * b := by
  obtain ⟨h1, h2, h3, h4, h5⟩ := ses_ok h
  refine ⟨Int.mul_nonneg (by omega) (by omega), Int.mul_le_mul (by omega) h4 (by omega) (by omega), Int.mul_nonneg (by omega) (by omega), Int.mul_le_mul (by omega) h4 (by omega) (by omega), by rw [Int.add_mul]; omega⟩
theorem boards_fun28 (m : Mv) (b n : Int) : FN 18 [sesV m b, .int .i64 n] (fun v => v = .tup [.int .i64 (brdR m b n).1, .int .i64 (brdR m b n).2.1, .int .i64 (brdR m b n).2.2]) := by
  refine IFun.of_bodyZ false 8 [11, 21] Try.func18 rfl Try.call18 rfl fun R hR => ?_
  simp [go_sem, sesV]
  refine (session_fun m b).callF (by simp [go_sem, sesV]) ?_
  rintro _ rfl
  by_cases he : sesE m b = 0
  case neg =>
    have e : brdR m b n = (0, 0, sesE m b) := by unfold brdR; rw [if_pos he]
    simp [go_sem, he]
    exact hR _ _ _ rfl (by simp [go_sem, e])
  by_cases hc : n < 0 ∨ m.sets ≤ n
  · have e : brdR m b n = (0, 0, 6) := by unfold brdR; rw [if_neg (by simp [he]), if_pos hc]
    simp [go_sem, he, hc]
    exact hR _ _ _ rfl (by simp [go_sem, e])
  have e : brdR m b n = (n * b + 1, (n + 1) * b, 0) := by unfold brdR; rw [if_neg (by simp [he]), if_neg hc]
  obtain ⟨k1, k2, k3, k4, k5⟩ := brd_bound he hc
  have w1 : IntKind.i64.wrap (n * b) = n * b := wrap64 (by omega) (by omega)
  have w2 : IntKind.i64.wrap (n * b + 1) = n * b + 1 := wrap64 (by omega) (by omega)
  have w3 : IntKind.i64.wrap (n * b + b) = (n + 1) * b := by rw [k5]; exact wrap64 (by omega) (by omega)
  simp [go_sem, he, hc, w1, w2, w3]
  exact ⟨by decide +kernel, hR _ _ _ rfl (by simp [go_sem, e])⟩
theorem refBoards_fun (m : Mv) (b n : Int) : FN 34 [sesV m b, .int .i64 n] (fun v => v = .tup [.int .i64 (brdR m b n).1, .int .i64 (brdR m b n).2.1, .int .i64 (brdR m b n).2.2]) := by
  refine IFun.of_bodyZ false 8 [11, 21] Try.func34 rfl Try.call34 rfl fun R hR => ?_
  simp [go_sem, sesV]
  refine (refSession_fun m b).callF (by simp [go_sem, sesV]) ?_
  rintro _ rfl
  by_cases he : sesE m b = 0
  case neg =>
    have e : brdR m b n = (0, 0, sesE m b) := by unfold brdR; rw [if_pos he]
    simp [go_sem, he]
    exact hR _ _ _ rfl (by simp [go_sem, e])
  by_cases hc : n < 0 ∨ m.sets ≤ n
  · have e : brdR m b n = (0, 0, 6) := by unfold brdR; rw [if_neg (by simp [he]), if_pos hc]
    simp [go_sem, he, hc]
    exact hR _ _ _ rfl (by simp [go_sem, e])
  have e : brdR m b n = (n * b + 1, (n + 1) * b, 0) := by unfold brdR; rw [if_neg (by simp [he]), if_neg hc]
  obtain ⟨k1, k2, k3, k4, k5⟩ := brd_bound he hc
  obtain ⟨h1, h2, h3, h4, h5⟩ := ses_ok he
  have w1 : IntKind.i64.wrap (n * b) = n * b := wrap64 (by omega) (by omega)
  have w2 : IntKind.i64.wrap (n * b + 1) = n * b + 1 := wrap64 (by omega) (by omega)
  have w4 : IntKind.i64.wrap (n + 1) = n + 1 := wrap64 (by omega) (by omega)
  have w3 : IntKind.i64.wrap ((n + 1) * b) = (n + 1) * b := wrap64 (by omega) (by omega)
  simp [go_sem, he, hc, w1, w2, w3, w4]
  exact ⟨by decide +kernel, hR _ _ _ rfl (by simp [go_sem, e])⟩
theorem refSet_fun (m : Mv) (b n : Int) : FN 33 [sesV m b, .int .i64 n] (fun v => v = .tup [.int .i64 (setR m b n).1, .int .i64 (setR m b n).2]) := by
  refine IFun.of_bodyZ false 8 [11, 17, 35] Try.func33 rfl Try.call33 rfl fun R hR => ?_
  simp [go_sem, sesV]
  refine (refSession_fun m b).callF (by simp [go_sem, sesV]) ?_
  rintro _ rfl
  by_cases he : sesE m b = 0
  case neg =>
    have e : setR m b n = (0, sesE m b) := by unfold setR; rw [if_pos he]
    simp [go_sem, he]
    exact hR _ _ _ rfl (by simp [go_sem, e])
  obtain ⟨h1, h2, h3, h4, h5⟩ := ses_ok he
  obtain ⟨S, hS⟩ : ∃ S : Nat, m.sets = S := ⟨m.sets.toNat, by omega⟩
  simp [go_sem, he]
  refine IWp.loopT (α := Nat) (fun i => (⟨false, 37, 8, [11, 17, 35], [], [(1, .int .i64 n), (2, .ptr 0 1 0 0), (7, .int .i64 (i : Int))], []⟩, [.rows 7 [scells m b]]))
    (fun i => i ≤ S ∧ (n < 1 ∨ (i : Int) * b < n)) (fun i => S - i) 0 ⟨by omega, by omega⟩ (by simp [go_sem, scells]) ?_
  rintro i ⟨hi, hlow⟩
  by_cases h : i < S
  · obtain ⟨k1, k2, k3, k4, k5⟩ := brd_bound (n := i) he (by omega)
    have w0 : IntKind.i64.wrap ((i : Int) + 1) = i + 1 := wrap64 (by omega) (by omega)
    have w1 : IntKind.i64.wrap ((i : Int) * b) = i * b := wrap64 (by omega) (by omega)
    have w2 : IntKind.i64.wrap ((i : Int) * b + 1) = i * b + 1 := wrap64 (by omega) (by omega)
    have w3 : IntKind.i64.wrap (((i : Int) + 1) * b) = (i + 1) * b := wrap64 (by omega) (by omega)
    simp [go_sem, scells, hS, h, w0, w1, w2, w3]
    split
    · rename_i hc
      have hq : (n - 1) / b = i := by
        apply Int.le_antisymm
        · have : (n - 1) / b < i + 1 := (Int.ediv_lt_iff_lt_mul (by omega)).2 (by omega)
          omega
        · exact (Int.le_ediv_iff_mul_le (by omega)).2 (by omega)
      have hup : ((i : Int) + 1) * b ≤ m.sets * b := Int.mul_le_mul_of_nonneg_right (by omega) (by omega)
      have e : setR m b n = ((i : Int), 0) := by
        unfold setR; rw [if_neg (by simp [he]), if_neg (by omega), hq]
      exact hR _ _ _ rfl (by simp [go_sem, e])
    · rename_i hc
      refine ⟨i + 1, rfl, ⟨by omega, ?_⟩, by omega⟩
      simp only [Int.natCast_add, Int.natCast_one]
      omega
  · have : i = S := by omega
    subst this
    have e : setR m b n = (0, 6) := by
      unfold setR; rw [if_neg (by simp [he]), if_pos]
      rw [hS]; exact hlow
    simp [go_sem, scells, hS]
    exact hR _ _ _ rfl (by simp [go_sem, e])
end Go.Idl
