/-
  Chapter 28: CheckWrong.
-/
import Derived.Test.YtdnkleclccjffaaC28PartZD
import Derived.Test.YtdnkleclccjffaaIdlPartL
namespace Go.Idl
set_option linter.all false
open Go.Proofs Go.RowKit
set_option maxHeartbeats 16000000
set_option maxRecDepth 40000

/-- A session that is wrong: its movement, its boards, what is wrong with it. -/
def WrOK (m : Mv) (bo w : Int) : Prop :=
  (w = 280 ∧ ¬ frameP m) ∨ (w = 282 ∧ frameP m ∧ (∀ lim, 1 ≤ lim → faultsOf m lim = []) ∧ bo < 1) ∨ (w = 281 ∧ frameP m ∧ ∀ lim, 1 ≤ lim → faultsOf m lim ≠ [])
theorem WrOK.err {m : Mv} {bo w : Int} (h : WrOK m bo w) : errF m 1 = (if w = 280 then 280 else 0) ∧ errF m big = (if w = 280 then 280 else 0) := by
  rcases h with ⟨rfl, h⟩ | ⟨rfl, h, -⟩ | ⟨rfl, h, -⟩ <;> (unfold errF big; simp [h])
theorem WrOK.err0 {m : Mv} {bo w n : Int} (h : WrOK m bo w) (hn : n < 1) : errF m n = if w = 280 then 280 else 2 := by
  rcases h with ⟨rfl, h⟩ | ⟨rfl, h, -⟩ | ⟨rfl, h, -⟩ <;> (unfold errF; simp [h, hn])
theorem WrOK.pass {m : Mv} {bo w : Int} (h : WrOK m bo w) : passB m 1 = decide (w = 282) := by
  have he := h.err.1
  rcases h with ⟨rfl, h⟩ | ⟨rfl, h, h2, -⟩ | ⟨rfl, h, h2⟩
  · unfold passB; rw [he]; rfl
  · unfold passB; rw [he, h2 1 (by omega)]; rfl
  · have := h2 1 (by omega)
    unfold passB
    rw [he]
    generalize faultsOf m 1 = F at *
    cases F with
    | nil => exact absurd rfl this
    | cons a l => rfl
theorem WrOK.ses {m : Mv} {bo w : Int} (h : WrOK m bo w) : sesE m bo = w := by
  have he := h.err.2
  rcases h with ⟨rfl, h⟩ | ⟨rfl, h, h2, h3⟩ | ⟨rfl, h, h2⟩
  · unfold sesE; rw [he]; rfl
  · unfold sesE; rw [he, h2 big (by decide), if_neg (by simp), if_neg (by simp), if_pos (.inl h3)]
  · have := h2 big (by decide)
    unfold sesE
    rw [he]
    generalize faultsOf m big = F at *
    cases F with
    | nil => exact absurd rfl this
    | cons a l => rfl
theorem WrOK.set {m : Mv} {bo w : Int} (h : WrOK m bo w) (n : Int) : setR m bo n = (0, w) ∧ brdR m bo n = (0, 0, w) := by
  have e := h.ses
  have hw : w ≠ 0 := by rcases h with ⟨rfl, -⟩ | ⟨rfl, -⟩ | ⟨rfl, -⟩ <;> decide
  unfold setR brdR
  rw [e, if_pos hw, if_pos hw]
  exact ⟨rfl, rfl⟩
theorem WrOK.frm {m : Mv} {bo w : Int} (h : WrOK m bo w) : decide (frameP m) = !decide (w = 280) := by
  rcases h with ⟨rfl, h⟩ | ⟨rfl, h, -⟩ | ⟨rfl, h, -⟩ <;> simp [h]
def wrH (m : Mv) (bo : Int) : Heap :=
  [.rows 7 [[.int .i64 m.tables, .int .i64 m.rounds, .int .i64 m.sets, .int .i64 m.copies, .int .i64 m.winners, .sl 1 m.rows.length 0 m.rows.length none, .int .i64 bo]], .rows 5 (rws m.rows)]
theorem wr_frame {m : Mv} {bo : Int} (h : ¬ frameP m) : WrOK m bo 280 := .inl ⟨rfl, h⟩
theorem checkWrong_fun (t r k way n : Int) (ht : 0 ≤ t ∧ t < 256) (hr : 0 ≤ r ∧ r < 256) (hk : 0 ≤ k ∧ k < 256) (hwy : 0 ≤ way ∧ way < 256) (hn : -2 ^ 63 ≤ n ∧ n < 2 ^ 63) : FN 6 [.int .u8 t, .int .u8 r, .int .u8 k, .int .u8 way, .int .i64 n] (fun v => v = .bool true) := by
  refine IFun.of_bodyW false 26 [27, 43, 56, 63, 70, 77, 84, 91, 98, 124, 186, 188] Try.func6 rfl Try.call6 rfl fun R hR => ?_
  obtain ⟨T, N, ok⟩ := md28_ok ht.1 hr.1 hk.1 (t := t) (r := r) (k := k)
  have c := made28_fun t r k ht hr hk
  obtain ⟨M, hM⟩ : ∃ M, md28 t r k = M := ⟨_, rfl⟩
  rw [hM] at ok c
  clear hM
  have hlen := ok.len_le
  have hpos := ok.len_pos
  have hfr := ok.frame
  have hfa := ok.fair
  obtain ⟨tb, ro, se, co, wi, L⟩ := M
  simp only at hlen hpos hfa
  have e9 : way.tmod 9 = way % 9 := Int.tmod_eq_emod_of_nonneg (by omega)
  obtain ⟨wy, hwyE⟩ : ∃ wy, way % 9 = wy := ⟨_, rfl⟩
  rw [hwyE] at e9
  refine IWp.seqI ?_
  simp [go_sem]
  refine IWp.seqI ?_
  simp [go_sem]
  refine awake_fun.callF (by simp [go_sem]) ?_
  rintro _ rfl
  simp [go_sem]
  refine IWp.seqI ?_
  simp [go_sem]
  refine c.callM (by simp [go_sem]) ?_
  rintro _ rfl
  simp [go_sem, Mv.v]
  refine IWp.seqI ?_
  simp [go_sem]
  refine IWp.seqI ?_
  simp [go_sem]
  refine (cloneRows_fun L (by omega)).callOF (by simp [go_sem]) ?_
  rintro _ rfl
  refine ⟨fun v => v, 5, _, .here, by decide, rfl, by simp [go_sem], ?_⟩
  simp [go_sem]
  refine IWp.seqI ?_
  simp [go_sem]
  refine IWp.seqT (α := Mv × Int × Int) (fun x => (⟨false, 233, 26, [27, 43, 56, 63, 70, 77, 84, 91, 98, 124, 186, 188], [], [(4, .int .i64 n), (11, .ptr 0 1 0 0), (12, .ptr 0 1 0 0), (13, .int .i64 x.2.2), (14, .int .i64 1)], []⟩, wrH x.1 x.2.1)) (fun x => WrOK x.1 x.2.1 x.2.2) ?_ ?_
  · rcases (by omega : wy = 0 ∨ wy = 1 ∨ wy = 2 ∨ wy = 3 ∨ wy = 4 ∨ wy = 5 ∨ wy = 6 ∨ wy = 7 ∨ wy = 8) with rfl | rfl | rfl | rfl | rfl | rfl | rfl | rfl | rfl
    · have hf := @wr_frame ⟨if 0 < n then 0 else n, ro, se, co, wi, L⟩ 1 (fun h => by have := h.1; simp only at this; split at this <;> omega)
      simp [go_sem, e9]
      exact ⟨⟨_, ro, se, co, wi, L⟩, 1, 280, by simp [go_sem, wrH], hf⟩
    · have hf := @wr_frame ⟨if n < 25 then 25 else n, ro, se, co, wi, L⟩ 1 (fun h => by have := h.2.1; simp only at this; split at this <;> omega)
      simp [go_sem, e9]
      exact ⟨⟨_, ro, se, co, wi, L⟩, 1, 280, by simp [go_sem, wrH], hf⟩
    · have hf := @wr_frame ⟨tb, if n < 48 then 48 else n, se, co, wi, L⟩ 1 (fun h => by have := h.2.2.2.1; simp only at this; split at this <;> omega)
      simp [go_sem, e9]
      exact ⟨⟨tb, _, se, co, wi, L⟩, 1, 280, by simp [go_sem, wrH], hf⟩
    · have hf := @wr_frame ⟨tb, ro, if 0 < n then 0 else n, co, wi, L⟩ 1 (fun h => by have := h.2.2.2.2.1; simp only at this; split at this <;> omega)
      simp [go_sem, e9]
      exact ⟨⟨tb, ro, _, co, wi, L⟩, 1, 280, by simp [go_sem, wrH], hf⟩
    · have hf := @wr_frame ⟨tb, ro, se, if 0 < n then 0 else n, wi, L⟩ 1 (fun h => by have := h.2.2.2.2.2.2.1; simp only at this; split at this <;> omega)
      simp [go_sem, e9]
      exact ⟨⟨tb, ro, se, _, wi, L⟩, 1, 280, by simp [go_sem, wrH], hf⟩
    · have hf := @wr_frame ⟨tb, ro, se, co, if n < 3 then 3 else n, L⟩ 1 (fun h => by have := h.2.2.2.2.2.2.2.1; simp only at this; split at this <;> omega)
      simp [go_sem, e9]
      exact ⟨⟨tb, ro, se, co, _, L⟩, 1, 280, by simp [go_sem, wrH], hf⟩
    · have hmul : tb * ro = L.length := by
        have h1 := ok.tb; have h2 := ok.rd; have h3 := ok.len
        simp only at h1 h2 h3
        rw [h1, h2, h3, Int.mul_comm]; simp
      have w1 : IntKind.i64.wrap (tb * ro) = L.length := by rw [hmul]; exact wrap64 (by omega) (by omega)
      have w2 : IntKind.i64.wrap ((L.length : Int) + 1) = L.length + 1 := wrap64 (by omega) (by omega)
      have w3 : IntKind.i64.wrap ((L.length : Int) + 1 - L.length) = 1 := by rw [show (L.length : Int) + 1 - L.length = 1 by omega]; decide
      have hf := @wr_frame ⟨tb, ro, se, co, wi, L ++ [⟨0, 0, 0, 0, 0⟩]⟩ 1 (fun h => by have := h.2.2.2.2.2.2.2.2; simp only [List.length_append, List.length_singleton] at this; rw [hmul] at this; omega)
      simp [go_sem, e9, w1, w2, w3]
      refine ⟨by omega, by decide +kernel, ⟨tb, ro, se, co, wi, L ++ [⟨0, 0, 0, 0, 0⟩]⟩, 1, 280, ?_, hf⟩
      simp [go_sem, wrH, rws_snoc]
    · have hf : WrOK ⟨tb, ro, se, co, wi, L⟩ (if 0 < n then 0 else n) 282 := .inr (.inl ⟨rfl, hfr, fun lim hl => fair_faults hl hfa, by split <;> omega⟩)
      simp [go_sem, e9]
      exact ⟨⟨tb, ro, se, co, wi, L⟩, _, 282, by simp [go_sem, wrH], hf⟩
    · have hf : WrOK ⟨tb, ro, se, co, wi, L.set 0 { L[0] with s := if n < se then se else n }⟩ 1 281 := by
        refine .inr (.inr ⟨rfl, setRow_frame (M := ⟨tb, ro, se, co, wi, L⟩) hfr, fun lim hl => ?_⟩)
        obtain ⟨f, hf, _⟩ := wrong_found (m := setRow ⟨tb, ro, se, co, wi, L⟩ 0 { L[0] with s := if n < se then se else n }) (lim := lim) (setRow_err hfr hl) (b := 0) (by simp [setRow]; omega) (fun j h hj => by omega) (by
          have hs : se ≤ if n < se then se else n := by split <;> omega
          unfold wrongR outR
          simp [setRow, hs])
        intro e
        have e' : faultsOf (setRow ⟨tb, ro, se, co, wi, L⟩ 0 { L[0] with s := if n < se then se else n }) lim = [] := e
        rw [e'] at hf
        cases hf
      have hL0 : 0 < L.length := by omega
      have hr0 : (rws L)[0]?.getD [] = [.int .i64 L[0].r, .int .i64 L[0].t, .int .i64 L[0].ns, .int .i64 L[0].ew, .int .i64 L[0].s] := by
        rw [List.getElem?_eq_getElem (by simpa using hL0), Option.getD_some, rws_getElem]
      simp [go_sem, e9, hr0]
      refine ⟨by omega, by decide +kernel, ⟨tb, ro, se, co, wi, L.set 0 { L[0] with s := if n < se then se else n }⟩, 1, 281, ?_, hf⟩
      simp [go_sem, wrH, set_rwsF]
  · rintro ⟨m, bo, w⟩ h
    simp only at h
    have f1 := faults_c m 1
    have hmn : min n 0 < 1 := by omega
    have f2 := faults_c m (min n 0)
    have f3 := passes_fun m 1
    have f4 := set_fun28 m bo 1 (by omega)
    have f5 := boards_fun28 m bo 0
    have f6 := session_fun m bo
    have f7 := frame_fun m
    rw [h.err.1] at f1 f3
    rw [h.err0 hmn] at f2
    rw [h.pass] at f3
    rw [(h.set 1).1] at f4
    rw [(h.set 0).2] at f5
    rw [h.ses] at f6
    rw [h.frm] at f7
    generalize faultsOf m 1 = F1 at *
    generalize faultsOf m (min n 0) = F2 at *
    have hw : w = 280 ∨ w = 282 ∨ w = 281 := by
      rcases h with ⟨h, -⟩ | ⟨h, -⟩ | ⟨h, -⟩ <;> simp [h]
    clear h
    obtain ⟨tb', ro', se', co', wi', L'⟩ := m
    simp only [Mv.v, sesV] at f1 f2 f3 f4 f5 f6 f7
    obtain ⟨mn, hmnE⟩ : ∃ x, min n 0 = x := ⟨_, rfl⟩
    have hmn2 : (if 0 < n then (0 : Int) else n) = mn := by rw [← hmnE]; omega
    rw [hmnE] at f2
    refine IWp.seqI ?_
    simp [go_sem, wrH]
    refine f1.callF (by simp [go_sem]) ?_
    rintro _ rfl
    simp [go_sem]
    refine IWp.seqI ?_
    simp [go_sem]
    refine f3.callF (by simp [go_sem]) ?_
    rintro _ rfl
    simp [go_sem]
    refine IWp.seqI ?_
    simp [go_sem, hmn2]
    refine f2.callF (by simp [go_sem]) ?_
    rintro _ rfl
    simp [go_sem]
    refine IWp.seqI ?_
    simp [go_sem]
    refine f4.callF (by simp [go_sem]) ?_
    rintro _ rfl
    simp [go_sem]
    refine IWp.seqI ?_
    simp [go_sem]
    refine f5.callF (by simp [go_sem]) ?_
    rintro _ rfl
    simp [go_sem]
    refine IWp.seqI ?_
    simp [go_sem]
    refine f6.callF (by simp [go_sem]) ?_
    rintro _ rfl
    simp [go_sem]
    rcases hw with rfl | rfl | rfl
    · refine IWp.seqI ?_
      simp [go_sem]
      refine f7.callF (by simp [go_sem]) ?_
      rintro _ rfl
      simp [go_sem, show IntKind.i64.wrap 0 = 0 from by decide]
      exact hR _ _ _ rfl (by simp [go_sem, show IntKind.i64.wrap 0 = 0 from by decide])
    · refine IWp.seqI ?_
      simp [go_sem]
      refine IWp.now ?_
      simp [go_sem]
      refine f7.callF (by simp [go_sem]) ?_
      rintro _ rfl
      simp [go_sem, show IntKind.i64.wrap 0 = 0 from by decide]
      exact hR _ _ _ rfl (by simp [go_sem, show IntKind.i64.wrap 0 = 0 from by decide])
    · refine IWp.seqI ?_
      simp [go_sem]
      refine IWp.now ?_
      simp [go_sem]
      refine f7.callF (by simp [go_sem]) ?_
      rintro _ rfl
      simp [go_sem, show IntKind.i64.wrap 0 = 0 from by decide]
      exact hR _ _ _ rfl (by simp [go_sem, show IntKind.i64.wrap 0 = 0 from by decide])
theorem checkWrong_law (t r k w n : Int) (h0 : (Lit.int .u8 t).wf = true) (h1 : (Lit.int .u8 r).wf = true) (h2 : (Lit.int .u8 k).wf = true) (h3 : (Lit.int .u8 w).wf = true) (h4 : (Lit.int .i64 n).wf = true) : FN 6 [.int .u8 t, .int .u8 r, .int .u8 k, .int .u8 w, .int .i64 n] (fun v => v = .bool true) :=
  checkWrong_fun t r k w n (wf8 h0) (wf8 h1) (wf8 h2) (wf8 h3) (by have := bounds_i64 h4; omega)
end Go.Idl
