/-
  Chapter 25: MitchellFair.
-/
import Derived.Test.YtjdcaidcheodpaaC25PartO
import Derived.Test.YtjdcaidcheodpaaC25PartN
namespace Go.Idl
set_option linter.all false
open Go.Proofs
set_option maxHeartbeats 8000000
set_option maxRecDepth 40000

theorem prs_without {L : List Rw} {p : Int} : prs (L.map (wF p)) = (prs L).filter fun q => decide (q ≠ p) := by
  refine Inc.ext (srt_inc _) ((srt_inc _).sublist List.filter_sublist) fun q => ?_
  rw [List.mem_filter, prs_mem]
  show _ ↔ q ∈ prs L ∧ _
  rw [prs_mem]
  simp only [List.mem_map, decide_eq_true_eq]
  constructor
  · rintro ⟨h1, _, ⟨x, hx, rfl⟩, h2⟩
    unfold wF at h2
    simp only at h2
    rcases h2 with h2 | h2
    · split at h2
      · omega
      · rename_i hne; exact ⟨⟨h1, x, hx, .inl h2⟩, by omega⟩
    · split at h2
      · omega
      · rename_i hne; exact ⟨⟨h1, x, hx, .inr h2⟩, by omega⟩
  · rintro ⟨⟨h1, x, hx, h2⟩, h3⟩
    refine ⟨h1, _, ⟨x, hx, rfl⟩, ?_⟩
    unfold wF
    simp only
    rcases h2 with h2 | h2
    · left; rw [if_neg (by omega)]; exact h2
    · right; rw [if_neg (by omega)]; exact h2
theorem prs_without_len {L : List Rw} {p : Int} (h : p ∈ prs L) : (prs (L.map (wF p))).length + 1 = (prs L).length := by
  have hnd : (prs L).Nodup := (srt_inc _).imp fun h => by omega
  have e : (prs (L.map (wF p))) = (prs L).erase p := by
    rw [prs_without, hnd.erase_eq_filter]
    congr 1
    funext q
    by_cases hq : q = p <;> simp [hq]
  have := List.length_pos_of_mem h
  rw [e, List.length_erase_of_mem h]
  omega
theorem woE_mem {m : Mv} {p : Int} (h : p ∈ prs m.rows) : woE p m = 0 := by
  obtain ⟨h1, x, hx, h2⟩ := prs_mem.1 h
  have hh : hasP' p m.rows = true := by
    unfold hasP'
    rw [List.any_eq_true]
    exact ⟨x, hx, by simpa using h2⟩
  unfold woE
  rw [if_pos ⟨h1, hh⟩]
theorem woM_mem {m : Mv} {p : Int} (h : p ∈ prs m.rows) : woM p m = { m with rows := m.rows.map (wF p) } := by
  unfold woM
  rw [if_pos (woE_mem h)]
theorem mitchellFair_fun (t r k l : Int) (ht : 0 ≤ t ∧ t < 256) (hr : 0 ≤ r ∧ r < 256) (hk : 0 ≤ k ∧ k < 256) (hl : 0 ≤ l ∧ l < 256) : FN 7 [.int .u8 t, .int .u8 r, .int .u8 k, .int .u8 l] (fun v => v = .bool true) := by
  refine IFun.of_bodyZ false 16 [17, 50, 52, 53, 54, 55, 84] Try.func7 rfl Try.call7 rfl fun R hR => ?_
  simp [go_sem]
  refine awake_fun25.callF (by simp [go_sem]) ?_
  rintro _ rfl
  simp [go_sem]
  refine (made_fun t r k ht hr hk).callM (by simp [go_sem]) ?_
  rintro _ rfl
  obtain ⟨T, N, hM, _, _, hK, _⟩ := made_is (t := t) (r := r) (k := k) ht.1 hr.1 hk.1
  have rv := roving_fun hM
  obtain ⟨h1, h2, h3, h4, h5, h6⟩ := hM.head
  have hlen := hM.len
  have hn1 := hM.n1
  have hle := hM.le
  have hNT := hM.nle
  have hT2 := hM.dsg.2
  have hrow := fun {q} (hq : q < (mdM t r k).rows.length) => hM.row hq
  have hF := hM.fair
  generalize hMM : mdM t r k = M at *
  obtain ⟨ta, ro, se, co, wi, L⟩ := M
  simp only at h1 h2 h3 h4 h5 h6 hrow hlen
  subst h1 h2 h3 h4
  have cf := fair_fun ⟨T, N, T, co, 2, L⟩ hF (by omega) (by simp; omega)
  have cp := pairs_fun ⟨T, N, T, co, 2, L⟩ (by simp; omega)
  simp only [Mv.v] at cf cp
  have hb : N * T ≤ 24 * 24 := Nat.mul_le_mul (by omega) hle
  have hTN : (T : Int) * N = L.length := by rw [h5]; push_cast; exact Int.mul_comm _ _
  have w1 : IntKind.i64.wrap ((T : Int) * N) = L.length := by rw [hTN]; exact wrap64 (by omega) (by omega)
  simp [go_sem, Mv.v, w1, show ¬ (T : Int) < 2 by omega, show ¬ (N : Int) < 1 by omega, show ¬ T < 2 by omega, show ¬ N < 1 by omega]
  refine cf.callF (by simp [go_sem]) ?_
  rintro _ rfl
  simp [go_sem]
  refine IWp.loopT (α := Nat) (fun i => (⟨false, 133, 16, [17, 50, 52, 53, 54, 55, 84], [], [(3, .int .u8 l), (9, .ptr 0 1 0 0), (52, .fz 5 (rws L)), (53, .int .i64 L.length), (54, .int .i64 (i : Int))], []⟩, [.rows 6 [[.int .i64 T, .int .i64 N, .int .i64 T, .int .i64 co, .int .i64 2, .fz 5 (rws L)]]]))
    (fun i => i ≤ L.length) (fun i => L.length - i) 0 (by simp) (by simp [go_sem]) ?_
  intro i hi
  by_cases h : i < L.length
  · have wi : IntKind.i64.wrap ((i : Int) + 1) = i + 1 := wrap64 (by omega) (by omega)
    obtain ⟨q1, q2, q3, q4⟩ := hrow h
    have d1 : (i : Int).tdiv T = (i / T : Nat) := rfl
    have d2 : (i : Int).tmod T = (i % T : Nat) := rfl
    have b1 : i / T ≤ i := Nat.div_le_self _ _
    have b2 : i % T ≤ i := Nat.mod_le _ _
    generalize i / T = u at *
    generalize i % T = v at *
    have w2 : IntKind.i64.wrap (u : Int) = u := wrap64 (by omega) (by omega)
    have w3 : IntKind.i64.wrap (v : Int) = v := wrap64 (by omega) (by omega)
    have hT0 : ¬ (T : Int) = 0 := by omega
    have hT0' : ¬ T = 0 := by omega
    generalize hx : L[i] = x at *
    simp [go_sem, h, hx, d1, d2, w2, w3, hT0, hT0', q1, q2, show ¬ x.ns < 1 by omega, show ¬ x.ew < 1 by omega, wi]
    exact ⟨by decide +kernel, i + 1, by simp, by omega, by omega⟩
  have : i = L.length := by omega
  subst this
  have hpl := prs_len L
  have hpos : 0 < (prs L).length := by
    have h0 : 0 < L.length := by rw [h5]; exact Nat.mul_pos (by omega) (by omega)
    have := hrow h0
    exact List.length_pos_of_mem (prs_mem.2 ⟨this.2.2.1, _, List.getElem_mem h0, .inl rfl⟩)
  clear h hi
  simp [go_sem]
  refine cp.callF (by simp [go_sem]) ?_
  rintro _ rfl
  obtain ⟨q, hq⟩ : ∃ q : Nat, q = (l % ((prs L).length : Int)).toNat := ⟨_, rfl⟩
  have hm0 := Int.emod_nonneg l (show ((prs L).length : Int) ≠ 0 by omega)
  have hm1 := Int.emod_lt_of_pos l (show (0 : Int) < (prs L).length by omega)
  have hql : q < (prs L).length := by omega
  have e1 : l.tmod (prs L).length = q := by rw [Int.tmod_eq_emod_of_nonneg hl.1, hq]; omega
  have wl : IntKind.i64.wrap l = l := wrap64 (by omega) (by omega)
  have wq : IntKind.i64.wrap (q : Int) = q := wrap64 (by omega) (by omega)
  have hmem : (prs L)[q] ∈ prs L := List.getElem_mem hql
  have hA0 : ¬ ((prs L).length : Int) = 0 := by omega
  have hA0' : ¬ (prs L).length = 0 := by omega
  have hA0'' : ¬ prs L = [] := fun e => by rw [e] at hpos; simp at hpos
  have cw := without_fun ⟨T, N, T, co, 2, L⟩ (prs L)[q] (by simp; omega)
  rw [woE_mem (m := ⟨T, N, T, co, 2, L⟩) hmem, woM_mem (m := ⟨T, N, T, co, 2, L⟩) hmem] at cw
  have cf2 := fair_fun ⟨T, N, T, co, 2, L.map (wF (prs L)[q])⟩ (hF.without _) (by omega) (by simp; omega)
  have cp2 := pairs_fun ⟨T, N, T, co, 2, L.map (wF (prs L)[q])⟩ (by simp; omega)
  have hwl := prs_without_len hmem
  have hno : decide ((prs L)[q] ∈ prs (L.map (wF (prs L)[q]))) = false := by rw [prs_without]; simp
  have cc := containsInts_fun (prs (L.map (wF (prs L)[q]))) (prs L)[q] (by omega)
  rw [hno] at cc
  simp only [Mv.v] at cw cf2 cp2
  have hml : (L.map (wF (prs L)[q])).length = L.length := by simp
  generalize hp : (prs L)[q] = p at *
  generalize L.map (wF p) = L2 at *
  generalize prs L = A at *
  generalize prs L2 = A2 at *
  have w5 : IntKind.i64.wrap ((A.length : Int) - 1) = A2.length := by rw [wrap64 (by omega) (by omega)]; omega
  simp [go_sem, e1, wl, wq, hql, hA0, hA0', hA0'', hp]
  refine cw.callF (by simp [go_sem]) ?_
  rintro _ rfl
  simp [go_sem, hml]
  refine cf2.callF (by simp [go_sem]) ?_
  rintro _ rfl
  simp [go_sem]
  refine cp2.callF (by simp [go_sem]) ?_
  rintro _ rfl
  simp [go_sem, w5]
  refine cp2.callF (by simp [go_sem]) ?_
  rintro _ rfl
  simp [go_sem]
  refine cc.callF (by simp [go_sem]) ?_
  rintro _ rfl
  simp [go_sem]
  exact hR _ _ _ rfl (by simp [go_sem])
theorem mitchellFair_law (t r k l : Int) (h0 : (Lit.int .u8 t).wf = true) (h1 : (Lit.int .u8 r).wf = true) (h2 : (Lit.int .u8 k).wf = true) (h3 : (Lit.int .u8 l).wf = true) : FN 7 [.int .u8 t, .int .u8 r, .int .u8 k, .int .u8 l] (fun v => v = .bool true) := mitchellFair_fun t r k l (wf8 h0) (wf8 h1) (wf8 h2) (wf8 h3)
end Go.Idl
