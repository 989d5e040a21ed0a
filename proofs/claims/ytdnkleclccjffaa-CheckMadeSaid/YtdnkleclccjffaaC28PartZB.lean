/-
  Chapter 28: CheckCounts.
-/
import Derived.Test.YtdnkleclccjffaaC28PartY
import Derived.Test.YtdnkleclccjffaaC28PartG
import Derived.Test.YtdnkleclccjffaaC28PartC
namespace Go.Idl
set_option linter.all false
open Go.Proofs Go.RowKit
set_option maxHeartbeats 8000000
set_option maxRecDepth 40000

theorem bothB_comm (p q : Int) (x : Rw) : bothB p q x = bothB q p x := by
  unfold bothB; rw [Bool.eq_iff_iff]; simp; omega
theorem meetsN_comm (L : List Rw) (p q : Int) : meetsN L p q = meetsN L q p := by
  unfold meetsN; rw [show bothB p q = bothB q p from funext (bothB_comm p q)]
theorem fair_meets {T N S C Q : Int} {L : List Rw} (h : Fair T N S C Q L) (p q : Int) : meetsN L p q ≤ 1 := by
  refine countP_one (h.pw.imp fun {x y} ha => ?_)
  rintro ⟨a, b⟩
  unfold bothB meetB at a b
  simp only [Bool.and_eq_true, Bool.or_eq_true, decide_eq_true_eq, beq_iff_eq, bne_iff_ne] at a b
  exact ha.2.2 (by omega)
theorem meets_self (L : List Rw) (p : Int) : meetsN L p p = 0 := by
  refine List.countP_eq_zero.2 fun x _ hc => ?_
  unfold bothB meetB at hc
  simp only [Bool.and_eq_true, Bool.or_eq_true, decide_eq_true_eq, beq_iff_eq, bne_iff_ne] at hc
  omega
theorem meets_out (L : List Rw) (p q : Int) (h : p < 1 ∨ q < 1) : meetsN L p q = 0 := by
  refine List.countP_eq_zero.2 fun x _ hc => ?_
  unfold bothB meetB at hc
  simp only [Bool.and_eq_true, Bool.or_eq_true, decide_eq_true_eq, beq_iff_eq, bne_iff_ne] at hc
  omega
theorem plays_length (L : List Rw) (p : Int) : (playsL L p).length = L.countP (playB p) := by
  unfold playsL; rw [List.length_map, List.countP_eq_length_filter]
/-- The one that a pair meets. -/
def otherP (p : Int) (x : Rw) : Int := if x.ns = p then x.ew else x.ns
theorem bothB_other (p q : Int) (x : Rw) : bothB p q x = (playB p x && otherP p x == q) := by
  unfold bothB playB otherP meetB
  rw [Bool.eq_iff_iff]
  simp only [Bool.and_eq_true, Bool.or_eq_true, decide_eq_true_eq, beq_iff_eq, bne_iff_ne]
  split <;> omega
theorem countP_add {α : Type} {a b c : α → Bool} {L : List α} (h : ∀ x, (a x = true ↔ b x = true ∨ c x = true) ∧ ¬ (b x = true ∧ c x = true)) : L.countP a = L.countP b + L.countP c := by
  induction L with
  | nil => simp
  | cons x L ih =>
    rw [List.countP_cons, List.countP_cons, List.countP_cons, ih]
    have := h x
    by_cases hb : b x = true <;> by_cases hc : c x = true <;> simp [hb, hc] at this ⊢ <;> simp [this] <;> omega
def sumB (p : Int) (A : List Int) (x : Rw) : Bool := playB p x && decide (otherP p x ∈ A)
theorem sum_succ {L : List Rw} {A : List Int} {p : Int} (hA : Inc A) {i : Nat} (hi : i < A.length) : L.countP (sumB p (A.take (i + 1))) = L.countP (sumB p (A.take i)) + meetsN L p A[i] := by
  unfold meetsN
  refine countP_add fun x => ?_
  rw [bothB_other]
  unfold sumB
  rw [List.take_succ_eq_append_getElem hi]
  have hno : A[i] ∉ A.take i := fun hm => by
    have hp : (A.take i ++ [A[i]]).Pairwise (· < ·) := by
      rw [← List.take_succ_eq_append_getElem hi]
      exact List.Pairwise.sublist (List.take_sublist _ _) hA
    have := (List.pairwise_append.1 hp).2.2 _ hm A[i] (by simp)
    omega
  simp only [Bool.and_eq_true, decide_eq_true_eq, beq_iff_eq, List.mem_append, List.mem_singleton]
  refine ⟨⟨fun ⟨a, b⟩ => b.elim (fun b => .inl ⟨a, b⟩) fun b => .inr ⟨a, b⟩, fun h => h.elim (fun ⟨a, b⟩ => ⟨a, .inl b⟩) fun ⟨a, b⟩ => ⟨a, .inr b⟩⟩, ?_⟩
  rintro ⟨⟨_, a⟩, _, b⟩
  exact hno (b ▸ a)
theorem sum_all (L : List Rw) (p : Int) : L.countP (sumB p (prs L)) = L.countP (playB p) := by
  refine List.countP_congr fun x hx => ?_
  unfold sumB
  simp only [Bool.and_eq_true, decide_eq_true_eq]
  refine ⟨fun h => h.1, fun h => ⟨h, prs_mem.2 ?_⟩⟩
  unfold playB meetB at h
  simp only [Bool.and_eq_true, Bool.or_eq_true, decide_eq_true_eq, beq_iff_eq, bne_iff_ne] at h
  unfold otherP
  split
  · exact ⟨by omega, x, hx, .inr rfl⟩
  · exact ⟨by omega, x, hx, .inl rfl⟩
def seatB (p : Int) (x : Rw) : Bool := x.ns == p || x.ew == p
theorem seat_play {M : Mv} {T N : Nat} (ok : MdOK M T N) (p : Int) : M.rows.countP (seatB p) = M.rows.countP (playB p) := by
  refine List.countP_congr fun x hx => ?_
  obtain ⟨q, hq, rfl⟩ := List.getElem_of_mem hx
  have h1 := ok.row q hq
  have h2 := ok.fair.rng _ hx
  unfold seatB playB meetB
  simp only [Bool.and_eq_true, Bool.or_eq_true, decide_eq_true_eq, beq_iff_eq, bne_iff_ne]
  omega
theorem checkCounts_fun (t r k n : Int) (ht : 0 ≤ t ∧ t < 256) (hr : 0 ≤ r ∧ r < 256) (hk : 0 ≤ k ∧ k < 256) (hn : 0 ≤ n ∧ n < 256) : FN 9 [.int .u8 t, .int .u8 r, .int .u8 k, .int .u8 n] (fun v => v = .bool true) := by
  refine IFun.of_bodyZ false 19 [20, 35, 36, 37, 38, 63, 69, 70, 71, 72, 84] Try.func9 rfl Try.call9 rfl fun R hR => ?_
  obtain ⟨T, N, ok⟩ := md28_ok ht.1 hr.1 hk.1 (t := t) (r := r) (k := k)
  have c := made28_fun t r k ht hr hk
  obtain ⟨M, hM⟩ : ∃ M, md28 t r k = M := ⟨_, rfl⟩
  rw [hM] at ok c
  clear hM
  have hlen := ok.len_le
  have hpos := ok.len_pos
  have hAl := prs_len M.rows
  have hinc : Inc (prs M.rows) := srt_inc _
  have hApos : 0 < (prs M.rows).length := by
    have h1 := ok.row 0 (by omega)
    exact List.length_pos_of_mem (prs_mem.2 ⟨h1.2.2.1, _, List.getElem_mem (show 0 < M.rows.length by omega), .inl rfl⟩)
  have hall := fun p => sum_all M.rows p
  have hseat := fun p => seat_play ok p
  have hmt := fun p q => fair_meets ok.fair p q
  obtain ⟨A, hA⟩ : ∃ A, prs M.rows = A := ⟨_, rfl⟩
  have cp := pairs_fun M (by omega)
  rw [hA] at hAl hinc hApos hall cp
  have w1 : IntKind.i64.wrap n = n := wrap64 (by omega) (by omega)
  have e1 : n.tmod A.length = n % A.length := Int.tmod_eq_emod_of_nonneg (by omega)
  have m1 := Int.emod_nonneg n (show (A.length : Int) ≠ 0 by omega)
  have m2 := Int.emod_lt_of_pos n (show (0 : Int) < A.length by omega)
  obtain ⟨j, hj⟩ : ∃ j : Nat, n % (A.length : Int) = j := ⟨(n % (A.length : Int)).toNat, by omega⟩
  rw [hj] at e1 m2
  have hjl : j < A.length := by omega
  have hne : ¬ A = [] := fun e => by rw [e] at hApos; simp at hApos
  obtain ⟨p, hp⟩ : ∃ p, A[j] = p := ⟨_, rfl⟩
  simp [go_sem]
  refine awake_fun.callF (by simp [go_sem]) ?_
  rintro _ rfl
  simp [go_sem]
  refine c.callM (by simp [go_sem]) ?_
  rintro _ rfl
  simp [go_sem, Mv.v]
  refine cp.callF (by simp [go_sem, Mv.v]) ?_
  rintro _ rfl
  simp [go_sem, w1, e1, hne, hjl, hp]
  have hcl : ∀ B, M.rows.countP (sumB p B) ≤ 1128 := fun B => Nat.le_trans List.countP_le_length hlen
  have hsum0 : M.rows.countP (sumB p []) = 0 := List.countP_eq_zero.2 fun x _ => by simp [sumB]
  refine IWp.loopT (α := Nat) (fun i => (⟨false, 117, 19, [20, 35, 36, 37, 38, 63, 69, 70, 71, 72, 84], [], [(9, .ptr 0 1 0 0), (11, .int .i64 p), (12, .int .i64 (M.rows.countP (sumB p (A.take i)) : Nat)), (35, .fz 1 (ints A)), (36, .int .i64 A.length), (37, .int .i64 (i : Int))], []⟩, [.rows 6 [mcells M]]))
    (fun i => i ≤ A.length) (fun i => A.length - i) 0 (by simp) (by simp [go_sem, mcells, hsum0]) ?_
  intro i hi
  by_cases h : i < A.length
  · have v1 : IntKind.i64.wrap ((i : Int) + 1) = i + 1 := wrap64 (by omega) (by omega)
    have hs := sum_succ (L := M.rows) (p := p) hinc h
    have hb := hcl (A.take i)
    have hm1 := hmt p A[i]
    obtain ⟨q, hq⟩ : ∃ q, A[i] = q := ⟨_, rfl⟩
    rw [hq] at hs hm1
    have hself : p = q → meetsN M.rows p q = 0 := fun e => by rw [e]; exact meets_self _ _
    obtain ⟨mt, hmte⟩ : ∃ mt, meetsN M.rows p q = mt := ⟨_, rfl⟩
    obtain ⟨su, hsu⟩ : ∃ su, M.rows.countP (sumB p (A.take i)) = su := ⟨_, rfl⟩
    rw [hmte, hsu] at hs
    rw [hmte] at hm1 hself
    rw [hsu] at hb
    have v2 : IntKind.i64.wrap ((su : Int) + mt) = su + mt := wrap64 (by omega) (by omega)
    have hgt : ¬ (1 : Int) < mt := by omega
    have hgt' : ¬ 1 < mt := by omega
    simp [go_sem, mcells, h, hq, hsu]
    refine (meets_fun M p q (by omega)).callF (by simp [go_sem, Mv.v]) ?_
    rintro _ rfl
    simp [go_sem, hmte]
    refine (meets_fun M q p (by omega)).callF (by simp [go_sem, Mv.v]) ?_
    rintro _ rfl
    rw [meetsN_comm, hmte]
    by_cases hpq : p = q
    · have h0 := hself hpq
      subst h0
      simp [go_sem, hpq, v1, v2]
      have v3 : IntKind.i64.wrap (su : Int) = su := wrap64 (by omega) (by omega)
      exact ⟨i + 1, by rw [← hpq, hs]; simp [v3], by omega, by omega⟩
    · simp [go_sem, hpq, hgt, hgt', v1, v2]
      exact ⟨i + 1, by rw [hs]; simp, by omega, by omega⟩
  · obtain rfl : i = A.length := by omega
    have hsum : M.rows.countP (sumB p (A.take A.length)) = M.rows.countP (playB p) := by rw [List.take_length]; exact hall p
    simp [go_sem, mcells, hsum]
    have hsum2 := hall p
    refine IWp.loopT (α := Nat) (fun i => (⟨false, 117, 19, [20, 35, 36, 37, 38, 63, 69, 70, 71, 72, 84], [], [(9, .ptr 0 1 0 0), (11, .int .i64 p), (12, .int .i64 (M.rows.countP (playB p) : Nat)), (16, .int .i64 ((M.rows.take i).countP (seatB p) : Nat)), (69, .fz 5 (rws M.rows)), (70, .int .i64 M.rows.length), (71, .int .i64 (i : Int))], []⟩, [.rows 6 [mcells M]]))
      (fun i => i ≤ M.rows.length) (fun i => M.rows.length - i) 0 (by simp) (by simp [go_sem, mcells, hsum2]) ?_
    intro i hi
    by_cases h2 : i < M.rows.length
    · have v1 : IntKind.i64.wrap ((i : Int) + 1) = i + 1 := wrap64 (by omega) (by omega)
      have hs := countP_succ (p := seatB p) h2
      have hb : (M.rows.take i).countP (seatB p) ≤ 1128 := Nat.le_trans List.countP_le_length (by simp; omega)
      obtain ⟨su, hsu⟩ : ∃ su, (M.rows.take i).countP (seatB p) = su := ⟨_, rfl⟩
      obtain ⟨x, hx⟩ : ∃ x, M.rows[i] = x := ⟨_, rfl⟩
      rw [hsu, hx] at hs
      rw [hsu] at hb
      have v2 : IntKind.i64.wrap ((su : Int) + 1) = su + 1 := wrap64 (by omega) (by omega)
      by_cases x1 : x.ns = p
      · have hsb : seatB p x = true := by unfold seatB; simp [x1]
        rw [if_pos hsb] at hs
        simp [go_sem, mcells, h2, hx, hsu, x1, v1, v2]
        exact ⟨i + 1, by rw [hs]; simp, by omega, by omega⟩
      · by_cases x2 : x.ew = p
        · have hsb : seatB p x = true := by unfold seatB; simp [x2]
          rw [if_pos hsb] at hs
          simp [go_sem, mcells, h2, hx, hsu, x1, x2, v1, v2]
          exact ⟨i + 1, by rw [hs]; simp, by omega, by omega⟩
        · have hsb : ¬ seatB p x = true := by unfold seatB; simp [x1, x2]
          rw [if_neg hsb] at hs
          simp [go_sem, mcells, h2, hx, hsu, x1, x2, v1, v2]
          exact ⟨i + 1, by rw [hs]; simp, by omega, by omega⟩
    · obtain rfl : i = M.rows.length := by omega
      have hpl := plays_length M.rows p
      have hpl0 : playsL M.rows 0 = [] := List.length_eq_zero_iff.1 (by
        rw [plays_length]
        refine List.countP_eq_zero.2 fun x _ hc => ?_
        unfold playB meetB at hc
        simp only [Bool.and_eq_true, Bool.or_eq_true, decide_eq_true_eq, beq_iff_eq, bne_iff_ne] at hc
        omega)
      have hst := hseat p
      simp [go_sem, mcells, hst]
      refine (plays_fun M p (by omega)).callF (by simp [go_sem, Mv.v]) ?_
      rintro _ rfl
      simp [go_sem, hpl]
      refine (meets_fun M p 0 (by omega)).callF (by simp [go_sem, Mv.v]) ?_
      rintro _ rfl
      rw [meets_out _ _ _ (.inr (by omega))]
      simp [go_sem]
      refine (meets_fun M (-1) p (by omega)).callF (by simp [go_sem, Mv.v]) ?_
      rintro _ rfl
      rw [meets_out _ _ _ (.inl (by omega))]
      simp [go_sem]
      refine (plays_fun M 0 (by omega)).callF (by simp [go_sem, Mv.v]) ?_
      rintro _ rfl
      rw [hpl0]
      simp [go_sem]
      exact hR _ _ _ rfl (by simp [go_sem])
theorem checkCounts_law (t r k n : Int) (h0 : (Lit.int .u8 t).wf = true) (h1 : (Lit.int .u8 r).wf = true) (h2 : (Lit.int .u8 k).wf = true) (h3 : (Lit.int .u8 n).wf = true) :
    FN 9 [.int .u8 t, .int .u8 r, .int .u8 k, .int .u8 n] (fun v => v = .bool true) := checkCounts_fun t r k n (wf8 h0) (wf8 h1) (wf8 h2) (wf8 h3)
end Go.Idl
