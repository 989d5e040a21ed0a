/-
  Chapter 28: what is wrong is found (plain).
  Chapter 28: CheckFinds.
  Chapter 28: CheckFinds, the walk.
-/
import Derived.Test.YtdnkleclccjffaaC28PartY
import Derived.Test.YtdnkleclccjffaaC28PartF
import Derived.Test.YtdnkleclccjffaaC28PartC
namespace Go.Idl
set_option linter.all false
open Go.Proofs
set_option maxHeartbeats 8000000
set_option maxRecDepth 40000

theorem firstR_nonneg {p : Nat → Bool} {bs : List Nat} {k : Nat} (hk : k ∈ bs) (hp : p k = true) : 0 ≤ firstR p bs := by
  unfold firstR
  cases h : bs.find? p with
  | some k => simp
  | none => exact absurd hp (by simpa using List.find?_eq_none.1 h k hk)
theorem hitF_mem {k i p a : Int} (h : 0 ≤ a) : (⟨k, i, p, a⟩ : Flt) ∈ hitF k i p a := by unfold hitF; rw [if_pos h]; simp
/-- A row changed: rows before it, and behind it, as they were. -/
def setRow (M : Mv) (i : Nat) (x : Rw) : Mv := { M with rows := M.rows.set i x }
theorem setRow_len (M : Mv) (i : Nat) (x : Rw) : (setRow M i x).rows.length = M.rows.length := by simp [setRow]
theorem setRow_get (M : Mv) (i j : Nat) (x : Rw) (h : j < (setRow M i x).rows.length) : (setRow M i x).rows[j] = if i = j then x else M.rows[j]'(by rw [setRow_len] at h; exact h) := by
  simp [setRow, List.getElem_set]
theorem setRow_frame {M : Mv} {i : Nat} {x : Rw} (h : frameP M) : frameP (setRow M i x) := by
  unfold frameP at *
  unfold setRow
  simpa using h
theorem setRow_err {M : Mv} {i : Nat} {x : Rw} {lim : Int} (h : frameP M) (hl : 1 ≤ lim) : errF (setRow M i x) lim = 0 := by
  unfold errF; rw [if_neg (by simp [setRow_frame h]), if_neg (by omega)]
/-- Rows in their places are not wrong. -/
theorem setRow_ok {M : Mv} {Q : Int} {i : Nat} {x : Rw} (hi : i < M.rows.length) (hf : Fair M.tables M.rounds M.sets M.copies Q M.rows) (hr : x.r = M.rows[i].r) (ht : x.t = M.rows[i].t) (hx : outR M x = false) :
    ∀ (j : Nat) (h : j < (setRow M i x).rows.length), wrongR (setRow M i x) (List.range j) (setRow M i x).rows[j] = false := by
  intro j hj
  have hj' : j < M.rows.length := by rw [setRow_len] at hj; exact hj
  have hrt : ∀ (k : Nat) (h : k < (setRow M i x).rows.length), (setRow M i x).rows[k].r = (M.rows[k]'(by rw [setRow_len] at h; exact h)).r ∧ (setRow M i x).rows[k].t = (M.rows[k]'(by rw [setRow_len] at h; exact h)).t := fun k hk => by
    rw [setRow_get]
    split
    · rename_i e; subst e; exact ⟨hr, ht⟩
    · exact ⟨rfl, rfl⟩
  refine wrongR_false hj ?_ fun k hk hkj e => ?_
  · rw [setRow_get]
    split
    · exact hx
    · exact outR_ok (hf.rng _ (List.getElem_mem hj'))
  · rw [(hrt k hk).1, (hrt k hk).2, (hrt j hj).1, (hrt j hj).2] at e
    exact (hf.ap hj' hkj).1 e.1 e.2
/-- Two rows of a round in which one pair sits. -/
theorem twice_found {m : Mv} {lim : Int} (he : errF m lim = 0) (hw : ∀ (j : Nat) (h : j < m.rows.length), wrongR m (List.range j) m.rows[j] = false) {a b : Nat} (hab : a < b) (hb : b < m.rows.length) {p : Int} (hp : 0 < p)
    (hr : (m.rows[a]'(by omega)).r = m.rows[b].r) (h1 : (m.rows[a]'(by omega)).ns = p ∨ (m.rows[a]'(by omega)).ew = p) (h2 : m.rows[b].ns = p ∨ m.rows[b].ew = p) : ∃ f ∈ faultsOf m lim, f.k = 3 := by
  have hs : sitP m.rows m.rows[b].r p a = true := by
    unfold sitP inB
    rw [rAtR_get (by omega)]
    simp only [Bool.and_eq_true, beq_iff_eq, decide_eq_true_eq, Bool.or_eq_true]
    exact ⟨hr, hp, h1⟩
  have hf := firstR_nonneg (p := sitP m.rows m.rows[b].r p) (bs := List.range b) (List.mem_range.2 hab) hs
  refine ⟨⟨3, b, p, firstR (sitP m.rows m.rows[b].r p) (List.range b)⟩, faults_mem he hb (fun j h _ => hw j h) (.inr ⟨hw b hb, ?_⟩), rfl⟩
  generalize m.rows[b] = x at *
  unfold ptsR
  simp only [List.mem_append]
  by_cases hn : x.ns = p
  · refine .inl (.inl (.inl (.inl (.inr ?_))))
    unfold part3
    rw [hn]; exact hitF_mem hf
  · have he2 : x.ew = p := h2.resolve_left hn
    refine .inl (.inl (.inl (.inr ?_)))
    unfold part3b
    rw [if_pos (by omega), he2]; exact hitF_mem hf
/-- A set that a pair plays twice. -/
theorem set_found {m : Mv} {lim : Int} (he : errF m lim = 0) (hw : ∀ (j : Nat) (h : j < m.rows.length), wrongR m (List.range j) m.rows[j] = false) {a b : Nat} (hab : a < b) (hb : b < m.rows.length)
    (hs : (m.rows[a]'(by omega)).s = m.rows[b].s) (hn : (m.rows[a]'(by omega)).ns = m.rows[b].ns) (m1 : meetB (m.rows[a]'(by omega)) = true) (m2 : meetB m.rows[b] = true) : ∃ f ∈ faultsOf m lim, f.k = 5 := by
  have hp : playP m.rows m.rows[b].s m.rows[b].ns a = true := by
    unfold playP inB
    rw [rAtR_get (by omega)]
    have : 0 < m.rows[b].ns := by unfold meetB at m2; simp at m2; omega
    simp only [Bool.and_eq_true, beq_iff_eq, decide_eq_true_eq, Bool.or_eq_true]
    exact ⟨⟨hs, m1⟩, this, .inl hn⟩
  have hf := firstR_nonneg (p := playP m.rows m.rows[b].s m.rows[b].ns) (bs := List.range b) (List.mem_range.2 hab) hp
  refine ⟨⟨5, b, m.rows[b].ns, firstR (playP m.rows m.rows[b].s m.rows[b].ns) (List.range b)⟩, faults_mem he hb (fun j h _ => hw j h) (.inr ⟨hw b hb, ?_⟩), rfl⟩
  generalize m.rows[b] = x at *
  unfold ptsR
  simp only [List.mem_append]
  refine .inl (.inr ?_)
  unfold part5
  rw [if_pos m2, List.mem_append]
  exact .inl (hitF_mem hf)
/-- A pair against itself. -/
theorem self_found {m : Mv} {lim : Int} (he : errF m lim = 0) (hw : ∀ (j : Nat) (h : j < m.rows.length), wrongR m (List.range j) m.rows[j] = false) {b : Nat} (hb : b < m.rows.length) (h1 : 0 < m.rows[b].ns) (h2 : m.rows[b].ns = m.rows[b].ew) : ∃ f ∈ faultsOf m lim, f.k = 2 := by
  refine ⟨⟨2, b, m.rows[b].ns, m.rows[b].ew⟩, faults_mem he hb (fun j h _ => hw j h) (.inr ⟨hw b hb, ?_⟩), rfl⟩
  generalize m.rows[b] = x at *
  unfold ptsR part2
  rw [if_pos ⟨h1, h2⟩]
  simp
/-- The first row out of its place. -/
theorem wrong_found {m : Mv} {lim : Int} (he : errF m lim = 0) {b : Nat} (hb : b < m.rows.length) (hw : ∀ (j : Nat) (h : j < m.rows.length), j < b → wrongR m (List.range j) m.rows[j] = false) (h1 : wrongR m (List.range b) m.rows[b] = true) : ∃ f ∈ faultsOf m lim, f.k = 1 :=
  ⟨⟨1, b, m.rows[b].ns, m.rows[b].ew⟩, faults_mem he hb hw (.inl ⟨h1, rfl⟩), rfl⟩
theorem setRow_wrong {M : Mv} {Q : Int} {i b : Nat} {x : Rw} (hb : b < M.rows.length) (hf : Fair M.tables M.rounds M.sets M.copies Q M.rows)
    (hx : i < b → outR M x = false ∧ ∀ (k : Nat) (h : k < M.rows.length), k < b → k ≠ i → ¬ (M.rows[k].r = x.r ∧ M.rows[k].t = x.t)) :
    ∀ (j : Nat) (h : j < (setRow M i x).rows.length), j < b → wrongR (setRow M i x) (List.range j) (setRow M i x).rows[j] = false := by
  intro j hj hjb
  have hj' : j < M.rows.length := by rw [setRow_len] at hj; exact hj
  refine wrongR_false hj ?_ fun k hk hkj e => ?_
  · rw [setRow_get]
    split
    · rename_i e; exact (hx (by omega)).1
    · exact outR_ok (hf.rng _ (List.getElem_mem hj'))
  · have hk' : k < M.rows.length := by omega
    rw [setRow_get, setRow_get] at e
    by_cases e1 : i = k
    · rw [if_pos e1, if_neg (by omega)] at e
      exact (hx (by omega)).2 j hj' hjb (by omega) ⟨e.1.symm, e.2.symm⟩
    · rw [if_neg e1] at e
      by_cases e2 : i = j
      · rw [if_pos e2] at e
        exact (hx (by omega)).2 k hk' (by omega) (by omega) e
      · rw [if_neg e2] at e
        exact (hf.ap hj' hkj).1 e.1 e.2

/-! ### the five ways -/
section
variable {M : Mv} {T N : Nat}
theorem MdOK.meet (ok : MdOK M T N) {q : Nat} (hq : q < M.rows.length) : meetB M.rows[q] = true := by
  have h1 := ok.row q hq
  have h2 := ok.fair.rng _ (List.getElem_mem hq)
  unfold meetB
  simp; omega
theorem MdOK.rng (ok : MdOK M T N) {q : Nat} (hq : q < M.rows.length) : (0 ≤ M.rows[q].r ∧ M.rows[q].r < M.rounds) ∧ (0 ≤ M.rows[q].t ∧ M.rows[q].t < M.tables) ∧ (0 ≤ M.rows[q].s ∧ M.rows[q].s < M.sets) ∧ 1 ≤ M.rows[q].ns ∧ 1 ≤ M.rows[q].ew ∧ M.rows[q].ns ≠ M.rows[q].ew := by
  have h1 := ok.row q hq
  have h2 := ok.fair.rng _ (List.getElem_mem hq)
  omega
/-- Another table of the round. -/
theorem MdOK.other (ok : MdOK M T N) {i : Nat} (hi : i < M.rows.length) : ∃ q, ∃ h : q < M.rows.length, q ≠ i ∧ M.rows[q].r = M.rows[i].r := by
  have hT := ok.t1
  have h1 := ok.row i hi
  have hd := Nat.div_add_mod i T
  have hm := Nat.mod_lt i (show 0 < T by omega)
  have hl := ok.len
  have hdN : i / T < N := Nat.div_lt_of_lt_mul (by rw [Nat.mul_comm]; omega)
  have hNT : T * (i / T) + T ≤ N * T := by
    have := Nat.mul_le_mul_right T (show i / T + 1 ≤ N by omega)
    rw [Nat.add_mul, Nat.one_mul, Nat.mul_comm] at this; exact this
  by_cases h0 : i % T = 0
  · refine ⟨i + 1, by omega, by omega, ?_⟩
    have h2 := ok.row (i + 1) (by omega)
    have : (i + 1) / T = i / T := by
      rw [show i + 1 = 1 + T * (i / T) by omega, Nat.add_mul_div_left _ _ (by omega), Nat.div_eq_of_lt (by omega)]; omega
    rw [h1.1, h2.1, this]
  · refine ⟨i - 1, by omega, by omega, ?_⟩
    have h2 := ok.row (i - 1) (by omega)
    have : (i - 1) / T = i / T := by
      rw [show i - 1 = (i % T - 1) + T * (i / T) by omega, Nat.add_mul_div_left _ _ (by omega), Nat.div_eq_of_lt (by omega)]; omega
    rw [h1.1, h2.1, this]
theorem way0 (ok : MdOK M T N) {i q : Nat} (hi : i < M.rows.length) (hq : q < M.rows.length) (hne : q ≠ i) (hr : M.rows[q].r = M.rows[i].r) : ∃ f ∈ faultsOf (setRow M i { M.rows[i] with ns := M.rows[q].ew }) 1, f.k = 3 := by
  have hri := ok.rng hi
  have hrq := ok.rng hq
  have hw := setRow_ok (x := { M.rows[i] with ns := M.rows[q].ew }) hi ok.fair rfl rfl (by unfold outR; simp; omega)
  have he : errF (setRow M i { M.rows[i] with ns := M.rows[q].ew }) 1 = 0 := setRow_err ok.frame (by omega)
  rcases Nat.lt_or_gt_of_ne hne with h | h
  · refine twice_found he hw h (by rw [setRow_len]; exact hi) (p := M.rows[q].ew) (by omega) ?_ ?_ ?_
    · rw [setRow_get, setRow_get, if_neg (by omega), if_pos rfl]; exact hr
    · rw [setRow_get, if_neg (by omega)]; exact .inr rfl
    · rw [setRow_get, if_pos rfl]; exact .inl rfl
  · refine twice_found he hw h (by rw [setRow_len]; exact hq) (p := M.rows[q].ew) (by omega) ?_ ?_ ?_
    · rw [setRow_get, setRow_get, if_pos rfl, if_neg (by omega)]; exact hr.symm
    · rw [setRow_get, if_pos rfl]; exact .inl rfl
    · rw [setRow_get, if_neg (by omega)]; exact .inr rfl
theorem way1 (ok : MdOK M T N) {i q : Nat} (hi : i < M.rows.length) (hq : q < M.rows.length) (hne : q ≠ i) (hr : M.rows[q].ns = M.rows[i].ns) : ∃ f ∈ faultsOf (setRow M i { M.rows[i] with s := M.rows[q].s }) 1, f.k = 5 := by
  have hri := ok.rng hi
  have hrq := ok.rng hq
  have hw := setRow_ok (x := { M.rows[i] with s := M.rows[q].s }) hi ok.fair rfl rfl (by unfold outR; simp; omega)
  have he : errF (setRow M i { M.rows[i] with s := M.rows[q].s }) 1 = 0 := setRow_err ok.frame (by omega)
  have mi : meetB { M.rows[i] with s := M.rows[q].s } = true := ok.meet hi
  have mq := ok.meet hq
  rcases Nat.lt_or_gt_of_ne hne with h | h
  · refine set_found he hw h (by rw [setRow_len]; exact hi) ?_ ?_ ?_ ?_
    · rw [setRow_get, setRow_get, if_neg (by omega), if_pos rfl]
    · rw [setRow_get, setRow_get, if_neg (by omega), if_pos rfl]; exact hr
    · rw [setRow_get, if_neg (by omega)]; exact mq
    · rw [setRow_get, if_pos rfl]; exact mi
  · refine set_found he hw h (by rw [setRow_len]; exact hq) ?_ ?_ ?_ ?_
    · rw [setRow_get, setRow_get, if_pos rfl, if_neg (by omega)]
    · rw [setRow_get, setRow_get, if_pos rfl, if_neg (by omega)]; exact hr.symm
    · rw [setRow_get, if_pos rfl]; exact mi
    · rw [setRow_get, if_neg (by omega)]; exact mq
theorem way2 (ok : MdOK M T N) {i : Nat} (hi : i < M.rows.length) {w : Int} (hw : 0 ≤ w) : ∃ f ∈ faultsOf (setRow M i { M.rows[i] with t := M.tables + w }) 1, f.k = 1 := by
  have he : errF (setRow M i { M.rows[i] with t := M.tables + w }) 1 = 0 := setRow_err ok.frame (by omega)
  refine wrong_found he (b := i) (by rw [setRow_len]; exact hi) (setRow_wrong hi ok.fair fun h => by omega) ?_
  rw [setRow_get, if_pos rfl]
  unfold wrongR
  have : outR (setRow M i { M.rows[i] with t := M.tables + w }) { M.rows[i] with t := M.tables + w } = true := by
    unfold outR setRow; simp; omega
  rw [this]; rfl
theorem way3 (ok : MdOK M T N) {i : Nat} (hi : i < M.rows.length) : ∃ f ∈ faultsOf (setRow M i { M.rows[i] with ew := M.rows[i].ns }) 1, f.k = 2 := by
  have hri := ok.rng hi
  have hw := setRow_ok (x := { M.rows[i] with ew := M.rows[i].ns }) hi ok.fair rfl rfl (by unfold outR; simp; omega)
  have he : errF (setRow M i { M.rows[i] with ew := M.rows[i].ns }) 1 = 0 := setRow_err ok.frame (by omega)
  refine self_found he hw (b := i) (by rw [setRow_len]; exact hi) ?_ ?_
  · rw [setRow_get, if_pos rfl]; show 0 < M.rows[i].ns; omega
  · rw [setRow_get, if_pos rfl]
theorem way4 (ok : MdOK M T N) {i k : Nat} (hi : i < M.rows.length) (hk : k < M.rows.length) (hne : i ≠ k) : ∃ f ∈ faultsOf (setRow M i { M.rows[i] with r := M.rows[k].r, t := M.rows[k].t }) 1, f.k = 1 := by
  have hri := ok.rng hi
  have hrk := ok.rng hk
  obtain ⟨x, hx⟩ : ∃ x : Rw, { M.rows[i] with r := M.rows[k].r, t := M.rows[k].t } = x := ⟨_, rfl⟩
  have hxr : x.r = M.rows[k].r ∧ x.t = M.rows[k].t := by rw [← hx]; exact ⟨rfl, rfl⟩
  have hxo : outR M x = false := by rw [← hx]; unfold outR; simp; omega
  rw [hx]
  have he : errF (setRow M i x) 1 = 0 := setRow_err ok.frame (by omega)
  rcases Nat.lt_or_gt_of_ne hne with h | h
  · refine wrong_found he (b := k) (by rw [setRow_len]; exact hk) (setRow_wrong hk ok.fair fun _ => ⟨hxo, fun j hj hjk hji e => ?_⟩) ?_
    · rw [hxr.1, hxr.2] at e
      exact (ok.fair.ap hk hjk).1 e.1 e.2
    · rw [setRow_get, if_neg (by omega)]
      unfold wrongR
      rw [Bool.or_eq_true, List.any_eq_true]
      refine .inr ⟨i, List.mem_range.2 h, ?_⟩
      unfold sameRT
      rw [rAtR_get (by rw [setRow_len]; exact hi), setRow_get, if_pos rfl]
      simp [hxr]
  · refine wrong_found he (b := i) (by rw [setRow_len]; exact hi) (setRow_wrong hi ok.fair fun h => by omega) ?_
    rw [setRow_get, if_pos rfl]
    unfold wrongR
    rw [Bool.or_eq_true, List.any_eq_true]
    refine .inr ⟨k, List.mem_range.2 h, ?_⟩
    unfold sameRT
    rw [rAtR_get (by rw [setRow_len]; exact hk), setRow_get, if_neg (by omega)]
    simp [hxr]
end
end Go.Idl
namespace Go.Idl
set_option linter.all false
open Go.Proofs
set_option maxHeartbeats 8000000
set_option maxRecDepth 40000

theorem kindIs_fun (f : Flt) (w : Int) : FN 25 [.agg f.c, .fptr 1 [[.int .u8 w]] 0 0] (fun v => v = .bool (f.k == w)) := by
  refine IFun.of_bodyZ false 4 [] Try.func25 rfl Try.call25 rfl fun R hR => ?_
  simp [go_sem, Flt.c]
  exact hR _ _ _ rfl (by simp [go_sem])
def idxF (l : List Flt) (w : Int) : Int := match l.findIdx? (fun f => f.k == w) with | some i => i | none => -1
theorem idxF_neg {l : List Flt} {w : Int} (h : ∀ f ∈ l, f.k ≠ w) : idxF l w = -1 := by
  unfold idxF
  have : l.findIdx? (fun f => f.k == w) = none := List.findIdx?_eq_none_iff.2 fun f hf => by simpa using h f hf
  rw [this]
theorem idxF_at {l : List Flt} {w : Int} {i : Nat} (h : i < l.length) (hi : l[i].k = w) (hb : ∀ j (hj : j < l.length), j < i → l[j].k ≠ w) : idxF l w = i := by
  unfold idxF
  have : l.findIdx? (fun f => f.k == w) = some i := List.findIdx?_eq_some_iff_getElem.2 ⟨h, by simpa using hi, fun j hj => by simpa using hb j (by omega) hj⟩
  rw [this]
theorem indexFlt_fun (l : List Flt) (w : Int) (hl : l.length ≤ 2 ^ 40) : FN 54 [.fz 4 (flts l), .func (.func 25) [] [.fptr 1 [[.int .u8 w]] 0 0]] (fun v => v = .int .i64 (idxF l w)) := by
  refine IFun.of_bodyZ false 6 [7, 8, 9, 16] Try.func54 rfl Try.call54 rfl fun R hR => ?_
  simp [go_sem]
  refine IWp.loopT (α := Nat) (fun i => (⟨false, 19, 6, [7, 8, 9, 16], [], [(0, .fz 4 (flts l)), (1, .func (.func 25) [] [.fptr 1 [[.int .u8 w]] 0 0]), (7, .int .i64 l.length), (8, .int .i64 (i : Int))], []⟩, []))
    (fun i => i ≤ l.length ∧ ∀ j (hj : j < l.length), j < i → l[j].k ≠ w) (fun i => l.length - i) 0 ⟨by simp, fun j hj h => by omega⟩ (by simp [go_sem]) ?_
  rintro i ⟨hi, hno⟩
  by_cases h : i < l.length
  · have w1 : IntKind.i64.wrap ((i : Int) + 1) = i + 1 := wrap64 (by omega) (by omega)
    obtain ⟨f, hf⟩ : ∃ f, l[i] = f := ⟨_, rfl⟩
    simp [go_sem, h, hf]
    refine (kindIs_fun f w).callF (by simp [go_sem, Flt.c]) ?_
    rintro _ rfl
    by_cases hk : f.k = w
    · simp [go_sem, hk]
      exact hR _ _ _ rfl (by simp [go_sem, idxF_at h (by rw [hf]; exact hk) hno])
    · simp [go_sem, hk, w1]
      refine ⟨i + 1, by omega, ⟨by omega, fun j hj hji => ?_⟩, by omega⟩
      by_cases e : j = i
      · subst e; rw [hf]; exact hk
      · exact hno j hj (by omega)
  · obtain rfl : i = l.length := by omega
    simp [go_sem]
    refine hR _ _ _ rfl ?_
    simp [go_sem, idxF_neg (w := w) fun f hf => by
      obtain ⟨j, hj, rfl⟩ := List.getElem_of_mem hf
      exact hno j hj hj]
theorem containsFlt_fun (l : List Flt) (w : Int) (hl : l.length ≤ 2 ^ 40) : FN 24 [.fz 4 (flts l), .func (.func 25) [] [.fptr 1 [[.int .u8 w]] 0 0]] (fun v => v = .bool (decide (0 ≤ idxF l w))) := by
  refine IFun.of_bodyZ false 5 [] Try.func24 rfl Try.call24 rfl fun R hR => ?_
  simp [go_sem]
  refine (indexFlt_fun l w hl).callF (by simp [go_sem]) ?_
  rintro _ rfl
  simp [go_sem]
  exact hR _ _ _ rfl (by simp [go_sem])
theorem idxF_pos {l : List Flt} {w : Int} (h : ∃ f ∈ l, f.k = w) : 0 ≤ idxF l w := by
  unfold idxF
  split
  · omega
  · rename_i e
    rw [List.findIdx?_eq_none_iff] at e
    obtain ⟨f, hf, hk⟩ := h
    have := e f hf
    simp [hk] at this
end Go.Idl
namespace Go.Idl
set_option linter.all false
open Go.Proofs Go.RowKit
set_option maxHeartbeats 8000000
set_option maxRecDepth 40000

theorem set_rwsF {l : List Rw} {i : Nat} {a b c d e : Int} : (rws l).set i [.int .i64 a, .int .i64 b, .int .i64 c, .int .i64 d, .int .i64 e] = rws (l.set i ⟨a, b, c, d, e⟩) := (rws_set (x := ⟨a, b, c, d, e⟩)).symm
/-- Rows, and what is to be found in them. -/
def FindOK (M : Mv) (L : List Rw) (w : Int) : Prop := L.length = M.rows.length ∧ ((0 < w ∧ w < 256 ∧ 0 ≤ idxF (faultsOf { M with rows := L } 1) w ∧ faultsOf { M with rows := L } 1 ≠ []) ∨ (w = 0 ∧ faultsOf { M with rows := L } 1 = []))
theorem find_yes {M : Mv} {i : Nat} {x : Rw} {w : Int} (hw : 0 < w ∧ w < 256) (h : ∃ f ∈ faultsOf (setRow M i x) 1, f.k = w) : FindOK M (M.rows.set i x) w := by
  refine ⟨by simp, .inl ⟨hw.1, hw.2, idxF_pos h, fun e => ?_⟩⟩
  obtain ⟨f, hf, _⟩ := h
  have : faultsOf (setRow M i x) 1 = [] := e
  rw [this] at hf
  cases hf
theorem find_no {M : Mv} {T N : Nat} (ok : MdOK M T N) : FindOK M M.rows 0 := ⟨rfl, .inr ⟨rfl, fair_faults (by omega) ok.fair⟩⟩
def findH (M : Mv) (L : List Rw) (b : Rw) (w : Int) : Heap :=
  .rows 6 [[.int .i64 M.tables, .int .i64 M.rounds, .int .i64 M.sets, .int .i64 M.copies, .int .i64 M.winners, .sl 1 L.length 0 L.length none]] :: .rows 5 (rws L) :: (List.replicate 9 IObj.hole ++ [.rows 5 [b.c], .rows 1 [[.int .u8 w]]])
theorem checkFinds_fun (t r k at_ wi_ way : Int) (ht : 0 ≤ t ∧ t < 256) (hr : 0 ≤ r ∧ r < 256) (hk : 0 ≤ k ∧ k < 256) (ha : 0 ≤ at_ ∧ at_ < 256) (hwi : 0 ≤ wi_ ∧ wi_ < 256) (hwy : 0 ≤ way ∧ way < 256) : FN 7 [.int .u8 t, .int .u8 r, .int .u8 k, .int .u8 at_, .int .u8 wi_, .int .u8 way] (fun v => v = .bool true) := by
  refine IFun.of_bodyW false 26 [27, 58, 61, 72, 75, 76, 77, 78, 93, 97, 103, 106, 107, 108, 109, 124, 128, 134, 144] Try.func7 rfl Try.call7 rfl fun R hR => ?_
  obtain ⟨T, N, ok⟩ := md28_ok ht.1 hr.1 hk.1 (t := t) (r := r) (k := k)
  have c := made28_fun t r k ht hr hk
  obtain ⟨M, hM⟩ : ∃ M, md28 t r k = M := ⟨_, rfl⟩
  rw [hM] at ok c
  clear hM
  have hlen := ok.len_le
  have hpos := ok.len_pos
  obtain ⟨tb, ro, se, co, wi, L⟩ := M
  simp only at hlen hpos
  have hlz : ¬ (L.length : Int) = 0 := by omega
  have hne : ¬ L = [] := fun e => by rw [e] at hpos; simp at hpos
  have w1 : IntKind.i64.wrap at_ = at_ := wrap64 (by omega) (by omega)
  have w2 : IntKind.i64.wrap wi_ = wi_ := wrap64 (by omega) (by omega)
  have e1 : at_.tmod L.length = at_ % L.length := Int.tmod_eq_emod_of_nonneg (by omega)
  have e2 : wi_.tmod L.length = wi_ % L.length := Int.tmod_eq_emod_of_nonneg (by omega)
  have m1 := Int.emod_nonneg at_ hlz
  have m2 := Int.emod_lt_of_pos at_ (show (0 : Int) < L.length by omega)
  have m3 := Int.emod_nonneg wi_ hlz
  have m4 := Int.emod_lt_of_pos wi_ (show (0 : Int) < L.length by omega)
  obtain ⟨i, hi⟩ : ∃ i : Nat, at_ % (L.length : Int) = i := ⟨(at_ % (L.length : Int)).toNat, by omega⟩
  obtain ⟨q, hq⟩ : ∃ q : Nat, wi_ % (L.length : Int) = q := ⟨(wi_ % (L.length : Int)).toNat, by omega⟩
  rw [hi] at e1 m2
  rw [hq] at e2 m4
  have hil : i < L.length := by omega
  have hql : q < L.length := by omega
  have e5 : way.tmod 5 = way % 5 := Int.tmod_eq_emod_of_nonneg (by omega)
  obtain ⟨wy, hwyE⟩ : ∃ wy, way % 5 = wy := ⟨_, rfl⟩
  rw [hwyE] at e5
  refine IWp.seqI ?_
  simp [go_sem]
  refine IWp.seqI ?_
  simp [go_sem]
  refine awake_fun.callF (by simp [go_sem]) ?_
  rintro _ rfl
  simp [go_sem]
  refine IWp.seqI ?_
  simp [go_sem]
  refine c.callM (by simp [go_sem]) ?_
  rintro _ rfl
  simp [go_sem, Mv.v]
  refine IWp.seqI ?_
  simp [go_sem]
  refine (cloneRows_fun L (by omega)).callOF (by simp [go_sem]) ?_
  rintro _ rfl
  refine ⟨fun v => v, 5, _, .here, by decide, rfl, by simp [go_sem], ?_⟩
  simp [go_sem]
  refine IWp.seqI ?_
  simp [go_sem, w1, e1, hlz, hne]
  refine IWp.seqI ?_
  simp [go_sem, w2, e2, hlz, hne]
  refine IWp.seqI ?_
  simp [go_sem, hil, hql]
  refine ⟨by decide +kernel, ?_⟩
  refine IWp.seqI ?_
  simp [go_sem]
  refine IWp.seqT (α := List Rw × Rw × Int) (fun x => (⟨false, 177, 26, [27, 58, 61, 72, 75, 76, 77, 78, 93, 97, 103, 106, 107, 108, 109, 124, 128, 134, 144], [], [(13, .ptr 0 1 0 0), (18, .ptr 12 1 0 0)], []⟩, findH ⟨tb, ro, se, co, wi, x.1⟩ x.1 x.2.1 x.2.2)) (fun x => FindOK ⟨tb, ro, se, co, wi, L⟩ x.1 x.2.2) ?_ ?_
  · rcases (by omega : wy = 0 ∨ wy = 1 ∨ wy = 2 ∨ wy = 3 ∨ wy = 4) with rfl | rfl | rfl | rfl | rfl
    · simp [go_sem, e5]
      refine IWp.loopT (α := Nat × Rw × Int) (fun x => (⟨false, 177, 26, [27, 58, 61, 72, 75, 76, 77, 78, 93, 97, 103, 106, 107, 108, 109, 124, 128, 134, 144], [], [(13, .ptr 0 1 0 0), (14, .int .i64 (i : Int)), (16, .ptr 1 L.length i 0), (17, .ptr 11 1 0 0), (18, .ptr 12 1 0 0), (75, .sl 1 L.length 0 L.length none), (76, .int .i64 L.length), (77, .int .i64 (x.1 : Int))], []⟩, findH ⟨tb, ro, se, co, wi, L⟩ L x.2.1 x.2.2))
        (fun x => x.1 ≤ L.length ∧ ((x.2.2 = 0 ∧ ∀ p (h : p < L.length), p < x.1 → ¬ p = i → ¬ L[p].r = L[i].r) ∨ (x.2.2 = 3 ∧ ∃ p, ¬ p = i ∧ ∃ h : p < L.length, L[p].r = L[i].r ∧ x.2.1 = L[p]))) (fun x => L.length - x.1) (0, L[q], 0) (by refine ⟨by simp, .inl ⟨rfl, fun p h hp => by omega⟩⟩) (by simp [go_sem, findH, Rw.c]) ?_
      rintro ⟨j, b, w⟩ ⟨hj, hb⟩
      simp only at hj hb
      by_cases h : j < L.length
      · have v1 : IntKind.i64.wrap ((j : Int) + 1) = j + 1 := wrap64 (by omega) (by omega)
        have yes : j ≠ i → L[j].r = L[i].r → (j + 1 ≤ L.length ∧ (((3 : Int) = 0 ∧ ∀ p (h : p < L.length), p < j + 1 → ¬ p = i → ¬ L[p].r = L[i].r) ∨ ((3 : Int) = 3 ∧ ∃ p, ¬ p = i ∧ ∃ h : p < L.length, L[p].r = L[i].r ∧ L[j] = L[p]))) := fun c1 c2 => ⟨by omega, .inr ⟨rfl, j, c1, h, c2, rfl⟩⟩
        have no : ¬ (j ≠ i ∧ L[j].r = L[i].r) → (j + 1 ≤ L.length ∧ ((w = 0 ∧ ∀ p (h : p < L.length), p < j + 1 → ¬ p = i → ¬ L[p].r = L[i].r) ∨ (w = 3 ∧ ∃ p, ¬ p = i ∧ ∃ h : p < L.length, L[p].r = L[i].r ∧ b = L[p]))) := fun hc => ⟨by omega, hb.imp (fun ⟨z1, z2⟩ => ⟨z1, fun p hp hpj hpi hpr => by
          by_cases e : p = j
          · subst e; exact hc ⟨hpi, hpr⟩
          · exact z2 p hp (by omega) hpi hpr⟩) fun z => z⟩
        by_cases hc1 : j = i
        · have hc1' : (j : Int) = i := by omega
          have hno := no fun c => c.1 hc1
          simp [go_sem, findH, Rw.c, h, hil, hc1, hc1', v1]
          refine ⟨by decide +kernel, ?_⟩
          exact ⟨j + 1, b, w, ⟨by rw [← hc1', v1]; simp, ⟨rfl, rfl, rfl, rfl, rfl⟩, rfl⟩, hno, by omega⟩
        · have hc1' : ¬ (j : Int) = i := by omega
          by_cases hc2 : L[j].r = L[i].r
          · have hyes := yes hc1 hc2
            simp [go_sem, findH, Rw.c, h, hil, hc1, hc1', hc2, v1]
            refine ⟨by decide +kernel, ?_⟩
            exact ⟨j + 1, L[j], 3, ⟨by simp, ⟨hc2, rfl, rfl, rfl, rfl⟩, rfl⟩, hyes, by omega⟩
          · have hno := no fun c => hc2 c.2
            simp [go_sem, findH, Rw.c, h, hil, hc1, hc1', hc2, v1]
            refine ⟨by decide +kernel, ?_⟩
            exact ⟨j + 1, b, w, ⟨by simp, ⟨rfl, rfl, rfl, rfl, rfl⟩, rfl⟩, hno, by omega⟩
      · obtain rfl : j = L.length := by omega
        rcases hb with ⟨_, h2⟩ | ⟨rfl, p, h1, hp, h2, rfl⟩
        · obtain ⟨p, hp, h3, h4⟩ := ok.other hil
          exact absurd h4 (h2 p hp hp h3)
        · have hF := find_yes (w := 3) (by omega) (way0 ok hil hp h1 h2)
          simp [go_sem, findH, Rw.c, hil, set_rwsF]
          exact ⟨_, L[p], 3, ⟨by simp, rfl, ⟨rfl, rfl, rfl, rfl, rfl⟩, rfl⟩, hF⟩
    · simp [go_sem, e5]
      refine IWp.loopT (α := Nat × Rw × Int) (fun x => (⟨false, 177, 26, [27, 58, 61, 72, 75, 76, 77, 78, 93, 97, 103, 106, 107, 108, 109, 124, 128, 134, 144], [], [(13, .ptr 0 1 0 0), (14, .int .i64 (i : Int)), (16, .ptr 1 L.length i 0), (17, .ptr 11 1 0 0), (18, .ptr 12 1 0 0), (106, .sl 1 L.length 0 L.length none), (107, .int .i64 L.length), (108, .int .i64 (x.1 : Int))], []⟩, findH ⟨tb, ro, se, co, wi, L⟩ L x.2.1 x.2.2))
        (fun x => x.1 ≤ L.length ∧ ((x.2.2 = 0 ∧ ∀ p (h : p < L.length), p < x.1 → ¬ p = i → ¬ L[p].ns = L[i].ns) ∨ (x.2.2 = 5 ∧ ∃ p, ¬ p = i ∧ ∃ h : p < L.length, L[p].ns = L[i].ns ∧ x.2.1 = L[p]))) (fun x => L.length - x.1) (0, L[q], 0) (by refine ⟨by simp, .inl ⟨rfl, fun p h hp => by omega⟩⟩) (by simp [go_sem, findH, Rw.c]) ?_
      rintro ⟨j, b, w⟩ ⟨hj, hb⟩
      simp only at hj hb
      by_cases h : j < L.length
      · have v1 : IntKind.i64.wrap ((j : Int) + 1) = j + 1 := wrap64 (by omega) (by omega)
        have yes : j ≠ i → L[j].ns = L[i].ns → (j + 1 ≤ L.length ∧ (((5 : Int) = 0 ∧ ∀ p (h : p < L.length), p < j + 1 → ¬ p = i → ¬ L[p].ns = L[i].ns) ∨ ((5 : Int) = 5 ∧ ∃ p, ¬ p = i ∧ ∃ h : p < L.length, L[p].ns = L[i].ns ∧ L[j] = L[p]))) := fun c1 c2 => ⟨by omega, .inr ⟨rfl, j, c1, h, c2, rfl⟩⟩
        have no : ¬ (j ≠ i ∧ L[j].ns = L[i].ns) → (j + 1 ≤ L.length ∧ ((w = 0 ∧ ∀ p (h : p < L.length), p < j + 1 → ¬ p = i → ¬ L[p].ns = L[i].ns) ∨ (w = 5 ∧ ∃ p, ¬ p = i ∧ ∃ h : p < L.length, L[p].ns = L[i].ns ∧ b = L[p]))) := fun hc => ⟨by omega, hb.imp (fun ⟨z1, z2⟩ => ⟨z1, fun p hp hpj hpi hpr => by
          by_cases e : p = j
          · subst e; exact hc ⟨hpi, hpr⟩
          · exact z2 p hp (by omega) hpi hpr⟩) fun z => z⟩
        by_cases hc1 : j = i
        · have hc1' : (j : Int) = i := by omega
          have hno := no fun c => c.1 hc1
          simp [go_sem, findH, Rw.c, h, hil, hc1, hc1', v1]
          refine ⟨by decide +kernel, ?_⟩
          exact ⟨j + 1, b, w, ⟨by rw [← hc1', v1]; simp, ⟨rfl, rfl, rfl, rfl, rfl⟩, rfl⟩, hno, by omega⟩
        · have hc1' : ¬ (j : Int) = i := by omega
          by_cases hc2 : L[j].ns = L[i].ns
          · have hyes := yes hc1 hc2
            simp [go_sem, findH, Rw.c, h, hil, hc1, hc1', hc2, v1]
            refine ⟨by decide +kernel, ?_⟩
            exact ⟨j + 1, L[j], 5, ⟨by simp, ⟨rfl, rfl, hc2, rfl, rfl⟩, rfl⟩, hyes, by omega⟩
          · have hno := no fun c => hc2 c.2
            simp [go_sem, findH, Rw.c, h, hil, hc1, hc1', hc2, v1]
            refine ⟨by decide +kernel, ?_⟩
            exact ⟨j + 1, b, w, ⟨by simp, ⟨rfl, rfl, rfl, rfl, rfl⟩, rfl⟩, hno, by omega⟩
      · obtain rfl : j = L.length := by omega
        rcases hb with ⟨rfl, h2⟩ | ⟨rfl, p, h1, hp, h2, rfl⟩
        · have hF := find_no ok
          simp [go_sem, findH, Rw.c, hil, set_rwsF]
          exact ⟨L, b, 0, ⟨rfl, rfl, ⟨rfl, rfl, rfl, rfl, rfl⟩, rfl⟩, hF⟩
        · have hF := find_yes (w := 5) (by omega) (way1 ok hil hp h1 h2)
          simp [go_sem, findH, Rw.c, hil, set_rwsF]
          exact ⟨_, L[p], 5, ⟨by simp, rfl, ⟨rfl, rfl, rfl, rfl, rfl⟩, rfl⟩, hF⟩
    · have hw := ok.rng hil
      have ht24 := ok.tb
      have hT2 := ok.t2
      simp only at ht24
      have w3 : IntKind.i64.wrap (tb + wi_) = tb + wi_ := wrap64 (by omega) (by omega)
      have hF := find_yes (w := 1) (by omega) (way2 ok hil (w := wi_) (by omega))
      simp [go_sem, e5, hil, w2, w3, set_rwsF]
      exact ⟨_, L[q], 1, by simp [go_sem, findH, Rw.c], hF⟩
    · have hF := find_yes (w := 2) (by omega) (way3 ok hil)
      simp [go_sem, e5, hil, set_rwsF]
      exact ⟨_, L[q], 2, by simp [go_sem, findH, Rw.c], hF⟩
    · by_cases hiq : i = q
      · have hF := find_no ok
        have hiq' : (i : Int) = q := by omega
        simp [go_sem, e5, hiq, hiq']
        exact ⟨L, L[q], 0, by simp [go_sem, findH, Rw.c], hF⟩
      · have hF := find_yes (w := 1) (by omega) (way4 ok hil hql hiq)
        have hiq' : ¬ (i : Int) = q := by omega
        simp [go_sem, e5, hil, hiq, hiq', set_rwsF]
        refine ⟨by decide +kernel, ?_⟩
        exact ⟨_, L[q], 1, by simp [go_sem, findH, Rw.c], hF⟩
  · rintro ⟨l, b, w⟩ ⟨hl, h⟩
    simp only at hl h
    have hf2 : frameP ⟨tb, ro, se, co, wi, l⟩ := by
      obtain ⟨a1, a2, a3, a4, a5, a6, a7, a8, a9⟩ := ok.frame
      refine ⟨a1, a2, a3, a4, a5, a6, a7, a8, ?_⟩
      simp only at a9 ⊢
      omega
    have he : errF ⟨tb, ro, se, co, wi, l⟩ 1 = 0 := by unfold errF; rw [if_neg (by simp [hf2]), if_neg (by omega)]
    have cf := faults_c ⟨tb, ro, se, co, wi, l⟩ 1
    have hfl : (faultsOf ⟨tb, ro, se, co, wi, l⟩ 1).length ≤ 10 * (24 * 47) := faults_len
    rw [he] at cf
    generalize faultsOf ⟨tb, ro, se, co, wi, l⟩ 1 = F at *
    have cc := containsFlt_fun F w (by omega)
    have v0 : IntKind.i64.wrap 0 = 0 := by decide
    refine IWp.now ?_
    simp [go_sem, findH, Rw.c]
    refine cf.callF (by simp [go_sem, Mv.v]) ?_
    rintro _ rfl
    simp [go_sem]
    refine cc.callF (by simp [go_sem]) ?_
    rintro _ rfl
    rcases h with ⟨h1, h2, h3, h4⟩ | ⟨h1, h2⟩
    · have hFl : 0 < F.length := List.length_pos_iff.2 h4
      simp [go_sem, h1, h3, hFl]
      exact hR _ _ _ rfl (by simp [go_sem])
    · subst h1; subst h2
      have hix : idxF [] 0 = -1 := idxF_neg (by simp)
      simp [go_sem, hix]
      exact hR _ _ _ rfl (by simp [go_sem])
theorem checkFinds_law (t r k a b c : Int) (h0 : (Lit.int .u8 t).wf = true) (h1 : (Lit.int .u8 r).wf = true) (h2 : (Lit.int .u8 k).wf = true) (h3 : (Lit.int .u8 a).wf = true) (h4 : (Lit.int .u8 b).wf = true) (h5 : (Lit.int .u8 c).wf = true) :
    FN 7 [.int .u8 t, .int .u8 r, .int .u8 k, .int .u8 a, .int .u8 b, .int .u8 c] (fun v => v = .bool true) := checkFinds_fun t r k a b c (wf8 h0) (wf8 h1) (wf8 h2) (wf8 h3) (wf8 h4) (wf8 h5)
end Go.Idl
