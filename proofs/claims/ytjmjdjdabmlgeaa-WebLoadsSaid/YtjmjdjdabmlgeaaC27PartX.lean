/-
  slices.Contains at []int.
  Chapter 27: loads, shared sets, feeds of movements that are made (plain).
-/
import Derived.Test.YtjmjdjdabmlgeaaC27PartB
import Derived.Test.YtjmjdjdabmlgeaaC27PartG
import Derived.Test.YtjmjdjdabmlgeaaC27PartN
namespace Go.Idl
set_option linter.all false
open Go.Proofs
set_option maxHeartbeats 4000000
set_option maxRecDepth 40000

def idxI (l : List Int) (p : Int) : Int := match l.findIdx? (· == p) with | some i => i | none => -1
theorem idxI_neg {l : List Int} {p : Int} (h : p ∉ l) : idxI l p = -1 := by
  unfold idxI
  have : l.findIdx? (· == p) = none := List.findIdx?_eq_none_iff.2 fun x hx => by simp; intro e; exact h (e ▸ hx)
  rw [this]
theorem idxI_at {l : List Int} {p : Int} {i : Nat} (h : i < l.length) (hi : l[i] = p) (hb : ∀ j (hj : j < l.length), j < i → l[j] ≠ p) : idxI l p = i := by
  unfold idxI
  have : l.findIdx? (· == p) = some i := by
    rw [List.findIdx?_eq_some_iff_getElem]
    exact ⟨h, by simp [hi], fun j hj => by simpa using hb j (by omega) hj⟩
  rw [this]
theorem idxI_pos {l : List Int} {p : Int} : 0 ≤ idxI l p ↔ p ∈ l := by
  constructor
  · intro h
    apply Decidable.byContradiction
    intro hn
    rw [idxI_neg hn] at h; omega
  · intro h
    unfold idxI
    split
    · omega
    · rename_i he
      rw [List.findIdx?_eq_none_iff] at he
      have := he p h
      simp at this
theorem indexInts_fun (l : List Int) (p : Int) (hl : l.length ≤ 2 ^ 40) : FN 51 [.fz 1 (ints l), .int .i64 p] (fun v => v = .int .i64 (idxI l p)) := by
  refine IFun.of_bodyZ false 6 [7, 8, 9, 16] Try.func51 rfl Try.call51 rfl fun R hR => ?_
  simp [go_sem]
  refine IWp.loopT (α := Nat) (fun i => (⟨false, 19, 6, [7, 8, 9, 16], [], [(0, .fz 1 (ints l)), (1, .int .i64 p), (7, .int .i64 l.length), (8, .int .i64 (i : Int))], []⟩, []))
    (fun i => i ≤ l.length ∧ ∀ j (hj : j < l.length), j < i → l[j] ≠ p) (fun i => l.length - i) 0 (by simp) (by simp [go_sem]) ?_
  rintro i ⟨hi, hb⟩
  by_cases h : i < l.length
  · have w1 : IntKind.i64.wrap ((i : Int) + 1) = i + 1 := wrap64 (by omega) (by omega)
    by_cases he : p = l[i]
    · have hx := idxI_at h he.symm hb
      simp [go_sem, h, ← he]
      exact hR _ _ _ rfl (by simp [go_sem, hx])
    · simp [go_sem, h, he, w1]
      exact ⟨i + 1, by simp, ⟨by omega, fun j hj h2 => by
        by_cases e : j = i
        · subst e; exact fun e2 => he e2.symm
        · exact hb j hj (by omega)⟩, by omega⟩
  · have hx : idxI l p = -1 := idxI_neg fun hm => by
      obtain ⟨j, hj, e⟩ := List.mem_iff_getElem.1 hm
      exact hb j hj (by omega) e
    simp [go_sem, h]
    exact hR _ _ _ rfl (by simp [go_sem, hx])
theorem containsInts_fun (l : List Int) (p : Int) (hl : l.length ≤ 2 ^ 40) : FN 26 [.fz 1 (ints l), .int .i64 p] (fun v => v = .bool (decide (p ∈ l))) := by
  refine IFun.of_bodyZ false 5 [] Try.func26 rfl Try.call26 rfl fun R hR => ?_
  simp [go_sem]
  refine (indexInts_fun l p hl).callF (by simp [go_sem]) ?_
  rintro _ rfl
  simp [go_sem]
  refine hR _ _ _ rfl ?_
  simp [go_sem, idxI_pos]
end Go.Idl
namespace Go.Idl
set_option linter.all false
open Go.Proofs
set_option maxHeartbeats 4000000
set_option maxRecDepth 40000

namespace Web
def stN (k : Int) (T i j : Nat) : Nat := (setI k (sets T k) i j).toNat
section
variable {k : Int} {T N S : Nat}
theorem setI_nn (hW : Wk k T) (i j : Nat) : 0 ≤ setI k (sets T k) i j := by
  have := sets_pos hW
  unfold setI
  split
  · omega
  · exact Int.emod_nonneg _ (by omega)
theorem row_st (hW : Wk k T) (i j : Nat) : (row k T i j).s = (stN k T i j : Int) := by
  rw [row_s]
  have := setI_nn hW i j
  unfold stN; omega
theorem st_lt (hW : Wk k T) (hn : (N : Int) ≤ most T k) (hS : sets T k = S) {i : Nat} (hi : i < N) (j : Nat) : stN k T i j < S := by
  have hp := sets_pos hW
  have h0 := setI_nn hW i j
  have h1 : setI k (sets T k) i j < S := by
    rw [← hS]
    unfold setI
    split
    · rename_i h3
      subst h3
      have : most T 3 = T := rfl
      have : sets T 3 = T := rfl
      omega
    · exact Int.emod_lt_of_pos _ hp
  unfold stN; omega
theorem row_r (i j : Nat) : (row k T i j).r = i := rfl
theorem row_t (i j : Nat) : (row k T i j).t = j := rfl
theorem row_in {i j : Nat} (hi : i < N) (hj : j < T) : row k T i j ∈ rowsX k T N := by
  have hl : i * T + j < (rowsX k T N).length := by rw [rowsX_length]; exact grid_lt hi hj
  have e1 : (i * T + j) / T = i := by rw [Nat.mul_comm, Nat.mul_add_div (by omega), Nat.div_eq_of_lt hj]; rfl
  have e2 : (i * T + j) % T = j := by rw [Nat.mul_comm, Nat.mul_add_mod, Nat.mod_eq_of_lt hj]
  have := List.getElem_mem hl
  rw [rowsX_get (by omega), e1, e2] at this
  exact this
theorem round_rows {i : Nat} (hi : i < N) (hT : 0 < T) : List.take T (List.drop (i * T) (rowsX k T N)) = rowL k T i T := by
  have hlt : i * T + T ≤ N * T := by have := Nat.mul_le_mul_right T (show i + 1 ≤ N by omega); rw [Nat.add_mul] at this; omega
  refine List.ext_getElem (by simp; omega) fun j h1 h2 => ?_
  have hj : j < T := by simpa using h2
  rw [List.getElem_take, List.getElem_drop, rowsX_get hT]
  have e1 : (i * T + j) / T = i := by rw [Nat.mul_comm, Nat.mul_add_div hT, Nat.div_eq_of_lt hj]; rfl
  have e2 : (i * T + j) % T = j := by rw [Nat.mul_comm, Nat.mul_add_mod, Nat.mod_eq_of_lt hj]
  rw [e1, e2]
  simp [rowL]
/-- The sets of a round. -/
def stL (k : Int) (T i : Nat) : List Nat := (List.range T).map (stN k T i)
theorem ldN_web (hW : Wk k T) (i s : Nat) : ∀ N, ldN (rowsX k T N) i s = if i < N then (stL k T i).count s else 0
  | 0 => by simp [rowsX, ldN]
  | n + 1 => by
    have ih := ldN_web hW i s n
    unfold ldN at ih ⊢
    simp only [rowsX]
    rw [List.countP_append, ih]
    have hr : (rowL k T n T).countP (fun x => x.r == (i : Int) && x.s == (s : Int)) = if n = i then (stL k T i).count s else 0 := by
      unfold rowL stL
      rw [List.countP_map]
      by_cases e : n = i
      · subst e
        rw [if_pos rfl, List.count, List.countP_map]
        refine List.countP_congr fun j _ => ?_
        simp only [Function.comp, row_r, row_st hW]
        simp
        omega
      · rw [if_neg e]
        refine List.countP_eq_zero.2 fun j _ => ?_
        simp only [Function.comp, row_r]
        simp
        omega
    rw [hr]
    by_cases h1 : i < n
    · rw [if_pos h1, if_neg (by omega), if_pos (by omega)]; omega
    · by_cases h2 : n = i
      · rw [if_neg h1, if_pos h2, if_pos (by omega)]; omega
      · rw [if_neg h1, if_neg h2, if_neg (by omega)]
theorem count_sum (l : List Nat) : ∀ n, ((List.range n).map fun s => l.count s).sum = l.countP fun x => decide (x < n)
  | 0 => by simp
  | n + 1 => by
    rw [List.range_succ, List.map_append, List.sum_append, count_sum l n]
    simp only [List.map_cons, List.map_nil, List.sum_cons, List.sum_nil, Nat.add_zero]
    induction l with
    | nil => rfl
    | cons x l ih =>
      rw [List.countP_cons, List.countP_cons, List.count_cons]
      by_cases h1 : x < n
      · have : ¬ (x == n) = true := by simp; omega
        simp only [h1, this, decide_true, if_true, show x < n + 1 by omega, Bool.false_eq_true, if_false]
        omega
      · by_cases h2 : x = n
        · subst h2
          simp
          omega
        · have h3 : ¬ x < n + 1 := by omega
          have : ¬ (x == n) = true := by simpa using h2
          simp only [h1, h3, this, decide_false, Bool.false_eq_true, if_false]
          omega
theorem hasB_web (hW : Wk k T) {i : Nat} (hi : i < N) {t s : Int} : hasB (rowsX k T N) i t s = true ↔ ∃ j : Nat, j < T ∧ t = j ∧ s = stN k T i j := by
  rw [hasB_iff]
  constructor
  · rintro ⟨x, hx, h1, h2, h3⟩
    obtain ⟨r, j, hr, hj, rfl⟩ := rowsX_mem (by have := hW.2; omega) hx
    rw [row_r] at h1
    have : r = i := by omega
    subst this
    exact ⟨j, hj, by rw [← h2]; rfl, by rw [← h3, row_st hW]⟩
  · rintro ⟨j, hj, rfl, rfl⟩
    exact ⟨row k T i j, row_in hi hj, rfl, rfl, row_st hW i j⟩
theorem tabs_web (hT : 0 < T) (hN : 1 ≤ N) : tabsL (rowsX k T N) = (List.range T).map fun j : Nat => (j : Int) := by
  refine srt_eq ?_ fun x => ?_
  · unfold Inc
    rw [List.pairwise_map]
    exact List.pairwise_lt_range.imp fun h => by omega
  · rw [List.mem_map, List.mem_map]
    constructor
    · rintro ⟨j, hj, rfl⟩
      exact ⟨row k T 0 j, row_in (by omega) (by simpa using hj), rfl⟩
    · rintro ⟨y, hy, rfl⟩
      obtain ⟨r, j, _, hj, rfl⟩ := rowsX_mem hT hy
      exact ⟨j, by simpa using hj, rfl⟩
theorem bothB_web (hW : Wk k T) {i : Nat} (hi : i < N) {a b : Nat} (ha : a < T) (hb : b < T) : bothB (rowsX k T N) i a b = decide (stN k T i a = stN k T i b) := by
  rw [Bool.eq_iff_iff, decide_eq_true_eq, bothB_iff]
  constructor
  · rintro ⟨x, hx, h1, h2, h3⟩
    obtain ⟨r, j, hr, hj, rfl⟩ := rowsX_mem (by have := hW.2; omega) hx
    rw [row_r] at h1
    rw [row_t] at h2
    have e1 : r = i := by omega
    have e2 : j = a := by omega
    subst e1; subst e2
    rw [row_st hW] at h3
    obtain ⟨j', hj', h4, h5⟩ := (hasB_web hW hi).1 h3
    have : j' = b := by omega
    subst this
    omega
  · intro e
    exact ⟨row k T i a, row_in hi ha, rfl, rfl, (hasB_web hW hi).2 ⟨b, hb, rfl, by rw [row_st hW, e]⟩⟩
/-- The tables that feed a table. -/
def fdB (k : Int) (T i t : Nat) (u : Nat) : Bool := decide (u ≠ t) && decide (stN k T (i - 1) u = stN k T i t)
theorem feeds_web (hW : Wk k T) (m : Mv) (hm : m.rows = rowsX k T N) {i t : Nat} (hi : i < N) (ht : t < T) (h1 : 1 ≤ i) : feedsL m i t = ((List.range T).filter (fdB k T i t)).map fun j : Nat => (j : Int) := by
  unfold feedsL
  rw [if_neg (by omega), hm]
  refine srt_eq ?_ fun x => ?_
  · unfold Inc
    rw [List.pairwise_map]
    exact (List.pairwise_lt_range.filter _).imp fun h => by omega
  · rw [List.mem_map, List.mem_map]
    constructor
    · rintro ⟨u, hu, rfl⟩
      obtain ⟨hu1, hu2⟩ := List.mem_filter.1 hu
      have hu1 : u < T := by simpa using hu1
      unfold fdB at hu2
      simp only [Bool.and_eq_true, decide_eq_true_eq] at hu2
      refine ⟨row k T (i - 1) u, List.mem_filter.2 ⟨row_in (by omega) hu1, ?_⟩, rfl⟩
      unfold fedB
      rw [Bool.and_eq_true, decide_eq_true_eq]
      refine ⟨⟨by rw [row_r]; omega, by rw [row_t]; omega⟩, (hasB_web hW hi).2 ⟨t, ht, rfl, by rw [row_st hW, hu2.2]⟩⟩
    · rintro ⟨y, hy, rfl⟩
      obtain ⟨hy1, hy2⟩ := List.mem_filter.1 hy
      obtain ⟨r, j, hr, hj, rfl⟩ := rowsX_mem (by have := hW.2; omega) hy1
      unfold fedB at hy2
      rw [Bool.and_eq_true, decide_eq_true_eq, row_r, row_t, row_st hW] at hy2
      obtain ⟨⟨e1, e2⟩, h3⟩ := hy2
      have er : r = i - 1 := by omega
      subst er
      obtain ⟨j', _, h4, h5⟩ := (hasB_web hW hi).1 h3
      have : j' = t := by omega
      subst this
      refine ⟨j, List.mem_filter.2 ⟨by simpa using hj, ?_⟩, rfl⟩
      unfold fdB
      simp only [Bool.and_eq_true, decide_eq_true_eq]
      exact ⟨by omega, by omega⟩
theorem feeds_web0 (m : Mv) (hm : m.rows = rowsX k T N) (hT : 0 < T) (t : Int) : feedsL m 0 t = [] := by
  unfold feedsL
  rw [if_neg (by omega)]
  refine srt_eq .nil fun x => ?_
  constructor
  · intro h; cases h
  · intro h
    obtain ⟨y, hy, _⟩ := List.mem_map.1 h
    obtain ⟨hy1, hy2⟩ := List.mem_filter.1 hy
    rw [hm] at hy1
    obtain ⟨r, j, hr, hj, rfl⟩ := rowsX_mem hT hy1
    unfold fedB at hy2
    rw [Bool.and_eq_true, decide_eq_true_eq, row_r] at hy2
    have := hy2.1.1
    omega
end
end Web
theorem shI_pre (B : Int → Int → Bool) (L : List Int) : ∀ {i n : Nat}, i ≤ n → ∃ X, shI B L n = shI B L i ++ X
  | i, 0, h => ⟨[], by obtain rfl : i = 0 := by omega
                       simp⟩
  | i, n + 1, h => by
    by_cases e : i = n + 1
    · subst e; exact ⟨[], by simp⟩
    · obtain ⟨X, hX⟩ := shI_pre B L (i := i) (n := n) (by omega)
      exact ⟨X ++ rowP B L n, by rw [shI_succ, hX, List.append_assoc]⟩
/-- Where a pair stands. -/
theorem shI_at {B : Int → Int → Bool} {L : List Int} {i q : Nat} {x y : Int} {D : List Int} (hi : i < L.length) (hx : L[i] = x) (hD : L.drop (i + 1) = D) (hq : q < D.length) (hy : D[q] = y) (hB : B x y = true) :
    (shI B L L.length)[(shI B L i).length + ((D.take q).filter (B x)).length]? = some (x, y) := by
  obtain ⟨X, hX⟩ := shI_pre B L (i := i + 1) (n := L.length) (by omega)
  have h1 : shI B L (i + 1) = shI B L i ++ (D.filter (B x)).map fun b => (x, b) := by
    rw [shI_succ]
    congr 1
    unfold rowP
    rw [List.drop_eq_getElem_cons hi, hx, hD]
  have h2 : D.filter (B x) = (D.take q).filter (B x) ++ y :: (D.drop (q + 1)).filter (B x) := by
    have : D = D.take q ++ (y :: D.drop (q + 1)) := by rw [← hy, ← List.drop_eq_getElem_cons hq, List.take_append_drop]
    conv => lhs; rw [this]
    rw [List.filter_append, List.filter_cons_of_pos hB]
  rw [hX, h1, h2, List.append_assoc, List.getElem?_append_right (by omega), Nat.add_sub_cancel_left, List.map_append, List.append_assoc, List.getElem?_append_right (by simp)]
  simp
theorem idleL_inc (m : Mv) (r : Int) : Inc (idleL m r) := by
  unfold idleL Inc
  rw [List.pairwise_map]
  exact (List.pairwise_lt_range.filter _).imp fun h => by omega
theorem idleL_mem {m : Mv} {r : Int} {i : Nat} (hi : i < (loadsL m r).length) : ((i : Int) ∈ idleL m r) ↔ (loadsL m r)[i] = 0 := by
  unfold idleL
  rw [List.mem_map]
  constructor
  · rintro ⟨j, hj, e⟩
    obtain ⟨h1, h2⟩ := List.mem_filter.1 hj
    have : j = i := by omega
    subst this
    simpa [hi] using h2
  · intro h
    exact ⟨i, List.mem_filter.2 ⟨by simpa using hi, by simp [hi, h]⟩, rfl⟩
end Go.Idl
