/-
  Chapter 26, plain law: the movement made of a starter is fair.
-/
import Derived.Test.YtjaefodhiegmmaaC26nY
namespace Go.Idl
set_option linter.all false
open Go.Proofs
set_option maxHeartbeats 4000000
set_option maxRecDepth 40000

theorem md2 {n x : Int} (h0 : 0 ≤ x) (h1 : x < 2 * n) : (x.tmod n = x ∧ x < n) ∨ (x.tmod n = x - n ∧ n ≤ x) := by
  rw [Int.tmod_eq_emod_of_nonneg h0]
  by_cases h : x < n
  · exact .inl ⟨Int.emod_eq_of_lt h0 h, h⟩
  · refine .inr ⟨?_, by omega⟩
    have : x % n = (x - n + 1 * n) % n := by congr 1; omega
    rw [this, Int.add_mul_emod_self_right]
    exact Int.emod_eq_of_lt (by omega) (by omega)
theorem md3 {n x : Int} (h0 : 0 ≤ x) (h1 : x < 3 * n) : (x.tmod n = x ∧ x < n) ∨ (x.tmod n = x - n ∧ n ≤ x ∧ x < 2 * n) ∨ (x.tmod n = x - 2 * n ∧ 2 * n ≤ x) := by
  by_cases h : x < 2 * n
  · rcases md2 h0 h with h | h
    · exact .inl h
    · exact .inr (.inl ⟨h.1, h.2, by omega⟩)
  · refine .inr (.inr ⟨?_, by omega⟩)
    rw [Int.tmod_eq_emod_of_nonneg h0]
    have : x % n = (x - 2 * n + 2 * n) % n := by congr 1; omega
    rw [this, Int.add_mul_emod_self_right]
    exact Int.emod_eq_of_lt (by omega) (by omega)

theorem nodup_flat {α β : Type} {f : α → List β} : ∀ {l : List α}, (l.flatMap f).Nodup → ∀ {i j : Nat} (hi : i < l.length) (hj : j < l.length) {x : β}, x ∈ f l[i] → x ∈ f l[j] → i = j
  | [], _, _, _, hi, _, _, _, _ => absurd hi (Nat.not_lt_zero _)
  | a :: l, h, i, j, hi, hj, x, h1, h2 => by
    rw [List.flatMap_cons, List.nodup_append] at h
    obtain ⟨ha, hl, hd⟩ := h
    cases i with
    | zero => cases j with
      | zero => rfl
      | succ j => exact absurd rfl (hd x h1 x (List.mem_flatMap.2 ⟨_, List.getElem_mem (by simpa using hj), by simpa using h2⟩))
    | succ i => cases j with
      | zero => exact absurd rfl (hd x h2 x (List.mem_flatMap.2 ⟨_, List.getElem_mem (by simpa using hi), by simpa using h1⟩))
      | succ j => exact congrArg (· + 1) (nodup_flat hl (by simpa using hi) (by simpa using hj) (by simpa using h1) (by simpa using h2))
theorem nodup_in {α β : Type} {f : α → List β} {l : List α} (h : (l.flatMap f).Nodup) {i : Nat} (hi : i < l.length) : (f l[i]).Nodup := by
  induction l generalizing i with
  | nil => exact absurd hi (Nat.not_lt_zero _)
  | cons a l ih =>
    rw [List.flatMap_cons, List.nodup_append] at h
    cases i with
    | zero => exact h.1
    | succ i => exact ih h.2.1 (by simpa using hi)

theorem nodup_get {α : Type} {l : List α} (h : l.Nodup) {i j : Nat} (hi : i < l.length) (hj : j < l.length) (e : l[i] = l[j]) : i = j := by
  have hp := List.pairwise_iff_getElem.1 h
  rcases Nat.lt_trichotomy i j with h1 | h1 | h1
  · exact absurd e (hp i j hi hj h1)
  · exact h1
  · exact absurd e.symm (hp j i hj hi h1)

def rowAt (n : Int) (l : List (Int × Int)) (r t : Nat) : RowV := match t with
  | 0 => ⟨r, 0, n + 1, r + 1, r⟩
  | i + 1 => rowF n r i (l.getD i (0, 0))
theorem inn_at (n T : Int) (l : List (Int × Int)) (hT : 2 * T = n + 1) (r t : Nat) (ht : t < l.length + 1) : (innL n T l r l.length)[t]? = some (rowAt n l r t) := by
  cases t with
  | zero => simp [innL, rowAt, hT]
  | succ i =>
    have hi : i < l.length := by omega
    simp [innL, rowAt, hi]
theorem rows_at (n T : Int) (l : List (Int × Int)) (hT : 2 * T = n + 1) (r t : Nat) (ht : t < l.length + 1) : ∀ (R : Nat) (w : RowV), (rowsL n T l R)[r * (l.length + 1) + t]? = some w → r < R ∧ w = rowAt n l r t
  | 0, w, h => by simp [rowsL] at h
  | R + 1, w, h => by
    rw [rowsL_succ] at h
    by_cases hr : r < R
    · rw [List.getElem?_append_left (by
        rw [rowsL_length]
        have : (r + 1) * (l.length + 1) ≤ R * (l.length + 1) := Nat.mul_le_mul_right _ hr
        rw [Nat.add_mul] at this; omega)] at h
      have := rows_at n T l hT r t ht R w h
      exact ⟨by omega, this.2⟩
    · have hk : R * (l.length + 1) ≤ r * (l.length + 1) := Nat.mul_le_mul_right _ (by omega)
      rw [List.getElem?_append_right (by rw [rowsL_length]; omega), rowsL_length] at h
      by_cases hrR : r = R
      · subst hrR
        rw [Nat.add_sub_cancel_left, inn_at n T l hT r t ht] at h
        exact ⟨by omega, (Option.some.inj h).symm⟩
      · have : (R + 1) * (l.length + 1) ≤ r * (l.length + 1) := Nat.mul_le_mul_right _ (by omega)
        rw [Nat.add_mul R 1] at this
        rw [List.getElem?_eq_none (by rw [innL_length _ _ _ _ _ (Nat.le_refl _)]; omega)] at h
        cases h
theorem take_mem {n T : Int} {l : List (Int × Int)} (hT : 2 * T = n + 1) {R k : Nat} {w : RowV} (h : w ∈ (rowsL n T l R).take k) : ∃ r t, t < l.length + 1 ∧ r < R ∧ r * (l.length + 1) + t < k ∧ w = rowAt n l r t := by
  obtain ⟨j, hj⟩ := List.mem_iff_getElem?.1 h
  rw [List.getElem?_take] at hj
  split at hj
  · rename_i hk
    have hm : j % (l.length + 1) < l.length + 1 := Nat.mod_lt _ (by omega)
    have hdm : j / (l.length + 1) * (l.length + 1) + j % (l.length + 1) = j := by rw [Nat.mul_comm]; exact Nat.div_add_mod _ _
    rw [← hdm] at hj
    obtain ⟨h1, h2⟩ := rows_at n T l hT _ _ hm R w hj
    exact ⟨_, _, hm, h1, by rw [hdm]; exact hk, h2⟩
  · cases hj
theorem drop_mem {n T : Int} {l : List (Int × Int)} (hT : 2 * T = n + 1) {R r t : Nat} (ht : t ≤ l.length) {w : RowV} (h : w ∈ ((rowsL n T l R).take (r * (l.length + 1) + t)).drop (r * (l.length + 1))) : ∃ t', t' < t ∧ w = rowAt n l r t' := by
  obtain ⟨j, hj⟩ := List.mem_iff_getElem?.1 h
  rw [List.getElem?_drop, List.getElem?_take] at hj
  split at hj
  · rename_i hk
    obtain ⟨h1, h2⟩ := rows_at n T l hT r j (by omega) R w hj
    exact ⟨j, by omega, h2⟩
  · cases hj

/-- Who sits where: a side of table t has the number u, the other side v. -/
def Sl (l : List (Int × Int)) (t : Nat) (u v : Int) : Prop := (t = 0 ∧ u = 0 ∧ v = 0) ∨ ∃ i, ∃ h : i < l.length, t = i + 1 ∧ ((u = l[i].1 ∧ v = l[i].2) ∨ (u = l[i].2 ∧ v = l[i].1))
theorem Sl.bd {n : Int} {l : List (Int × Int)} (hg : Good n l) (hn : 0 < n) {t : Nat} {u v : Int} (h : Sl l t u v) : 0 ≤ u ∧ u < n ∧ 0 ≤ v ∧ v < n := by
  rcases h with ⟨_, rfl, rfl⟩ | ⟨i, hi, _, ⟨rfl, rfl⟩ | ⟨rfl, rfl⟩⟩
  · omega
  · have := hg.1 _ (List.getElem_mem hi); unfold InR at this; omega
  · have := hg.1 _ (List.getElem_mem hi); unfold InR at this; omega
theorem nums_neA {n : Int} {l : List (Int × Int)} (hg : Good n l) {i j : Nat} (hi : i < l.length) (hj : j < l.length) : l[i].1 ≠ l[j].2 := by
  intro e
  have hij : i = j := nodup_flat (f := fun p : Int × Int => [p.1, p.2]) hg.2.1 hi hj (x := l[i].1) (by simp) (by rw [e]; simp)
  subst hij
  have := nodup_in (f := fun p : Int × Int => [p.1, p.2]) hg.2.1 hi
  rw [← e] at this
  simp at this
theorem nums_injA {n : Int} {l : List (Int × Int)} (hg : Good n l) {i j : Nat} (hi : i < l.length) (hj : j < l.length) (h : l[i].1 = l[j].1 ∨ l[i].2 = l[j].2) : i = j := by
  rcases h with e | e
  · exact nodup_flat (f := fun p : Int × Int => [p.1, p.2]) hg.2.1 hi hj (x := l[i].1) (by simp) (by rw [e]; simp)
  · exact nodup_flat (f := fun p : Int × Int => [p.1, p.2]) hg.2.1 hi hj (x := l[i].2) (by simp) (by rw [e]; simp)
theorem Sl.sym {l : List (Int × Int)} {t : Nat} {u v : Int} (h : Sl l t u v) : Sl l t v u := by
  rcases h with ⟨h1, h2, h3⟩ | ⟨i, hi, ht, h | h⟩
  · exact .inl ⟨h1, h3, h2⟩
  · exact .inr ⟨i, hi, ht, .inr ⟨h.2, h.1⟩⟩
  · exact .inr ⟨i, hi, ht, .inl ⟨h.2, h.1⟩⟩
theorem Sl.inj {n : Int} {l : List (Int × Int)} (hg : Good n l) {t t' : Nat} {u v u' v' : Int} (h : Sl l t u v) (h' : Sl l t' u' v') (e : u = u') : t = t' ∧ v = v' := by
  rcases h with ⟨h1, h2, h3⟩ | ⟨i, hi, ht, h⟩ <;> rcases h' with ⟨k1, k2, k3⟩ | ⟨j, hj, ht', k⟩
  · exact ⟨by omega, by omega⟩
  · have := hg.1 _ (List.getElem_mem hj); unfold InR at this; omega
  · have := hg.1 _ (List.getElem_mem hi); unfold InR at this; omega
  · rcases h with ⟨h1, h2⟩ | ⟨h1, h2⟩ <;> rcases k with ⟨k1, k2⟩ | ⟨k1, k2⟩
    · have hij := nums_injA hg hi hj (.inl (by rw [← h1, ← k1, e])); subst hij; exact ⟨by omega, by omega⟩
    · exact absurd (by rw [← h1, ← k1, e]) (nums_neA hg hi hj)
    · exact absurd (by rw [← h1, ← k1, e]) (nums_neA hg hj hi)
    · have hij := nums_injA hg hi hj (.inr (by rw [← h1, ← k1, e])); subst hij; exact ⟨by omega, by omega⟩

theorem row_side {n : Int} {l : List (Int × Int)} {r t : Nat} (hr : (r : Int) < n) (ht : t < l.length + 1) {q : Int} (h : q = (rowAt n l r t).n ∨ q = (rowAt n l r t).e) :
    (q = n + 1 ∧ t = 0 ∧ (rowAt n l r t).s = r) ∨ ∃ u v, Sl l t u v ∧ q = (u + r).tmod n + 1 ∧ (rowAt n l r t).s = (u + v + r).tmod n := by
  cases t with
  | zero =>
    rcases h with rfl | rfl
    · exact .inl ⟨rfl, rfl, rfl⟩
    · refine .inr ⟨0, 0, .inl ⟨rfl, rfl, rfl⟩, ?_, ?_⟩
      · show (r : Int) + 1 = _
        rw [Int.tmod_eq_emod_of_nonneg (by omega), Int.emod_eq_of_lt (by omega) (by omega)]; omega
      · show (r : Int) = _
        rw [Int.tmod_eq_emod_of_nonneg (by omega), Int.emod_eq_of_lt (by omega) (by omega)]; omega
  | succ i =>
    have hi : i < l.length := by omega
    have hd : l.getD i (0, 0) = l[i] := by simp [hi]
    refine .inr ?_
    rcases h with rfl | rfl
    · refine ⟨l[i].1, l[i].2, .inr ⟨i, hi, rfl, .inl ⟨rfl, rfl⟩⟩, ?_, ?_⟩ <;> simp only [rowAt, rowF, hd]
    · refine ⟨l[i].2, l[i].1, .inr ⟨i, hi, rfl, .inr ⟨rfl, rfl⟩⟩, ?_, ?_⟩ <;> simp only [rowAt, rowF, hd]
      rw [Int.add_comm l[i].2 l[i].1]

theorem same_pair_set {n : Int} {l : List (Int × Int)} (hg : Good n l) {r t r' t' : Nat} (hr : (r : Int) < n) (hr' : (r' : Int) < n) (ht : t < l.length + 1) (ht' : t' < l.length + 1) {q : Int} (h : q = (rowAt n l r t).n ∨ q = (rowAt n l r t).e) (h' : q = (rowAt n l r' t').n ∨ q = (rowAt n l r' t').e) (hs : (rowAt n l r t).s = (rowAt n l r' t').s) : r = r' ∧ t = t' := by
  have hn : 0 < n := by omega
  have top : ∀ {u : Int} {r : Nat}, (u + r).tmod n + 1 ≠ n + 1 := fun {u r} e => by
    have := Int.tmod_lt_of_pos (u + r) hn; omega
  rcases row_side hr ht h with ⟨e1, e2, e3⟩ | ⟨u, v, a1, a2, a3⟩ <;> rcases row_side hr' ht' h' with ⟨f1, f2, f3⟩ | ⟨u', v', b1, b2, b3⟩
  · exact ⟨by omega, by omega⟩
  · exact absurd (by rw [← b2, e1]) (top (u := u') (r := r'))
  · exact absurd (by rw [← a2, f1]) (top (u := u) (r := r))
  · have p := a1.bd hg hn
    have q := b1.bd hg hn
    have m1 := md2 (n := n) (x := u + r) (by omega) (by omega)
    have m2 := md2 (n := n) (x := u' + r') (by omega) (by omega)
    have m3 := md3 (n := n) (x := u + v + r) (by omega) (by omega)
    have m4 := md3 (n := n) (x := u' + v' + r') (by omega) (by omega)
    have hv : v = v' := by omega
    have := a1.sym.inj hg b1.sym hv
    exact ⟨by omega, this.1⟩
theorem same_pair {n : Int} {l : List (Int × Int)} (hg : Good n l) {r t t' : Nat} (hr : (r : Int) < n) (ht : t < l.length + 1) (ht' : t' < l.length + 1) {q : Int} (h : q = (rowAt n l r t).n ∨ q = (rowAt n l r t).e) (h' : q = (rowAt n l r t').n ∨ q = (rowAt n l r t').e) : t = t' := by
  have hn : 0 < n := by omega
  have top : ∀ {u : Int} {r : Nat}, (u + r).tmod n + 1 ≠ n + 1 := fun {u r} e => by
    have := Int.tmod_lt_of_pos (u + r) hn; omega
  rcases row_side hr ht h with ⟨e1, e2, e3⟩ | ⟨u, v, a1, a2, a3⟩ <;> rcases row_side hr ht' h' with ⟨f1, f2, f3⟩ | ⟨u', v', b1, b2, b3⟩
  · omega
  · exact absurd (by rw [← b2, e1]) (top (u := u') (r := r))
  · exact absurd (by rw [← a2, f1]) (top (u := u) (r := r))
  · have p := a1.bd hg hn
    have q := b1.bd hg hn
    have m1 := md2 (n := n) (x := u + r) (by omega) (by omega)
    have m2 := md2 (n := n) (x := u' + r) (by omega) (by omega)
    exact (a1.inj hg b1 (by omega)).1
theorem same_meet {n : Int} {l : List (Int × Int)} (hg : Good n l) {r t r' t' : Nat} (hr : (r : Int) < n) (hr' : (r' : Int) < n) (ht : t < l.length + 1) (ht' : t' < l.length + 1)
    (h : ((rowAt n l r t).n = (rowAt n l r' t').n ∧ (rowAt n l r t).e = (rowAt n l r' t').e) ∨ ((rowAt n l r t).n = (rowAt n l r' t').e ∧ (rowAt n l r t).e = (rowAt n l r' t').n)) : r = r' ∧ t = t' := by
  have hn : 0 < n := by omega
  have lt : ∀ u : Int, u.tmod n + 1 < n + 1 := fun u => by have := Int.tmod_lt_of_pos u hn; omega
  cases t with
  | zero => cases t' with
    | zero => simp only [rowAt] at h; omega
    | succ j =>
      exfalso
      simp only [rowAt, rowF] at h
      have h1 := lt ((l.getD j (0, 0)).1 + r')
      have h2 := lt ((l.getD j (0, 0)).2 + r')
      omega
  | succ i => cases t' with
    | zero =>
      exfalso
      simp only [rowAt, rowF] at h
      have h1 := lt ((l.getD i (0, 0)).1 + r)
      have h2 := lt ((l.getD i (0, 0)).2 + r)
      omega
    | succ j =>
      have hi : i < l.length := by omega
      have hj : j < l.length := by omega
      have hdi : l.getD i (0, 0) = l[i] := by simp [hi]
      have hdj : l.getD j (0, 0) = l[j] := by simp [hj]
      simp only [rowAt, rowF, hdi, hdj] at h
      have p := hg.1 _ (List.getElem_mem hi)
      have q := hg.1 _ (List.getElem_mem hj)
      unfold InR at p q
      have m1 := md2 (n := n) (x := l[i].1 + r) (by omega) (by omega)
      have m2 := md2 (n := n) (x := l[i].2 + r) (by omega) (by omega)
      have m3 := md2 (n := n) (x := l[j].1 + r') (by omega) (by omega)
      have m4 := md2 (n := n) (x := l[j].2 + r') (by omega) (by omega)
      have d1 := md2 (n := n) (x := l[i].1 - l[i].2 + n) (by omega) (by omega)
      have d3 := md2 (n := n) (x := l[j].1 - l[j].2 + n) (by omega) (by omega)
      have d4 := md2 (n := n) (x := l[j].2 - l[j].1 + n) (by omega) (by omega)
      rcases h with ⟨h1, h2⟩ | ⟨h1, h2⟩
      · have e : (l[i].1 - l[i].2 + n).tmod n = (l[j].1 - l[j].2 + n).tmod n := by omega
        have hij : i = j := nodup_flat (f := fun p : Int × Int => [(p.1 - p.2 + n).tmod n, (p.2 - p.1 + n).tmod n]) hg.2.2 hi hj (x := (l[i].1 - l[i].2 + n).tmod n) (by simp) (by rw [e]; simp)
        subst hij
        exact ⟨by omega, rfl⟩
      · have e : (l[i].1 - l[i].2 + n).tmod n = (l[j].2 - l[j].1 + n).tmod n := by omega
        have hij : i = j := nodup_flat (f := fun p : Int × Int => [(p.1 - p.2 + n).tmod n, (p.2 - p.1 + n).tmod n]) hg.2.2 hi hj (x := (l[i].1 - l[i].2 + n).tmod n) (by simp) (by rw [e]; simp)
        subst hij
        have := nodup_in (f := fun p : Int × Int => [(p.1 - p.2 + n).tmod n, (p.2 - p.1 + n).tmod n]) hg.2.2 hi
        rw [e] at this
        simp at this
theorem same_set {n : Int} {l : List (Int × Int)} (hg : Good n l) (hS : Str n l) {r t t' : Nat} (hr : (r : Int) < n) (ht : t < l.length + 1) (hlt : t' < t) (h : (rowAt n l r t).s = (rowAt n l r t').s) : False := by
  cases t with
  | zero => omega
  | succ i =>
    have hi : i < l.length := by omega
    have hdi : l.getD i (0, 0) = l[i] := by simp [hi]
    have p := hg.1 _ (List.getElem_mem hi)
    unfold InR at p
    have m1 := md3 (n := n) (x := l[i].1 + l[i].2 + r) (by omega) (by omega)
    have m2 := md2 (n := n) (x := l[i].1 + l[i].2) (by omega) (by omega)
    cases t' with
    | zero =>
      simp only [rowAt, rowF, hdi] at h
      refine hS.2 (List.mem_map.2 ⟨l[i], List.getElem_mem hi, ?_⟩)
      show (l[i].1 + l[i].2).tmod n = 0
      omega
    | succ j =>
      have hj : j < l.length := by omega
      have hdj : l.getD j (0, 0) = l[j] := by simp [hj]
      simp only [rowAt, rowF, hdi, hdj] at h
      have q := hg.1 _ (List.getElem_mem hj)
      unfold InR at q
      have m3 := md3 (n := n) (x := l[j].1 + l[j].2 + r) (by omega) (by omega)
      have m4 := md2 (n := n) (x := l[j].1 + l[j].2) (by omega) (by omega)
      have e : (l[i].1 + l[i].2).tmod n = (l[j].1 + l[j].2).tmod n := by omega
      have hij : i = j := by
        have h1 : i < (sums n l).length := by simpa [sums] using hi
        have h2 : j < (sums n l).length := by simpa [sums] using hj
        exact nodup_get hS.1 h1 h2 (by simpa [sums] using e)
      omega

theorem row_bd {n : Int} {l : List (Int × Int)} (hg : Good n l) {r t : Nat} (hr : (r : Int) < n) (ht : t < l.length + 1) :
    (rowAt n l r t).r = r ∧ (rowAt n l r t).t = t ∧ 1 ≤ (rowAt n l r t).n ∧ (rowAt n l r t).n ≤ n + 1 ∧ 1 ≤ (rowAt n l r t).e ∧ (rowAt n l r t).e ≤ n + 1 ∧ (rowAt n l r t).n ≠ (rowAt n l r t).e ∧ 0 ≤ (rowAt n l r t).s ∧ (rowAt n l r t).s < n := by
  cases t with
  | zero => refine ⟨rfl, rfl, ?_, ?_, ?_, ?_, ?_, ?_, ?_⟩ <;> simp only [rowAt] <;> omega
  | succ i =>
    have hi : i < l.length := by omega
    have hdi : l.getD i (0, 0) = l[i] := by simp [hi]
    have p := hg.1 _ (List.getElem_mem hi)
    unfold InR at p
    have m1 := md2 (n := n) (x := l[i].1 + r) (by omega) (by omega)
    have m2 := md2 (n := n) (x := l[i].2 + r) (by omega) (by omega)
    have m3 := md3 (n := n) (x := l[i].1 + l[i].2 + r) (by omega) (by omega)
    have ne := nums_neA hg hi hi
    refine ⟨rfl, rfl, ?_, ?_, ?_, ?_, ?_, ?_, ?_⟩ <;> simp only [rowAt, rowF, hdi] <;> omega

theorem fair_mov {n : Int} {T : Nat} {l : List (Int × Int)} (hn : n + 1 = 2 * T) (hlen : l.length + 1 = T) (hg : Good n l) {R C : Nat} (hR : (R : Int) ≤ n) (hC : (Str n l ∧ C = 1) ∨ C = T) : FairL T n.toNat C (rowsL n T l R) := by
  intro r t ht w hw
  have hT : 2 * (T : Int) = n + 1 := hn.symm
  subst hlen
  obtain ⟨hr, rfl⟩ := rows_at n _ l hT r t ht R w hw
  have hrn : (r : Int) < n := by omega
  obtain ⟨b1, b2, b3, b4, b5, b6, b7, b8, b9⟩ := row_bd hg hrn ht
  have hN : (n.toNat : Int) = n := Int.toNat_of_nonneg (by omega)
  -- a row before this one with a pair and its set the same
  have key : ∀ q : Int, (q = (rowAt n l r t).n ∨ q = (rowAt n l r t).e) → plA n.toNat ((rowsL n ↑(l.length + 1) l R).take (r * (l.length + 1) + t)) (q.toNat * n.toNat + (rowAt n l r t).s.toNat) = false := by
    intro q hq
    rw [plA, List.any_eq_false]
    intro w' hw' hc
    obtain ⟨r', t', ht', hr', hlt, rfl⟩ := take_mem hT hw'
    have hrn' : (r' : Int) < n := by omega
    obtain ⟨c1, c2, c3, c4, c5, c6, c7, c8, c9⟩ := row_bd hg hrn' ht'
    have fin : ∀ q' : Int, (q' = (rowAt n l r' t').n ∨ q' = (rowAt n l r' t').e) → q.toNat * n.toNat + (rowAt n l r t).s.toNat = q'.toNat * n.toNat + (rowAt n l r' t').s.toNat → False := by
      intro q' hq' e
      have hb : 0 ≤ q ∧ 0 ≤ q' := by rcases hq with h | h <;> rcases hq' with h' | h' <;> omega
      have s1 : (rowAt n l r t).s.toNat < n.toNat := by omega
      have s2 : (rowAt n l r' t').s.toNat < n.toNat := by omega
      have e1 : q.toNat = q'.toNat ∧ (rowAt n l r t).s.toNat = (rowAt n l r' t').s.toNat := by
        have h1 : (q.toNat * n.toNat + (rowAt n l r t).s.toNat) / n.toNat = q.toNat := by rw [Nat.mul_comm, Nat.mul_add_div (by omega), Nat.div_eq_of_lt s1]; omega
        have h2 : (q'.toNat * n.toNat + (rowAt n l r' t').s.toNat) / n.toNat = q'.toNat := by rw [Nat.mul_comm, Nat.mul_add_div (by omega), Nat.div_eq_of_lt s2]; omega
        have h3 : q.toNat = q'.toNat := by rw [← h1, ← h2, e]
        rw [h3] at e
        exact ⟨h3, by omega⟩
      have e2 : q = q' := by omega
      subst e2
      obtain ⟨z1, z2⟩ := same_pair_set hg hrn hrn' ht ht' hq hq' (by omega)
      subst z1; subst z2; omega
    simp only [Bool.or_eq_true, Nat.beq_eq] at hc
    rcases hc with hc | hc
    · exact fin _ (.inl rfl) hc
    · exact fin _ (.inr rfl) hc
  have keyS : ∀ q : Int, (q = (rowAt n l r t).n ∨ q = (rowAt n l r t).e) → siA (((rowsL n ↑(l.length + 1) l R).take (r * (l.length + 1) + t)).drop (r * (l.length + 1))) q.toNat = false := by
    intro q hq
    rw [siA, List.any_eq_false]
    intro w' hw' hc
    obtain ⟨t', hlt, rfl⟩ := drop_mem hT (by omega) hw'
    obtain ⟨c1, c2, c3, c4, c5, c6, c7, c8, c9⟩ := row_bd hg hrn (t := t') (by omega)
    simp only [Bool.or_eq_true, Nat.beq_eq] at hc
    have hb : 0 ≤ q := by rcases hq with h | h <;> omega
    rcases hc with hc | hc
    · have := same_pair hg hrn ht (t' := t') (by omega) hq (.inl (by omega)); omega
    · have := same_pair hg hrn ht (t' := t') (by omega) hq (.inr (by omega)); omega
  refine ⟨b1, b2, b3, by omega, b5, by omega, b7, b8, by omega, key _ (.inl rfl), key _ (.inr rfl), ?_, keyS _ (.inl rfl), keyS _ (.inr rfl), ?_⟩
  · rw [meA, List.any_eq_false]
    intro w' hw' hc
    obtain ⟨r', t', ht', hr', hlt, rfl⟩ := take_mem hT hw'
    have hrn' : (r' : Int) < n := by omega
    obtain ⟨c1, c2, c3, c4, c5, c6, c7, c8, c9⟩ := row_bd hg hrn' ht'
    rw [Nat.beq_eq] at hc
    unfold mtI at hc
    obtain ⟨a1, ha1⟩ : ∃ a1, min (rowAt n l r t).n.toNat (rowAt n l r t).e.toNat = a1 := ⟨_, rfl⟩
    obtain ⟨a2, ha2⟩ : ∃ a2, max (rowAt n l r t).n.toNat (rowAt n l r t).e.toNat = a2 := ⟨_, rfl⟩
    obtain ⟨d1, hd1⟩ : ∃ d1, min (rowAt n l r' t').n.toNat (rowAt n l r' t').e.toNat = d1 := ⟨_, rfl⟩
    obtain ⟨d2, hd2⟩ : ∃ d2, max (rowAt n l r' t').n.toNat (rowAt n l r' t').e.toNat = d2 := ⟨_, rfl⟩
    rw [ha1, ha2, hd1, hd2] at hc
    have s1 : a2 < 2 * (l.length + 1) + 1 := by omega
    have s2 : d2 < 2 * (l.length + 1) + 1 := by omega
    have h1 : (a1 * (2 * (l.length + 1) + 1) + a2) / (2 * (l.length + 1) + 1) = a1 := by rw [Nat.mul_comm, Nat.mul_add_div (by omega), Nat.div_eq_of_lt s1]; omega
    have h2 : (d1 * (2 * (l.length + 1) + 1) + d2) / (2 * (l.length + 1) + 1) = d1 := by rw [Nat.mul_comm, Nat.mul_add_div (by omega), Nat.div_eq_of_lt s2]; omega
    have h3 : a1 = d1 := by rw [← h1, ← h2, hc]
    rw [h3] at hc
    have h4 : a2 = d2 := by omega
    obtain ⟨z1, z2⟩ := same_meet hg hrn hrn' ht ht' (by omega)
    subst z1; subst z2; omega
  · rcases hC with ⟨hS, rfl⟩ | rfl
    · rw [stA, Nat.lt_one_iff, List.countP_eq_zero]
      intro w' hw' hc
      obtain ⟨t', hlt, rfl⟩ := drop_mem hT (by omega) hw'
      obtain ⟨c1, c2, c3, c4, c5, c6, c7, c8, c9⟩ := row_bd hg hrn (t := t') (by omega)
      rw [Nat.beq_eq] at hc
      exact same_set hg hS hrn ht hlt (by omega)
    · refine Nat.lt_of_le_of_lt (List.countP_le_length) ?_
      simp only [List.length_drop, List.length_take]
      omega
end Go.Idl
