/-
  Package howell (turned from chapter 26).
  Chapter 26, plain law: the movement made of a starter is fair.
  Howell movements are fair (plain).
-/
import Derived.Test.YteedopeniojppaaGreatCtopmPartH
import Derived.Test.YteedopeniojppaaGreatCtopmPartE
namespace Go.Idl.How
set_option linter.all false
open Go.Idl
open Go.Proofs
set_option maxHeartbeats 8000000
set_option maxRecDepth 40000

theorem HP_at (t : Nat) (h1 : 2 ≤ t) (h2 : t ≤ 24) (b : Bool) (h : hpb t = b) : pB t = b ∧ pN t = if b = true then 2 * (t : Int) - 1 else 0 := by
  have := HP_iff h1 h2
  unfold pB pN
  cases b with
  | true => have hp := this.2 h; exact ⟨by simp only [decide_eq_true_eq]; exact hp, by rw [if_pos hp]; simp⟩
  | false => have hp : ¬ HP t := fun hp => by rw [this.1 hp] at h; cases h
             exact ⟨by simp only [decide_eq_false_iff_not]; exact hp, by rw [if_neg hp]; simp⟩
theorem Rt_at (p : Nat) (h1 : 3 ≤ p) (h2 : p ≤ 1000) (h : isPb p = true) : rN p = rootN p 40 2 ∧ rE p = 0 := by
  have : RtOK p := ⟨by omega, by omega, (isPb_iff h2).1 h⟩
  unfold rN rE
  rw [if_pos this, if_pos this]
  exact ⟨by simp [rootOf], rfl⟩
theorem sL_at (t : Nat) (h1 : 2 ≤ t) (h2 : t ≤ 24) : sL t = stN t ∧ sE t = 0 := by
  have : 2 ≤ (t : Int) ∧ (t : Int) ≤ 24 := by omega
  unfold sL sE
  rw [if_pos this, if_pos this, stL_eq h1 h2]
  exact ⟨rfl, rfl⟩
instance (n : Int) : Decidable (BadN n) := by unfold BadN; infer_instance
instance (n : Int) (p : Int × Int) : Decidable (InR n p) := by unfold InR; infer_instance
instance (n : Int) (l : List (Int × Int)) : Decidable (Good n l) := by unfold Good; infer_instance
instance (n : Int) (l : List (Int × Int)) : Decidable (Str n l) := by unfold Str; infer_instance
theorem chk_at {n : Int} {l : List (Int × Int)} (h1 : ¬ BadN n) (h2 : (l.length : Int) = (n - 1).tdiv 2) (h3 : Good n l) (b : Bool) (h4 : decide (Str n l) = b) : chkB n l = b ∧ chkE n l = 0 := by
  unfold chkB chkE
  rw [if_neg h1, if_pos ⟨h2, h3⟩]
  refine ⟨?_, rfl⟩
  cases b with
  | true => simp only [decide_eq_true_eq]; exact ⟨h1, h2, h3, of_decide_eq_true h4⟩
  | false => simp only [decide_eq_false_iff_not]; exact fun h => of_decide_eq_false h4 h.2.2.2
theorem make_at (t : Nat) (r : Int) (h1 : 2 ≤ t) (h2 : t ≤ 24) (hb : chkE (2 * t - 1) (stN t) = 0) (h3 : 1 ≤ r) (h4 : r ≤ 2 * t - 1) : makeM t r = movOf (2 * t - 1) r (chkB (2 * t - 1) (stN t)) (stN t) ∧ makeE t r = 0 := by
  have : 2 ≤ (t : Int) ∧ (t : Int) ≤ 24 := by omega
  unfold makeM makeE
  rw [if_pos this, if_pos this, stL_eq h1 h2]
  unfold fromM fromE
  rw [if_pos ⟨hb, h3, h4⟩, if_neg (by omega), if_neg (by omega), if_neg (by omega)]
  exact ⟨rfl, rfl⟩
theorem stN_good : ∀ t : Nat, t < 25 → 2 ≤ t → ¬ BadN (2 * (t : Int) - 1) ∧ ((stN t).length : Int) = (2 * (t : Int) - 1 - 1).tdiv 2 ∧ Good (2 * (t : Int) - 1) (stN t) ∧ decide (Str (2 * (t : Int) - 1) (stN t)) = hpb t := by decide +kernel
theorem chk_st (t : Nat) (h1 : 2 ≤ t) (h2 : t ≤ 24) : chkB (2 * t - 1) (stN t) = hpb t ∧ chkE (2 * t - 1) (stN t) = 0 := by
  obtain ⟨a, b, c, d⟩ := stN_good t (by omega) h1
  exact chk_at a b c _ d
end Go.Idl.How
namespace Go.Idl.How
set_option linter.all false
open Go.Idl
open Go.Proofs
set_option maxHeartbeats 4000000
set_option maxRecDepth 40000

theorem md2 {n x : Int} (h0 : 0 ≤ x) (h1 : x < 2 * n) : (x.tmod n = x ∧ x < n) ∨ (x.tmod n = x - n ∧ n ≤ x) := by
  rw [Int.tmod_eq_emod_of_nonneg h0]
  by_cases h : x < n
  · exact .inl ⟨Int.emod_eq_of_lt h0 h, h⟩
  · refine .inr ⟨?_, by omega⟩
    have : x % n = (x - n + 1 * n) % n := by congr 1; omega
    rw [this, Int.add_mul_emod_self_right]
    exact Int.emod_eq_of_lt (by omega) (by omega)
theorem md3 {n x : Int} (h0 : 0 ≤ x) (h1 : x < 3 * n) : (x.tmod n = x ∧ x < n) ∨ (x.tmod n = x - n ∧ n ≤ x ∧ x < 2 * n) ∨ (x.tmod n = x - 2 * n ∧ 2 * n ≤ x) := by
  by_cases h : x < 2 * n
  · rcases md2 h0 h with h | h
    · exact .inl h
    · exact .inr (.inl ⟨h.1, h.2, by omega⟩)
  · refine .inr (.inr ⟨?_, by omega⟩)
    rw [Int.tmod_eq_emod_of_nonneg h0]
    have : x % n = (x - 2 * n + 2 * n) % n := by congr 1; omega
    rw [this, Int.add_mul_emod_self_right]
    exact Int.emod_eq_of_lt (by omega) (by omega)

theorem nodup_flat {α β : Type} {f : α → List β} : ∀ {l : List α}, (l.flatMap f).Nodup → ∀ {i j : Nat} (hi : i < l.length) (hj : j < l.length) {x : β}, x ∈ f l[i] → x ∈ f l[j] → i = j
  | [], _, _, _, hi, _, _, _, _ => absurd hi (Nat.not_lt_zero _)
  | a :: l, h, i, j, hi, hj, x, h1, h2 => by
    rw [List.flatMap_cons, List.nodup_append] at h
    obtain ⟨ha, hl, hd⟩ := h
    cases i with
    | zero => cases j with
      | zero => rfl
      | succ j => exact absurd rfl (hd x h1 x (List.mem_flatMap.2 ⟨_, List.getElem_mem (by simpa using hj), by simpa using h2⟩))
    | succ i => cases j with
      | zero => exact absurd rfl (hd x h2 x (List.mem_flatMap.2 ⟨_, List.getElem_mem (by simpa using hi), by simpa using h1⟩))
      | succ j => exact congrArg (· + 1) (nodup_flat hl (by simpa using hi) (by simpa using hj) (by simpa using h1) (by simpa using h2))
theorem nodup_in {α β : Type} {f : α → List β} {l : List α} (h : (l.flatMap f).Nodup) {i : Nat} (hi : i < l.length) : (f l[i]).Nodup := by
  induction l generalizing i with
  | nil => exact absurd hi (Nat.not_lt_zero _)
  | cons a l ih =>
    rw [List.flatMap_cons, List.nodup_append] at h
    cases i with
    | zero => exact h.1
    | succ i => exact ih h.2.1 (by simpa using hi)

theorem nodup_get {α : Type} {l : List α} (h : l.Nodup) {i j : Nat} (hi : i < l.length) (hj : j < l.length) (e : l[i] = l[j]) : i = j := by
  have hp := List.pairwise_iff_getElem.1 h
  rcases Nat.lt_trichotomy i j with h1 | h1 | h1
  · exact absurd e (hp i j hi hj h1)
  · exact h1
  · exact absurd e.symm (hp j i hj hi h1)

def rowAt (n : Int) (l : List (Int × Int)) (r t : Nat) : RowV := match t with
  | 0 => ⟨r, 0, n + 1, r + 1, r⟩
  | i + 1 => rowF n r i (l.getD i (0, 0))
theorem inn_at (n T : Int) (l : List (Int × Int)) (hT : 2 * T = n + 1) (r t : Nat) (ht : t < l.length + 1) : (innL n T l r l.length)[t]? = some (rowAt n l r t) := by
  cases t with
  | zero => simp [innL, rowAt, hT]
  | succ i =>
    have hi : i < l.length := by omega
    simp [innL, rowAt, hi]
theorem rows_at (n T : Int) (l : List (Int × Int)) (hT : 2 * T = n + 1) (r t : Nat) (ht : t < l.length + 1) : ∀ (R : Nat) (w : RowV), (rowsL n T l R)[r * (l.length + 1) + t]? = some w → r < R ∧ w = rowAt n l r t
  | 0, w, h => by simp [rowsL] at h
  | R + 1, w, h => by
    rw [rowsL_succ] at h
    by_cases hr : r < R
    · rw [List.getElem?_append_left (by
        rw [rowsL_length]
        have : (r + 1) * (l.length + 1) ≤ R * (l.length + 1) := Nat.mul_le_mul_right _ hr
        rw [Nat.add_mul] at this; omega)] at h
      have := rows_at n T l hT r t ht R w h
      exact ⟨by omega, this.2⟩
    · have hk : R * (l.length + 1) ≤ r * (l.length + 1) := Nat.mul_le_mul_right _ (by omega)
      rw [List.getElem?_append_right (by rw [rowsL_length]; omega), rowsL_length] at h
      by_cases hrR : r = R
      · subst hrR
        rw [Nat.add_sub_cancel_left, inn_at n T l hT r t ht] at h
        exact ⟨by omega, (Option.some.inj h).symm⟩
      · have : (R + 1) * (l.length + 1) ≤ r * (l.length + 1) := Nat.mul_le_mul_right _ (by omega)
        rw [Nat.add_mul R 1] at this
        rw [List.getElem?_eq_none (by rw [innL_length _ _ _ _ _ (Nat.le_refl _)]; omega)] at h
        cases h
theorem take_mem {n T : Int} {l : List (Int × Int)} (hT : 2 * T = n + 1) {R k : Nat} {w : RowV} (h : w ∈ (rowsL n T l R).take k) : ∃ r t, t < l.length + 1 ∧ r < R ∧ r * (l.length + 1) + t < k ∧ w = rowAt n l r t := by
  obtain ⟨j, hj⟩ := List.mem_iff_getElem?.1 h
  rw [List.getElem?_take] at hj
  split at hj
  · rename_i hk
    have hm : j % (l.length + 1) < l.length + 1 := Nat.mod_lt _ (by omega)
    have hdm : j / (l.length + 1) * (l.length + 1) + j % (l.length + 1) = j := by rw [Nat.mul_comm]; exact Nat.div_add_mod _ _
    rw [← hdm] at hj
    obtain ⟨h1, h2⟩ := rows_at n T l hT _ _ hm R w hj
    exact ⟨_, _, hm, h1, by rw [hdm]; exact hk, h2⟩
  · cases hj
theorem drop_mem {n T : Int} {l : List (Int × Int)} (hT : 2 * T = n + 1) {R r t : Nat} (ht : t ≤ l.length) {w : RowV} (h : w ∈ ((rowsL n T l R).take (r * (l.length + 1) + t)).drop (r * (l.length + 1))) : ∃ t', t' < t ∧ w = rowAt n l r t' := by
  obtain ⟨j, hj⟩ := List.mem_iff_getElem?.1 h
  rw [List.getElem?_drop, List.getElem?_take] at hj
  split at hj
  · rename_i hk
    obtain ⟨h1, h2⟩ := rows_at n T l hT r j (by omega) R w hj
    exact ⟨j, by omega, h2⟩
  · cases hj

/-- Who sits where: a side of table t has the number u, the other side v. -/
def Sl (l : List (Int × Int)) (t : Nat) (u v : Int) : Prop := (t = 0 ∧ u = 0 ∧ v = 0) ∨ ∃ i, ∃ h : i < l.length, t = i + 1 ∧ ((u = l[i].1 ∧ v = l[i].2) ∨ (u = l[i].2 ∧ v = l[i].1))
theorem Sl.bd {n : Int} {l : List (Int × Int)} (hg : Good n l) (hn : 0 < n) {t : Nat} {u v : Int} (h : Sl l t u v) : 0 ≤ u ∧ u < n ∧ 0 ≤ v ∧ v < n := by
  rcases h with ⟨_, rfl, rfl⟩ | ⟨i, hi, _, ⟨rfl, rfl⟩ | ⟨rfl, rfl⟩⟩
  · omega
  · have := hg.1 _ (List.getElem_mem hi); unfold InR at this; omega
  · have := hg.1 _ (List.getElem_mem hi); unfold InR at this; omega
theorem nums_neA {n : Int} {l : List (Int × Int)} (hg : Good n l) {i j : Nat} (hi : i < l.length) (hj : j < l.length) : l[i].1 ≠ l[j].2 := by
  intro e
  have hij : i = j := nodup_flat (f := fun p : Int × Int => [p.1, p.2]) hg.2.1 hi hj (x := l[i].1) (by simp) (by rw [e]; simp)
  subst hij
  have := nodup_in (f := fun p : Int × Int => [p.1, p.2]) hg.2.1 hi
  rw [← e] at this
  simp at this
theorem nums_injA {n : Int} {l : List (Int × Int)} (hg : Good n l) {i j : Nat} (hi : i < l.length) (hj : j < l.length) (h : l[i].1 = l[j].1 ∨ l[i].2 = l[j].2) : i = j := by
  rcases h with e | e
  · exact nodup_flat (f := fun p : Int × Int => [p.1, p.2]) hg.2.1 hi hj (x := l[i].1) (by simp) (by rw [e]; simp)
  · exact nodup_flat (f := fun p : Int × Int => [p.1, p.2]) hg.2.1 hi hj (x := l[i].2) (by simp) (by rw [e]; simp)
theorem Sl.sym {l : List (Int × Int)} {t : Nat} {u v : Int} (h : Sl l t u v) : Sl l t v u := by
  rcases h with ⟨h1, h2, h3⟩ | ⟨i, hi, ht, h | h⟩
  · exact .inl ⟨h1, h3, h2⟩
  · exact .inr ⟨i, hi, ht, .inr ⟨h.2, h.1⟩⟩
  · exact .inr ⟨i, hi, ht, .inl ⟨h.2, h.1⟩⟩
theorem Sl.inj {n : Int} {l : List (Int × Int)} (hg : Good n l) {t t' : Nat} {u v u' v' : Int} (h : Sl l t u v) (h' : Sl l t' u' v') (e : u = u') : t = t' ∧ v = v' := by
  rcases h with ⟨h1, h2, h3⟩ | ⟨i, hi, ht, h⟩ <;> rcases h' with ⟨k1, k2, k3⟩ | ⟨j, hj, ht', k⟩
  · exact ⟨by omega, by omega⟩
  · have := hg.1 _ (List.getElem_mem hj); unfold InR at this; omega
  · have := hg.1 _ (List.getElem_mem hi); unfold InR at this; omega
  · rcases h with ⟨h1, h2⟩ | ⟨h1, h2⟩ <;> rcases k with ⟨k1, k2⟩ | ⟨k1, k2⟩
    · have hij := nums_injA hg hi hj (.inl (by rw [← h1, ← k1, e])); subst hij; exact ⟨by omega, by omega⟩
    · exact absurd (by rw [← h1, ← k1, e]) (nums_neA hg hi hj)
    · exact absurd (by rw [← h1, ← k1, e]) (nums_neA hg hj hi)
    · have hij := nums_injA hg hi hj (.inr (by rw [← h1, ← k1, e])); subst hij; exact ⟨by omega, by omega⟩

theorem row_side {n : Int} {l : List (Int × Int)} {r t : Nat} (hr : (r : Int) < n) (ht : t < l.length + 1) {q : Int} (h : q = (rowAt n l r t).n ∨ q = (rowAt n l r t).e) :
    (q = n + 1 ∧ t = 0 ∧ (rowAt n l r t).s = r) ∨ ∃ u v, Sl l t u v ∧ q = (u + r).tmod n + 1 ∧ (rowAt n l r t).s = (u + v + r).tmod n := by
  cases t with
  | zero =>
    rcases h with rfl | rfl
    · exact .inl ⟨rfl, rfl, rfl⟩
    · refine .inr ⟨0, 0, .inl ⟨rfl, rfl, rfl⟩, ?_, ?_⟩
      · show (r : Int) + 1 = _
        rw [Int.tmod_eq_emod_of_nonneg (by omega), Int.emod_eq_of_lt (by omega) (by omega)]; omega
      · show (r : Int) = _
        rw [Int.tmod_eq_emod_of_nonneg (by omega), Int.emod_eq_of_lt (by omega) (by omega)]; omega
  | succ i =>
    have hi : i < l.length := by omega
    have hd : l.getD i (0, 0) = l[i] := by simp [hi]
    refine .inr ?_
    rcases h with rfl | rfl
    · refine ⟨l[i].1, l[i].2, .inr ⟨i, hi, rfl, .inl ⟨rfl, rfl⟩⟩, ?_, ?_⟩ <;> simp only [rowAt, rowF, hd]
    · refine ⟨l[i].2, l[i].1, .inr ⟨i, hi, rfl, .inr ⟨rfl, rfl⟩⟩, ?_, ?_⟩ <;> simp only [rowAt, rowF, hd]
      rw [Int.add_comm l[i].2 l[i].1]

theorem same_pair_set {n : Int} {l : List (Int × Int)} (hg : Good n l) {r t r' t' : Nat} (hr : (r : Int) < n) (hr' : (r' : Int) < n) (ht : t < l.length + 1) (ht' : t' < l.length + 1) {q : Int} (h : q = (rowAt n l r t).n ∨ q = (rowAt n l r t).e) (h' : q = (rowAt n l r' t').n ∨ q = (rowAt n l r' t').e) (hs : (rowAt n l r t).s = (rowAt n l r' t').s) : r = r' ∧ t = t' := by
  have hn : 0 < n := by omega
  have top : ∀ {u : Int} {r : Nat}, (u + r).tmod n + 1 ≠ n + 1 := fun {u r} e => by
    have := Int.tmod_lt_of_pos (u + r) hn; omega
  rcases row_side hr ht h with ⟨e1, e2, e3⟩ | ⟨u, v, a1, a2, a3⟩ <;> rcases row_side hr' ht' h' with ⟨f1, f2, f3⟩ | ⟨u', v', b1, b2, b3⟩
  · exact ⟨by omega, by omega⟩
  · exact absurd (by rw [← b2, e1]) (top (u := u') (r := r'))
  · exact absurd (by rw [← a2, f1]) (top (u := u) (r := r))
  · have p := a1.bd hg hn
    have q := b1.bd hg hn
    have m1 := md2 (n := n) (x := u + r) (by omega) (by omega)
    have m2 := md2 (n := n) (x := u' + r') (by omega) (by omega)
    have m3 := md3 (n := n) (x := u + v + r) (by omega) (by omega)
    have m4 := md3 (n := n) (x := u' + v' + r') (by omega) (by omega)
    have hv : v = v' := by omega
    have := a1.sym.inj hg b1.sym hv
    exact ⟨by omega, this.1⟩
theorem same_pair {n : Int} {l : List (Int × Int)} (hg : Good n l) {r t t' : Nat} (hr : (r : Int) < n) (ht : t < l.length + 1) (ht' : t' < l.length + 1) {q : Int} (h : q = (rowAt n l r t).n ∨ q = (rowAt n l r t).e) (h' : q = (rowAt n l r t').n ∨ q = (rowAt n l r t').e) : t = t' := by
  have hn : 0 < n := by omega
  have top : ∀ {u : Int} {r : Nat}, (u + r).tmod n + 1 ≠ n + 1 := fun {u r} e => by
    have := Int.tmod_lt_of_pos (u + r) hn; omega
  rcases row_side hr ht h with ⟨e1, e2, e3⟩ | ⟨u, v, a1, a2, a3⟩ <;> rcases row_side hr ht' h' with ⟨f1, f2, f3⟩ | ⟨u', v', b1, b2, b3⟩
  · omega
  · exact absurd (by rw [← b2, e1]) (top (u := u') (r := r))
  · exact absurd (by rw [← a2, f1]) (top (u := u) (r := r))
  · have p := a1.bd hg hn
    have q := b1.bd hg hn
    have m1 := md2 (n := n) (x := u + r) (by omega) (by omega)
    have m2 := md2 (n := n) (x := u' + r) (by omega) (by omega)
    exact (a1.inj hg b1 (by omega)).1
theorem same_meet {n : Int} {l : List (Int × Int)} (hg : Good n l) {r t r' t' : Nat} (hr : (r : Int) < n) (hr' : (r' : Int) < n) (ht : t < l.length + 1) (ht' : t' < l.length + 1)
    (h : ((rowAt n l r t).n = (rowAt n l r' t').n ∧ (rowAt n l r t).e = (rowAt n l r' t').e) ∨ ((rowAt n l r t).n = (rowAt n l r' t').e ∧ (rowAt n l r t).e = (rowAt n l r' t').n)) : r = r' ∧ t = t' := by
  have hn : 0 < n := by omega
  have lt : ∀ u : Int, u.tmod n + 1 < n + 1 := fun u => by have := Int.tmod_lt_of_pos u hn; omega
  cases t with
  | zero => cases t' with
    | zero => simp only [rowAt] at h; omega
    | succ j =>
      exfalso
      simp only [rowAt, rowF] at h
      have h1 := lt ((l.getD j (0, 0)).1 + r')
      have h2 := lt ((l.getD j (0, 0)).2 + r')
      omega
  | succ i => cases t' with
    | zero =>
      exfalso
      simp only [rowAt, rowF] at h
      have h1 := lt ((l.getD i (0, 0)).1 + r)
      have h2 := lt ((l.getD i (0, 0)).2 + r)
      omega
    | succ j =>
      have hi : i < l.length := by omega
      have hj : j < l.length := by omega
      have hdi : l.getD i (0, 0) = l[i] := by simp [hi]
      have hdj : l.getD j (0, 0) = l[j] := by simp [hj]
      simp only [rowAt, rowF, hdi, hdj] at h
      have p := hg.1 _ (List.getElem_mem hi)
      have q := hg.1 _ (List.getElem_mem hj)
      unfold InR at p q
      have m1 := md2 (n := n) (x := l[i].1 + r) (by omega) (by omega)
      have m2 := md2 (n := n) (x := l[i].2 + r) (by omega) (by omega)
      have m3 := md2 (n := n) (x := l[j].1 + r') (by omega) (by omega)
      have m4 := md2 (n := n) (x := l[j].2 + r') (by omega) (by omega)
      have d1 := md2 (n := n) (x := l[i].1 - l[i].2 + n) (by omega) (by omega)
      have d3 := md2 (n := n) (x := l[j].1 - l[j].2 + n) (by omega) (by omega)
      have d4 := md2 (n := n) (x := l[j].2 - l[j].1 + n) (by omega) (by omega)
      rcases h with ⟨h1, h2⟩ | ⟨h1, h2⟩
      · have e : (l[i].1 - l[i].2 + n).tmod n = (l[j].1 - l[j].2 + n).tmod n := by omega
        have hij : i = j := nodup_flat (f := fun p : Int × Int => [(p.1 - p.2 + n).tmod n, (p.2 - p.1 + n).tmod n]) hg.2.2 hi hj (x := (l[i].1 - l[i].2 + n).tmod n) (by simp) (by rw [e]; simp)
        subst hij
        exact ⟨by omega, rfl⟩
      · have e : (l[i].1 - l[i].2 + n).tmod n = (l[j].2 - l[j].1 + n).tmod n := by omega
        have hij : i = j := nodup_flat (f := fun p : Int × Int => [(p.1 - p.2 + n).tmod n, (p.2 - p.1 + n).tmod n]) hg.2.2 hi hj (x := (l[i].1 - l[i].2 + n).tmod n) (by simp) (by rw [e]; simp)
        subst hij
        have := nodup_in (f := fun p : Int × Int => [(p.1 - p.2 + n).tmod n, (p.2 - p.1 + n).tmod n]) hg.2.2 hi
        rw [e] at this
        simp at this
theorem same_set {n : Int} {l : List (Int × Int)} (hg : Good n l) (hS : Str n l) {r t t' : Nat} (hr : (r : Int) < n) (ht : t < l.length + 1) (hlt : t' < t) (h : (rowAt n l r t).s = (rowAt n l r t').s) : False := by
  cases t with
  | zero => omega
  | succ i =>
    have hi : i < l.length := by omega
    have hdi : l.getD i (0, 0) = l[i] := by simp [hi]
    have p := hg.1 _ (List.getElem_mem hi)
    unfold InR at p
    have m1 := md3 (n := n) (x := l[i].1 + l[i].2 + r) (by omega) (by omega)
    have m2 := md2 (n := n) (x := l[i].1 + l[i].2) (by omega) (by omega)
    cases t' with
    | zero =>
      simp only [rowAt, rowF, hdi] at h
      refine hS.2 (List.mem_map.2 ⟨l[i], List.getElem_mem hi, ?_⟩)
      show (l[i].1 + l[i].2).tmod n = 0
      omega
    | succ j =>
      have hj : j < l.length := by omega
      have hdj : l.getD j (0, 0) = l[j] := by simp [hj]
      simp only [rowAt, rowF, hdi, hdj] at h
      have q := hg.1 _ (List.getElem_mem hj)
      unfold InR at q
      have m3 := md3 (n := n) (x := l[j].1 + l[j].2 + r) (by omega) (by omega)
      have m4 := md2 (n := n) (x := l[j].1 + l[j].2) (by omega) (by omega)
      have e : (l[i].1 + l[i].2).tmod n = (l[j].1 + l[j].2).tmod n := by omega
      have hij : i = j := by
        have h1 : i < (sums n l).length := by simpa [sums] using hi
        have h2 : j < (sums n l).length := by simpa [sums] using hj
        exact nodup_get hS.1 h1 h2 (by simpa [sums] using e)
      omega

theorem row_bd {n : Int} {l : List (Int × Int)} (hg : Good n l) {r t : Nat} (hr : (r : Int) < n) (ht : t < l.length + 1) :
    (rowAt n l r t).r = r ∧ (rowAt n l r t).t = t ∧ 1 ≤ (rowAt n l r t).n ∧ (rowAt n l r t).n ≤ n + 1 ∧ 1 ≤ (rowAt n l r t).e ∧ (rowAt n l r t).e ≤ n + 1 ∧ (rowAt n l r t).n ≠ (rowAt n l r t).e ∧ 0 ≤ (rowAt n l r t).s ∧ (rowAt n l r t).s < n := by
  cases t with
  | zero => refine ⟨rfl, rfl, ?_, ?_, ?_, ?_, ?_, ?_, ?_⟩ <;> simp only [rowAt] <;> omega
  | succ i =>
    have hi : i < l.length := by omega
    have hdi : l.getD i (0, 0) = l[i] := by simp [hi]
    have p := hg.1 _ (List.getElem_mem hi)
    unfold InR at p
    have m1 := md2 (n := n) (x := l[i].1 + r) (by omega) (by omega)
    have m2 := md2 (n := n) (x := l[i].2 + r) (by omega) (by omega)
    have m3 := md3 (n := n) (x := l[i].1 + l[i].2 + r) (by omega) (by omega)
    have ne := nums_neA hg hi hi
    refine ⟨rfl, rfl, ?_, ?_, ?_, ?_, ?_, ?_, ?_⟩ <;> simp only [rowAt, rowF, hdi] <;> omega
end Go.Idl.How
namespace Go.Idl
set_option linter.all false
open Go.Proofs
set_option maxHeartbeats 4000000
set_option maxRecDepth 40000

/-- A row of package howell's texts as a row. -/
def cvH (x : How.RowV) : Rw := ⟨x.r, x.t, x.n, x.e, x.s⟩
theorem rws_cvH (l : List How.RowV) : How.rws l = rws (l.map cvH) := by simp [How.rws, rws, mp, How.RowV.c, Rw.c, cvH]
namespace How
theorem fair_how {n : Int} {T : Nat} {l : List (Int × Int)} (hn : n + 1 = 2 * T) (hlen : l.length + 1 = T) (hg : Good n l) {R : Nat} {C : Int} (hR : (R : Int) ≤ n) (hC : (Str n l ∧ C = 1) ∨ C = T) :
    Fair T R n C (2 * T) ((rowsL n T l R).map cvH) := by
  have hT : 2 * (T : Int) = n + 1 := hn.symm
  subst hlen
  have hmem : ∀ w ∈ rowsL n ((l.length + 1 : Nat) : Int) l R, ∃ r t, t < l.length + 1 ∧ r < R ∧ w = rowAt n l r t := fun w hw => by
    obtain ⟨r, t, h1, h2, _, h3⟩ := take_mem (k := (rowsL n ((l.length + 1 : Nat) : Int) l R).length) hT (by rw [List.take_length]; exact hw)
    exact ⟨r, t, h1, h2, h3⟩
  have hpw : ∀ {P : RowV → RowV → Prop}, (∀ r t r' t' : Nat, r < R → t < l.length + 1 → r' < R → t' < l.length + 1 → ¬ (r = r' ∧ t = t') → P (rowAt n l r t) (rowAt n l r' t')) → (rowsL n ((l.length + 1 : Nat) : Int) l R).Pairwise P := fun {P} h => by
    rw [List.pairwise_iff_getElem]
    intro i j hi hj hij
    have di : i / (l.length + 1) * (l.length + 1) + i % (l.length + 1) = i := by rw [Nat.mul_comm]; exact Nat.div_add_mod _ _
    have dj : j / (l.length + 1) * (l.length + 1) + j % (l.length + 1) = j := by rw [Nat.mul_comm]; exact Nat.div_add_mod _ _
    have hmi : i % (l.length + 1) < l.length + 1 := Nat.mod_lt _ (by omega)
    have hmj : j % (l.length + 1) < l.length + 1 := Nat.mod_lt _ (by omega)
    obtain ⟨a1, a2⟩ := rows_at n _ l hT (i / (l.length + 1)) _ hmi R _ (by rw [di]; exact List.getElem?_eq_getElem hi)
    obtain ⟨b1, b2⟩ := rows_at n _ l hT (j / (l.length + 1)) _ hmj R _ (by rw [dj]; exact List.getElem?_eq_getElem hj)
    rw [a2, b2]
    refine h _ _ _ _ a1 hmi b1 hmj fun ⟨e1, e2⟩ => ?_
    rw [e1, e2, dj] at di
    omega
  refine ⟨fun x hx => ?_, ?_, fun r s => ?_⟩
  · obtain ⟨w, hw, rfl⟩ := List.mem_map.1 hx
    obtain ⟨r, t, h1, h2, rfl⟩ := hmem w hw
    have := row_bd hg (r := r) (t := t) (by omega) h1
    unfold cvH
    simp only
    omega
  · refine List.pairwise_map.2 (hpw fun r t r' t' h1 h2 h3 h4 hne => ?_)
    have b := row_bd hg (r := r) (t := t) (by omega) h2
    have b' := row_bd hg (r := r') (t := t') (by omega) h4
    unfold apart sitsP cvH
    simp only
    refine ⟨fun e => ?_, fun p hp a a' => ?_, ?_⟩
    · omega
    · refine ⟨fun e => ?_, fun e => hne (same_pair_set hg (by omega) (by omega) h2 h4 (q := p) (by omega) (by omega) e)⟩
      have er : r = r' := by omega
      subst er
      exact hne ⟨rfl, same_pair hg (r := r) (by omega) h2 h4 (q := p) (by omega) (by omega)⟩
    · rintro ⟨_, _, h⟩
      exact hne (same_meet hg (by omega) (by omega) h2 h4 (by omega))
  · rcases hC with ⟨hS, rfl⟩ | rfl
    · have : ((rowsL n ((l.length + 1 : Nat) : Int) l R).map cvH).countP (rsB r s) ≤ 1 := by
        refine countP_one (List.pairwise_map.2 (hpw fun r1 t1 r2 t2 h1 h2 h3 h4 hne => ?_))
        rintro ⟨a, c⟩
        have b := row_bd hg (r := r1) (t := t1) (by omega) h2
        have b' := row_bd hg (r := r2) (t := t2) (by omega) h4
        unfold rsB cvH at a c
        simp only [Bool.and_eq_true, beq_iff_eq] at a c
        have er : r1 = r2 := by omega
        subst er
        rcases Nat.lt_trichotomy t1 t2 with h | h | h
        · exact same_set hg hS (r := r1) (by omega) h4 h (by omega)
        · exact hne ⟨rfl, h⟩
        · exact same_set hg hS (r := r1) (by omega) h2 h (by omega)
      omega
    · clear hpw
      have key : ∀ R : Nat, (R : Int) ≤ n → (∀ r t : Nat, r < R → t < l.length + 1 → (rowAt n l r t).r = r) → ((rowsL n ((l.length + 1 : Nat) : Int) l R).countP (fun w => rsB r s (cvH w))) ≤ l.length + 1 := by
        intro R
        induction R with
        | zero => intro _ _; simp [rowsL]
        | succ R ih =>
          intro hR hr
          rw [rowsL_succ, List.countP_append]
          have hin : ∀ w ∈ innL n ((l.length + 1 : Nat) : Int) l R l.length, w.r = R := fun w hw => by
            obtain ⟨t, ht, e⟩ := List.getElem_of_mem hw
            have ht' : t < l.length + 1 := by rw [innL_length _ _ _ _ _ (Nat.le_refl _)] at ht; exact ht
            have := inn_at n _ l hT R t ht'
            rw [List.getElem?_eq_getElem ht, e] at this
            rw [Option.some.inj this]
            exact hr R t (by omega) ht'
          by_cases e : r = R
          · have h0 : (rowsL n ((l.length + 1 : Nat) : Int) l R).countP (fun w => rsB r s (cvH w)) = 0 := by
              refine List.countP_eq_zero.2 fun w hw hp => ?_
              obtain ⟨r', t', h1, h2, _, h3⟩ := take_mem (k := (rowsL n ((l.length + 1 : Nat) : Int) l R).length) hT (R := R) (by rw [List.take_length]; exact hw)
              have := hr r' t' (by omega) h1
              unfold rsB cvH at hp
              simp only [Bool.and_eq_true, beq_iff_eq] at hp
              rw [h3] at hp
              omega
            have h1 := List.countP_le_length (p := fun w => rsB r s (cvH w)) (l := innL n ((l.length + 1 : Nat) : Int) l R l.length)
            rw [innL_length _ _ _ _ _ (Nat.le_refl _)] at h1
            omega
          · have h0 : (innL n ((l.length + 1 : Nat) : Int) l R l.length).countP (fun w => rsB r s (cvH w)) = 0 := by
              refine List.countP_eq_zero.2 fun w hw hp => ?_
              have := hin w hw
              unfold rsB cvH at hp
              simp only [Bool.and_eq_true, beq_iff_eq] at hp
              omega
            have := ih (by omega) fun r t h1 h2 => hr r t (by omega) h2
            omega
      rw [List.countP_map]
      have := key R hR fun r t h1 h2 => (row_bd hg (r := r) (t := t) (by omega) h2).1
      exact Int.ofNat_le.2 this
end How
end Go.Idl
