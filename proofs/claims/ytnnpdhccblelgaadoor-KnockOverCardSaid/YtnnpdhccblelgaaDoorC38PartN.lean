/-
  Sorting numbers stably (plain).
  Merging stably in place (plain): ranges swapped, turned, merged.
-/
import Derived.Test.YtnnpdhccblelgaaDoorC38PartB
namespace Go.Idl
set_option linter.all false
open Go.Proofs
set_option maxHeartbeats 8000000
set_option maxRecDepth 40000

def nts (l : List Nat) : List (List IV) := mp (fun n : Nat => [.int .i64 (n : Int)]) l
@[simp] theorem nts_length (l : List Nat) : (nts l).length = l.length := mp_length
@[simp] theorem nts_getElem (l : List Nat) (i : Nat) (h : i < (nts l).length) : (nts l)[i] = [.int .i64 ((l[i]'(by simpa using h) : Nat) : Int)] := by simp [nts, mp]
theorem nts_snoc {l : List Nat} {x : Nat} : nts (l ++ [x]) = nts l ++ [[.int .i64 (x : Int)]] := mp_snoc
@[go_sem] theorem nts_nil : nts [] = [] := rfl
@[go_sem] theorem ScR_nts {l : List Nat} : ScR (nts l) = True := eq_true (mp_sc (by simp [scal]))
@[go_sem] theorem ClR_nts {l : List Nat} : ClR (nts l) = True := eq_true (ScR.cl (mp_sc (by simp [scal])))
@[go_sem] theorem BlR_nts {n : Nat} {l : List Nat} : BlR n (nts l) = True := eq_true (ScR.bl (mp_sc (by simp [scal])))
theorem nts_set {l : List Nat} {i x : Nat} : nts (l.set i x) = (nts l).set i [.int .i64 (x : Int)] := mp_set
theorem nts_at {l : List Nat} {i : Nat} (h : i < l.length) : (nts l)[i]?.getD [] = [.int .i64 ((l.getD i 0 : Nat) : Int)] := by
  rw [List.getElem?_eq_getElem (by simpa using h), Option.getD_some, nts_getElem]
  simp [h]

/-- One comes before the other: by two keys, then by the number itself. -/
def lx (K1 K2 : Nat → Int) (a b : Nat) : Prop := K1 a < K1 b ∨ K1 a = K1 b ∧ (K2 a < K2 b ∨ K2 a = K2 b ∧ a < b)
theorem lx_trans {K1 K2 : Nat → Int} {a b c : Nat} (h : lx K1 K2 a b) (h' : lx K1 K2 b c) : lx K1 K2 a c := by unfold lx at *; omega
theorem lx_total {K1 K2 : Nat → Int} {a b : Nat} (h : a ≠ b) (h' : ¬ lx K1 K2 a b) : lx K1 K2 b a := by unfold lx at *; omega
theorem lx_irr {K1 K2 : Nat → Int} {a : Nat} : ¬ lx K1 K2 a a := by unfold lx; omega
def swapN (A : List Nat) (k : Nat) : List Nat := (A.set k (A.getD (k - 1) 0)).set (k - 1) (A.getD k 0)
@[simp] theorem swapN_length (A : List Nat) (k : Nat) : (swapN A k).length = A.length := by simp [swapN]
theorem swapN_getD {A : List Nat} {k j : Nat} (h1 : 1 ≤ k) (hk : k < A.length) : (swapN A k).getD j 0 = if j = k - 1 then A.getD k 0 else if j = k then A.getD (k - 1) 0 else A.getD j 0 := by
  unfold swapN
  simp only [List.getD_eq_getElem?_getD, List.getElem?_set, List.length_set]
  by_cases h2 : j = k - 1
  · rw [if_pos h2.symm, if_pos (by omega), if_pos h2]; rfl
  · rw [if_neg (fun e => h2 e.symm), if_neg h2]
    by_cases h3 : j = k
    · rw [if_pos h3.symm, if_pos (by omega), if_pos h3]; rfl
    · rw [if_neg (fun e => h3 e.symm), if_neg h3]
theorem swapN_perm {A : List Nat} {k : Nat} (h1 : 1 ≤ k) (hk : k < A.length) : (swapN A k).Perm A := by
  have hj : k - 1 < A.length := by omega
  have := List.set_set_perm hk hj
  unfold swapN
  rwa [show A.getD (k - 1) 0 = A[k - 1] by simp [show k - 1 < A.length by omega], show A.getD k 0 = A[k] by simp [hk]]
/-- A piece of a list put in order. -/
structure SegS (K1 K2 : Nat → Int) (A0 : List Nat) (lo hi : Nat) (A : List Nat) : Prop where
  len : A.length = A0.length
  perm : A.Perm A0
  out : ∀ x, (x < lo ∨ hi ≤ x) → A.getD x 0 = A0.getD x 0
  frm : ∀ x, lo ≤ x → x < hi → ∃ y, lo ≤ y ∧ y < hi ∧ A.getD x 0 = A0.getD y 0
  srt : ∀ x y, lo ≤ x → x < y → y < hi → lx K1 K2 (A.getD x 0) (A.getD y 0)
/-- A piece that increases. -/
def AscN (A : List Nat) (lo hi : Nat) : Prop := ∀ x y, lo ≤ x → x < y → y < hi → A.getD x 0 < A.getD y 0
/-- In order as far as i, but for the one at k. -/
structure InsN (K1 K2 : Nat → Int) (A0 : List Nat) (lo i k : Nat) (A : List Nat) : Prop where
  len : A.length = A0.length
  perm : A.Perm A0
  out : ∀ x, (x < lo ∨ i < x) → A.getD x 0 = A0.getD x 0
  frm : ∀ x, lo ≤ x → x ≤ i → ∃ y, lo ≤ y ∧ y ≤ i ∧ A.getD x 0 = A0.getD y 0
  srt : ∀ x y, lo ≤ x → x < y → y ≤ i → y ≠ k → lx K1 K2 (A.getD x 0) (A.getD y 0)
  big : ∀ x, lo ≤ x → x ≤ i → x ≠ k → A.getD x 0 < A.getD k 0
variable {K1 K2 : Nat → Int} {A0 A : List Nat} {lo hi i k : Nat}
theorem SegS.one : SegS K1 K2 A0 lo (lo + 1) A0 := ⟨rfl, .refl _, fun _ _ => rfl, fun x h1 h2 => ⟨x, h1, h2, rfl⟩, fun x y h1 h2 h3 => by omega⟩
theorem SegS.ins (h : SegS K1 K2 A0 lo i A) (ha : AscN A0 lo hi) (hli : lo ≤ i) (hi' : i < hi) : InsN K1 K2 A0 lo i i A where
  len := h.len
  perm := h.perm
  out := fun x hx => h.out x (by omega)
  frm := fun x h1 h2 => by
    by_cases hx : x < i
    · obtain ⟨y, y1, y2, y3⟩ := h.frm x h1 hx
      exact ⟨y, y1, by omega, y3⟩
    · exact ⟨x, h1, h2, h.out x (by omega)⟩
  srt := fun x y h1 h2 h3 h4 => h.srt x y h1 h2 (by omega)
  big := fun x h1 h2 h3 => by
    obtain ⟨y, y1, y2, y3⟩ := h.frm x h1 (by omega)
    rw [y3, h.out i (by omega)]
    exact ha y i y1 y2 hi'
theorem InsN.step (h : InsN K1 K2 A0 lo i k A) (h1 : lo < k) (hki : k ≤ i) (hi' : i < A.length) (hlt : lx K1 K2 (A.getD k 0) (A.getD (k - 1) 0)) : InsN K1 K2 A0 lo i (k - 1) (swapN A k) where
  len := by rw [swapN_length, h.len]
  perm := (swapN_perm (by omega) (by omega)).trans h.perm
  out := fun x hx => by
    rw [swapN_getD (by omega) (by omega), if_neg (by omega), if_neg (by omega)]
    exact h.out x hx
  frm := fun x x1 x2 => by
    rw [swapN_getD (by omega) (by omega)]
    split
    · exact h.frm k (by omega) hki
    · split
      · exact h.frm (k - 1) (by omega) (by omega)
      · exact h.frm x x1 x2
  srt := fun x y x1 hxy hyi hyk => by
    rw [swapN_getD (by omega) (by omega), swapN_getD (by omega) (by omega), if_neg hyk]
    by_cases hb : y = k
    · rw [if_pos hb]
      by_cases ha : x = k - 1
      · rw [if_pos ha]; exact hlt
      · rw [if_neg ha, if_neg (by omega)]; exact h.srt x (k - 1) x1 (by omega) (by omega) (by omega)
    · rw [if_neg hb]
      by_cases ha : x = k - 1
      · rw [if_pos ha]; exact h.srt k y (by omega) (by omega) hyi hb
      · rw [if_neg ha]
        by_cases ha2 : x = k
        · rw [if_pos ha2]; exact h.srt (k - 1) y (by omega) (by omega) hyi hb
        · rw [if_neg ha2]; exact h.srt x y x1 hxy hyi hb
  big := fun x x1 x2 x3 => by
    rw [swapN_getD (by omega) (by omega), swapN_getD (by omega) (by omega), if_neg x3, if_pos rfl]
    split
    · exact h.big (k - 1) (by omega) (by omega) (by omega)
    · exact h.big x x1 x2 (by omega)
theorem InsN.low (h : InsN K1 K2 A0 lo i lo A) : SegS K1 K2 A0 lo (i + 1) A :=
  ⟨h.len, h.perm, fun x hx => h.out x (by omega), fun x h1 h2 => by
    obtain ⟨y, y1, y2, y3⟩ := h.frm x h1 (by omega)
    exact ⟨y, y1, by omega, y3⟩, fun x y h1 h2 h3 => h.srt x y h1 h2 (by omega) (by omega)⟩
theorem InsN.stop (h : InsN K1 K2 A0 lo i k A) (h1 : lo < k) (hki : k ≤ i) (hge : ¬ lx K1 K2 (A.getD k 0) (A.getD (k - 1) 0)) : SegS K1 K2 A0 lo (i + 1) A :=
  ⟨h.len, h.perm, fun x hx => h.out x (by omega), fun x h1 h2 => by
    obtain ⟨y, y1, y2, y3⟩ := h.frm x h1 (by omega)
    exact ⟨y, y1, by omega, y3⟩, fun x y x1 hxy hy => by
    have hb := h.big (k - 1) (by omega) (by omega) (by omega)
    have hg := lx_total (by omega) hge
    by_cases hyk : y = k
    · subst hyk
      by_cases ha : x = y - 1
      · subst ha; exact hg
      · exact lx_trans (h.srt x (y - 1) x1 (by omega) (by omega) (by omega)) hg
    · exact h.srt x y x1 hxy (by omega) hyk⟩
end Go.Idl
namespace Go.Idl
set_option linter.all false
open Go.Proofs
set_option maxHeartbeats 8000000
set_option maxRecDepth 40000

def swap2 (A : List Nat) (i j : Nat) : List Nat := (A.set i (A.getD j 0)).set j (A.getD i 0)
@[simp] theorem swap2_length (A : List Nat) (i j : Nat) : (swap2 A i j).length = A.length := by simp [swap2]
theorem swap2_getD {A : List Nat} {i j x : Nat} (hi : i < A.length) (hj : j < A.length) : (swap2 A i j).getD x 0 = if x = j then A.getD i 0 else if x = i then A.getD j 0 else A.getD x 0 := by
  unfold swap2
  simp only [List.getD_eq_getElem?_getD, List.getElem?_set, List.length_set]
  by_cases h2 : x = j
  · rw [if_pos h2.symm, if_pos (by omega), if_pos h2]; rfl
  · rw [if_neg (fun e => h2 e.symm), if_neg h2]
    by_cases h3 : x = i
    · rw [if_pos h3.symm, if_pos (by omega), if_pos h3]; rfl
    · rw [if_neg (fun e => h3 e.symm), if_neg h3]
theorem swap2_perm {A : List Nat} {i j : Nat} (hi : i < A.length) (hj : j < A.length) : (swap2 A i j).Perm A := by
  have := List.set_set_perm hi hj
  unfold swap2
  rwa [show A.getD j 0 = A[j] by simp [hj], show A.getD i 0 = A[i] by simp [hi]]
/-- Two ranges swapped. -/
structure Swp (A : List Nat) (a b n : Nat) (B : List Nat) : Prop where
  len : B.length = A.length
  perm : B.Perm A
  fst : ∀ x, x < n → B.getD (a + x) 0 = A.getD (b + x) 0
  snd : ∀ x, x < n → B.getD (b + x) 0 = A.getD (a + x) 0
  out : ∀ x, (x < a ∨ a + n ≤ x) → (x < b ∨ b + n ≤ x) → B.getD x 0 = A.getD x 0
theorem Swp.zero {A : List Nat} {a b : Nat} : Swp A a b 0 A := ⟨rfl, .refl _, fun x h => by omega, fun x h => by omega, fun x _ _ => rfl⟩
theorem Swp.step {A B : List Nat} {a b n : Nat} (h : Swp A a b n B) (h1 : a + n < b) (h2 : b + n < A.length) : Swp A a b (n + 1) (swap2 B (a + n) (b + n)) := by
  have hl := h.len
  have g : ∀ x, (swap2 B (a + n) (b + n)).getD x 0 = if x = b + n then B.getD (a + n) 0 else if x = a + n then B.getD (b + n) 0 else B.getD x 0 := fun x => swap2_getD (by omega) (by omega)
  refine ⟨by simp [hl], (swap2_perm (by omega) (by omega)).trans h.perm, fun x hx => ?_, fun x hx => ?_, fun x hx hy => ?_⟩
  · rw [g]
    by_cases e : x = n
    · subst e
      rw [if_neg (by omega), if_pos rfl]
      exact h.out _ (by omega) (by omega)
    · rw [if_neg (by omega), if_neg (by omega)]
      exact h.fst x (by omega)
  · rw [g]
    by_cases e : x = n
    · subst e
      rw [if_pos rfl]
      exact h.out _ (by omega) (by omega)
    · rw [if_neg (by omega), if_neg (by omega)]
      exact h.snd x (by omega)
  · rw [g, if_neg (by omega), if_neg (by omega)]
    exact h.out x (by omega) (by omega)
/-- The range from a to m comes behind the one from m to b. -/
structure Rot (A : List Nat) (a m b : Nat) (B : List Nat) : Prop where
  len : B.length = A.length
  perm : B.Perm A
  fst : ∀ x, m + x < b → B.getD (a + x) 0 = A.getD (m + x) 0
  snd : ∀ x, a + x < m → B.getD (a + (b - m) + x) 0 = A.getD (a + x) 0
  out : ∀ x, (x < a ∨ b ≤ x) → B.getD x 0 = A.getD x 0
theorem Rot.left {A : List Nat} {a m : Nat} : Rot A a m m A := ⟨rfl, .refl _, fun x h => by omega, fun x h => by rw [Nat.sub_self, Nat.add_zero], fun x _ => rfl⟩
theorem Rot.right {A : List Nat} {m b : Nat} : Rot A m m b A := ⟨rfl, .refl _, fun x h => rfl, fun x h => by omega, fun x _ => rfl⟩
theorem Swp.rot {A B : List Nat} {m i : Nat} (h : Swp A (m - i) m i B) (hi : i ≤ m) : Rot A (m - i) m (m + i) B :=
  ⟨h.len, h.perm, fun x hx => h.fst x (by omega), fun x hx => by
    rw [show m - i + (m + i - m) + x = m + x by omega]
    exact h.snd x (by omega), fun x hx => h.out x (by omega) (by omega)⟩
theorem Rot.big {A B C : List Nat} {m i j : Nat} (hij : j < i) (him : i ≤ m) (h : Swp A (m - i) m j B) (hr : Rot B (m - (i - j)) m (m + j) C) : Rot A (m - i) m (m + j) C := by
  refine ⟨hr.len.trans h.len, hr.perm.trans h.perm, fun x hx => ?_, fun x hx => ?_, fun x hx => ?_⟩
  · rw [hr.out _ (by omega)]
    exact h.fst x (by omega)
  · by_cases hx2 : x < j
    · have := hr.fst x (by omega)
      rw [show m - (i - j) + x = m - i + (m + j - m) + x by omega] at this
      rw [this]
      exact h.snd x hx2
    · have := hr.snd (x - j) (by omega)
      rw [show m - (i - j) + (m + j - m) + (x - j) = m - i + (m + j - m) + x by omega, show m - (i - j) + (x - j) = m - i + x by omega] at this
      rw [this]
      exact h.out _ (by omega) (by omega)
  · rw [hr.out _ (by omega)]
    exact h.out _ (by omega) (by omega)
theorem Rot.small {A B C : List Nat} {m i j : Nat} (hij : i < j) (him : i ≤ m) (h : Swp A (m - i) (m + j - i) i B) (hr : Rot B (m - i) m (m + (j - i)) C) : Rot A (m - i) m (m + j) C := by
  refine ⟨hr.len.trans h.len, hr.perm.trans h.perm, fun x hx => ?_, fun x hx => ?_, fun x hx => ?_⟩
  · by_cases hx2 : x < j - i
    · rw [hr.fst x (by omega)]
      exact h.out _ (by omega) (by omega)
    · have := hr.snd (x - (j - i)) (by omega)
      rw [show m - i + (m + (j - i) - m) + (x - (j - i)) = m - i + x by omega] at this
      rw [this, h.fst _ (by omega)]
      rw [show m + j - i + (x - (j - i)) = m + x by omega]
  · rw [hr.out _ (by omega)]
    have := h.snd x (by omega)
    rw [show m - i + (m + j - m) + x = m + j - i + x by omega]
    exact this
  · rw [hr.out _ (by omega)]
    exact h.out _ (by omega) (by omega)
theorem Rot.up {A B : List Nat} {a k : Nat} (h : Rot A a (a + 1) (k + 1) B) (hak : a ≤ k) (hk : k + 1 < A.length) : Rot A a (a + 1) (k + 2) (swap2 B k (k + 1)) := by
  have hl := h.len
  have g : ∀ x, (swap2 B k (k + 1)).getD x 0 = if x = k + 1 then B.getD k 0 else if x = k then B.getD (k + 1) 0 else B.getD x 0 := fun x => swap2_getD (by omega) (by omega)
  refine ⟨by simp [hl], (swap2_perm (by omega) (by omega)).trans h.perm, fun x hx => ?_, fun x hx => ?_, fun x hx => ?_⟩
  · rw [g, if_neg (by omega)]
    by_cases e : a + x = k
    · rw [if_pos e, h.out _ (by omega), show a + 1 + x = k + 1 by omega]
    · rw [if_neg e]
      exact h.fst x (by omega)
  · obtain rfl : x = 0 := by omega
    rw [g, if_pos (by omega)]
    have := h.snd 0 (by omega)
    rw [show a + (k + 1 - (a + 1)) + 0 = k by omega] at this
    exact this
  · rw [g, if_neg (by omega), if_neg (by omega)]
    exact h.out x (by omega)
theorem Rot.down {A B : List Nat} {m k : Nat} (h : Rot A k m (m + 1) B) (h0 : 0 < k) (hk : k ≤ m) (hm : m < A.length) : Rot A (k - 1) m (m + 1) (swap2 B k (k - 1)) := by
  have hl := h.len
  have g : ∀ x, (swap2 B k (k - 1)).getD x 0 = if x = k - 1 then B.getD k 0 else if x = k then B.getD (k - 1) 0 else B.getD x 0 := fun x => swap2_getD (by omega) (by omega)
  refine ⟨by simp [hl], (swap2_perm (by omega) (by omega)).trans h.perm, fun x hx => ?_, fun x hx => ?_, fun x hx => ?_⟩
  · obtain rfl : x = 0 := by omega
    rw [g, if_pos (by omega)]
    exact h.fst 0 (by omega)
  · rw [g, if_neg (by omega)]
    by_cases e : x = 0
    · subst e
      rw [if_pos (by omega), h.out _ (by omega)]
      rfl
    · rw [if_neg (by omega)]
      have := h.snd (x - 1) (by omega)
      rw [show k + (m + 1 - m) + (x - 1) = k - 1 + (m + 1 - m) + x by omega, show k + (x - 1) = k - 1 + x by omega] at this
      exact this
  · rw [g, if_neg (by omega), if_neg (by omega)]
    exact h.out x (by omega)
/-- Two pieces in order; all numbers of the first are less than those of the second. -/
structure Two (K1 K2 : Nat → Int) (A : List Nat) (a m b : Nat) : Prop where
  s1 : ∀ x y, a ≤ x → x < y → y < m → lx K1 K2 (A.getD x 0) (A.getD y 0)
  s2 : ∀ x y, m ≤ x → x < y → y < b → lx K1 K2 (A.getD x 0) (A.getD y 0)
  lt : ∀ x y, a ≤ x → x < m → m ≤ y → y < b → A.getD x 0 < A.getD y 0
variable {K1 K2 : Nat → Int} {A B C D : List Nat} {a m b : Nat}
theorem Two.none (h : Two K1 K2 A a m b) (hm : m ≤ a ∨ b ≤ m) : SegS K1 K2 A a b A :=
  ⟨rfl, .refl _, fun _ _ => rfl, fun x h1 h2 => ⟨x, h1, h2, rfl⟩, fun x y h1 h2 h3 => by
    rcases hm with hm | hm
    · exact h.s2 x y (by omega) h2 h3
    · exact h.s1 x y h1 h2 (by omega)⟩
theorem Two.less (h : Two K1 K2 A a m b) {c d c' d' : Nat} (h1 : a ≤ c) (h2 : c ≤ c') (h3 : c' < m) (h4 : m ≤ d') (h5 : d' ≤ d) (h6 : d < b) (hn : ¬ lx K1 K2 (A.getD d' 0) (A.getD c' 0)) : ¬ lx K1 K2 (A.getD d 0) (A.getD c 0) := fun hl => by
  have k1 : lx K1 K2 (A.getD c' 0) (A.getD d' 0) := lx_total (by have := h.lt c' d' (by omega) h3 h4 (by omega); omega) hn
  have k2 : c = c' ∨ lx K1 K2 (A.getD c 0) (A.getD c' 0) := by
    by_cases e : c = c'
    · exact .inl e
    · exact .inr (h.s1 c c' h1 (by omega) h3)
  have k3 : d' = d ∨ lx K1 K2 (A.getD d' 0) (A.getD d 0) := by
    by_cases e : d' = d
    · exact .inl e
    · exact .inr (h.s2 d' d h4 (by omega) h6)
  have k4 : lx K1 K2 (A.getD c 0) (A.getD d' 0) := by
    rcases k2 with rfl | k2
    · exact k1
    · exact lx_trans k2 k1
  have k5 : lx K1 K2 (A.getD c 0) (A.getD d 0) := by
    rcases k3 with rfl | k3
    · exact k4
    · exact lx_trans k4 k3
  exact lx_irr (lx_trans hl k5)
theorem Two.le (h : Two K1 K2 A a m b) {c d c' d' : Nat} (h1 : a ≤ c) (h2 : c ≤ c') (h3 : c' < m) (h4 : m ≤ d') (h5 : d' ≤ d) (h6 : d < b) (hl : lx K1 K2 (A.getD d 0) (A.getD c 0)) : lx K1 K2 (A.getD d' 0) (A.getD c' 0) :=
  Classical.byContradiction fun hn => h.less h1 h2 h3 h4 h5 h6 hn hl
theorem Two.flip (h : Two K1 K2 A a m b) {c d : Nat} (h1 : a ≤ c) (h3 : c < m) (h4 : m ≤ d) (h6 : d < b) (hn : ¬ lx K1 K2 (A.getD d 0) (A.getD c 0)) : lx K1 K2 (A.getD c 0) (A.getD d 0) :=
  lx_total (by have := h.lt c d h1 h3 h4 h6; omega) hn
theorem Two.keep (h : Two K1 K2 A a m b) (ham : a ≤ m) (hmb : m ≤ b) (he : ∀ x, a ≤ x → x < b → B.getD x 0 = A.getD x 0) : Two K1 K2 B a m b :=
  ⟨fun x y x1 hxy hy => by rw [he x x1 (by omega), he y (by omega) (by omega)]; exact h.s1 x y x1 hxy hy,
    fun x y x1 hxy hy => by rw [he x (by omega) (by omega), he y (by omega) (by omega)]; exact h.s2 x y x1 hxy hy,
    fun x y x1 x2 y1 y2 => by rw [he x x1 (by omega), he y (by omega) y2]; exact h.lt x y x1 x2 y1 y2⟩
/-- One against many. -/
theorem Two.one1 {i : Nat} (h : Two K1 K2 A a (a + 1) b) (hi : a + 1 ≤ i ∧ i ≤ b) (h1 : ∀ y, a + 1 ≤ y → y < i → lx K1 K2 (A.getD y 0) (A.getD a 0)) (h2 : ∀ y, i ≤ y → y < b → ¬ lx K1 K2 (A.getD y 0) (A.getD a 0)) (hr : Rot A a (a + 1) i B) : SegS K1 K2 A a b B := by
  have g : ∀ x, a ≤ x → x < b → ∃ y, (x + 1 < i ∧ y = x + 1 ∨ x + 1 = i ∧ y = a ∨ i ≤ x ∧ y = x) ∧ B.getD x 0 = A.getD y 0 := fun x h1 h2 => by
    by_cases c1 : x + 1 < i
    · refine ⟨x + 1, .inl ⟨c1, rfl⟩, ?_⟩
      have := hr.fst (x - a) (by omega)
      rwa [show a + (x - a) = x by omega, show a + 1 + (x - a) = x + 1 by omega] at this
    · by_cases c2 : x + 1 = i
      · refine ⟨a, .inr (.inl ⟨c2, rfl⟩), ?_⟩
        have := hr.snd 0 (by omega)
        rwa [show a + (i - (a + 1)) + 0 = x by omega] at this
      · exact ⟨x, .inr (.inr ⟨by omega, rfl⟩), hr.out x (by omega)⟩
  refine ⟨hr.len, hr.perm, fun x hx => hr.out x (by omega), fun x x1 x2 => ?_, fun x y x1 hxy hy => ?_⟩
  · obtain ⟨y, hy, e⟩ := g x x1 x2
    exact ⟨y, by omega, by omega, e⟩
  · obtain ⟨u, hu, eu⟩ := g x x1 (by omega)
    obtain ⟨v, hv, ev⟩ := g y (by omega) hy
    rw [eu, ev]
    rcases hu with ⟨u1, rfl⟩ | ⟨u1, rfl⟩ | ⟨u1, rfl⟩
    · rcases hv with ⟨v1, rfl⟩ | ⟨v1, rfl⟩ | ⟨v1, rfl⟩
      · exact h.s2 _ _ (by omega) (by omega) (by omega)
      · exact h1 _ (by omega) (by omega)
      · exact h.s2 _ _ (by omega) (by omega) (by omega)
    · rcases hv with ⟨v1, rfl⟩ | ⟨v1, rfl⟩ | ⟨v1, rfl⟩
      · omega
      · omega
      · exact h.flip (by omega) (by omega) (by omega) (by omega) (h2 _ (by omega) (by omega))
    · rcases hv with ⟨v1, rfl⟩ | ⟨v1, rfl⟩ | ⟨v1, rfl⟩
      · omega
      · omega
      · exact h.s2 _ _ (by omega) (by omega) (by omega)
theorem Two.one2 {i : Nat} (h : Two K1 K2 A a m (m + 1)) (hi : a ≤ i ∧ i ≤ m) (h1 : ∀ y, a ≤ y → y < i → ¬ lx K1 K2 (A.getD m 0) (A.getD y 0)) (h2 : ∀ y, i ≤ y → y < m → lx K1 K2 (A.getD m 0) (A.getD y 0)) (hr : Rot A i m (m + 1) B) : SegS K1 K2 A a (m + 1) B := by
  have g : ∀ x, a ≤ x → x < m + 1 → ∃ y, (x < i ∧ y = x ∨ x = i ∧ y = m ∨ i < x ∧ y + 1 = x) ∧ B.getD x 0 = A.getD y 0 := fun x h1 h2 => by
    by_cases c1 : x < i
    · exact ⟨x, .inl ⟨c1, rfl⟩, hr.out x (by omega)⟩
    · by_cases c2 : x = i
      · refine ⟨m, .inr (.inl ⟨c2, rfl⟩), ?_⟩
        have := hr.fst 0 (by omega)
        rwa [show i + 0 = x by omega] at this
      · refine ⟨x - 1, .inr (.inr ⟨by omega, by omega⟩), ?_⟩
        have := hr.snd (x - 1 - i) (by omega)
        rwa [show i + (m + 1 - m) + (x - 1 - i) = x by omega, show i + (x - 1 - i) = x - 1 by omega] at this
  refine ⟨hr.len, hr.perm, fun x hx => hr.out x (by omega), fun x x1 x2 => ?_, fun x y x1 hxy hy => ?_⟩
  · obtain ⟨y, hy, e⟩ := g x x1 x2
    exact ⟨y, by omega, by omega, e⟩
  · obtain ⟨u, hu, eu⟩ := g x x1 (by omega)
    obtain ⟨v, hv, ev⟩ := g y (by omega) hy
    rw [eu, ev]
    rcases hu with ⟨u1, rfl⟩ | ⟨u1, rfl⟩ | ⟨u1, u2⟩
    · rcases hv with ⟨v1, rfl⟩ | ⟨v1, rfl⟩ | ⟨v1, v2⟩
      · exact h.s1 _ _ (by omega) (by omega) (by omega)
      · exact h.flip (by omega) (by omega) (by omega) (by omega) (h1 _ (by omega) (by omega))
      · exact h.s1 _ _ (by omega) (by omega) (by omega)
    · rcases hv with ⟨v1, rfl⟩ | ⟨v1, rfl⟩ | ⟨v1, v2⟩
      · omega
      · omega
      · exact h2 _ (by omega) (by omega)
    · rcases hv with ⟨v1, rfl⟩ | ⟨v1, rfl⟩ | ⟨v1, v2⟩
      · omega
      · omega
      · exact h.s1 _ _ (by omega) (by omega) (by omega)
/-- Two pieces cut at one place each: the lesser parts in front. -/
theorem Two.cut {n mid s s0 r0 : Nat} (h : Two K1 K2 A a m b) (ham : a < m) (hmb : m < b) (hmid : mid = (a + b) / 2) (hn : n = mid + m)
    (hc : m > mid ∧ s0 = n - b ∧ r0 = mid ∨ m ≤ mid ∧ s0 = a ∧ r0 = m) (hs : s0 ≤ s ∧ s ≤ r0)
    (h1 : ∀ c, s0 ≤ c → c < s → ¬ lx K1 K2 (A.getD (n - 1 - c) 0) (A.getD c 0)) (h2 : ∀ c, s ≤ c → c < r0 → lx K1 K2 (A.getD (n - 1 - c) 0) (A.getD c 0))
    (hr : Rot A s m (n - s) B) : Two K1 K2 B a s mid ∧ Two K1 K2 B mid (n - s) b ∧ ∀ C D, SegS K1 K2 B a mid C → SegS K1 K2 C mid b D → SegS K1 K2 A a b D := by
  have g : ∀ x, a ≤ x → x < b → ∃ y, (x < s ∧ y = x ∨ s ≤ x ∧ x < mid ∧ y + s = m + x ∨ mid ≤ x ∧ x < n - s ∧ y + mid = s + x ∨ n - s ≤ x ∧ y = x) ∧ B.getD x 0 = A.getD y 0 := fun x h1 h2 => by
    by_cases c1 : x < s
    · exact ⟨x, .inl ⟨c1, rfl⟩, hr.out x (by omega)⟩
    · by_cases c2 : x < mid
      · refine ⟨m + (x - s), .inr (.inl ⟨by omega, c2, by omega⟩), ?_⟩
        have := hr.fst (x - s) (by omega)
        rwa [show s + (x - s) = x by omega] at this
      · by_cases c3 : x < n - s
        · refine ⟨s + (x - mid), .inr (.inr (.inl ⟨by omega, c3, by omega⟩)), ?_⟩
          have := hr.snd (x - mid) (by omega)
          rwa [show s + (n - s - m) + (x - mid) = x by omega] at this
        · exact ⟨x, .inr (.inr (.inr ⟨by omega, rfl⟩)), hr.out x (by omega)⟩
  have ok : ∀ c, s0 ≤ c → c < r0 → a ≤ c ∧ c < m ∧ m ≤ n - 1 - c ∧ n - 1 - c < b := fun c c1 c2 => by omega
  have LR : ∀ u v, a ≤ u → u < s → n - s ≤ v → v < b → lx K1 K2 (A.getD u 0) (A.getD v 0) := fun u v u1 u2 v1 v2 => by
    by_cases e : s0 < s
    · obtain ⟨o1, o2, o3, o4⟩ := ok (s - 1) (by omega) (by omega)
      have := h.less (c := u) (d := v) (c' := s - 1) (d' := n - 1 - (s - 1)) u1 (by omega) o2 o3 (by omega) v2 (h1 (s - 1) (by omega) (by omega))
      exact h.flip u1 (by omega) (by omega) v2 this
    · omega
  have RL : ∀ u v, m ≤ u → u < n - s → s ≤ v → v < m → lx K1 K2 (A.getD u 0) (A.getD v 0) := fun u v u1 u2 v1 v2 => by
    by_cases e : s < r0
    · obtain ⟨o1, o2, o3, o4⟩ := ok s (by omega) (by omega)
      exact h.le (c := s) (d := n - 1 - s) o1 v1 v2 u1 (by omega) o4 (h2 s (by omega) e)
    · omega
  have half : ∀ x y, a ≤ x → x < mid → mid ≤ y → y < b → lx K1 K2 (B.getD x 0) (B.getD y 0) := fun x y x1 x2 y1 y2 => by
    obtain ⟨u, hu, eu⟩ := g x x1 (by omega)
    obtain ⟨v, hv, ev⟩ := g y (by omega) y2
    rw [eu, ev]
    rcases hu with ⟨u1, rfl⟩ | ⟨u1, u2, u3⟩ | ⟨u1, u2, u3⟩ | ⟨u1, rfl⟩
    · rcases hv with ⟨v1, rfl⟩ | ⟨v1, v2, v3⟩ | ⟨v1, v2, v3⟩ | ⟨v1, rfl⟩
      · omega
      · omega
      · exact h.s1 _ _ (by omega) (by omega) (by omega)
      · exact LR _ _ (by omega) (by omega) (by omega) (by omega)
    · rcases hv with ⟨v1, rfl⟩ | ⟨v1, v2, v3⟩ | ⟨v1, v2, v3⟩ | ⟨v1, rfl⟩
      · omega
      · omega
      · exact RL _ _ (by omega) (by omega) (by omega) (by omega)
      · exact h.s2 _ _ (by omega) (by omega) (by omega)
    · omega
    · omega
  refine ⟨⟨fun x y x1 hxy hy => ?_, fun x y x1 hxy hy => ?_, fun x y x1 x2 y1 y2 => ?_⟩, ⟨fun x y x1 hxy hy => ?_, fun x y x1 hxy hy => ?_, fun x y x1 x2 y1 y2 => ?_⟩, fun C D hC hD => ?_⟩
  · obtain ⟨u, hu, eu⟩ := g x (by omega) (by omega)
    obtain ⟨v, hv, ev⟩ := g y (by omega) (by omega)
    rw [eu, ev]
    exact h.s1 _ _ (by omega) (by omega) (by omega)
  · obtain ⟨u, hu, eu⟩ := g x (by omega) (by omega)
    obtain ⟨v, hv, ev⟩ := g y (by omega) (by omega)
    rw [eu, ev]
    exact h.s2 _ _ (by omega) (by omega) (by omega)
  · obtain ⟨u, hu, eu⟩ := g x (by omega) (by omega)
    obtain ⟨v, hv, ev⟩ := g y (by omega) (by omega)
    rw [eu, ev]
    exact h.lt _ _ (by omega) (by omega) (by omega) (by omega)
  · obtain ⟨u, hu, eu⟩ := g x (by omega) (by omega)
    obtain ⟨v, hv, ev⟩ := g y (by omega) (by omega)
    rw [eu, ev]
    exact h.s1 _ _ (by omega) (by omega) (by omega)
  · obtain ⟨u, hu, eu⟩ := g x (by omega) (by omega)
    obtain ⟨v, hv, ev⟩ := g y (by omega) (by omega)
    rw [eu, ev]
    exact h.s2 _ _ (by omega) (by omega) (by omega)
  · obtain ⟨u, hu, eu⟩ := g x (by omega) (by omega)
    obtain ⟨v, hv, ev⟩ := g y (by omega) (by omega)
    rw [eu, ev]
    exact h.lt _ _ (by omega) (by omega) (by omega) (by omega)
  · have gD : ∀ x, a ≤ x → x < b → ∃ y, (a ≤ y ∧ y < b ∧ (x < mid ↔ y < mid)) ∧ D.getD x 0 = B.getD y 0 := fun x x1 x2 => by
      by_cases c : x < mid
      · rw [hD.out x (by omega)]
        obtain ⟨y, y1, y2, y3⟩ := hC.frm x x1 c
        exact ⟨y, by omega, y3⟩
      · obtain ⟨y, y1, y2, y3⟩ := hD.frm x (by omega) x2
        exact ⟨y, by omega, by rw [y3, hC.out y (by omega)]⟩
    refine ⟨hD.len.trans (hC.len.trans hr.len), hD.perm.trans (hC.perm.trans hr.perm), fun x hx => ?_, fun x x1 x2 => ?_, fun x y x1 hxy hy => ?_⟩
    · rw [hD.out x (by omega), hC.out x (by omega), hr.out x (by omega)]
    · obtain ⟨y, hy, e⟩ := gD x x1 x2
      obtain ⟨z, hz, e'⟩ := g y hy.1 hy.2.1
      exact ⟨z, by omega, by omega, by rw [e, e']⟩
    · by_cases c1 : y < mid
      · rw [hD.out x (by omega), hD.out y (by omega)]
        exact hC.srt x y x1 hxy c1
      · by_cases c2 : mid ≤ x
        · exact hD.srt x y c2 hxy hy
        · obtain ⟨u, hu, eu⟩ := gD x x1 (by omega)
          obtain ⟨v, hv, ev⟩ := gD y (by omega) hy
          rw [eu, ev]
          exact half u v (by omega) (by omega) (by omega) (by omega)
/-- A block in order, of the numbers of its places. -/
structure Blk (K1 K2 : Nat → Int) (A : List Nat) (lo hi : Nat) : Prop where
  srt : ∀ x y, lo ≤ x → x < y → y < hi → lx K1 K2 (A.getD x 0) (A.getD y 0)
  own : ∀ x, lo ≤ x → x < hi → lo ≤ A.getD x 0 ∧ A.getD x 0 < hi
theorem Blk.two (h : Blk K1 K2 A a m) (h' : Blk K1 K2 A m b) : Two K1 K2 A a m b :=
  ⟨h.srt, h'.srt, fun x y x1 x2 y1 y2 => by
    have := h.own x x1 x2
    have := h'.own y y1 y2
    omega⟩
theorem Blk.seg (h : SegS K1 K2 A a b B) (ho : ∀ x, a ≤ x → x < b → a ≤ A.getD x 0 ∧ A.getD x 0 < b) : Blk K1 K2 B a b :=
  ⟨h.srt, fun x x1 x2 => by
    obtain ⟨y, y1, y2, e⟩ := h.frm x x1 x2
    rw [e]
    exact ho y y1 y2⟩
theorem Blk.keep (h : Blk K1 K2 A a b) (he : ∀ x, a ≤ x → x < b → B.getD x 0 = A.getD x 0) : Blk K1 K2 B a b :=
  ⟨fun x y x1 hxy hy => by rw [he x x1 (by omega), he y (by omega) hy]; exact h.srt x y x1 hxy hy, fun x x1 x2 => by rw [he x x1 x2]; exact h.own x x1 x2⟩
theorem Blk.join (h : Blk K1 K2 A a m) (h' : Blk K1 K2 A m b) (ham : a ≤ m) (hmb : m ≤ b) (hs : SegS K1 K2 A a b B) : Blk K1 K2 B a b :=
  .seg hs fun x x1 x2 => by
    by_cases c : x < m
    · have := h.own x x1 c; omega
    · have := h'.own x (by omega) x2; omega
/-- All blocks of so many numbers are in order, as far as p in pairs. -/
structure Blks (K1 K2 : Nat → Int) (n s p : Nat) (A : List Nat) : Prop where
  len : A.length = n
  perm : A.Perm (List.range n)
  done : ∀ lo, 2 * s ∣ lo → lo < p → Blk K1 K2 A lo (min (lo + 2 * s) n)
  todo : ∀ lo, s ∣ lo → p ≤ lo → Blk K1 K2 A lo (min (lo + s) n)
theorem dvd_gap {s lo p : Nat} (h : s ∣ lo) (h' : s ∣ p) (hlt : lo < p + s) : lo ≤ p := by
  obtain ⟨k, rfl⟩ := h
  obtain ⟨j, rfl⟩ := h'
  have : s * k < s * (j + 1) := by rw [Nat.mul_succ]; exact hlt
  exact Nat.mul_le_mul_left _ (by have := Nat.lt_of_mul_lt_mul_left this; omega)
theorem Blks.step {n s p : Nat} (h : Blks K1 K2 n s p A) (hs : 0 < s) (hp : 2 * s ∣ p) (hpn : p + s ≤ n) (hS : SegS K1 K2 A p (min (p + 2 * s) n) B) : Blks K1 K2 n s (p + 2 * s) B := by
  have hp' : s ∣ p := Nat.dvd_trans ⟨2, by omega⟩ hp
  refine ⟨hS.len.trans h.len, hS.perm.trans h.perm, fun lo hd hlt => ?_, fun lo hd hge => ?_⟩
  · have hle := dvd_gap hd hp hlt
    by_cases e : lo = p
    · subst e
      have b1 := h.todo lo hp' (Nat.le_refl _)
      have b2 := h.todo (lo + s) (Nat.dvd_add hp' (Nat.dvd_refl s)) (by omega)
      rw [show min (lo + s) n = lo + s by omega] at b1
      rw [show min (lo + s + s) n = min (lo + 2 * s) n by omega] at b2
      exact b1.join b2 (by omega) (by omega) hS
    · have hg : lo + 2 * s ≤ p := Classical.byContradiction fun hh => by
        have := dvd_gap hp hd (by omega)
        omega
      exact (h.done lo hd (by omega)).keep fun x x1 x2 => hS.out x (by omega)
  · exact (h.todo lo hd (by omega)).keep fun x x1 x2 => hS.out x (by omega)
/-- All are gone through. -/
theorem Blks.next {n s p : Nat} (h : Blks K1 K2 n s p A) (hs : 0 < s) (hp : 2 * s ∣ p) (hpn : n ≤ p + s) : Blks K1 K2 n (2 * s) 0 A := by
  refine ⟨h.len, h.perm, fun lo _ hlt => by omega, fun lo hd _ => ?_⟩
  by_cases e : lo < p
  · exact h.done lo hd e
  · have := h.todo lo (Nat.dvd_trans ⟨2, by omega⟩ hd) (by omega)
    rw [show min (lo + 2 * s) n = min (lo + s) n ∨ True by omega |>.elim id fun _ => ?_]
    · exact this
    · have := hpn; omega
theorem Blks.all {n s : Nat} (h : Blks K1 K2 n s 0 A) (hn : n ≤ s) : A.Pairwise (lx K1 K2) := by
  have b := h.todo 0 (Nat.dvd_zero s) (Nat.le_refl _)
  rw [show min (0 + s) n = n by omega] at b
  rw [List.pairwise_iff_getElem]
  intro x y hx hy hxy
  have := b.srt x y (by omega) hxy (by rw [← h.len]; exact hy)
  rwa [show A.getD x 0 = A[x] by simp [hx], show A.getD y 0 = A[y] by simp [hy]] at this
/-- The blocks that are sorted by themselves. -/
structure Fst (K1 K2 : Nat → Int) (n s p : Nat) (A : List Nat) : Prop where
  len : A.length = n
  perm : A.Perm (List.range n)
  done : ∀ lo, s ∣ lo → lo < p → Blk K1 K2 A lo (min (lo + s) n)
  todo : ∀ x, p ≤ x → x < n → A.getD x 0 = x
theorem Fst.start {n s : Nat} : Fst K1 K2 n s 0 (List.range n) := ⟨by simp, .refl _, fun lo _ h => by omega, fun x _ h => by simp [h]⟩
theorem Fst.asc {n s p q : Nat} (h : Fst K1 K2 n s p A) (hq : q ≤ n) : AscN A p q := fun x y x1 hxy hy => by
  rw [h.todo x x1 (by omega), h.todo y (by omega) (by omega)]; exact hxy
theorem Fst.step {n s p : Nat} (h : Fst K1 K2 n s p A) (hp : s ∣ p) (hS : SegS K1 K2 A p (min (p + s) n) B) : Fst K1 K2 n s (p + s) B := by
  refine ⟨hS.len.trans h.len, hS.perm.trans h.perm, fun lo hd hlt => ?_, fun x x1 x2 => ?_⟩
  · have hle := dvd_gap hd hp hlt
    by_cases e : lo = p
    · subst e
      exact .seg hS fun x x1 x2 => by rw [h.todo x x1 (by omega)]; omega
    · have hg : lo + s ≤ p := Classical.byContradiction fun hh => by
        have := dvd_gap hp hd (by omega)
        omega
      exact (h.done lo hd (by omega)).keep fun x x1 x2 => hS.out x (by omega)
  · rw [hS.out x (by omega)]; exact h.todo x (by omega) x2
theorem Fst.blks {n s p : Nat} (h : Fst K1 K2 n s p A) (hn : n ≤ p) : Blks K1 K2 n s 0 A := by
  refine ⟨h.len, h.perm, fun lo _ hlt => by omega, fun lo hd _ => ?_⟩
  by_cases e : lo < p
  · exact h.done lo hd e
  · exact ⟨fun x y x1 hxy hy => by omega, fun x x1 x2 => by omega⟩
/-- A search by halves. -/
structure Src (P : Nat → Prop) (lo hi i j : Nat) : Prop where
  b : lo ≤ i ∧ i ≤ j ∧ j ≤ hi
  t : ∀ y, lo ≤ y → y < i → P y
  f : ∀ y, j ≤ y → y < hi → ¬ P y
def MonoP (P : Nat → Prop) (lo hi : Nat) : Prop := ∀ x y, lo ≤ x → x ≤ y → y < hi → P y → P x
theorem Src.start {P : Nat → Prop} {lo hi : Nat} (h : lo ≤ hi) : Src P lo hi lo hi := ⟨by omega, fun y h1 h2 => by omega, fun y h1 h2 => by omega⟩
theorem Src.up {P : Nat → Prop} {lo hi i j H : Nat} (h : Src P lo hi i j) (hm : MonoP P lo hi) (hH : i ≤ H ∧ H < j) (hp : P H) : Src P lo hi (H + 1) j :=
  ⟨by have := h.b; omega, fun y h1 h2 => hm y H h1 (by omega) (by have := h.b; omega) hp, h.f⟩
theorem Src.down {P : Nat → Prop} {lo hi i j H : Nat} (h : Src P lo hi i j) (hm : MonoP P lo hi) (hH : i ≤ H ∧ H < j) (hp : ¬ P H) : Src P lo hi i H :=
  ⟨by have := h.b; omega, h.t, fun y h1 h2 hy => hp (hm H y (by have := h.b; omega) h1 h2 hy)⟩
theorem Two.mono1 (h : Two K1 K2 A a m b) : MonoP (fun y => lx K1 K2 (A.getD y 0) (A.getD a 0)) m b := fun x y x1 hxy hy hp => by
  by_cases e : x = y
  · subst e; exact hp
  · exact lx_trans (h.s2 x y x1 (by omega) hy) hp
theorem Two.mono2 (h : Two K1 K2 A a m b) (hmb : m < b) : MonoP (fun y => ¬ lx K1 K2 (A.getD m 0) (A.getD y 0)) a m := fun x y x1 hxy hy hp =>
  h.less x1 hxy hy (Nat.le_refl _) (Nat.le_refl _) hmb hp
theorem Two.mono3 {n s0 r0 : Nat} (h : Two K1 K2 A a m b) (ok : ∀ c, s0 ≤ c → c < r0 → a ≤ c ∧ c < m ∧ m ≤ n - 1 - c ∧ n - 1 - c < b) : MonoP (fun c => ¬ lx K1 K2 (A.getD (n - 1 - c) 0) (A.getD c 0)) s0 r0 := fun x y x1 hxy hy hp => by
  obtain ⟨o1, o2, o3, o4⟩ := ok x x1 (by omega)
  obtain ⟨p1, p2, p3, p4⟩ := ok y (by omega) hy
  exact h.less o1 hxy p2 p3 (by omega) o4 hp
end Go.Idl
