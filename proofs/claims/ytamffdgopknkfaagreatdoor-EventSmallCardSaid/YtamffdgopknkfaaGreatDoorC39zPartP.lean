import Derived.Test.YtamffdgopknkfaaGreatDoorC39zPartO
set_option linter.all false
set_option maxHeartbeats 16000000
set_option maxRecDepth 40000
namespace Go.Idl
open Go.Proofs
def swap2 (A : List Nat) (i j : Nat) : List Nat := (A.set i (A.getD j 0)).set j (A.getD i 0)
@[simp] theorem swap2_length (A : List Nat) (i j : Nat) : (swap2 A i j).length = A.length := by simp [swap2]
theorem swap2_getD {A : List Nat} {i j x : Nat} (hi : i < A.length) (hj : j < A.length) : (swap2 A i j).getD x 0 = if x = j then A.getD i 0 else if x = i then A.getD j 0 else A.getD x 0 := by
 unfold swap2
 simp only [List.getD_eq_getElem?_getD, List.getElem?_set, List.length_set]
 by_cases h2 : x = j
 ·rw [if_pos h2.symm, if_pos (by omega), if_pos h2]; rfl
 ·rw [if_neg (fun e => h2 e.symm), if_neg h2]
  by_cases h3 : x = i
  ·rw [if_pos h3.symm, if_pos (by omega), if_pos h3]; rfl
  ·rw [if_neg (fun e => h3 e.symm), if_neg h3]
theorem swap2_perm {A : List Nat} {i j : Nat} (hi : i < A.length) (hj : j < A.length) : (swap2 A i j).Perm A := by
 have := List.set_set_perm hi hj
 unfold swap2
 rwa [show A.getD j 0 = A[j] by simp [hj], show A.getD i 0 = A[i] by simp [hi]]
structure Swp (A : List Nat) (a b n : Nat) (B : List Nat) : Prop where
 len : B.length = A.length
 perm : B.Perm A
 fst : ∀ x, x < n → B.getD (a + x) 0 = A.getD (b + x) 0
 snd : ∀ x, x < n → B.getD (b + x) 0 = A.getD (a + x) 0
 out : ∀ x, (x < a ∨ a + n ≤ x) → (x < b ∨ b + n ≤ x) → B.getD x 0 = A.getD x 0
theorem Swp.zero {A : List Nat} {a b : Nat} : Swp A a b 0 A := ⟨rfl, .refl _, fun x h => by omega, fun x h => by omega, fun x _ _ => rfl⟩
theorem Swp.step {A B : List Nat} {a b n : Nat} (h : Swp A a b n B) (h1 : a + n < b) (h2 : b + n < A.length) : Swp A a b (n + 1) (swap2 B (a + n) (b + n)) := by
 have hl := h.len
 have g : ∀ x, (swap2 B (a + n) (b + n)).getD x 0 = if x = b + n then B.getD (a + n) 0 else if x = a + n then B.getD (b + n) 0 else B.getD x 0 := fun x => swap2_getD (by omega) (by omega)
 refine ⟨by simp [hl], (swap2_perm (by omega) (by omega)).trans h.perm, fun x hx => ?_, fun x hx => ?_, fun x hx hy => ?_⟩
 ·rw [g]
  by_cases e : x = n
  ·subst e
   rw [if_neg (by omega), if_pos rfl]
   exact h.out _ (by omega) (by omega)
  ·rw [if_neg (by omega), if_neg (by omega)]
   exact h.fst x (by omega)
 ·rw [g]
  by_cases e : x = n
  ·subst e
   rw [if_pos rfl]
   exact h.out _ (by omega) (by omega)
  ·rw [if_neg (by omega), if_neg (by omega)]
   exact h.snd x (by omega)
 ·rw [g, if_neg (by omega), if_neg (by omega)]
  exact h.out x (by omega) (by omega)
structure Rot (A : List Nat) (a m b : Nat) (B : List Nat) : Prop where
 len : B.length = A.length
 perm : B.Perm A
 fst : ∀ x, m + x < b → B.getD (a + x) 0 = A.getD (m + x) 0
 snd : ∀ x, a + x < m → B.getD (a + (b - m) + x) 0 = A.getD (a + x) 0
 out : ∀ x, (x < a ∨ b ≤ x) → B.getD x 0 = A.getD x 0
theorem Rot.left {A : List Nat} {a m : Nat} : Rot A a m m A := ⟨rfl, .refl _, fun x h => by omega, fun x h => by rw [Nat.sub_self, Nat.add_zero], fun x _ => rfl⟩
theorem Rot.right {A : List Nat} {m b : Nat} : Rot A m m b A := ⟨rfl, .refl _, fun x h => rfl, fun x h => by omega, fun x _ => rfl⟩
theorem Swp.rot {A B : List Nat} {m i : Nat} (h : Swp A (m - i) m i B) (hi : i ≤ m) : Rot A (m - i) m (m + i) B :=
 ⟨h.len, h.perm, fun x hx => h.fst x (by omega), fun x hx => by
  rw [show m - i + (m + i - m) + x = m + x by omega]
  exact h.snd x (by omega), fun x hx => h.out x (by omega) (by omega)⟩
theorem Rot.big {A B C : List Nat} {m i j : Nat} (hij : j < i) (him : i ≤ m) (h : Swp A (m - i) m j B) (hr : Rot B (m - (i - j)) m (m + j) C) : Rot A (m - i) m (m + j) C := by
 refine ⟨hr.len.trans h.len, hr.perm.trans h.perm, fun x hx => ?_, fun x hx => ?_, fun x hx => ?_⟩
 ·rw [hr.out _ (by omega)]
  exact h.fst x (by omega)
 ·by_cases hx2 : x < j
  ·have := hr.fst x (by omega)
   rw [show m - (i - j) + x = m - i + (m + j - m) + x by omega] at this
   rw [this]
   exact h.snd x hx2
  ·have := hr.snd (x - j) (by omega)
   rw [show m - (i - j) + (m + j - m) + (x - j) = m - i + (m + j - m) + x by omega, show m - (i - j) + (x - j) = m - i + x by omega] at this
   rw [this]
   exact h.out _ (by omega) (by omega)
 ·rw [hr.out _ (by omega)]
  exact h.out _ (by omega) (by omega)
theorem Rot.small {A B C : List Nat} {m i j : Nat} (hij : i < j) (him : i ≤ m) (h : Swp A (m - i) (m + j - i) i B) (hr : Rot B (m - i) m (m + (j - i)) C) : Rot A (m - i) m (m + j) C := by
 refine ⟨hr.len.trans h.len, hr.perm.trans h.perm, fun x hx => ?_, fun x hx => ?_, fun x hx => ?_⟩
 ·by_cases hx2 : x < j - i
  ·rw [hr.fst x (by omega)]
   exact h.out _ (by omega) (by omega)
  ·have := hr.snd (x - (j - i)) (by omega)
   rw [show m - i + (m + (j - i) - m) + (x - (j - i)) = m - i + x by omega] at this
   rw [this, h.fst _ (by omega)]
   rw [show m + j - i + (x - (j - i)) = m + x by omega]
 ·rw [hr.out _ (by omega)]
  have := h.snd x (by omega)
  rw [show m - i + (m + j - m) + x = m + j - i + x by omega]
  exact this
 ·rw [hr.out _ (by omega)]
  exact h.out _ (by omega) (by omega)
theorem Rot.up {A B : List Nat} {a k : Nat} (h : Rot A a (a + 1) (k + 1) B) (hak : a ≤ k) (hk : k + 1 < A.length) : Rot A a (a + 1) (k + 2) (swap2 B k (k + 1)) := by
 have hl := h.len
 have g : ∀ x, (swap2 B k (k + 1)).getD x 0 = if x = k + 1 then B.getD k 0 else if x = k then B.getD (k + 1) 0 else B.getD x 0 := fun x => swap2_getD (by omega) (by omega)
 refine ⟨by simp [hl], (swap2_perm (by omega) (by omega)).trans h.perm, fun x hx => ?_, fun x hx => ?_, fun x hx => ?_⟩
 ·rw [g, if_neg (by omega)]
  by_cases e : a + x = k
  ·rw [if_pos e, h.out _ (by omega), show a + 1 + x = k + 1 by omega]
  ·rw [if_neg e]
   exact h.fst x (by omega)
 ·obtain rfl : x = 0 := by omega
  rw [g, if_pos (by omega)]
  have := h.snd 0 (by omega)
  rw [show a + (k + 1 - (a + 1)) + 0 = k by omega] at this
  exact this
 ·rw [g, if_neg (by omega), if_neg (by omega)]
  exact h.out x (by omega)
theorem Rot.down {A B : List Nat} {m k : Nat} (h : Rot A k m (m + 1) B) (h0 : 0 < k) (hk : k ≤ m) (hm : m < A.length) : Rot A (k - 1) m (m + 1) (swap2 B k (k - 1)) := by
 have hl := h.len
 have g : ∀ x, (swap2 B k (k - 1)).getD x 0 = if x = k - 1 then B.getD k 0 else if x = k then B.getD (k - 1) 0 else B.getD x 0 := fun x => swap2_getD (by omega) (by omega)
 refine ⟨by simp [hl], (swap2_perm (by omega) (by omega)).trans h.perm, fun x hx => ?_, fun x hx => ?_, fun x hx => ?_⟩
 ·obtain rfl : x = 0 := by omega
  rw [g, if_pos (by omega)]
  exact h.fst 0 (by omega)
 ·rw [g, if_neg (by omega)]
  by_cases e : x = 0
  ·subst e
   rw [if_pos (by omega), h.out _ (by omega)]
   rfl
  ·rw [if_neg (by omega)]
   have := h.snd (x - 1) (by omega)
   rw [show k + (m + 1 - m) + (x - 1) = k - 1 + (m + 1 - m) + x by omega, show k + (x - 1) = k - 1 + x by omega] at this
   exact this
 ·rw [g, if_neg (by omega), if_neg (by omega)]
  exact h.out x (by omega)
structure Two (K1 K2 : Nat → Int) (A : List Nat) (a m b : Nat) : Prop where
 s1 : ∀ x y, a ≤ x → x < y → y < m → lx K1 K2 (A.getD x 0) (A.getD y 0)
 s2 : ∀ x y, m ≤ x → x < y → y < b → lx K1 K2 (A.getD x 0) (A.getD y 0)
 lt : ∀ x y, a ≤ x → x < m → m ≤ y → y < b → A.getD x 0 < A.getD y 0
variable {K1 K2 : Nat → Int} {A B C D : List Nat} {a m b : Nat}
theorem Two.none (h : Two K1 K2 A a m b) (hm : m ≤ a ∨ b ≤ m) : SegS K1 K2 A a b A :=
 ⟨rfl, .refl _, fun _ _ => rfl, fun x h1 h2 => ⟨x, h1, h2, rfl⟩, fun x y h1 h2 h3 => by
  rcases hm with hm | hm
  ·exact h.s2 x y (by omega) h2 h3
  ·exact h.s1 x y h1 h2 (by omega)⟩
theorem Two.less (h : Two K1 K2 A a m b) {c d c' d' : Nat} (h1 : a ≤ c) (h2 : c ≤ c') (h3 : c' < m) (h4 : m ≤ d') (h5 : d' ≤ d) (h6 : d < b) (hn : ¬ lx K1 K2 (A.getD d' 0) (A.getD c' 0)) : ¬ lx K1 K2 (A.getD d 0) (A.getD c 0) := fun hl => by
 have k1 : lx K1 K2 (A.getD c' 0) (A.getD d' 0) := lx_total (by have := h.lt c' d' (by omega) h3 h4 (by omega); omega) hn
 have k2 : c = c' ∨ lx K1 K2 (A.getD c 0) (A.getD c' 0) := by
  by_cases e : c = c'
  ·exact .inl e
  ·exact .inr (h.s1 c c' h1 (by omega) h3)
 have k3 : d' = d ∨ lx K1 K2 (A.getD d' 0) (A.getD d 0) := by
  by_cases e : d' = d
  ·exact .inl e
  ·exact .inr (h.s2 d' d h4 (by omega) h6)
 have k4 : lx K1 K2 (A.getD c 0) (A.getD d' 0) := by
  rcases k2 with rfl | k2
  ·exact k1
  ·exact lx_trans k2 k1
 have k5 : lx K1 K2 (A.getD c 0) (A.getD d 0) := by
  rcases k3 with rfl | k3
  ·exact k4
  ·exact lx_trans k4 k3
 exact lx_irr (lx_trans hl k5)
theorem Two.le (h : Two K1 K2 A a m b) {c d c' d' : Nat} (h1 : a ≤ c) (h2 : c ≤ c') (h3 : c' < m) (h4 : m ≤ d') (h5 : d' ≤ d) (h6 : d < b) (hl : lx K1 K2 (A.getD d 0) (A.getD c 0)) : lx K1 K2 (A.getD d' 0) (A.getD c' 0) :=
 Classical.byContradiction fun hn => h.less h1 h2 h3 h4 h5 h6 hn hl
theorem Two.flip (h : Two K1 K2 A a m b) {c d : Nat} (h1 : a ≤ c) (h3 : c < m) (h4 : m ≤ d) (h6 : d < b) (hn : ¬ lx K1 K2 (A.getD d 0) (A.getD c 0)) : lx K1 K2 (A.getD c 0) (A.getD d 0) :=
 lx_total (by have := h.lt c d h1 h3 h4 h6; omega) hn
theorem Two.keep (h : Two K1 K2 A a m b) (ham : a ≤ m) (hmb : m ≤ b) (he : ∀ x, a ≤ x → x < b → B.getD x 0 = A.getD x 0) : Two K1 K2 B a m b :=
 ⟨fun x y x1 hxy hy => by rw [he x x1 (by omega), he y (by omega) (by omega)]; exact h.s1 x y x1 hxy hy,
  fun x y x1 hxy hy => by rw [he x (by omega) (by omega), he y (by omega) (by omega)]; exact h.s2 x y x1 hxy hy,
  fun x y x1 x2 y1 y2 => by rw [he x x1 (by omega), he y (by omega) y2]; exact h.lt x y x1 x2 y1 y2⟩
theorem Two.one1 {i : Nat} (h : Two K1 K2 A a (a + 1) b) (hi : a + 1 ≤ i ∧ i ≤ b) (h1 : ∀ y, a + 1 ≤ y → y < i → lx K1 K2 (A.getD y 0) (A.getD a 0)) (h2 : ∀ y, i ≤ y → y < b → ¬ lx K1 K2 (A.getD y 0) (A.getD a 0)) (hr : Rot A a (a + 1) i B) : SegS K1 K2 A a b B := by
 have g : ∀ x, a ≤ x → x < b → ∃ y, (x + 1 < i ∧ y = x + 1 ∨ x + 1 = i ∧ y = a ∨ i ≤ x ∧ y = x) ∧ B.getD x 0 = A.getD y 0 := fun x h1 h2 => by
  by_cases c1 : x + 1 < i
  ·refine ⟨x + 1, .inl ⟨c1, rfl⟩, ?_⟩
   have := hr.fst (x - a) (by omega)
   rwa [show a + (x - a) = x by omega, show a + 1 + (x - a) = x + 1 by omega] at this
  ·by_cases c2 : x + 1 = i
   ·refine ⟨a, .inr (.inl ⟨c2, rfl⟩), ?_⟩
    have := hr.snd 0 (by omega)
    rwa [show a + (i - (a + 1)) + 0 = x by omega] at this
   ·exact ⟨x, .inr (.inr ⟨by omega, rfl⟩), hr.out x (by omega)⟩
 refine ⟨hr.len, hr.perm, fun x hx => hr.out x (by omega), fun x x1 x2 => ?_, fun x y x1 hxy hy => ?_⟩
 ·obtain ⟨y, hy, e⟩ := g x x1 x2
  exact ⟨y, by omega, by omega, e⟩
 ·obtain ⟨u, hu, eu⟩ := g x x1 (by omega)
  obtain ⟨v, hv, ev⟩ := g y (by omega) hy
  rw [eu, ev]
  rcases hu with ⟨u1, rfl⟩ | ⟨u1, rfl⟩ | ⟨u1, rfl⟩
  ·rcases hv with ⟨v1, rfl⟩ | ⟨v1, rfl⟩ | ⟨v1, rfl⟩
   ·exact h.s2 _ _ (by omega) (by omega) (by omega)
   ·exact h1 _ (by omega) (by omega)
   ·exact h.s2 _ _ (by omega) (by omega) (by omega)
  ·rcases hv with ⟨v1, rfl⟩ | ⟨v1, rfl⟩ | ⟨v1, rfl⟩
   ·omega
   ·omega
   ·exact h.flip (by omega) (by omega) (by omega) (by omega) (h2 _ (by omega) (by omega))
  ·rcases hv with ⟨v1, rfl⟩ | ⟨v1, rfl⟩ | ⟨v1, rfl⟩
   ·omega
   ·omega
   ·exact h.s2 _ _ (by omega) (by omega) (by omega)
theorem Two.one2 {i : Nat} (h : Two K1 K2 A a m (m + 1)) (hi : a ≤ i ∧ i ≤ m) (h1 : ∀ y, a ≤ y → y < i → ¬ lx K1 K2 (A.getD m 0) (A.getD y 0)) (h2 : ∀ y, i ≤ y → y < m → lx K1 K2 (A.getD m 0) (A.getD y 0)) (hr : Rot A i m (m + 1) B) : SegS K1 K2 A a (m + 1) B := by
 have g : ∀ x, a ≤ x → x < m + 1 → ∃ y, (x < i ∧ y = x ∨ x = i ∧ y = m ∨ i < x ∧ y + 1 = x) ∧ B.getD x 0 = A.getD y 0 := fun x h1 h2 => by
  by_cases c1 : x < i
  ·exact ⟨x, .inl ⟨c1, rfl⟩, hr.out x (by omega)⟩
  ·by_cases c2 : x = i
   ·refine ⟨m, .inr (.inl ⟨c2, rfl⟩), ?_⟩
    have := hr.fst 0 (by omega)
    rwa [show i + 0 = x by omega] at this
   ·refine ⟨x - 1, .inr (.inr ⟨by omega, by omega⟩), ?_⟩
    have := hr.snd (x - 1 - i) (by omega)
    rwa [show i + (m + 1 - m) + (x - 1 - i) = x by omega, show i + (x - 1 - i) = x - 1 by omega] at this
 refine ⟨hr.len, hr.perm, fun x hx => hr.out x (by omega), fun x x1 x2 => ?_, fun x y x1 hxy hy => ?_⟩
 ·obtain ⟨y, hy, e⟩ := g x x1 x2
  exact ⟨y, by omega, by omega, e⟩
 ·obtain ⟨u, hu, eu⟩ := g x x1 (by omega)
  obtain ⟨v, hv, ev⟩ := g y (by omega) hy
  rw [eu, ev]
  rcases hu with ⟨u1, rfl⟩ | ⟨u1, rfl⟩ | ⟨u1, u2⟩
  ·rcases hv with ⟨v1, rfl⟩ | ⟨v1, rfl⟩ | ⟨v1, v2⟩
   ·exact h.s1 _ _ (by omega) (by omega) (by omega)
   ·exact h.flip (by omega) (by omega) (by omega) (by omega) (h1 _ (by omega) (by omega))
   ·exact h.s1 _ _ (by omega) (by omega) (by omega)
  ·rcases hv with ⟨v1, rfl⟩ | ⟨v1, rfl⟩ | ⟨v1, v2⟩
   ·omega
   ·omega
   ·exact h2 _ (by omega) (by omega)
  ·rcases hv with ⟨v1, rfl⟩ | ⟨v1, rfl⟩ | ⟨v1, v2⟩
   ·omega
   ·omega
   ·exact h.s1 _ _ (by omega) (by omega) (by omega)
theorem Two.cut {n mid s s0 r0 : Nat} (h : Two K1 K2 A a m b) (ham : a < m) (hmb : m < b) (hmid : mid = (a + b) / 2) (hn : n = mid + m)
  (hc : m > mid ∧ s0 = n - b ∧ r0 = mid ∨ m ≤ mid ∧ s0 = a ∧ r0 = m) (hs : s0 ≤ s ∧ s ≤ r0)
  (h1 : ∀ c, s0 ≤ c → c < s → ¬ lx K1 K2 (A.getD (n - 1 - c) 0) (A.getD c 0)) (h2 : ∀ c, s ≤ c → c < r0 → lx K1 K2 (A.getD (n - 1 - c) 0) (A.getD c 0))
  (hr : Rot A s m (n - s) B) : Two K1 K2 B a s mid ∧ Two K1 K2 B mid (n - s) b ∧ ∀ C D, SegS K1 K2 B a mid C → SegS K1 K2 C mid b D → SegS K1 K2 A a b D := by
 have g : ∀ x, a ≤ x → x < b → ∃ y, (x < s ∧ y = x ∨ s ≤ x ∧ x < mid ∧ y + s = m + x ∨ mid ≤ x ∧ x < n - s ∧ y + mid = s + x ∨ n - s ≤ x ∧ y = x) ∧ B.getD x 0 = A.getD y 0 := fun x h1 h2 => by
  by_cases c1 : x < s
  ·exact ⟨x, .inl ⟨c1, rfl⟩, hr.out x (by omega)⟩
  ·by_cases c2 : x < mid
   ·refine ⟨m + (x - s), .inr (.inl ⟨by omega, c2, by omega⟩), ?_⟩
    have := hr.fst (x - s) (by omega)
    rwa [show s + (x - s) = x by omega] at this
   ·by_cases c3 : x < n - s
    ·refine ⟨s + (x - mid), .inr (.inr (.inl ⟨by omega, c3, by omega⟩)), ?_⟩
     have := hr.snd (x - mid) (by omega)
     rwa [show s + (n - s - m) + (x - mid) = x by omega] at this
    ·exact ⟨x, .inr (.inr (.inr ⟨by omega, rfl⟩)), hr.out x (by omega)⟩
 have ok : ∀ c, s0 ≤ c → c < r0 → a ≤ c ∧ c < m ∧ m ≤ n - 1 - c ∧ n - 1 - c < b := fun c c1 c2 => by omega
 have LR : ∀ u v, a ≤ u → u < s → n - s ≤ v → v < b → lx K1 K2 (A.getD u 0) (A.getD v 0) := fun u v u1 u2 v1 v2 => by
  by_cases e : s0 < s
  ·obtain ⟨o1, o2, o3, o4⟩ := ok (s - 1) (by omega) (by omega)
   have := h.less (c := u) (d := v) (c' := s - 1) (d' := n - 1 - (s - 1)) u1 (by omega) o2 o3 (by omega) v2 (h1 (s - 1) (by omega) (by omega))
   exact h.flip u1 (by omega) (by omega) v2 this
  ·omega
 have RL : ∀ u v, m ≤ u → u < n - s → s ≤ v → v < m → lx K1 K2 (A.getD u 0) (A.getD v 0) := fun u v u1 u2 v1 v2 => by
  by_cases e : s < r0
  ·obtain ⟨o1, o2, o3, o4⟩ := ok s (by omega) (by omega)
   exact h.le (c := s) (d := n - 1 - s) o1 v1 v2 u1 (by omega) o4 (h2 s (by omega) e)
  ·omega
 have half : ∀ x y, a ≤ x → x < mid → mid ≤ y → y < b → lx K1 K2 (B.getD x 0) (B.getD y 0) := fun x y x1 x2 y1 y2 => by
  obtain ⟨u, hu, eu⟩ := g x x1 (by omega)
  obtain ⟨v, hv, ev⟩ := g y (by omega) y2
  rw [eu, ev]
  rcases hu with ⟨u1, rfl⟩ | ⟨u1, u2, u3⟩ | ⟨u1, u2, u3⟩ | ⟨u1, rfl⟩
  ·rcases hv with ⟨v1, rfl⟩ | ⟨v1, v2, v3⟩ | ⟨v1, v2, v3⟩ | ⟨v1, rfl⟩
   ·omega
   ·omega
   ·exact h.s1 _ _ (by omega) (by omega) (by omega)
   ·exact LR _ _ (by omega) (by omega) (by omega) (by omega)
  ·rcases hv with ⟨v1, rfl⟩ | ⟨v1, v2, v3⟩ | ⟨v1, v2, v3⟩ | ⟨v1, rfl⟩
   ·omega
   ·omega
   ·exact RL _ _ (by omega) (by omega) (by omega) (by omega)
   ·exact h.s2 _ _ (by omega) (by omega) (by omega)
  ·omega
  ·omega
 refine ⟨⟨fun x y x1 hxy hy => ?_, fun x y x1 hxy hy => ?_, fun x y x1 x2 y1 y2 => ?_⟩, ⟨fun x y x1 hxy hy => ?_, fun x y x1 hxy hy => ?_, fun x y x1 x2 y1 y2 => ?_⟩, fun C D hC hD => ?_⟩
 ·obtain ⟨u, hu, eu⟩ := g x (by omega) (by omega)
  obtain ⟨v, hv, ev⟩ := g y (by omega) (by omega)
  rw [eu, ev]
  exact h.s1 _ _ (by omega) (by omega) (by omega)
 ·obtain ⟨u, hu, eu⟩ := g x (by omega) (by omega)
  obtain ⟨v, hv, ev⟩ := g y (by omega) (by omega)
  rw [eu, ev]
  exact h.s2 _ _ (by omega) (by omega) (by omega)
 ·obtain ⟨u, hu, eu⟩ := g x (by omega) (by omega)
  obtain ⟨v, hv, ev⟩ := g y (by omega) (by omega)
  rw [eu, ev]
  exact h.lt _ _ (by omega) (by omega) (by omega) (by omega)
 ·obtain ⟨u, hu, eu⟩ := g x (by omega) (by omega)
  obtain ⟨v, hv, ev⟩ := g y (by omega) (by omega)
  rw [eu, ev]
  exact h.s1 _ _ (by omega) (by omega) (by omega)
 ·obtain ⟨u, hu, eu⟩ := g x (by omega) (by omega)
  obtain ⟨v, hv, ev⟩ := g y (by omega) (by omega)
  rw [eu, ev]
  exact h.s2 _ _ (by omega) (by omega) (by omega)
 ·obtain ⟨u, hu, eu⟩ := g x (by omega) (by omega)
  obtain ⟨v, hv, ev⟩ := g y (by omega) (by omega)
  rw [eu, ev]
  exact h.lt _ _ (by omega) (by omega) (by omega) (by omega)
 ·have gD : ∀ x, a ≤ x → x < b → ∃ y, (a ≤ y ∧ y < b ∧ (x < mid ↔ y < mid)) ∧ D.getD x 0 = B.getD y 0 := fun x x1 x2 => by
   by_cases c : x < mid
   ·rw [hD.out x (by omega)]
    obtain ⟨y, y1, y2, y3⟩ := hC.frm x x1 c
    exact ⟨y, by omega, y3⟩
   ·obtain ⟨y, y1, y2, y3⟩ := hD.frm x (by omega) x2
    exact ⟨y, by omega, by rw [y3, hC.out y (by omega)]⟩
  refine ⟨hD.len.trans (hC.len.trans hr.len), hD.perm.trans (hC.perm.trans hr.perm), fun x hx => ?_, fun x x1 x2 => ?_, fun x y x1 hxy hy => ?_⟩
  ·rw [hD.out x (by omega), hC.out x (by omega), hr.out x (by omega)]
  ·obtain ⟨y, hy, e⟩ := gD x x1 x2
   obtain ⟨z, hz, e'⟩ := g y hy.1 hy.2.1
   exact ⟨z, by omega, by omega, by rw [e, e']⟩
  ·by_cases c1 : y < mid
   ·rw [hD.out x (by omega), hD.out y (by omega)]
    exact hC.srt x y x1 hxy c1
   ·by_cases c2 : mid ≤ x
    ·exact hD.srt x y c2 hxy hy
    ·obtain ⟨u, hu, eu⟩ := gD x x1 (by omega)
     obtain ⟨v, hv, ev⟩ := gD y (by omega) hy
     rw [eu, ev]
     exact half u v (by omega) (by omega) (by omega) (by omega)
structure Blk (K1 K2 : Nat → Int) (A : List Nat) (lo hi : Nat) : Prop where
 srt : ∀ x y, lo ≤ x → x < y → y < hi → lx K1 K2 (A.getD x 0) (A.getD y 0)
 own : ∀ x, lo ≤ x → x < hi → lo ≤ A.getD x 0 ∧ A.getD x 0 < hi
theorem Blk.two (h : Blk K1 K2 A a m) (h' : Blk K1 K2 A m b) : Two K1 K2 A a m b :=
 ⟨h.srt, h'.srt, fun x y x1 x2 y1 y2 => by
  have := h.own x x1 x2
  have := h'.own y y1 y2
  omega⟩
theorem Blk.seg (h : SegS K1 K2 A a b B) (ho : ∀ x, a ≤ x → x < b → a ≤ A.getD x 0 ∧ A.getD x 0 < b) : Blk K1 K2 B a b :=
 ⟨h.srt, fun x x1 x2 => by
  obtain ⟨y, y1, y2, e⟩ := h.frm x x1 x2
  rw [e]
  exact ho y y1 y2⟩
theorem Blk.keep (h : Blk K1 K2 A a b) (he : ∀ x, a ≤ x → x < b → B.getD x 0 = A.getD x 0) : Blk K1 K2 B a b :=
 ⟨fun x y x1 hxy hy => by rw [he x x1 (by omega), he y (by omega) hy]; exact h.srt x y x1 hxy hy, fun x x1 x2 => by rw [he x x1 x2]; exact h.own x x1 x2⟩
theorem Blk.join (h : Blk K1 K2 A a m) (h' : Blk K1 K2 A m b) (ham : a ≤ m) (hmb : m ≤ b) (hs : SegS K1 K2 A a b B) : Blk K1 K2 B a b :=
 .seg hs fun x x1 x2 => by
  by_cases c : x < m
  ·have := h.own x x1 c; omega
  ·have := h'.own x (by omega) x2; omega
structure Blks (K1 K2 : Nat → Int) (n s p : Nat) (A : List Nat) : Prop where
 len : A.length = n
 perm : A.Perm (List.range n)
 done : ∀ lo, 2 * s ∣ lo → lo < p → Blk K1 K2 A lo (min (lo + 2 * s) n)
 todo : ∀ lo, s ∣ lo → p ≤ lo → Blk K1 K2 A lo (min (lo + s) n)
theorem dvd_gap {s lo p : Nat} (h : s ∣ lo) (h' : s ∣ p) (hlt : lo < p + s) : lo ≤ p := by
 obtain ⟨k, rfl⟩ := h
 obtain ⟨j, rfl⟩ := h'
 have : s * k < s * (j + 1) := by rw [Nat.mul_succ]; exact hlt
 exact Nat.mul_le_mul_left _ (by have := Nat.lt_of_mul_lt_mul_left this; omega)
theorem Blks.step {n s p : Nat} (h : Blks K1 K2 n s p A) (hs : 0 < s) (hp : 2 * s ∣ p) (hpn : p + s ≤ n) (hS : SegS K1 K2 A p (min (p + 2 * s) n) B) : Blks K1 K2 n s (p + 2 * s) B := by
 have hp' : s ∣ p := Nat.dvd_trans ⟨2, by omega⟩ hp
 refine ⟨hS.len.trans h.len, hS.perm.trans h.perm, fun lo hd hlt => ?_, fun lo hd hge => ?_⟩
 ·have hle := dvd_gap hd hp hlt
  by_cases e : lo = p
  ·subst e
   have b1 := h.todo lo hp' (Nat.le_refl _)
   have b2 := h.todo (lo + s) (Nat.dvd_add hp' (Nat.dvd_refl s)) (by omega)
   rw [show min (lo + s) n = lo + s by omega] at b1
   rw [show min (lo + s + s) n = min (lo + 2 * s) n by omega] at b2
   exact b1.join b2 (by omega) (by omega) hS
  ·have hg : lo + 2 * s ≤ p := Classical.byContradiction fun hh => by
    have := dvd_gap hp hd (by omega)
    omega
   exact (h.done lo hd (by omega)).keep fun x x1 x2 => hS.out x (by omega)
 ·exact (h.todo lo hd (by omega)).keep fun x x1 x2 => hS.out x (by omega)
theorem Blks.next {n s p : Nat} (h : Blks K1 K2 n s p A) (hs : 0 < s) (hp : 2 * s ∣ p) (hpn : n ≤ p + s) : Blks K1 K2 n (2 * s) 0 A := by
 refine ⟨h.len, h.perm, fun lo _ hlt => by omega, fun lo hd _ => ?_⟩
 by_cases e : lo < p
 ·exact h.done lo hd e
 ·have := h.todo lo (Nat.dvd_trans ⟨2, by omega⟩ hd) (by omega)
  rw [show min (lo + 2 * s) n = min (lo + s) n ∨ True by omega |>.elim id fun _ => ?_]
  ·exact this
  ·have := hpn; omega
theorem Blks.all {n s : Nat} (h : Blks K1 K2 n s 0 A) (hn : n ≤ s) : A.Pairwise (lx K1 K2) := by
 have b := h.todo 0 (Nat.dvd_zero s) (Nat.le_refl _)
 rw [show min (0 + s) n = n by omega] at b
 rw [List.pairwise_iff_getElem]
 intro x y hx hy hxy
 have := b.srt x y (by omega) hxy (by rw [← h.len]; exact hy)
 rwa [show A.getD x 0 = A[x] by simp [hx], show A.getD y 0 = A[y] by simp [hy]] at this
structure Fst (K1 K2 : Nat → Int) (n s p : Nat) (A : List Nat) : Prop where
 len : A.length = n
 perm : A.Perm (List.range n)
 done : ∀ lo, s ∣ lo → lo < p → Blk K1 K2 A lo (min (lo + s) n)
 todo : ∀ x, p ≤ x → x < n → A.getD x 0 = x
theorem Fst.start {n s : Nat} : Fst K1 K2 n s 0 (List.range n) := ⟨by simp, .refl _, fun lo _ h => by omega, fun x _ h => by simp [h]⟩
theorem Fst.asc {n s p q : Nat} (h : Fst K1 K2 n s p A) (hq : q ≤ n) : AscN A p q := fun x y x1 hxy hy => by
 rw [h.todo x x1 (by omega), h.todo y (by omega) (by omega)]; exact hxy
theorem Fst.step {n s p : Nat} (h : Fst K1 K2 n s p A) (hp : s ∣ p) (hS : SegS K1 K2 A p (min (p + s) n) B) : Fst K1 K2 n s (p + s) B := by
 refine ⟨hS.len.trans h.len, hS.perm.trans h.perm, fun lo hd hlt => ?_, fun x x1 x2 => ?_⟩
 ·have hle := dvd_gap hd hp hlt
  by_cases e : lo = p
  ·subst e
   exact .seg hS fun x x1 x2 => by rw [h.todo x x1 (by omega)]; omega
  ·have hg : lo + s ≤ p := Classical.byContradiction fun hh => by
    have := dvd_gap hp hd (by omega)
    omega
   exact (h.done lo hd (by omega)).keep fun x x1 x2 => hS.out x (by omega)
 ·rw [hS.out x (by omega)]; exact h.todo x (by omega) x2
theorem Fst.blks {n s p : Nat} (h : Fst K1 K2 n s p A) (hn : n ≤ p) : Blks K1 K2 n s 0 A := by
 refine ⟨h.len, h.perm, fun lo _ hlt => by omega, fun lo hd _ => ?_⟩
 by_cases e : lo < p
 ·exact h.done lo hd e
 ·exact ⟨fun x y x1 hxy hy => by omega, fun x x1 x2 => by omega⟩
structure Src (P : Nat → Prop) (lo hi i j : Nat) : Prop where
 b : lo ≤ i ∧ i ≤ j ∧ j ≤ hi
 t : ∀ y, lo ≤ y → y < i → P y
 f : ∀ y, j ≤ y → y < hi → ¬ P y
def MonoP (P : Nat → Prop) (lo hi : Nat) : Prop := ∀ x y, lo ≤ x → x ≤ y → y < hi → P y → P x
theorem Src.start {P : Nat → Prop} {lo hi : Nat} (h : lo ≤ hi) : Src P lo hi lo hi := ⟨by omega, fun y h1 h2 => by omega, fun y h1 h2 => by omega⟩
theorem Src.up {P : Nat → Prop} {lo hi i j H : Nat} (h : Src P lo hi i j) (hm : MonoP P lo hi) (hH : i ≤ H ∧ H < j) (hp : P H) : Src P lo hi (H + 1) j :=
 ⟨by have := h.b; omega, fun y h1 h2 => hm y H h1 (by omega) (by have := h.b; omega) hp, h.f⟩
theorem Src.down {P : Nat → Prop} {lo hi i j H : Nat} (h : Src P lo hi i j) (hm : MonoP P lo hi) (hH : i ≤ H ∧ H < j) (hp : ¬ P H) : Src P lo hi i H :=
 ⟨by have := h.b; omega, h.t, fun y h1 h2 hy => hp (hm H y (by have := h.b; omega) h1 h2 hy)⟩
theorem Two.mono1 (h : Two K1 K2 A a m b) : MonoP (fun y => lx K1 K2 (A.getD y 0) (A.getD a 0)) m b := fun x y x1 hxy hy hp => by
 by_cases e : x = y
 ·subst e; exact hp
 ·exact lx_trans (h.s2 x y x1 (by omega) hy) hp
theorem Two.mono2 (h : Two K1 K2 A a m b) (hmb : m < b) : MonoP (fun y => ¬ lx K1 K2 (A.getD m 0) (A.getD y 0)) a m := fun x y x1 hxy hy hp =>
 h.less x1 hxy hy (Nat.le_refl _) (Nat.le_refl _) hmb hp
theorem Two.mono3 {n s0 r0 : Nat} (h : Two K1 K2 A a m b) (ok : ∀ c, s0 ≤ c → c < r0 → a ≤ c ∧ c < m ∧ m ≤ n - 1 - c ∧ n - 1 - c < b) : MonoP (fun c => ¬ lx K1 K2 (A.getD (n - 1 - c) 0) (A.getD c 0)) s0 r0 := fun x y x1 hxy hy hp => by
 obtain ⟨o1, o2, o3, o4⟩ := ok x x1 (by omega)
 obtain ⟨p1, p2, p3, p4⟩ := ok y (by omega) hy
 exact h.less o1 hxy p2 p3 (by omega) o4 hp
end Go.Idl
namespace Go.Idl
open Go.Proofs
def rK9 (l : List Em) (a : Nat) : Int := (l.getD a Em0).r
def iK9 (_ : List Em) (_ : Nat) : Int := 0
def cmpM9 (q i q' i' : Int) : Int := if cmp3 q q' = 0 then cmp3 i i' else cmp3 q q'
theorem cmpM9_lx {K1 K2 : Nat → Int} {a b : Nat} (h : b < a) : cmpM9 (K1 a) (K2 a) (K1 b) (K2 b) < 0 ↔ lx K1 K2 a b := by
 unfold cmpM9 cmp3 lx
 split <;> split <;> (try split) <;> (try split) <;> omega
theorem cmpM9_zero (q q' : Int) : cmpM9 q 0 q' 0 = cmp3 q q' := by
 unfold cmpM9
 split
 ·rename_i h; rw [h]; rfl
 ·rfl
def cmpN9 (l : List Em) (a b : Nat) : Int := cmpM9 (rK9 l a) (iK9 l a) (rK9 l b) (iK9 l b)
def lC9 (l : List Em) : IObj := .rows 1 [[.fz 4 (ems l)]]
theorem ck1_reads (l : List Em) (i j : Nat) (hi : i < l.length) (hj : j < l.length) (hl : l.length < 2 ^ 62) (c : Nat) (H : Heap) (hc : H[c]? = some (lC9 l)) :
  ICalls Tryz.prog glT 39 [.int .i64 (i : Int), .int .i64 (j : Int), .ptr c 1 0 0] H (fun v σ => v = .int .i64 (cmp3 l[i].r l[j].r) ∧ σ = H) := by
 refine ICalls.of_bodyV false 6 [] Tryz.func39 rfl Tryz.call39 rfl fun R hR => ?_
 have c1 := compare_fun l[i].r l[j].r
 generalize hC : cmp3 l[i].r l[j].r = C at *
 have lc : c < H.length := (List.getElem?_eq_some_iff.1 hc).1
 have n1 : ∀ k, (H.length + k = c) = False := fun k => eq_false (by omega)
 have n3 : ∀ k, (c = H.length + k) = False := fun k => eq_false (by omega)
 have n5 : (H.length = c) = False := eq_false (by omega)
 have n7 : (c = H.length) = False := eq_false (by omega)
 clear lc
 unfold lC9 at hc
 refine IWp.seqI ?_
 simp [go_sem]
 refine IWp.seqI ?_
 refine Drawn.intro (fun k => if k = 10 then .int .i64 C else .tup []) ?_
 simp [go_sem, hc, hi, hj, c1, n1, n3, n5, n7]
 refine ⟨by decide +kernel, ?_⟩
 refine IWp.now ?_
 simp [go_sem]
 exact hR _ _ ⟨rfl, rfl⟩
theorem ck1_ro (l : List Em) (i j : Nat) (hi : i < l.length) (hj : j < l.length) (hl : l.length < 2 ^ 62) (c : Nat) (h : Heap) (hc : h[c]? = some (lC9 l)) :
  readsOnly Tryz.prog glT 39 [.int .i64 (i : Int), .int .i64 (j : Int), .ptr c 1 0 0] h (.int .i64 (cmp3 l[i].r l[j].r)) := fun H hH => by
 have h2 := hH c (by simp [go_sem])
 rw [show hget h c = some (lC9 l) from hget_some.2 ⟨hc, rfl⟩] at h2
 exact ck1_reads l i j hi hj hl c H (hget_some.1 h2).1
def ck1V : IV := .func (.func 39) [] [.ptr 1 1 0 0]
def sortH9 (l : List Em) (A : List Nat) : Heap := [.rows 1 (nts A), lC9 l]
theorem ck1_at (l : List Em) (i j : Nat) (hi : i < l.length) (hj : j < l.length) (hl : l.length < 2 ^ 62) (h : Heap) (hb : h[1]? = some (lC9 l)) :
  readsOnly Tryz.prog glT 39 [.int .i64 (i : Int), .int .i64 (j : Int), .ptr 1 1 0 0] h (.int .i64 (cmpN9 l i j)) := by
 have := ck1_ro l i j hi hj hl 1 h hb
 rw [← cmpM9_zero] at this
 unfold cmpN9 iK9 rK9
 rw [show l.getD i Em0 = l[i] by simp [hi], show l.getD j Em0 = l[j] by simp [hj]]
 exact this
theorem insertM_calls (l : List Em) (A0 : List Nat) (lo hi : Nat) (h1 : lo < hi) (h2 : hi ≤ A0.length) (hr : ∀ x ∈ A0, x < l.length) (hl : l.length < 2 ^ 62) (hA : A0.length < 2 ^ 62) (ha : AscN A0 lo hi) :
  ICalls Tryz.prog glT 81 [.sl 0 A0.length 0 A0.length none, .int .i64 (lo : Int), .int .i64 (hi : Int), ck1V] (sortH9 l A0)
   (fun _ σ => ∃ A, SegS (rK9 l) (iK9 l) A0 lo hi A ∧ σ = sortH9 l A) := by
 refine ICalls.forget (ICalls.of_bodyE false 10 [14, 34] Tryz.func81 rfl Tryz.call81 rfl fun R hR => ?_)
 have v0 : IntKind.i64.wrap ((lo : Int) + 1) = ((lo + 1 : Nat) : Int) := by rw [wrap64 (by omega) (by omega)]; omega
 obtain ⟨n, hn⟩ : ∃ n, A0.length = n := ⟨_, rfl⟩
 rw [hn] at h2 hA ⊢
 unfold sortH9 lC9 ck1V at *
 simp [go_sem, v0]
 refine IWp.loopT (α := Nat × List Nat) (fun p => (⟨false, 53, 10, [14, 34], glT, [(0, .sl 0 n 0 n none), (1, .int .i64 (lo : Int)), (2, .int .i64 (hi : Int)), (3, ck1V), (8, .int .i64 (p.1 : Int))], []⟩, sortH9 l p.2))
  (fun p => lo + 1 ≤ p.1 ∧ p.1 ≤ hi ∧ SegS (rK9 l) (iK9 l) A0 lo p.1 p.2) (fun p => hi - p.1) (lo + 1, A0) ⟨by simp, by simp; omega, .one⟩ (by simp [go_sem, sortH9, lC9, ck1V]) ?_
 rintro ⟨i, A⟩ ⟨hi1, hi2, hS⟩
 simp only at hi1 hi2 hS
 by_cases h : i < hi
 ·have hI := hS.ins ha (by omega) h
  have v1 : IntKind.i64.wrap ((i : Int) + 1) = ((i + 1 : Nat) : Int) := by rw [wrap64 (by omega) (by omega)]; omega
  unfold sortH9 lC9 ck1V
  simp [go_sem, h]
  refine IWp.loopI (α := Nat × List Nat) (fun p => (⟨false, 53, 10, [14, 34], glT, [(0, .sl 0 n 0 n none), (1, .int .i64 (lo : Int)), (2, .int .i64 (hi : Int)), (3, ck1V), (8, .int .i64 (i : Int)), (9, .int .i64 (p.1 : Int))], []⟩, sortH9 l p.2))
   (fun p => lo ≤ p.1 ∧ p.1 ≤ i ∧ InsN (rK9 l) (iK9 l) A0 lo i p.1 p.2) (fun p => p.1) (i, A) ⟨by simp; omega, by simp, hI⟩ (by simp [go_sem, sortH9, lC9, ck1V]) ?_
  rintro ⟨j, B⟩ ⟨hj1, hj2, hJ⟩
  simp only at hj1 hj2 hJ
  have hB : B.length = n := by rw [hJ.len, hn]
  have hBr : ∀ x, x < n → B.getD x 0 < l.length := fun x hx => hr _ (hJ.perm.mem_iff.1 (by rw [show B.getD x 0 = B[x]'(by omega) by simp [show x < B.length by omega]]; exact List.getElem_mem _))
  by_cases hj0 : j = lo
  ·subst hj0
   have v2 : (IntKind.i64.wrap ((j : Int) - 1)).toNat = j - 1 := by rw [wrap64 (by omega) (by omega)]; omega
   have a1 : j < n := by omega
   have e1 := nts_at (l := B) (i := j) (by omega)
   have e2 := nts_at (l := B) (i := j - 1) (by omega)
   unfold sortH9 lC9 ck1V
   refine IWp.seq ?_
   refine IWp.seqI ?_
   refine Drawn.intro (fun k => .tup []) ?_
   simp [go_sem, hB, a1, e1, e2, v2]
   refine ⟨by decide +kernel, ?_⟩
   refine IWp.now ?_
   simp [go_sem]
   exact ⟨i + 1, B, ⟨v1, rfl⟩, ⟨by omega, by omega, hJ.low⟩, by omega⟩
  ·have v2 : IntKind.i64.wrap ((j : Int) - 1) = ((j - 1 : Nat) : Int) := by rw [wrap64 (by omega) (by omega)]; omega
   have g1 : lo < j := by omega
   have a1 : j < n := by omega
   have a2 : j - 1 < n := by omega
   have e1 := nts_at (l := B) (i := j) (by omega)
   have e2 := nts_at (l := B) (i := j - 1) (by omega)
   have q1 : B[j]'(by omega) = B.getD j 0 := by simp [show j < B.length by omega]
   have q2 : B[j - 1]'(by omega) = B.getD (j - 1) 0 := by simp [show j - 1 < B.length by omega]
   have b1 := hBr j a1
   have b2 := hBr (j - 1) a2
   have hlt := cmpM9_lx (K1 := rK9 l) (K2 := iK9 l) (hJ.big (j - 1) (by omega) (by omega) (by omega))
   have cc := fun h hb => ck1_at l (B.getD j 0) (B.getD (j - 1) 0) b1 b2 hl h hb
   unfold cmpN9 at cc
   generalize hC : cmpM9 (rK9 l (B.getD j 0)) (iK9 l (B.getD j 0)) (rK9 l (B.getD (j - 1) 0)) (iK9 l (B.getD (j - 1) 0)) = C at *
   have hstep := hJ.step g1 hj2 (by omega)
   have hstop := hJ.stop g1 hj2
   have hsw : nts (swapN B j) = ((nts B).set j [.int .i64 (B.getD (j - 1) 0 : Nat)]).set (j - 1) [.int .i64 (B.getD j 0 : Nat)] := by rw [swapN, nts_set, nts_set]
   generalize B.getD j 0 = X at *
   generalize B.getD (j - 1) 0 = Y at *
   generalize hSw : swapN B j = Sw at *
   unfold sortH9 lC9 ck1V
   refine IWp.seq ?_
   refine IWp.seqI ?_
   refine Drawn.intro (fun k => if k = 14 then .tup [.junk, .junk, .int .i64 C] else .tup []) ?_
   simp [go_sem, hB, g1, v2, a1, a2, e1, e2, q1, q2]
   refine ⟨cc _ rfl, by decide +kernel, ?_⟩
   by_cases hx : lx (rK9 l) (iK9 l) X Y
   ·have hC0 := hlt.2 hx
    have hI2 := hstep hx
    refine IWp.now ?_
    simp [go_sem, hC0]
    refine IWp.now ?_
    simp [go_sem, hB, g1, v2, a1, a2, e1, e2, q1, q2]
    refine ⟨by decide +kernel, j - 1, Sw, ⟨rfl, ?_⟩, ⟨by omega, by omega, hI2⟩, by omega⟩
    rw [hsw, List.getElem_set_ne (by omega), nts_getElem]
    rfl
   ·have hC0 : ¬ C < 0 := fun h => hx (hlt.1 h)
    have hI2 := hstop hx
    refine IWp.now ?_
    simp [go_sem, hC0]
    exact ⟨i + 1, B, ⟨v1, rfl⟩, ⟨by omega, by omega, hI2⟩, by omega⟩
 ·obtain rfl : i = hi := by omega
  unfold sortH9 lC9 ck1V
  simp [go_sem]
  exact hR _ _ ⟨_, by simp [go_sem], A, hS, rfl⟩
def idL9 (n : Nat) : List Nat := List.range n
@[simp] theorem idL9_length {n : Nat} : (idL9 n).length = n := by simp [idL9]
def OrdOf9 (l : List Em) (A : List Nat) : Prop := A.Perm (idL9 l.length) ∧ A.Pairwise (lx (rK9 l) (iK9 l))
theorem OrdOf9.eq {l : List Em} {A B : List Nat} (h : OrdOf9 l A) (h' : OrdOf9 l B) : A = B :=
 List.Perm.eq_of_pairwise (fun a b _ _ h1 h2 => absurd (lx_trans h1 h2) lx_irr) h.2 h'.2 (h.1.trans h'.1.symm)
theorem insertM_none (l : List Em) (A0 : List Nat) (lo hi : Nat) (h1 : hi ≤ lo) (hlo : lo < 2 ^ 62) :
  ICalls Tryz.prog glT 81 [.sl 0 A0.length 0 A0.length none, .int .i64 (lo : Int), .int .i64 (hi : Int), ck1V] (sortH9 l A0)
   (fun _ σ => σ = sortH9 l A0) := by
 refine ICalls.forget (ICalls.of_bodyE false 10 [14, 34] Tryz.func81 rfl Tryz.call81 rfl fun R hR => ?_)
 have v0 : IntKind.i64.wrap ((lo : Int) + 1) = ((lo + 1 : Nat) : Int) := by rw [wrap64 (by omega) (by omega)]; omega
 have g1 : ¬ lo + 1 < hi := by omega
 have g2 : ¬ (lo : Int) + 1 < hi := by omega
 unfold sortH9 lC9 ck1V at *
 simp [go_sem, v0]
 refine IWp.loopT (α := Unit) (fun p => (⟨false, 53, 10, [14, 34], glT, [(0, .sl 0 A0.length 0 A0.length none), (1, .int .i64 (lo : Int)), (2, .int .i64 (hi : Int)), (3, ck1V), (8, .int .i64 ((lo + 1 : Nat) : Int))], []⟩, sortH9 l A0))
  (fun p => True) (fun p => 0) () trivial (by simp [go_sem, sortH9, lC9, ck1V]) ?_
 rintro _ _
 unfold sortH9 lC9 ck1V
 simp [go_sem, g1, g2]
 exact hR _ _ ⟨_, by simp [go_sem], rfl⟩
end Go.Idl
