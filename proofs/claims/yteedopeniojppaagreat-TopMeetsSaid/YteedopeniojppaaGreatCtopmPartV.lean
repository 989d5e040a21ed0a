/-
  Package finessetop: the keys of a fair movement (plain).
-/
import Derived.Test.YteedopeniojppaaGreatCtopmPartR
import Derived.Test.YteedopeniojppaaGreatCtopmPartT
namespace Go.Idl
set_option linter.all false
open Go.Proofs
set_option maxHeartbeats 4000000
set_option maxRecDepth 40000

theorem apart_symm {x y : Rw} (h : apart x y) : apart y x := by
  obtain ⟨h1, h2, h3⟩ := h
  refine ⟨fun e e2 => h1 e.symm e2.symm, fun p hp a b => ⟨fun e => (h2 p hp b a).1 e.symm, fun e => (h2 p hp b a).2 e.symm⟩, ?_⟩
  rintro ⟨a, b, c⟩
  exact h3 ⟨by omega, by omega, by omega⟩
theorem pw_cases {L : List Rw} (hp : L.Pairwise apart) {x y : Rw} (hx : x ∈ L) (hy : y ∈ L) : x = y ∨ apart x y := by
  obtain ⟨i, hi, rfl⟩ := List.getElem_of_mem hx
  obtain ⟨j, hj, rfl⟩ := List.getElem_of_mem hy
  rcases Nat.lt_trichotomy i j with h | h | h
  · exact .inr (List.pairwise_iff_getElem.1 hp i j hi hj h)
  · subst h; exact .inl rfl
  · exact .inr (apart_symm (List.pairwise_iff_getElem.1 hp j i hj hi h))
/-- A key of a session, and its row. -/
structure KeyOK (L : List Rw) (B : Int) (z : Ky) (x : Rw) : Prop where
  mem : x ∈ L
  r : x.r = z.r
  t : x.t = z.t
  ns : 1 ≤ x.ns
  ew : 1 ≤ x.ew
  set : (z.b - 1) / B = x.s
  b1 : 1 ≤ z.b
  b2 : z.b ≤ 1000
theorem keys_mem {M : Mv} (hM : TopM M) {B : Int} (hB : 1 ≤ B ∧ B ≤ 3) {z : Ky} (hz : z ∈ keysL B M.rows) : ∃ x, KeyOK M.rows B z x := by
  unfold keysL at hz
  obtain ⟨x, hx, hz⟩ := List.mem_flatMap.1 hz
  unfold keysRow at hz
  split at hz
  · exact absurd hz (by simp)
  · obtain ⟨i, hi, rfl⟩ := List.mem_map.1 hz
    have hi' := List.mem_range.1 hi
    have hr := hM.fair.rng x hx
    have hs := hM.sets
    have h1 := Int.mul_le_mul (show x.s ≤ 47 by omega) hB.2 (by omega) (by omega)
    have h2 := Int.mul_nonneg (show 0 ≤ x.s by omega) (show 0 ≤ B by omega)
    refine ⟨x, hx, rfl, rfl, by omega, by omega, ?_, by simp only [keyAt]; omega, by simp only [keyAt]; omega⟩
    simp only [keyAt]
    rw [show x.s * B + i + 1 - 1 = (i : Int) + x.s * B by omega, Int.add_mul_ediv_right _ _ (by omega), Int.ediv_eq_zero_of_lt (by omega) (by omega)]
    omega
theorem keys_pos {M : Mv} (hM : TopM M) {B : Int} (hB : 1 ≤ B ∧ B ≤ 3) : 0 < (keysS B M.rows).length := by
  obtain ⟨x, hx, h1, h2⟩ := hM.live
  have hz : keyAt B x 0 ∈ keysL B M.rows := by
    unfold keysL
    refine List.mem_flatMap.2 ⟨x, hx, ?_⟩
    unfold keysRow
    rw [if_neg (by omega)]
    exact List.mem_map.2 ⟨0, List.mem_range.2 (by omega), rfl⟩
  unfold keysS
  rw [List.length_mergeSort]
  exact List.length_pos_of_mem hz
theorem keys_nodup {M : Mv} (hM : TopM M) {B : Int} : (keysL B M.rows).Nodup := by
  unfold keysL List.Nodup
  rw [List.pairwise_flatMap]
  refine ⟨fun x hx => ?_, hM.fair.pw.imp fun {x y} h => ?_⟩
  · unfold keysRow
    split
    · exact List.Pairwise.nil
    · refine List.pairwise_map.2 (List.pairwise_lt_range.imp fun {a b} h e => ?_)
      have : (keyAt B x a).b = (keyAt B x b).b := by rw [e]
      simp only [keyAt] at this
      omega
  · intro z hz w hw e
    subst e
    unfold keysRow at hz hw
    split at hz
    · exact absurd hz (by simp)
    split at hw
    · exact absurd hw (by simp)
    obtain ⟨i, _, rfl⟩ := List.mem_map.1 hz
    obtain ⟨j, _, e⟩ := List.mem_map.1 hw
    have e1 : y.r = x.r := by have : (keyAt B y j).r = (keyAt B x i).r := by rw [e]
                              exact this
    have e2 : y.t = x.t := by have : (keyAt B y j).t = (keyAt B x i).t := by rw [e]
                              exact this
    exact h.1 e1.symm e2.symm
theorem keys_lex {M : Mv} (hM : TopM M) {B : Int} : (keysS B M.rows).Pairwise lexK := (sortK_lex (keys_nodup hM)).1
theorem keys_ok {M : Mv} (hM : TopM M) {B : Int} (hB : 1 ≤ B ∧ B ≤ 3) {i : Nat} (h : i < (keysS B M.rows).length) : ∃ x, KeyOK M.rows B (keysS B M.rows)[i] x :=
  keys_mem hM hB (((sortK_lex (keys_nodup hM)).2 _).1 (List.getElem_mem h))
theorem keys_len {M : Mv} (hM : TopM M) {B : Int} (hB : 1 ≤ B ∧ B ≤ 3) : (keysS B M.rows).length ≤ 1128 * 3 := by
  unfold keysS
  rw [List.length_mergeSort]
  exact Nat.le_trans (keysL_len B M.rows) (Nat.mul_le_mul hM.len (by omega))
theorem row_only {M : Mv} (hM : TopM M) {B : Int} {z : Ky} {x y : Rw} (h : KeyOK M.rows B z x) (hy : y ∈ M.rows) (h1 : y.r = z.r) (h2 : y.t = z.t) : y = x := by
  rcases pw_cases hM.fair.pw hy h.mem with e | e
  · exact e
  · exact absurd (by rw [h2, h.t]) (e.1 (by rw [h1, h.r]))
theorem no_twice {M : Mv} (hM : TopM M) {B : Int} {z z' : Ky} {x y : Rw} (h : KeyOK M.rows B z x) (h' : KeyOK M.rows B z' y) (hl : lexK z' z) (hb : z'.b = z.b) {p : Int} (hp : p ≠ 0) (h1 : sitsP p x) (h2 : sitsP p y) : False := by
  have hs : y.s = x.s := by rw [← h.set, ← h'.set, hb]
  rcases pw_cases hM.fair.pw h'.mem h.mem with e | e
  · subst e
    have a1 := h.r; have a2 := h'.r; have a3 := h.t; have a4 := h'.t
    unfold lexK at hl
    omega
  · exact (e.2.1 p hp h2 h1).2 hs
theorem no_meet {M : Mv} (hM : TopM M) {B : Int} {Z : List Ky} (hZ : Z.Pairwise lexK) {i j : Nat} (hi : i < Z.length) (hj : j < i) {x y : Rw} (h : KeyOK M.rows B Z[i] x) (h' : KeyOK M.rows B (Z[j]'(by omega)) y)
    (hn : (Z[i - 1]'(by omega)).r ≠ Z[i].r ∨ (Z[i - 1]'(by omega)).t ≠ Z[i].t) (h1 : min x.ns x.ew = min y.ns y.ew) (h2 : max x.ns x.ew = max y.ns y.ew) : False := by
  rcases pw_cases hM.fair.pw h'.mem h.mem with e | e
  · subst e
    have a1 := h.r; have a2 := h'.r; have a3 := h.t; have a4 := h'.t
    have l1 := List.pairwise_iff_getElem.1 hZ (i - 1) i (by omega) hi (by omega)
    by_cases hj1 : j = i - 1
    · subst hj1; omega
    · have l2 := List.pairwise_iff_getElem.1 hZ j (i - 1) (by omega) (by omega) (by omega)
      unfold lexK at l1 l2
      omega
  · have c1 := h.ns; have c2 := h.ew; have c3 := h'.ns; have c4 := h'.ew
    exact e.2.2 ⟨by omega, by omega, by omega⟩
/-- What the maps hold behind i keys. -/
def InvP (L : List Rw) (B : Int) (Z : List Ky) (i : Nat) (S : List ((Int × Int) × Int)) : Prop := ∀ p b, aget (p, b) S ≠ none → ∃ j, ∃ h : j < Z.length, j < i ∧ Z[j].b = b ∧ ∃ x, KeyOK L B Z[j] x ∧ sitsP p x
def InvM (L : List Rw) (B : Int) (Z : List Ky) (i : Nat) (S : List ((Int × Int) × Int)) : Prop := ∀ p q, aget (p, q) S ≠ none → ∃ j, ∃ h : j < Z.length, j < i ∧ ∃ x, KeyOK L B Z[j] x ∧ min x.ns x.ew = p ∧ max x.ns x.ew = q
theorem InvP.none {M : Mv} (hM : TopM M) {B : Int} {Z : List Ky} (hZ : Z.Pairwise lexK) {i : Nat} {S : List ((Int × Int) × Int)} (hI : InvP M.rows B Z i S) (hi : i < Z.length) {x : Rw} (h : KeyOK M.rows B Z[i] x) {p : Int} (hp : sitsP p x) : aget (p, Z[i].b) S = none := by
  apply Decidable.byContradiction
  intro hc
  obtain ⟨j, hj, hji, hb, y, hy, hs⟩ := hI _ _ hc
  have h1 := h.ns; have h2 := h.ew
  exact no_twice hM h hy (List.pairwise_iff_getElem.1 hZ j i hj hi hji) hb (by unfold sitsP at hp; omega) hp hs
theorem InvM.none {M : Mv} (hM : TopM M) {B : Int} {Z : List Ky} (hZ : Z.Pairwise lexK) {i : Nat} {S : List ((Int × Int) × Int)} (hI : InvM M.rows B Z i S) (hi : i < Z.length) {x : Rw} (h : KeyOK M.rows B Z[i] x)
    (hn : i = 0 ∨ ((Z[i - 1]'(by omega)).r ≠ Z[i].r ∨ (Z[i - 1]'(by omega)).t ≠ Z[i].t)) : aget (min x.ns x.ew, max x.ns x.ew) S = none := by
  apply Decidable.byContradiction
  intro hc
  obtain ⟨j, hj, hji, y, hy, h1, h2⟩ := hI _ _ hc
  rcases hn with hn | hn
  · omega
  · exact no_meet hM hZ hi hji h hy hn h1.symm h2.symm
theorem InvP.step {L : List Rw} {B : Int} {Z : List Ky} {i : Nat} {S : List ((Int × Int) × Int)} (hI : InvP L B Z i S) (hi : i < Z.length) {x : Rw} (h : KeyOK L B Z[i] x) (v w : Int) : InvP L B Z (i + 1) (aset (x.ew, Z[i].b) w (aset (x.ns, Z[i].b) v S)) := by
  intro p b hc
  rw [aget_aset, aget_aset] at hc
  by_cases e1 : (p, b) = (x.ew, Z[i].b)
  · simp only [Prod.mk.injEq] at e1
    exact ⟨i, hi, by omega, e1.2.symm, x, h, .inr e1.1.symm⟩
  rw [if_neg e1] at hc
  by_cases e2 : (p, b) = (x.ns, Z[i].b)
  · simp only [Prod.mk.injEq] at e2
    exact ⟨i, hi, by omega, e2.2.symm, x, h, .inl e2.1.symm⟩
  rw [if_neg e2] at hc
  obtain ⟨j, hj, hji, r⟩ := hI _ _ hc
  exact ⟨j, hj, by omega, r⟩
theorem InvM.step {L : List Rw} {B : Int} {Z : List Ky} {i : Nat} {S : List ((Int × Int) × Int)} (hI : InvM L B Z i S) (hi : i < Z.length) {x : Rw} (h : KeyOK L B Z[i] x) (v : Int) : InvM L B Z (i + 1) (aset (min x.ns x.ew, max x.ns x.ew) v S) := by
  intro p q hc
  rw [aget_aset] at hc
  by_cases e1 : (p, q) = (min x.ns x.ew, max x.ns x.ew)
  · simp only [Prod.mk.injEq] at e1
    exact ⟨i, hi, by omega, x, h, e1.1.symm, e1.2.symm⟩
  rw [if_neg e1] at hc
  obtain ⟨j, hj, hji, r⟩ := hI _ _ hc
  exact ⟨j, hj, by omega, r⟩
theorem InvM.weak {L : List Rw} {B : Int} {Z : List Ky} {i : Nat} {S : List ((Int × Int) × Int)} (hI : InvM L B Z i S) : InvM L B Z (i + 1) S := by
  intro p q hc
  obtain ⟨j, hj, hji, r⟩ := hI _ _ hc
  exact ⟨j, hj, by omega, r⟩
end Go.Idl
