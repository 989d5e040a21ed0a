/-
  Chapter 26, plain law: a starter multiplied by a unit, turned, its pairs exchanged.
-/
import Derived.Test.YtjaefodhiegmmaaC26nAA
namespace Go.Idl
set_option linter.all false
open Go.Proofs
set_option maxHeartbeats 4000000
set_option maxRecDepth 40000

def cm (n k x : Int) : Int := (x * k).tmod n
def trp (n k : Int) (p : Int × Int) : Int × Int := (cm n k p.1, cm n k p.2)
def swp (p : Int × Int) : Int × Int := (p.2, p.1)
theorem cm_inj {n k x y : Int} (hc : Int.gcd k n = 1) (h1 : 0 ≤ x) (h2 : x < n) (h3 : 0 ≤ y) (h4 : y < n) (hk : 0 < k) (e : cm n k x = cm n k y) : x = y := by
  unfold cm at e
  rw [Int.tmod_eq_emod_of_nonneg (Int.mul_nonneg h1 (by omega)), Int.tmod_eq_emod_of_nonneg (Int.mul_nonneg h3 (by omega))] at e
  have hd : n ∣ (x - y) * k := by
    rw [Int.sub_mul]
    exact Int.dvd_of_emod_eq_zero (Int.emod_eq_emod_iff_emod_sub_eq_zero.1 e)
  have hd2 : n ∣ x - y := by
    have := Int.dvd_mul_gcd_iff_dvd_mul.2 hd
    rw [Int.gcd_comm, hc] at this
    simpa using this
  obtain ⟨q, hq⟩ := hd2
  rcases Int.lt_trichotomy q 0 with h | h | h
  · have : n * q ≤ n * (-1) := Int.mul_le_mul_of_nonneg_left (by omega) (by omega)
    omega
  · subst h; simp at hq; omega
  · have : n * 1 ≤ n * q := Int.mul_le_mul_of_nonneg_left (by omega) (by omega)
    omega
theorem cm_bd {n k x : Int} (hn : 0 < n) (h1 : 0 ≤ x) (hk : 0 < k) : 0 ≤ cm n k x ∧ cm n k x < n :=
  ⟨Int.tmod_nonneg _ (Int.mul_nonneg h1 (by omega)), Int.tmod_lt_of_pos _ hn⟩
theorem cm_zero {n k : Int} : cm n k 0 = 0 := by simp [cm]
theorem cm_sub {n k x y : Int} (hn : 0 < n) (hk : 0 < k) (h1 : 0 ≤ x) (h2 : x < n) (h3 : 0 ≤ y) (h4 : y < n) : (cm n k x - cm n k y + n).tmod n = cm n k ((x - y + n).tmod n) := by
  have b1 := cm_bd (k := k) hn h1 hk
  have b2 := cm_bd (k := k) hn h3 hk
  have b3 : 0 ≤ (x - y + n).tmod n := Int.tmod_nonneg _ (by omega)
  rw [Int.tmod_eq_emod_of_nonneg (by omega)]
  unfold cm
  rw [Int.tmod_eq_emod_of_nonneg (Int.mul_nonneg h1 (by omega)), Int.tmod_eq_emod_of_nonneg (Int.mul_nonneg h3 (by omega)), Int.tmod_eq_emod_of_nonneg (Int.mul_nonneg b3 (by omega)), Int.tmod_eq_emod_of_nonneg (a := x - y + n) (by omega)]
  have f1 : x * k % n = x * k - n * (x * k / n) := Int.emod_def ..
  have f2 : y * k % n = y * k - n * (y * k / n) := Int.emod_def ..
  have f3 : (x - y + n) % n = (x - y + n) - n * ((x - y + n) / n) := Int.emod_def ..
  rw [f1, f2, f3]
  generalize x * k / n = a
  generalize y * k / n = b
  generalize (x - y + n) / n = c
  rw [show x * k - n * a - (y * k - n * b) + n = (x - y) * k + n * (b - a + 1) by grind, show (x - y + n - n * c) * k = (x - y) * k + n * (k - c * k) by grind]
  rw [Int.add_mul_emod_self_left, Int.add_mul_emod_self_left]
theorem cm_add {n k x y : Int} (hn : 0 < n) (hk : 0 < k) (h1 : 0 ≤ x) (h3 : 0 ≤ y) : (cm n k x + cm n k y).tmod n = cm n k ((x + y).tmod n) := by
  have b1 := cm_bd (k := k) hn h1 hk
  have b2 := cm_bd (k := k) hn h3 hk
  have b3 : 0 ≤ (x + y).tmod n := Int.tmod_nonneg _ (by omega)
  rw [Int.tmod_eq_emod_of_nonneg (by omega)]
  unfold cm
  rw [Int.tmod_eq_emod_of_nonneg (Int.mul_nonneg h1 (by omega)), Int.tmod_eq_emod_of_nonneg (Int.mul_nonneg h3 (by omega)), Int.tmod_eq_emod_of_nonneg (Int.mul_nonneg b3 (by omega)), Int.tmod_eq_emod_of_nonneg (a := x + y) (by omega)]
  have f1 : x * k % n = x * k - n * (x * k / n) := Int.emod_def ..
  have f2 : y * k % n = y * k - n * (y * k / n) := Int.emod_def ..
  have f3 : (x + y) % n = (x + y) - n * ((x + y) / n) := Int.emod_def ..
  rw [f1, f2, f3]
  generalize x * k / n = a
  generalize y * k / n = b
  generalize (x + y) / n = c
  rw [show x * k - n * a + (y * k - n * b) = (x + y) * k + n * (- a - b) by grind, show (x + y - n * c) * k = (x + y) * k + n * (- c * k) by grind]
  rw [Int.add_mul_emod_self_left, Int.add_mul_emod_self_left]

theorem nodup_map_on {α β : Type} {f : α → β} {l : List α} (hf : ∀ x ∈ l, ∀ y ∈ l, f x = f y → x = y) (h : l.Nodup) : (l.map f).Nodup := by
  unfold List.Nodup at *
  rw [List.pairwise_map]
  exact h.imp_of_mem fun hx hy hne e => hne (hf _ hx _ hy e)
theorem nodup_of_map {α β : Type} {f : α → β} {l : List α} (h : (l.map f).Nodup) : l.Nodup := by
  unfold List.Nodup at *
  rw [List.pairwise_map] at h
  exact h.imp fun hne e => hne (by rw [e])
theorem flat_perm {α β : Type} {F : α → List β} : ∀ {A B : List α}, A.length = B.length → (∀ i (h1 : i < A.length) (h2 : i < B.length), (F A[i]).Perm (F B[i])) → (A.flatMap F).Perm (B.flatMap F)
  | [], [], _, _ => .refl _
  | a :: A, b :: B, h, hp => by
    rw [List.flatMap_cons, List.flatMap_cons]
    exact (hp 0 (by simp) (by simp)).append (flat_perm (by simpa using h) fun i h1 h2 => hp (i + 1) (by simpa using h1) (by simpa using h2))
def rotL {α : Type} (L : List α) (d : α) (s : Nat) : List α := (List.range L.length).map fun j => L.getD ((j + s) % L.length) d
theorem rotL_eq {α : Type} (L : List α) (d : α) (s : Nat) (h0 : 0 < L.length) : rotL L d s = L.drop (s % L.length) ++ L.take (s % L.length) := by
  have hs := Nat.mod_lt s h0
  apply List.ext_getElem
  · simp [rotL]; omega
  · intro j h1 h2
    have hj : j < L.length := by simpa [rotL] using h1
    have e : (j + s) % L.length = (j + s % L.length) % L.length := by simp
    have hm : (j + s) % L.length < L.length := Nat.mod_lt _ h0
    simp only [rotL, List.getElem_map, List.getElem_range, List.getElem_append, List.length_drop, List.getElem_drop, List.getElem_take, List.getD_eq_getElem?_getD, List.getElem?_eq_getElem hm, Option.getD_some]
    split
    · rename_i h
      congr 1
      rw [e, Nat.mod_eq_of_lt (by omega)]; omega
    · rename_i h
      congr 1
      rw [e, Nat.mod_eq_sub_mod (by omega), Nat.mod_eq_of_lt (by omega)]; omega
theorem rotL_perm {α : Type} (L : List α) (d : α) (s : Nat) (h0 : 0 < L.length) : (rotL L d s).Perm L := by
  rw [rotL_eq L d s h0]
  exact List.perm_append_comm.trans (by rw [List.take_append_drop])

theorem turned {n k : Int} {L acc : List (Int × Int)} {s : Nat} (hn : 3 ≤ n) (hk : 0 < k) (hc : Int.gcd k n = 1) (h0 : 0 < L.length) (hl : acc.length = L.length)
    (hA : ∀ j (h : j < acc.length), acc[j] = trp n k (L.getD ((j + s) % L.length) (0, 0)) ∨ acc[j] = trp n k (swp (L.getD ((j + s) % L.length) (0, 0)))) (hg : Good n L) :
    Good n acc ∧ (Str n acc ↔ Str n L) := by
  have hP := rotL_perm L (0, 0) s h0
  obtain ⟨M, hM⟩ : ∃ M, rotL L (0, 0) s = M := ⟨_, rfl⟩
  have hMl : M.length = acc.length := by rw [← hM]; simp [rotL, hl]
  have hMj : ∀ j (h1 : j < acc.length) (h2 : j < M.length), acc[j] = trp n k M[j] ∨ acc[j] = trp n k (swp M[j]) := by
    intro j h1 h2
    have : M[j] = L.getD ((j + s) % L.length) (0, 0) := by subst hM; simp [rotL]
    rw [this]; exact hA j h1
  rw [hM] at hP
  have hR : ∀ p ∈ M, InR n p := fun p hp => hg.1 p (hP.mem_iff.1 hp)
  have hcmR : ∀ x : Int, 1 ≤ x → x < n → 1 ≤ cm n k x ∧ cm n k x < n := fun x h1 h2 => by
    have b := cm_bd (n := n) (k := k) (x := x) (by omega) (by omega) hk
    have : cm n k x ≠ 0 := fun e => by
      have := cm_inj hc (x := x) (y := 0) (by omega) h2 (by omega) (by omega) hk (by rw [e, cm_zero]); omega
    omega
  -- the numbers and the differences are those of M, multiplied
  have key : ∀ F : Int × Int → List Int, (∀ p, (F (swp p)).Perm (F p)) → (∀ p ∈ M, F (trp n k p) = (F p).map (cm n k)) → (acc.flatMap F).Perm ((L.flatMap F).map (cm n k)) := by
    intro F hs ht
    refine (flat_perm (B := M.map (trp n k)) (by simp [hMl]) fun i h1 h2 => ?_).trans ?_
    · have h3 : i < M.length := by simpa using h2
      rw [List.getElem_map]
      rcases hMj i h1 h3 with e | e
      · rw [e]
      · rw [e]; exact hs (trp n k M[i])
    · rw [List.flatMap_map, List.map_flatMap]
      have : M.flatMap (fun p => F (trp n k p)) = M.flatMap fun p => (F p).map (cm n k) := by
        clear hMj hMl hP hM
        induction M with
        | nil => rfl
        | cons p M ih => rw [List.flatMap_cons, List.flatMap_cons, ht p (by simp), ih (fun p hp => hR p (by simp [hp])) fun p hp => ht p (by simp [hp])]
      rw [this]
      exact hP.flatMap_right _
  have kn := key (fun p => [p.1, p.2]) (fun p => List.Perm.swap ..) (fun p _ => rfl)
  have kd := key (fun p => [(p.1 - p.2 + n).tmod n, (p.2 - p.1 + n).tmod n]) (fun p => List.Perm.swap ..) (fun p hp => by
    have := hR p hp; unfold InR at this
    simp only [List.map_cons, List.map_nil, trp]
    rw [cm_sub (by omega) hk (by omega) (by omega) (by omega) (by omega), cm_sub (by omega) hk (by omega) (by omega) (by omega) (by omega)])
  have injn : ∀ x ∈ nums L, ∀ y ∈ nums L, cm n k x = cm n k y → x = y := by
    have : ∀ x ∈ nums L, 0 ≤ x ∧ x < n := by
      intro x hx
      obtain ⟨p, hp, hx⟩ := List.mem_flatMap.1 hx
      have := hg.1 p hp; unfold InR at this
      simp only [List.mem_cons, List.not_mem_nil, or_false] at hx; omega
    exact fun x hx y hy e => cm_inj hc (this x hx).1 (this x hx).2 (this y hy).1 (this y hy).2 hk e
  have injd : ∀ x ∈ difs n L, ∀ y ∈ difs n L, cm n k x = cm n k y → x = y := by
    have : ∀ x ∈ difs n L, 0 ≤ x ∧ x < n := by
      intro x hx
      obtain ⟨p, hp, hx⟩ := List.mem_flatMap.1 hx
      have := hg.1 p hp; unfold InR at this
      simp only [List.mem_cons, List.not_mem_nil, or_false] at hx
      rcases hx with rfl | rfl <;> exact ⟨Int.tmod_nonneg _ (by omega), Int.tmod_lt_of_pos _ (by omega)⟩
    exact fun x hx y hy e => cm_inj hc (this x hx).1 (this x hx).2 (this y hy).1 (this y hy).2 hk e
  refine ⟨⟨fun p hp => ?_, kn.nodup_iff.2 (nodup_map_on injn hg.2.1), kd.nodup_iff.2 (nodup_map_on injd hg.2.2)⟩, ?_⟩
  · obtain ⟨j, hj, rfl⟩ := List.mem_iff_getElem.1 hp
    have h2 : j < M.length := by omega
    have hr := hR _ (List.getElem_mem h2)
    unfold InR at hr ⊢
    have a1 := hcmR M[j].1 (by omega) (by omega)
    have a2 := hcmR M[j].2 (by omega) (by omega)
    rcases hMj j hj h2 with e | e <;> rw [e] <;> simp only [trp, swp] <;> omega
  · -- the sums
    have hsum : sums n acc = (sums n M).map (cm n k) := by
      apply List.ext_getElem
      · simp [sums, hMl]
      · intro j h1 h2
        have h3 : j < acc.length := by simpa [sums] using h1
        have h4 : j < M.length := by omega
        have hr := hR _ (List.getElem_mem h4)
        unfold InR at hr
        simp only [sums, List.getElem_map]
        rcases hMj j h3 h4 with e | e <;> rw [e] <;> simp only [trp, swp]
        · exact cm_add (by omega) hk (by omega) (by omega)
        · rw [cm_add (by omega) hk (by omega) (by omega), Int.add_comm]
    have hps : (sums n M).Perm (sums n L) := hP.map _
    have bd : ∀ x ∈ sums n M, 0 ≤ x ∧ x < n := by
      intro x hx
      obtain ⟨p, hp, rfl⟩ := List.mem_map.1 hx
      have := hR p hp; unfold InR at this
      exact ⟨Int.tmod_nonneg _ (by omega), Int.tmod_lt_of_pos _ (by omega)⟩
    have inj : ∀ x ∈ sums n M, ∀ y ∈ sums n M, cm n k x = cm n k y → x = y := fun x hx y hy e => cm_inj hc (bd x hx).1 (bd x hx).2 (bd y hy).1 (bd y hy).2 hk e
    unfold Str
    rw [hsum, ← hps.nodup_iff, ← hps.mem_iff]
    constructor
    · rintro ⟨h1, h2⟩
      exact ⟨nodup_of_map h1, fun h => h2 (List.mem_map.2 ⟨0, h, cm_zero⟩)⟩
    · rintro ⟨h1, h2⟩
      refine ⟨nodup_map_on inj h1, fun h => ?_⟩
      obtain ⟨x, hx, e⟩ := List.mem_map.1 h
      have := cm_inj hc (bd x hx).1 (bd x hx).2 (y := 0) (by omega) (by omega) hk (by rw [e, cm_zero])
      subst this; exact h2 hx
end Go.Idl
