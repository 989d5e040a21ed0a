import Derived.Test.YtjaefodhiegmmaaC26nL
import Derived.Test.YtjaefodhiegmmaaC26nF
namespace Go.Idl
set_option linter.all false
open Go.Proofs
set_option maxHeartbeats 4000000
set_option maxRecDepth 20000

def BadN (n : Int) : Prop := n.tmod 2 = 0 ∨ n < 3 ∨ 47 < n
def InR (n : Int) (p : Int × Int) : Prop := 1 ≤ p.1 ∧ p.1 < n ∧ 1 ≤ p.2 ∧ p.2 < n
def nums (l : List (Int × Int)) : List Int := l.flatMap fun p => [p.1, p.2]
def difs (n : Int) (l : List (Int × Int)) : List Int := l.flatMap fun p => [(p.1 - p.2 + n).tmod n, (p.2 - p.1 + n).tmod n]
def sums (n : Int) (l : List (Int × Int)) : List Int := l.map fun p => (p.1 + p.2).tmod n
def Good (n : Int) (l : List (Int × Int)) : Prop := (∀ p ∈ l, InR n p) ∧ (nums l).Nodup ∧ (difs n l).Nodup
def Str (n : Int) (l : List (Int × Int)) : Prop := (sums n l).Nodup ∧ (0 : Int) ∉ sums n l
def ChkV (n : Int) (l : List (Int × Int)) (b : Bool) (e : Int) : Prop :=
  (BadN n ∧ b = false ∧ e = 2) ∨ (¬ BadN n ∧ ((l.length : Int) ≠ (n - 1).tdiv 2 ∨ ¬ Good n l) ∧ b = false ∧ e = 260) ∨ (¬ BadN n ∧ (l.length : Int) = (n - 1).tdiv 2 ∧ Good n l ∧ (b = true ↔ Str n l) ∧ e = 0)

theorem times_num (n k : Int) (l : List (Int × Int)) : timesI n k 0 l = ((nums l).count k : Nat) := by
  induction l with
  | nil => rfl
  | cons p l ih =>
    simp only [timesI, List.map_cons, List.sum_cons] at ih ⊢
    rw [ih]
    simp only [nums, List.flatMap_cons, List.count_append, List.count_cons, List.count_nil, hits]
    by_cases h1 : p.1 = k <;> by_cases h2 : p.2 = k <;> simp [h1, h2] <;> omega
theorem times_dif (n k : Int) (hn : 3 ≤ n) (hn2 : n ≤ 47) (l : List (Int × Int)) (hl : ∀ p ∈ l, InR n p) : timesI n k 1 l = ((difs n l).count k : Nat) := by
  induction l with
  | nil => rfl
  | cons p l ih =>
    have ih := ih fun p hp => hl p (by simp [hp])
    have hp := hl p (by simp)
    unfold InR at hp
    simp only [timesI, List.map_cons, List.sum_cons] at ih ⊢
    rw [ih]
    have e1 : w64 (w64 (p.1 + n) - p.2) = p.1 - p.2 + n := by simp (disch := omega) only [w64, wrap64]; omega
    have e2 : w64 (w64 (p.2 + n) - p.1) = p.2 - p.1 + n := by simp (disch := omega) only [w64, wrap64]; omega
    simp only [difs, List.flatMap_cons, List.count_append, List.count_cons, List.count_nil, hits, e1, e2]
    by_cases h1 : (p.1 - p.2 + n).tmod n = k <;> by_cases h2 : (p.2 - p.1 + n).tmod n = k <;> simp [h1, h2] <;> omega
theorem times_sum (n k : Int) (hn : 3 ≤ n) (hn2 : n ≤ 47) (l : List (Int × Int)) (hl : ∀ p ∈ l, InR n p) : timesI n k 2 l = ((sums n l).count k : Nat) := by
  induction l with
  | nil => rfl
  | cons p l ih =>
    have ih := ih fun p hp => hl p (by simp [hp])
    have hp := hl p (by simp)
    unfold InR at hp
    simp only [timesI, List.map_cons, List.sum_cons] at ih ⊢
    rw [ih]
    have e1 : w64 (p.1 + p.2) = p.1 + p.2 := by simp (disch := omega) only [w64, wrap64]
    simp only [sums, List.map_cons, List.count_cons, hits, e1]
    by_cases h1 : (p.1 + p.2).tmod n = k <;> simp [h1] <;> omega

theorem pig {n : Int} {L : List Int} (hL : ∀ x ∈ L, 1 ≤ x ∧ x < n) (hlen : (L.length : Int) = n - 1) : L.Nodup ↔ ∀ k, 1 ≤ k → k < n → L.count k = 1 := by
  constructor
  · intro hnd k h1 h2
    have hle := List.nodup_iff_count.1 hnd k
    by_cases h0 : L.count k = 0
    · exfalso
      have hk : k ∉ L := List.count_eq_zero.1 h0
      have hnd2 : (k :: L).Nodup := List.nodup_cons.2 ⟨hk, hnd⟩
      have hsub : k :: L ⊆ (List.range (n.toNat - 1)).map fun (i : Nat) => (i : Int) + 1 := by
        intro x hx
        have hx' : 1 ≤ x ∧ x < n := by
          rcases List.mem_cons.1 hx with rfl | hx
          · exact ⟨h1, h2⟩
          · exact hL x hx
        rw [List.mem_map]
        exact ⟨(x - 1).toNat, by rw [List.mem_range]; omega, by omega⟩
      have := List.Nodup.length_le_of_subset hnd2 hsub
      simp at this
      omega
    · omega
  · intro h
    rw [List.nodup_iff_count]
    intro a
    by_cases ha : a ∈ L
    · have := hL a ha
      rw [h a this.1 this.2]; omega
    · rw [List.count_eq_zero.2 ha]; omega

theorem nums_length (l : List (Int × Int)) : (nums l).length = 2 * l.length := by
  induction l with
  | nil => rfl
  | cons p l ih => simp only [nums, List.flatMap_cons, List.length_append, List.length_cons, List.length_nil] at ih ⊢; omega
theorem difs_length (n : Int) (l : List (Int × Int)) : (difs n l).length = 2 * l.length := by
  induction l with
  | nil => rfl
  | cons p l ih => simp only [difs, List.flatMap_cons, List.length_append, List.length_cons, List.length_nil] at ih ⊢; omega
theorem nums_in {n : Int} {l : List (Int × Int)} (hl : ∀ p ∈ l, InR n p) : ∀ x ∈ nums l, 1 ≤ x ∧ x < n := by
  intro x hx
  simp only [nums, List.mem_flatMap, List.mem_cons, List.not_mem_nil, or_false] at hx
  obtain ⟨p, hp, rfl | rfl⟩ := hx
  · have := hl p hp; unfold InR at this; omega
  · have := hl p hp; unfold InR at this; omega
theorem tmod_pos {a n : Int} (h : 0 < a) (h2 : a < 2 * n) (h3 : a ≠ n) : 1 ≤ a.tmod n ∧ a.tmod n < n := by
  rw [Int.tmod_eq_emod_of_nonneg (by omega)]
  by_cases h4 : a < n
  · rw [Int.emod_eq_of_lt (by omega) h4]; omega
  · have : a % n = a - n := by
      rw [← Int.sub_emod_right, Int.emod_eq_of_lt (by omega) (by omega)]
    omega
theorem difs_in {n : Int} {l : List (Int × Int)} (hl : ∀ p ∈ l, InR n p) (hne : ∀ p ∈ l, p.1 ≠ p.2) : ∀ x ∈ difs n l, 1 ≤ x ∧ x < n := by
  intro x hx
  simp only [difs, List.mem_flatMap, List.mem_cons, List.not_mem_nil, or_false] at hx
  obtain ⟨p, hp, rfl | rfl⟩ := hx
  · have h1 := hl p hp; have h2 := hne p hp; unfold InR at h1; exact tmod_pos (by omega) (by omega) (by omega)
  · have h1 := hl p hp; have h2 := hne p hp; unfold InR at h1; exact tmod_pos (by omega) (by omega) (by omega)
theorem nums_ne {l : List (Int × Int)} (h : (nums l).Nodup) : ∀ p ∈ l, p.1 ≠ p.2 := by
  induction l with
  | nil => simp
  | cons q l ih =>
    simp only [nums, List.flatMap_cons, List.cons_append, List.nil_append] at h
    rw [List.nodup_cons] at h
    intro p hp
    rcases List.mem_cons.1 hp with rfl | hp
    · intro e; exact h.1 (by rw [e]; simp)
    · exact ih (List.nodup_cons.1 h.2).2 p hp
theorem good_iff {n : Int} {l : List (Int × Int)} (hn : 3 ≤ n) (hn2 : n ≤ 47) (hl : ∀ p ∈ l, InR n p) (hlen : 2 * (l.length : Int) = n - 1) :
    Good n l ↔ ∀ k, 1 ≤ k → k < n → timesI n k 0 l = 1 ∧ timesI n k 1 l = 1 := by
  have hN := pig (nums_in hl) (by rw [nums_length]; omega)
  constructor
  · rintro ⟨_, h1, h2⟩ k k1 k2
    have hD := pig (difs_in hl (nums_ne h1)) (by rw [difs_length]; omega)
    rw [times_num, times_dif n k hn hn2 l hl, hN.1 h1 k k1 k2, hD.1 h2 k k1 k2]
    exact ⟨rfl, rfl⟩
  · intro h
    have h1 : (nums l).Nodup := hN.2 fun k k1 k2 => by have := (h k k1 k2).1; rw [times_num] at this; omega
    have hD := pig (difs_in hl (nums_ne h1)) (by rw [difs_length]; omega)
    exact ⟨hl, h1, hD.2 fun k k1 k2 => by have := (h k k1 k2).2; rw [times_dif n k hn hn2 l hl] at this; omega⟩
theorem str_iff {n : Int} {l : List (Int × Int)} (hn : 3 ≤ n) (hn2 : n ≤ 47) (hl : ∀ p ∈ l, InR n p) :
    Str n l ↔ timesI n 0 2 l = 0 ∧ ∀ k, 1 ≤ k → k < n → timesI n k 2 l ≤ 1 := by
  have hin : ∀ x ∈ sums n l, 0 ≤ x ∧ x < n := by
    intro x hx
    simp only [sums, List.mem_map] at hx
    obtain ⟨p, hp, rfl⟩ := hx
    have h1 := hl p hp
    unfold InR at h1
    rw [Int.tmod_eq_emod_of_nonneg (by omega)]
    exact ⟨Int.emod_nonneg _ (by omega), Int.emod_lt_of_pos _ (by omega)⟩
  constructor
  · rintro ⟨h1, h2⟩
    refine ⟨by rw [times_sum n 0 hn hn2 l hl, List.count_eq_zero.2 h2]; rfl, fun k _ _ => ?_⟩
    rw [times_sum n k hn hn2 l hl]
    have := List.nodup_iff_count.1 h1 k
    omega
  · rintro ⟨h1, h2⟩
    rw [times_sum n 0 hn hn2 l hl] at h1
    refine ⟨List.nodup_iff_count.2 fun a => ?_, List.count_eq_zero.1 (by omega)⟩
    by_cases ha : a ∈ sums n l
    · have h3 := hin a ha
      by_cases h0 : a = 0
      · subst h0; omega
      · have := h2 a (by omega) h3.2
        rw [times_sum n a hn hn2 l hl] at this
        omega
    · rw [List.count_eq_zero.2 ha]; omega

theorem refCheck_fun (n : Int) (l : List (Int × Int)) (hl : l.length ≤ 2 ^ 32) : IFun true Try.prog [] 29 [.int .i64 n, .fz 2 (prs l)] (fun v => ∃ b e, v = .tup [.bool b, .int .i64 e] ∧ ChkV n l b e) := by
  refine IFun.of_bodyZ false 6 [6, 7, 8, 19, 25, 29, 63, 70, 84, 89] Try.func29 rfl Try.call29 rfl fun R hR => ?_
  simp [go_sem]
  split
  · rename_i hb
    exact hR _ _ _ ⟨_, _, rfl, .inl ⟨by unfold BadN; omega, rfl, rfl⟩⟩ (by simp [go_sem])
  rename_i hb
  have hbad : ¬ BadN n := by unfold BadN; omega
  have hn : 3 ≤ n ∧ n ≤ 47 := by omega
  have hodd : n % 2 = 1 := by
    have : ¬ n.tmod 2 = 0 := fun h => hbad (.inl h)
    rw [Int.tmod_eq_emod_of_nonneg (by omega)] at this; omega
  have hq0 : (n - 1).tdiv 2 = (n - 1) / 2 := Int.tdiv_eq_ediv_of_nonneg (by omega)
  rw [wrap64 (n := n - 1) (by omega) (by omega), wrap64 (by omega) (by omega)]
  split
  case isFalse hlen => exact hR _ _ _ ⟨_, _, rfl, .inr (.inl ⟨hbad, .inl hlen, rfl, rfl⟩)⟩ (by simp [go_sem])
  rename_i hlen
  refine IWp.loopE (α := Nat) (fun i => (⟨false, 91, 6, [6, 7, 8, 19, 25, 29, 63, 70, 84, 89], [], [(0, .int .i64 n), (1, .fz 2 (prs l)), (6, .int .i64 i)], []⟩, [])) (fun i => i ≤ l.length ∧ ∀ p ∈ l.take i, InR n p) (fun i => l.length - i) 0 ⟨by omega, by simp⟩ (by simp [go_sem]) ?_
  rintro i ⟨hi, hi2⟩
  by_cases h : i < l.length
  · simp [go_sem, h]
    split
    · rename_i hbd
      refine hR _ _ _ ⟨_, _, rfl, .inr (.inl ⟨hbad, .inr fun hs => ?_, rfl, rfl⟩)⟩ (by simp [go_sem])
      have := hs.1 l[i] (by simp)
      unfold InR at this; omega
    · rename_i hbd
      refine ⟨i + 1, by rw [wrap64 (by omega) (by omega)]; rfl, ⟨by omega, fun a b hab => ?_⟩, by omega⟩
      rw [List.take_succ_eq_append_getElem h, List.mem_append] at hab
      rcases hab with hab | hab
      · exact hi2 _ hab
      · simp only [List.mem_singleton] at hab
        rw [hab]; unfold InR; omega
  · have hall : ∀ p ∈ l, InR n p := by rw [List.take_of_length_le (by omega)] at hi2; exact hi2
    have hgood := good_iff hn.1 hn.2 hall (by omega)
    have hstr := str_iff hn.1 hn.2 hall
    simp [go_sem, h]
    refine (times_fun n 0 2 l hl (by omega)).callM (by simp [go_sem]) ?_
    rintro _ rfl
    simp [go_sem]
    refine IWp.loopE (α := Nat × Bool) (fun x => (⟨false, 91, 6, [6, 7, 8, 19, 25, 29, 63, 70, 84, 89], [], [(0, .int .i64 n), (1, .fz 2 (prs l)), (7, .bool x.2), (8, .int .i64 (x.1 + 1))], []⟩, [])) (fun x => (x.1 : Int) + 1 ≤ n ∧ (∀ k, 1 ≤ k → k < (x.1 : Int) + 1 → timesI n k 0 l = 1 ∧ timesI n k 1 l = 1) ∧ (x.2 = true ↔ timesI n 0 2 l = 0 ∧ ∀ k, 1 ≤ k → k < (x.1 : Int) + 1 → timesI n k 2 l ≤ 1)) (fun x => n.toNat - x.1) (0, timesI n 0 2 l == 0) ⟨by simp; omega, by simp; omega, by simp; omega⟩ (by simp [go_sem]) ?_
    rintro ⟨k, b⟩ ⟨hk, hk2, hk3⟩
    simp only at hk hk2 hk3
    by_cases hkn : (k : Int) + 1 < n
    · have bad : ¬ (timesI n (k + 1) 0 l = 1 ∧ timesI n (k + 1) 1 l = 1) → ¬ Good n l := fun h hg => h (hgood.1 hg (k + 1) (by omega) hkn)
      simp [go_sem, hkn]
      refine (times_fun n (k + 1) 0 l hl (by omega)).callM (by simp [go_sem]) ?_
      rintro _ rfl
      simp [go_sem]
      split
      case isFalse h0 => exact ⟨h0, hR _ _ _ ⟨false, 260, rfl, .inr (.inl ⟨hbad, .inr (bad fun h => h0 h.1), rfl, rfl⟩)⟩ (by simp [go_sem])⟩
      rename_i h0
      refine ⟨h0, (times_fun n (k + 1) 1 l hl (by omega)).callM (by simp [go_sem]) ?_⟩
      rintro _ rfl
      simp [go_sem, h0]
      split
      case isFalse h1 => exact hR _ _ _ ⟨false, 260, rfl, .inr (.inl ⟨hbad, .inr (bad fun h => h1 h.2), rfl, rfl⟩)⟩ (by simp [go_sem])
      rename_i h1
      refine (times_fun n (k + 1) 2 l hl (by omega)).callM (by simp [go_sem]) ?_
      rintro _ rfl
      have hk2' : ∀ j, 1 ≤ j → j < (k : Int) + 1 + 1 → timesI n j 0 l = 1 ∧ timesI n j 1 l = 1 := fun j a c => by
        by_cases e : j = k + 1
        · subst e; exact ⟨h0, h1⟩
        · exact hk2 j a (by omega)
      simp [go_sem]
      split
      · rename_i h2
        refine ⟨k + 1, by rw [wrap64 (by omega) (by omega)]; rfl, ⟨by omega, fun j a c => hk2' j a (by omega), fun _ => ⟨k + 1, by omega, by omega, h2⟩⟩, by omega⟩
      · rename_i h2
        refine ⟨k + 1, ?_⟩
        have hw : IntKind.i64.wrap ((k : Int) + 1 + 1) = ((k + 1 : Nat) : Int) + 1 := by rw [wrap64 (by omega) (by omega)]; rfl
        cases b with
        | false =>
          refine .inl ⟨⟨rfl, hw⟩, ⟨by omega, fun j a c => hk2' j a (by omega), fun hs => ?_⟩, by omega⟩
          have : ¬ ∀ j, 1 ≤ j → j < (k : Int) + 1 → timesI n j 2 l ≤ 1 := fun h => by have := hk3.2 ⟨hs, h⟩; cases this
          apply Classical.byContradiction
          intro hne
          exact this fun j a c => Int.not_lt.1 fun hlt => hne ⟨j, a, by omega, hlt⟩
        | true =>
          obtain ⟨a1, a2⟩ := hk3.1 rfl
          refine .inr ⟨⟨rfl, hw⟩, ⟨by omega, fun j a c => hk2' j a (by omega), a1, fun j a c => ?_⟩, by omega⟩
          by_cases e : j = k + 1
          · subst e; omega
          · exact a2 j a (by omega)
    · simp [go_sem, hkn]
      refine hR _ _ _ ⟨b, 0, rfl, .inr (.inr ⟨hbad, hlen, hgood.2 fun j j1 j2 => hk2 j j1 (by omega), ?_, rfl⟩)⟩ (by simp [go_sem])
      rw [hstr, hk3]
      exact ⟨fun h => ⟨h.1, fun j a c => h.2 j a (by omega)⟩, fun h => ⟨h.1, fun j a c => h.2 j a (by omega)⟩⟩
end Go.Idl
