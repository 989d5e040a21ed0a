/-
  Chapter 36, plain law: draws of a list, how many, which, and the number of one.
-/
import Derived.Test.YtpfpgkopbokfgaaDoorC36nB
namespace Go.Idl
set_option linter.all false
set_option maxHeartbeats 4000000
set_option maxRecDepth 40000

section
variable {α β : Type}
/-- Each one with the others. -/
def picks : List α → List (α × List α)
  | [] => []
  | b :: r => (b, r) :: (picks r).map fun p => (p.1, b :: p.2)
theorem picks_length : ∀ l : List α, (picks l).length = l.length
  | [] => rfl
  | b :: r => by simp [picks, picks_length r]
theorem picks_len : ∀ {l : List α} {p : α × List α}, p ∈ picks l → p.2.length + 1 = l.length
  | b :: r, p, h => by
    simp only [picks, List.mem_cons, List.mem_map] at h
    rcases h with rfl | ⟨q, hq, rfl⟩
    · rfl
    · simp only [List.length_cons, picks_len hq]
theorem picks_at : ∀ (l : List α) (i : Nat) (h : i < l.length), (picks l)[i]? = some (l[i], l.eraseIdx i)
  | b :: r, 0, _ => by simp [picks]
  | b :: r, i + 1, h => by simp [picks, picks_at r i (by simpa using h)]
theorem picks_map (g : α → β) : ∀ l : List α, picks (l.map g) = (picks l).map fun p => (g p.1, p.2.map g)
  | [] => rfl
  | b :: r => by simp [picks, picks_map g r]
theorem picks_nodup [DecidableEq α] : ∀ {l : List α}, l.Nodup → picks l = l.map fun b => (b, l.filter fun x => !(decide (x = b)))
  | [], _ => rfl
  | b :: r, h => by
    rw [List.nodup_cons] at h
    simp only [picks, picks_nodup h.2, List.map_cons, List.map_map]
    congr 1
    · simp only [List.filter_cons, decide_true, Bool.not_true, Bool.false_eq_true, if_false, Prod.mk.injEq, true_and]
      rw [eq_comm, List.filter_eq_self]
      intro x hx
      have : x ≠ b := fun e => h.1 (e ▸ hx)
      simp [this]
    · apply List.map_congr_left
      intro x hx
      have : b ≠ x := fun e => h.1 (e ▸ hx)
      simp [this]
theorem picks_mem {l : List α} {p : α × List α} (h : p ∈ picks l) : p.1 ∈ l ∧ ∀ x ∈ p.2, x ∈ l := by
  induction l generalizing p with
  | nil => cases h
  | cons b r ih =>
    simp only [picks, List.mem_cons, List.mem_map] at h
    rcases h with rfl | ⟨q, hq, rfl⟩
    · exact ⟨by simp, fun x hx => by simp [hx]⟩
    · have := ih hq
      refine ⟨by simp [this.1], fun x hx => ?_⟩
      rcases List.mem_cons.1 hx with rfl | hx
      · simp
      · simp [this.2 x hx]

theorem flatMap_ext {l : List α} {f g : α → List β} (h : ∀ x ∈ l, f x = g x) : l.flatMap f = l.flatMap g := by
  induction l with
  | nil => rfl
  | cons a l ih => rw [List.flatMap_cons, List.flatMap_cons, h a (by simp), ih fun x hx => h x (by simp [hx])]
/-- All draws. -/
def drsF (ok : α → α → Bool) : Nat → List α → List (List (α × α))
  | _, [] => [[]]
  | 0, _ :: _ => []
  | f + 1, a :: rest => (picks rest).flatMap fun p => if ok a p.1 = true then (drsF ok f p.2).map ((a, p.1) :: ·) else []
def drs (ok : α → α → Bool) (l : List α) : List (List (α × α)) := drsF ok l.length l
variable {ok : α → α → Bool}
theorem drsF_fuel : ∀ (f : Nat) (l : List α), l.length ≤ f → drsF ok f l = drsF ok l.length l
  | _, [], _ => by simp [drsF]
  | 0, _ :: _, h => by simp at h
  | f + 1, a :: rest, h => by
    simp only [drsF, List.length_cons]
    apply flatMap_ext
    intro p hp
    have := picks_len hp
    rw [drsF_fuel f p.2 (by simp at h; omega), drsF_fuel rest.length p.2 (by omega)]
theorem drs_nil : drs ok [] = [[]] := by simp [drs, drsF]
theorem drs_cons (a : α) (rest : List α) : drs ok (a :: rest) = (picks rest).flatMap fun p => if ok a p.1 = true then (drs ok p.2).map ((a, p.1) :: ·) else [] := by
  simp only [drs, drsF, List.length_cons]
  apply flatMap_ext
  intro p hp
  have := picks_len hp
  rw [drsF_fuel rest.length p.2 (by omega)]
theorem drs_map (g : α → β) {ok' : β → β → Bool} (h : ∀ a b, ok a b = ok' (g a) (g b)) : ∀ (n : Nat) (l : List α), l.length ≤ n → drs ok' (l.map g) = (drs ok l).map fun d => d.map fun p => (g p.1, g p.2)
  | _, [], _ => by simp [drs_nil]
  | 0, _ :: _, h => by simp at h
  | n + 1, a :: rest, hl => by
    rw [List.map_cons, drs_cons, drs_cons, picks_map, List.flatMap_map, List.map_flatMap]
    apply flatMap_ext
    intro p hp
    have := picks_len hp
    simp only [← h]
    split
    · rw [drs_map g h n p.2 (by simp at hl; omega), List.map_map, List.map_map]
      apply List.map_congr_left
      intro d _
      simp
    · rfl
theorem nodup_picks {l : List α} (h : l.Nodup) {p : α × List α} (hp : p ∈ picks l) : p.2.Nodup ∧ p.1 ∉ p.2 := by
  induction l generalizing p with
  | nil => cases hp
  | cons b r ih =>
    rw [List.nodup_cons] at h
    simp only [picks, List.mem_cons, List.mem_map] at hp
    rcases hp with rfl | ⟨q, hq, rfl⟩
    · exact ⟨h.2, h.1⟩
    · have := ih h.2 hq
      have hm := picks_mem hq
      refine ⟨List.nodup_cons.2 ⟨fun hb => h.1 (hm.2 b hb), this.1⟩, ?_⟩
      simp only [List.mem_cons, not_or]
      exact ⟨fun e => h.1 (e ▸ hm.1), this.2⟩
theorem drs_congr {ok' : α → α → Bool} : ∀ (n : Nat) (l : List α), l.length ≤ n → l.Nodup → (∀ a ∈ l, ∀ b ∈ l, a ≠ b → ok a b = ok' a b) → drs ok l = drs ok' l
  | _, [], _, _, _ => by simp [drs_nil]
  | 0, _ :: _, h, _, _ => by simp at h
  | n + 1, a :: rest, hl, hn, h => by
    rw [drs_cons, drs_cons]
    apply flatMap_ext
    intro p hp
    have h1 := picks_len hp
    have h2 := picks_mem hp
    rw [List.nodup_cons] at hn
    rw [h a (by simp) p.1 (by simp [h2.1]) (fun e => hn.1 (e ▸ h2.1)), drs_congr n p.2 (by simp at hl; omega) (nodup_picks hn.2 hp).1 fun x hx y hy => h x (by simp [h2.2 x hx]) y (by simp [h2.2 y hy])]

/-- How many. -/
def cntL (ok : α → α → Bool) (l : List α) : Nat := (drs ok l).length
theorem cntL_nil : cntL ok [] = 1 := by simp [cntL, drs_nil]
theorem cntL_cons (a : α) (rest : List α) : cntL ok (a :: rest) = ((picks rest).map fun p => if ok a p.1 = true then cntL ok p.2 else 0).sum := by
  unfold cntL
  rw [drs_cons, List.length_flatMap]
  congr 1
  apply List.map_congr_left
  intro p _
  split <;> simp
theorem sum_filter {l : List α} {f : α → Nat} {q : α → Bool} : (l.map fun b => if q b = true then f b else 0).sum = ((l.filter q).map f).sum := by
  induction l with
  | nil => rfl
  | cons a l ih =>
    simp only [List.map_cons, List.sum_cons, List.filter_cons, ih]
    split <;> simp
theorem cntL_nodup [DecidableEq α] (a : α) {rest : List α} (h : rest.Nodup) : cntL ok (a :: rest) = ((rest.filter (ok a)).map fun b => cntL ok (rest.filter fun x => !(decide (x = b)))).sum := by
  rw [cntL_cons, picks_nodup h, List.map_map]
  exact sum_filter
theorem sum_le {l : List α} {f : α → Nat} {B : Nat} (h : ∀ x ∈ l, f x ≤ B) : (l.map f).sum ≤ l.length * B := by
  induction l with
  | nil => simp
  | cons a l ih =>
    have := ih fun x hx => h x (by simp [hx])
    have h2 := h a (by simp)
    simp only [List.map_cons, List.sum_cons, List.length_cons, Nat.add_mul]
    omega
theorem cntL_le : ∀ (k : Nat) (l : List α), l.length ≤ 2 * k → l.length ≤ 17 → cntL ok l ≤ 16 ^ k
  | k, [], _, _ => by rw [cntL_nil]; exact Nat.pow_pos (by decide)
  | 0, a :: rest, h, _ => by simp at h
  | k + 1, a :: rest, h, h2 => by
    rw [cntL_cons]
    refine Nat.le_trans (sum_le (B := 16 ^ k) fun p hp => ?_) ?_
    · split
      · have := picks_len hp
        exact cntL_le k p.2 (by simp at h; omega) (by simp at h2; omega)
      · exact Nat.zero_le _
    · rw [picks_length, Nat.pow_succ, Nat.mul_comm]
      exact Nat.mul_le_mul_left _ (by simpa using h2)
end
end Go.Idl
