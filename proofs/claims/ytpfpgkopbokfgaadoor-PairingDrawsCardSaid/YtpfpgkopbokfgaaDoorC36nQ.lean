/-
  Chapter 36, plain law: draws one after another; the place of one.
-/
import Derived.Test.YtpfpgkopbokfgaaDoorC36nP
namespace Go.Idl
set_option linter.all false
set_option maxHeartbeats 4000000
set_option maxRecDepth 40000

section
variable {α : Type} [DecidableEq α] {ok : α → α → Bool}
/-- The others. -/
def wo (b : α) (l : List α) : List α := l.filter fun x => !(decide (x = b))
/-- The draws in which a meets one of J. -/
def dJ (ok : α → α → Bool) (a : α) (rest J : List α) : List (List (α × α)) := J.flatMap fun b => (drs ok (wo b rest)).map ((a, b) :: ·)
theorem dJ_nil (a : α) (rest : List α) : dJ ok a rest [] = [] := rfl
theorem dJ_cons (a : α) (rest : List α) (b : α) (J : List α) : dJ ok a rest (b :: J) = (drs ok (wo b rest)).map ((a, b) :: ·) ++ dJ ok a rest J := rfl
theorem dJ_append (a : α) (rest : List α) (J K : List α) : dJ ok a rest (J ++ K) = dJ ok a rest J ++ dJ ok a rest K := by simp [dJ]
theorem flat_filter {γ δ : Type} {l : List γ} {f : γ → List δ} {q : γ → Bool} : (l.flatMap fun b => if q b = true then f b else []) = (l.filter q).flatMap f := by
  induction l with
  | nil => rfl
  | cons a l ih =>
    simp only [List.flatMap_cons, List.filter_cons, ih]
    split <;> simp
theorem drs_nodup (a : α) {rest : List α} (h : rest.Nodup) : drs ok (a :: rest) = dJ ok a rest (rest.filter (ok a)) := by
  rw [drs_cons, picks_nodup h, List.flatMap_map]
  exact flat_filter
theorem dJ_length (a : α) (rest J : List α) : (dJ ok a rest J).length = (J.map fun b => cntL ok (wo b rest)).sum := by
  simp [dJ, List.length_flatMap, cntL, Function.comp_def]
theorem drs_len : ∀ (n : Nat) (l : List α), l.length ≤ n → ∀ d ∈ drs ok l, 2 * d.length = l.length
  | _, [], _, d, hd => by rw [drs_nil] at hd; simp at hd; simp [hd]
  | 0, _ :: _, h, _, _ => by simp at h
  | n + 1, a :: rest, h, d, hd => by
    rw [drs_cons, List.mem_flatMap] at hd
    obtain ⟨p, hp, hd⟩ := hd
    have h1 := picks_len hp
    split at hd
    · obtain ⟨d', hd', rfl⟩ := List.mem_map.1 hd
      have := drs_len n p.2 (by simp at h; omega) d' hd'
      simp only [List.length_cons]; omega
    · cases hd

/-- The place of one in a list. -/
def ix {γ : Type} [DecidableEq γ] : List γ → γ → Option Nat
  | [], _ => none
  | x :: l, d => if x = d then some 0 else (ix l d).map (· + 1)
variable {γ : Type} [DecidableEq γ]
theorem ix_append (l m : List γ) (d : γ) : ix (l ++ m) d = match ix l d with | some i => some i | none => (ix m d).map (· + l.length) := by
  induction l with
  | nil => simp [ix]
  | cons x l ih =>
    simp only [List.cons_append, ix]
    split
    · rfl
    · rw [ih]
      cases ix l d with
      | some i => rfl
      | none =>
        simp only [Option.map_none, Option.map_map]
        congr 1
theorem ix_none {l : List γ} {d : γ} : ix l d = none ↔ d ∉ l := by
  induction l with
  | nil => simp [ix]
  | cons x l ih =>
    simp only [ix, List.mem_cons]
    split
    · rename_i h; simp [h]
    · rename_i h; rw [Option.map_eq_none_iff, ih]; simp [Ne.symm h]
theorem ix_some {l : List γ} {d : γ} {i : Nat} (h : ix l d = some i) : l[i]? = some d ∧ ∀ j, j < i → l[j]? ≠ some d := by
  induction l generalizing i with
  | nil => cases h
  | cons x l ih =>
    simp only [ix] at h
    split at h
    · rename_i h1; cases h; simp [h1]
    · rename_i h1
      cases hi : ix l d with
      | none => rw [hi] at h; cases h
      | some k =>
        rw [hi] at h; cases h
        have := ih hi
        refine ⟨by simpa using this.1, fun j hj => ?_⟩
        have hj : j < k + 1 := hj
        cases j with
        | zero => simpa using h1
        | succ j => simpa using this.2 j (by omega)
theorem ix_map {δ : Type} [DecidableEq δ] {f : γ → δ} (hf : ∀ x y, f x = f y → x = y) (l : List γ) (d : γ) : ix (l.map f) (f d) = ix l d := by
  induction l with
  | nil => rfl
  | cons x l ih =>
    simp only [List.map_cons, ix, ih]
    by_cases h : x = d
    · rw [if_pos h, if_pos (by rw [h])]
    · rw [if_neg h, if_neg fun e => h (hf _ _ e)]
theorem ix_get {l : List γ} (h : l.Nodup) {i : Nat} (hi : i < l.length) : ix l l[i] = some i := by
  cases hx : ix l l[i] with
  | none => exact absurd (List.getElem_mem hi) (ix_none.1 hx)
  | some k =>
    obtain ⟨h1, h2⟩ := ix_some hx
    obtain ⟨h3, h4⟩ := List.getElem?_eq_some_iff.1 h1
    have hp := List.pairwise_iff_getElem.1 h
    rcases Nat.lt_trichotomy i k with e | e | e
    · exact absurd (List.getElem?_eq_getElem hi) (h2 i e)
    · rw [e]
    · exact absurd h4 (hp k i h3 hi e)
theorem ix_dJ {a : α} {rest : List α} : ∀ {J : List α} {x y : α} {d : List (α × α)}, (x ≠ a ∨ y ∉ J) → ix (dJ ok a rest J) ((x, y) :: d) = none
  | [], _, _, _, _ => rfl
  | b :: J, x, y, d, h => by
    rw [dJ_cons, ix_append]
    have h1 : ix ((drs ok (wo b rest)).map ((a, b) :: ·)) ((x, y) :: d) = none := by
      rw [ix_none]
      intro hm
      obtain ⟨d', _, e⟩ := List.mem_map.1 hm
      simp only [List.cons.injEq, Prod.mk.injEq] at e
      rcases h with h | h
      · exact h e.1.1.symm
      · exact h (by simp [e.1.2])
    rw [h1, ix_dJ (h.imp_right fun h hm => h (by simp [hm]))]
    rfl
theorem ix_dJ_at {a b : α} {rest J K : List α} {d : List (α × α)} (hb : b ∉ J) : ix (dJ ok a rest (J ++ b :: K)) ((a, b) :: d) = match ix (drs ok (wo b rest)) d with | some i => some (i + (dJ ok a rest J).length) | none => ix (dJ ok a rest K) ((a, b) :: d) |>.map (· + ((drs ok (wo b rest)).length + (dJ ok a rest J).length)) := by
  rw [dJ_append, ix_append, ix_dJ (.inr hb), dJ_cons, ix_append, ix_map (f := ((a, b) :: ·)) (fun x y e => (List.cons.inj e).2)]
  cases ix (drs ok (wo b rest)) d with
  | some i => rfl
  | none =>
    simp only [Option.map_map, List.length_map]
    congr 1; funext i; simp only [Function.comp]; omega
end
end Go.Idl
