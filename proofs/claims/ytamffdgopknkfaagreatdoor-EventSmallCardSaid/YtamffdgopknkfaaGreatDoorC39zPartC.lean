import Derived.Test.YtamffdgopknkfaaGreatDoorC39zPartB
set_option linter.all false
set_option maxHeartbeats 4000000
set_option maxRecDepth 40000
namespace Go.Idl
open Go.Proofs
def prs (l : List (Int × Int)) : List (List IV) := mp (fun p => [.int .i64 p.1, .int .i64 p.2]) l
@[simp] theorem prs_length (l : List (Int × Int)) : (prs l).length = l.length := mp_length
@[simp] theorem prs_getElem (l : List (Int × Int)) (i : Nat) (h : i < (prs l).length) : (prs l)[i] = [.int .i64 (l[i]'(by simpa using h)).1, .int .i64 (l[i]'(by simpa using h)).2] := by simp [prs, mp]
theorem prs_snoc {l : List (Int × Int)} {x : Int × Int} : prs (l ++ [x]) = prs l ++ [[.int .i64 x.1, .int .i64 x.2]] := mp_snoc
theorem prs_append {l m : List (Int × Int)} : prs (l ++ m) = prs l ++ prs m := mp_append
@[go_sem] theorem prs_nil : prs [] = [] := rfl
@[go_sem] theorem ScR_prs {l : List (Int × Int)} : ScR (prs l) = True := eq_true (mp_sc (by simp [scal]))
@[go_sem] theorem ClR_prs {l : List (Int × Int)} : ClR (prs l) = True := eq_true (ScR.cl (mp_sc (by simp [scal])))
@[go_sem] theorem BlR_prs {n : Nat} {l : List (Int × Int)} : BlR n (prs l) = True := eq_true (ScR.bl (mp_sc (by simp [scal])))
theorem prs_rows {l : List (Int × Int)} : ∀ r ∈ prs l, r.length = 2 := mp_rows (by simp)
theorem prs_one {l : List (Int × Int)} : ∀ a ∈ prs l, a.length = 2 ∧ ∀ x ∈ a, IV.one x = true := rows_one (mp_sc (by simp [scal])) prs_rows
end Go.Idl
namespace Go.Idl
theorem wrapu32 {n : Int} (h1 : 0 ≤ n) (h2 : n < 4294967296) : IntKind.u32.wrap n = n := by
 simp [IntKind.wrap, IntKind.bits, IntKind.signed]
 omega
def bitsL (m : Nat) : List Nat := (List.range 32).filter fun i => Nat.testBit m i
theorem bitsL_mem {m i : Nat} : i ∈ bitsL m ↔ i < 32 ∧ Nat.testBit m i = true := by simp [bitsL]
theorem bitsL_zero : bitsL 0 = [] := by decide
theorem bitsL_nodup (m : Nat) : (bitsL m).Nodup := List.nodup_range.filter _
theorem bitsL_sorted (m : Nat) : (bitsL m).Pairwise (· < ·) := List.pairwise_lt_range.filter _
theorem bitsL_ne {m : Nat} (h0 : m ≠ 0) (h : m < 2 ^ 32) : bitsL m ≠ [] := by
 intro e
 obtain ⟨i, hi⟩ := Nat.exists_testBit_of_ne_zero h0
 have : i < 32 := by
  apply Decidable.byContradiction
  intro hn
  have : m < 2 ^ i := Nat.lt_of_lt_of_le h (Nat.pow_le_pow_right (by decide) (by omega))
  rw [Nat.testBit_lt_two_pow this] at hi; cases hi
 have h2 : i ∈ bitsL m := bitsL_mem.2 ⟨this, hi⟩
 rw [e] at h2; cases h2
def tz (m : Nat) : Nat := (bitsL m).headD 32
theorem tz_spec {m : Nat} (h0 : m ≠ 0) (h : m < 2 ^ 32) : tz m < 32 ∧ Nat.testBit m (tz m) = true ∧ ∀ j, j < tz m → Nat.testBit m j = false := by
 have hs := bitsL_sorted m
 unfold tz
 cases hb : bitsL m with
 | nil => exact absurd hb (bitsL_ne h0 h)
 | cons a r =>
  have ha : a ∈ bitsL m := by rw [hb]; simp
  refine ⟨(bitsL_mem.1 ha).1, (bitsL_mem.1 ha).2, fun j hj => ?_⟩
  simp only [List.headD_cons] at hj
  rw [hb, List.pairwise_cons] at hs
  cases ht : Nat.testBit m j with
  | false => rfl
  | true =>
   have hj2 : j ∈ bitsL m := bitsL_mem.2 ⟨by have := (bitsL_mem.1 ha).1; omega, ht⟩
   rw [hb] at hj2
   rcases List.mem_cons.1 hj2 with e | e
   ·omega
   ·have := hs.1 j e; omega
theorem pred_bit {m a : Nat} (h1 : Nat.testBit m a = true) (h2 : ∀ j, j < a → Nat.testBit m j = false) (j : Nat) : Nat.testBit (m - 1) j = if j < a then true else if j = a then false else Nat.testBit m j := by
 have hz : m % 2 ^ a = 0 := by
  apply Nat.eq_of_testBit_eq
  intro i
  rw [Nat.testBit_mod_two_pow, Nat.zero_testBit]
  by_cases h : i < a
  ·rw [h2 i h]; simp
  ·simp [h]
 have hm : m = 2 ^ a * (m / 2 ^ a) := by have := Nat.div_add_mod m (2 ^ a); omega
 have hodd : (m / 2 ^ a) % 2 = 1 := by
  have : Nat.testBit (m / 2 ^ a) 0 = true := by rw [Nat.testBit_div_two_pow]; simpa using h1
  simpa [Nat.testBit_zero] using this
 obtain ⟨q, hq⟩ : ∃ q, m / 2 ^ a = 2 * q + 1 := ⟨m / 2 ^ a / 2, by omega⟩
 rw [hq] at hm
 have hp : 0 < 2 ^ a := Nat.pow_pos (by decide)
 have hm1 : m - 1 = 2 ^ a * (2 * q) + (2 ^ a - 1) := by rw [hm, Nat.mul_add]; omega
 rw [hm1, Nat.testBit_two_pow_mul_add _ (by omega)]
 by_cases hj : j < a
 ·rw [if_pos hj, if_pos hj, Nat.testBit_two_pow_sub_one]; simpa using hj
 ·rw [if_neg hj, if_neg hj]
  by_cases hja : j = a
  ·subst hja; simp
  ·rw [if_neg hja]
   obtain ⟨k, hk⟩ : ∃ k, j - a = k + 1 := ⟨j - a - 1, by omega⟩
   have h3 : Nat.testBit m j = Nat.testBit (2 * q + 1) (j - a) := by
    conv => lhs; rw [hm, show 2 ^ a * (2 * q + 1) = 2 ^ a * (2 * q + 1) + 0 by omega]
    rw [Nat.testBit_two_pow_mul_add _ hp, if_neg hj]
   rw [h3, hk, Nat.testBit_succ, Nat.testBit_succ]
   congr 1; omega
theorem clear_bit {m : Nat} (h0 : m ≠ 0) (h : m < 2 ^ 32) (j : Nat) : Nat.testBit (m &&& (m - 1)) j = (Nat.testBit m j && !(decide (j = tz m))) := by
 obtain ⟨_, h1, h2⟩ := tz_spec h0 h
 rw [Nat.testBit_and, pred_bit h1 h2]
 by_cases hj : j < tz m
 ·rw [if_pos hj, h2 j hj]; rfl
 ·rw [if_neg hj]
  by_cases hja : j = tz m
  ·rw [if_pos hja]; simp [hja]
  ·rw [if_neg hja]; simp [hja]
theorem low_bit {m : Nat} (h0 : m ≠ 0) (h : m < 2 ^ 32) : m &&& (2 ^ 32 - m) = 2 ^ tz m := by
 obtain ⟨h3, h1, h2⟩ := tz_spec h0 h
 apply Nat.eq_of_testBit_eq
 intro j
 rw [Nat.testBit_and, Nat.testBit_two_pow, show 2 ^ 32 - m = 2 ^ 32 - ((m - 1) + 1) by omega, Nat.testBit_two_pow_sub_succ (by omega), pred_bit h1 h2]
 by_cases hj : j < tz m
 ·rw [if_pos hj, h2 j hj]; simp; omega
 ·rw [if_neg hj]
  by_cases hja : j = tz m
  ·rw [if_pos hja]; subst hja; simp [h1, h3]
  ·rw [if_neg hja]
   cases Nat.testBit m j <;> simp <;> omega
theorem bitsL_clear {m : Nat} (h0 : m ≠ 0) (h : m < 2 ^ 32) : bitsL m = tz m :: bitsL (m &&& (m - 1)) := by
 have h1 : bitsL (m &&& (m - 1)) = (bitsL m).filter fun j => !(decide (j = tz m)) := by
  unfold bitsL
  rw [List.filter_filter]
  congr 1; funext j
  rw [clear_bit h0 h, Bool.and_comm]
 rw [h1]
 have hs := bitsL_nodup m
 unfold tz
 cases hb : bitsL m with
 | nil => exact absurd hb (bitsL_ne h0 h)
 | cons a r =>
  rw [hb, List.nodup_cons] at hs
  simp only [List.headD_cons, List.filter_cons, decide_true, Bool.not_true, Bool.false_eq_true, if_false, List.cons.injEq, true_and]
  rw [eq_comm, List.filter_eq_self]
  intro x hx
  have : x ≠ a := fun e => hs.1 (e ▸ hx)
  simp [this]
theorem bitsL_and (m o : Nat) : bitsL (m &&& o) = (bitsL m).filter fun i => Nat.testBit o i := by
 unfold bitsL
 rw [List.filter_filter]
 congr 1; funext j
 rw [Nat.testBit_and, Bool.and_comm]
def anb (a b : Nat) : Nat := (BitVec.ofNat 32 a &&& ~~~(BitVec.ofNat 32 b)).toNat
theorem anb_lt (a b : Nat) : anb a b < 2 ^ 32 := BitVec.isLt _
theorem anb_bit {a : Nat} (b : Nat) (h : a < 2 ^ 32) (j : Nat) : Nat.testBit (anb a b) j = (Nat.testBit a j && !(Nat.testBit b j)) := by
 unfold anb
 rw [BitVec.testBit_toNat, BitVec.getLsbD_and, BitVec.getLsbD_not, BitVec.getLsbD_ofNat, BitVec.getLsbD_ofNat]
 by_cases hj : j < 32
 ·simp [hj]
 ·have : Nat.testBit a j = false := Nat.testBit_lt_two_pow (Nat.lt_of_lt_of_le h (Nat.pow_le_pow_right (by decide) (by omega)))
  simp [this]
theorem bitsL_anb {m : Nat} (b : Nat) (h : m < 2 ^ 32) : bitsL (anb m (2 ^ b)) = (bitsL m).filter fun i => !(decide (i = b)) := by
 unfold bitsL
 rw [List.filter_filter]
 congr 1; funext j
 rw [anb_bit _ h, Nat.testBit_two_pow, Bool.and_comm]
 congr 2
 exact decide_eq_decide.2 eq_comm
theorem and_lt {m o : Nat} (h : m < 2 ^ 32) : m &&& o < 2 ^ 32 := Nat.lt_of_le_of_lt Nat.and_le_left h
theorem anb_le {m b : Nat} (h : m < 2 ^ 32) : anb m b ≤ m := by
 have : anb m b = m &&& anb m b := by
  apply Nat.eq_of_testBit_eq
  intro j
  rw [Nat.testBit_and, anb_bit _ h]
  cases Nat.testBit m j <;> simp
 rw [this]; exact Nat.and_le_left
theorem u32_and {a b : Nat} (ha : a < 2 ^ 32) (hb : b < 2 ^ 32) : bitsOf .and .u32 (a : Int) (b : Int) = ((a &&& b : Nat) : Int) := by
 have h := and_lt (o := b) ha
 simp only [bitsOf, BitVec.ofInt_natCast, BitVec.toNat_and, BitVec.toNat_ofNat, show IntKind.u32.bits = 32 from rfl]
 rw [Nat.mod_eq_of_lt ha, Nat.mod_eq_of_lt hb]
 exact wrapu32 (by omega) (by omega)
theorem u32_andNot {a b : Nat} : bitsOf .andNot .u32 (a : Int) (b : Int) = (anb a b : Int) := by
 have h := anb_lt a b
 simp only [bitsOf, BitVec.ofInt_natCast]
 exact wrapu32 (Int.natCast_nonneg _) (by show (anb a b : Int) < _; omega)
theorem u32_neg {m : Nat} (h0 : m ≠ 0) (h : m < 2 ^ 32) : IntKind.u32.wrap (0 - (m : Int)) = ((2 ^ 32 - m : Nat) : Int) := by
 simp [IntKind.wrap, IntKind.bits, IntKind.signed]
 omega
theorem u32_pred {m : Nat} (h0 : m ≠ 0) (h : m < 2 ^ 32) : IntKind.u32.wrap ((m : Int) - 1) = ((m - 1 : Nat) : Int) := by
 rw [wrapu32 (by omega) (by omega)]; omega
end Go.Idl
namespace Go.Idl
section
variable {α β : Type}
def picks : List α → List (α × List α)
 | [] => []
 | b :: r => (b, r) :: (picks r).map fun p => (p.1, b :: p.2)
theorem picks_length : ∀ l : List α, (picks l).length = l.length
 | [] => rfl
 | b :: r => by simp [picks, picks_length r]
theorem picks_len : ∀ {l : List α} {p : α × List α}, p ∈ picks l → p.2.length + 1 = l.length
 | b :: r, p, h => by
  simp only [picks, List.mem_cons, List.mem_map] at h
  rcases h with rfl | ⟨q, hq, rfl⟩
  ·rfl
  ·simp only [List.length_cons, picks_len hq]
theorem picks_at : ∀ (l : List α) (i : Nat) (h : i < l.length), (picks l)[i]? = some (l[i], l.eraseIdx i)
 | b :: r, 0, _ => by simp [picks]
 | b :: r, i + 1, h => by simp [picks, picks_at r i (by simpa using h)]
theorem picks_map (g : α → β) : ∀ l : List α, picks (l.map g) = (picks l).map fun p => (g p.1, p.2.map g)
 | [] => rfl
 | b :: r => by simp [picks, picks_map g r]
theorem picks_nodup [DecidableEq α] : ∀ {l : List α}, l.Nodup → picks l = l.map fun b => (b, l.filter fun x => !(decide (x = b)))
 | [], _ => rfl
 | b :: r, h => by
  rw [List.nodup_cons] at h
  simp only [picks, picks_nodup h.2, List.map_cons, List.map_map]
  congr 1
  ·simp only [List.filter_cons, decide_true, Bool.not_true, Bool.false_eq_true, if_false, Prod.mk.injEq, true_and]
   rw [eq_comm, List.filter_eq_self]
   intro x hx
   have : x ≠ b := fun e => h.1 (e ▸ hx)
   simp [this]
  ·apply List.map_congr_left
   intro x hx
   have : b ≠ x := fun e => h.1 (e ▸ hx)
   simp [this]
theorem picks_mem {l : List α} {p : α × List α} (h : p ∈ picks l) : p.1 ∈ l ∧ ∀ x ∈ p.2, x ∈ l := by
 induction l generalizing p with
 | nil => cases h
 | cons b r ih =>
  simp only [picks, List.mem_cons, List.mem_map] at h
  rcases h with rfl | ⟨q, hq, rfl⟩
  ·exact ⟨by simp, fun x hx => by simp [hx]⟩
  ·have := ih hq
   refine ⟨by simp [this.1], fun x hx => ?_⟩
   rcases List.mem_cons.1 hx with rfl | hx
   ·simp
   ·simp [this.2 x hx]
theorem flatMap_ext {l : List α} {f g : α → List β} (h : ∀ x ∈ l, f x = g x) : l.flatMap f = l.flatMap g := by
 induction l with
 | nil => rfl
 | cons a l ih => rw [List.flatMap_cons, List.flatMap_cons, h a (by simp), ih fun x hx => h x (by simp [hx])]
def drsF (ok : α → α → Bool) : Nat → List α → List (List (α × α))
 | _, [] => [[]]
 | 0, _ :: _ => []
 | f + 1, a :: rest => (picks rest).flatMap fun p => if ok a p.1 = true then (drsF ok f p.2).map ((a, p.1) :: ·) else []
def drs (ok : α → α → Bool) (l : List α) : List (List (α × α)) := drsF ok l.length l
variable {ok : α → α → Bool}
theorem drsF_fuel : ∀ (f : Nat) (l : List α), l.length ≤ f → drsF ok f l = drsF ok l.length l
 | _, [], _ => by simp [drsF]
 | 0, _ :: _, h => by simp at h
 | f + 1, a :: rest, h => by
  simp only [drsF, List.length_cons]
  apply flatMap_ext
  intro p hp
  have := picks_len hp
  rw [drsF_fuel f p.2 (by simp at h; omega), drsF_fuel rest.length p.2 (by omega)]
theorem drs_nil : drs ok [] = [[]] := by simp [drs, drsF]
theorem drs_cons (a : α) (rest : List α) : drs ok (a :: rest) = (picks rest).flatMap fun p => if ok a p.1 = true then (drs ok p.2).map ((a, p.1) :: ·) else [] := by
 simp only [drs, drsF, List.length_cons]
 apply flatMap_ext
 intro p hp
 have := picks_len hp
 rw [drsF_fuel rest.length p.2 (by omega)]
theorem drs_map (g : α → β) {ok' : β → β → Bool} (h : ∀ a b, ok a b = ok' (g a) (g b)) : ∀ (n : Nat) (l : List α), l.length ≤ n → drs ok' (l.map g) = (drs ok l).map fun d => d.map fun p => (g p.1, g p.2)
 | _, [], _ => by simp [drs_nil]
 | 0, _ :: _, h => by simp at h
 | n + 1, a :: rest, hl => by
  rw [List.map_cons, drs_cons, drs_cons, picks_map, List.flatMap_map, List.map_flatMap]
  apply flatMap_ext
  intro p hp
  have := picks_len hp
  simp only [← h]
  split
  ·rw [drs_map g h n p.2 (by simp at hl; omega), List.map_map, List.map_map]
   apply List.map_congr_left
   intro d _
   simp
  ·rfl
theorem nodup_picks {l : List α} (h : l.Nodup) {p : α × List α} (hp : p ∈ picks l) : p.2.Nodup ∧ p.1 ∉ p.2 := by
 induction l generalizing p with
 | nil => cases hp
 | cons b r ih =>
  rw [List.nodup_cons] at h
  simp only [picks, List.mem_cons, List.mem_map] at hp
  rcases hp with rfl | ⟨q, hq, rfl⟩
  ·exact ⟨h.2, h.1⟩
  ·have := ih h.2 hq
   have hm := picks_mem hq
   refine ⟨List.nodup_cons.2 ⟨fun hb => h.1 (hm.2 b hb), this.1⟩, ?_⟩
   simp only [List.mem_cons, not_or]
   exact ⟨fun e => h.1 (e ▸ hm.1), this.2⟩
theorem drs_congr {ok' : α → α → Bool} : ∀ (n : Nat) (l : List α), l.length ≤ n → l.Nodup → (∀ a ∈ l, ∀ b ∈ l, a ≠ b → ok a b = ok' a b) → drs ok l = drs ok' l
 | _, [], _, _, _ => by simp [drs_nil]
 | 0, _ :: _, h, _, _ => by simp at h
 | n + 1, a :: rest, hl, hn, h => by
  rw [drs_cons, drs_cons]
  apply flatMap_ext
  intro p hp
  have h1 := picks_len hp
  have h2 := picks_mem hp
  rw [List.nodup_cons] at hn
  rw [h a (by simp) p.1 (by simp [h2.1]) (fun e => hn.1 (e ▸ h2.1)), drs_congr n p.2 (by simp at hl; omega) (nodup_picks hn.2 hp).1 fun x hx y hy => h x (by simp [h2.2 x hx]) y (by simp [h2.2 y hy])]
def cntL (ok : α → α → Bool) (l : List α) : Nat := (drs ok l).length
theorem cntL_nil : cntL ok [] = 1 := by simp [cntL, drs_nil]
theorem cntL_cons (a : α) (rest : List α) : cntL ok (a :: rest) = ((picks rest).map fun p => if ok a p.1 = true then cntL ok p.2 else 0).sum := by
 unfold cntL
 rw [drs_cons, List.length_flatMap]
 congr 1
 apply List.map_congr_left
 intro p _
 split <;> simp
theorem sum_filter {l : List α} {f : α → Nat} {q : α → Bool} : (l.map fun b => if q b = true then f b else 0).sum = ((l.filter q).map f).sum := by
 induction l with
 | nil => rfl
 | cons a l ih =>
  simp only [List.map_cons, List.sum_cons, List.filter_cons, ih]
  split <;> simp
theorem cntL_nodup [DecidableEq α] (a : α) {rest : List α} (h : rest.Nodup) : cntL ok (a :: rest) = ((rest.filter (ok a)).map fun b => cntL ok (rest.filter fun x => !(decide (x = b)))).sum := by
 rw [cntL_cons, picks_nodup h, List.map_map]
 exact sum_filter
end
end Go.Idl
namespace Go.Idl
section
variable {α : Type} [DecidableEq α] {ok : α → α → Bool}
def wo (b : α) (l : List α) : List α := l.filter fun x => !(decide (x = b))
def dJ (ok : α → α → Bool) (a : α) (rest J : List α) : List (List (α × α)) := J.flatMap fun b => (drs ok (wo b rest)).map ((a, b) :: ·)
theorem dJ_nil (a : α) (rest : List α) : dJ ok a rest [] = [] := rfl
theorem dJ_cons (a : α) (rest : List α) (b : α) (J : List α) : dJ ok a rest (b :: J) = (drs ok (wo b rest)).map ((a, b) :: ·) ++ dJ ok a rest J := rfl
theorem flat_filter {γ δ : Type} {l : List γ} {f : γ → List δ} {q : γ → Bool} : (l.flatMap fun b => if q b = true then f b else []) = (l.filter q).flatMap f := by
 induction l with
 | nil => rfl
 | cons a l ih =>
  simp only [List.flatMap_cons, List.filter_cons, ih]
  split <;> simp
theorem drs_nodup (a : α) {rest : List α} (h : rest.Nodup) : drs ok (a :: rest) = dJ ok a rest (rest.filter (ok a)) := by
 rw [drs_cons, picks_nodup h, List.flatMap_map]
 exact flat_filter
theorem drs_len : ∀ (n : Nat) (l : List α), l.length ≤ n → ∀ d ∈ drs ok l, 2 * d.length = l.length
 | _, [], _, d, hd => by rw [drs_nil] at hd; simp at hd; simp [hd]
 | 0, _ :: _, h, _, _ => by simp at h
 | n + 1, a :: rest, h, d, hd => by
  rw [drs_cons, List.mem_flatMap] at hd
  obtain ⟨p, hp, hd⟩ := hd
  have h1 := picks_len hp
  split at hd
  ·obtain ⟨d', hd', rfl⟩ := List.mem_map.1 hd
   have := drs_len n p.2 (by simp at h; omega) d' hd'
   simp only [List.length_cons]; omega
  ·cases hd
def ix {γ : Type} [DecidableEq γ] : List γ → γ → Option Nat
 | [], _ => none
 | x :: l, d => if x = d then some 0 else (ix l d).map (· + 1)
variable {γ : Type} [DecidableEq γ]
theorem ix_append (l m : List γ) (d : γ) : ix (l ++ m) d = match ix l d with | some i => some i | none => (ix m d).map (· + l.length) := by
 induction l with
 | nil => simp [ix]
 | cons x l ih =>
  simp only [List.cons_append, ix]
  split
  ·rfl
  ·rw [ih]
   cases ix l d with
   | some i => rfl
   | none =>
    simp only [Option.map_none, Option.map_map]
    congr 1
theorem ix_none {l : List γ} {d : γ} : ix l d = none ↔ d ∉ l := by
 induction l with
 | nil => simp [ix]
 | cons x l ih =>
  simp only [ix, List.mem_cons]
  split
  ·rename_i h; simp [h]
  ·rename_i h; rw [Option.map_eq_none_iff, ih]; simp [Ne.symm h]
theorem ix_some {l : List γ} {d : γ} {i : Nat} (h : ix l d = some i) : l[i]? = some d ∧ ∀ j, j < i → l[j]? ≠ some d := by
 induction l generalizing i with
 | nil => cases h
 | cons x l ih =>
  simp only [ix] at h
  split at h
  ·rename_i h1; cases h; simp [h1]
  ·rename_i h1
   cases hi : ix l d with
   | none => rw [hi] at h; cases h
   | some k =>
    rw [hi] at h; cases h
    have := ih hi
    refine ⟨by simpa using this.1, fun j hj => ?_⟩
    have hj : j < k + 1 := hj
    cases j with
    | zero => simpa using h1
    | succ j => simpa using this.2 j (by omega)
end
end Go.Idl
