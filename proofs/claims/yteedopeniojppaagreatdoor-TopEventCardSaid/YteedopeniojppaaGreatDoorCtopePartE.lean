import Derived.Test.YteedopeniojppaaGreatDoorCtopePartC
set_option linter.all false
set_option maxHeartbeats 8000000
set_option maxRecDepth 40000
namespace Go.Idl
open Go.Proofs
def prs (l : List (Int × Int)) : List (List IV) := mp (fun p => [.int .i64 p.1, .int .i64 p.2]) l
@[simp] theorem prs_length (l : List (Int × Int)) : (prs l).length = l.length := mp_length
@[simp] theorem prs_getElem (l : List (Int × Int)) (i : Nat) (h : i < (prs l).length) : (prs l)[i] = [.int .i64 (l[i]'(by simpa using h)).1, .int .i64 (l[i]'(by simpa using h)).2] := by simp [prs, mp]
theorem prs_snoc {l : List (Int × Int)} {x : Int × Int} : prs (l ++ [x]) = prs l ++ [[.int .i64 x.1, .int .i64 x.2]] := mp_snoc
theorem prs_append {l m : List (Int × Int)} : prs (l ++ m) = prs l ++ prs m := mp_append
@[go_sem] theorem prs_nil : prs [] = [] := rfl
@[go_sem] theorem ScR_prs {l : List (Int × Int)} : ScR (prs l) = True := eq_true (mp_sc (by simp [scal]))
@[go_sem] theorem ClR_prs {l : List (Int × Int)} : ClR (prs l) = True := eq_true (ScR.cl (mp_sc (by simp [scal])))
@[go_sem] theorem BlR_prs {n : Nat} {l : List (Int × Int)} : BlR n (prs l) = True := eq_true (ScR.bl (mp_sc (by simp [scal])))
theorem prs_rows {l : List (Int × Int)} : ∀ r ∈ prs l, r.length = 2 := mp_rows (by simp)
theorem prs_one {l : List (Int × Int)} : ∀ a ∈ prs l, a.length = 2 ∧ ∀ x ∈ a, IV.one x = true := rows_one (mp_sc (by simp [scal])) prs_rows
end Go.Idl
namespace Go.Idl
theorem wrapu32 {n : Int} (h1 : 0 ≤ n) (h2 : n < 4294967296) : IntKind.u32.wrap n = n := by
 simp [IntKind.wrap, IntKind.bits, IntKind.signed]
 omega
def bitsL (m : Nat) : List Nat := (List.range 32).filter fun i => Nat.testBit m i
theorem bitsL_mem {m i : Nat} : i ∈ bitsL m ↔ i < 32 ∧ Nat.testBit m i = true := by simp [bitsL]
theorem bitsL_zero : bitsL 0 = [] := by decide
theorem bitsL_nodup (m : Nat) : (bitsL m).Nodup := List.nodup_range.filter _
theorem bitsL_sorted (m : Nat) : (bitsL m).Pairwise (· < ·) := List.pairwise_lt_range.filter _
theorem bitsL_ne {m : Nat} (h0 : m ≠ 0) (h : m < 2 ^ 32) : bitsL m ≠ [] := by
 intro e
 obtain ⟨i, hi⟩ := Nat.exists_testBit_of_ne_zero h0
 have : i < 32 := by
  apply Decidable.byContradiction
  intro hn
  have : m < 2 ^ i := Nat.lt_of_lt_of_le h (Nat.pow_le_pow_right (by decide) (by omega))
  rw [Nat.testBit_lt_two_pow this] at hi; cases hi
 have h2 : i ∈ bitsL m := bitsL_mem.2 ⟨this, hi⟩
 rw [e] at h2; cases h2
def tz (m : Nat) : Nat := (bitsL m).headD 32
theorem tz_spec {m : Nat} (h0 : m ≠ 0) (h : m < 2 ^ 32) : tz m < 32 ∧ Nat.testBit m (tz m) = true ∧ ∀ j, j < tz m → Nat.testBit m j = false := by
 have hs := bitsL_sorted m
 unfold tz
 cases hb : bitsL m with
 | nil => exact absurd hb (bitsL_ne h0 h)
 | cons a r =>
  have ha : a ∈ bitsL m := by rw [hb]; simp
  refine ⟨(bitsL_mem.1 ha).1, (bitsL_mem.1 ha).2, fun j hj => ?_⟩
  simp only [List.headD_cons] at hj
  rw [hb, List.pairwise_cons] at hs
  cases ht : Nat.testBit m j with
  | false => rfl
  | true =>
   have hj2 : j ∈ bitsL m := bitsL_mem.2 ⟨by have := (bitsL_mem.1 ha).1; omega, ht⟩
   rw [hb] at hj2
   rcases List.mem_cons.1 hj2 with e | e
   ·omega
   ·have := hs.1 j e; omega
theorem pred_bit {m a : Nat} (h1 : Nat.testBit m a = true) (h2 : ∀ j, j < a → Nat.testBit m j = false) (j : Nat) : Nat.testBit (m - 1) j = if j < a then true else if j = a then false else Nat.testBit m j := by
 have hz : m % 2 ^ a = 0 := by
  apply Nat.eq_of_testBit_eq
  intro i
  rw [Nat.testBit_mod_two_pow, Nat.zero_testBit]
  by_cases h : i < a
  ·rw [h2 i h]; simp
  ·simp [h]
 have hm : m = 2 ^ a * (m / 2 ^ a) := by have := Nat.div_add_mod m (2 ^ a); omega
 have hodd : (m / 2 ^ a) % 2 = 1 := by
  have : Nat.testBit (m / 2 ^ a) 0 = true := by rw [Nat.testBit_div_two_pow]; simpa using h1
  simpa [Nat.testBit_zero] using this
 obtain ⟨q, hq⟩ : ∃ q, m / 2 ^ a = 2 * q + 1 := ⟨m / 2 ^ a / 2, by omega⟩
 rw [hq] at hm
 have hp : 0 < 2 ^ a := Nat.pow_pos (by decide)
 have hm1 : m - 1 = 2 ^ a * (2 * q) + (2 ^ a - 1) := by rw [hm, Nat.mul_add]; omega
 rw [hm1, Nat.testBit_two_pow_mul_add _ (by omega)]
 by_cases hj : j < a
 ·rw [if_pos hj, if_pos hj, Nat.testBit_two_pow_sub_one]; simpa using hj
 ·rw [if_neg hj, if_neg hj]
  by_cases hja : j = a
  ·subst hja; simp
  ·rw [if_neg hja]
   obtain ⟨k, hk⟩ : ∃ k, j - a = k + 1 := ⟨j - a - 1, by omega⟩
   have h3 : Nat.testBit m j = Nat.testBit (2 * q + 1) (j - a) := by
    conv => lhs; rw [hm, show 2 ^ a * (2 * q + 1) = 2 ^ a * (2 * q + 1) + 0 by omega]
    rw [Nat.testBit_two_pow_mul_add _ hp, if_neg hj]
   rw [h3, hk, Nat.testBit_succ, Nat.testBit_succ]
   congr 1; omega
theorem clear_bit {m : Nat} (h0 : m ≠ 0) (h : m < 2 ^ 32) (j : Nat) : Nat.testBit (m &&& (m - 1)) j = (Nat.testBit m j && !(decide (j = tz m))) := by
 obtain ⟨_, h1, h2⟩ := tz_spec h0 h
 rw [Nat.testBit_and, pred_bit h1 h2]
 by_cases hj : j < tz m
 ·rw [if_pos hj, h2 j hj]; rfl
 ·rw [if_neg hj]
  by_cases hja : j = tz m
  ·rw [if_pos hja]; simp [hja]
  ·rw [if_neg hja]; simp [hja]
theorem low_bit {m : Nat} (h0 : m ≠ 0) (h : m < 2 ^ 32) : m &&& (2 ^ 32 - m) = 2 ^ tz m := by
 obtain ⟨h3, h1, h2⟩ := tz_spec h0 h
 apply Nat.eq_of_testBit_eq
 intro j
 rw [Nat.testBit_and, Nat.testBit_two_pow, show 2 ^ 32 - m = 2 ^ 32 - ((m - 1) + 1) by omega, Nat.testBit_two_pow_sub_succ (by omega), pred_bit h1 h2]
 by_cases hj : j < tz m
 ·rw [if_pos hj, h2 j hj]; simp; omega
 ·rw [if_neg hj]
  by_cases hja : j = tz m
  ·rw [if_pos hja]; subst hja; simp [h1, h3]
  ·rw [if_neg hja]
   cases Nat.testBit m j <;> simp <;> omega
theorem bitsL_clear {m : Nat} (h0 : m ≠ 0) (h : m < 2 ^ 32) : bitsL m = tz m :: bitsL (m &&& (m - 1)) := by
 have h1 : bitsL (m &&& (m - 1)) = (bitsL m).filter fun j => !(decide (j = tz m)) := by
  unfold bitsL
  rw [List.filter_filter]
  congr 1; funext j
  rw [clear_bit h0 h, Bool.and_comm]
 rw [h1]
 have hs := bitsL_nodup m
 unfold tz
 cases hb : bitsL m with
 | nil => exact absurd hb (bitsL_ne h0 h)
 | cons a r =>
  rw [hb, List.nodup_cons] at hs
  simp only [List.headD_cons, List.filter_cons, decide_true, Bool.not_true, Bool.false_eq_true, if_false, List.cons.injEq, true_and]
  rw [eq_comm, List.filter_eq_self]
  intro x hx
  have : x ≠ a := fun e => hs.1 (e ▸ hx)
  simp [this]
theorem bitsL_and (m o : Nat) : bitsL (m &&& o) = (bitsL m).filter fun i => Nat.testBit o i := by
 unfold bitsL
 rw [List.filter_filter]
 congr 1; funext j
 rw [Nat.testBit_and, Bool.and_comm]
def anb (a b : Nat) : Nat := (BitVec.ofNat 32 a &&& ~~~(BitVec.ofNat 32 b)).toNat
theorem anb_lt (a b : Nat) : anb a b < 2 ^ 32 := BitVec.isLt _
theorem anb_bit {a : Nat} (b : Nat) (h : a < 2 ^ 32) (j : Nat) : Nat.testBit (anb a b) j = (Nat.testBit a j && !(Nat.testBit b j)) := by
 unfold anb
 rw [BitVec.testBit_toNat, BitVec.getLsbD_and, BitVec.getLsbD_not, BitVec.getLsbD_ofNat, BitVec.getLsbD_ofNat]
 by_cases hj : j < 32
 ·simp [hj]
 ·have : Nat.testBit a j = false := Nat.testBit_lt_two_pow (Nat.lt_of_lt_of_le h (Nat.pow_le_pow_right (by decide) (by omega)))
  simp [this]
theorem bitsL_anb {m : Nat} (b : Nat) (h : m < 2 ^ 32) : bitsL (anb m (2 ^ b)) = (bitsL m).filter fun i => !(decide (i = b)) := by
 unfold bitsL
 rw [List.filter_filter]
 congr 1; funext j
 rw [anb_bit _ h, Nat.testBit_two_pow, Bool.and_comm]
 congr 2
 exact decide_eq_decide.2 eq_comm
theorem and_lt {m o : Nat} (h : m < 2 ^ 32) : m &&& o < 2 ^ 32 := Nat.lt_of_le_of_lt Nat.and_le_left h
theorem anb_le {m b : Nat} (h : m < 2 ^ 32) : anb m b ≤ m := by
 have : anb m b = m &&& anb m b := by
  apply Nat.eq_of_testBit_eq
  intro j
  rw [Nat.testBit_and, anb_bit _ h]
  cases Nat.testBit m j <;> simp
 rw [this]; exact Nat.and_le_left
theorem u32_and {a b : Nat} (ha : a < 2 ^ 32) (hb : b < 2 ^ 32) : bitsOf .and .u32 (a : Int) (b : Int) = ((a &&& b : Nat) : Int) := by
 have h := and_lt (o := b) ha
 simp only [bitsOf, BitVec.ofInt_natCast, BitVec.toNat_and, BitVec.toNat_ofNat, show IntKind.u32.bits = 32 from rfl]
 rw [Nat.mod_eq_of_lt ha, Nat.mod_eq_of_lt hb]
 exact wrapu32 (by omega) (by omega)
theorem u32_andNot {a b : Nat} : bitsOf .andNot .u32 (a : Int) (b : Int) = (anb a b : Int) := by
 have h := anb_lt a b
 simp only [bitsOf, BitVec.ofInt_natCast]
 exact wrapu32 (Int.natCast_nonneg _) (by show (anb a b : Int) < _; omega)
theorem u32_neg {m : Nat} (h0 : m ≠ 0) (h : m < 2 ^ 32) : IntKind.u32.wrap (0 - (m : Int)) = ((2 ^ 32 - m : Nat) : Int) := by
 simp [IntKind.wrap, IntKind.bits, IntKind.signed]
 omega
theorem u32_pred {m : Nat} (h0 : m ≠ 0) (h : m < 2 ^ 32) : IntKind.u32.wrap ((m : Int) - 1) = ((m - 1 : Nat) : Int) := by
 rw [wrapu32 (by omega) (by omega)]; omega
end Go.Idl
namespace Go.Idl
section
variable {α β : Type}
def picks : List α → List (α × List α)
 | [] => []
 | b :: r => (b, r) :: (picks r).map fun p => (p.1, b :: p.2)
theorem picks_len : ∀ {l : List α} {p : α × List α}, p ∈ picks l → p.2.length + 1 = l.length
 | b :: r, p, h => by
  simp only [picks, List.mem_cons, List.mem_map] at h
  rcases h with rfl | ⟨q, hq, rfl⟩
  ·rfl
  ·simp only [List.length_cons, picks_len hq]
theorem picks_map (g : α → β) : ∀ l : List α, picks (l.map g) = (picks l).map fun p => (g p.1, p.2.map g)
 | [] => rfl
 | b :: r => by simp [picks, picks_map g r]
theorem picks_nodup [DecidableEq α] : ∀ {l : List α}, l.Nodup → picks l = l.map fun b => (b, l.filter fun x => !(decide (x = b)))
 | [], _ => rfl
 | b :: r, h => by
  rw [List.nodup_cons] at h
  simp only [picks, picks_nodup h.2, List.map_cons, List.map_map]
  congr 1
  ·simp only [List.filter_cons, decide_true, Bool.not_true, Bool.false_eq_true, if_false, Prod.mk.injEq, true_and]
   rw [eq_comm, List.filter_eq_self]
   intro x hx
   have : x ≠ b := fun e => h.1 (e ▸ hx)
   simp [this]
  ·apply List.map_congr_left
   intro x hx
   have : b ≠ x := fun e => h.1 (e ▸ hx)
   simp [this]
theorem picks_mem {l : List α} {p : α × List α} (h : p ∈ picks l) : p.1 ∈ l ∧ ∀ x ∈ p.2, x ∈ l := by
 induction l generalizing p with
 | nil => cases h
 | cons b r ih =>
  simp only [picks, List.mem_cons, List.mem_map] at h
  rcases h with rfl | ⟨q, hq, rfl⟩
  ·exact ⟨by simp, fun x hx => by simp [hx]⟩
  ·have := ih hq
   refine ⟨by simp [this.1], fun x hx => ?_⟩
   rcases List.mem_cons.1 hx with rfl | hx
   ·simp
   ·simp [this.2 x hx]
theorem flatMap_ext {l : List α} {f g : α → List β} (h : ∀ x ∈ l, f x = g x) : l.flatMap f = l.flatMap g := by
 induction l with
 | nil => rfl
 | cons a l ih => rw [List.flatMap_cons, List.flatMap_cons, h a (by simp), ih fun x hx => h x (by simp [hx])]
def drsF (ok : α → α → Bool) : Nat → List α → List (List (α × α))
 | _, [] => [[]]
 | 0, _ :: _ => []
 | f + 1, a :: rest => (picks rest).flatMap fun p => if ok a p.1 = true then (drsF ok f p.2).map ((a, p.1) :: ·) else []
def drs (ok : α → α → Bool) (l : List α) : List (List (α × α)) := drsF ok l.length l
variable {ok : α → α → Bool}
theorem drsF_fuel : ∀ (f : Nat) (l : List α), l.length ≤ f → drsF ok f l = drsF ok l.length l
 | _, [], _ => by simp [drsF]
 | 0, _ :: _, h => by simp at h
 | f + 1, a :: rest, h => by
  simp only [drsF, List.length_cons]
  apply flatMap_ext
  intro p hp
  have := picks_len hp
  rw [drsF_fuel f p.2 (by simp at h; omega), drsF_fuel rest.length p.2 (by omega)]
theorem drs_nil : drs ok [] = [[]] := by simp [drs, drsF]
theorem drs_cons (a : α) (rest : List α) : drs ok (a :: rest) = (picks rest).flatMap fun p => if ok a p.1 = true then (drs ok p.2).map ((a, p.1) :: ·) else [] := by
 simp only [drs, drsF, List.length_cons]
 apply flatMap_ext
 intro p hp
 have := picks_len hp
 rw [drsF_fuel rest.length p.2 (by omega)]
theorem drs_map (g : α → β) {ok' : β → β → Bool} (h : ∀ a b, ok a b = ok' (g a) (g b)) : ∀ (n : Nat) (l : List α), l.length ≤ n → drs ok' (l.map g) = (drs ok l).map fun d => d.map fun p => (g p.1, g p.2)
 | _, [], _ => by simp [drs_nil]
 | 0, _ :: _, h => by simp at h
 | n + 1, a :: rest, hl => by
  rw [List.map_cons, drs_cons, drs_cons, picks_map, List.flatMap_map, List.map_flatMap]
  apply flatMap_ext
  intro p hp
  have := picks_len hp
  simp only [← h]
  split
  ·rw [drs_map g h n p.2 (by simp at hl; omega), List.map_map, List.map_map]
   apply List.map_congr_left
   intro d _
   simp
  ·rfl
theorem nodup_picks {l : List α} (h : l.Nodup) {p : α × List α} (hp : p ∈ picks l) : p.2.Nodup ∧ p.1 ∉ p.2 := by
 induction l generalizing p with
 | nil => cases hp
 | cons b r ih =>
  rw [List.nodup_cons] at h
  simp only [picks, List.mem_cons, List.mem_map] at hp
  rcases hp with rfl | ⟨q, hq, rfl⟩
  ·exact ⟨h.2, h.1⟩
  ·have := ih h.2 hq
   have hm := picks_mem hq
   refine ⟨List.nodup_cons.2 ⟨fun hb => h.1 (hm.2 b hb), this.1⟩, ?_⟩
   simp only [List.mem_cons, not_or]
   exact ⟨fun e => h.1 (e ▸ hm.1), this.2⟩
theorem drs_congr {ok' : α → α → Bool} : ∀ (n : Nat) (l : List α), l.length ≤ n → l.Nodup → (∀ a ∈ l, ∀ b ∈ l, a ≠ b → ok a b = ok' a b) → drs ok l = drs ok' l
 | _, [], _, _, _ => by simp [drs_nil]
 | 0, _ :: _, h, _, _ => by simp at h
 | n + 1, a :: rest, hl, hn, h => by
  rw [drs_cons, drs_cons]
  apply flatMap_ext
  intro p hp
  have h1 := picks_len hp
  have h2 := picks_mem hp
  rw [List.nodup_cons] at hn
  rw [h a (by simp) p.1 (by simp [h2.1]) (fun e => hn.1 (e ▸ h2.1)), drs_congr n p.2 (by simp at hl; omega) (nodup_picks hn.2 hp).1 fun x hx y hy => h x (by simp [h2.2 x hx]) y (by simp [h2.2 y hy])]
def cntL (ok : α → α → Bool) (l : List α) : Nat := (drs ok l).length
theorem cntL_nil : cntL ok [] = 1 := by simp [cntL, drs_nil]
theorem cntL_cons (a : α) (rest : List α) : cntL ok (a :: rest) = ((picks rest).map fun p => if ok a p.1 = true then cntL ok p.2 else 0).sum := by
 unfold cntL
 rw [drs_cons, List.length_flatMap]
 congr 1
 apply List.map_congr_left
 intro p _
 split <;> simp
theorem sum_filter {l : List α} {f : α → Nat} {q : α → Bool} : (l.map fun b => if q b = true then f b else 0).sum = ((l.filter q).map f).sum := by
 induction l with
 | nil => rfl
 | cons a l ih =>
  simp only [List.map_cons, List.sum_cons, List.filter_cons, ih]
  split <;> simp
theorem cntL_nodup [DecidableEq α] (a : α) {rest : List α} (h : rest.Nodup) : cntL ok (a :: rest) = ((rest.filter (ok a)).map fun b => cntL ok (rest.filter fun x => !(decide (x = b)))).sum := by
 rw [cntL_cons, picks_nodup h, List.map_map]
 exact sum_filter
end
end Go.Idl
namespace Go.Idl
section
variable {α : Type} [DecidableEq α] {ok : α → α → Bool}
def wo (b : α) (l : List α) : List α := l.filter fun x => !(decide (x = b))
def dJ (ok : α → α → Bool) (a : α) (rest J : List α) : List (List (α × α)) := J.flatMap fun b => (drs ok (wo b rest)).map ((a, b) :: ·)
theorem dJ_nil (a : α) (rest : List α) : dJ ok a rest [] = [] := rfl
theorem dJ_cons (a : α) (rest : List α) (b : α) (J : List α) : dJ ok a rest (b :: J) = (drs ok (wo b rest)).map ((a, b) :: ·) ++ dJ ok a rest J := rfl
theorem flat_filter {γ δ : Type} {l : List γ} {f : γ → List δ} {q : γ → Bool} : (l.flatMap fun b => if q b = true then f b else []) = (l.filter q).flatMap f := by
 induction l with
 | nil => rfl
 | cons a l ih =>
  simp only [List.flatMap_cons, List.filter_cons, ih]
  split <;> simp
theorem drs_nodup (a : α) {rest : List α} (h : rest.Nodup) : drs ok (a :: rest) = dJ ok a rest (rest.filter (ok a)) := by
 rw [drs_cons, picks_nodup h, List.flatMap_map]
 exact flat_filter
theorem drs_len : ∀ (n : Nat) (l : List α), l.length ≤ n → ∀ d ∈ drs ok l, 2 * d.length = l.length
 | _, [], _, d, hd => by rw [drs_nil] at hd; simp at hd; simp [hd]
 | 0, _ :: _, h, _, _ => by simp at h
 | n + 1, a :: rest, h, d, hd => by
  rw [drs_cons, List.mem_flatMap] at hd
  obtain ⟨p, hp, hd⟩ := hd
  have h1 := picks_len hp
  split at hd
  ·obtain ⟨d', hd', rfl⟩ := List.mem_map.1 hd
   have := drs_len n p.2 (by simp at h; omega) d' hd'
   simp only [List.length_cons]; omega
  ·cases hd
def ix {γ : Type} [DecidableEq γ] : List γ → γ → Option Nat
 | [], _ => none
 | x :: l, d => if x = d then some 0 else (ix l d).map (· + 1)
variable {γ : Type} [DecidableEq γ]
theorem ix_append (l m : List γ) (d : γ) : ix (l ++ m) d = match ix l d with | some i => some i | none => (ix m d).map (· + l.length) := by
 induction l with
 | nil => simp [ix]
 | cons x l ih =>
  simp only [List.cons_append, ix]
  split
  ·rfl
  ·rw [ih]
   cases ix l d with
   | some i => rfl
   | none =>
    simp only [Option.map_none, Option.map_map]
    congr 1
theorem ix_none {l : List γ} {d : γ} : ix l d = none ↔ d ∉ l := by
 induction l with
 | nil => simp [ix]
 | cons x l ih =>
  simp only [ix, List.mem_cons]
  split
  ·rename_i h; simp [h]
  ·rename_i h; rw [Option.map_eq_none_iff, ih]; simp [Ne.symm h]
theorem ix_some {l : List γ} {d : γ} {i : Nat} (h : ix l d = some i) : l[i]? = some d ∧ ∀ j, j < i → l[j]? ≠ some d := by
 induction l generalizing i with
 | nil => cases h
 | cons x l ih =>
  simp only [ix] at h
  split at h
  ·rename_i h1; cases h; simp [h1]
  ·rename_i h1
   cases hi : ix l d with
   | none => rw [hi] at h; cases h
   | some k =>
    rw [hi] at h; cases h
    have := ih hi
    refine ⟨by simpa using this.1, fun j hj => ?_⟩
    have hj : j < k + 1 := hj
    cases j with
    | zero => simpa using h1
    | succ j => simpa using this.2 j (by omega)
end
end Go.Idl
namespace Go.Idl
open Go.Proofs
def numB (n : Int) : Bool := decide (1 ≤ n ∧ n ≤ 64)
theorem number_fun (n : Int) : FN 106 [.int .i64 n] (fun v => v = .bool (numB n)) := by
 refine IFun.of_bodyZ false 3 [] Tryz.func106 rfl Tryz.call106 rfl fun R hR => ?_
 simp [go_sem]
 refine hR _ _ _ rfl ?_
 simp [go_sem, numB]
def plc (l : List Int) (x : Int) : Int := match ix l x with | some i => (i : Int) | none => -1
theorem ix_take {l : List Int} {x : Int} {i : Nat} (hi : i < l.length) (h : ∀ j (hj : j < l.length), j < i → l[j] ≠ x) : ix l x = if l[i] = x then some i else (ix (l.drop (i + 1)) x).map (· + (i + 1)) := by
 have e : l = l.take i ++ l[i] :: l.drop (i + 1) := by simp
 have hn : ix (l.take i) x = none := by
  rw [ix_none]
  intro hm
  obtain ⟨j, hj, e⟩ := List.mem_iff_getElem.1 hm
  simp only [List.length_take] at hj
  rw [List.getElem_take] at e
  exact h j (by omega) (by omega) e
 conv => lhs; rw [e]
 rw [ix_append, hn]
 simp only [ix, List.length_take]
 rw [Nat.min_eq_left (by omega)]
 by_cases hx : l[i] = x
 ·rw [if_pos hx, if_pos hx]; simp
 ·rw [if_neg hx, if_neg hx, Option.map_map]
  congr 1; funext k; simp only [Function.comp]; omega
theorem place_fun (l : List Int) (x : Int) (hl : l.length ≤ 2 ^ 32) : FN 88 [.fz 1 (ints l), .int .i64 x] (fun v => v = .int .i64 (plc l x)) := by
 refine IFun.of_bodyZ false 7 [7, 8, 9, 10, 16] Tryz.func88 rfl Tryz.call88 rfl fun R hR => ?_
 simp [go_sem]
 refine IWp.loopT (α := Nat) (fun i => (⟨false, 19, 7, [7, 8, 9, 10, 16], glT, [(1, .int .i64 x), (7, .fz 1 (ints l)), (8, .int .i64 (l.length : Int)), (9, .int .i64 (i : Int))], []⟩, []))
  (fun i => i ≤ l.length ∧ ∀ j (hj : j < l.length), j < i → l[j] ≠ x) (fun i => l.length - i) 0 ⟨by omega, by omega⟩ (by simp [go_sem]) ?_
 rintro i ⟨hi, hne⟩
 by_cases h : i < l.length
 ·have w1 : IntKind.i64.wrap ((i : Int) + 1) = i + 1 := wrap64 (by omega) (by omega)
  have hix := ix_take h hne
  by_cases hx : l[i] = x
  ·have hx' : (x == l[i]) = true := by rw [hx]; simp
   have hx2 : x = l[i] := hx.symm
   simp [go_sem, h, hx.symm]
   rw [if_pos hx] at hix
   exact hR _ _ _ rfl (by simp [go_sem, plc, hix])
  ·have hx2 : ¬ x = l[i] := fun e => hx e.symm
   simp [go_sem, h, hx2, w1]
   refine ⟨i + 1, by omega, ⟨by omega, fun j hj hji => ?_⟩, by omega⟩
   by_cases e : j = i
   ·subst e; exact hx
   ·exact hne j hj (by omega)
 ·simp [go_sem, h]
  have : ix l x = none := by
   rw [ix_none]
   intro hm
   obtain ⟨j, hj, e⟩ := List.mem_iff_getElem.1 hm
   exact hne j hj (by omega) e
  exact hR _ _ _ rfl (by simp [go_sem, plc, this])
def metB (met : List (Int × Int)) (a b : Int) : Bool := met.any fun p => decide (p = (a, b)) || decide (p = (b, a))
theorem u32_of {m : Nat} (h : m < 2 ^ 32) : IntKind.u32.wrap (m : Int) = m := wrapu32 (by omega) (by omega)
theorem tz_tab : ∀ a : Nat, a < 32 → tabL.getD ((2 ^ a * 125613361 % 4294967296) / 134217728) 99 = a := by decide +kernel
theorem tz_fun (m : Nat) (h0 : m ≠ 0) (h : m < 2 ^ 32) : FN 102 [.int .u32 m] (fun v => v = .int .i64 (tz m)) := by
 refine IFun.of_bodyZ false 3 [4] Tryz.func102 rfl Tryz.call102 rfl fun R hR => ?_
 have e1 := u32_neg h0 h
 have e1' : IntKind.u32.wrap (-(m : Int)) = ((2 ^ 32 - m : Nat) : Int) := by rw [← e1]; simp
 have ha := (tz_spec h0 h).1
 obtain ⟨K, hK⟩ : ∃ K, 2 ^ 32 - m = K := ⟨_, rfl⟩
 have e2 := u32_and h (b := K) (by omega)
 rw [← hK, low_bit h0 h] at e2
 rw [hK] at e1 e1' e2
 have ht := tz_tab (tz m) ha
 generalize tz m = a at *
 obtain ⟨A, hA⟩ : ∃ A, 2 ^ a = A := ⟨_, rfl⟩
 rw [hA] at e2 ht
 obtain ⟨B, hB⟩ : ∃ B, A * 125613361 % 4294967296 = B := ⟨_, rfl⟩
 have e3 : IntKind.u32.wrap ((A : Int) * 125613361) = (B : Int) := by
  rw [← hB]
  simp [IntKind.wrap, IntKind.bits, IntKind.signed]
 rw [hB] at ht
 obtain ⟨i, hi⟩ : ∃ i, B / 134217728 = i := ⟨_, rfl⟩
 have hi2 : i < 32 := by omega
 have e4 : (B : Int).fdiv 134217728 = (i : Int) := by rw [← hi]; exact (Int.ofNat_fdiv B 134217728).symm
 rw [hi] at ht
 have ht2 : tabR[i]?.getD (.tup []) = .int .u8 (a : Int) := by
  have h5 : i < tabL.length := hi2
  have h4 : tabL[i] = a := by rw [← ht]; simp [h5]
  simp [tabR, h5, h4]
 have hu8 : IntKind.i64.wrap (a : Int) = a := wrap64 (by omega) (by omega)
 have hm0 : ¬ (m : Int) = 0 := by omega
 simp [go_sem, h0, e1, e1', e2, e3, e4, ht2, hi2, hu8]
 exact ⟨by omega, by omega, hR _ _ _ rfl (by simp [go_sem])⟩
theorem split_fun (m : Nat) (h0 : m ≠ 0) (h : m < 2 ^ 32) : FN 101 [.int .u32 m] (fun v => v = .tup [.int .i64 (tz m), .int .u32 ((m &&& (m - 1) : Nat) : Int)]) := by
 refine IFun.of_bodyZ false 4 [] Tryz.func101 rfl Tryz.call101 rfl fun R hR => ?_
 have e1 := u32_pred h0 h
 obtain ⟨K, hK⟩ : ∃ K, m - 1 = K := ⟨_, rfl⟩
 have e2 := u32_and h (b := K) (by omega)
 rw [hK] at e1
 obtain ⟨r, hr⟩ : ∃ r, m &&& K = r := ⟨_, rfl⟩
 rw [hr] at e2
 simp [go_sem]
 refine (tz_fun m h0 h).callF (by simp [go_sem]) ?_
 rintro _ rfl
 simp [go_sem, e1, e2]
 exact hR _ _ _ rfl (by simp [go_sem, hK, hr])
def rightP (teams : List Int) (met : List (Int × Int)) : Bool := teams.all numB && decide teams.Nodup && met.all fun p => numB p.1 && numB p.2 && !(decide (p.1 = p.2))
end Go.Idl
namespace Go.Idl
open Go.Proofs
def seenB (l : List Int) (i : Nat) : Bool := decide ((i : Int) ∈ l)
theorem Right_fun (teams : List Int) (met : List (Int × Int)) (hl : teams.length ≤ 2 ^ 32) (hm : met.length ≤ 2 ^ 32) : FN 99 [.fz 1 (ints teams), .fz 2 (prs met)] (fun v => v = .bool (rightP teams met)) := by
 refine IFun.of_bodyZ false 10 [10, 11, 12, 13, 23, 27, 28, 29, 30, 49] Tryz.func99 rfl Tryz.call99 rfl fun R hR => ?_
 simp [go_sem]
 refine IWp.loopT (α := Nat) (fun i => (⟨false, 51, 10, [10, 11, 12, 13, 23, 27, 28, 29, 30, 49], glT, [(1, .fz 2 (prs met)), (5, .ptr 0 1 0 0), (10, .fz 1 (ints teams)), (11, .int .i64 (teams.length : Int)), (12, .int .i64 (i : Int))], []⟩, [.rows 65 [arr 65 fun k => .bool (seenB (teams.take i) k)]]))
  (fun i => i ≤ teams.length ∧ (teams.take i).all numB = true ∧ (teams.take i).Nodup) (fun i => teams.length - i) 0 ⟨by omega, by simp, by simp⟩ (by simp [go_sem, seenB]; rfl) ?_
 rintro i ⟨hi, hnum, hnd⟩
 by_cases h : i < teams.length
 ·have w1 : IntKind.i64.wrap ((i : Int) + 1) = i + 1 := wrap64 (by omega) (by omega)
  obtain ⟨t, ht⟩ : ∃ t, teams[i] = t := ⟨_, rfl⟩
  have hsn : teams.take (i + 1) = teams.take i ++ [t] := by rw [List.take_succ_eq_append_getElem h, ht]
  have hsp : teams = teams.take i ++ t :: teams.drop (i + 1) := by rw [← ht]; simp
  simp [go_sem, h, ht]
  refine (number_fun t).callF (by simp [go_sem]) ?_
  rintro _ rfl
  cases hn : numB t with
  | false =>
   have : rightP teams met = false := by
    have : teams.all numB = false := by rw [hsp, List.all_append]; simp [hn]
    simp [rightP, this]
   by_cases h65 : t.toNat < 65
   ·have hq := arr_at (n := 65) (f := fun j => IV.bool (seenB (teams.take i) j)) (d := IV.tup []) h65
    simp [go_sem, hq]
    exact hR _ _ _ rfl (by simp [go_sem, this])
   ·have hq : (arr 65 fun j => IV.bool (seenB (teams.take i) j))[t.toNat]?.getD (IV.tup []) = IV.tup [] := by rw [List.getElem?_eq_none (by simp [go_sem]; omega)]; rfl
    simp [go_sem, hq]
    exact hR _ _ _ rfl (by simp [go_sem, this])
  | true =>
   have hb : 1 ≤ t ∧ t ≤ 64 := by simpa [numB] using hn
   obtain ⟨k, rfl⟩ : ∃ k : Nat, t = k := ⟨t.toNat, by omega⟩
   have hk : k < 65 := by omega
   have hat := arr_at (n := 65) (f := fun j => IV.bool (seenB (teams.take i) j)) (d := IV.tup []) hk
   cases hs : seenB (teams.take i) k with
   | true =>
    have : rightP teams met = false := by
     have : ¬ teams.Nodup := by
      intro hnd2
      rw [hsp, List.nodup_append] at hnd2
      exact hnd2.2.2 k (of_decide_eq_true hs) k (by simp) rfl
     simp [rightP, this]
    simp [go_sem, hk, hat, hs]
    exact ⟨by omega, by omega, hR _ _ _ rfl (by simp [go_sem, this])⟩
   | false =>
    simp [go_sem, hk, hat, hs, w1]
    rw [arr_put hk, upF_bool]
    refine ⟨by omega, by omega, by omega, by omega, i + 1, ⟨by omega, ?_⟩, ⟨by omega, ?_, ?_⟩, by omega⟩
    ·congr 1; funext j
     congr 1
     rw [hsn]
     by_cases e : j = k
     ·subst e; simp [seenB]
     ·have e2 : ¬ (j : Int) = k := by omega
      simp [seenB, e, e2]
    ·intro x hx
     rw [hsn] at hx
     rcases List.mem_append.1 hx with hx | hx
     ·exact List.all_eq_true.1 hnum x hx
     ·have : x = k := by simpa using hx
      rw [this]; exact hn
    ·rw [hsn, List.nodup_append]
     refine ⟨hnd, by simp, fun a ha b hb e => ?_⟩
     have : b = k := by simpa using hb
     subst this
     rw [e] at ha
     have : seenB (teams.take i) k = true := decide_eq_true ha
     rw [hs] at this; cases this
 ·have e : teams.take i = teams := List.take_of_length_le (by omega)
  rw [e] at hnum hnd
  simp [go_sem, h]
  refine IWp.loopT (α := Nat) (fun j => (⟨false, 51, 10, [10, 11, 12, 13, 23, 27, 28, 29, 30, 49], glT, [(27, .fz 2 (prs met)), (28, .int .i64 (met.length : Int)), (29, .int .i64 (j : Int))], []⟩, [.dead]))
   (fun j => j ≤ met.length ∧ (met.take j).all (fun p => numB p.1 && numB p.2 && !(decide (p.1 = p.2))) = true) (fun j => met.length - j) 0 ⟨by omega, by simp⟩ (by simp [go_sem]) ?_
  rintro j ⟨hj, hok⟩
  by_cases h2 : j < met.length
  ·have w1 : IntKind.i64.wrap ((j : Int) + 1) = j + 1 := wrap64 (by omega) (by omega)
   obtain ⟨p, hp⟩ : ∃ p, met[j] = p := ⟨_, rfl⟩
   obtain ⟨x, y⟩ := p
   have bad : (numB x && numB y && !(decide (x = y))) = false → rightP teams met = false := fun hb => by
    have : (met.all fun p => numB p.1 && numB p.2 && !(decide (p.1 = p.2))) = false := by
     rw [List.all_eq_false]
     exact ⟨(x, y), hp ▸ List.getElem_mem h2, by simp only [hb]; simp⟩
    rw [rightP, this, Bool.and_false]
   simp [go_sem, h2, hp]
   refine (number_fun x).callF (by simp [go_sem]) ?_
   rintro _ rfl
   cases hx : numB x with
   | false =>
    rw [hx] at bad
    simp [go_sem]
    exact hR _ _ _ rfl (by simp [go_sem, bad rfl])
   | true =>
    simp [go_sem]
    refine (number_fun y).callF (by simp [go_sem]) ?_
    rintro _ rfl
    cases hy : numB y with
    | false =>
     rw [hx, hy] at bad
     simp [go_sem]
     exact hR _ _ _ rfl (by simp [go_sem, bad rfl])
    | true =>
     by_cases hxy : x = y
     ·subst hxy
      simp [go_sem]
      exact hR _ _ _ rfl (by simp [go_sem, bad (by simp)])
     ·simp [go_sem, hxy, w1]
      refine ⟨j + 1, by omega, ⟨by omega, ?_⟩, by omega⟩
      rw [List.take_succ_eq_append_getElem h2, hp]
      intro a b hab
      rcases List.mem_append.1 hab with hab | hab
      ·have := List.all_eq_true.1 hok _ hab; simpa using this
      ·have : (a, b) = (x, y) := by simpa using hab
       cases this
       exact ⟨⟨hx, hy⟩, hxy⟩
  ·have e2 : met.take j = met := List.take_of_length_le (by omega)
   rw [e2] at hok
   have : rightP teams met = true := by rw [rightP, hnum, hok]; simp [hnd]
   simp [go_sem, h2]
   exact hR _ _ _ rfl (by simp [go_sem, this])
end Go.Idl
namespace Go.Idl
open Go.Proofs
theorem shl32 {i : Nat} (h : i < 32) : IntKind.u32.wrap ((2 : Int) ^ i) = ((2 ^ i : Nat) : Int) := by
 have : 2 ^ i < 2 ^ 32 := Nat.pow_lt_pow_right (by decide) h
 rw [show (2 : Int) ^ i = ((2 ^ i : Nat) : Int) by simp]
 exact u32_of this
theorem min32 {i : Nat} (h : i ≤ 16) : min i 32 = i := by omega
theorem all_fun (teams : List Int) (rest : List IV) (hn : teams.length ≤ 16) : FN 87 [.fptr 17 [.fz 1 (ints teams) :: rest] 0 0] (fun v => v = .int .u32 ((2 ^ teams.length - 1 : Nat) : Int)) := by
 refine IFun.of_bodyZ false 3 [] Tryz.func87 rfl Tryz.call87 rfl fun R hR => ?_
 have e1 := shl32 (i := teams.length) (by omega)
 have hp : 2 ^ teams.length ≤ 2 ^ 16 := Nat.pow_le_pow_right (by decide) hn
 have hp0 : 0 < 2 ^ teams.length := Nat.pow_pos (by decide)
 obtain ⟨A, hA⟩ : ∃ A, 2 ^ teams.length = A := ⟨_, rfl⟩
 rw [hA] at e1 hp hp0
 have e2 : IntKind.u32.wrap ((A : Int) - 1) = ((A - 1 : Nat) : Int) := u32_pred (by omega) (by omega)
 obtain ⟨B, hB⟩ : ∃ B, A - 1 = B := ⟨_, rfl⟩
 rw [hB] at e2
 simp [go_sem, min32 hn, e1, e2]
 exact hR _ _ _ rfl (by simp [go_sem, hA, hB])
def opC (g : Nat → Nat) : List IV := arr 16 fun k => .int .u32 (g k : Int)
def tbR (teams : List Int) (g : Nat → Nat) : List IV := .fz 1 (ints teams) :: opC g
theorem opC_rw {g : Nat → Nat} : opC g = arr 16 fun k => .int .u32 (g k : Int) := rfl
theorem tbR_cl {teams : List Int} {g : Nat → Nat} : ∀ c ∈ tbR teams g, Cl c := by
 intro c hc
 rcases List.mem_cons.1 hc with rfl | hc
 ·simp [go_sem]
 ·exact scal_cl (arr_sc (fun _ => rfl) c hc)
@[go_sem] theorem tbR_clT {teams : List Int} {g : Nat → Nat} : (∀ c ∈ tbR teams g, Cl c) = True := eq_true tbR_cl
theorem tbR_one {teams : List Int} {g : Nat → Nat} : ∀ c ∈ tbR teams g, (∃ rs, ScR rs ∧ c = .fz 1 rs) ∨ scal c = true := by
 intro c hc
 rcases List.mem_cons.1 hc with rfl | hc
 ·exact .inl ⟨_, by simp [go_sem], rfl⟩
 ·exact .inr (arr_sc (fun _ => rfl) c hc)
@[go_sem] theorem tbR_okR {d : Nat} {h : Heap} {teams : List Int} {g : Nat → Nat} : okR true d h [tbR teams g] = True := eq_true (by
 simp only [okR]
 intro row hr c hc; simp only [List.mem_singleton] at hr; subst hr
 rcases tbR_one c hc with ⟨rs, hs, rfl⟩ | hs
 ·rw [frzOK_fz]; exact ⟨rfl, hs.cl⟩
 ·exact ok_sc hs)
@[go_sem] theorem tbR_frzR {d : Nat} {h : Heap} {teams : List Int} {g : Nat → Nat} : frzR d h [tbR teams g] = [tbR teams g] := by
 have : (tbR teams g).map (frzV d h) = tbR teams g := by
  conv => rhs; rw [← List.map_id (tbR teams g)]
  apply List.map_congr_left
  intro c hc
  rcases tbR_one c hc with ⟨rs, hs, rfl⟩ | hs
  ·rw [frzV_fz]; rfl
  ·rw [frz_sc hs]; rfl
 simp [frzR, this]
@[go_sem] theorem tbR_okc {d : Nat} {h : Heap} {teams : List Int} {g : Nat → Nat} : (∀ c ∈ tbR teams g, frzOK true d h c) = True := eq_true (by
 intro c hc
 rcases tbR_one c hc with ⟨rs, h1, rfl⟩ | h1
 ·rw [frzOK_fz]; exact ⟨rfl, h1.cl⟩
 ·exact ok_sc h1)
@[go_sem] theorem tbR_map {d : Nat} {h : Heap} {teams : List Int} {g : Nat → Nat} : List.map (frzV d h) (tbR teams g) = tbR teams g := by
 conv => rhs; rw [← List.map_id (tbR teams g)]
 apply List.map_congr_left
 intro c hc
 rcases tbR_one c hc with ⟨rs, h1, rfl⟩ | h1
 ·rw [frzV_fz]; rfl
 ·rw [frz_sc h1]; rfl
@[go_sem] theorem tbR_bl {n : Nat} {teams : List Int} {g : Nat → Nat} : (∀ c ∈ tbR teams g, Bl n c) = True := eq_true fun c hc => (tbR_cl c hc).bl
theorem tbR_at {teams : List Int} {g : Nat → Nat} {i : Nat} {d : IV} (h : i < 16) : (tbR teams g)[1 + i]?.getD d = .int .u32 (g i : Int) := by
 rw [Nat.add_comm]
 simp only [tbR, List.getElem?_cons_succ]
 exact arr_at h
theorem tbR_get {teams : List Int} {g : Nat → Nat} {i : Nat} (h : i < 16) (h' : 1 + i < (tbR teams g).length) : (tbR teams g)[1 + i] = .int .u32 (g i : Int) := by
 have := tbR_at (teams := teams) (g := g) (d := .tup []) h
 rw [List.getElem?_eq_getElem h'] at this
 exact this
theorem tbR_put {teams : List Int} {g : Nat → Nat} {i x : Nat} (h : i < 16) : List.take (1 + i) (tbR teams g) ++ .int .u32 (x : Int) :: List.drop (1 + i + 1) (tbR teams g) = tbR teams fun k => if k = i then x else g k := by
 have e : 1 + i = i + 1 := by omega
 rw [e]
 simp only [tbR, List.take_succ_cons, List.drop_succ_cons, List.cons_append]
 congr 1
 rw [opC_rw, arr_put h]
 simp only [opC]
 congr 1; funext k
 simp only [upF]
 split <;> rfl
def OpenOK (teams : List Int) (met : List (Int × Int)) (g : Nat → Nat) : Prop :=
 ∀ i, i < 16 → g i < 2 ^ 32 ∧ ∀ k, i < teams.length → Nat.testBit (g i) k = (decide (k < teams.length) && !(decide (k = i)) && !(metB met (teams.getD i 0) (teams.getD k 0)))
theorem metB_snoc (met : List (Int × Int)) (A B a b : Int) : metB (met ++ [(A, B)]) a b = (metB met a b || (decide ((A, B) = (a, b)) || decide ((A, B) = (b, a)))) := by simp [metB]
theorem ix_lt {l : List Int} {x : Int} {i : Nat} (h : ix l x = some i) : ∃ hi : i < l.length, l[i] = x := by
 obtain ⟨h1, _⟩ := ix_some h
 exact List.getElem?_eq_some_iff.1 h1
theorem nodup_eq {l : List Int} (h : l.Nodup) {i j : Nat} (hi : i < l.length) (hj : j < l.length) (e : l[i] = l[j]) : i = j := by
 have hp := List.pairwise_iff_getElem.1 h
 rcases Nat.lt_trichotomy i j with h1 | h1 | h1
 ·exact absurd e (hp i j hi hj h1)
 ·exact h1
 ·exact absurd e.symm (hp j i hj hi h1)
theorem open_zero (teams : List Int) (hn : teams.length ≤ 16) : OpenOK teams [] fun k => if k < teams.length then anb (2 ^ teams.length - 1) (2 ^ k) else 0 := by
 intro i hi
 have hp : 2 ^ teams.length ≤ 2 ^ 16 := Nat.pow_le_pow_right (by decide) hn
 refine ⟨?_, fun k hk => ?_⟩
 ·simp only; split
  ·exact anb_lt _ _
  ·decide
 ·simp only [if_pos hk]
  rw [anb_bit _ (by omega), Nat.testBit_two_pow_sub_one, Nat.testBit_two_pow]
  simp only [metB, List.any_nil, Bool.not_false, Bool.and_true]
  congr 2
  exact decide_eq_decide.2 eq_comm
theorem open_skip {teams : List Int} {met : List (Int × Int)} {g : Nat → Nat} {A B : Int} (h : OpenOK teams met g) (hAB : A ∉ teams ∨ B ∉ teams) : OpenOK teams (met ++ [(A, B)]) g := by
 intro i hi
 refine ⟨(h i hi).1, fun k hk => ?_⟩
 rw [(h i hi).2 k hk, metB_snoc]
 by_cases hk2 : k < teams.length
 ·have e1 : teams.getD i 0 = teams[i] := by simp [hk]
  have e2 : teams.getD k 0 = teams[k] := by simp [hk2]
  have m1 : teams[i] ∈ teams := List.getElem_mem hk
  have m2 : teams[k] ∈ teams := List.getElem_mem hk2
  rw [e1, e2]
  have n1 : ¬ (A, B) = (teams[i], teams[k]) := by
   rintro e; cases e; rcases hAB with h | h
   ·exact h m1
   ·exact h m2
  have n2 : ¬ (A, B) = (teams[k], teams[i]) := by
   rintro e; cases e; rcases hAB with h | h
   ·exact h m2
   ·exact h m1
  simp [n1, n2]
 ·simp [hk2]
theorem open_step {teams : List Int} {met : List (Int × Int)} {g : Nat → Nat} (hnd : teams.Nodup) (hn : teams.length ≤ 16) {i j : Nat} (hi : i < teams.length) (hj : j < teams.length) (hij : teams[i] ≠ teams[j]) (h : OpenOK teams met g) :
  OpenOK teams (met ++ [(teams[i], teams[j])]) fun k => if k = j then anb ((fun k => if k = i then anb (g i) (2 ^ j) else g k) j) (2 ^ i) else (fun k => if k = i then anb (g i) (2 ^ j) else g k) k := by
 have hne : ¬ j = i := fun e => hij (by subst e; rfl)
 intro x hx
 have hx' := (h x hx).1
 refine ⟨?_, fun k hk => ?_⟩
 ·simp only
  split
  ·exact anb_lt _ _
  ·split
   ·exact anb_lt _ _
   ·exact hx'
 ·have hb := (h x hx).2 k hk
  have e1 : teams.getD x 0 = teams[x] := by simp [hk]
  have L : Nat.testBit (if x = j then anb (g j) (2 ^ i) else if x = i then anb (g i) (2 ^ j) else g x) k = (Nat.testBit (g x) k && !(decide (x = i ∧ k = j) || decide (x = j ∧ k = i))) := by
   have hgi := (h i (by omega)).1
   have hgj := (h j (by omega)).1
   by_cases hxj : x = j
   ·have hxi : ¬ x = i := fun e => hne (by rw [← hxj, e])
    rw [if_pos hxj, anb_bit _ hgj, Nat.testBit_two_pow, hxj]
    have hne' : ¬ j = i := hne
    by_cases hki : i = k
    ·simp [hki, hne']
    ·have hki2 : ¬ k = i := fun e => hki e.symm
     simp [hki, hki2, hne']
   ·by_cases hxi : x = i
    ·rw [if_neg hxj, if_pos hxi, anb_bit _ hgi, Nat.testBit_two_pow, hxi]
     have hne' : ¬ i = j := fun e => hne e.symm
     by_cases hkj : j = k
     ·simp [hkj]
     ·have hkj2 : ¬ k = j := fun e => hkj e.symm
      simp [hkj, hkj2, hne']
    ·rw [if_neg hxj, if_neg hxi]
     simp [hxi, hxj]
  simp only [if_neg hne]
  rw [L, hb, metB_snoc, e1]
  by_cases hk2 : k < teams.length
  ·have e2 : teams.getD k 0 = teams[k] := by simp [hk2]
   have q : ∀ (a b : Nat) (ha : a < teams.length) (hb : b < teams.length), teams[a] = teams[b] ↔ a = b := fun a b ha hb => ⟨nodup_eq hnd ha hb, fun e => by subst e; rfl⟩
   have q1 : ((teams[i], teams[j]) = (teams[x], teams[k])) ↔ (x = i ∧ k = j) := by
    rw [Prod.mk.injEq, q i x hi hk, q j k hj hk2]; omega
   have q2 : ((teams[i], teams[j]) = (teams[k], teams[x])) ↔ (x = j ∧ k = i) := by
    rw [Prod.mk.injEq, q i k hi hk2, q j x hj hk]; omega
   have d1 : decide ((teams[i], teams[j]) = (teams[x], teams[k])) = decide (x = i ∧ k = j) := decide_eq_decide.2 q1
   have d2 : decide ((teams[i], teams[j]) = (teams[k], teams[x])) = decide (x = j ∧ k = i) := decide_eq_decide.2 q2
   rw [e2, d1, d2]; simp only [Bool.not_or, Bool.and_assoc]
  ·simp [hk2]
def SetV (teams : List Int) (met : List (Int × Int)) (v : IV) : Prop :=
 (rightP teams met = false ∧ v = .tup [.nilp, .int .i64 2]) ∨ (rightP teams met = true ∧ 16 < teams.length ∧ v = .tup [.nilp, .int .i64 5]) ∨
 (rightP teams met = true ∧ teams.length ≤ 16 ∧ ∃ g, OpenOK teams met g ∧ v = .tup [.fptr 17 [tbR teams g] 0 0, .int .i64 0])
theorem set_fun (teams : List Int) (met : List (Int × Int)) (hl : teams.length ≤ 2 ^ 32) (hm : met.length ≤ 2 ^ 32) : ON 84 [.fz 1 (ints teams), .fz 2 (prs met)] (SetV teams met) := by
 refine IFun.of_bodyZ false 12 [15, 18, 23, 24, 25, 38, 39, 40, 41, 57] Tryz.func84 rfl Tryz.call84 rfl fun R hR => ?_
 simp [go_sem]
 refine (Right_fun teams met hl hm).callF (by simp [go_sem]) ?_
 rintro _ rfl
 cases hr : rightP teams met with
 | false =>
  simp [go_sem]
  exact hR _ _ (.tup [.nilp, .int .i64 2]) (.inl ⟨hr, rfl⟩) (by simp [go_sem])
 | true =>
  by_cases hn : 16 < teams.length
  ·have hnI : (16 : Int) < teams.length := by omega
   simp [go_sem, hnI]
   exact hR _ _ (.tup [.nilp, .int .i64 5]) (.inr (.inl ⟨hr, hn, rfl⟩)) (by simp [go_sem])
  ·have hn' : teams.length ≤ 16 := by omega
   have hnI : ¬ (16 : Int) < teams.length := by omega
   simp [go_sem, hnI]
   refine IWp.loopT (α := Nat) (fun i => (⟨false, 84, 12, [15, 18, 23, 24, 25, 38, 39, 40, 41, 57], glT, [(0, .fz 1 (ints teams)), (1, .fz 2 (prs met)), (6, .ptr 0 1 0 0), (23, .int .i64 (teams.length : Int)), (24, .int .i64 (i : Int))], []⟩, [.rows 17 [tbR teams fun k => if k < i then anb (2 ^ teams.length - 1) (2 ^ k) else 0]]))
    (fun i => i ≤ teams.length) (fun i => teams.length - i) 0 (by omega) (by simp [go_sem]; rfl) ?_
   intro i hi
   by_cases h : i < teams.length
   ·have w1 : IntKind.i64.wrap ((i : Int) + 1) = i + 1 := wrap64 (by omega) (by omega)
    have hI : (i : Int) < teams.length := by omega
    refine yC_cut fun k hk => ?_
    simp [go_sem, hI]
    refine hk _ _ ?_
    clear hk k
    refine yC_cut fun k hk => ?_
    simp [go_sem, h]
    refine hk _ _ ?_
    clear hk k
    refine yC_cut fun k0 hk0 => ?_
    rw [yC_block]
    refine yC_cut fun k hk => ?_
    simp [go_sem]
    refine hk _ _ ?_
    clear hk k
    simp [go_sem]
    refine Drawn.intro (fun k => if k = 3 then .int .u32 ((2 ^ teams.length - 1 : Nat) : Int) else .tup []) ?_
    simp [go_sem]
    have hi16 : i < 16 := by omega
    have e1 := shl32 (i := i) (by omega)
    have e2 : bitsOf .andNot .u32 ((2 ^ teams.length - 1 : Nat) : Int) (IntKind.u32.wrap (2 ^ min i 32)) = ((anb (2 ^ teams.length - 1) (2 ^ i) : Nat) : Int) := by
     rw [min32 (by omega), e1, u32_andNot]
    rw [e2, tbR_put hi16]
    refine ⟨.inl (all_fun teams _ hn'), by omega, by omega, by decide +kernel, hk0 _ _ ?_⟩
    clear hk0 k0
    simp [go_sem, w1]
    refine ⟨i + 1, ⟨by omega, ?_⟩, by omega, by omega⟩
    congr 1; funext k
    by_cases e : k = i
    ·subst e; simp
    ·have : k < i + 1 ↔ k < i := by omega
     simp [e, this]
   ·have hI : ¬ (i : Int) < teams.length := by omega
    simp [go_sem, h]
    have hin : i = teams.length := by omega
    subst hin
    have hnd : teams.Nodup := by
     have := hr
     simp only [rightP, Bool.and_eq_true, decide_eq_true_eq] at this
     exact this.1.2
    refine IWp.loopT (α := Nat × (Nat → Nat)) (fun x => (⟨false, 84, 12, [15, 18, 23, 24, 25, 38, 39, 40, 41, 57], glT, [(0, .fz 1 (ints teams)), (6, .ptr 0 1 0 0), (38, .fz 2 (prs met)), (39, .int .i64 (met.length : Int)), (40, .int .i64 (x.1 : Int))], []⟩, [.rows 17 [tbR teams x.2]]))
     (fun x => x.1 ≤ met.length ∧ OpenOK teams (met.take x.1) x.2) (fun x => met.length - x.1) (0, fun k => if k < teams.length then anb (2 ^ teams.length - 1) (2 ^ k) else 0) ⟨by simp, by simpa using open_zero teams hn'⟩ (by simp [go_sem]) ?_
    rintro ⟨j, g⟩ ⟨hj, hop⟩
    simp only at hj hop
    by_cases h2 : j < met.length
    ·have w1 : IntKind.i64.wrap ((j : Int) + 1) = j + 1 := wrap64 (by omega) (by omega)
     obtain ⟨p, hp⟩ : ∃ p, met[j] = p := ⟨_, rfl⟩
     obtain ⟨A, B⟩ := p
     have hAB : A ≠ B := by
      have := hr
      simp only [rightP, Bool.and_eq_true, List.all_eq_true] at this
      have h3 := this.2 (A, B) (hp ▸ List.getElem_mem h2)
      simpa using h3.2
     have hsn : met.take (j + 1) = met.take j ++ [(A, B)] := by rw [List.take_succ_eq_append_getElem h2, hp]
     simp [go_sem, h2, hp]
     refine Drawn.intro (fun k => if k = 3 then .int .i64 (plc teams A) else if k = 7 then .int .i64 (plc teams B) else .tup []) ?_
     have c1 := place_fun teams A hl
     have c2 := place_fun teams B hl
     have skip : (A ∉ teams ∨ B ∉ teams) → OpenOK teams (met.take (j + 1)) g := fun hs => by rw [hsn]; exact open_skip hop hs
     cases hA : ix teams A with
     | none =>
      have pA : plc teams A = -1 := by rw [plc, hA]
      rw [pA] at c1 ⊢
      simp [go_sem, c1, c2, w1]
      exact ⟨by decide +kernel, j + 1, g, ⟨by omega, rfl⟩, ⟨by omega, skip (.inl (ix_none.1 hA))⟩, by omega⟩
     | some a =>
      obtain ⟨ha, hAe⟩ := ix_lt hA
      have pA : plc teams A = (a : Int) := by rw [plc, hA]
      rw [pA] at c1 ⊢
      cases hB : ix teams B with
      | none =>
       have pB : plc teams B = -1 := by rw [plc, hB]
       rw [pB] at c2 ⊢
       simp [go_sem, c1, c2, w1]
       exact ⟨by decide +kernel, j + 1, g, ⟨by omega, rfl⟩, ⟨by omega, skip (.inr (ix_none.1 hB))⟩, by omega⟩
      | some b =>
       obtain ⟨hb, hBe⟩ := ix_lt hB
       have pB : plc teams B = (b : Int) := by rw [plc, hB]
       rw [pB] at c2 ⊢
       have ha16 : a < 16 := by omega
       have hb16 : b < 16 := by omega
       have s1 := shl32 (i := a) (by omega)
       have s2 := shl32 (i := b) (by omega)
       have st := open_step hnd hn' ha hb (by rw [hAe, hBe]; exact hAB) hop
       rw [hAe, hBe, ← hsn] at st
       have o1 : ∀ x : Nat, bitsOf .andNot .u32 (x : Int) (IntKind.u32.wrap (2 ^ min b 32)) = ((anb x (2 ^ b) : Nat) : Int) := fun x => by rw [min32 (by omega), s2, u32_andNot]
       have o2 : ∀ x : Nat, bitsOf .andNot .u32 (x : Int) (IntKind.u32.wrap (2 ^ min a 32)) = ((anb x (2 ^ a) : Nat) : Int) := fun x => by rw [min32 (by omega), s1, u32_andNot]
       simp [go_sem, c1, c2, w1, tbR_at ha16, tbR_get ha16, o1, o2, tbR_put ha16, tbR_at hb16, tbR_get hb16, tbR_put hb16]
       exact ⟨by decide +kernel, by omega, by omega, by omega, by omega, by decide +kernel, by omega, by omega, by omega, by omega, by decide +kernel, j + 1, _, ⟨by omega, rfl⟩, ⟨by omega, st⟩, by omega⟩
    ·simp [go_sem, h2]
     have e2 : met.take j = met := List.take_of_length_le (by omega)
     rw [e2] at hop
     exact hR _ _ (.tup [.fptr 17 [tbR teams g] 0 0, .int .i64 0]) (.inr (.inr ⟨hr, hn', g, hop, rfl⟩)) (by simp [go_sem])
end Go.Idl
namespace Go.Idl
open Go.Proofs
def errN (teams : List Int) (met : List (Int × Int)) (odd : Bool) : Int :=
 if rightP teams met = false then 2 else if 16 < teams.length then 5 else if odd = false ∧ teams.length % 2 = 1 then 360 else 0
def okG (g : Nat → Nat) (a b : Nat) : Bool := Nat.testBit (g a) b
def cntM (g : Nat → Nat) (m : Nat) : Nat := cntL (okG g) (bitsL m)
theorem ku32 (a b : Nat) : keq (.int .u32 (a : Int)) (.int .u32 (b : Int)) = decide (a = b) := by
 show (match ceqs [IV.int .u32 (a : Int)] [IV.int .u32 (b : Int)] with | some b => b | none => false) = _
 simp [ceqs, ceq]
 exact decide_eq_decide.2 (by omega)
theorem cntM_zero (g : Nat → Nat) : cntM g 0 = 1 := by rw [cntM, bitsL_zero, cntL_nil]
theorem cntM_rec {g : Nat → Nat} {m : Nat} (h0 : m ≠ 0) (h : m < 2 ^ 32) : cntM g m = ((bitsL ((m &&& (m - 1)) &&& g (tz m))).map fun b => cntM g (anb (m &&& (m - 1)) (2 ^ b))).sum := by
 have hr : m &&& (m - 1) < 2 ^ 32 := and_lt h
 unfold cntM
 generalize hrr : m &&& (m - 1) = r at hr ⊢
 rw [bitsL_clear h0 h, hrr, cntL_nodup _ (bitsL_nodup _), bitsL_and]
 show (List.map _ (List.filter (okG g (tz m)) (bitsL r))).sum = (List.map _ (List.filter (okG g (tz m)) (bitsL r))).sum
 congr 1
 apply List.map_congr_left
 intro b _
 rw [bitsL_anb b hr]
theorem bits_len {m n : Nat} (h : m < 2 ^ n) (hn : n ≤ 32) : (bitsL m).length ≤ n := by
 have : bitsL m = (List.range n).filter fun i => Nat.testBit m i := by
  unfold bitsL
  rw [show 32 = n + (32 - n) by omega, List.range_add, List.filter_append]
  have hnil : List.filter (fun i => Nat.testBit m i) (List.map (fun x => n + x) (List.range (32 - n))) = [] := by
   rw [List.filter_eq_nil_iff]
   intro x hx
   obtain ⟨k, _, rfl⟩ := List.mem_map.1 hx
   rw [Nat.testBit_lt_two_pow (Nat.lt_of_lt_of_le h (Nat.pow_le_pow_right (by decide) (by omega)))]
   simp
  rw [hnil, List.append_nil]
 rw [this]
 exact Nat.le_trans (List.length_filter_le _ _) (by simp)
end Go.Idl
namespace Go.Idl
open Go.Proofs
def okT (met : List (Int × Int)) (a b : Int) : Bool := !(metB met a b)
def drT (met : List (Int × Int)) (teams : List Int) : List (List (Int × Int)) := drs (okT met) teams
def asT (teams : List Int) (d : List (Nat × Nat)) : List (Int × Int) := d.map fun p => (teams.getD p.1 0, teams.getD p.2 0)
theorem bitsL_full {n : Nat} (h : n ≤ 32) : bitsL (2 ^ n - 1) = List.range n := by
 unfold bitsL
 rw [show 32 = n + (32 - n) by omega, List.range_add, List.filter_append]
 have h1 : List.filter (fun i => Nat.testBit (2 ^ n - 1) i) (List.range n) = List.range n := by
  rw [List.filter_eq_self]
  intro x hx
  rw [Nat.testBit_two_pow_sub_one]; simpa using hx
 have h2 : List.filter (fun i => Nat.testBit (2 ^ n - 1) i) (List.map (fun x => n + x) (List.range (32 - n))) = [] := by
  rw [List.filter_eq_nil_iff]
  intro x hx
  obtain ⟨k, _, rfl⟩ := List.mem_map.1 hx
  rw [Nat.testBit_two_pow_sub_one]; simp
 rw [h1, h2, List.append_nil]
theorem teams_range (teams : List Int) : (List.range teams.length).map (fun i => teams.getD i 0) = teams := by
 apply List.ext_getElem
 ·simp
 ·intro i h1 h2; simp [h2]
theorem drs_teams {teams : List Int} {met : List (Int × Int)} {g : Nat → Nat} (hn : teams.length ≤ 16) (ho : OpenOK teams met g) {l : List Nat} (hnd : l.Nodup) (hl : ∀ i ∈ l, i < teams.length) :
  drT met (l.map fun i => teams.getD i 0) = (drs (okG g) l).map (asT teams) := by
 have h1 : drs (okG g) l = drs (fun a b => okT met (teams.getD a 0) (teams.getD b 0)) l := by
  refine drs_congr l.length l (Nat.le_refl _) hnd fun a ha b hb hab => ?_
  have ha' := hl a ha
  have hb' := hl b hb
  have := (ho a (by omega)).2 b ha'
  rw [okG, this]
  have e : ¬ b = a := fun e => hab e.symm
  simp [okT, hb', e]
 rw [drT, h1]
 exact drs_map (fun i => teams.getD i 0) (fun a b => rfl) l.length l (Nat.le_refl _)
theorem all_c (teams : List Int) (g : Nat → Nat) (hn : teams.length ≤ 16) : FN 87 [.fptr 17 [tbR teams g] 0 0] (fun v => v = .int .u32 ((2 ^ teams.length - 1 : Nat) : Int)) := all_fun teams (opC g) hn
end Go.Idl
namespace Go.Idl
open Go.Proofs
theorem lt_of_bit {m n b : Nat} (h : m < 2 ^ n) (hb : Nat.testBit m b = true) : b < n := by
 apply Decidable.byContradiction
 intro hc
 rw [Nat.testBit_lt_two_pow (Nat.lt_of_lt_of_le h (Nat.pow_le_pow_right (by decide) (by omega)))] at hb
 cases hb
theorem bitsL_wo {r b : Nat} (h : r < 2 ^ 32) : bitsL (anb r (2 ^ b)) = wo b (bitsL r) := bitsL_anb b h
theorem asT_snoc (teams : List Int) (d : List (Nat × Nat)) (a b : Nat) : asT teams (d ++ [(a, b)]) = asT teams d ++ [(teams.getD a 0, teams.getD b 0)] := by simp [asT]
@[simp] theorem asT_length (teams : List Int) (d : List (Nat × Nat)) : (asT teams d).length = d.length := by simp [asT]
end Go.Idl
namespace Go.Idl
open Go.Proofs
def fstD (met : List (Int × Int)) (teams : List Int) : List (Int × Int) := (drT met teams).headD []
def fstB (met : List (Int × Int)) (teams : List Int) : Bool := !(drT met teams).isEmpty
def restZ (teams : List Int) (i k : Nat) : List Int := ((List.range k).filter fun j => !(decide (j = i))).map fun j => teams.getD j 0
theorem restZ_succ (teams : List Int) (i k : Nat) : restZ teams i (k + 1) = restZ teams i k ++ (if k ≠ i then [teams.getD k 0] else []) := by
 unfold restZ
 rw [List.range_succ, List.filter_append, List.map_append]
 congr 1
 by_cases h : k = i
 ·rw [if_neg (by simpa using h)]; simp [h]
 ·rw [if_pos h]; simp [h]
theorem restZ_le (teams : List Int) (i : Nat) : ∀ k, k ≤ i → k ≤ teams.length → restZ teams i k = teams.take k
 | 0, _, _ => by simp [restZ]
 | k + 1, h, hk => by
  rw [restZ_succ, restZ_le teams i k (by omega) (by omega), if_pos (by omega), List.take_succ_eq_append_getElem (by omega)]
  simp [show k < teams.length by omega]
theorem restZ_gt (teams : List Int) (i : Nat) (hil : i < teams.length) : ∀ k, i + 1 + k ≤ teams.length → restZ teams i (i + 1 + k) = teams.take i ++ (teams.drop (i + 1)).take k
 | 0, _ => by
  rw [Nat.add_zero, restZ_succ, if_neg (by simp), List.append_nil, restZ_le teams i i (Nat.le_refl _) (by omega)]; simp
 | k + 1, h => by
  rw [← Nat.add_assoc, restZ_succ, restZ_gt teams i hil k (by omega), if_pos (by omega), List.append_assoc]
  congr 1
  rw [List.take_succ_eq_append_getElem (by simp; omega)]
  simp [show i + 1 + k < teams.length by omega]
theorem restZ_all (teams : List Int) (i : Nat) (hil : i < teams.length) : restZ teams i teams.length = teams.eraseIdx i := by
 have := restZ_gt teams i hil (teams.length - (i + 1)) (by omega)
 rw [show i + 1 + (teams.length - (i + 1)) = teams.length by omega] at this
 have h1 : (teams.drop (i + 1)).take (teams.length - (i + 1)) = teams.drop (i + 1) := List.take_of_length_le (by rw [List.length_drop]; exact Nat.le_refl _)
 rw [this, h1, List.eraseIdx_eq_take_drop_succ]
def byeGo (teams : List Int) (met : List (Int × Int)) (byes : List Int) : Nat → List (Int × Int) × Int × Int
 | 0 => ([], 0, 6)
 | i + 1 => if teams.getD i 0 ∈ byes then byeGo teams met byes i else if fstB met (teams.eraseIdx i) = true then (fstD met (teams.eraseIdx i), teams.getD i 0, 0) else byeGo teams met byes i
def drawR (teams : List Int) (met : List (Int × Int)) (byes : List Int) : List (Int × Int) × Int × Int :=
 if errN teams met true ≠ 0 then ([], 0, errN teams met true) else
 if teams.length % 2 = 0 then (if fstB met teams = true then (fstD met teams, 0, 0) else ([], 0, 6)) else byeGo teams met byes teams.length
def drawV (r : List (Int × Int) × Int × Int) : IV := .tup [.fz 2 (prs r.1), .int .i64 r.2.1, .int .i64 r.2.2]
end Go.Idl
namespace Go.Idl
open Go.Proofs
def scGo : Int → List Int → Bool
 | _, [] => true
 | b, x :: l => decide (b < x) && decide (x ≤ 1000000) && scGo x l
def scB (S : List Int) : Bool := decide (1 ≤ S.length) && decide (S.length ≤ 50) && scGo 0 S
def cntS (S : List Int) (m : Int) : Nat := S.countP fun x => decide (x ≤ max m (-m))
def moreI (S : List Int) (m : Int) : Int := if m < 0 then -(cntS S m : Int) else cntS S m
def ptA (S : List Int) (m : Int) : Int := (S.length : Int) + moreI S m
def ptB (S : List Int) (m : Int) : Int := (S.length : Int) - moreI S m
def mrB (m : Int) : Bool := decide (-1000000 ≤ m) && decide (m ≤ 1000000)
theorem cntS_le (S : List Int) (m : Int) : cntS S m ≤ S.length := List.countP_le_length
theorem pt_sum (S : List Int) (m : Int) : ptA S m + ptB S m = 2 * S.length := by unfold ptA ptB; omega
theorem pt_bd (S : List Int) (m : Int) : (0 ≤ ptA S m ∧ ptA S m ≤ 2 * S.length) ∧ 0 ≤ ptB S m ∧ ptB S m ≤ 2 * S.length := by
 have := cntS_le S m
 unfold ptA ptB moreI; split <;> omega
theorem scB_len {S : List Int} (h : scB S = true) : 1 ≤ S.length ∧ S.length ≤ 50 := by
 unfold scB at h
 simp only [Bool.and_eq_true, decide_eq_true_eq] at h
 exact ⟨h.1.1, h.1.2⟩
theorem scGo_take {b : Int} : ∀ {S : List Int} {i : Nat}, scGo b S = true → scGo b (S.take i) = true
 | [], i, _ => by simp [scGo]
 | x :: l, 0, _ => rfl
 | x :: l, i + 1, h => by
  simp only [scGo, List.take_succ_cons, Bool.and_eq_true] at h ⊢
  exact ⟨h.1, scGo_take h.2⟩
end Go.Idl
