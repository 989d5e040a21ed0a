/-
  Chapter 36: Nth f23.
  Chapter 36: Number f24.
  Chapter 36: drawn f31, f47; first f32.
-/
import Derived.Test.YtpfpgkopbokfgaaDoorC36PartB
namespace Go.Idl
set_option linter.all false
open Go.Proofs
set_option maxHeartbeats 4000000
set_option maxRecDepth 40000

theorem lt_of_bit {m n b : Nat} (h : m < 2 ^ n) (hb : Nat.testBit m b = true) : b < n := by
  apply Decidable.byContradiction
  intro hc
  rw [Nat.testBit_lt_two_pow (Nat.lt_of_lt_of_le h (Nat.pow_le_pow_right (by decide) (by omega)))] at hb
  cases hb
theorem bitsL_wo {r b : Nat} (h : r < 2 ^ 32) : bitsL (anb r (2 ^ b)) = wo b (bitsL r) := bitsL_anb b h
theorem asT_snoc (teams : List Int) (d : List (Nat × Nat)) (a b : Nat) : asT teams (d ++ [(a, b)]) = asT teams d ++ [(teams.getD a 0, teams.getD b 0)] := by simp [asT]
@[simp] theorem asT_length (teams : List Int) (d : List (Nat × Nat)) : (asT teams d).length = d.length := by simp [asT]
def nthE (teams : List Int) (met : List (Int × Int)) (k : Int) : Int :=
  if errN teams met false ≠ 0 then errN teams met false else if k < 0 ∨ ((drT met teams).length : Int) ≤ k then 6 else 0
def nthD (teams : List Int) (met : List (Int × Int)) (k : Int) : List (Int × Int) := if nthE teams met k = 0 then (drT met teams).getD k.toNat [] else []
theorem Nth_fun (teams : List Int) (met : List (Int × Int)) (k : Int) (hl : teams.length ≤ 2 ^ 32) (hm : met.length ≤ 2 ^ 32) : F36 23 [.fz 1 (ints teams), .fz 2 (prs met), .int .i64 k] (fun v => v = .tup [.fz 2 (prs (nthD teams met k)), .int .i64 (nthE teams met k)]) := by
  refine IFun.of_bodyZ false 8 [8, 9, 10, 11, 12, 13, 14, 15, 16, 24, 37, 41, 56, 72] Tryd.func23 rfl Tryd.call23 rfl fun R hR => ?_
  simp [go_sem]
  refine (even_fun teams met hl hm).call (by simp [go_sem]) ?_
  rintro v (⟨h1, rfl⟩ | ⟨h1, g, ho, rfl⟩)
  · have e : nthE teams met k = errN teams met false := by unfold nthE; rw [if_pos h1]
    have e2 : nthD teams met k = [] := by unfold nthD; rw [if_neg (by rw [e]; exact h1)]
    simp [go_sem, h1]
    exact hR _ _ _ rfl (by simp [go_sem, e, e2])
  obtain ⟨hr, hn, hev⟩ := errN_zero h1
  have hcnt := cnt_teams hn ho
  have hp : 2 ^ teams.length - 1 < 2 ^ teams.length := by have : 0 < 2 ^ teams.length := Nat.pow_pos (by decide); omega
  have hp16 : 2 ^ teams.length ≤ 2 ^ 16 := Nat.pow_le_pow_right (by decide) hn
  have hD := drs_teams hn ho (l := List.range teams.length) List.nodup_range (fun i hi => List.mem_range.1 hi)
  rw [teams_range, ← bitsL_full (n := teams.length) (by omega)] at hD
  have hgb : ∀ i, i < 16 → g i < 2 ^ 32 := fun i hi => (ho i hi).1
  simp [go_sem]
  refine (counter_calls teams g).mono ?_
  rintro _ _ ⟨rfl, rfl⟩
  have allc := all_c teams g hn
  generalize 2 ^ teams.length - 1 = M at *
  by_cases hk0 : k < 0
  · have e : nthE teams met k = 6 := by unfold nthE; rw [if_neg (by simp [h1]), if_pos (.inl hk0)]
    have e2 : nthD teams met k = [] := by unfold nthD; rw [if_neg (by rw [e]; decide)]
    simp [go_sem, cntF, cntH, hk0]
    exact hR _ _ _ rfl (by simp [go_sem, e, e2])
  obtain ⟨K, rfl⟩ : ∃ K : Nat, k = K := ⟨k.toNat, by omega⟩
  simp [go_sem, cntF, cntH, hk0]
  refine allc.call (by simp [go_sem]) ?_
  rintro _ rfl
  simp [go_sem]
  refine (count_calls teams g hn hgb M (by omega) [(0, 1)] [] memo0 rfl (by simp [go_sem])).mono ?_
  rintro _ _ ⟨rfl, S', ⟨hS', hS0'⟩, rfl⟩
  by_cases hk1 : cntM g M ≤ K
  · have e : nthE teams met K = 6 := by unfold nthE; rw [if_neg (by simp [h1]), if_pos (.inr (by rw [← hcnt]; omega))]
    have e2 : nthD teams met K = [] := by unfold nthD; rw [if_neg (by rw [e]; decide)]
    simp [go_sem, cntH, hk1]
    exact hR _ _ _ rfl (by simp [go_sem, e, e2])
  have e : nthE teams met K = 0 := by unfold nthE; rw [if_neg (by simp [h1]), if_neg (by rw [← hcnt]; omega)]
  have hKl : K < (drs (okG g) (bitsL M)).length := by have : cntM g M = (drs (okG g) (bitsL M)).length := rfl; omega
  obtain ⟨D, hDK⟩ : ∃ D, (drs (okG g) (bitsL M))[K] = D := ⟨_, rfl⟩
  have hKb : K < 4294967296 := by have := cntM_le (g := g) (m := M) (by omega); omega
  have hDl : D.length ≤ 16 := by
    have h2 := drs_len _ _ (Nat.le_refl _) D (hDK ▸ List.getElem_mem hKl)
    have h3 := bits_len (m := M) (n := 16) (by omega) (by decide)
    omega
  have e2 : nthD teams met K = asT teams D := by
    unfold nthD
    rw [if_pos e, hD]
    simp [hKl, hDK]
  simp [go_sem, cntH, hk1]
  refine allc.call (by simp [go_sem]) ?_
  rintro _ rfl
  simp [go_sem]
  refine IWp.ownNilS 2 11 (by decide) (by simp [go_sem]) ?_
  simp only [go_sem]
  refine IWp.loopT (α := Nat × Nat × List (Nat × Nat) × List (Nat × Nat)) (fun x => (⟨false, 90, 8, [8, 9, 10, 11, 12, 13, 14, 15, 16, 24, 37, 41, 56, 72], glT, [(0, .fz 1 (ints teams)), (2, .int .i64 (x.2.1 : Int)), (8, .fptr 17 [tbR teams g] 0 0), (10, cntF), (11, .sl 4 x.2.2.1.length 0 x.2.2.1.length none), (12, .int .u32 (x.1 : Int))], []⟩, cntH teams g x.2.2.2 ++ [.rows 2 (prs (asT teams x.2.2.1))]))
    (fun x => x.1 < 2 ^ teams.length ∧ (∃ rest, (drs (okG g) (bitsL x.1))[x.2.1]? = some rest ∧ x.2.2.1 ++ rest = D) ∧ (MemoC g x.2.2.2 ∧ aget 0 x.2.2.2 = some 1) ∧ x.2.1 ≤ K) (fun x => x.1) (M, K, [], S') ⟨hp, ⟨D, by rw [List.getElem?_eq_getElem hKl, hDK], rfl⟩, ⟨hS', hS0'⟩, Nat.le_refl _⟩ (by simp [go_sem, cntH, cntF, asT]) ?_
  rintro ⟨m, k, acc, S⟩ ⟨hmn, ⟨rest, hrest, hacc⟩, ⟨hS, hS0⟩, hkK⟩
  simp only at hmn hrest hacc hS hS0 hkK
  by_cases hm0 : m = 0
  · subst hm0
    rw [bitsL_zero, drs_nil] at hrest
    have : rest = [] := by
      cases k with
      | zero => simpa using hrest.symm
      | succ k => simp at hrest
    rw [this, List.append_nil] at hacc
    subst hacc
    simp [go_sem, cntH]
    exact hR _ _ _ rfl (by simp [go_sem, e, e2])
  · have hm32 : m < 2 ^ 32 := by omega
    have hrl : m &&& (m - 1) < m := Nat.lt_of_le_of_lt Nat.and_le_right (by omega)
    have htz := (tz_spec hm0 hm32)
    have htzn := lt_of_bit hmn htz.2.1
    have htz16 : tz m < 16 := by omega
    rw [bitsL_clear hm0 hm32] at hrest
    have hrnd := bitsL_nodup (m &&& (m - 1))
    rw [drs_nodup _ hrnd] at hrest
    simp [go_sem, cntH, hm0]
    refine (split_fun m hm0 hm32).call (by simp [go_sem]) ?_
    rintro _ rfl
    generalize tz m = a at *
    generalize m &&& (m - 1) = r at *
    have hr32 : r < 2 ^ 32 := by omega
    have ha := hgb a htz16
    have e1 := u32_and hr32 ha
    have hb1 : (bitsL r).filter (okG g a) = bitsL (r &&& g a) := by rw [bitsL_and]; rfl
    rw [hb1] at hrest
    have hole : r &&& g a ≤ r := Nat.and_le_left
    obtain ⟨o0, ho0⟩ : ∃ o, r &&& g a = o := ⟨_, rfl⟩
    rw [ho0] at e1 hrest hole
    simp [go_sem, tbR_at htz16, tbR_get htz16, e1]
    refine ⟨by omega, by omega, ?_⟩
    refine IWp.loopT (α := Nat × Nat × List (Nat × Nat)) (fun x => (⟨false, 90, 8, [8, 9, 10, 11, 12, 13, 14, 15, 16, 24, 37, 41, 56, 72], glT, [(0, .fz 1 (ints teams)), (2, .int .i64 (x.2.1 : Int)), (8, .fptr 17 [tbR teams g] 0 0), (10, cntF), (11, .sl 4 acc.length 0 acc.length none), (13, .int .i64 (a : Int)), (14, .int .u32 (r : Int)), (15, .int .u32 (x.1 : Int))], []⟩, cntH teams g x.2.2 ++ [.rows 2 (prs (asT teams acc))]))
      (fun x => x.1 < 2 ^ teams.length ∧ (∃ rest, (dJ (okG g) a (bitsL r) (bitsL x.1))[x.2.1]? = some rest ∧ acc ++ rest = D) ∧ (MemoC g x.2.2 ∧ aget 0 x.2.2 = some 1) ∧ x.2.1 ≤ K) (fun x => x.1) (o0, k, S) ⟨by omega, ⟨rest, hrest, hacc⟩, ⟨hS, hS0⟩, hkK⟩ (by simp [go_sem, cntH, cntF]) ?_
    clear hrest hacc hS hS0 rest
    rintro ⟨o, k, S1⟩ ⟨hon, ⟨rest, hrest, hacc⟩, ⟨hS1, hS10⟩, hkK⟩
    simp only at hon hrest hacc hS1 hS10 hkK
    have ho32 : o < 2 ^ 32 := by omega
    by_cases h0 : o = 0
    · subst h0
      rw [bitsL_zero, dJ_nil] at hrest
      simp at hrest
    · have n1 := u32_neg h0 ho32
      have n1' : IntKind.u32.wrap (-(o : Int)) = ((2 ^ 32 - o : Nat) : Int) := by rw [← n1]; simp
      obtain ⟨K2, hK2⟩ : ∃ K, 2 ^ 32 - o = K := ⟨_, rfl⟩
      have n2 := u32_and ho32 (b := K2) (by omega)
      rw [← hK2, low_bit h0 ho32] at n2
      rw [hK2] at n1 n1' n2
      have n3 := u32_pred h0 ho32
      obtain ⟨L, hL⟩ : ∃ L, o - 1 = L := ⟨_, rfl⟩
      have n4 := u32_and ho32 (b := L) (by omega)
      have hcl := bitsL_clear h0 ho32
      rw [hL] at n3 hcl
      have hlt : o &&& L < o := Nat.lt_of_le_of_lt Nat.and_le_right (by omega)
      obtain ⟨o2, ho2⟩ : ∃ o2, o &&& L = o2 := ⟨_, rfl⟩
      rw [ho2] at n4 hcl hlt
      rw [hcl, dJ_cons] at hrest
      have n5 : bitsOf .andNot .u32 (r : Int) ((2 ^ tz o : Nat) : Int) = ((anb r (2 ^ tz o) : Nat) : Int) := u32_andNot
      have hbn := lt_of_bit hon (tz_spec h0 ho32).2.1
      have tzc := tz_fun o h0 ho32
      have hbq := bitsL_wo (r := r) (b := tz o) hr32
      obtain ⟨b, hb⟩ : ∃ b, tz o = b := ⟨_, rfl⟩
      rw [hb] at n2 n5 hrest hbn tzc hbq
      obtain ⟨P2, hP2⟩ : ∃ P2, 2 ^ b = P2 := ⟨_, rfl⟩
      have hqr : anb r (2 ^ b) ≤ r := anb_le hr32
      rw [hP2] at n2 n5 hbq hqr
      obtain ⟨q, hq⟩ : ∃ q, anb r P2 = q := ⟨_, rfl⟩
      rw [hq] at n5 hbq hqr
      rw [← hbq] at hrest
      have hcq : cntM g q = (drs (okG g) (bitsL q)).length := rfl
      simp [go_sem, cntH, cntF, h0, n1, n1', n2, n5]
      refine (count_calls teams g hn hgb q (by omega) S1 [.rows 2 (prs (asT teams acc))] hS1 hS10 (by simp [go_sem])).mono ?_
      rintro _ _ ⟨rfl, S2, ⟨hS2, hS20⟩, rfl⟩
      by_cases hkn : k < cntM g q
      · have hkn' : (k : Int) < (cntM g q : Int) := by omega
        have hal : acc.length ≤ 16 := by rw [← hacc] at hDl; simp at hDl; omega
        simp [go_sem, cntH, hkn]
        refine Drawn.intro (fun j => if j = 7 then .int .i64 (b : Int) else .tup []) ?_
        have ta : teams.getD a 0 = teams[a] := by simp [htzn]
        have tb : teams.getD b 0 = teams[b] := by simp [hbn]
        simp [go_sem, tzc, htzn, hbn]
        rw [List.getElem?_append_left (by rw [List.length_map]; omega), List.getElem?_map] at hrest
        obtain ⟨rest', hr1, hr2⟩ := Option.map_eq_some_iff.1 hrest
        refine ⟨by omega, by decide +kernel, q, k, acc ++ [(a, b)], S2, ⟨⟨rfl, by simp, rfl⟩, rfl, ?_⟩, ⟨by omega, ⟨rest', hr1, ?_⟩, ⟨hS2, hS20⟩, by omega⟩, by omega⟩
        · rw [asT_snoc, prs_snoc, ta, tb]
        · rw [← hacc, ← hr2]; simp
      · have hkn' : ¬ (k : Int) < (cntM g q : Int) := by omega
        have w2 : IntKind.i64.wrap ((k : Int) - (cntM g q : Int)) = ((k - cntM g q : Nat) : Int) := by rw [wrap64 (by omega) (by omega)]; omega
        simp [go_sem, cntH, hkn, n3, n4]
        refine ⟨o2, k - cntM g q, S2, ⟨⟨w2, rfl⟩, rfl⟩, ⟨by omega, ⟨rest, ?_, hacc⟩, ⟨hS2, hS20⟩, by omega⟩, hlt⟩
        rw [List.getElem?_append_right (by rw [List.length_map]; omega), List.length_map] at hrest
        exact hrest
end Go.Idl
namespace Go.Idl
set_option linter.all false
open Go.Proofs
set_option maxHeartbeats 4000000
set_option maxRecDepth 40000

/-- The teams at some places. -/
def tl (teams : List Int) (m : Nat) : List Int := (bitsL m).map fun i => teams.getD i 0
theorem bits_lt {m n : Nat} (h : m < 2 ^ n) : ∀ i ∈ bitsL m, i < n := fun i hi => lt_of_bit h (bitsL_mem.1 hi).2
theorem map_nodup {teams : List Int} (hnd : teams.Nodup) : ∀ {l : List Nat}, l.Nodup → (∀ i ∈ l, i < teams.length) → (l.map fun i => teams.getD i 0).Nodup
  | [], _, _ => List.nodup_nil
  | a :: l, h, hl => by
    rw [List.nodup_cons] at h
    rw [List.map_cons, List.nodup_cons]
    refine ⟨fun hm => ?_, map_nodup hnd h.2 fun i hi => hl i (by simp [hi])⟩
    obtain ⟨k, hk, e⟩ := List.mem_map.1 hm
    have := getD_inj hnd (hl k (by simp [hk])) (hl a (by simp)) e
    exact h.1 (this ▸ hk)
theorem tl_nodup {teams : List Int} (hnd : teams.Nodup) {m : Nat} (h : m < 2 ^ teams.length) : (tl teams m).Nodup := map_nodup hnd (bitsL_nodup m) (bits_lt h)
theorem tl_cnt {teams : List Int} {met : List (Int × Int)} {g : Nat → Nat} (hn : teams.length ≤ 16) (ho : OpenOK teams met g) {m : Nat} (h : m < 2 ^ teams.length) : (drT met (tl teams m)).length = cntM g m := by
  rw [tl, drs_teams hn ho (bitsL_nodup m) (bits_lt h), List.length_map]; rfl
theorem tl_wo {teams : List Int} (hnd : teams.Nodup) {r b : Nat} (h : r < 2 ^ teams.length) (hr : r < 2 ^ 32) (hb : b < teams.length) : wo (teams.getD b 0) (tl teams r) = tl teams (anb r (2 ^ b)) := by
  unfold tl
  rw [bitsL_wo hr]
  unfold wo
  rw [List.filter_map]
  congr 1
  apply List.filter_congr
  intro x hx
  have hxn := bits_lt h x hx
  simp only [Function.comp]
  congr 1
  exact decide_eq_decide.2 ⟨fun e => getD_inj hnd hxn hb e, fun e => by rw [e]⟩
theorem tl_open {teams : List Int} {met : List (Int × Int)} {g : Nat → Nat} (hn : teams.length ≤ 16) (ho : OpenOK teams met g) {r a : Nat} (h : r < 2 ^ teams.length) (ha : a < teams.length) (har : Nat.testBit r a = false) :
    (tl teams r).filter (okT met (teams.getD a 0)) = tl teams (r &&& g a) := by
  unfold tl
  rw [bitsL_and, List.filter_map]
  congr 1
  apply List.filter_congr
  intro x hx
  have hxn := bits_lt h x hx
  have hxa : ¬ x = a := fun e => by rw [e] at hx; have := (bitsL_mem.1 hx).2; rw [har] at this; cases this
  simp only [Function.comp]
  rw [(ho a (by omega)).2 x ha]
  simp [okT, hxn, hxa]
theorem bits_at {o b : Nat} (hb : b < 32) (h : Nat.testBit o b = true) : ∃ J, bitsL o = bitsL (o &&& (2 ^ b - 1)) ++ b :: J ∧ (∀ x ∈ J, b < x) ∧ (∀ x ∈ bitsL (o &&& (2 ^ b - 1)), x < b) := by
  have h32 : List.range 32 = List.range b ++ b :: (List.range (31 - b)).map fun i => b + 1 + i := by
    rw [show 32 = b + 1 + (31 - b) by omega, List.range_add, List.range_succ, List.append_assoc]; rfl
  refine ⟨((List.range (31 - b)).map fun i => b + 1 + i).filter fun i => Nat.testBit o i, ?_, fun x hx => ?_, fun x hx => ?_⟩
  · rw [bitsL_and]
    unfold bitsL
    have hself : Nat.testBit (2 ^ b - 1) b = false := by rw [Nat.testBit_two_pow_sub_one]; simp
    rw [h32, List.filter_append, List.filter_cons, if_pos h, List.filter_append, List.filter_cons, hself, if_neg (by simp)]
    have e1 : List.filter (fun i => Nat.testBit (2 ^ b - 1) i) (List.filter (fun i => Nat.testBit o i) (List.range b)) = List.filter (fun i => Nat.testBit o i) (List.range b) := by
      rw [List.filter_eq_self]
      intro x hx
      have := List.mem_range.1 (List.mem_filter.1 hx).1
      rw [Nat.testBit_two_pow_sub_one]; simpa using this
    have e2 : List.filter (fun i => Nat.testBit (2 ^ b - 1) i) (List.filter (fun i => Nat.testBit o i) ((List.range (31 - b)).map fun i => b + 1 + i)) = [] := by
      rw [List.filter_eq_nil_iff]
      intro x hx
      obtain ⟨k, _, rfl⟩ := List.mem_map.1 (List.mem_filter.1 hx).1
      rw [Nat.testBit_two_pow_sub_one]; simp; omega
    rw [e1, e2]
    simp
  · obtain ⟨k, _, rfl⟩ := List.mem_map.1 (List.mem_filter.1 hx).1
    omega
  · have := (bitsL_mem.1 hx).2
    rw [Nat.testBit_and, Nat.testBit_two_pow_sub_one] at this
    simp at this; exact this.2
theorem and_pow (o b : Nat) : o &&& 2 ^ b = if Nat.testBit o b = true then 2 ^ b else 0 := by
  apply Nat.eq_of_testBit_eq
  intro j
  rw [Nat.testBit_and, Nat.testBit_two_pow]
  by_cases e : b = j
  · subst e; cases h : Nat.testBit o b <;> simp
  · split <;> simp [e]
theorem bits_len0 {m : Nat} (h : m < 2 ^ 32) (h0 : (bitsL m).length = 0) : m = 0 := by
  apply Decidable.byContradiction
  intro hc
  exact bitsL_ne hc h (List.eq_nil_of_length_eq_zero h0)

theorem wo_len {r b : Nat} (hb : b < 32) (h : Nat.testBit r b = true) : (wo b (bitsL r)).length + 1 = (bitsL r).length := by
  obtain ⟨J, hJ, h1, h2⟩ := bits_at hb h
  have e1 : (bitsL (r &&& (2 ^ b - 1))).filter (fun x => !(decide (x = b))) = bitsL (r &&& (2 ^ b - 1)) := by
    rw [List.filter_eq_self]; intro x hx
    have := h2 x hx
    have : ¬ x = b := by omega
    simp [this]
  have e2 : J.filter (fun x => !(decide (x = b))) = J := by
    rw [List.filter_eq_self]; intro x hx
    have := h1 x hx
    have : ¬ x = b := by omega
    simp [this]
  unfold wo
  rw [hJ, List.filter_append, List.filter_cons, e1, e2]
  simp; omega
/-- The place of a draw, step by step. -/
theorem ix_step {teams : List Int} {met : List (Int × Int)} {g : Nat → Nat} (hnd : teams.Nodup) (hn : teams.length ≤ 16) (ho : OpenOK teams met g) {r o b : Nat} {ta : Int} {ps : List (Int × Int)} (hr : r < 2 ^ teams.length) (hor : o ≤ r) (hb : b < teams.length) (hbit : Nat.testBit o b = true) :
    ix (dJ (okT met) ta (tl teams r) (tl teams o)) ((ta, teams.getD b 0) :: ps) = (ix (drT met (tl teams (anb r (2 ^ b)))) ps).map (· + ((bitsL (o &&& (2 ^ b - 1))).map fun x => cntM g (anb r (2 ^ x))).sum) ∧
    ((bitsL (o &&& (2 ^ b - 1))).map fun x => cntM g (anb r (2 ^ x))).sum + cntM g (anb r (2 ^ b)) ≤ (dJ (okT met) ta (tl teams r) (tl teams o)).length := by
  have hp16 : 2 ^ teams.length ≤ 2 ^ 16 := Nat.pow_le_pow_right (by decide) hn
  have hr32 : r < 2 ^ 32 := by omega
  obtain ⟨J, hJ, h1, h2⟩ := bits_at (o := o) (b := b) (by omega) hbit
  have hon : o < 2 ^ teams.length := by omega
  have hlt := bits_lt hon
  have hJn : ∀ x ∈ J, x < teams.length := fun x hx => hlt x (by rw [hJ]; exact List.mem_append_right _ (List.mem_cons_of_mem _ hx))
  have hEn : ∀ x ∈ bitsL (o &&& (2 ^ b - 1)), x < teams.length := fun x hx => hlt x (by rw [hJ]; exact List.mem_append_left _ hx)
  have htl : tl teams o = tl teams (o &&& (2 ^ b - 1)) ++ teams.getD b 0 :: J.map (fun i => teams.getD i 0) := by
    unfold tl; rw [hJ, List.map_append, List.map_cons]
  have n1 : teams.getD b 0 ∉ tl teams (o &&& (2 ^ b - 1)) := by
    intro hm
    obtain ⟨x, hx, e⟩ := List.mem_map.1 hm
    have := getD_inj hnd (hEn x hx) hb e
    have := h2 x hx
    omega
  have n2 : teams.getD b 0 ∉ J.map (fun i => teams.getD i 0) := by
    intro hm
    obtain ⟨x, hx, e⟩ := List.mem_map.1 hm
    have := getD_inj hnd (hJn x hx) hb e
    have := h1 x hx
    omega
  have hW : (dJ (okT met) ta (tl teams r) (tl teams (o &&& (2 ^ b - 1)))).length = ((bitsL (o &&& (2 ^ b - 1))).map fun x => cntM g (anb r (2 ^ x))).sum := by
    rw [dJ_length]
    unfold tl
    rw [List.map_map]
    congr 1
    apply List.map_congr_left
    intro x hx
    have hxn := hEn x hx
    have := tl_wo hnd hr hr32 hxn
    unfold tl at this
    simp only [Function.comp]
    rw [this]
    have hq : anb r (2 ^ x) < 2 ^ teams.length := Nat.lt_of_le_of_lt (anb_le hr32) hr
    exact tl_cnt hn ho hq
  have hwo := tl_wo hnd hr hr32 hb
  have hq : anb r (2 ^ b) < 2 ^ teams.length := Nat.lt_of_le_of_lt (anb_le hr32) hr
  constructor
  · rw [htl, ix_dJ_at n1, hW, hwo, ix_dJ (.inr n2)]
    show (match ix (drT met (tl teams (anb r (2 ^ b)))) ps with | some i => _ | none => _) = _
    cases ix (drT met (tl teams (anb r (2 ^ b)))) ps with
    | none => rfl
    | some i => rfl
  · rw [htl, dJ_append, dJ_cons, List.length_append, List.length_append, hW, hwo, List.length_map]
    have : (drs (okT met) (tl teams (anb r (2 ^ b)))).length = cntM g (anb r (2 ^ b)) := tl_cnt hn ho hq
    omega
def nmbE (teams : List Int) (met draw : List (Int × Int)) : Int := if errN teams met false ≠ 0 then errN teams met false else match ix (drT met teams) draw with | some _ => 0 | none => 6
def nmbN (teams : List Int) (met draw : List (Int × Int)) : Int := if errN teams met false ≠ 0 then 0 else match ix (drT met teams) draw with | some i => (i : Int) | none => 0
theorem Number_fun (teams : List Int) (met draw : List (Int × Int)) (hl : teams.length ≤ 2 ^ 32) (hm : met.length ≤ 2 ^ 32) (hdl : draw.length ≤ 2 ^ 32) : F36 24 [.fz 1 (ints teams), .fz 2 (prs met), .fz 2 (prs draw)] (fun v => v = .tup [.int .i64 (nmbN teams met draw), .int .i64 (nmbE teams met draw)]) := by
  refine IFun.of_bodyZ false 8 [8, 9, 10, 11, 12, 14, 15, 16, 17, 18, 19, 27, 34, 39, 40, 41, 42, 83, 90] Tryd.func24 rfl Tryd.call24 rfl fun R hR => ?_
  simp [go_sem]
  refine (even_fun teams met hl hm).call (by simp [go_sem]) ?_
  rintro v (⟨h1, rfl⟩ | ⟨h1, g, ho, rfl⟩)
  · have e : nmbE teams met draw = errN teams met false := by unfold nmbE; rw [if_pos h1]
    have e2 : nmbN teams met draw = 0 := by unfold nmbN; rw [if_pos h1]
    simp [go_sem, h1]
    exact hR _ _ _ rfl (by simp [go_sem, e, e2])
  obtain ⟨hr, hn, hev⟩ := errN_zero h1
  have hev := hev rfl
  have hnd : teams.Nodup := by
    have := hr
    simp only [rightB, Bool.and_eq_true, decide_eq_true_eq] at this
    exact this.1.2
  have none6 : ix (drT met teams) draw = none → nmbE teams met draw = 6 ∧ nmbN teams met draw = 0 := fun hx => by
    unfold nmbE nmbN; rw [if_neg (by simp [h1]), if_neg (by simp [h1]), hx]; exact ⟨rfl, rfl⟩
  have hp : 2 ^ teams.length - 1 < 2 ^ teams.length := by have : 0 < 2 ^ teams.length := Nat.pow_pos (by decide); omega
  have hp16 : 2 ^ teams.length ≤ 2 ^ 16 := Nat.pow_le_pow_right (by decide) hn
  have hgb : ∀ i, i < 16 → g i < 2 ^ 32 := fun i hi => (ho i hi).1
  have htl : tl teams (2 ^ teams.length - 1) = teams := by rw [tl, bitsL_full (by omega), teams_range]
  have hq : (teams.length : Int).tdiv 2 = ((teams.length / 2 : Nat) : Int) := rfl
  have w0 : IntKind.i64.wrap ((teams.length : Int) / 2) = (teams.length : Int) / 2 := wrap64 (by omega) (by omega)
  by_cases hlen : draw.length = teams.length / 2
  case neg =>
    have hx : ix (drT met teams) draw = none := by
      rw [ix_none]
      intro hmem
      have := drs_len _ _ (Nat.le_refl _) draw hmem
      omega
    obtain ⟨e, e2⟩ := none6 hx
    have hlenI : ¬ (draw.length : Int) = (teams.length : Int) / 2 := by omega
    simp [go_sem, w0, hlenI]
    exact hR _ _ _ rfl (by simp [go_sem, e, e2])
  have hlenI : (draw.length : Int) = (teams.length : Int) / 2 := by omega
  simp [go_sem, w0, hlenI]
  refine (counter_calls teams g).mono ?_
  rintro _ _ ⟨rfl, rfl⟩
  simp [go_sem, cntF, cntH]
  refine (all_c teams g hn).call (by simp [go_sem]) ?_
  rintro _ rfl
  have hcM := cntM_le (g := g) (m := 2 ^ teams.length - 1) (by omega)
  have hbl : 2 * draw.length = (bitsL (2 ^ teams.length - 1)).length := by rw [bitsL_full (by omega), List.length_range]; omega
  generalize 2 ^ teams.length - 1 = M at *
  simp [go_sem]
  obtain ⟨X, hX⟩ : ∃ X, ix (drT met teams) draw = X := ⟨_, rfl⟩
  rw [hX] at none6
  refine IWp.loopT (α := Nat × Nat × Nat × List (Nat × Nat)) (fun x => (⟨false, 111, 8, [8, 9, 10, 11, 12, 14, 15, 16, 17, 18, 19, 27, 34, 39, 40, 41, 42, 83, 90], glT, [(0, .fz 1 (ints teams)), (8, .fptr 17 [tbR teams g] 0 0), (10, cntF), (11, .int .i64 (x.2.2.1 : Int)), (12, .int .u32 (x.2.1 : Int)), (39, .fz 2 (prs draw)), (40, .int .i64 (draw.length : Int)), (41, .int .i64 (x.1 : Int))], []⟩, cntH teams g x.2.2.2))
    (fun x => x.1 ≤ draw.length ∧ x.2.1 < 2 ^ teams.length ∧ X = (ix (drT met (tl teams x.2.1)) (draw.drop x.1)).map (· + x.2.2.1) ∧ 2 * (draw.length - x.1) = (bitsL x.2.1).length ∧ x.2.2.1 + cntM g x.2.1 ≤ 4294967296 ∧ (MemoC g x.2.2.2 ∧ aget 0 x.2.2.2 = some 1)) (fun x => draw.length - x.1) (0, M, 0, [(0, 1)])
    ⟨by simp, hp, by simp [htl, hX], by simpa using hbl, by simpa using hcM, memo0, rfl⟩ (by simp [go_sem, cntH, cntF, hlenI]) ?_
  rintro ⟨t, m, bef, S⟩ ⟨ht, hmn, hXt, hbt, hcb, hS, hS0⟩
  simp only at ht hmn hXt hbt hcb hS hS0
  by_cases htd : t < draw.length
  case neg =>
    have : t = draw.length := by omega
    subst this
    have hm0 : m = 0 := bits_len0 (by omega) (by omega)
    subst hm0
    have hXb : X = some bef := by rw [hXt, List.drop_length, tl, bitsL_zero]; simp [drT, drs_nil, ix]
    have e : nmbE teams met draw = 0 ∧ nmbN teams met draw = bef := by
      unfold nmbE nmbN; rw [if_neg (by simp [h1]), if_neg (by simp [h1]), hX, hXb]; exact ⟨rfl, rfl⟩
    simp [go_sem, cntH]
    exact hR _ _ _ rfl (by simp [go_sem, e.1, e.2])
  obtain ⟨p, hp2⟩ : ∃ p, draw[t] = p := ⟨_, rfl⟩
  obtain ⟨A, B⟩ := p
  rw [List.drop_eq_getElem_cons htd, hp2] at hXt
  have hm0 : m ≠ 0 := by
    intro e
    subst e
    rw [bitsL_zero] at hbt
    simp at hbt; omega
  have hm32 : m < 2 ^ 32 := by omega
  have htz := (tz_spec hm0 hm32)
  have htzn := lt_of_bit hmn htz.2.1
  have hcl := bitsL_clear hm0 hm32
  have hrl : m &&& (m - 1) < m := Nat.lt_of_le_of_lt Nat.and_le_right (by omega)
  have hra : Nat.testBit (m &&& (m - 1)) (tz m) = false := by rw [clear_bit hm0 hm32]; simp
  have htlm : tl teams m = teams.getD (tz m) 0 :: tl teams (m &&& (m - 1)) := by rw [tl, hcl]; rfl
  have hcm := tl_cnt hn ho hmn
  have sp := split_fun m hm0 hm32
  rw [htlm] at hXt hcm
  rw [hcl] at hbt
  generalize tz m = a at *
  generalize hrr : m &&& (m - 1) = r at *
  have hrn : r < 2 ^ teams.length := by omega
  have hr32 : r < 2 ^ 32 := by omega
  have ha16 : a < 16 := by omega
  have ha := hgb a ha16
  have e1 := u32_and hr32 ha
  have hTn := tl_nodup hnd hrn
  rw [drT, drs_nodup _ hTn, tl_open hn ho hrn htzn hra] at hXt hcm
  have hole : r &&& g a ≤ r := Nat.and_le_left
  obtain ⟨o0, ho0⟩ : ∃ o, r &&& g a = o := ⟨_, rfl⟩
  rw [ho0] at e1 hXt hcm hole
  simp [go_sem, cntH, cntF, htd, hp2]
  refine sp.call (by simp [go_sem]) ?_
  rintro _ rfl
  have c2 := place_fun teams B hl
  simp [go_sem, tbR_at ha16, tbR_get ha16, e1]
  refine ⟨by omega, by omega, c2.call (by simp [go_sem]) ?_⟩
  rintro _ rfl
  have ta : teams.getD a 0 = teams[a] := by simp [htzn]
  have t0 : 0 < teams.length := by omega
  have tne : ¬ teams = [] := fun e => by rw [e] at t0; simp at t0
  have fail : (A ≠ teams.getD a 0 ∨ B ∉ tl teams o0) → nmbE teams met draw = 6 ∧ nmbN teams met draw = 0 := fun h => none6 (by rw [hXt, ix_dJ h]; rfl)
  have mem_o : ∀ b, b < teams.length → (teams.getD b 0 ∈ tl teams o0 ↔ Nat.testBit o0 b = true) := fun b hb => by
    unfold tl
    rw [List.mem_map]
    constructor
    · rintro ⟨x, hx, e⟩
      have hxn := bits_lt (m := o0) (n := teams.length) (by omega) x hx
      have := getD_inj hnd hxn hb e
      subst this; exact (bitsL_mem.1 hx).2
    · intro hbit
      exact ⟨b, bitsL_mem.2 ⟨by omega, hbit⟩, rfl⟩
  cases hB : ix teams B with
  | none =>
    have pB : plc teams B = -1 := by rw [plc, hB]
    have hnB : B ∉ tl teams o0 := by
      intro hmem
      obtain ⟨x, hx, e⟩ := List.mem_map.1 hmem
      have hxn := bits_lt (m := o0) (n := teams.length) (by omega) x hx
      have hx2 : teams.getD x 0 = teams[x] := by simp [hxn]
      have : B ∈ teams := by rw [← e, hx2]; exact List.getElem_mem hxn
      exact ix_none.1 hB this
    obtain ⟨q1, q2⟩ := fail (.inr hnB)
    rw [pB]
    simp [go_sem, htzn, t0, tne]
    exact ⟨by decide +kernel, hR _ _ _ rfl (by simp [go_sem, q1, q2])⟩
  | some b =>
    obtain ⟨hb, hBe⟩ := ix_lt hB
    have pB : plc teams B = (b : Int) := by rw [plc, hB]
    have tb : teams.getD b 0 = B := by rw [← hBe]; simp [hb]
    have s1 := shl32 (i := b) (by omega)
    have mb : min b 32 = b := by omega
    have h2b : 2 ^ b ≤ 2 ^ 15 := Nat.pow_le_pow_right (by decide) (by omega)
    have h2b0 : 0 < 2 ^ b := Nat.pow_pos (by decide)
    have n6 := u32_and (a := o0) (b := 2 ^ b) (by omega) (by omega)
    rw [and_pow] at n6
    rw [pB]
    cases hbit : Nat.testBit o0 b with
    | false =>
      obtain ⟨q1, q2⟩ := fail (.inr (by rw [← tb, mem_o b hb, hbit]; simp))
      rw [hbit] at n6
      simp at n6
      simp [go_sem, htzn, t0, tne, mb, s1, n6, hb]
      exact ⟨by decide +kernel, hR _ _ _ rfl (by simp [go_sem, q1, q2])⟩
    | true =>
      rw [hbit, if_pos rfl] at n6
      by_cases hA : A = teams[a]
      · have hst := ix_step (ta := teams.getD a 0) (ps := draw.drop (t + 1)) hnd hn ho hrn hole hb hbit
        rw [tb, show ((teams.getD a 0, B) : Int × Int) = (A, B) by rw [ta, hA]] at hst
        rw [hcm] at hst
        have hXn := hXt
        rw [hst.1] at hXn
        have hbnd := hst.2
        have hwl := wo_len (r := r) (b := b) (by omega) (by
          have h5 := hbit
          rw [← ho0, Nat.testBit_and] at h5
          simp at h5; exact h5.1)
        rw [← bitsL_wo hr32] at hwl
        have hqr : anb r (2 ^ b) ≤ r := anb_le hr32
        have u7 := u32_pred (m := 2 ^ b) (by omega) (by omega)
        have u9 : bitsOf .andNot .u32 (r : Int) ((2 ^ b : Nat) : Int) = ((anb r (2 ^ b) : Nat) : Int) := u32_andNot
        obtain ⟨q, hq⟩ : ∃ q, anb r (2 ^ b) = q := ⟨_, rfl⟩
        rw [hq] at hXn hbnd hwl hqr u9
        obtain ⟨P1, hP1⟩ : ∃ P1, 2 ^ b - 1 = P1 := ⟨_, rfl⟩
        rw [hP1] at u7 hXn hbnd
        have u8 := u32_and (a := o0) (b := P1) (by omega) (by omega)
        obtain ⟨e0, he0⟩ : ∃ e, o0 &&& P1 = e := ⟨_, rfl⟩
        have he0l : e0 ≤ o0 := by rw [← he0]; exact Nat.and_le_left
        rw [he0] at u8 hXn hbnd
        obtain ⟨P, hP⟩ : ∃ P, 2 ^ b = P := ⟨_, rfl⟩
        rw [hP] at s1 n6 u7 h2b h2b0 u9
        have hP0 : ¬ P = 0 := by omega
        obtain ⟨W, hW⟩ : ∃ W, ((bitsL e0).map fun x => cntM g (anb r (2 ^ x))).sum = W := ⟨_, rfl⟩
        rw [hW] at hXn hbnd
        have wt1 : IntKind.i64.wrap ((t : Int) + 1) = (t : Int) + 1 := wrap64 (by omega) (by omega)
        have hP3 : ((2 : Int) ^ b) = (P : Int) := by rw [← hP]; simp
        have s1' : IntKind.u32.wrap (P : Int) = P := u32_of (by omega)
        have bn : ¬ (b : Int) < 0 := by omega
        simp [go_sem, htzn, t0, tne, mb, s1', n6, hb, hBe, hA, hP3, hP0, u7, u8, bn]
        refine ⟨by decide +kernel, ?_⟩
        refine IWp.loopT (α := Nat × Nat × List (Nat × Nat)) (fun x => (⟨false, 111, 8, [8, 9, 10, 11, 12, 14, 15, 16, 17, 18, 19, 27, 34, 39, 40, 41, 42, 83, 90], glT, [(0, .fz 1 (ints teams)), (8, .fptr 17 [tbR teams g] 0 0), (10, cntF), (11, .int .i64 (x.2.1 : Int)), (16, .int .u32 (r : Int)), (18, .int .i64 (b : Int)), (19, .int .u32 (x.1 : Int)), (39, .fz 2 (prs draw)), (40, .int .i64 (draw.length : Int)), (41, .int .i64 (t : Int))], []⟩, cntH teams g x.2.2 ++ [.dead]))
          (fun x => x.1 < 2 ^ teams.length ∧ x.2.1 + ((bitsL x.1).map fun y => cntM g (anb r (2 ^ y))).sum = bef + W ∧ MemoC g x.2.2 ∧ aget 0 x.2.2 = some 1) (fun x => x.1) (e0, bef, S) ⟨by omega, by rw [hW], hS, hS0⟩ (by simp [go_sem, cntH, cntF]) ?_
        rintro ⟨o, bf, S1⟩ ⟨hon, hsum, hS1, hS10⟩
        simp only at hon hsum hS1 hS10
        have ho32 : o < 2 ^ 32 := by omega
        by_cases h0 : o = 0
        · subst h0
          rw [bitsL_zero] at hsum
          simp at hsum
          subst hsum
          simp [go_sem, cntH, cntF, mb, s1', hP3, u9, wt1]
          exact ⟨t + 1, q, bef + W, S1, ⟨⟨by omega, rfl, by omega⟩, rfl⟩, ⟨by omega, by omega, by rw [hXn, Option.map_map]; congr 1; funext z; simp only [Function.comp]; omega, by simp at hbt; omega, by omega, hS1, hS10⟩, by omega⟩
        · have n1 := u32_neg h0 ho32
          have n1' : IntKind.u32.wrap (-(o : Int)) = ((2 ^ 32 - o : Nat) : Int) := by rw [← n1]; simp
          obtain ⟨K2, hK2⟩ : ∃ K, 2 ^ 32 - o = K := ⟨_, rfl⟩
          have n2 := u32_and ho32 (b := K2) (by omega)
          rw [← hK2, low_bit h0 ho32] at n2
          rw [hK2] at n1 n1' n2
          have n3 := u32_pred h0 ho32
          obtain ⟨L, hL⟩ : ∃ L, o - 1 = L := ⟨_, rfl⟩
          have n4 := u32_and ho32 (b := L) (by omega)
          have hclo := bitsL_clear h0 ho32
          rw [hL] at n3 hclo
          have hlt : o &&& L < o := Nat.lt_of_le_of_lt Nat.and_le_right (by omega)
          obtain ⟨o2, ho2⟩ : ∃ o2, o &&& L = o2 := ⟨_, rfl⟩
          rw [ho2] at n4 hclo hlt
          rw [hclo, List.map_cons, List.sum_cons] at hsum
          have n5 : bitsOf .andNot .u32 (r : Int) ((2 ^ tz o : Nat) : Int) = ((anb r (2 ^ tz o) : Nat) : Int) := u32_andNot
          have hq2r : anb r (2 ^ tz o) ≤ r := anb_le hr32
          obtain ⟨P2, hP2⟩ : ∃ P2, 2 ^ tz o = P2 := ⟨_, rfl⟩
          rw [hP2] at n2 n5 hsum hq2r
          obtain ⟨q2, hq2⟩ : ∃ q, anb r P2 = q := ⟨_, rfl⟩
          rw [hq2] at n5 hsum hq2r
          simp [go_sem, cntH, cntF, h0, n1, n1', n2, n5]
          refine (count_calls teams g hn hgb q2 (by omega) S1 [.dead] hS1 hS10 (by simp [go_sem])).mono ?_
          rintro _ _ ⟨rfl, S2, ⟨hS2, hS20⟩, rfl⟩
          have w1 : IntKind.i64.wrap ((bf : Int) + (cntM g q2 : Int)) = ((bf + cntM g q2 : Nat) : Int) := by rw [wrap64 (by omega) (by omega)]; omega
          simp [go_sem, cntH, n3, n4]
          exact ⟨o2, bf + cntM g q2, S2, ⟨⟨w1, rfl⟩, rfl⟩, ⟨by omega, by rw [Nat.add_assoc]; exact hsum, hS2, hS20⟩, hlt⟩
      · obtain ⟨q1, q2⟩ := fail (.inl (by rw [ta]; exact hA))
        simp [go_sem, htzn, t0, tne, mb, s1, n6, hb, hBe, hA]
        exact ⟨by decide +kernel, hR _ _ _ rfl (by simp [go_sem, q1, q2])⟩
end Go.Idl
namespace Go.Idl
set_option linter.all false
open Go.Proofs
set_option maxHeartbeats 4000000
set_option maxRecDepth 40000

def smM (g : Nat → Nat) (m : Nat) : Bool := decide (0 < cntM g m)
def enB (S : List (Nat × Bool)) : List (IV × IV) := enM (fun k : Nat => .int .u32 (k : Int)) (fun v : Bool => .bool v) S
def MemoB (g : Nat → Nat) (S : List (Nat × Bool)) : Prop := ∀ m v, aget m S = some v → v = smM g m
def smH (teams : List Int) (g : Nat → Nat) (S : List (Nat × Bool)) : Heap :=
  [.rows 1 [[.fptr 17 [tbR teams g] 0 0]], .map (enB S), .rows 1 [[.map 1]], .rows 1 [[.func (.func 47) [] [.ptr 2 1 0 0, .ptr 0 1 0 0, .ptr 3 1 0 0]]]]
def smF : IV := .func (.func 47) [] [.ptr 2 1 0 0, .ptr 0 1 0 0, .ptr 3 1 0 0]
theorem drawn_calls (teams : List Int) (g : Nat → Nat) : ICalls Tryd.prog glT 31 [.fptr 17 [tbR teams g] 0 0] [] (fun v σ => v = smF ∧ σ = smH teams g [(0, true)]) := by
  refine ICalls.of_bodyE false 5 [] Tryd.func31 rfl Tryd.call31 rfl fun R hR => ?_
  simp [go_sem]
  exact hR _ _ ⟨rfl, rfl⟩
theorem mget_b (m : Nat) (S : List (Nat × Bool)) : mget (.int .u32 (m : Int)) (enB S) = (aget m S).map fun v : Bool => .bool v := mget_en (kf := fun k : Nat => .int .u32 (k : Int)) ku32 m S
theorem mset_b (m : Nat) (v : Bool) (S : List (Nat × Bool)) : mset (.int .u32 (m : Int)) (.bool v) (enB S) = enB (aset m v S) := mset_en (kf := fun k : Nat => .int .u32 (k : Int)) (vf := fun v : Bool => .bool v) ku32 m v S
theorem ok_b (S : List (Nat × Bool)) : ∀ e ∈ enB S, keyOK Tryd.prog 66 [.int .u32] e.1 = true := en_ok (fun a => by simp [go_sem, keyOK]) S
@[go_sem] theorem bl_b {n : Nat} {S : List (Nat × Bool)} : BlM n (enB S) = True := eq_true (en_bl (fun a => by simp [go_sem]) (fun b => by simp [go_sem]) S)
theorem sum_pos {α : Type} {l : List α} {f : α → Nat} : decide (0 < (l.map f).sum) = l.any fun x => decide (0 < f x) := by
  induction l with
  | nil => rfl
  | cons a l ih =>
    rw [List.map_cons, List.sum_cons, List.any_cons, ← ih]
    by_cases h : 0 < f a
    · simp [h]; omega
    · have : f a = 0 := by omega
      simp [this]
theorem smM_rec {g : Nat → Nat} {m : Nat} (h0 : m ≠ 0) (h : m < 2 ^ 32) : smM g m = (bitsL ((m &&& (m - 1)) &&& g (tz m))).any fun b => smM g (anb (m &&& (m - 1)) (2 ^ b)) := by
  unfold smM
  rw [cntM_rec h0 h, sum_pos]
theorem smM_zero (g : Nat → Nat) : smM g 0 = true := by unfold smM; rw [cntM_zero]; rfl

theorem some_calls (teams : List Int) (g : Nat → Nat) (hn : teams.length ≤ 16) (hg : ∀ i, i < 16 → g i < 2 ^ 32) : ∀ (m : Nat), m < 2 ^ 16 → ∀ (S : List (Nat × Bool)) (τ : Heap), MemoB g S → aget 0 S = some true → HeBl (τ.length + 4) τ →
    ICalls Tryd.prog glT 47 [.int .u32 (m : Int), .ptr 2 1 0 0, .ptr 0 1 0 0, .ptr 3 1 0 0] (smH teams g S ++ τ) (fun v σ' => v = .bool (smM g m) ∧ ∃ S', (MemoB g S' ∧ aget 0 S' = some true) ∧ σ' = smH teams g S' ++ τ) := by
  intro m
  induction m using Nat.strongRecOn with
  | _ m ih =>
    intro hm S τ hS hS0 hτ
    refine ICalls.of_bodyE false 12 [18, 38] Tryd.func47 rfl Tryd.call47 rfl fun R hR => ?_
    have hok : ∀ (S : List (Nat × Bool)) (a b : IV), (a, b) ∈ enB S → keyOK Tryd.prog 66 [.int .u32] a = true := fun S a b h => ok_b S (a, b) h
    cases hk : aget m S with
    | some v =>
      have := hS m v hk
      simp [go_sem, smH, mget_b, hk]
      exact ⟨fun a b h => by simpa [go_sem] using hok S a b h, hR _ _ ⟨by rw [this], S, ⟨hS, hS0⟩, rfl⟩⟩
    | none =>
      have hm0 : m ≠ 0 := fun e => by subst e; rw [hS0] at hk; cases hk
      have hm32 : m < 2 ^ 32 := by omega
      have hrec := smM_rec (g := g) hm0 hm32
      have hrl : m &&& (m - 1) < m := Nat.lt_of_le_of_lt Nat.and_le_right (by omega)
      have htz := (tz_spec hm0 hm32)
      have htz16 : tz m < 16 := lt_of_bit hm htz.2.1
      simp [go_sem, smH, mget_b, hk]
      refine ⟨fun a b h => by simpa [go_sem] using hok S a b h, ?_⟩
      refine (split_fun m hm0 hm32).call (by simp [go_sem]) ?_
      rintro _ rfl
      generalize tz m = a at *
      generalize m &&& (m - 1) = r at *
      have hr32 : r < 2 ^ 32 := by omega
      have ha := hg a htz16
      have e1 := u32_and hr32 ha
      obtain ⟨o0, ho0⟩ : ∃ o, r &&& g a = o := ⟨_, rfl⟩
      have ho32 : o0 < 2 ^ 32 := by rw [← ho0]; exact and_lt hr32
      rw [ho0] at e1 hrec
      simp [go_sem, tbR_at htz16, tbR_get htz16, e1]
      refine ⟨by omega, by omega, ?_⟩
      refine IWp.loopT (α := Nat × Bool × List (Nat × Bool)) (fun x => (⟨false, 55, 12, [18, 38], glT, [(0, .int .u32 (m : Int)), (1, .ptr 2 1 0 0), (3, .ptr 3 1 0 0), (9, .int .u32 (r : Int)), (10, .bool x.2.1), (11, .int .u32 (x.1 : Int))], []⟩, smH teams g x.2.2 ++ τ))
        (fun x => x.1 < 2 ^ 32 ∧ (x.2.1 || (bitsL x.1).any fun b => smM g (anb r (2 ^ b))) = smM g m ∧ MemoB g x.2.2 ∧ aget 0 x.2.2 = some true) (fun x => x.1) (o0, false, S) ⟨ho32, by simp [hrec], hS, hS0⟩ (by simp [go_sem, smH, hτ]) ?_
      rintro ⟨o, acc, S1⟩ ⟨ho, hsum, hS1, hS10⟩
      simp only at ho hsum hS1 hS10
      have fin : acc = smM g m → ∀ m' v, aget m' (aset m acc S1) = some v → v = smM g m' := fun e m' v hv => by
        rw [aget_aset] at hv
        split at hv
        · rename_i e2; subst e2; rw [← Option.some.inj hv]; exact e
        · exact hS1 m' v hv
      have fin0 : aget 0 (aset m acc S1) = some true := by rw [aget_aset, if_neg (fun e => hm0 e.symm)]; exact hS10
      by_cases h0 : o = 0
      · subst h0
        rw [bitsL_zero, List.any_nil, Bool.or_false] at hsum
        simp [go_sem, smH]
        rw [mset_b]
        exact ⟨fun a b h => by simpa [go_sem] using hok S1 a b h, hR _ _ ⟨by rw [hsum], aset m acc S1, ⟨fin hsum, fin0⟩, rfl⟩⟩
      · cases hacc : acc with
        | true =>
          rw [hacc, Bool.true_or] at hsum
          rw [hacc] at fin fin0
          simp [go_sem, smH, h0]
          rw [mset_b]
          exact ⟨fun a b h => by simpa [go_sem] using hok S1 a b h, hR _ _ ⟨by rw [hsum], aset m true S1, ⟨fin hsum, fin0⟩, rfl⟩⟩
        | false =>
          rw [hacc, Bool.false_or] at hsum
          have n1 := u32_neg h0 ho
          have n1' : IntKind.u32.wrap (-(o : Int)) = ((2 ^ 32 - o : Nat) : Int) := by rw [← n1]; simp
          obtain ⟨K, hK⟩ : ∃ K, 2 ^ 32 - o = K := ⟨_, rfl⟩
          have n2 := u32_and ho (b := K) (by omega)
          rw [← hK, low_bit h0 ho] at n2
          rw [hK] at n1 n1' n2
          have n3 := u32_pred h0 ho
          obtain ⟨L, hL⟩ : ∃ L, o - 1 = L := ⟨_, rfl⟩
          have n4 := u32_and ho (b := L) (by omega)
          have hcl := bitsL_clear h0 ho
          rw [hL] at n3 hcl
          have hlt : o &&& L < o := Nat.lt_of_le_of_lt Nat.and_le_right (by omega)
          obtain ⟨o2, ho2⟩ : ∃ o2, o &&& L = o2 := ⟨_, rfl⟩
          rw [ho2] at n4 hcl hlt
          rw [hcl, List.any_cons] at hsum
          have n5 : bitsOf .andNot .u32 (r : Int) ((2 ^ tz o : Nat) : Int) = ((anb r (2 ^ tz o) : Nat) : Int) := u32_andNot
          obtain ⟨P2, hP2⟩ : ∃ P2, 2 ^ tz o = P2 := ⟨_, rfl⟩
          rw [hP2] at n2 n5 hsum
          obtain ⟨q, hq⟩ : ∃ q, anb r P2 = q := ⟨_, rfl⟩
          rw [hq] at n5 hsum
          have hqm : q < m := by rw [← hq, ← hP2]; exact Nat.lt_of_le_of_lt (anb_le hr32) hrl
          simp [go_sem, smH, h0, n1, n1', n2, n5]
          refine (ih q hqm (by omega) S1 τ hS1 hS10 hτ).mono ?_
          rintro _ _ ⟨rfl, S2, ⟨hS2, hS20⟩, rfl⟩
          simp [go_sem, smH, n3, n4]
          cases hs : smM g q with
          | false => exact ⟨o2, .inl ⟨S2, ⟨⟨rfl, rfl⟩, rfl, hτ⟩, ⟨by omega, by simpa [hs] using hsum, hS2, hS20⟩, hlt⟩⟩
          | true => exact ⟨o2, .inr ⟨S2, ⟨⟨rfl, rfl⟩, rfl, hτ⟩, ⟨by omega, by simpa [hs] using hsum, hS2, hS20⟩, hlt⟩⟩

theorem cnt_head {g : Nat → Nat} {m : Nat} : smM g m = ((drs (okG g) (bitsL m)).head?).isSome := by
  unfold smM cntM cntL
  cases drs (okG g) (bitsL m) <;> simp
theorem memB0 {g : Nat → Nat} : MemoB g [(0, true)] := by
  intro m v h
  simp only [aget] at h
  split at h
  · rename_i e; subst e; rw [smM_zero]; exact (Option.some.inj h).symm
  · cases h
/-- first: with a draw it is the first one. -/
theorem first_calls (teams : List Int) (g : Nat → Nat) (hn : teams.length ≤ 16) (hg : ∀ i, i < 16 → g i < 2 ^ 32) (m : Nat) (hm : m < 2 ^ teams.length) (S : List (Nat × Bool)) (hS : MemoB g S) (hS0 : aget 0 S = some true) :
    ICalls Tryd.prog glT 32 [.fptr 17 [tbR teams g] 0 0, .int .u32 (m : Int), smF] (smH teams g S) (fun v σ' => ∃ S', (MemoB g S' ∧ aget 0 S' = some true) ∧
      (((drs (okG g) (bitsL m)).head? = none ∧ v = .tup [.nils, .bool false] ∧ σ' = smH teams g S') ∨
       ∃ D, (drs (okG g) (bitsL m)).head? = some D ∧ v = .tup [.sl 4 D.length 0 D.length none, .bool true] ∧ σ' = smH teams g S' ++ [.rows 2 (prs (asT teams D))])) := by
  refine ICalls.of_bodyE false 8 [8, 9, 10, 11, 15, 17, 32, 45] Tryd.func32 rfl Tryd.call32 rfl fun R hR => ?_
  have hp16 : 2 ^ teams.length ≤ 2 ^ 16 := Nat.pow_le_pow_right (by decide) hn
  simp [go_sem, smF, smH]
  refine (some_calls teams g hn hg m (by omega) S [] hS hS0 (by simp [go_sem])).mono ?_
  rintro _ _ ⟨rfl, S', ⟨hS', hS0'⟩, rfl⟩
  have hh := cnt_head (g := g) (m := m)
  cases hD : (drs (okG g) (bitsL m)).head? with
  | none =>
    rw [hD] at hh
    simp [go_sem, smH, hh]
    exact hR _ _ ⟨S', ⟨hS', hS0'⟩, .inl ⟨hD, rfl, rfl⟩⟩
  | some D =>
    rw [hD] at hh
    simp [go_sem, smH, hh]
    refine IWp.ownNilS 2 8 (by decide) (by simp [go_sem]) ?_
    simp only [go_sem]
    have hDl : D.length ≤ 16 := by
      have h2 := drs_len _ _ (Nat.le_refl _) D (List.mem_of_mem_head? hD)
      have h3 := bits_len (m := m) (n := 16) (by omega) (by decide)
      omega
    refine IWp.loopT (α := Nat × List (Nat × Nat) × List (Nat × Bool)) (fun x => (⟨false, 66, 8, [8, 9, 10, 11, 15, 17, 32, 45], glT, [(0, .fptr 17 [tbR teams g] 0 0), (1, .int .u32 (x.1 : Int)), (2, smF), (8, .sl 4 x.2.1.length 0 x.2.1.length none)], []⟩, smH teams g x.2.2 ++ [.rows 2 (prs (asT teams x.2.1))]))
      (fun x => x.1 < 2 ^ teams.length ∧ (∃ rest, (drs (okG g) (bitsL x.1)).head? = some rest ∧ x.2.1 ++ rest = D) ∧ (MemoB g x.2.2 ∧ aget 0 x.2.2 = some true)) (fun x => x.1) (m, [], S') ⟨hm, ⟨D, hD, rfl⟩, hS', hS0'⟩ (by simp [go_sem, smH, smF, asT]) ?_
    clear hh
    rintro ⟨m, acc, S⟩ ⟨hmn, ⟨rest, hrest, hacc⟩, hS, hS0⟩
    simp only at hmn hrest hacc hS hS0
    by_cases hm0 : m = 0
    · subst hm0
      rw [bitsL_zero, drs_nil] at hrest
      have : rest = [] := by simpa using hrest.symm
      rw [this, List.append_nil] at hacc
      subst hacc
      simp [go_sem, smH]
      exact hR _ _ ⟨S, ⟨hS, hS0⟩, .inr ⟨acc, by assumption, rfl, rfl⟩⟩
    · have hm32 : m < 2 ^ 32 := by omega
      have hrl : m &&& (m - 1) < m := Nat.lt_of_le_of_lt Nat.and_le_right (by omega)
      have htz := (tz_spec hm0 hm32)
      have htzn := lt_of_bit hmn htz.2.1
      have htz16 : tz m < 16 := by omega
      rw [bitsL_clear hm0 hm32] at hrest
      have hrnd := bitsL_nodup (m &&& (m - 1))
      rw [drs_nodup _ hrnd] at hrest
      simp [go_sem, smH, hm0]
      refine (split_fun m hm0 hm32).call (by simp [go_sem]) ?_
      rintro _ rfl
      generalize tz m = a at *
      generalize m &&& (m - 1) = r at *
      have hr32 : r < 2 ^ 32 := by omega
      have ha := hg a htz16
      have e1 := u32_and hr32 ha
      have hb1 : (bitsL r).filter (okG g a) = bitsL (r &&& g a) := by rw [bitsL_and]; rfl
      rw [hb1] at hrest
      have hole : r &&& g a ≤ r := Nat.and_le_left
      obtain ⟨o0, ho0⟩ : ∃ o, r &&& g a = o := ⟨_, rfl⟩
      rw [ho0] at e1 hrest hole
      simp [go_sem, tbR_at htz16, tbR_get htz16, e1]
      refine ⟨by omega, by omega, ?_⟩
      refine IWp.loopT (α := Nat × List (Nat × Bool)) (fun x => (⟨false, 66, 8, [8, 9, 10, 11, 15, 17, 32, 45], glT, [(0, .fptr 17 [tbR teams g] 0 0), (2, smF), (8, .sl 4 acc.length 0 acc.length none), (9, .int .i64 (a : Int)), (10, .int .u32 (r : Int)), (11, .int .u32 (x.1 : Int))], []⟩, smH teams g x.2 ++ [.rows 2 (prs (asT teams acc))]))
        (fun x => x.1 < 2 ^ teams.length ∧ (∃ rest, (dJ (okG g) a (bitsL r) (bitsL x.1)).head? = some rest ∧ acc ++ rest = D) ∧ (MemoB g x.2 ∧ aget 0 x.2 = some true)) (fun x => x.1) (o0, S) ⟨by omega, ⟨rest, hrest, hacc⟩, hS, hS0⟩ (by simp [go_sem, smH, smF]) ?_
      clear hrest hacc hS hS0 rest
      rintro ⟨o, S1⟩ ⟨hon, ⟨rest, hrest, hacc⟩, hS1, hS10⟩
      simp only at hon hrest hacc hS1 hS10
      have ho32 : o < 2 ^ 32 := by omega
      by_cases h0 : o = 0
      · subst h0
        rw [bitsL_zero, dJ_nil] at hrest
        simp at hrest
      · have n1 := u32_neg h0 ho32
        have n1' : IntKind.u32.wrap (-(o : Int)) = ((2 ^ 32 - o : Nat) : Int) := by rw [← n1]; simp
        obtain ⟨K2, hK2⟩ : ∃ K, 2 ^ 32 - o = K := ⟨_, rfl⟩
        have n2 := u32_and ho32 (b := K2) (by omega)
        rw [← hK2, low_bit h0 ho32] at n2
        rw [hK2] at n1 n1' n2
        have n3 := u32_pred h0 ho32
        obtain ⟨L, hL⟩ : ∃ L, o - 1 = L := ⟨_, rfl⟩
        have n4 := u32_and ho32 (b := L) (by omega)
        have hcl := bitsL_clear h0 ho32
        rw [hL] at n3 hcl
        have hlt : o &&& L < o := Nat.lt_of_le_of_lt Nat.and_le_right (by omega)
        obtain ⟨o2, ho2⟩ : ∃ o2, o &&& L = o2 := ⟨_, rfl⟩
        rw [ho2] at n4 hcl hlt
        rw [hcl, dJ_cons] at hrest
        have n5 : bitsOf .andNot .u32 (r : Int) ((2 ^ tz o : Nat) : Int) = ((anb r (2 ^ tz o) : Nat) : Int) := u32_andNot
        have hbn := lt_of_bit hon (tz_spec h0 ho32).2.1
        have tzc := tz_fun o h0 ho32
        have hbq := bitsL_wo (r := r) (b := tz o) hr32
        obtain ⟨b, hb⟩ : ∃ b, tz o = b := ⟨_, rfl⟩
        rw [hb] at n2 n5 hrest hbn tzc hbq
        obtain ⟨P2, hP2⟩ : ∃ P2, 2 ^ b = P2 := ⟨_, rfl⟩
        have hqr : anb r (2 ^ b) ≤ r := anb_le hr32
        rw [hP2] at n2 n5 hbq hqr
        obtain ⟨q, hq⟩ : ∃ q, anb r P2 = q := ⟨_, rfl⟩
        rw [hq] at n5 hbq hqr
        rw [← hbq] at hrest
        have hcq := cnt_head (g := g) (m := q)
        have hal : acc.length ≤ 16 := by rw [← hacc] at hDl; simp at hDl; omega
        simp [go_sem, smH, smF, h0, n1, n1', n2, n5]
        refine (some_calls teams g hn hg q (by omega) S1 [.rows 2 (prs (asT teams acc))] hS1 hS10 (by simp [go_sem])).mono ?_
        rintro _ _ ⟨rfl, S2, ⟨hS2, hS20⟩, rfl⟩
        cases hs : smM g q with
        | true =>
          rw [hs] at hcq
          obtain ⟨rest', hr1⟩ := Option.isSome_iff_exists.1 hcq.symm
          have hr2 : rest = (a, b) :: rest' := by
            rw [List.head?_append, List.head?_map, hr1] at hrest
            simpa using hrest.symm
          simp [go_sem, smH]
          refine Drawn.intro (fun j => if j = 13 then .int .i64 (b : Int) else .tup []) ?_
          have ta : teams.getD a 0 = teams[a] := by simp [htzn]
          have tb : teams.getD b 0 = teams[b] := by simp [hbn]
          simp [go_sem, tzc, htzn, hbn, tbR]
          refine ⟨by omega, by decide +kernel, q, acc ++ [(a, b)], S2, ⟨⟨rfl, by simp⟩, rfl, ?_⟩, ⟨by omega, ⟨rest', hr1, ?_⟩, hS2, hS20⟩, by omega⟩
          · rw [asT_snoc, prs_snoc, ta, tb]
          · rw [← hacc, hr2]; simp
        | false =>
          rw [hs] at hcq
          have hnil : drs (okG g) (bitsL q) = [] := by
            cases hd : drs (okG g) (bitsL q) with
            | nil => rfl
            | cons x l => rw [hd] at hcq; simp at hcq
          rw [hnil, List.map_nil, List.nil_append] at hrest
          simp [go_sem, smH, n3, n4]
          exact ⟨o2, S2, ⟨rfl, rfl⟩, ⟨by omega, ⟨rest, hrest, hacc⟩, hS2, hS20⟩, hlt⟩
end Go.Idl
