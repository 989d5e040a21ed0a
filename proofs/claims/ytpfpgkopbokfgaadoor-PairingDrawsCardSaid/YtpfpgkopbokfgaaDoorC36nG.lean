/-
  Chapter 36: Nth f23.
-/
import Derived.Test.YtpfpgkopbokfgaaDoorC36nF
namespace Go.Idl
set_option linter.all false
open Go.Proofs
set_option maxHeartbeats 4000000
set_option maxRecDepth 40000

theorem lt_of_bit {m n b : Nat} (h : m < 2 ^ n) (hb : Nat.testBit m b = true) : b < n := by
  apply Decidable.byContradiction
  intro hc
  rw [Nat.testBit_lt_two_pow (Nat.lt_of_lt_of_le h (Nat.pow_le_pow_right (by decide) (by omega)))] at hb
  cases hb
theorem bitsL_wo {r b : Nat} (h : r < 2 ^ 32) : bitsL (anb r (2 ^ b)) = wo b (bitsL r) := bitsL_anb b h
theorem asT_snoc (teams : List Int) (d : List (Nat × Nat)) (a b : Nat) : asT teams (d ++ [(a, b)]) = asT teams d ++ [(teams.getD a 0, teams.getD b 0)] := by simp [asT]
@[simp] theorem asT_length (teams : List Int) (d : List (Nat × Nat)) : (asT teams d).length = d.length := by simp [asT]
def nthE (teams : List Int) (met : List (Int × Int)) (k : Int) : Int :=
  if errN teams met false ≠ 0 then errN teams met false else if k < 0 ∨ ((drT met teams).length : Int) ≤ k then 6 else 0
def nthD (teams : List Int) (met : List (Int × Int)) (k : Int) : List (Int × Int) := if nthE teams met k = 0 then (drT met teams).getD k.toNat [] else []
theorem Nth_fun (teams : List Int) (met : List (Int × Int)) (k : Int) (hl : teams.length ≤ 2 ^ 32) (hm : met.length ≤ 2 ^ 32) : F36 23 [.fz 1 (ints teams), .fz 2 (prs met), .int .i64 k] (fun v => v = .tup [.fz 2 (prs (nthD teams met k)), .int .i64 (nthE teams met k)]) := by
  refine IFun.of_bodyZ false 8 [8, 9, 10, 11, 12, 13, 14, 15, 16, 24, 37, 41, 56, 72] Tryd.func23 rfl Tryd.call23 rfl fun R hR => ?_
  simp [go_sem]
  refine (even_fun teams met hl hm).call (by simp [go_sem]) ?_
  rintro v (⟨h1, rfl⟩ | ⟨h1, g, ho, rfl⟩)
  · have e : nthE teams met k = errN teams met false := by unfold nthE; rw [if_pos h1]
    have e2 : nthD teams met k = [] := by unfold nthD; rw [if_neg (by rw [e]; exact h1)]
    simp [go_sem, h1]
    exact hR _ _ _ rfl (by simp [go_sem, e, e2])
  obtain ⟨hr, hn, hev⟩ := errN_zero h1
  have hcnt := cnt_teams hn ho
  have hp : 2 ^ teams.length - 1 < 2 ^ teams.length := by have : 0 < 2 ^ teams.length := Nat.pow_pos (by decide); omega
  have hp16 : 2 ^ teams.length ≤ 2 ^ 16 := Nat.pow_le_pow_right (by decide) hn
  have hD := drs_teams hn ho (l := List.range teams.length) List.nodup_range (fun i hi => List.mem_range.1 hi)
  rw [teams_range, ← bitsL_full (n := teams.length) (by omega)] at hD
  have hgb : ∀ i, i < 16 → g i < 2 ^ 32 := fun i hi => (ho i hi).1
  simp [go_sem]
  refine (counter_calls teams g).mono ?_
  rintro _ _ ⟨rfl, rfl⟩
  have allc := all_c teams g hn
  generalize 2 ^ teams.length - 1 = M at *
  by_cases hk0 : k < 0
  · have e : nthE teams met k = 6 := by unfold nthE; rw [if_neg (by simp [h1]), if_pos (.inl hk0)]
    have e2 : nthD teams met k = [] := by unfold nthD; rw [if_neg (by rw [e]; decide)]
    simp [go_sem, cntF, cntH, hk0]
    exact hR _ _ _ rfl (by simp [go_sem, e, e2])
  obtain ⟨K, rfl⟩ : ∃ K : Nat, k = K := ⟨k.toNat, by omega⟩
  simp [go_sem, cntF, cntH, hk0]
  refine allc.call (by simp [go_sem]) ?_
  rintro _ rfl
  simp [go_sem]
  refine (count_calls teams g hn hgb M (by omega) [(0, 1)] [] memo0 rfl (by simp [go_sem])).mono ?_
  rintro _ _ ⟨rfl, S', ⟨hS', hS0'⟩, rfl⟩
  by_cases hk1 : cntM g M ≤ K
  · have e : nthE teams met K = 6 := by unfold nthE; rw [if_neg (by simp [h1]), if_pos (.inr (by rw [← hcnt]; omega))]
    have e2 : nthD teams met K = [] := by unfold nthD; rw [if_neg (by rw [e]; decide)]
    simp [go_sem, cntH, hk1]
    exact hR _ _ _ rfl (by simp [go_sem, e, e2])
  have e : nthE teams met K = 0 := by unfold nthE; rw [if_neg (by simp [h1]), if_neg (by rw [← hcnt]; omega)]
  have hKl : K < (drs (okG g) (bitsL M)).length := by have : cntM g M = (drs (okG g) (bitsL M)).length := rfl; omega
  obtain ⟨D, hDK⟩ : ∃ D, (drs (okG g) (bitsL M))[K] = D := ⟨_, rfl⟩
  have hKb : K < 4294967296 := by have := cntM_le (g := g) (m := M) (by omega); omega
  have hDl : D.length ≤ 16 := by
    have h2 := drs_len _ _ (Nat.le_refl _) D (hDK ▸ List.getElem_mem hKl)
    have h3 := bits_len (m := M) (n := 16) (by omega) (by decide)
    omega
  have e2 : nthD teams met K = asT teams D := by
    unfold nthD
    rw [if_pos e, hD]
    simp [hKl, hDK]
  simp [go_sem, cntH, hk1]
  refine allc.call (by simp [go_sem]) ?_
  rintro _ rfl
  simp [go_sem]
  refine IWp.ownNilS 2 11 (by decide) (by simp [go_sem]) ?_
  simp only [go_sem]
  refine IWp.loopT (α := Nat × Nat × List (Nat × Nat) × List (Nat × Nat)) (fun x => (⟨false, 90, 8, [8, 9, 10, 11, 12, 13, 14, 15, 16, 24, 37, 41, 56, 72], glT, [(0, .fz 1 (ints teams)), (2, .int .i64 (x.2.1 : Int)), (8, .fptr 17 [tbR teams g] 0 0), (10, cntF), (11, .sl 4 x.2.2.1.length 0 x.2.2.1.length none), (12, .int .u32 (x.1 : Int))], []⟩, cntH teams g x.2.2.2 ++ [.rows 2 (prs (asT teams x.2.2.1))]))
    (fun x => x.1 < 2 ^ teams.length ∧ (∃ rest, (drs (okG g) (bitsL x.1))[x.2.1]? = some rest ∧ x.2.2.1 ++ rest = D) ∧ (MemoC g x.2.2.2 ∧ aget 0 x.2.2.2 = some 1) ∧ x.2.1 ≤ K) (fun x => x.1) (M, K, [], S') ⟨hp, ⟨D, by rw [List.getElem?_eq_getElem hKl, hDK], rfl⟩, ⟨hS', hS0'⟩, Nat.le_refl _⟩ (by simp [go_sem, cntH, cntF, asT]) ?_
  rintro ⟨m, k, acc, S⟩ ⟨hmn, ⟨rest, hrest, hacc⟩, ⟨hS, hS0⟩, hkK⟩
  simp only at hmn hrest hacc hS hS0 hkK
  by_cases hm0 : m = 0
  · subst hm0
    rw [bitsL_zero, drs_nil] at hrest
    have : rest = [] := by
      cases k with
      | zero => simpa using hrest.symm
      | succ k => simp at hrest
    rw [this, List.append_nil] at hacc
    subst hacc
    simp [go_sem, cntH]
    exact hR _ _ _ rfl (by simp [go_sem, e, e2])
  · have hm32 : m < 2 ^ 32 := by omega
    have hrl : m &&& (m - 1) < m := Nat.lt_of_le_of_lt Nat.and_le_right (by omega)
    have htz := (tz_spec hm0 hm32)
    have htzn := lt_of_bit hmn htz.2.1
    have htz16 : tz m < 16 := by omega
    rw [bitsL_clear hm0 hm32] at hrest
    have hrnd := bitsL_nodup (m &&& (m - 1))
    rw [drs_nodup _ hrnd] at hrest
    simp [go_sem, cntH, hm0]
    refine (split_fun m hm0 hm32).call (by simp [go_sem]) ?_
    rintro _ rfl
    generalize tz m = a at *
    generalize m &&& (m - 1) = r at *
    have hr32 : r < 2 ^ 32 := by omega
    have ha := hgb a htz16
    have e1 := u32_and hr32 ha
    have hb1 : (bitsL r).filter (okG g a) = bitsL (r &&& g a) := by rw [bitsL_and]; rfl
    rw [hb1] at hrest
    have hole : r &&& g a ≤ r := Nat.and_le_left
    obtain ⟨o0, ho0⟩ : ∃ o, r &&& g a = o := ⟨_, rfl⟩
    rw [ho0] at e1 hrest hole
    simp [go_sem, tbR_at htz16, tbR_get htz16, e1]
    refine ⟨by omega, by omega, ?_⟩
    refine IWp.loopT (α := Nat × Nat × List (Nat × Nat)) (fun x => (⟨false, 90, 8, [8, 9, 10, 11, 12, 13, 14, 15, 16, 24, 37, 41, 56, 72], glT, [(0, .fz 1 (ints teams)), (2, .int .i64 (x.2.1 : Int)), (8, .fptr 17 [tbR teams g] 0 0), (10, cntF), (11, .sl 4 acc.length 0 acc.length none), (13, .int .i64 (a : Int)), (14, .int .u32 (r : Int)), (15, .int .u32 (x.1 : Int))], []⟩, cntH teams g x.2.2 ++ [.rows 2 (prs (asT teams acc))]))
      (fun x => x.1 < 2 ^ teams.length ∧ (∃ rest, (dJ (okG g) a (bitsL r) (bitsL x.1))[x.2.1]? = some rest ∧ acc ++ rest = D) ∧ (MemoC g x.2.2 ∧ aget 0 x.2.2 = some 1) ∧ x.2.1 ≤ K) (fun x => x.1) (o0, k, S) ⟨by omega, ⟨rest, hrest, hacc⟩, ⟨hS, hS0⟩, hkK⟩ (by simp [go_sem, cntH, cntF]) ?_
    clear hrest hacc hS hS0 rest
    rintro ⟨o, k, S1⟩ ⟨hon, ⟨rest, hrest, hacc⟩, ⟨hS1, hS10⟩, hkK⟩
    simp only at hon hrest hacc hS1 hS10 hkK
    have ho32 : o < 2 ^ 32 := by omega
    by_cases h0 : o = 0
    · subst h0
      rw [bitsL_zero, dJ_nil] at hrest
      simp at hrest
    · have n1 := u32_neg h0 ho32
      have n1' : IntKind.u32.wrap (-(o : Int)) = ((2 ^ 32 - o : Nat) : Int) := by rw [← n1]; simp
      obtain ⟨K2, hK2⟩ : ∃ K, 2 ^ 32 - o = K := ⟨_, rfl⟩
      have n2 := u32_and ho32 (b := K2) (by omega)
      rw [← hK2, low_bit h0 ho32] at n2
      rw [hK2] at n1 n1' n2
      have n3 := u32_pred h0 ho32
      obtain ⟨L, hL⟩ : ∃ L, o - 1 = L := ⟨_, rfl⟩
      have n4 := u32_and ho32 (b := L) (by omega)
      have hcl := bitsL_clear h0 ho32
      rw [hL] at n3 hcl
      have hlt : o &&& L < o := Nat.lt_of_le_of_lt Nat.and_le_right (by omega)
      obtain ⟨o2, ho2⟩ : ∃ o2, o &&& L = o2 := ⟨_, rfl⟩
      rw [ho2] at n4 hcl hlt
      rw [hcl, dJ_cons] at hrest
      have n5 : bitsOf .andNot .u32 (r : Int) ((2 ^ tz o : Nat) : Int) = ((anb r (2 ^ tz o) : Nat) : Int) := u32_andNot
      have hbn := lt_of_bit hon (tz_spec h0 ho32).2.1
      have tzc := tz_fun o h0 ho32
      have hbq := bitsL_wo (r := r) (b := tz o) hr32
      obtain ⟨b, hb⟩ : ∃ b, tz o = b := ⟨_, rfl⟩
      rw [hb] at n2 n5 hrest hbn tzc hbq
      obtain ⟨P2, hP2⟩ : ∃ P2, 2 ^ b = P2 := ⟨_, rfl⟩
      have hqr : anb r (2 ^ b) ≤ r := anb_le hr32
      rw [hP2] at n2 n5 hbq hqr
      obtain ⟨q, hq⟩ : ∃ q, anb r P2 = q := ⟨_, rfl⟩
      rw [hq] at n5 hbq hqr
      rw [← hbq] at hrest
      have hcq : cntM g q = (drs (okG g) (bitsL q)).length := rfl
      simp [go_sem, cntH, cntF, h0, n1, n1', n2, n5]
      refine (count_calls teams g hn hgb q (by omega) S1 [.rows 2 (prs (asT teams acc))] hS1 hS10 (by simp [go_sem])).mono ?_
      rintro _ _ ⟨rfl, S2, ⟨hS2, hS20⟩, rfl⟩
      by_cases hkn : k < cntM g q
      · have hkn' : (k : Int) < (cntM g q : Int) := by omega
        have hal : acc.length ≤ 16 := by rw [← hacc] at hDl; simp at hDl; omega
        simp [go_sem, cntH, hkn]
        refine Drawn.intro (fun j => if j = 7 then .int .i64 (b : Int) else .tup []) ?_
        have ta : teams.getD a 0 = teams[a] := by simp [htzn]
        have tb : teams.getD b 0 = teams[b] := by simp [hbn]
        simp [go_sem, tzc, htzn, hbn]
        rw [List.getElem?_append_left (by rw [List.length_map]; omega), List.getElem?_map] at hrest
        obtain ⟨rest', hr1, hr2⟩ := Option.map_eq_some_iff.1 hrest
        refine ⟨by omega, by decide +kernel, q, k, acc ++ [(a, b)], S2, ⟨⟨rfl, by simp, rfl⟩, rfl, ?_⟩, ⟨by omega, ⟨rest', hr1, ?_⟩, ⟨hS2, hS20⟩, by omega⟩, by omega⟩
        · rw [asT_snoc, prs_snoc, ta, tb]
        · rw [← hacc, ← hr2]; simp
      · have hkn' : ¬ (k : Int) < (cntM g q : Int) := by omega
        have w2 : IntKind.i64.wrap ((k : Int) - (cntM g q : Int)) = ((k - cntM g q : Nat) : Int) := by rw [wrap64 (by omega) (by omega)]; omega
        simp [go_sem, cntH, hkn, n3, n4]
        refine ⟨o2, k - cntM g q, S2, ⟨⟨w2, rfl⟩, rfl⟩, ⟨by omega, ⟨rest, ?_, hacc⟩, ⟨hS2, hS20⟩, by omega⟩, hlt⟩
        rw [List.getElem?_append_right (by rw [List.length_map]; omega), List.length_map] at hrest
        exact hrest
end Go.Idl
