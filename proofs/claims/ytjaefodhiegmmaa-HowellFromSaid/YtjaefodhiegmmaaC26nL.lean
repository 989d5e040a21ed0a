import Derived.Test.YtjaefodhiegmmaaC26nK
namespace Go.Idl
set_option linter.all false
open Go.Proofs
set_option maxHeartbeats 4000000
set_option maxRecDepth 20000

/-- The numbers of tables that have a prime. -/
def HP (t : Int) : Prop := 2 ≤ t ∧ t ≤ 24 ∧ PrimeOK (2 * t - 1) ∧ bitsOf .and .i64 (2 * t - 2) (2 * t - 3) ≠ 0
open Classical in
noncomputable def stL (t : Int) : List (Int × Int) := if HP t then strgP (rootOf (2 * t - 1)) (2 * t - 1) else opp t (t.toNat - 1)

theorem stL_pos {t : Int} (h : HP t) : stL t = strgP (rootOf (2 * t - 1)) (2 * t - 1) := by unfold stL; rw [if_pos h]
theorem stL_neg {t : Int} (h : ¬ HP t) : stL t = opp t (t.toNat - 1) := by unfold stL; rw [if_neg h]

theorem starter_fun (t : Int) : IFun true Try.prog [] 18 [.int .i64 t] (fun v => (2 ≤ t ∧ t ≤ 24 ∧ v = .tup [.fz 2 (prs (stL t)), .int .i64 0]) ∨ (¬ (2 ≤ t ∧ t ≤ 24) ∧ v = .tup [.fz 2 (prs []), .int .i64 2])) := by
  refine IFun.of_bodyZ false 8 [13, 21] Try.func18 rfl Try.call18 rfl fun R hR => ?_
  simp [go_sem]
  split
  case isTrue h =>
    refine hR _ _ _ (.inr ⟨by omega, rfl⟩) ?_
    simp [go_sem]
  rename_i h
  have ht : 2 ≤ t ∧ t ≤ 24 := by omega
  refine (Prime_fun t).callM (by simp [go_sem]) ?_
  rintro _ (⟨rfl, hp⟩ | ⟨rfl, hp⟩)
  · simp [go_sem]
    have h1 := root_ok (p := 2 * t - 1) (by omega) (by omega) hp.2.2.1
    refine IFun.callOF (strong_fun (2 * t - 1) (rootOf (2 * t - 1)) (by omega) (by omega) hp.2.2.1 h1.1) (by simp [go_sem, bx]) ?_
    rintro _ rfl
    refine ⟨_, _, _, .here, by decide, rfl, by simp [go_sem], ?_⟩
    simp [go_sem]
    refine hR _ _ _ (.inl ⟨ht.1, ht.2, rfl⟩) ?_
    simp [go_sem, stL_pos hp]
  · simp [go_sem]
    refine IFun.callOF (opposite_fun t ht.1 ht.2) (by simp [go_sem, bx]) ?_
    rintro _ rfl
    refine ⟨_, _, _, .here, by decide, rfl, by simp [go_sem], ?_⟩
    simp [go_sem]
    refine hR _ _ _ (.inl ⟨ht.1, ht.2, rfl⟩) ?_
    simp [go_sem, stL_neg hp]

theorem hv_two : ∀ (n : Nat) (d t : Int), hv n (2 * d) t = (2 * (hv n d t).1, (hv n d t).2)
  | 0, d, t => rfl
  | n + 1, d, t => by
    simp only [hv]
    split
    · exact hv_two n _ _
    · rfl
theorem RPrimeOK_iff (t : Int) : RPrimeOK t ↔ HP t := by
  have key : ∀ n : Nat, n < 25 → 2 ≤ n → ((∀ k : Nat, k < 7 → 2 * (n : Int) - 2 ≠ 2 ^ k) ↔ bitsOf .and .i64 (2 * (n : Int) - 2) (2 * (n : Int) - 3) ≠ 0) := by decide +kernel
  unfold RPrimeOK HP
  rw [prime_all]
  constructor
  · rintro ⟨h1, h2, h3, h4⟩
    obtain ⟨n, rfl⟩ : ∃ n : Nat, t = n := ⟨t.toNat, by omega⟩
    exact ⟨h1, h2, h3, (key n (by omega) (by omega)).1 h4⟩
  · rintro ⟨h1, h2, h3, h4⟩
    obtain ⟨n, rfl⟩ : ∃ n : Nat, t = n := ⟨t.toNat, by omega⟩
    exact ⟨h1, h2, h3, (key n (by omega) (by omega)).2 h4⟩

theorem refStarter_fun (t : Int) : IFun true Try.prog [] 23 [.int .i64 t] (fun v => (2 ≤ t ∧ t ≤ 24 ∧ v = .tup [.fz 2 (prs (stL t)), .int .i64 0]) ∨ (¬ (2 ≤ t ∧ t ≤ 24) ∧ v = .tup [.fz 2 (prs []), .int .i64 2])) := by
  refine IFun.of_bodyZ false 4 [4, 5, 6, 7, 8, 10, 11, 12, 13, 19, 26, 29, 52, 61, 66] Try.func23 rfl Try.call23 rfl fun R hR => ?_
  simp [go_sem]
  split
  case isTrue h =>
    refine hR _ _ _ (.inr ⟨by omega, rfl⟩) ?_
    simp [go_sem]
  rename_i h
  have ht : 2 ≤ t ∧ t ≤ 24 := by omega
  refine (refPrime_fun t).callM (by simp [go_sem]) ?_
  rintro _ (⟨rfl, hp⟩ | ⟨rfl, hp⟩)
  case inr =>
    rw [RPrimeOK_iff] at hp
    simp [go_sem]
    refine IWp.ownNilS 2 4 (by decide) (by simp [go_sem]) ?_
    refine IWp.loopT (α := Nat) (fun n => (⟨false, 94, 4, [4, 5, 6, 7, 8, 10, 11, 12, 13, 19, 26, 29, 52, 61, 66], [], [(0, .int .i64 t), (4, .sl 0 n 0 n none), (7, .int .i64 (n + 1))], []⟩, [.rows 2 (prs (opp t n))])) (fun n => (n : Int) + 1 ≤ t) (fun n => t.toNat - n) 0 (by simp; omega) (by simp [go_sem, opp, prs, mp]) ?_
    intro n hn
    have hl := opp_length t n
    by_cases h : (n : Int) + 1 < t
    · simp [go_sem, h, hl]
      refine ⟨by omega, n + 1, ⟨⟨rfl, by rw [wrap64 (by omega) (by omega)]; rfl⟩, ?_⟩, by omega, by omega⟩
      rw [opp_succ, prs_snoc]
      simp (disch := omega) only [wrap64, oppA]
    · simp [go_sem, h, hl]
      refine hR _ _ _ (.inl ⟨ht.1, ht.2, rfl⟩) ?_
      simp [go_sem, hl, stL_neg hp]
      rw [show n = t.toNat - 1 by omega]
  have hp' := (RPrimeOK_iff t).1 hp
  obtain ⟨p, hpe⟩ : ∃ p, p = 2 * t - 1 := ⟨_, rfl⟩
  have hpr : PrimeOK p := hpe ▸ hp'.2.2.1
  have hroot := root_ok (p := p) (by omega) (by omega) hpr
  obtain ⟨g, hge⟩ : ∃ g, g = rootOf p := ⟨_, rfl⟩
  rw [← hge] at hroot
  rw [← hpe]
  have g1 := hroot.1.1
  have g2 := hroot.1.2.1
  simp [go_sem]
  refine (refRoot_fun p g fun _ _ _ => ⟨hroot.1.1, hroot.1.2.1, ?_, ?_⟩).callM (by simp [go_sem]) ?_
  · obtain ⟨k, k1, k2⟩ := hroot.1.2.2.1
    rw [show p.toNat - 1 = k by omega]
    exact k1.dst
  · intro b b1 b2
    obtain ⟨k, k1, k2⟩ := hroot.2 b b1 b2
    exact k1.not_dst (by omega)
  rintro _ (⟨rfl, _⟩ | ⟨_, hn⟩)
  case inr => exact absurd ⟨by omega, by omega, prime_all.2 hpr⟩ hn
  simp [go_sem]
  rw [wrap64 (n := p - 1) (by omega) (by omega)]
  have hH : (p - 1).tdiv 2 = (p - 1) / 2 := Int.tdiv_eq_ediv_of_nonneg (by omega)
  refine IWp.loopE (α := Nat × Int × Int) (fun x => (⟨false, 94, 4, [4, 5, 6, 7, 8, 10, 11, 12, 13, 19, 26, 29, 52, 61, 66], [], [(4, .nils), (5, .int .i64 p), (8, .int .i64 g), (10, .int .i64 x.2.2), (11, .int .i64 x.2.1)], []⟩, []))
    (fun x => x.1 ≤ 13 ∧ hv x.1 x.2.1 x.2.2 = hv 13 1 (p - 1) ∧ 0 < x.2.2 ∧ x.2.2 < 2 ^ x.1 ∧ 0 < x.2.1 ∧ x.2.1 ≤ 2 ^ (13 - x.1) ∧ x.2.1 * x.2.2 ≤ p - 1) (fun x => x.1) (13, 1, p - 1) ⟨by simp, rfl, by simp only; omega, by simp only; omega, by simp, by simp, by simp only; omega⟩ (by simp [go_sem]) ?_
  rintro ⟨m, d, t⟩ ⟨hm, hD, ht, ht2, hd, hd2, hdt⟩
  simp only at hm hD ht ht2 hd hd2 hdt
  have hp2 : ∀ m : Nat, m < 14 → (2 : Int) ^ m ≤ 8192 := by decide
  have hpow : (2 : Int) ^ (13 - m) ≤ 8192 := hp2 _ (by omega)
  have hpow2 : (2 : Int) ^ m ≤ 8192 := hp2 _ (by omega)
  by_cases hev : t.tmod 2 = 0
  · simp [go_sem, hev]
    have he2 : t.tdiv 2 = t / 2 := Int.tdiv_eq_ediv_of_nonneg (by omega)
    have hev2 : t % 2 = 0 := by rw [Int.tmod_eq_emod_of_nonneg (by omega)] at hev; exact hev
    cases m with
    | zero => simp at ht2; omega
    | succ m =>
      have e1 : (2 : Int) ^ (m + 1) = 2 * 2 ^ m := by rw [Int.pow_succ]; omega
      have e2 : (2 : Int) ^ (13 - m) = 2 * 2 ^ (13 - (m + 1)) := by rw [show 13 - m = (13 - (m + 1)) + 1 by omega, Int.pow_succ]; omega
      refine ⟨m, 2 * d, t.tdiv 2, ⟨wrap64 (by omega) (by omega), wrap64 (by omega) (by omega)⟩, ⟨by omega, ?_, by omega, by omega, by omega, by omega, ?_⟩, by omega⟩
      · rw [← hD]; simp [hv, hev]
      · have : 2 * d * (t / 2) = d * t := by
          have h2 : t = 2 * (t / 2) := by omega
          rw [Int.mul_comm 2 d, Int.mul_assoc, ← h2]
        rw [he2, this]; exact hdt
  have hDt : hv m d t = (d, t) := by
    cases m with
    | zero => simp at ht2; omega
    | succ m => simp [hv, hev]
  rw [hDt] at hD
  -- 13 halvings of p - 1 from 1 are 12 of its half from 2
  have hpe2 : (p - 1).tmod 2 = 0 := by rw [Int.tmod_eq_emod_of_nonneg (by omega)]; omega
  have h13 : hv 13 1 (p - 1) = (2 * (hv 12 1 ((p - 1).tdiv 2)).1, (hv 12 1 ((p - 1).tdiv 2)).2) := by
    rw [← hv_two 12 1 ((p - 1).tdiv 2)]; simp [hv, hpe2]
  rw [h13] at hD
  obtain ⟨e, he⟩ : ∃ e : Int, e = (hv 12 1 ((p - 1).tdiv 2)).1 := ⟨_, rfl⟩
  have hde : d = 2 * e := by have := congrArg Prod.fst hD; simp only at this; omega
  have hte : t = (hv 12 1 ((p - 1).tdiv 2)).2 := congrArg Prod.snd hD
  have hd3 : d.tdiv 2 = e := by rw [Int.tdiv_eq_ediv_of_nonneg (by omega)]; omega
  have hd4 : IntKind.i64.wrap e = e := wrap64 (by omega) (by omega)
  simp [go_sem, hev, hd3, hd4]
  obtain ⟨dn, rfl⟩ : ∃ n : Nat, e = n := ⟨_, (Int.toNat_of_nonneg (by omega)).symm⟩
  obtain ⟨tn, rfl⟩ : ∃ n : Nat, t = n := ⟨_, (Int.toNat_of_nonneg (by omega)).symm⟩
  have hres : strgP g p = strg g p dn tn := by simp [strgP, ← he, ← hte]
  have hdt2 : 2 * (dn * tn) ≤ p.toNat - 1 := by
    have : ((2 * (dn * tn) : Nat) : Int) ≤ p - 1 := by
      rw [hde] at hdt
      simpa [Int.mul_assoc] using hdt
    omega
  refine IWp.ownNilS 2 4 (by decide) (by simp [go_sem]) ?_
  refine IWp.loopT (α := Nat) (fun j => (⟨false, 94, 4, [4, 5, 6, 7, 8, 10, 11, 12, 13, 19, 26, 29, 52, 61, 66], [], [(4, .sl 0 (strg g p dn j).length 0 (strg g p dn j).length none), (5, .int .i64 p), (8, .int .i64 g), (10, .int .i64 tn), (11, .int .i64 dn), (12, .int .i64 j)], []⟩, [.rows 2 (prs (strg g p dn j))]))
    (fun j => j ≤ tn) (fun j => tn - j) 0 (by omega) (by simp [go_sem, strg, prs, mp]) ?_
  intro j hj
  by_cases hjt : j < tn
  · simp [go_sem, hjt]
    refine IWp.loopT (α := Nat) (fun i => (⟨false, 94, 4, [4, 5, 6, 7, 8, 10, 11, 12, 13, 19, 26, 29, 52, 61, 66], [], [(4, .sl 0 (lstS g p dn j i).length 0 (lstS g p dn j i).length none), (5, .int .i64 p), (8, .int .i64 g), (10, .int .i64 tn), (11, .int .i64 dn), (12, .int .i64 j), (13, .int .i64 i)], []⟩, [.rows 2 (prs (lstS g p dn j i))]))
      (fun i => i ≤ dn) (fun i => dn - i) 0 (by omega) (by simp [go_sem, lstS_zero]) ?_
    intro i hi
    by_cases hid : i < dn
    · have k1 : dn * (j + 1) ≤ dn * tn := Nat.mul_le_mul_left dn (by omega)
      rw [Nat.mul_add, Nat.mul_one] at k1
      obtain ⟨q, hq⟩ : ∃ q : Nat, q = dn * j := ⟨_, rfl⟩
      have e0 : IntKind.i64.wrap (2 * (dn : Int)) = 2 * dn := wrap64 (by omega) (by omega)
      have e1 : 2 * (dn : Int) * j = ((2 * q : Nat) : Int) := by rw [hq]; simp [Int.mul_assoc]
      have e2 : IntKind.i64.wrap ((2 * q : Nat) : Int) = ((2 * q : Nat) : Int) := wrap64 (by omega) (by omega)
      have e3 : IntKind.i64.wrap (((2 * q : Nat) : Int) + i) = ((2 * q + i : Nat) : Int) := by rw [wrap64 (by omega) (by omega)]; omega
      have e4 : IntKind.i64.wrap (((2 * q + i : Nat) : Int) + dn) = ((2 * q + i + dn : Nat) : Int) := by rw [wrap64 (by omega) (by omega)]; omega
      have l1 : 2 * q + i < p.toNat - 1 := by omega
      have l2 : 2 * q + i + dn < p.toNat - 1 := by omega
      simp [go_sem, hid, e0, e1, e2, e3, -Int.natCast_add, -Int.natCast_mul]
      refine (power_fun g _ p (by omega) (by omega) (by omega) (by omega) (by omega)).callM (by simp [go_sem]) ?_
      rintro _ rfl
      simp [go_sem, e0, e1, e2, e3, e4, -Int.natCast_add, -Int.natCast_mul]
      refine (power_fun g _ p (by omega) (by omega) (by omega) (by omega) (by omega)).callM (by simp [go_sem]) ?_
      rintro _ rfl
      have hlen : (lstS g p dn j i).length ≤ 1000 := by
        simp only [lstS, List.length_append, strg_length, List.length_map, List.length_range]
        rw [Nat.mul_comm, ← hq]; omega
      simp [go_sem, -Int.natCast_add, -Int.natCast_mul]
      refine ⟨by omega, i + 1, ⟨⟨by rw [lstS_succ]; simp, by rw [wrap64 (by omega) (by omega)]; rfl⟩, ?_⟩, by omega, by omega⟩
      rw [lstS_succ, prs_snoc]
      simp only [rowS, hq]
      rw [Nat.mul_assoc]
    · simp [go_sem, hid]
      have hid' : i = dn := by omega
      subst hid'
      refine ⟨j + 1, ⟨⟨by rw [lstS_end], by rw [wrap64 (by omega) (by omega)]; rfl⟩, by rw [lstS_end]⟩, by omega, by omega⟩
  · simp [go_sem, hjt]
    refine hR _ _ _ (.inl ⟨by omega, by omega, rfl⟩) ?_
    simp [go_sem, stL_pos hp']
    rw [← hpe, ← hge, hres, show j = tn by omega]
end Go.Idl
