import Derived.Test.YtjaefodhiegmmaaC26nI
namespace Go.Idl
set_option linter.all false
open Go.Proofs
set_option maxHeartbeats 2000000
set_option maxRecDepth 20000

def oppA (t : Int) (x : Nat) : Int × Int := ((x : Int) + 1, 2 * t - 1 - ((x : Int) + 1))
def opp (t : Int) (n : Nat) : List (Int × Int) := (List.range n).map (oppA t)
theorem opp_succ (t : Int) (n : Nat) : opp t (n + 1) = opp t n ++ [oppA t n] := by simp [opp, List.range_succ]
theorem opp_length (t : Int) (n : Nat) : (opp t n).length = n := by simp [opp]

theorem opposite_fun (t : Int) (ht : 2 ≤ t) (ht2 : t ≤ 24) : IFun true Try.prog [] 33 [bx t] (fun v => v = .fz 2 (prs (opp t (t.toNat - 1)))) := by
  refine IFun.of_bodyF false 4 [6] Try.func33 rfl Try.call33 rfl fun R hR => ?_
  simp [go_sem, bx]
  refine IWp.ownNil 2 [(0, bx t), (1, .nils), (2, .sl 0 0 0 0 none), (3, .int .i64 1)] [] (by decide) (by simp [go_sem, bx]) (by simp [go_sem]) ?_
  refine IWp.loopT (α := Nat) (fun n => (⟨false, 20, 4, [6], [], [(0, bx t), (2, .sl 0 n 0 n none), (3, .int .i64 (n + 1))], []⟩, [.rows 2 (prs (opp t n))])) (fun n => (n : Int) + 1 ≤ t) (fun n => t.toNat - n) 0 (by simp; omega) (by simp [go_sem, opp, prs, mp, bx]) ?_
  intro n hn
  have hl := opp_length t n
  by_cases h : (n : Int) + 1 < t
  · simp [go_sem, bx, h, hl]
    refine ⟨by omega, n + 1, ⟨⟨rfl, by rw [wrap64 (by omega) (by omega)]; rfl⟩, ?_⟩, by omega, by omega⟩
    rw [opp_succ, prs_snoc]
    simp (disch := omega) only [wrap64, oppA]
  · simp [go_sem, bx, h, hl]
    refine hR _ _ ?_
    simp [go_sem, hl]
    rw [show n = t.toNat - 1 by omega]

def hv : Nat → Int → Int → Int × Int
  | 0, d, t => (d, t)
  | n + 1, d, t => if t.tmod 2 = 0 then hv n (2 * d) (t.tdiv 2) else (d, t)
def rowS (g p : Int) (d j : Nat) (i : Nat) : Int × Int := (powI g p (2 * d * j + i), powI g p (2 * d * j + i + d))
def strg (g p : Int) (d : Nat) (n : Nat) : List (Int × Int) := (List.range n).flatMap fun j => (List.range d).map (rowS g p d j)
theorem strg_succ (g p : Int) (d n : Nat) : strg g p d (n + 1) = strg g p d n ++ (List.range d).map (rowS g p d n) := by simp [strg, List.range_succ]
def strgP (g p : Int) : List (Int × Int) := strg g p (hv 12 1 ((p - 1).tdiv 2)).1.toNat (hv 12 1 ((p - 1).tdiv 2)).2.toNat

/-- What Root says of a prime. -/
def IsRoot (g p : Int) : Prop := 2 ≤ g ∧ g < p ∧ (∃ k : Nat, OrdI g p k ∧ (k : Int) = p - 1) ∧ ∀ b, 2 ≤ b → b < g → ∃ k : Nat, OrdI b p k ∧ k < 2000 ∧ (k : Int) ≠ p - 1

def lstS (g p : Int) (d j i : Nat) : List (Int × Int) := strg g p d j ++ (List.range i).map (rowS g p d j)
theorem lstS_succ (g p : Int) (d j i : Nat) : lstS g p d j (i + 1) = lstS g p d j i ++ [rowS g p d j i] := by simp [lstS, List.range_succ]
theorem lstS_zero (g p : Int) (d j : Nat) : lstS g p d j 0 = strg g p d j := by simp [lstS]
theorem lstS_end (g p : Int) (d j : Nat) : lstS g p d j d = strg g p d (j + 1) := by rw [strg_succ]; rfl
theorem strg_length (g p : Int) (d n : Nat) : (strg g p d n).length = n * d := by
  induction n with
  | zero => simp [strg]
  | succ n ih => rw [strg_succ, List.length_append, ih]; simp [Nat.add_mul]

theorem strong_fun (p g : Int) (h1 : 3 ≤ p) (h2 : p ≤ 1000) (h3 : PrimeOK p) (hg : IsRoot g p) : IFun true Try.prog [] 34 [bx p] (fun v => v = .fz 2 (prs (strgP g p))) := by
  refine IFun.of_bodyF false 2 [2, 3, 4, 5, 6, 7, 8, 9, 10, 11, 18, 24, 25, 26, 30, 40, 45, 46, 47, 49, 50, 51] Try.func34 rfl Try.call34 rfl fun R hR => ?_
  simp [go_sem, bx]
  refine (Root_fun p g fun _ _ _ => hg).callM (by simp [go_sem]) ?_
  rintro _ (⟨rfl, _⟩ | ⟨_, hn⟩)
  case inr => exact absurd ⟨h1, h2, h3⟩ hn
  have w1 : IntKind.i64.wrap (p - 1) = p - 1 := wrap64 (by omega) (by omega)
  simp [go_sem, w1]
  refine ⟨by omega, (powers_fun g p).callM (by simp [go_sem]) ?_⟩
  rintro _ rfl
  simp [go_sem]
  refine IWp.rangeFunc (g := 41) (cap := [bx g, bx p]) (by simp [go_sem]) (by simp [go_sem]) fun l r h1 h2 h3 h4 h5 => ?_
  obtain ⟨e, he⟩ : ∃ e : Env, e = ⟨false, 80, 2, [2, 3, 4, 5, 6, 7, 8, 9, 10, 11, 18, 24, 25, 26, 30, 40, 45, 46, 47, 49, 50, 51], [], [(0, .fptr 1 [[.int .i64 p]] 0 0), (1, .nils), (2, .int .i64 g), (3, .int .i64 0), (18, .bool false), (4, .ptr 1 1 0 0), (24, .func (.func 41) [] [bx g, bx p])], []⟩ := ⟨_, rfl⟩
  rw [← he, show e.gl = [] by rw [he]]
  have g1 := hg.1
  have g2 := hg.2.1
  refine (powers1 g p (by omega) (by omega) (by omega) (by omega) l (fun n σ' => n ≤ p.toNat - 1 ∧ σ' = [.rows 1 (ar (p.toNat - 1) fun e => .int .i64 (if e < n then powI g p e else 0)), .rows 1 [[.sl 0 (p.toNat - 1) 0 (p.toNat - 1) none]], .yrec l r e])
    (fun σ' => σ' = [.rows 1 (ar (p.toNat - 1) fun e => .int .i64 (if e < p.toNat - 1 then powI g p e else 0)), .rows 1 [[.sl 0 (p.toNat - 1) 0 (p.toNat - 1) none]], .yrec l { r with state := .done, pending := some (.exit 0) } e]) p.toNat (fun n σ h => by omega) (by omega) _ ⟨by omega, ?_⟩ ?_).mono ?_
  · rw [ar_rep]; simp
  · rintro n σ ⟨hn, rfl⟩
    refine YCalls.roundE 2 h1 h2 h3 h4 h5 rfl rfl ?_
    rw [he]
    by_cases hnk : n = p.toNat - 1
    · simp [go_sem, w1]
      rw [if_pos (by omega), hnk]
    · have hlt : n < p.toNat - 1 := by omega
      simp [go_sem, w1, hlt, ar_at hlt, ar_set]
      rw [if_neg (by omega), upF_int]
      refine ⟨by omega, ?_⟩
      congr 1
      funext e
      by_cases h1 : e = n
      · subst h1; rw [if_pos rfl, if_pos (by omega)]
      · rw [if_neg h1]
        by_cases h2 : e < n
        · rw [if_pos h2, if_pos (by omega)]
        · rw [if_neg h2, if_neg (by omega)]
  rintro _ _ rfl
  simp [go_sem, he, w1]
  have hH : (p - 1).tdiv 2 = (p - 1) / 2 := Int.tdiv_eq_ediv_of_nonneg (by omega)
  rw [wrap64 (n := (p - 1).tdiv 2) (by omega) (by omega)]
  refine ⟨by decide +kernel, ?_⟩
  have hL : (ar (p.toNat - 1) fun e => IV.int .i64 (if e < p.toNat - 1 then powI g p e else 0)) = ar (p.toNat - 1) fun e => .int .i64 (powI g p e) := by
    apply List.ext_getElem
    · simp [ar]
    · intro i k1 k2
      simp [ar] at k1 ⊢
      intro h; omega
  rw [hL]
  refine IWp.loopE (α := Nat × Int × Int) (fun x => (⟨false, 80, 2, [2, 3, 4, 5, 6, 7, 8, 9, 10, 11, 18, 24, 25, 26, 30, 40, 45, 46, 47, 49, 50, 51], [], [(1, .nils), (4, .ptr 1 1 0 0), (7, .int .i64 x.2.1), (8, .int .i64 x.2.2)], []⟩, [.rows 1 (ar (p.toNat - 1) fun e => .int .i64 (powI g p e)), .rows 1 [[.sl 0 (p.toNat - 1) 0 (p.toNat - 1) none]], .dead]))
    (fun x => x.1 ≤ 12 ∧ hv x.1 x.2.1 x.2.2 = hv 12 1 ((p - 1).tdiv 2) ∧ 0 < x.2.2 ∧ x.2.2 < 2 ^ x.1 ∧ 0 < x.2.1 ∧ x.2.1 ≤ 2 ^ (12 - x.1) ∧ x.2.1 * x.2.2 ≤ (p - 1) / 2) (fun x => x.1) (12, 1, (p - 1).tdiv 2) ⟨by simp, rfl, by simp only [hH]; omega, by simp only [hH]; omega, by simp, by simp, by simp only [hH]; omega⟩ (by simp [go_sem]) ?_
  rintro ⟨m, d, t⟩ ⟨hm, hD, ht, ht2, hd, hd2, hdt⟩
  simp only at hm hD ht ht2 hd hd2 hdt
  have hp2 : ∀ m : Nat, m < 13 → (2 : Int) ^ m ≤ 4096 := by decide
  have hpow : (2 : Int) ^ (12 - m) ≤ 4096 := hp2 _ (by omega)
  have hpow2 : (2 : Int) ^ m ≤ 4096 := hp2 _ (by omega)
  by_cases hev : t.tmod 2 = 0
  · simp [go_sem, hev]
    have he2 : t.tdiv 2 = t / 2 := Int.tdiv_eq_ediv_of_nonneg (by omega)
    have hev2 : t % 2 = 0 := by rw [Int.tmod_eq_emod_of_nonneg (by omega)] at hev; exact hev
    cases m with
    | zero => simp at ht2; omega
    | succ m =>
      have e1 : (2 : Int) ^ (m + 1) = 2 * 2 ^ m := by rw [Int.pow_succ]; omega
      have e2 : (2 : Int) ^ (12 - m) = 2 * 2 ^ (12 - (m + 1)) := by rw [show 12 - m = (12 - (m + 1)) + 1 by omega, Int.pow_succ]; omega
      refine ⟨m, 2 * d, t.tdiv 2, ⟨wrap64 (by omega) (by omega), wrap64 (by omega) (by omega)⟩, ⟨by omega, ?_, by omega, by omega, by omega, by omega, ?_⟩, by omega⟩
      · rw [← hD]; simp [hv, hev]
      · have : 2 * d * (t / 2) = d * t := by
          have h2 : t = 2 * (t / 2) := by omega
          rw [Int.mul_comm 2 d, Int.mul_assoc, ← h2]
        rw [he2, this]; exact hdt
  have hDt : hv m d t = (d, t) := by
    cases m with
    | zero => simp at ht2; omega
    | succ m => simp [hv, hev]
  rw [hDt] at hD
  simp [go_sem, hev]
  refine IWp.ownNilS 2 9 (by decide) (by simp [go_sem]) ?_
  obtain ⟨dn, rfl⟩ : ∃ n : Nat, d = n := ⟨_, (Int.toNat_of_nonneg (by omega)).symm⟩
  obtain ⟨tn, rfl⟩ : ∃ n : Nat, t = n := ⟨_, (Int.toNat_of_nonneg (by omega)).symm⟩
  have hres : strgP g p = strg g p dn tn := by simp [strgP, ← hD]
  have hdt' : dn * tn ≤ p.toNat / 2 := by have : ((dn * tn : Nat) : Int) ≤ (p - 1) / 2 := by simpa using hdt
                                          omega
  have hdt2 : 2 * (dn * tn) ≤ p.toNat - 1 := by have : ((dn * tn : Nat) : Int) ≤ (p - 1) / 2 := by simpa using hdt
                                                omega
  refine IWp.loopT (α := Nat) (fun j => (⟨false, 80, 2, [2, 3, 4, 5, 6, 7, 8, 9, 10, 11, 18, 24, 25, 26, 30, 40, 45, 46, 47, 49, 50, 51], [], [(4, .ptr 1 1 0 0), (7, .int .i64 dn), (9, .sl 3 (strg g p dn j).length 0 (strg g p dn j).length none), (45, .int .i64 tn), (46, .int .i64 j)], []⟩, [.rows 1 (ar (p.toNat - 1) fun e => .int .i64 (powI g p e)), .rows 1 [[.sl 0 (p.toNat - 1) 0 (p.toNat - 1) none]], .dead, .rows 2 (prs (strg g p dn j))]))
    (fun j => j ≤ tn) (fun j => tn - j) 0 (by omega) (by simp [go_sem, strg, prs, mp]) ?_
  intro j hj
  by_cases hjt : j < tn
  · simp [go_sem, hjt]
    refine IWp.loopT (α := Nat) (fun i => (⟨false, 80, 2, [2, 3, 4, 5, 6, 7, 8, 9, 10, 11, 18, 24, 25, 26, 30, 40, 45, 46, 47, 49, 50, 51], [], [(4, .ptr 1 1 0 0), (7, .int .i64 dn), (9, .sl 3 (lstS g p dn j i).length 0 (lstS g p dn j i).length none), (10, .int .i64 j), (45, .int .i64 tn), (46, .int .i64 j), (49, .int .i64 dn), (50, .int .i64 i)], []⟩, [.rows 1 (ar (p.toNat - 1) fun e => .int .i64 (powI g p e)), .rows 1 [[.sl 0 (p.toNat - 1) 0 (p.toNat - 1) none]], .dead, .rows 2 (prs (lstS g p dn j i))]))
      (fun i => i ≤ dn) (fun i => dn - i) 0 (by omega) (by simp [go_sem, lstS_zero]) ?_
    intro i hi
    by_cases hid : i < dn
    · have k1 : dn * (j + 1) ≤ dn * tn := Nat.mul_le_mul_left dn (by omega)
      rw [Nat.mul_add, Nat.mul_one] at k1
      obtain ⟨q, hq⟩ : ∃ q : Nat, q = dn * j := ⟨_, rfl⟩
      have hdp : (dn : Int) ≤ 4096 := by omega
      have e0 : IntKind.i64.wrap (2 * (dn : Int)) = 2 * dn := wrap64 (by omega) (by omega)
      have e1 : 2 * (dn : Int) * j = ((2 * q : Nat) : Int) := by rw [hq]; simp [Int.mul_assoc]
      have e2 : IntKind.i64.wrap ((2 * q : Nat) : Int) = ((2 * q : Nat) : Int) := wrap64 (by omega) (by omega)
      have e3 : IntKind.i64.wrap (((2 * q : Nat) : Int) + i) = ((2 * q + i : Nat) : Int) := by rw [wrap64 (by omega) (by omega)]; omega
      have e4 : IntKind.i64.wrap (((2 * q + i : Nat) : Int) + dn) = ((2 * q + i + dn : Nat) : Int) := by rw [wrap64 (by omega) (by omega)]; omega
      have l1 : 2 * q + i < p.toNat - 1 := by omega
      have l2 : 2 * q + i + dn < p.toNat - 1 := by omega
      simp [go_sem, hid, e0, e1, e2, e3, e4, l1, l2, ar_at l1, ar_at l2, -Int.natCast_add, -Int.natCast_mul]
      have hlen : (lstS g p dn j i).length ≤ 1000 := by
        simp only [lstS, List.length_append, strg_length, List.length_map, List.length_range]
        rw [Nat.mul_comm, ← hq]; omega
      refine ⟨by omega, by decide +kernel, i + 1, ⟨⟨by rw [lstS_succ]; simp, by rw [wrap64 (by omega) (by omega)]; rfl⟩, ?_⟩, by omega, by omega⟩
      rw [lstS_succ, prs_snoc]
      simp only [rowS, hq]
      rw [Nat.mul_assoc]
    · simp [go_sem, hid]
      have hid' : i = dn := by omega
      subst hid'
      refine ⟨j + 1, ⟨⟨by rw [lstS_end], by rw [wrap64 (by omega) (by omega)]; rfl⟩, by rw [lstS_end]⟩, by omega, by omega⟩
  · simp [go_sem, hjt]
    refine hR _ _ ?_
    simp [go_sem]
    rw [hres, show j = tn by omega]
end Go.Idl
