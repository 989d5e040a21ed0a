/-
  Chapter 38: the reference: power, Rounds, order, Seeds, Bracket.
  Chapter 38: the reference: team, won.
-/
import Derived.Test.YtnnpdhccblelgaaDoorC38PartF
import Derived.Test.YtnnpdhccblelgaaDoorC38PartL
namespace Go.Idl
set_option linter.all false
open Go.Proofs
set_option maxHeartbeats 16000000
set_option maxRecDepth 40000

theorem pow2_le {a b : Nat} (h : a ≤ b) : 2 ^ a ≤ 2 ^ b := Nat.pow_le_pow_right (by decide) h
theorem rpower_fun (k : Nat) (hk : k ≤ 20) : FN 70 [.int .i64 (k : Int)] (fun v => v = .int .i64 ((2 ^ k : Nat) : Int)) := by
  refine IFun.of_bodyZ false 5 [7] Tryd.func70 rfl Tryd.call70 rfl fun R hR => ?_
  simp [go_sem]
  refine IWp.loopT (α := Nat) (fun i => (⟨false, 13, 5, [7], glT, [(0, .int .i64 (k : Int)), (3, .int .i64 ((2 ^ i : Nat) : Int)), (4, .int .i64 (i : Int))], []⟩, []))
    (fun i => i ≤ k) (fun i => k - i) 0 (by simp) (by simp [go_sem]) ?_
  intro i hi
  have hp : 2 ^ i ≤ 2 ^ 20 := pow2_le (by omega)
  by_cases h : i < k
  · have v1 : IntKind.i64.wrap ((i : Int) + 1) = ((i + 1 : Nat) : Int) := by rw [wrap64 (by omega) (by omega)]; omega
    have hs : 2 ^ (i + 1) = 2 * 2 ^ i := Nat.pow_succ'
    obtain ⟨N, hN⟩ : ∃ N, 2 ^ i = N := ⟨_, rfl⟩
    rw [hN] at hp hs ⊢
    have v2 : IntKind.i64.wrap (2 * (N : Int)) = ((2 * N : Nat) : Int) := by rw [wrap64 (by omega) (by omega)]; omega
    simp only
    simp [go_sem, h]
    refine ⟨i + 1, ⟨?_, v1⟩, by omega, by omega⟩
    rw [v2, ← hs]
    simp
  · obtain rfl : i = k := by omega
    obtain ⟨N, hN⟩ : ∃ N, 2 ^ i = N := ⟨_, rfl⟩
    rw [hN] at hR ⊢
    simp [go_sem]
    exact hR _ _ _ rfl (by simp [go_sem])
theorem rrounds_none (n : Int) (h : ¬ (2 ≤ n ∧ n ≤ 64)) : FN 47 [.int .i64 n] (fun v => v = .tup [.int .i64 0, .int .i64 380]) := by
  refine IFun.of_bodyZ false 5 [10, 14] Tryd.func47 rfl Tryd.call47 rfl fun R hR => ?_
  by_cases h1 : n < 2
  · simp [go_sem, h1]
    exact hR _ _ _ rfl (by simp [go_sem])
  · have h2 : 64 < n := by omega
    simp [go_sem, h1, h2]
    exact hR _ _ _ rfl (by simp [go_sem])
theorem rrounds_fun (n : Nat) (h1 : 2 ≤ n) (h2 : n ≤ 64) : FN 47 [.int .i64 (n : Int)] (fun v => v = .tup [.int .i64 (rnd n), .int .i64 0]) := by
  refine IFun.of_bodyZ false 5 [10, 14] Tryd.func47 rfl Tryd.call47 rfl fun R hR => ?_
  obtain ⟨r1, r2⟩ := rnd_bd h1
  obtain ⟨p1, p2⟩ := rnd_pow h1 h2
  generalize rnd n = r at *
  have g1 : ¬ (n : Int) < 2 := by omega
  have g2 : ¬ 64 < (n : Int) := by omega
  simp [go_sem, g1, g2]
  refine IWp.loopT (α := Nat) (fun i => (⟨false, 18, 5, [10, 14], glT, [(0, .int .i64 (n : Int)), (4, .int .i64 (i : Int))], []⟩, []))
    (fun i => i ≤ r) (fun i => r - i) 0 (by simp) (by simp [go_sem]) ?_
  intro i hi
  have cp := rpower_fun i (by omega)
  by_cases h : i < r
  · have v1 : IntKind.i64.wrap ((i : Int) + 1) = ((i + 1 : Nat) : Int) := by rw [wrap64 (by omega) (by omega)]; omega
    have hlt : 2 ^ i < n := by
      have e1 : 2 ^ (i + 1) ≤ 2 ^ r := pow2_le (by omega)
      have e2 : 2 ^ (i + 1) = 2 * 2 ^ i := Nat.pow_succ'
      omega
    obtain ⟨N, hN⟩ : ∃ N, 2 ^ i = N := ⟨_, rfl⟩
    rw [hN] at cp hlt
    simp [go_sem]
    refine cp.callF (by simp [go_sem]) ?_
    rintro _ rfl
    simp [go_sem, hlt]
    exact ⟨i + 1, v1, by omega, by omega⟩
  · obtain rfl : i = r := by omega
    have hlt : ¬ 2 ^ i < n := by omega
    obtain ⟨N, hN⟩ : ∃ N, 2 ^ i = N := ⟨_, rfl⟩
    rw [hN] at cp hlt
    simp [go_sem]
    refine cp.callF (by simp [go_sem]) ?_
    rintro _ rfl
    simp [go_sem, hlt]
    exact hR _ _ _ rfl (by simp [go_sem])
theorem rorder_fun : ∀ k : Nat, k ≤ 6 → FN 71 [.int .i64 (k : Int)] (fun v => v = .fz 1 (ints (ordL k)))
  | 0, _ => by
    refine IFun.of_bodyZ false 6 [7, 15] Tryd.func71 rfl Tryd.call71 rfl fun R hR => ?_
    simp [go_sem]
    exact hR _ _ _ rfl (by simp [go_sem, ordL, ints, mp])
  | k + 1, hk => by
    have ih := rorder_fun k (by omega)
    have hb := ordL_bd k (by omega)
    have hlen := ordL_len k
    have cp := rpower_fun (k + 1) (by omega)
    have e : ordL (k + 1) = dbc (((2 ^ (k + 1) : Nat) : Int) + 1) (ordL k) := by
      show dbl (ordL k) = _
      unfold dbl
      rw [hlen, Nat.pow_succ']
      simp
    have hp : 2 ^ (k + 1) ≤ 2 ^ 6 := pow2_le hk
    have hs2 : 2 ^ (k + 1) = 2 * 2 ^ k := Nat.pow_succ'
    refine IFun.of_bodyZ false 6 [7, 15] Tryd.func71 rfl Tryd.call71 rfl fun R hR => ?_
    rw [e] at hR
    clear e
    have v0 : IntKind.i64.wrap (((k + 1 : Nat) : Int) - 1) = k := by rw [wrap64 (by omega) (by omega)]; omega
    obtain ⟨K, hK⟩ : ∃ K, k + 1 = K := ⟨_, rfl⟩
    have hK0 : ¬ K = 0 := by omega
    rw [hK] at v0 cp hR hp hs2 ⊢
    obtain ⟨N, hN⟩ : ∃ N, 2 ^ K = N := ⟨_, rfl⟩
    rw [hN] at cp hR hp hs2
    obtain ⟨c, hc⟩ : ∃ c : Int, (N : Int) + 1 = c := ⟨_, rfl⟩
    have v4 : IntKind.i64.wrap ((N : Int) + 1) = c := by rw [hc]; exact wrap64 (by omega) (by omega)
    rw [hc] at hR
    generalize ordL k = l at *
    simp [go_sem, hK0, v0]
    refine ih.callF (by simp [go_sem]) ?_
    rintro _ rfl
    simp [go_sem]
    refine IWp.ownNilS 1 3 (by decide) rfl ?_
    refine IWp.loopI (α := Nat) (fun i => (⟨false, 34, 6, [7, 15], glT, [(0, .int .i64 (K : Int)), (3, .sl 0 (2 * i) 0 (2 * i) none), (4, .fz 1 (ints l)), (5, .int .i64 (i : Int))], []⟩, [.rows 1 (ints (dbc c (l.take i)))]))
      (fun i => i ≤ l.length) (fun i => l.length - i) 0 (by simp) (by simp [go_sem, dbc]) ?_
    intro i hi
    have hlen2 := dbc_len c (l.take i)
    rw [List.length_take, Nat.min_eq_left hi] at hlen2
    by_cases h : i < l.length
    · have v1 : IntKind.i64.wrap ((i : Int) + 1) = i + 1 := wrap64 (by omega) (by omega)
      have hs := dbc_succ (c := c) h
      have hx := hb l[i] (List.getElem_mem h)
      obtain ⟨x, hxe⟩ : ∃ x, l[i] = x := ⟨_, rfl⟩
      rw [hxe] at hs hx
      have v2 : IntKind.i64.wrap (c - x) = c - x := wrap64 (by omega) (by omega)
      have q1 := ints_q38 h hxe
      generalize dbc c (l.take i) = T at *
      refine IWp.seqI ?_
      simp [go_sem, h]
      refine IWp.seqI ?_
      simp [go_sem]
      refine Drawn.intro (fun k => if k = 6 then .int .i64 (N : Int) else .tup []) ?_
      simp [go_sem, h, hxe, v2, v4, q1, cp]
      refine ⟨⟨by omega, by omega⟩, by decide +kernel, ?_⟩
      refine IWp.now ?_
      simp [go_sem, v1]
      refine ⟨i + 1, ⟨⟨by omega, by omega⟩, ?_⟩, by omega, by omega⟩
      rw [hs, ints_append]; rfl
    · obtain rfl : i = l.length := by omega
      rw [List.take_of_length_le (Nat.le_refl _)] at *
      generalize dbc c l = T at *
      refine IWp.seqI ?_
      simp [go_sem]
      exact hR _ _ _ rfl (by simp [go_sem, hlen2])
theorem rseeds_none (n : Int) (h : ¬ (2 ≤ n ∧ n ≤ 64)) : FN 48 [.int .i64 n] (fun v => v = .tup [.fz 1 [], .int .i64 380]) := by
  refine IFun.of_bodyZ false 9 [15, 22, 30] Tryd.func48 rfl Tryd.call48 rfl fun R hR => ?_
  simp [go_sem]
  refine (rrounds_none n h).callF (by simp [go_sem]) ?_
  rintro _ rfl
  simp [go_sem]
  exact hR _ _ _ rfl (by simp [go_sem])
theorem rseeds_fun (n : Nat) (h1 : 2 ≤ n) (h2 : n ≤ 64) : FN 48 [.int .i64 (n : Int)] (fun v => v = .tup [.fz 1 (ints (seedsL n)), .int .i64 0]) := by
  refine IFun.of_bodyZ false 9 [15, 22, 30] Tryd.func48 rfl Tryd.call48 rfl fun R hR => ?_
  obtain ⟨r1, r2⟩ := rnd_bd h1
  have co := rorder_fun (rnd n) r2
  have cr := rrounds_fun n h1 h2
  have hlen := ordL_len (rnd n)
  have hp : 2 ^ rnd n ≤ 2 ^ 6 := pow2_le r2
  unfold seedsL at hR
  generalize ordL (rnd n) = l at *
  generalize rnd n = r at *
  rw [← hlen] at hp
  simp [go_sem]
  refine cr.callF (by simp [go_sem]) ?_
  rintro _ rfl
  simp [go_sem]
  refine co.callF (by simp [go_sem]) ?_
  rintro _ rfl
  simp [go_sem]
  refine IWp.ownNilS 1 6 (by decide) rfl ?_
  refine IWp.loopT (α := Nat) (fun i => (⟨false, 42, 9, [15, 22, 30], glT, [(0, .int .i64 (n : Int)), (6, .sl 0 i 0 i none), (7, .fz 1 (ints l)), (8, .int .i64 (i : Int))], []⟩, [.rows 1 (ints ((l.take i).map fun s => if (n : Int) < s then 0 else s))]))
    (fun i => i ≤ l.length) (fun i => l.length - i) 0 (by simp) (by simp [go_sem]) ?_
  intro i hi
  have hT : ((l.take i).map fun s => if (n : Int) < s then 0 else s).length = i := by simp; omega
  by_cases h : i < l.length
  · have v1 : IntKind.i64.wrap ((i : Int) + 1) = i + 1 := wrap64 (by omega) (by omega)
    have hs : ((l.take (i + 1)).map fun s => if (n : Int) < s then 0 else s) = ((l.take i).map fun s => if (n : Int) < s then 0 else s) ++ [if (n : Int) < l[i] then 0 else l[i]] := by
      rw [List.take_succ_eq_append_getElem h, List.map_append]; rfl
    obtain ⟨x, hxe⟩ : ∃ x, l[i] = x := ⟨_, rfl⟩
    rw [hxe] at hs
    generalize ((l.take i).map fun s => if (n : Int) < s then 0 else s) = T at *
    by_cases hx : (n : Int) < x
    · have hx' : ¬ x ≤ n := by omega
      rw [if_pos hx] at hs
      simp [go_sem, h, hxe, hx', hx, v1]
      rw [List.map_take] at hs
      exact ⟨⟨by omega, by omega⟩, i + 1, ⟨⟨rfl, by omega⟩, by rw [hs, ints_snoc]⟩, by omega, by omega⟩
    · have hx' : x ≤ n := by omega
      rw [if_neg hx] at hs
      simp [go_sem, h, hxe, hx', hx, v1]
      rw [List.map_take] at hs
      exact ⟨⟨by omega, by omega⟩, i + 1, ⟨⟨rfl, by omega⟩, by rw [hs, ints_snoc]⟩, by omega, by omega⟩
  · obtain rfl : i = l.length := by omega
    rw [List.take_of_length_le (Nat.le_refl _)] at *
    generalize (l.map fun s => if (n : Int) < s then 0 else s) = T at *
    simp [go_sem]
    exact hR _ _ _ rfl (by simp [go_sem, hT])
theorem rbracket_none (n : Int) (h : ¬ (2 ≤ n ∧ n ≤ 64)) : FN 49 [.int .i64 n] (fun v => v = .tup [.fz 4 [], .int .i64 380]) := by
  refine IFun.of_bodyZ false 8 [14, 20] Tryd.func49 rfl Tryd.call49 rfl fun R hR => ?_
  simp [go_sem]
  refine (rseeds_none n h).callF (by simp [go_sem]) ?_
  rintro _ rfl
  simp [go_sem]
  exact hR _ _ _ rfl (by simp [go_sem])
theorem rbracket_fun (n : Nat) (h1 : 2 ≤ n) (h2 : n ≤ 64) : FN 49 [.int .i64 (n : Int)] (fun v => v = .tup [.fz 4 (mts (brkL n)), .int .i64 0]) := by
  refine IFun.of_bodyZ false 8 [14, 20] Tryd.func49 rfl Tryd.call49 rfl fun R hR => ?_
  have cs := rseeds_fun n h1 h2
  have hl := seedsL_len n
  obtain ⟨r1, r2⟩ := rnd_bd h1
  have hp : 2 ^ rnd n = 2 * 2 ^ (rnd n - 1) := by rw [← Nat.pow_succ']; congr 1; omega
  have hp6 : 2 ^ (rnd n - 1) ≤ 2 ^ 5 := Nat.pow_le_pow_right (by decide) (by omega)
  rw [hp] at hl
  unfold brkL at hR
  generalize 2 ^ (rnd n - 1) = P at *
  generalize seedsL n = S at *
  have t2 : (2 * (P : Int)).tdiv 2 = P := by rw [Int.tdiv_eq_ediv_of_nonneg (by omega)]; omega
  have hlI : (S.length : Int) = 2 * P := by omega
  have w0 : IntKind.i64.wrap (P : Int) = P := wrap64 (by omega) (by omega)
  simp [go_sem]
  refine cs.callF (by simp [go_sem]) ?_
  rintro _ rfl
  simp [go_sem]
  refine IWp.ownNilS 4 6 (by decide) rfl ?_
  refine IWp.loopT (α := Nat) (fun i => (⟨false, 40, 8, [14, 20], glT, [(4, .fz 1 (ints S)), (6, .sl 0 i 0 i none), (7, .int .i64 (i : Int))], []⟩, [.rows 4 (mts (brkT S i))]))
    (fun i => i ≤ P) (fun i => P - i) 0 (by simp) (by simp [go_sem, brkT]) ?_
  intro i hi
  have hbl := brkT_length S i
  by_cases h : i < P
  · have h' : (i : Int) < P := by omega
    have v1 : IntKind.i64.wrap ((i : Int) + 1) = i + 1 := wrap64 (by omega) (by omega)
    have v2 : IntKind.i64.wrap (2 * (i : Int)) = ((2 * i : Nat) : Int) := by rw [wrap64 (by omega) (by omega)]; simp
    have v3 : IntKind.i64.wrap (((2 * i : Nat) : Int) + 1) = ((2 * i + 1 : Nat) : Int) := by rw [wrap64 (by omega) (by omega)]; simp
    have hs := brkT_succ S i
    have j1 : 2 * i < S.length := by omega
    have j2 : 2 * i + 1 < S.length := by omega
    have x1 : S[2 * i] = S.getD (2 * i) 0 := by simp [j1]
    have x2 : S[2 * i + 1] = S.getD (2 * i + 1) 0 := by simp [j2]
    have q1 := ints_q38 j1 x1
    have q2 := ints_q38 j2 x2
    obtain ⟨a, ha⟩ : ∃ a, S.getD (2 * i) 0 = a := ⟨_, rfl⟩
    obtain ⟨b, hb⟩ : ∃ b, S.getD (2 * i + 1) 0 = b := ⟨_, rfl⟩
    rw [ha] at x1 q1 hs
    rw [hb] at x2 q2 hs
    obtain ⟨J2, hJ2⟩ : ∃ J, 2 * i + 1 = J := ⟨_, rfl⟩
    obtain ⟨J1, hJ1⟩ : ∃ J, 2 * i = J := ⟨_, rfl⟩
    simp only [hJ2] at j2 x2 q2 v3
    simp only [hJ1] at j1 x1 q1 v2 v3
    generalize brkT S i = T at *
    simp [go_sem, hlI, t2, w0, h, h', v1, v2, v3, j1, j2, x1, x2, q1, q2]
    exact ⟨by omega, by omega, ⟨by omega, by omega⟩, by decide +kernel, i + 1, ⟨⟨rfl, by omega⟩, by rw [hs, mts_snoc]⟩, by omega, by omega⟩
  · obtain rfl : i = P := by omega
    generalize brkT S i = T at *
    simp [go_sem, hlI, t2, w0]
    exact hR _ _ _ rfl (by simp [go_sem, hbl])
end Go.Idl
namespace Go.Idl
set_option linter.all false
open Go.Proofs
set_option maxHeartbeats 16000000
set_option maxRecDepth 40000

/-- Who wins by the first result of the match. -/
def winR (a b : Int) : Option Rs → Int
  | none => 0
  | some x => if 0 < cmpI x.f (whF (x.b - x.a)) ∨ (cmpI x.f (whF (x.b - x.a)) = 0 ∧ a < b) then a else b
/-- A result of match i of round q. -/
def isM (q i : Nat) (x : Rs) : Bool := decide (x.r = (q : Int) ∧ x.i = (i : Int))
/-- Who wins, when both sides are told. -/
def finR (l : List Rs) (q i : Nat) (a b : Int) : Int :=
  if q = 0 ∧ (a = 0 ∨ b = 0) then a + b else if a = 0 ∨ b = 0 then 0
  else winR a b (l.find? (isM q i))
def wonR (S : List Int) (l : List Rs) : Nat → Nat → Int
  | 0, i => finR l 0 i (S.getD (2 * i) 0) (S.getD (2 * i + 1) 0)
  | q + 1, i => finR l (q + 1) i (wonR S l q (2 * i)) (wonR S l q (2 * i + 1))
def teamR (S : List Int) (l : List Rs) (q i side : Nat) : Int := match q with | 0 => S.getD (2 * i + side) 0 | q + 1 => wonR S l q (2 * i + side)
theorem wonR_eq (S : List Int) (l : List Rs) : ∀ q i, wonR S l q i = finR l q i (teamR S l q i 0) (teamR S l q i 1)
  | 0, _ => rfl
  | _ + 1, _ => rfl
theorem winR_cases (a b : Int) (o : Option Rs) : winR a b o = 0 ∨ winR a b o = a ∨ winR a b o = b := by
  cases o with
  | none => exact .inl rfl
  | some x =>
    right
    show (if 0 < cmpI x.f (whF (x.b - x.a)) ∨ (cmpI x.f (whF (x.b - x.a)) = 0 ∧ a < b) then a else b) = a ∨ (if 0 < cmpI x.f (whF (x.b - x.a)) ∨ (cmpI x.f (whF (x.b - x.a)) = 0 ∧ a < b) then a else b) = b
    by_cases h : 0 < cmpI x.f (whF (x.b - x.a)) ∨ (cmpI x.f (whF (x.b - x.a)) = 0 ∧ a < b)
    · rw [if_pos h]; exact .inl rfl
    · rw [if_neg h]; exact .inr rfl
theorem finR_bd {l : List Rs} {q i : Nat} {a b : Int} (ha : 0 ≤ a ∧ a ≤ 64) (hb : 0 ≤ b ∧ b ≤ 64) : 0 ≤ finR l q i a b ∧ finR l q i a b ≤ 64 := by
  unfold finR
  by_cases h1 : q = 0 ∧ (a = 0 ∨ b = 0)
  · rw [if_pos h1]; omega
  · rw [if_neg h1]
    by_cases h2 : a = 0 ∨ b = 0
    · rw [if_pos h2]; omega
    · rw [if_neg h2]
      rcases winR_cases a b (l.find? (isM q i)) with h | h | h <;> rw [h] <;> omega
theorem getD_bd {S : List Int} (hS : ∀ x ∈ S, 0 ≤ x ∧ x ≤ 64) (j : Nat) : 0 ≤ S.getD j 0 ∧ S.getD j 0 ≤ 64 := by
  by_cases h : j < S.length
  · rw [show S.getD j 0 = S[j] by simp [h]]; exact hS _ (List.getElem_mem h)
  · rw [show S.getD j 0 = 0 by simp [List.getElem?_eq_none (show S.length ≤ j by omega)]]; omega
theorem wonR_bd {S : List Int} (hS : ∀ x ∈ S, 0 ≤ x ∧ x ≤ 64) (l : List Rs) : ∀ q i, 0 ≤ wonR S l q i ∧ wonR S l q i ≤ 64
  | 0, i => finR_bd (getD_bd hS _) (getD_bd hS _)
  | q + 1, i => finR_bd (wonR_bd hS l q _) (wonR_bd hS l q _)
theorem teamR_bd {S : List Int} (hS : ∀ x ∈ S, 0 ≤ x ∧ x ≤ 64) (l : List Rs) (q i side : Nat) : 0 ≤ teamR S l q i side ∧ teamR S l q i side ≤ 64 := by
  cases q with
  | zero => exact getD_bd hS _
  | succ q => exact wonR_bd hS l q _
/-- A result that is right enough. -/
def OKR (x : Rs) : Prop := rightB x.f = true ∧ FitF x.f ∧ (0 ≤ x.a ∧ x.a ≤ 100000) ∧ (0 ≤ x.b ∧ x.b ≤ 100000)
theorem won_step (n : Int) (l : List Rs) (q i : Nat) (a b : Int) (hl : l.length ≤ 1000) (hf : ∀ x ∈ l, OKR x) (ha : 0 ≤ a ∧ a ≤ 64) (hb : 0 ≤ b ∧ b ≤ 64)
    (ca : FN 72 [.int .i64 n, .fz 6 (rss l), .int .i64 (q : Int), .int .i64 (i : Int), .int .i64 0] (fun v => v = .int .i64 a))
    (cb : FN 72 [.int .i64 n, .fz 6 (rss l), .int .i64 (q : Int), .int .i64 (i : Int), .int .i64 1] (fun v => v = .int .i64 b)) :
    FN 88 [.int .i64 n, .fz 6 (rss l), .int .i64 (q : Int), .int .i64 (i : Int)] (fun v => v = .int .i64 (finR l q i a b)) := by
  refine IFun.of_bodyW false 14 [33, 42, 46, 64, 96] Tryd.func88 rfl Tryd.call88 rfl fun R hR => ?_
  unfold finR at hR
  refine IWp.seqI ?_
  simp [go_sem]
  refine IWp.seqI ?_
  simp [go_sem]
  refine ca.callF (by simp [go_sem]) ?_
  rintro _ rfl
  simp [go_sem]
  refine cb.callF (by simp [go_sem]) ?_
  rintro _ rfl
  simp [go_sem]
  have wab : IntKind.i64.wrap (a + b) = a + b := wrap64 (by omega) (by omega)
  by_cases h1 : q = 0 ∧ (a = 0 ∨ b = 0)
  · rw [if_pos h1] at hR
    obtain ⟨rfl, h1⟩ := h1
    refine IWp.now ?_
    by_cases ha0 : a = 0
    · simp [go_sem, ha0, wab]
      subst ha0
      have wb : IntKind.i64.wrap b = b := wrap64 (by omega) (by omega)
      rw [wb]
      exact hR _ _ _ rfl (by simp [go_sem])
    · have hb0 : b = 0 := by omega
      subst hb0
      have wb : IntKind.i64.wrap a = a := wrap64 (by omega) (by omega)
      simp [go_sem, ha0, wb]
      exact hR _ _ _ rfl (by simp [go_sem])
  rw [if_neg h1] at hR
  refine IWp.seqT (α := Unit) (fun _ => (⟨false, 99, 14, [33, 42, 46, 64, 96], glT, [(1, .fz 6 (rss l)), (2, .int .i64 (q : Int)), (3, .int .i64 (i : Int)), (9, .int .i64 a), (10, .int .i64 b)], []⟩, [])) (fun _ => True) ?_ ?_
  · by_cases hq : q = 0
    · subst hq
      have ha0 : ¬ a = 0 := fun h => h1 ⟨rfl, .inl h⟩
      have hb0 : ¬ b = 0 := fun h => h1 ⟨rfl, .inr h⟩
      simp [go_sem, ha0, hb0]
    · simp [go_sem, hq]
  rintro _ _
  by_cases h2 : a = 0 ∨ b = 0
  · rw [if_pos h2] at hR
    refine IWp.now ?_
    by_cases ha0 : a = 0
    · simp [go_sem, ha0]
      exact hR _ _ _ rfl (by simp [go_sem])
    · have hb0 : b = 0 := by omega
      simp [go_sem, ha0, hb0]
      exact hR _ _ _ rfl (by simp [go_sem])
  rw [if_neg h2] at hR
  have ha0 : ¬ a = 0 := fun h => h2 (.inl h)
  have hb0 : ¬ b = 0 := fun h => h2 (.inr h)
  refine IWp.seqI ?_
  simp [go_sem, ha0, hb0]
  refine IWp.seqI ?_
  simp [go_sem]
  refine IWp.loopI (α := Nat) (fun j => (⟨false, 99, 14, [33, 42, 46, 64, 96], glT, [(1, .fz 6 (rss l)), (2, .int .i64 (q : Int)), (3, .int .i64 (i : Int)), (9, .int .i64 a), (10, .int .i64 b), (11, .int .i64 (j : Int))], []⟩, []))
    (fun j => j ≤ l.length ∧ (l.drop j).find? (isM q i) = l.find? (isM q i)) (fun j => l.length - j) 0 ⟨by simp, rfl⟩ (by simp [go_sem]) ?_
  rintro j ⟨hj, he⟩
  by_cases h : j < l.length
  · have v1 : IntKind.i64.wrap ((j : Int) + 1) = ((j + 1 : Nat) : Int) := by rw [wrap64 (by omega) (by omega)]; omega
    obtain ⟨k1, k2, k3, k4⟩ := hf l[j] (List.getElem_mem h)
    rw [List.drop_eq_getElem_cons h, List.find?_cons] at he
    have hj2 : (rss l)[j]?.getD [] = l[j].c := by
      rw [List.getElem?_eq_getElem (by simpa using h), Option.getD_some, rss_getElem]; rfl
    obtain ⟨⟨xr, xi, xa, xb, ⟨u, w⟩⟩, hx⟩ : ∃ x, l[j] = x := ⟨_, rfl⟩
    rw [hx] at k1 k2 k3 k4 he hj2
    simp only [Rs.c] at hj2
    simp only at k1 k2 k3 k4 he
    refine IWp.seqI ?_
    simp [go_sem, h]
    refine IWp.seq ?_
    refine IWp.block ?_
    by_cases hm : xr = (q : Int) ∧ xi = (i : Int)
    · have e : isM q i ⟨xr, xi, xa, xb, ⟨u, w⟩⟩ = true := by simp [isM, hm]
      rw [e] at he
      rw [← he] at hR
      obtain ⟨rfl, rfl⟩ := hm
      have c1 := refWhole_fun (xb - xa)
      have c2 := cmp01_fun ⟨u, w⟩ (whF (xb - xa)) k2 (whF_fit (by omega))
      rw [show cmpR ⟨u, w⟩ (whF (xb - xa)) = (cmpI ⟨u, w⟩ (whF (xb - xa)), 0) by unfold cmpR; rw [if_pos ⟨k1, whF_right _⟩]] at c2
      have v2 : IntKind.i64.wrap (xb - xa) = xb - xa := wrap64 (by omega) (by omega)
      simp only [winR] at hR
      generalize cmpI ⟨u, w⟩ (whF (xb - xa)) = C at *
      simp only [whF, Frc.v] at c1 c2
      refine IWp.seqI ?_
      simp [go_sem, h, hx, hj2]
      refine IWp.seqI ?_
      refine Drawn.intro (fun k => if k = 16 then .agg [.int .i64 (xb - xa), .int .i64 1] else if k = 17 then .tup [.int .i64 C, .int .i64 0] else .tup []) ?_
      simp [go_sem, h, hx, hj2, v2, c1, c2]
      refine ⟨by decide +kernel, ?_⟩
      refine IWp.now ?_
      by_cases g : 0 < C ∨ (C = 0 ∧ a < b)
      · rw [if_pos g] at hR
        by_cases g1 : 0 < C
        · simp [go_sem, g1]
          exact hR _ _ _ rfl (by simp [go_sem])
        · obtain ⟨g2, g3⟩ : C = 0 ∧ a < b := by omega
          simp [go_sem, g1, g2, g3]
          exact hR _ _ _ rfl (by simp [go_sem])
      · rw [if_neg g] at hR
        have g1 : ¬ 0 < C := by omega
        by_cases g2 : C = 0
        · have g3 : ¬ a < b := by omega
          simp [go_sem, g1, g2, g3]
          exact hR _ _ _ rfl (by simp [go_sem])
        · simp [go_sem, g1, g2]
          exact hR _ _ _ rfl (by simp [go_sem])
    · have e : isM q i ⟨xr, xi, xa, xb, ⟨u, w⟩⟩ = false := by
        unfold isM
        exact decide_eq_false hm
      rw [e] at he
      simp only at he
      refine IWp.now ?_
      by_cases hq : xr = (q : Int)
      · have hi : ¬ xi = (i : Int) := fun h => hm ⟨hq, h⟩
        simp [go_sem, h, hx, hj2, hq, hi]
        refine IWp.now ?_
        simp [go_sem, v1]
        exact ⟨j + 1, rfl, ⟨by omega, he⟩, by omega⟩
      · simp [go_sem, h, hx, hj2, hq]
        refine IWp.now ?_
        simp [go_sem, v1]
        exact ⟨j + 1, rfl, ⟨by omega, he⟩, by omega⟩
  · obtain rfl : j = l.length := by omega
    rw [List.drop_of_length_le (by omega), List.find?_nil] at he
    rw [← he] at hR
    refine IWp.seqI ?_
    simp [go_sem]
    refine IWp.now ?_
    simp [go_sem]
    exact hR _ _ _ rfl (by simp [go_sem, winR])
theorem brkL_get {n i : Nat} (h : i < (brkL n).length) : (brkL n)[i] = ⟨0, i, (seedsL n).getD (2 * i) 0, (seedsL n).getD (2 * i + 1) 0⟩ := by simp [brkL, brkT]
theorem seeds_bd {n : Nat} (h1 : 2 ≤ n) : ∀ x ∈ seedsL n, 0 ≤ x ∧ x ≤ 64 := fun x hx => by
  unfold seedsL at hx
  obtain ⟨s, hs, rfl⟩ := List.mem_map.1 hx
  have := ordL_bd _ (rnd_bd h1).2 s hs
  split <;> omega
theorem team_won (n : Nat) (h1 : 2 ≤ n) (h2 : n ≤ 64) (l : List Rs) (hl : l.length ≤ 1000) (hf : ∀ x ∈ l, OKR x) : ∀ q i : Nat, q ≤ 6 → (i + 1) * 2 ^ q ≤ 2 ^ (rnd n - 1) →
    (∀ side : Nat, side ≤ 1 → FN 72 [.int .i64 (n : Int), .fz 6 (rss l), .int .i64 (q : Int), .int .i64 (i : Int), .int .i64 (side : Int)] (fun v => v = .int .i64 (teamR (seedsL n) l q i side))) ∧
    FN 88 [.int .i64 (n : Int), .fz 6 (rss l), .int .i64 (q : Int), .int .i64 (i : Int)] (fun v => v = .int .i64 (wonR (seedsL n) l q i)) := by
  have hS := seeds_bd h1
  have hP : 2 ^ (rnd n - 1) ≤ 2 ^ 5 := pow2_le (by have := (rnd_bd h1).2; omega)
  have key : ∀ q i : Nat, (∀ side : Nat, side ≤ 1 → FN 72 [.int .i64 (n : Int), .fz 6 (rss l), .int .i64 (q : Int), .int .i64 (i : Int), .int .i64 (side : Int)] (fun v => v = .int .i64 (teamR (seedsL n) l q i side))) →
      FN 88 [.int .i64 (n : Int), .fz 6 (rss l), .int .i64 (q : Int), .int .i64 (i : Int)] (fun v => v = .int .i64 (wonR (seedsL n) l q i)) := fun q i ht => by
    rw [wonR_eq]
    exact won_step n l q i _ _ hl hf (teamR_bd hS l q i 0) (teamR_bd hS l q i 1) (ht 0 (by decide)) (ht 1 (by decide))
  intro q
  induction q with
  | zero =>
    intro i _ hi
    have ht : ∀ side : Nat, side ≤ 1 → FN 72 [.int .i64 (n : Int), .fz 6 (rss l), .int .i64 ((0 : Nat) : Int), .int .i64 (i : Int), .int .i64 (side : Int)] (fun v => v = .int .i64 (teamR (seedsL n) l 0 i side)) := fun side hs => by
      refine IFun.of_bodyZ false 13 [14, 21] Tryd.func72 rfl Tryd.call72 rfl fun R hR => ?_
      have cb := rbracket_fun n h1 h2
      have hbl : (brkL n).length = 2 ^ (rnd n - 1) := by unfold brkL; exact brkT_length _ _
      have hi2 : i < (brkL n).length := by omega
      have hg := brkL_get hi2
      simp only [teamR] at hR
      generalize seedsL n = S at *
      generalize brkL n = B at *
      rcases (by omega : side = 0 ∨ side = 1) with rfl | rfl
      · simp [go_sem]
        refine cb.callF (by simp [go_sem]) ?_
        rintro _ rfl
        rw [show 2 * i + 0 = 2 * i from rfl] at hR
        generalize S.getD (2 * i) 0 = x at *
        generalize S.getD (2 * i + 1) 0 = y at *
        simp [go_sem, hi2, hg]
        exact hR _ _ _ rfl (by simp [go_sem])
      · simp [go_sem]
        refine cb.callF (by simp [go_sem]) ?_
        rintro _ rfl
        generalize S.getD (2 * i) 0 = x at *
        generalize S.getD (2 * i + 1) 0 = y at *
        simp [go_sem, hi2, hg]
        exact hR _ _ _ rfl (by simp [go_sem])
    exact ⟨ht, key 0 i ht⟩
  | succ q ih =>
    intro i hq hi
    have hs2 : 2 ^ (q + 1) = 2 * 2 ^ q := Nat.pow_succ'
    have hq1 : 1 ≤ 2 ^ q := Nat.one_le_two_pow
    have hil : i + 1 ≤ (i + 1) * 2 ^ (q + 1) := Nat.le_mul_of_pos_right _ (by omega)
    have ht : ∀ side : Nat, side ≤ 1 → FN 72 [.int .i64 (n : Int), .fz 6 (rss l), .int .i64 ((q + 1 : Nat) : Int), .int .i64 (i : Int), .int .i64 (side : Int)] (fun v => v = .int .i64 (teamR (seedsL n) l (q + 1) i side)) := fun side hs => by
      have cw := (ih (2 * i + side) (by omega) (Nat.le_trans (Nat.mul_le_mul_right _ (show 2 * i + side + 1 ≤ 2 * (i + 1) by omega)) (by rw [hs2] at hi; rw [Nat.mul_comm 2 (i + 1), Nat.mul_assoc]; exact hi))).2
      refine IFun.of_bodyZ false 13 [14, 21] Tryd.func72 rfl Tryd.call72 rfl fun R hR => ?_
      have v1 : IntKind.i64.wrap (((q + 1 : Nat) : Int) - 1) = q := by rw [wrap64 (by omega) (by omega)]; omega
      have v2 : IntKind.i64.wrap (2 * (i : Int)) = 2 * i := wrap64 (by omega) (by omega)
      have v3 : IntKind.i64.wrap (2 * (i : Int) + side) = ((2 * i + side : Nat) : Int) := by rw [wrap64 (by omega) (by omega)]; omega
      simp only [teamR] at hR
      obtain ⟨J, hJ⟩ : ∃ J, 2 * i + side = J := ⟨_, rfl⟩
      rw [hJ] at cw v3 hR
      obtain ⟨q', hq'⟩ : ∃ q', q + 1 = q' := ⟨_, rfl⟩
      have hq0 : ¬ q' = 0 := by omega
      rw [hq'] at v1 ⊢
      generalize wonR (seedsL n) l q J = V at *
      simp [go_sem, hq0, v1, v2, v3]
      refine cw.callF (by simp [go_sem]) ?_
      rintro _ rfl
      simp [go_sem]
      exact hR _ _ _ rfl (by simp [go_sem])
    exact ⟨ht, key (q + 1) i ht⟩
end Go.Idl
