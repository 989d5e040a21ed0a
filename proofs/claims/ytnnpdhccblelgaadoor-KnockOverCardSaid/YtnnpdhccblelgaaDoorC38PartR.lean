/-
  Chapter 38: Open.
  Chapter 38: Winner, Path.
-/
import Derived.Test.YtnnpdhccblelgaaDoorC38PartQ
namespace Go.Idl
set_option linter.all false
open Go.Proofs
set_option maxHeartbeats 16000000
set_option maxRecDepth 40000

/-- A match that can be played. -/
def opM (S : List Int) (W : Won) (q i : Nat) : Option Mt := if (sidW S W q i).2.2 = true ∧ aget ((q : Int), (i : Int)) W = none then some ⟨q, i, (sidW S W q i).1, (sidW S W q i).2.1⟩ else none
def opR (S : List Int) (W : Won) (q i : Nat) : List Mt := (List.range i).filterMap (opM S W q)
def opL (r : Nat) (S : List Int) (W : Won) (k : Nat) : List Mt := (List.range k).flatMap fun q => opR S W q (matN r q)
theorem opR_succ (S : List Int) (W : Won) (q i : Nat) : opR S W q (i + 1) = opR S W q i ++ (opM S W q i).toList := by
  unfold opR
  rw [List.range_succ, List.filterMap_append]
  cases h : opM S W q i <;> simp [h]
theorem opL_succ (r : Nat) (S : List Int) (W : Won) (k : Nat) : opL r S W (k + 1) = opL r S W k ++ opR S W k (matN r k) := by
  unfold opL
  rw [List.range_succ, List.flatMap_append]
  simp
/-- All matches that can be played, as far as match i of round q. -/
def opT (r : Nat) (S : List Int) (W : Won) (q i : Nat) : List Mt := opL r S W q ++ opR S W q i
theorem opT_zero (r : Nat) (S : List Int) (W : Won) (q : Nat) : opT r S W q 0 = opL r S W q := by simp [opT, opR]
theorem opT_all (r : Nat) (S : List Int) (W : Won) (q : Nat) : opT r S W q (matN r q) = opL r S W (q + 1) := (opL_succ r S W q).symm
theorem opT_succ (r : Nat) (S : List Int) (W : Won) (q i : Nat) : opT r S W q (i + 1) = opT r S W q i ++ (opM S W q i).toList := by
  unfold opT
  rw [opR_succ, List.append_assoc]
theorem opR_len (S : List Int) (W : Won) (q i : Nat) : (opR S W q i).length ≤ i := by
  unfold opR
  exact Nat.le_trans (List.length_filterMap_le ..) (by simp)
theorem opL_len {r : Nat} (hr : r ≤ 6) (S : List Int) (W : Won) : ∀ k, (opL r S W k).length ≤ 32 * k
  | 0 => by simp [opL]
  | k + 1 => by
    rw [opL_succ, List.length_append]
    have h1 := opL_len hr S W k
    have h2 := opR_len S W k (matN r k)
    have h3 := (matN_le hr (k : Int)).1
    omega
theorem opT_len {r : Nat} (hr : r ≤ 6) (S : List Int) (W : Won) (q i : Nat) : (opT r S W q i).length ≤ 32 * q + i := by
  have h1 := opL_len hr S W q
  have h2 := opR_len S W q i
  unfold opT
  rw [List.length_append]
  omega
theorem open_none (n : Int) (h : ¬ (2 ≤ n ∧ n ≤ 64)) (l : List Rs) : FN 23 [.int .i64 n, .fz 6 (rss l)] (fun v => v = .tup [.fz 4 [], .int .i64 380]) := by
  refine IFun.of_bodyZ false 16 [23, 28, 29, 30, 34, 35, 36, 61] Tryd.func23 rfl Tryd.call23 rfl fun R hR => ?_
  have ct := state_none n h l
  simp [go_sem]
  refine ct.at [] (by simp [go_sem]) ?_
  rintro _ _ ⟨rfl, rfl⟩
  simp [go_sem]
  exact hR _ _ _ rfl (by simp [go_sem])
theorem open_fun (n : Nat) (h1 : 2 ≤ n) (h2 : n ≤ 64) (l : List Rs) (hl : l.length ≤ 1000) (hf : ∀ x ∈ l, FitR x) (A : List Nat) (hA : OrdOf l A) :
    FN 23 [.int .i64 (n : Int), .fz 6 (rss l)] (fun v => v = if (plR (rnd n) (seedsL n) l A (beg n)).2.1 = 0 then .tup [.fz 4 (mts (opL (rnd n) (seedsL n) (plR (rnd n) (seedsL n) l A (beg n)).2.2 (rnd n))), .int .i64 0] else .tup [.fz 4 [], .int .i64 2]) := by
  refine IFun.of_bodyZ false 16 [23, 28, 29, 30, 34, 35, 36, 61] Tryd.func23 rfl Tryd.call23 rfl fun R hR => ?_
  have ct := state_calls n h1 h2 l hl hf A hA
  obtain ⟨r1, r2⟩ := rnd_bd h1
  have hSl := seedsL_len n
  generalize plR (rnd n) (seedsL n) l A (beg n) = Z at *
  obtain ⟨zi, ze, W⟩ := Z
  generalize seedsL n = S at *
  generalize rnd n = r at *
  simp only at *
  unfold evP evRow at ct
  simp [go_sem]
  refine ct.at [] (by simp [go_sem]) ?_
  rintro _ _ (⟨he, rfl, rfl⟩ | ⟨he, rfl, rfl⟩)
  · rw [if_pos he] at hR
    simp [go_sem]
    refine IWp.ownNilS 4 8 (by decide) rfl ?_
    refine IWp.loopT (α := Nat) (fun q => (⟨false, 73, 16, [23, 28, 29, 30, 34, 35, 36, 61], glT, [(6, .ptr 4 1 0 0), (8, .sl 5 (opL r S W q).length 0 (opL r S W q).length none), (28, .int .i64 (r : Int)), (29, .int .i64 (q : Int))], []⟩, [.dead, .dead, .dead, .map (enW W), .rows 3 [[.int .i64 r, .fz 1 (ints S), .map 3]], .rows 4 (mts (opL r S W q))]))
      (fun q => q ≤ r) (fun q => r - q) 0 (by simp) (by simp [go_sem, opL]) ?_
    intro q hq
    by_cases h : q < r
    · have hmat := (matN_le r2 (q : Int)).1
      have v0 : IntKind.i64.wrap ((q : Int) + 1) = ((q + 1 : Nat) : Int) := by rw [wrap64 (by omega) (by omega)]; omega
      simp [go_sem, h]
      refine (matches_reads r S 3 4 q r2 _ rfl).mono ?_
      rintro _ _ ⟨rfl, rfl⟩
      simp [go_sem]
      refine IWp.loopT (α := Nat) (fun i => (⟨false, 73, 16, [23, 28, 29, 30, 34, 35, 36, 61], glT, [(6, .ptr 4 1 0 0), (8, .sl 5 (opT r S W q i).length 0 (opT r S W q i).length none), (9, .int .i64 (q : Int)), (28, .int .i64 (r : Int)), (29, .int .i64 (q : Int)), (34, .int .i64 (matN r q : Nat)), (35, .int .i64 (i : Int))], []⟩, [.dead, .dead, .dead, .map (enW W), .rows 3 [[.int .i64 r, .fz 1 (ints S), .map 3]], .rows 4 (mts (opT r S W q i))]))
        (fun i => i ≤ matN r q) (fun i => matN r q - i) 0 (by simp) (by simp [go_sem, opT_zero]) ?_
      intro i hi
      by_cases hi' : i < matN r q
      · have v1 : IntKind.i64.wrap ((i : Int) + 1) = ((i + 1 : Nat) : Int) := by rw [wrap64 (by omega) (by omega)]; omega
        have cS := sides_calls r S W q i (by omega) (by omega) (fun h0 => by
          subst h0
          have hp : 2 ^ r = 2 * 2 ^ (r - 1) := by rw [← Nat.pow_succ']; congr 1; omega
          have := mat_first r1
          rw [show ((0 : Nat) : Int) = 0 from rfl] at hi'
          omega)
        have hok : ∀ (a b : IV), (a, b) ∈ enW W → keyOK Tryd.prog 91 [.int .i64, .int .i64] a = true := fun a b h => ok_w W (a, b) h
        have hmg := mget_w q i W
        have hs := opT_succ r S W q i
        unfold opM at hs
        unfold evH evRow at cS
        generalize sidW S W q i = sd at *
        obtain ⟨sa, sb, so⟩ := sd
        simp only at hs
        have hTl := opT_len r2 S W q i
        generalize opT r S W q i = T at *
        obtain ⟨A, hA⟩ : ∃ A, aget ((q : Int), (i : Int)) W = A := ⟨_, rfl⟩
        rw [hA] at hmg hs
        clear hA
        cases A with
        | none =>
          simp [go_sem, hi', hmg]
          refine ⟨fun a b h => by simpa [go_sem, keyOK] using hok a b h, ?_⟩
          refine cS.at [3, 4] (by simp [go_sem]) ?_
          rintro _ _ ⟨rfl, rfl⟩
          cases so with
          | true =>
            rw [if_pos (by simp)] at hs
            simp [go_sem]
            exact ⟨by omega, i + 1, ⟨⟨by rw [hs]; simp, v1⟩, by rw [hs]; simp [mts_snoc]⟩, by omega, by omega⟩
          | false =>
            rw [if_neg (by simp)] at hs
            simp [go_sem]
            exact ⟨i + 1, ⟨⟨by rw [hs]; simp, v1⟩, by rw [hs]; simp⟩, by omega, by omega⟩
        | some v =>
          obtain ⟨w1, w2⟩ := v
          rw [if_neg (by simp)] at hs
          simp [go_sem, hi', hmg, mkP]
          refine ⟨fun a b h => by simpa [go_sem, keyOK] using hok a b h, ?_⟩
          refine cS.at [3, 4] (by simp [go_sem]) ?_
          rintro _ _ ⟨rfl, rfl⟩
          cases so with
          | true =>
            simp [go_sem]
            exact ⟨i + 1, ⟨⟨by rw [hs]; simp, v1⟩, by rw [hs]; simp⟩, by omega, by omega⟩
          | false =>
            simp [go_sem]
            exact ⟨i + 1, ⟨⟨by rw [hs]; simp, v1⟩, by rw [hs]; simp⟩, by omega, by omega⟩
      · obtain rfl : i = matN r q := by omega
        simp [go_sem]
        exact ⟨q + 1, ⟨⟨by rw [opT_all], v0⟩, by rw [opT_all]⟩, by omega, by omega⟩
    · obtain rfl : q = r := by omega
      simp [go_sem]
      exact hR _ _ _ rfl (by simp [go_sem])
  · rw [if_neg he] at hR
    simp [go_sem]
    exact hR _ _ _ rfl (by simp [go_sem])
end Go.Idl
namespace Go.Idl
set_option linter.all false
open Go.Proofs
set_option maxHeartbeats 16000000
set_option maxRecDepth 40000

def winV (W : Won) (q i : Int) : Int × Int := match aget (q, i) W with | none => (0, 6) | some v => (v.1, 0)
theorem winner_fun (n : Nat) (h1 : 2 ≤ n) (h2 : n ≤ 64) (l : List Rs) (hl : l.length ≤ 1000) (hf : ∀ x ∈ l, FitR x) (A : List Nat) (hA : OrdOf l A) (q i : Int) :
    FN 30 [.int .i64 (n : Int), .fz 6 (rss l), .int .i64 q, .int .i64 i] (fun v => v = if (plR (rnd n) (seedsL n) l A (beg n)).2.1 = 0 then .tup [.int .i64 (winV (plR (rnd n) (seedsL n) l A (beg n)).2.2 q i).1, .int .i64 (winV (plR (rnd n) (seedsL n) l A (beg n)).2.2 q i).2] else .tup [.int .i64 0, .int .i64 2]) := by
  refine IFun.of_bodyZ false 14 [21, 35] Tryd.func30 rfl Tryd.call30 rfl fun R hR => ?_
  have ct := state_calls n h1 h2 l hl hf A hA
  generalize plR (rnd n) (seedsL n) l A (beg n) = Z at *
  obtain ⟨zi, ze, W⟩ := Z
  generalize seedsL n = S at *
  generalize rnd n = r at *
  simp only at *
  unfold evP evRow at ct
  simp [go_sem]
  refine ct.at [] (by simp [go_sem]) ?_
  rintro _ _ (⟨he, rfl, rfl⟩ | ⟨he, rfl, rfl⟩)
  · rw [if_pos he] at hR
    have hok : ∀ (a b : IV), (a, b) ∈ enW W → keyOK Tryd.prog 91 [.int .i64, .int .i64] a = true := fun a b h => ok_w W (a, b) h
    have hmg := mget_w q i W
    unfold winV at hR
    generalize aget (q, i) W = A at *
    cases A with
    | none =>
      simp [go_sem, hmg]
      refine ⟨fun a b h => by simpa [go_sem, keyOK] using hok a b h, ?_⟩
      exact hR _ _ _ rfl (by simp [go_sem])
    | some v =>
      obtain ⟨w1, w2⟩ := v
      simp [go_sem, hmg, mkP]
      refine ⟨fun a b h => by simpa [go_sem, keyOK] using hok a b h, ?_⟩
      exact hR _ _ _ rfl (by simp [go_sem])
  · rw [if_neg he] at hR
    simp [go_sem]
    exact hR _ _ _ rfl (by simp [go_sem])

/-- One match of a path. -/
def ptS (S : List Int) (d : Int) (q i : Nat) (z : Won × List Mt) : Won × List Mt :=
  if (sidW S z.1 q i).2.1 = 0 then z
  else (aset ((q : Int), (i : Int)) (if (sidW S z.1 q i).2.1 < (sidW S z.1 q i).1 then (sidW S z.1 q i).2.1 else (sidW S z.1 q i).1, if (sidW S z.1 q i).1 < (sidW S z.1 q i).2.1 then (sidW S z.1 q i).2.1 else (sidW S z.1 q i).1) z.1,
    if (sidW S z.1 q i).1 = d ∨ (sidW S z.1 q i).2.1 = d then z.2 ++ [⟨q, i, (sidW S z.1 q i).1, (sidW S z.1 q i).2.1⟩] else z.2)
def ptI (S : List Int) (d : Int) (q : Nat) : Nat → Won × List Mt → Won × List Mt
  | 0, z => z
  | i + 1, z => ptS S d q i (ptI S d q i z)
def ptQ (r : Nat) (S : List Int) (d : Int) : Nat → Won × List Mt → Won × List Mt
  | 0, z => z
  | q + 1, z => ptI S d q (matN r q) (ptQ r S d q z)
theorem ptI_len (S : List Int) (d : Int) (q : Nat) (z : Won × List Mt) : ∀ i, (ptI S d q i z).2.length ≤ z.2.length + i
  | 0 => by simp [ptI]
  | i + 1 => by
    have := ptI_len S d q z i
    simp only [ptI, ptS]
    split
    · omega
    · simp only
      split
      · simp; omega
      · omega
theorem ptQ_len {r : Nat} (hr : r ≤ 6) (S : List Int) (d : Int) (z : Won × List Mt) : ∀ q, (ptQ r S d q z).2.length ≤ z.2.length + 32 * q
  | 0 => by simp [ptQ]
  | q + 1 => by
    have h1 := ptQ_len hr S d z q
    have h2 := ptI_len S d q (ptQ r S d q z) (matN r q)
    have h3 := (matN_le hr (q : Int)).1
    simp only [ptQ]
    omega
def pathL (n : Nat) (d : Int) : List Mt := (ptQ (rnd n) (seedsL n) d (rnd n) (beg n, [])).2
theorem pathN_fun (n d : Int) (h : ¬ (2 ≤ n ∧ n ≤ 64)) : FN 14 [.int .i64 n, .int .i64 d] (fun v => v = .tup [.fz 4 [], .int .i64 380]) := by
  refine IFun.of_bodyZ false 13 [15, 22, 28, 29, 30, 34, 35, 36, 47, 69] Tryd.func14 rfl Tryd.call14 rfl fun R hR => ?_
  have ct := teams38_fun n
  simp [go_sem]
  refine ct.callF (by simp [go_sem]) ?_
  rintro _ rfl
  by_cases h1 : 2 ≤ n
  · have h2 : ¬ n ≤ 64 := by omega
    have h2' : 64 < n := by omega
    have h1' : ¬ n < 2 := by omega
    simp [go_sem, h1, h2, h2', h1']
    exact hR _ _ _ rfl (by simp [go_sem])
  · have h1' : n < 2 := by omega
    simp [go_sem, h1, h1']
    exact hR _ _ _ rfl (by simp [go_sem])
theorem path_none (n d : Int) (h1 : 2 ≤ n ∧ n ≤ 64) (h : ¬ (1 ≤ d ∧ d ≤ n)) : FN 14 [.int .i64 n, .int .i64 d] (fun v => v = .tup [.fz 4 [], .int .i64 6]) := by
  refine IFun.of_bodyZ false 13 [15, 22, 28, 29, 30, 34, 35, 36, 47, 69] Tryd.func14 rfl Tryd.call14 rfl fun R hR => ?_
  have ct := teams38_fun n
  have g1 : ¬ n < 2 := by omega
  have g2 : ¬ 64 < n := by omega
  simp [go_sem]
  refine ct.callF (by simp [go_sem]) ?_
  rintro _ rfl
  simp [go_sem, g1, g2]
  by_cases h1 : d < 1
  · simp [go_sem, h1]
    exact hR _ _ _ rfl (by simp [go_sem])
  · have h2 : n < d := by omega
    simp [go_sem, h1, h2]
    exact hR _ _ _ rfl (by simp [go_sem])
theorem path_fun (n : Nat) (d : Int) (h1 : 2 ≤ n) (h2 : n ≤ 64) (hd : 1 ≤ d ∧ d ≤ n) : FN 14 [.int .i64 (n : Int), .int .i64 d] (fun v => v = .tup [.fz 4 (mts (pathL n d)), .int .i64 0]) := by
  refine IFun.of_bodyZ false 13 [15, 22, 28, 29, 30, 34, 35, 36, 47, 69] Tryd.func14 rfl Tryd.call14 rfl fun R hR => ?_
  have ct := teams38_fun n
  have cb := begin_calls n h1 h2
  obtain ⟨r1, r2⟩ := rnd_bd h1
  have hSl := seedsL_len n
  unfold pathL at hR
  generalize beg n = W0 at *
  generalize seedsL n = S at *
  generalize rnd n = r at *
  have g1 : ¬ (n : Int) < 2 := by omega
  have g2 : ¬ 64 < (n : Int) := by omega
  have g3 : ¬ d < 1 := by omega
  have g4 : ¬ (n : Int) < d := by omega
  unfold evH evRow at cb
  simp [go_sem]
  refine ct.callF (by simp [go_sem]) ?_
  rintro _ rfl
  simp [go_sem, g1, g2, g3, g4]
  refine cb.at [] (by simp [go_sem]) ?_
  rintro _ _ ⟨rfl, rfl⟩
  simp [go_sem]
  refine IWp.ownNilS 4 7 (by decide) rfl ?_
  refine IWp.loopT (α := Nat) (fun q => (⟨false, 81, 13, [15, 22, 28, 29, 30, 34, 35, 36, 47, 69], glT, [(1, .int .i64 d), (6, .ptr 1 1 0 0), (7, .sl 2 (ptQ r S d q (W0, [])).2.length 0 (ptQ r S d q (W0, [])).2.length none), (28, .int .i64 (r : Int)), (29, .int .i64 (q : Int))], []⟩, [.map (enW (ptQ r S d q (W0, [])).1), .rows 3 [[.int .i64 r, .fz 1 (ints S), .map 0]], .rows 4 (mts (ptQ r S d q (W0, [])).2)]))
      (fun q => q ≤ r) (fun q => r - q) 0 (by simp) (by simp [go_sem, ptQ]) ?_
  intro q hq
  have hzl := ptQ_len r2 S d (W0, []) q
  by_cases h : q < r
  · have hmat := (matN_le r2 (q : Int)).1
    have v0 : IntKind.i64.wrap ((q : Int) + 1) = ((q + 1 : Nat) : Int) := by rw [wrap64 (by omega) (by omega)]; omega
    have hsq : ptQ r S d (q + 1) (W0, []) = ptI S d q (matN r q) (ptQ r S d q (W0, [])) := rfl
    have hq1 : ptI S d q 0 (ptQ r S d q (W0, [])) = ptQ r S d q (W0, []) := rfl
    obtain ⟨Z, hZ⟩ : ∃ Z, ptQ r S d q (W0, []) = Z := ⟨_, rfl⟩
    rw [hZ] at hsq hq1 hzl ⊢
    obtain ⟨M, hM⟩ : ∃ M, matN r q = M := ⟨_, rfl⟩
    rw [hM] at hmat hsq
    simp only [List.length_nil, Nat.zero_add] at hzl
    simp [go_sem, h]
    refine (matches_reads r S 0 1 q r2 _ rfl).mono ?_
    rintro _ _ ⟨rfl, rfl⟩
    simp [go_sem, hM]
    refine IWp.loopT (α := Nat) (fun i => (⟨false, 81, 13, [15, 22, 28, 29, 30, 34, 35, 36, 47, 69], glT, [(1, .int .i64 d), (6, .ptr 1 1 0 0), (7, .sl 2 (ptI S d q i Z).2.length 0 (ptI S d q i Z).2.length none), (8, .int .i64 (q : Int)), (28, .int .i64 (r : Int)), (29, .int .i64 (q : Int)), (34, .int .i64 (M : Nat)), (35, .int .i64 (i : Int))], []⟩, [.map (enW (ptI S d q i Z).1), .rows 3 [[.int .i64 r, .fz 1 (ints S), .map 0]], .rows 4 (mts (ptI S d q i Z).2)]))
      (fun i => i ≤ M) (fun i => M - i) 0 (by simp) (by simp [go_sem, hq1]) ?_
    intro i hi
    by_cases hi' : i < M
    · have v1 : IntKind.i64.wrap ((i : Int) + 1) = ((i + 1 : Nat) : Int) := by rw [wrap64 (by omega) (by omega)]; omega
      have hTl := ptI_len S d q Z i
      have hs : ptI S d q (i + 1) Z = ptS S d q i (ptI S d q i Z) := rfl
      generalize ptI S d q i Z = T at *
      obtain ⟨W, T⟩ := T
      have cS := sides_calls r S W q i (by omega) (by omega) (fun h0 => by
        subst h0
        have hp : 2 ^ r = 2 * 2 ^ (r - 1) := by rw [← Nat.pow_succ']; congr 1; omega
        have := mat_first r1
        rw [show ((0 : Nat) : Int) = 0 from rfl] at hM
        omega)
      have hok : ∀ (a b : IV), (a, b) ∈ enW W → keyOK Tryd.prog 91 [.int .i64, .int .i64] a = true := fun a b h => ok_w W (a, b) h
      have hms := fun c d => mset_w q i c d W
      unfold ptS at hs
      unfold evH evRow at cS
      simp only at hs hTl
      generalize sidW S W q i = sd at *
      obtain ⟨sa, sb, so⟩ := sd
      simp only at hs cS
      simp [go_sem, hi']
      refine cS.at [0, 1] (by simp [go_sem]) ?_
      rintro _ _ ⟨rfl, rfl⟩
      by_cases hb : sb = 0
      · rw [if_pos hb] at hs
        simp [go_sem, hb]
        exact ⟨i + 1, ⟨⟨by rw [hs], v1⟩, by rw [hs], by rw [hs]⟩, by omega, by omega⟩
      · rw [if_neg hb] at hs
        have hm := hms (if sb < sa then sb else sa) (if sa < sb then sb else sa)
        by_cases ha : sa = d ∨ sb = d
        · rw [if_pos ha] at hs
          by_cases ha1 : sa = d
          · subst ha1
            simp [go_sem, hb]
            refine ⟨fun a b h => by simpa [go_sem, keyOK] using hok a b h, ?_⟩
            exact ⟨by omega, i + 1, ⟨⟨by rw [hs]; simp, v1⟩, by rw [hs]; exact hm.symm, by rw [hs]; simp [mts_snoc]⟩, by omega, by omega⟩
          · have ha2 : sb = d := by omega
            subst ha2
            simp [go_sem, hb, ha1]
            refine ⟨fun a b h => by simpa [go_sem, keyOK] using hok a b h, ?_⟩
            exact ⟨by omega, i + 1, ⟨⟨by rw [hs]; simp, v1⟩, by rw [hs]; exact hm.symm, by rw [hs]; simp [mts_snoc]⟩, by omega, by omega⟩
        · rw [if_neg ha] at hs
          have ha1 : ¬ sa = d := fun h => ha (.inl h)
          have ha2 : ¬ sb = d := fun h => ha (.inr h)
          simp [go_sem, hb, ha1, ha2]
          refine ⟨fun a b h => by simpa [go_sem, keyOK] using hok a b h, ?_⟩
          exact ⟨i + 1, ⟨⟨by rw [hs], v1⟩, by rw [hs]; exact hm.symm, by rw [hs]⟩, by omega, by omega⟩
    · obtain rfl : i = M := by omega
      simp [go_sem]
      exact ⟨q + 1, ⟨⟨by rw [hsq], v0⟩, by rw [hsq], by rw [hsq]⟩, by omega, by omega⟩
  · obtain rfl : q = r := by omega
    simp [go_sem]
    exact hR _ _ _ rfl (by simp [go_sem])
end Go.Idl
