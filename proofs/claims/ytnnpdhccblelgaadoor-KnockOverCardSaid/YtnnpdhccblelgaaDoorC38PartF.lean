/-
  Chapter 38: matches, results; Rounds, Bracket.
  Chapter 38: the event: matches, sides, begin.
-/
import Derived.Test.YtnnpdhccblelgaaDoorC38PartC
import Derived.Test.YtnnpdhccblelgaaDoorC38PartD
import Derived.Test.YtnnpdhccblelgaaDoorC38PartB
namespace Go.Idl
set_option linter.all false
open Go.Proofs
set_option maxHeartbeats 16000000
set_option maxRecDepth 40000

structure Mt where
  r : Int
  i : Int
  a : Int
  b : Int
  deriving DecidableEq
def Mt.c (x : Mt) : List IV := [.int .i64 x.r, .int .i64 x.i, .int .i64 x.a, .int .i64 x.b]
def Mt.v (x : Mt) : IV := .agg [.int .i64 x.r, .int .i64 x.i, .int .i64 x.a, .int .i64 x.b]
def mts (l : List Mt) : List (List IV) := mp Mt.c l
@[simp] theorem mts_length (l : List Mt) : (mts l).length = l.length := mp_length
@[simp] theorem mts_getElem (l : List Mt) (i : Nat) (h : i < (mts l).length) : (mts l)[i] = [.int .i64 (l[i]'(by simpa using h)).r, .int .i64 (l[i]'(by simpa using h)).i, .int .i64 (l[i]'(by simpa using h)).a, .int .i64 (l[i]'(by simpa using h)).b] := by simp [mts, mp, Mt.c]
theorem mts_snoc {l : List Mt} {x : Mt} : mts (l ++ [x]) = mts l ++ [[.int .i64 x.r, .int .i64 x.i, .int .i64 x.a, .int .i64 x.b]] := mp_snoc
theorem mts_cons {l : List Mt} {x : Mt} : mts (x :: l) = [.int .i64 x.r, .int .i64 x.i, .int .i64 x.a, .int .i64 x.b] :: mts l := rfl
@[go_sem] theorem mts_nil : mts [] = [] := rfl
@[go_sem] theorem ScR_mts {l : List Mt} : ScR (mts l) = True := eq_true (mp_sc (by simp [scal, Mt.c]))
@[go_sem] theorem ClR_mts {l : List Mt} : ClR (mts l) = True := eq_true (ScR.cl (mp_sc (by simp [scal, Mt.c])))
@[go_sem] theorem BlR_mts {n : Nat} {l : List Mt} : BlR n (mts l) = True := eq_true (ScR.bl (mp_sc (by simp [scal, Mt.c])))
/-- A result. -/
structure Rs where
  r : Int
  i : Int
  a : Int
  b : Int
  f : Frc
  deriving DecidableEq
def Rs.c (x : Rs) : List IV := [.int .i64 x.r, .int .i64 x.i, .int .i64 x.a, .int .i64 x.b, .int .i64 x.f.num, .int .i64 x.f.den]
def Rs.v (x : Rs) : IV := .agg [.int .i64 x.r, .int .i64 x.i, .int .i64 x.a, .int .i64 x.b, .int .i64 x.f.num, .int .i64 x.f.den]
def rss (l : List Rs) : List (List IV) := mp Rs.c l
@[simp] theorem rss_length (l : List Rs) : (rss l).length = l.length := mp_length
@[simp] theorem rss_getElem (l : List Rs) (i : Nat) (h : i < (rss l).length) : (rss l)[i] = [.int .i64 (l[i]'(by simpa using h)).r, .int .i64 (l[i]'(by simpa using h)).i, .int .i64 (l[i]'(by simpa using h)).a, .int .i64 (l[i]'(by simpa using h)).b, .int .i64 (l[i]'(by simpa using h)).f.num, .int .i64 (l[i]'(by simpa using h)).f.den] := by simp [rss, mp, Rs.c]
theorem rss_snoc {l : List Rs} {x : Rs} : rss (l ++ [x]) = rss l ++ [[.int .i64 x.r, .int .i64 x.i, .int .i64 x.a, .int .i64 x.b, .int .i64 x.f.num, .int .i64 x.f.den]] := mp_snoc
theorem rss_cons {l : List Rs} {x : Rs} : rss (x :: l) = [.int .i64 x.r, .int .i64 x.i, .int .i64 x.a, .int .i64 x.b, .int .i64 x.f.num, .int .i64 x.f.den] :: rss l := rfl
@[go_sem] theorem rss_nil : rss [] = [] := rfl
@[go_sem] theorem ScR_rss {l : List Rs} : ScR (rss l) = True := eq_true (mp_sc (by simp [scal, Rs.c]))
@[go_sem] theorem ClR_rss {l : List Rs} : ClR (rss l) = True := eq_true (ScR.cl (mp_sc (by simp [scal, Rs.c])))
@[go_sem] theorem BlR_rss {n : Nat} {l : List Rs} : BlR n (rss l) = True := eq_true (ScR.bl (mp_sc (by simp [scal, Rs.c])))
/-- A result of match i of round q. -/
def isM (q i : Nat) (x : Rs) : Bool := decide (x.r = (q : Int) ∧ x.i = (i : Int))
theorem roundsN_fun (n : Int) (h : ¬ (2 ≤ n ∧ n ≤ 64)) : FN 12 [.int .i64 n] (fun v => v = .tup [.int .i64 0, .int .i64 380]) := by
  refine IFun.of_bodyZ false 4 [6] Tryd.func12 rfl Tryd.call12 rfl fun R hR => ?_
  simp [go_sem]
  refine (teamsN h).callF (by simp [go_sem]) ?_
  rintro _ rfl
  simp [go_sem]
  exact hR _ _ _ rfl (by simp [go_sem])
theorem roundsY_fun (n : Nat) (h1 : 2 ≤ n) (h2 : n ≤ 64) : FN 12 [.int .i64 (n : Int)] (fun v => v = .tup [.int .i64 (rnd n), .int .i64 0]) := by
  refine IFun.of_bodyZ false 4 [6] Tryd.func12 rfl Tryd.call12 rfl fun R hR => ?_
  have cr := rounds38_fun n (by omega) h2
  simp [go_sem]
  refine (teamsB h1 h2).callF (by simp [go_sem]) ?_
  rintro _ rfl
  simp [go_sem]
  refine cr.callF (by simp [go_sem]) ?_
  rintro _ rfl
  simp [go_sem]
  exact hR _ _ _ rfl (by simp [go_sem])
/-- The matches of the first round. -/
def brkT (S : List Int) (k : Nat) : List Mt := (List.range k).map fun i : Nat => ⟨0, i, S.getD (2 * i) 0, S.getD (2 * i + 1) 0⟩
theorem brkT_succ (S : List Int) (k : Nat) : brkT S (k + 1) = brkT S k ++ [⟨0, k, S.getD (2 * k) 0, S.getD (2 * k + 1) 0⟩] := by simp [brkT, List.range_succ]
@[simp] theorem brkT_length (S : List Int) (k : Nat) : (brkT S k).length = k := by simp [brkT]
def brkL (n : Nat) : List Mt := brkT (seedsL n) (2 ^ (rnd n - 1))
theorem bracketN_fun (n : Int) (h : ¬ (2 ≤ n ∧ n ≤ 64)) : FN 13 [.int .i64 n] (fun v => v = .tup [.fz 4 [], .int .i64 380]) := by
  refine IFun.of_bodyZ false 8 [14, 18, 19, 20] Tryd.func13 rfl Tryd.call13 rfl fun R hR => ?_
  simp [go_sem]
  refine (seedsN_fun n h).callF (by simp [go_sem]) ?_
  rintro _ rfl
  simp [go_sem]
  exact hR _ _ _ rfl (by simp [go_sem])
theorem bracket_fun (n : Nat) (h1 : 2 ≤ n) (h2 : n ≤ 64) : FN 13 [.int .i64 (n : Int)] (fun v => v = .tup [.fz 4 (mts (brkL n)), .int .i64 0]) := by
  refine IFun.of_bodyZ false 8 [14, 18, 19, 20] Tryd.func13 rfl Tryd.call13 rfl fun R hR => ?_
  have cs := seeds_fun n h1 h2
  have hl := seedsL_len n
  obtain ⟨r1, r2⟩ := rnd_bd h1
  have hp : 2 ^ rnd n = 2 * 2 ^ (rnd n - 1) := by rw [← Nat.pow_succ']; congr 1; omega
  have hp6 : 2 ^ (rnd n - 1) ≤ 2 ^ 5 := Nat.pow_le_pow_right (by decide) (by omega)
  rw [hp] at hl
  unfold brkL at hR
  generalize 2 ^ (rnd n - 1) = P at *
  generalize seedsL n = S at *
  have t2 : (2 * (P : Int)).tdiv 2 = P := by rw [Int.tdiv_eq_ediv_of_nonneg (by omega)]; omega
  have hlI : (S.length : Int) = 2 * P := by omega
  have w0 : IntKind.i64.wrap (P : Int) = P := wrap64 (by omega) (by omega)
  simp [go_sem]
  refine cs.callF (by simp [go_sem]) ?_
  rintro _ rfl
  simp [go_sem, hlI, t2, w0]
  refine IWp.ownNilS 4 6 (by decide) rfl ?_
  refine IWp.loopT (α := Nat) (fun i => (⟨false, 40, 8, [14, 18, 19, 20], glT, [(2, .nils), (3, .int .i64 0), (4, .fz 1 (ints S)), (6, .sl 0 i 0 i none), (18, .int .i64 (P : Int)), (19, .int .i64 (i : Int))], []⟩, [.rows 4 (mts (brkT S i))]))
    (fun i => i ≤ P) (fun i => P - i) 0 (by simp) (by simp [go_sem, brkT]) ?_
  intro i hi
  have hbl := brkT_length S i
  by_cases h : i < P
  · have h' : (i : Int) < P := by omega
    have v1 : IntKind.i64.wrap ((i : Int) + 1) = i + 1 := wrap64 (by omega) (by omega)
    have v2 : IntKind.i64.wrap (2 * (i : Int)) = ((2 * i : Nat) : Int) := by rw [wrap64 (by omega) (by omega)]; simp
    have v3 : IntKind.i64.wrap (((2 * i : Nat) : Int) + 1) = ((2 * i + 1 : Nat) : Int) := by rw [wrap64 (by omega) (by omega)]; simp
    have hs := brkT_succ S i
    have j1 : 2 * i < S.length := by omega
    have j2 : 2 * i + 1 < S.length := by omega
    have x1 : S[2 * i] = S.getD (2 * i) 0 := by simp [j1]
    have x2 : S[2 * i + 1] = S.getD (2 * i + 1) 0 := by simp [j2]
    have q1 := ints_q38 j1 x1
    have q2 := ints_q38 j2 x2
    obtain ⟨a, ha⟩ : ∃ a, S.getD (2 * i) 0 = a := ⟨_, rfl⟩
    obtain ⟨b, hb⟩ : ∃ b, S.getD (2 * i + 1) 0 = b := ⟨_, rfl⟩
    rw [ha] at x1 q1 hs
    rw [hb] at x2 q2 hs
    obtain ⟨J2, hJ2⟩ : ∃ J, 2 * i + 1 = J := ⟨_, rfl⟩
    obtain ⟨J1, hJ1⟩ : ∃ J, 2 * i = J := ⟨_, rfl⟩
    simp only [hJ2] at j2 x2 q2 v3
    simp only [hJ1] at j1 x1 q1 v2 v3
    generalize brkT S i = T at *
    simp [go_sem, h, h', v1, v2, v3, j1, j2, x1, x2, q1, q2]
    exact ⟨⟨by omega, by omega⟩, by decide +kernel, i + 1, ⟨⟨rfl, by omega⟩, by rw [hs, mts_snoc]⟩, by omega, by omega⟩
  · obtain rfl : i = P := by omega
    generalize brkT S i = T at *
    simp [go_sem]
    exact hR _ _ _ rfl (by simp [go_sem, hbl])
end Go.Idl
namespace Go.Idl
set_option linter.all false
open Go.Proofs
set_option maxHeartbeats 16000000
set_option maxRecDepth 40000

/-- Who has won and who has lost, by round and index. -/
abbrev Won := List ((Int × Int) × (Int × Int))
def mkP (v : Int × Int) : IV := .agg [.int .i64 v.1, .int .i64 v.2]
def enW (W : Won) : List (IV × IV) := enM k2 mkP W
theorem mget_w (a b : Int) (W : Won) : mget (.agg [.int .i64 a, .int .i64 b]) (enW W) = (aget (a, b) W).map mkP := mget_en (kf := k2) keP (a, b) W
theorem mset_w (a b c d : Int) (W : Won) : mset (.agg [.int .i64 a, .int .i64 b]) (.agg [.int .i64 c, .int .i64 d]) (enW W) = enW (aset (a, b) (c, d) W) := mset_en (kf := k2) (vf := mkP) keP (a, b) (c, d) W
@[go_sem] theorem bl_w {n : Nat} {W : Won} : BlM n (enW W) = True := eq_true (en_bl (fun a => by simp [go_sem, k2]) (fun b => by simp [go_sem, mkP]) W)
@[go_sem] theorem enW_nil : enW [] = [] := rfl
theorem ok_w (W : Won) : ∀ e ∈ enW W, keyOK Tryd.prog 91 [.int .i64, .int .i64] e.1 = true := en_ok (fun a => by simp [go_sem, keyOK, k2]) W
@[go_sem] theorem ren_w {π : Nat → Nat} {W : Won} : renM π (enW W) = enW W := renM_cl fun e he => by
  simp only [enW, enM, List.mem_map] at he
  obtain ⟨p, _, rfl⟩ := he
  refine ⟨?_, ?_⟩
  · simp only [k2]; exact .agg _ fun j c h => by
      have := List.mem_of_getElem? h; simp at this; rcases this with rfl | rfl <;> exact .int _ _
  · simp only [mkP]; exact .agg _ fun j c h => by
      have := List.mem_of_getElem? h; simp at this; rcases this with rfl | rfl <;> exact .int _ _
/-- How many matches a round has. -/
def matN (r : Nat) (q : Int) : Nat := if 0 ≤ q ∧ q < r then 2 ^ (r - 1 - q.toNat) else 0
def evRow (r : Nat) (S : List Int) (m : Nat) : IObj := .rows 3 [[.int .i64 r, .fz 1 (ints S), .map m]]
theorem matches_reads (r : Nat) (S : List Int) (m b : Nat) (q : Int) (hr : r ≤ 6) (H : Heap) (hb : H[b]? = some (evRow r S m)) : ICalls Tryd.prog glT 45 [.ptr b 1 0 0, .int .i64 q] H (fun v σ => v = .int .i64 (matN r q) ∧ σ = H) := by
  refine ICalls.of_bodyE false 5 [14] Tryd.func45 rfl Tryd.call45 rfl fun R hR => ?_
  unfold evRow at hb
  by_cases h1 : q < 0
  · have e : matN r q = 0 := by unfold matN; rw [if_neg (by omega)]
    rw [e] at hR
    simp [go_sem, h1, hb]
    exact hR _ _ ⟨rfl, rfl⟩
  · by_cases h2 : (r : Int) ≤ q
    · have e : matN r q = 0 := by unfold matN; rw [if_neg (by omega)]
      rw [e] at hR
      simp [go_sem, h1, h2, hb]
      exact hR _ _ ⟨rfl, rfl⟩
    · have e : matN r q = 2 ^ (r - 1 - q.toNat) := by unfold matN; rw [if_pos (by omega)]
      obtain ⟨k, hk⟩ : ∃ k, r - 1 - q.toNat = k := ⟨_, rfl⟩
      rw [hk] at e
      rw [e] at hR
      have w1 : IntKind.i64.wrap ((r : Int) - 1) = r - 1 := wrap64 (by omega) (by omega)
      have w2 : IntKind.i64.wrap ((r : Int) - 1 - q) = k := by rw [wrap64 (by omega) (by omega)]; omega
      have hk6 : k < 6 := by omega
      have w3 : IntKind.i64.wrap (2 ^ min k 64) = ((2 ^ k : Nat) : Int) := by
        rcases (by omega : k = 0 ∨ k = 1 ∨ k = 2 ∨ k = 3 ∨ k = 4 ∨ k = 5) with rfl | rfl | rfl | rfl | rfl | rfl <;> decide
      rw [← w3] at hR
      simp [go_sem, h1, h2, hb, w1, w2]
      exact hR _ _ ⟨rfl, rfl⟩
def evH (r : Nat) (S : List Int) (W : Won) : Heap := [.map (enW W), evRow r S 0]
/-- The two sides of a match, and whether both are known. -/
def sidW (S : List Int) (W : Won) (q i : Nat) : Int × Int × Bool :=
  if q = 0 then (S.getD (2 * i) 0, S.getD (2 * i + 1) 0, true)
  else (((aget ((q : Int) - 1, 2 * (i : Int)) W).getD (0, 0)).1, ((aget ((q : Int) - 1, 2 * (i : Int) + 1) W).getD (0, 0)).1, (aget ((q : Int) - 1, 2 * (i : Int)) W).isSome && (aget ((q : Int) - 1, 2 * (i : Int) + 1) W).isSome)
theorem sides_calls (r : Nat) (S : List Int) (W : Won) (q i : Nat) (hq : q ≤ 10) (hi : i ≤ 100) (hS : q = 0 → 2 * i + 1 < S.length) : ICalls Tryd.prog glT 46 [.ptr 1 1 0 0, .int .i64 (q : Int), .int .i64 (i : Int)] (evH r S W)
    (fun v σ => v = .tup [.int .i64 (sidW S W q i).1, .int .i64 (sidW S W q i).2.1, .bool (sidW S W q i).2.2] ∧ σ = evH r S W) := by
  refine ICalls.forget (ICalls.of_bodyE false 13 [14] Tryd.func46 rfl Tryd.call46 rfl fun R hR => ?_)
  have hok : ∀ (a b : IV), (a, b) ∈ enW W → keyOK Tryd.prog 91 [.int .i64, .int .i64] a = true := fun a b h => ok_w W (a, b) h
  unfold evH evRow at *
  have v2 : IntKind.i64.wrap (2 * (i : Int)) = 2 * i := wrap64 (by omega) (by omega)
  have v3 : IntKind.i64.wrap (2 * (i : Int) + 1) = 2 * i + 1 := wrap64 (by omega) (by omega)
  by_cases h0 : q = 0
  · have hl := hS h0
    have e : sidW S W q i = (S.getD (2 * i) 0, S.getD (2 * i + 1) 0, true) := by unfold sidW; rw [if_pos h0]
    rw [e] at hR
    have j1 : 2 * i < S.length := by omega
    have x1 : S[2 * i] = S.getD (2 * i) 0 := by simp [j1]
    have x2 : S[2 * i + 1] = S.getD (2 * i + 1) 0 := by simp [hl]
    have q1 := ints_q38 j1 x1
    have q2 := ints_q38 hl x2
    have v2' : IntKind.i64.wrap (2 * (i : Int)) = ((2 * i : Nat) : Int) := by rw [v2]; simp
    have v3' : IntKind.i64.wrap (((2 * i : Nat) : Int) + 1) = ((2 * i + 1 : Nat) : Int) := by rw [wrap64 (by omega) (by omega)]; simp
    clear v2 v3
    generalize S.getD (2 * i) 0 = a at *
    generalize S.getD (2 * i + 1) 0 = b at *
    obtain ⟨J2, hJ2⟩ : ∃ J, 2 * i + 1 = J := ⟨_, rfl⟩
    obtain ⟨J1, hJ1⟩ : ∃ J, 2 * i = J := ⟨_, rfl⟩
    simp only [hJ2] at hl x2 q2 v3'
    simp only [hJ1] at j1 x1 q1 v2' v3'
    subst h0
    simp [go_sem, v2', v3', j1, hl, x1, x2, q1, q2]
    refine ⟨by decide +kernel, ?_⟩
    refine hR _ _ ⟨_, ?_, rfl, rfl⟩
    simp [go_sem]
  · have h0' : ¬ (q : Int) = 0 := by omega
    have v1 : IntKind.i64.wrap ((q : Int) - 1) = q - 1 := wrap64 (by omega) (by omega)
    have g1 := mget_w ((q : Int) - 1) (2 * (i : Int)) W
    have g2 := mget_w ((q : Int) - 1) (2 * (i : Int) + 1) W
    have e : sidW S W q i = (((aget ((q : Int) - 1, 2 * (i : Int)) W).getD (0, 0)).1, ((aget ((q : Int) - 1, 2 * (i : Int) + 1) W).getD (0, 0)).1, (aget ((q : Int) - 1, 2 * (i : Int)) W).isSome && (aget ((q : Int) - 1, 2 * (i : Int) + 1) W).isSome) := by unfold sidW; rw [if_neg h0]
    rw [e] at hR
    generalize aget ((q : Int) - 1, 2 * (i : Int)) W = A at *
    generalize aget ((q : Int) - 1, 2 * (i : Int) + 1) W = B at *
    cases A with
    | none =>
      cases B with
      | none =>
        simp [go_sem, h0, h0', v1, v2, v3, g1, g2]
        refine ⟨fun a b h => by simpa [go_sem, keyOK] using hok a b h, by decide +kernel, hR _ _ ⟨_, ?_, rfl, rfl⟩⟩
        simp [go_sem]
      | some b =>
        obtain ⟨b1, b2⟩ := b
        simp [go_sem, h0, h0', v1, v2, v3, g1, g2, mkP]
        refine ⟨fun a b h => by simpa [go_sem, keyOK] using hok a b h, by decide +kernel, hR _ _ ⟨_, ?_, rfl, rfl⟩⟩
        simp [go_sem]
    | some a =>
      obtain ⟨a1, a2⟩ := a
      cases B with
      | none =>
        simp [go_sem, h0, h0', v1, v2, v3, g1, g2, mkP]
        refine ⟨fun a b h => by simpa [go_sem, keyOK] using hok a b h, by decide +kernel, hR _ _ ⟨_, ?_, rfl, rfl⟩⟩
        simp [go_sem]
      | some b =>
        obtain ⟨b1, b2⟩ := b
        simp [go_sem, h0, h0', v1, v2, v3, g1, g2, mkP]
        refine ⟨fun a b h => by simpa [go_sem, keyOK] using hok a b h, by decide +kernel, hR _ _ ⟨_, ?_, rfl, rfl⟩⟩
        simp [go_sem]
def begW (S : List Int) : Nat → Won
  | 0 => []
  | k + 1 => if S.getD (2 * k + 1) 0 = 0 then aset (0, (k : Int)) (S.getD (2 * k) 0, 0) (begW S k) else begW S k
def beg (n : Nat) : Won := begW (seedsL n) (2 ^ (rnd n - 1))
theorem mat_first {r : Nat} (h : 1 ≤ r) : matN r 0 = 2 ^ (r - 1) := by unfold matN; rw [if_pos (by omega)]; rfl
theorem begin_calls (n : Nat) (h1 : 2 ≤ n) (h2 : n ≤ 64) : ICalls Tryd.prog glT 44 [.int .i64 (n : Int)] [] (fun v σ => v = .ptr 1 1 0 0 ∧ σ = evH (rnd n) (seedsL n) (beg n)) := by
  refine ICalls.forget (ICalls.of_bodyE false 10 [22, 23, 24, 34] Tryd.func44 rfl Tryd.call44 rfl fun R hR => ?_)
  have cs := seeds_fun n h1 h2
  have cr := rounds38_fun n (by omega) h2
  have hl := seedsL_len n
  obtain ⟨r1, r2⟩ := rnd_bd h1
  have hp : 2 ^ rnd n = 2 * 2 ^ (rnd n - 1) := by rw [← Nat.pow_succ']; congr 1; omega
  have hp6 : 2 ^ (rnd n - 1) ≤ 2 ^ 5 := Nat.pow_le_pow_right (by decide) (by omega)
  have hmat := mat_first r1
  rw [hp] at hl
  unfold beg at hR
  generalize 2 ^ (rnd n - 1) = P at *
  generalize seedsL n = S at *
  generalize rnd n = r at *
  have hok : ∀ (W : Won) (a b : IV), (a, b) ∈ enW W → keyOK Tryd.prog 91 [.int .i64, .int .i64] a = true := fun W a b h => ok_w W (a, b) h
  simp [go_sem]
  refine cs.callF (by simp [go_sem]) ?_
  rintro _ rfl
  simp [go_sem]
  refine cr.callF (by simp [go_sem]) ?_
  rintro _ rfl
  simp [go_sem]
  refine (matches_reads r S 0 1 0 (by omega) _ rfl).mono ?_
  rintro _ _ ⟨rfl, rfl⟩
  simp [go_sem, hmat]
  refine IWp.loopT (α := Nat) (fun i => (⟨false, 45, 10, [22, 23, 24, 34], glT, [(2, .nilp), (5, .ptr 1 1 0 0), (22, .int .i64 (P : Int)), (23, .int .i64 (i : Int))], []⟩, evH r S (begW S i)))
    (fun i => i ≤ P) (fun i => P - i) 0 (by simp) (by simp [go_sem, evH, evRow, begW]) ?_
  intro i hi
  by_cases h : i < P
  · have h' : (i : Int) < P := by omega
    have v1 : IntKind.i64.wrap ((i : Int) + 1) = i + 1 := wrap64 (by omega) (by omega)
    have hs : begW S (i + 1) = if S.getD (2 * i + 1) 0 = 0 then aset (0, (i : Int)) (S.getD (2 * i) 0, 0) (begW S i) else begW S i := rfl
    have csd := sides_calls r S (begW S i) 0 i (by omega) (by omega) (fun _ => by omega)
    have e : sidW S (begW S i) 0 i = (S.getD (2 * i) 0, S.getD (2 * i + 1) 0, true) := by unfold sidW; rw [if_pos rfl]
    rw [e] at csd
    have hm := mset_w 0 (i : Int) (S.getD (2 * i) 0) 0 (begW S i)
    have hokW := hok (begW S i)
    generalize S.getD (2 * i) 0 = a at *
    generalize S.getD (2 * i + 1) 0 = b at *
    obtain ⟨W, hW⟩ : ∃ W, begW S i = W := ⟨_, rfl⟩
    rw [hW] at hs csd hm hokW ⊢
    simp only [evH, evRow] at csd ⊢
    simp [go_sem, h, h']
    refine csd.at [0, 1] (by simp [go_sem]) ?_
    rintro _ _ ⟨rfl, rfl⟩
    by_cases hb : b = 0
    · rw [if_pos hb] at hs
      simp [go_sem, hb, v1, hm]
      exact ⟨fun a b h => by simpa [go_sem, keyOK] using hokW a b h, i + 1, ⟨by omega, by rw [hs]⟩, by omega, by omega⟩
    · rw [if_neg hb] at hs
      simp [go_sem, hb, v1]
      exact ⟨i + 1, ⟨by omega, by rw [hs]⟩, by omega, by omega⟩
  · obtain rfl : i = P := by omega
    simp only [evH, evRow] at *
    simp [go_sem]
    refine hR _ _ ⟨_, ?_, rfl, rfl⟩
    simp [go_sem]
end Go.Idl
