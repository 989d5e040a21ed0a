/-
  Chapter 28: what finds faults.
  Chapter 28: show, finders, Faults.
  Chapter 28: finders, Faults.
-/
import Derived.Test.YteedopeniojppaaGreatCtopmPartL
namespace Go.Idl
set_option linter.all false
open Go.Proofs
set_option maxHeartbeats 4000000
set_option maxRecDepth 40000

structure Flt where
  k : Int
  row : Int
  p : Int
  o : Int
  deriving DecidableEq
def Flt.c (f : Flt) : List IV := [.int .u8 f.k, .int .i64 f.row, .int .i64 f.p, .int .i64 f.o]
def flts (l : List Flt) : List (List IV) := mp Flt.c l
@[simp] theorem flts_length (l : List Flt) : (flts l).length = l.length := mp_length
@[simp] theorem flts_getElem (l : List Flt) (i : Nat) (h : i < (flts l).length) : (flts l)[i] = [.int .u8 (l[i]'(by simpa using h)).k, .int .i64 (l[i]'(by simpa using h)).row, .int .i64 (l[i]'(by simpa using h)).p, .int .i64 (l[i]'(by simpa using h)).o] := by simp [flts, mp, Flt.c]
theorem flts_snoc {l : List Flt} {f : Flt} : flts (l ++ [f]) = flts l ++ [[.int .u8 f.k, .int .i64 f.row, .int .i64 f.p, .int .i64 f.o]] := mp_snoc
theorem flts_append {l m : List Flt} : flts (l ++ m) = flts l ++ flts m := mp_append
theorem flts_cons {l : List Flt} {f : Flt} : flts (f :: l) = [.int .u8 f.k, .int .i64 f.row, .int .i64 f.p, .int .i64 f.o] :: flts l := rfl
@[go_sem] theorem flts_nil : flts [] = [] := rfl
@[go_sem] theorem ScR_flts {l : List Flt} : ScR (flts l) = True := eq_true (mp_sc (by simp [scal, Flt.c]))
@[go_sem] theorem ClR_flts {l : List Flt} : ClR (flts l) = True := eq_true (ScR.cl (mp_sc (by simp [scal, Flt.c])))
@[go_sem] theorem BlR_flts {n : Nat} {l : List Flt} : BlR n (flts l) = True := eq_true (ScR.bl (mp_sc (by simp [scal, Flt.c])))
theorem flts_one {l : List Flt} : ∀ a ∈ flts l, a.length = 4 ∧ ∀ x ∈ a, IV.one x = true := rows_one (mp_sc (by simp [scal, Flt.c])) (mp_rows (by simp [Flt.c]))

/-- What finders look at: the memory, the movement, the limit, what is shared. -/
def finH (i : Int) (S : Mem) (m : Mv) (lim : Int) : Heap :=
  [.rows 2 [[.int .i64 i, .map 1]], .map (enT S), .rows 6 [[.int .i64 m.tables, .int .i64 m.rounds, .int .i64 m.sets, .int .i64 m.copies, .int .i64 m.winners, .fz 5 (rws m.rows)]], .rows 1 [[.int .i64 lim]], .rows 1 [[.ptr 0 1 0 0]],
   .rows 1 [[.func (.func 90) [] []]], .rows 1 [[.func (.func 91) [] [.ptr 4 1 0 0]]]]

theorem outside_fun (x n : Int) : FN 90 [.int .i64 x, .int .i64 n] (fun v => v = .bool (decide (x < 0) || decide (n ≤ x))) := by
  refine IFun.of_bodyZ false 5 [] Tryz.func90 rfl Tryz.call90 rfl fun R hR => ?_
  simp [go_sem]
  exact hR _ _ _ rfl (by simp [go_sem])
def outB (x n : Int) : Bool := decide (x < 0) || decide (n ≤ x)
def wrongF (m : Mv) (occ : Bool) (x : Rw) : Bool := occ || decide (x.ns < 0) || decide (x.ew < 0) || outB x.r m.rounds || outB x.t m.tables || outB x.s m.sets
theorem find1_calls (i : Int) (S : Mem) (m : Mv) (lim : Int) (x : Rw) : ICalls Tryz.prog [] 93 [x.v, .ptr 4 1 0 0, .ptr 5 1 0 0, .ptr 2 1 0 0] (finH i S m lim)
    (fun v σ' => v = .fz 4 (flts (if wrongF m (aget ⟨1, x.r, x.t⟩ S).isSome x = true then [⟨1, i, x.ns, x.ew⟩] else [])) ∧ σ' = finH i S m lim) := by
  refine ICalls.of_bodyI false 8 [55] Tryz.func93 rfl Tryz.call93 rfl fun R hR => ?_
  have hg := mget_t ⟨1, x.r, x.t⟩ S
  simp only [Th.v] at hg
  cases hk : aget ⟨1, x.r, x.t⟩ S with
  | some q =>
    simp [go_sem, Rw.v, finH, hg, hk, mkV2]
    refine ⟨fun a b h => by simpa [go_sem, keyOK] using ok_t S (a, b) h, by decide +kernel, by decide +kernel, hR _ _ _ _ ⟨rfl, rfl⟩ ?_⟩
    simp [go_sem, finH, wrongF, hk, flts_cons]
  | none =>
    have yes : wrongF m (aget ⟨1, x.r, x.t⟩ S).isSome x = true → flts (if wrongF m (aget ⟨1, x.r, x.t⟩ S).isSome x = true then [⟨1, i, x.ns, x.ew⟩] else []) = [[.int .u8 1, .int .i64 i, .int .i64 x.ns, .int .i64 x.ew]] := fun h => by rw [if_pos h]; rfl
    have no : wrongF m (aget ⟨1, x.r, x.t⟩ S).isSome x = false → flts (if wrongF m (aget ⟨1, x.r, x.t⟩ S).isSome x = true then [⟨1, i, x.ns, x.ew⟩] else []) = [] := fun h => by rw [if_neg (by rw [h]; decide)]; rfl
    by_cases h1 : x.ns < 0
    · simp [go_sem, Rw.v, finH, hg, hk, mkV2, h1]
      refine ⟨fun a b h => by simpa [go_sem, keyOK] using ok_t S (a, b) h, by decide +kernel, by decide +kernel, hR _ _ _ _ ⟨rfl, rfl⟩ ?_⟩
      rw [yes (by simp [wrongF, h1])]
      simp [go_sem, finH]
    by_cases h2 : x.ew < 0
    · simp [go_sem, Rw.v, finH, hg, hk, mkV2, h1, h2]
      refine ⟨fun a b h => by simpa [go_sem, keyOK] using ok_t S (a, b) h, by decide +kernel, by decide +kernel, hR _ _ _ _ ⟨rfl, rfl⟩ ?_⟩
      rw [yes (by simp [wrongF, h2])]
      simp [go_sem, finH]
    simp [go_sem, Rw.v, finH, hg, hk, mkV2, h1, h2]
    refine ⟨fun a b h => by simpa [go_sem, keyOK] using ok_t S (a, b) h, by decide +kernel, ?_⟩
    refine (outside_fun x.r m.rounds).callF (by simp [go_sem, finH]) ?_
    rintro _ rfl
    cases h3 : (decide (x.r < 0) || decide (m.rounds ≤ x.r)) with
    | true =>
      simp [go_sem]
      refine ⟨by decide +kernel, hR _ _ _ _ ⟨rfl, rfl⟩ ?_⟩
      rw [yes (by simp [wrongF, outB, h3])]
      simp [go_sem, finH]
    | false =>
      simp [go_sem]
      refine (outside_fun x.t m.tables).callF (by simp [go_sem, finH]) ?_
      rintro _ rfl
      cases h4 : (decide (x.t < 0) || decide (m.tables ≤ x.t)) with
      | true =>
        simp [go_sem]
        refine ⟨by decide +kernel, hR _ _ _ _ ⟨rfl, rfl⟩ ?_⟩
        rw [yes (by simp [wrongF, outB, h4])]
        simp [go_sem, finH]
      | false =>
        simp [go_sem]
        refine (outside_fun x.s m.sets).callF (by simp [go_sem, finH]) ?_
        rintro _ rfl
        cases h5 : (decide (x.s < 0) || decide (m.sets ≤ x.s)) with
        | true =>
          simp [go_sem]
          refine ⟨by decide +kernel, hR _ _ _ _ ⟨rfl, rfl⟩ ?_⟩
          rw [yes (by simp [wrongF, outB, h5])]
          simp [go_sem, finH]
        | false =>
          simp [go_sem]
          refine hR _ _ _ _ ⟨rfl, rfl⟩ ?_
          rw [no (by simp [wrongF, outB, hk, h1, h2, h3, h4, h5])]
          simp [go_sem, finH]
theorem find2_calls (i : Int) (S : Mem) (m : Mv) (lim : Int) (x : Rw) : ICalls Tryz.prog [] 94 [x.v, .ptr 4 1 0 0] (finH i S m lim)
    (fun v σ' => v = .fz 4 (flts (if 0 < x.ns ∧ x.ns = x.ew then [⟨2, i, x.ns, x.ew⟩] else [])) ∧ σ' = finH i S m lim) := by
  refine ICalls.of_bodyI false 4 [13] Tryz.func94 rfl Tryz.call94 rfl fun R hR => ?_
  by_cases h : 0 < x.ns ∧ x.ns = x.ew
  · simp [go_sem, Rw.v, finH, h.1, ← h.2]
    refine ⟨by decide +kernel, hR _ _ _ _ ⟨rfl, rfl⟩ ?_⟩
    rw [if_pos h]
    simp [go_sem, finH, flts_cons, ← h.2]
  · have h' : 0 < x.ns → ¬ x.ns = x.ew := fun h1 h2 => h ⟨h1, h2⟩
    simp [go_sem, Rw.v, finH, h]
    refine hR _ _ _ _ ⟨rfl, rfl⟩ ?_
    rw [if_neg h]
    simp [go_sem, finH]
/-- What a row shows that another has shown before. -/
def ag1 (i k : Int) (S : Mem) (key : Int → Th) (p : Int) : List Flt := match aget (key p) S with
  | none => []
  | some q => [⟨k, i, p, q.1⟩]
def agL (i k : Int) (S : Mem) (key : Int → Th) (l : List Int) : List Flt := l.flatMap (ag1 i k S key)
theorem agL_succ {i k : Int} {S : Mem} {key : Int → Th} {l : List Int} {j : Nat} (h : j < l.length) : agL i k S key (l.take (j + 1)) = agL i k S key (l.take j) ++ ag1 i k S key l[j] := by
  rw [List.take_succ_eq_append_getElem h, agL, List.flatMap_append]; simp [agL]
theorem agL_len {i k : Int} {S : Mem} {key : Int → Th} : ∀ (l : List Int), (agL i k S key l).length ≤ l.length
  | [] => by simp [agL]
  | p :: l => by
    have ih := agL_len (i := i) (k := k) (S := S) (key := key) l
    have h1 : (ag1 i k S key p).length ≤ 1 := by unfold ag1; split <;> simp
    have : agL i k S key (p :: l) = ag1 i k S key p ++ agL i k S key l := by simp [agL]
    rw [this, List.length_append, List.length_cons]; omega
theorem seatsL_len (x : Rw) : (seatsL x).length ≤ 2 := by unfold seatsL; split <;> split <;> simp
theorem again_calls (i : Int) (S : Mem) (m : Mv) (lim k : Int) (x : Rw) (g : FuncId) (key : Int → Th) (hkey : ∀ p, FN g [.int .i64 p, .fptr 5 [x.c] 0 0] (fun v => v = (key p).v)) : ICalls Tryz.prog [] 91 [.int .u8 k, .func (.func g) [] [.ptr 7 1 0 0], x.v, .ptr 4 1 0 0] (finH i S m lim ++ [.rows 5 [x.c]])
    (fun v σ' => v = .fz 4 (flts (agL i k S key (seatsL x))) ∧ σ' = finH i S m lim ++ [.rows 5 [x.c]]) := by
  refine ICalls.of_bodyI false 13 [14, 15, 16, 17, 31] Tryz.func91 rfl Tryz.call91 rfl fun R hR => ?_
  simp [go_sem, Rw.v, Rw.c, finH]
  refine (seats_fun x).callF (by simp [go_sem, finH, Rw.v]) ?_
  rintro _ rfl
  simp [go_sem]
  refine IWp.ownNilS 4 8 (by decide) rfl ?_
  have hsl := seatsL_len x
  refine IWp.loopT (α := Nat) (fun j => (⟨false, 46, 13, [14, 15, 16, 17, 31], [], [(0, .int .u8 k), (1, .func (.func g) [] [.ptr 7 1 0 0]), (3, .ptr 4 1 0 0), (7, .nils), (8, .sl 9 (agL i k S key ((seatsL x).take j)).length 0 (agL i k S key ((seatsL x).take j)).length none), (14, .fz 1 (ints (seatsL x))), (15, .int .i64 (seatsL x).length), (16, .int .i64 (j : Int))], []⟩,
      finH i S m lim ++ [.rows 5 [x.c], .dead, .rows 4 (flts (agL i k S key ((seatsL x).take j)))]))
    (fun j => j ≤ (seatsL x).length) (fun j => (seatsL x).length - j) 0 (by simp) (by simp [go_sem, finH, agL, Rw.c]) ?_
  intro j hj
  by_cases h : j < (seatsL x).length
  · have w1 : IntKind.i64.wrap ((j : Int) + 1) = j + 1 := wrap64 (by omega) (by omega)
    have hs := agL_succ (i := i) (k := k) (S := S) (key := key) h
    have hl := agL_len (i := i) (k := k) (S := S) (key := key) ((seatsL x).take j)
    have hl2 : ((seatsL x).take j).length ≤ 2 := by simp; omega
    have c := hkey (seatsL x)[j]
    generalize hp : (seatsL x)[j] = p at *
    have hg := mget_t (key p) S
    simp only [Th.v, Rw.c] at hg c
    cases hk : aget (key p) S with
    | none =>
      simp only [ag1, hk, List.append_nil] at hs
      simp [go_sem, finH, Rw.c, h, hp]
      refine Drawn.intro (fun x => if x = 6 then (key p).v else .tup []) ?_
      simp [go_sem, Th.v, c, hg, hk, Rw.c]
      refine ⟨fun a b h => by simpa [go_sem, keyOK] using ok_t S (a, b) h, by decide +kernel, j + 1, ⟨⟨by rw [hs], w1⟩, by rw [hs]⟩, by omega, by omega⟩
    | some q =>
      simp only [ag1, hk] at hs
      simp [go_sem, finH, Rw.c, h, hp]
      refine Drawn.intro (fun x => if x = 6 then (key p).v else .tup []) ?_
      simp [go_sem, Th.v, c, hg, hk, mkV2, Rw.c]
      refine ⟨fun a b h => by simpa [go_sem, keyOK] using ok_t S (a, b) h, by decide +kernel, by omega, by decide +kernel, j + 1, ⟨⟨by rw [hs]; simp, w1⟩, by rw [hs, flts_snoc]⟩, by omega, by omega⟩
  · have : j = (seatsL x).length := by omega
    subst this
    simp [go_sem, finH]
    refine hR _ _ _ _ ⟨rfl, rfl⟩ ?_
    simp [go_sem, finH, Rw.c]
def key3 (x : Rw) (p : Int) : Th := ⟨3, x.r, p⟩
def key5 (x : Rw) (p : Int) : Th := ⟨5, p, x.s⟩
theorem key3_fun (x : Rw) (p : Int) : FN 96 [.int .i64 p, .fptr 5 [x.c] 0 0] (fun v => v = (key3 x p).v) := by
  refine IFun.of_bodyZ false 4 [] Tryz.func96 rfl Tryz.call96 rfl fun R hR => ?_
  simp [go_sem, Rw.c]
  exact hR _ _ _ rfl (by simp [go_sem, key3, Th.v])
theorem key5_fun (x : Rw) (p : Int) : FN 99 [.int .i64 p, .fptr 5 [x.c] 0 0] (fun v => v = (key5 x p).v) := by
  refine IFun.of_bodyZ false 4 [] Tryz.func99 rfl Tryz.call99 rfl fun R hR => ?_
  simp [go_sem, Rw.c]
  exact hR _ _ _ rfl (by simp [go_sem, key5, Th.v])
theorem find3_calls (i : Int) (S : Mem) (m : Mv) (lim : Int) (x : Rw) : ICalls Tryz.prog [] 95 [x.v, .ptr 6 1 0 0] (finH i S m lim)
    (fun v σ' => v = .fz 4 (flts (agL i 3 S (key3 x) (seatsL x))) ∧ σ' = finH i S m lim) := by
  refine ICalls.of_bodyI false 4 [] Tryz.func95 rfl Tryz.call95 rfl fun R hR => ?_
  simp [go_sem, Rw.v, finH]
  refine (again_calls i S m lim 3 x 96 (key3 x) (key3_fun x)).at [0, 1, 2, 3, 4, 5, 6, 7] (by simp [go_sem, finH, Rw.v, Rw.c]) ?_
  rintro _ _ ⟨rfl, rfl⟩
  simp [go_sem, finH, Rw.c]
  refine hR _ _ _ _ ⟨rfl, rfl⟩ ?_
  simp [go_sem, finH]
theorem find5_calls (i : Int) (S : Mem) (m : Mv) (lim : Int) (x : Rw) : ICalls Tryz.prog [] 98 [x.v, .ptr 6 1 0 0] (finH i S m lim)
    (fun v σ' => v = .fz 4 (flts (if meetB x = true then agL i 5 S (key5 x) (seatsL x) else [])) ∧ σ' = finH i S m lim) := by
  refine ICalls.of_bodyI false 4 [6] Tryz.func98 rfl Tryz.call98 rfl fun R hR => ?_
  simp [go_sem, Rw.v, finH]
  refine (meet_fun x).callF (by simp [go_sem, Rw.v, finH]) ?_
  rintro _ rfl
  cases h : meetB x with
  | false =>
    simp [go_sem]
    refine hR _ _ _ _ ⟨rfl, rfl⟩ ?_
    simp [go_sem, finH, h]
  | true =>
    simp [go_sem]
    refine (again_calls i S m lim 5 x 99 (key5 x) (key5_fun x)).at [0, 1, 2, 3, 4, 5, 6, 7] (by simp [go_sem, finH, Rw.v, Rw.c]) ?_
    rintro _ _ ⟨rfl, rfl⟩
    simp [go_sem, finH, Rw.c]
    refine hR _ _ _ _ ⟨rfl, rfl⟩ ?_
    simp [go_sem, finH, h]
def cntM2 (t : Th) (S : Mem) : Int := ((aget t S).map (·.2)).getD 0
theorem find4_calls (i : Int) (S : Mem) (m : Mv) (lim : Int) (x : Rw) : ICalls Tryz.prog [] 97 [x.v, .ptr 4 1 0 0, .ptr 2 1 0 0] (finH i S m lim)
    (fun v σ' => v = .fz 4 (flts (if m.copies ≤ cntM2 ⟨4, x.r, x.s⟩ S then [⟨4, i, x.s, cntM2 ⟨4, x.r, x.s⟩ S⟩] else [])) ∧ σ' = finH i S m lim) := by
  refine ICalls.of_bodyI false 6 [20] Tryz.func97 rfl Tryz.call97 rfl fun R hR => ?_
  have hg := mget_t ⟨4, x.r, x.s⟩ S
  simp only [Th.v] at hg
  have hc : ∃ f c, (Option.map mkV2 (aget ⟨4, x.r, x.s⟩ S)).getD (.agg [.int .i64 0, .int .i64 0]) = .agg [.int .i64 f, .int .i64 c] ∧ cntM2 ⟨4, x.r, x.s⟩ S = c := by
    cases hk : aget ⟨4, x.r, x.s⟩ S with
    | none => exact ⟨0, 0, by simp, by simp [cntM2, hk]⟩
    | some q => exact ⟨q.1, q.2, by simp [mkV2], by simp [cntM2, hk]⟩
  obtain ⟨f, c, h1, h2⟩ := hc
  rw [h2] at hR
  by_cases h : m.copies ≤ c
  · simp [go_sem, Rw.v, finH, hg, h1, h]
    refine ⟨fun a b h => by simpa [go_sem, keyOK] using ok_t S (a, b) h, by decide +kernel, by decide +kernel, hR _ _ _ _ ⟨rfl, rfl⟩ ?_⟩
    simp [go_sem, finH, h, flts_cons]
  · simp [go_sem, Rw.v, finH, hg, h1, h]
    refine ⟨fun a b h => by simpa [go_sem, keyOK] using ok_t S (a, b) h, by decide +kernel, hR _ _ _ _ ⟨rfl, rfl⟩ ?_⟩
    simp [go_sem, finH, h]
theorem find6_calls (i : Int) (S : Mem) (m : Mv) (lim : Int) (x : Rw) : ICalls Tryz.prog [] 100 [x.v, .ptr 4 1 0 0, .ptr 3 1 0 0] (finH i S m lim)
    (fun v σ' => v = .fz 4 (flts (if meetB x = true ∧ lim ≤ cntM2 (encT x) S then [⟨6, i, x.ns, x.ew⟩] else [])) ∧ σ' = finH i S m lim) := by
  refine ICalls.of_bodyI false 5 [18] Tryz.func100 rfl Tryz.call100 rfl fun R hR => ?_
  have hg := mget_t (encT x) S
  have c1 := meet_fun x
  have c2 := encounter_fun x
  simp only [Th.v, Rw.v] at hg c1 c2
  have hc : ∃ f c, (Option.map mkV2 (aget (encT x) S)).getD (.agg [.int .i64 0, .int .i64 0]) = .agg [.int .i64 f, .int .i64 c] ∧ cntM2 (encT x) S = c := by
    cases hk : aget (encT x) S with
    | none => exact ⟨0, 0, by simp, by simp [cntM2, hk]⟩
    | some q => exact ⟨q.1, q.2, by simp [mkV2], by simp [cntM2, hk]⟩
  obtain ⟨f, c, h1, h2⟩ := hc
  rw [h2] at hR
  cases hm : meetB x with
  | false =>
    simp [go_sem, Rw.v, finH]
    refine Drawn.intro (fun k => if k = 1 then .bool false else if k = 8 then (encT x).v else .tup []) ?_
    simp [go_sem, Th.v, hm, c1, c2, hg, h1]
    refine ⟨.inl (by simpa [hm] using c1), by decide +kernel, hR _ _ _ _ ⟨rfl, rfl⟩ ?_⟩
    simp [go_sem, finH, hm]
  | true =>
    simp [go_sem, Rw.v, finH]
    refine Drawn.intro (fun k => if k = 1 then .bool true else if k = 8 then (encT x).v else .tup []) ?_
    by_cases h : lim ≤ c
    · simp [go_sem, Th.v, hm, c1, c2, hg, h1, h]
      refine ⟨.inl (by simpa [hm] using c1), fun a b h => by simpa [go_sem, keyOK] using ok_t S (a, b) h, by decide +kernel, by decide +kernel, hR _ _ _ _ ⟨rfl, rfl⟩ ?_⟩
      simp [go_sem, finH, hm, h, flts_cons]
    · simp [go_sem, Th.v, hm, c1, c2, hg, h1, h]
      refine ⟨.inl (by simpa [hm] using c1), fun a b h => by simpa [go_sem, keyOK] using ok_t S (a, b) h, by decide +kernel, hR _ _ _ _ ⟨rfl, rfl⟩ ?_⟩
      simp [go_sem, finH, hm, h]
end Go.Idl
namespace Go.Idl
set_option linter.all false
open Go.Proofs
set_option maxHeartbeats 8000000
set_option maxRecDepth 40000

def MemB (S : Mem) (n : Int) : Prop := ∀ t f c, aget t S = some (f, c) → 0 ≤ c ∧ c ≤ n
theorem MemB.put1 {S : Mem} {n i : Int} {t : Th} (h : MemB S n) (hn : 0 ≤ n) : MemB (put1 i t S) (n + 1) := fun u f c e => by
  rw [aget_put1] at e
  split at e
  · cases hk : aget t S with
    | none => rw [hk] at e; simp at e; omega
    | some q =>
      obtain ⟨f', c'⟩ := q
      rw [hk] at e; simp at e
      have := h t f' c' hk
      omega
  · have := h u f c e; omega
theorem putL_append (i : Int) (l m : List Th) (S : Mem) : putL i (l ++ m) S = putL i m (putL i l S) := by simp [putL]
theorem MemB.putL {n i : Int} (hn : 0 ≤ n) : ∀ (l : List Th) (S : Mem), MemB S n → MemB (putL i l S) (n + l.length)
  | [], S, h => by simpa [Go.Idl.putL] using h
  | t :: l, S, h => by
    have := MemB.putL (n := n + 1) (i := i) (by omega) l (Go.Idl.put1 i t S) (h.put1 hn)
    show MemB (Go.Idl.putL i l (Go.Idl.put1 i t S)) _
    intro u f c e
    have := this u f c e
    simp only [List.length_cons]; omega
def putV : IV := .func (.func 64) [.ptr 0 1 0 0] []
/-- What is shown of one seat. -/
def shS (x : Rw) (p : Int) : List Th := ⟨3, x.r, p⟩ :: (if meetB x = true then [⟨5, p, x.s⟩] else [])
def shP (x : Rw) (j : Nat) : List Th := [⟨1, x.r, x.t⟩, ⟨4, x.r, x.s⟩] ++ ((seatsL x).take j).flatMap (shS x)
theorem shP_succ {x : Rw} {j : Nat} (h : j < (seatsL x).length) : shP x (j + 1) = shP x j ++ shS x (seatsL x)[j] := by
  unfold shP
  rw [List.take_succ_eq_append_getElem h, List.flatMap_append]; simp
theorem shS_len (x : Rw) (p : Int) : (shS x p).length ≤ 2 := by unfold shS; split <;> simp
theorem shP_len (x : Rw) : ∀ j, (shP x j).length ≤ 2 + 2 * j
  | 0 => by simp [shP]
  | j + 1 => by
    by_cases h : j < (seatsL x).length
    · rw [shP_succ h, List.length_append]
      have := shP_len x j
      have := shS_len x (seatsL x)[j]
      omega
    · have e : shP x (j + 1) = shP x j := by unfold shP; rw [List.take_of_length_le (by omega), List.take_of_length_le (by omega)]
      rw [e]; have := shP_len x j; omega
theorem shL_eq (x : Rw) : shL x = shP x (seatsL x).length ++ (if meetB x = true then [encT x] else []) := by
  unfold shL shP
  rw [List.take_of_length_le (Nat.le_refl _)]; rfl
theorem show_calls (i : Int) (S : Mem) (x : Rw) (hS : MemB S (2 ^ 39)) : ICalls Tryz.prog [] 66 [x.v, putV] (memH i S) (fun v σ' => v = .tup [] ∧ σ' = memH i (putL i (shL x) S)) := by
  refine ICalls.forget (ICalls.of_bodyE false 6 [21, 22, 23, 24, 34, 43] Tryz.func66 rfl Tryz.call66 rfl fun R hR => ?_)
  have ok : ∀ l : List Th, l.length ≤ 100 → MemOK (putL i l S) := fun l hl t f c e => by
    have := MemB.putL (i := i) (by decide) l S hS t f c e
    omega
  have p1 : ∀ (l : List Th) (t : Th), put1 i t (putL i l S) = putL i (l ++ [t]) S := fun l t => by rw [putL_append]; rfl
  simp [go_sem, Rw.v, memH, putV]
  refine (put_calls i ⟨1, x.r, x.t⟩ S (ok [] (by simp))).at [0, 1] (by simp [go_sem, memH, Th.v]) ?_
  rintro _ _ ⟨rfl, rfl⟩
  simp [go_sem, memH]
  have e1 : put1 i ⟨1, x.r, x.t⟩ S = putL i [⟨1, x.r, x.t⟩] S := rfl
  rw [e1]
  refine (put_calls i ⟨4, x.r, x.s⟩ _ (ok [⟨1, x.r, x.t⟩] (by simp))).at [0, 1] (by simp [go_sem, memH, Th.v]) ?_
  rintro _ _ ⟨rfl, rfl⟩
  rw [p1]
  simp [go_sem, memH]
  refine (seats_fun x).callF (by simp [go_sem, Rw.v]) ?_
  rintro _ rfl
  simp [go_sem]
  have hsl := seatsL_len x
  refine IWp.loopT (α := Nat) (fun j => (⟨false, 48, 6, [21, 22, 23, 24, 34, 43], [], [(1, putV), (2, .ptr 2 1 0 0), (21, .fz 1 (ints (seatsL x))), (22, .int .i64 (seatsL x).length), (23, .int .i64 (j : Int))], []⟩,
      memH i (putL i (shP x j) S) ++ [.rows 5 [x.c]]))
    (fun j => j ≤ (seatsL x).length) (fun j => (seatsL x).length - j) 0 (by simp) (by simp [go_sem, memH, shP, putV, Rw.c]) ?_
  intro j hj
  have hPl := shP_len x j
  by_cases h : j < (seatsL x).length
  · have w1 : IntKind.i64.wrap ((j : Int) + 1) = j + 1 := wrap64 (by omega) (by omega)
    have hs := shP_succ h
    generalize hp : (seatsL x)[j] = p at *
    simp [go_sem, memH, putV, Rw.c, h, hp]
    refine (put_calls i ⟨3, x.r, p⟩ _ (ok (shP x j) (by omega))).at [0, 1] (by simp [go_sem, memH, Th.v]) ?_
    rintro _ _ ⟨rfl, rfl⟩
    rw [p1]
    simp [go_sem, memH]
    refine (meet_fun x).callF (by simp [go_sem, Rw.v]) ?_
    rintro _ rfl
    cases hm : meetB x with
    | false =>
      simp [shS, hm] at hs
      simp [go_sem]
      exact ⟨j + 1, ⟨w1, by rw [hs]⟩, by omega, by omega⟩
    | true =>
      simp [shS, hm] at hs
      simp [go_sem]
      refine (put_calls i ⟨5, p, x.s⟩ _ (ok (shP x j ++ [⟨3, x.r, p⟩]) (by simp; omega))).at [0, 1] (by simp [go_sem, memH, Th.v]) ?_
      rintro _ _ ⟨rfl, rfl⟩
      rw [p1]
      simp [go_sem, memH]
      exact ⟨j + 1, ⟨w1, by rw [hs]⟩, by omega, by omega⟩
  · have : j = (seatsL x).length := by omega
    subst this
    simp [go_sem, memH, putV, Rw.c]
    refine (meet_fun x).callF (by simp [go_sem, Rw.v]) ?_
    rintro _ rfl
    have he := shL_eq x
    cases hm : meetB x with
    | false =>
      rw [hm, if_neg (by decide), List.append_nil] at he
      simp [go_sem]
      refine hR _ _ ⟨memH i (putL i (shL x) S), ?_, rfl, rfl⟩
      simp [go_sem, memH, he]
    | true =>
      rw [hm, if_pos rfl] at he
      simp [go_sem]
      refine (encounter_fun x).callF (by simp [go_sem, Rw.v]) ?_
      rintro _ rfl
      simp [go_sem, Th.v]
      refine (put_calls i (encT x) _ (ok (shP x (seatsL x).length) (by omega))).at [0, 1] (by simp [go_sem, memH, Th.v]) ?_
      rintro _ _ ⟨rfl, rfl⟩
      rw [p1]
      simp [go_sem, memH]
      refine hR _ _ ⟨memH i (putL i (shL x) S), ?_, rfl, rfl⟩
      simp [go_sem, memH, he]
end Go.Idl
namespace Go.Idl
set_option linter.all false
open Go.Proofs
set_option maxHeartbeats 8000000
set_option maxRecDepth 40000

def mcells (m : Mv) : List IV := [.int .i64 m.tables, .int .i64 m.rounds, .int .i64 m.sets, .int .i64 m.copies, .int .i64 m.winners, .fz 5 (rws m.rows)]
/-- The finders, where the shared blocks lie at m, limit, s, outside, again. -/
def finds (bm bl bs bo ba : Nat) : List IV :=
  [.func (.func 93) [] [.ptr bs 1 0 0, .ptr bo 1 0 0, .ptr bm 1 0 0], .func (.func 94) [] [.ptr bs 1 0 0], .func (.func 95) [] [.ptr ba 1 0 0],
   .func (.func 97) [] [.ptr bs 1 0 0, .ptr bm 1 0 0], .func (.func 98) [] [.ptr ba 1 0 0], .func (.func 100) [] [.ptr bs 1 0 0, .ptr bl 1 0 0]]
theorem finders_calls (i : Int) (S : Mem) (m : Mv) (lim : Int) : ICalls Tryz.prog [] 65 [m.v, .int .i64 lim, .ptr 0 1 0 0] (memH i S)
    (fun v σ' => v = .agg (finds 2 3 4 6 7) ∧ σ' = memH i S ++ [.rows 6 [mcells m], .rows 1 [[.int .i64 lim]], .rows 1 [[.ptr 0 1 0 0]], .dead, .rows 1 [[.func (.func 90) [] []]], .rows 1 [[.func (.func 91) [] [.ptr 4 1 0 0]]]]) := by
  refine ICalls.forget (ICalls.of_bodyE false 9 [] Tryz.func65 rfl Tryz.call65 rfl fun R hR => ?_)
  simp [go_sem, Mv.v, memH]
  refine hR _ _ ⟨memH i S ++ [.rows 6 [mcells m], .rows 1 [[.int .i64 lim]], .rows 1 [[.ptr 0 1 0 0]], .dead, .rows 1 [[.func (.func 90) [] []]], .rows 1 [[.func (.func 91) [] [.ptr 4 1 0 0]]]], ?_, ?_, rfl⟩
  · simp [go_sem, memH, mcells, finds]
  · simp [finds]
def errF (m : Mv) (lim : Int) : Int := if ¬ frameP m then 280 else if lim < 1 then 2 else 0
/-- The faults of a row that is no row of a wrong place. -/
def rowF (m : Mv) (lim : Int) (S : Mem) (i : Int) (x : Rw) : List Flt :=
  (if 0 < x.ns ∧ x.ns = x.ew then [⟨2, i, x.ns, x.ew⟩] else []) ++ agL i 3 S (key3 x) (seatsL x) ++
  (if m.copies ≤ cntM2 ⟨4, x.r, x.s⟩ S then [⟨4, i, x.s, cntM2 ⟨4, x.r, x.s⟩ S⟩] else []) ++
  (if meetB x = true then agL i 5 S (key5 x) (seatsL x) else []) ++
  (if meetB x = true ∧ lim ≤ cntM2 (encT x) S then [⟨6, i, x.ns, x.ew⟩] else [])
/-- The state behind the rows: faults, memory. -/
def fStep (m : Mv) (lim : Int) (i : Nat) (x : Rw) (q : List Flt × Mem) : List Flt × Mem :=
  if wrongF m (aget ⟨1, x.r, x.t⟩ q.2).isSome x = true then (q.1 ++ [⟨1, i, x.ns, x.ew⟩], q.2)
  else (q.1 ++ rowF m lim q.2 i x, putL i (shL x) q.2)
def fRun (m : Mv) (lim : Int) : Nat → List Rw → List Flt × Mem → List Flt × Mem
  | _, [], q => q
  | i, x :: l, q => fRun m lim (i + 1) l (fStep m lim i x q)
def fiveF (m : Mv) (lim : Int) (S : Mem) (i : Int) (x : Rw) : List (List Flt) :=
  [if 0 < x.ns ∧ x.ns = x.ew then [⟨2, i, x.ns, x.ew⟩] else [], agL i 3 S (key3 x) (seatsL x), if m.copies ≤ cntM2 ⟨4, x.r, x.s⟩ S then [⟨4, i, x.s, cntM2 ⟨4, x.r, x.s⟩ S⟩] else [],
   if meetB x = true then agL i 5 S (key5 x) (seatsL x) else [], if meetB x = true ∧ lim ≤ cntM2 (encT x) S then [⟨6, i, x.ns, x.ew⟩] else []]
theorem rowF_five (m : Mv) (lim : Int) (S : Mem) (i : Int) (x : Rw) : rowF m lim S i x = (fiveF m lim S i x).flatten := by simp [rowF, fiveF]
theorem fiveF_len (m : Mv) (lim : Int) (S : Mem) (i : Int) (x : Rw) : ∀ j, j < 5 → ((fiveF m lim S i x).getD j []).length ≤ 2 := by
  have h1 := seatsL_len x
  have h3 := agL_len (i := i) (k := 3) (S := S) (key := key3 x) (seatsL x)
  have h5 := agL_len (i := i) (k := 5) (S := S) (key := key5 x) (seatsL x)
  intro j hj
  rcases (by omega : j = 0 ∨ j = 1 ∨ j = 2 ∨ j = 3 ∨ j = 4) with rfl | rfl | rfl | rfl | rfl <;> simp [fiveF] <;> (try split) <;> (try simp) <;> (try omega)
/-- Faults so far, and those of the first j finders. -/
def partF (l : List Flt) (L : List (List Flt)) (j : Nat) : List Flt := l ++ (L.take j).flatten
theorem partF_succ (l : List Flt) (L : List (List Flt)) (j : Nat) : partF l L (j + 1) = partF l L j ++ L.getD j [] := by
  unfold partF
  by_cases h : j < L.length
  · rw [List.take_succ_eq_append_getElem h, List.flatten_append]; simp [h]
  · rw [List.take_of_length_le (by omega), List.take_of_length_le (by omega)]; simp [List.getElem?_eq_none (show L.length ≤ j by omega)]
theorem partF_len (l : List Flt) {L : List (List Flt)} (hL : ∀ j, (L.getD j []).length ≤ 2) : ∀ j, (partF l L j).length ≤ l.length + 2 * j
  | 0 => by simp [partF]
  | j + 1 => by rw [partF_succ, List.length_append]; have := partF_len l hL j; have := hL j; omega
@[go_sem] theorem partF_zero {l : List Flt} {L : List (List Flt)} : partF l L 0 = l := by simp [partF]
/-- The heap of Faults' loop; r: the row's number in the memory; below it: the faults. -/
def bigH (m : Mv) (lim r : Int) (q : List Flt × Mem) : Heap :=
  [.rows 6 [mcells m], .map (enT q.2), .rows 2 [[.int .i64 r, .map 1]], .rows 6 [mcells m], .rows 1 [[.int .i64 lim]], .rows 1 [[.ptr 2 1 0 0]], .dead,
   .rows 1 [[.func (.func 90) [] []]], .rows 1 [[.func (.func 91) [] [.ptr 5 1 0 0]]], .dead, .rows 4 (flts q.1)]
theorem faults_fun (m : Mv) (lim : Int) : FN 38 [m.v, .int .i64 lim] (fun v => v = .tup [.fz 4 (flts (if errF m lim = 0 then (fRun m lim 0 m.rows ([], [])).1 else [])), .int .i64 (errF m lim)]) := by
  refine IFun.of_bodyZ false 15 [17, 19, 30, 31, 32, 33, 47, 51, 52, 53, 54] Tryz.func38 rfl Tryz.call38 rfl fun R hR => ?_
  simp [go_sem, Mv.v]
  refine (frame_fun m).callF (by simp [go_sem, Mv.v]) ?_
  rintro _ rfl
  by_cases hf : frameP m
  case neg =>
    have he : errF m lim = 280 := by unfold errF; rw [if_pos hf]
    simp [go_sem, hf]
    exact hR _ _ _ rfl (by simp [go_sem, he])
  by_cases hlm : lim < 1
  · have he : errF m lim = 2 := by unfold errF; rw [if_neg (by simp [hf]), if_pos hlm]
    simp [go_sem, hf, hlm]
    exact hR _ _ _ rfl (by simp [go_sem, he])
  have he : errF m lim = 0 := by unfold errF; rw [if_neg (by simp [hf]), if_neg hlm]
  have hrl : m.rows.length ≤ 24 * 47 := by
    have h5 : m.tables * m.rounds ≤ 24 * 47 := Int.mul_le_mul hf.2.1 hf.2.2.2.1 (by have := hf.2.2.1; omega) (by omega)
    have := hf.2.2.2.2.2.2.2.2
    omega
  simp [go_sem, hf, hlm]
  refine (finders_calls 0 [] m lim).at [2, 1] (by simp [go_sem, Mv.v, memH, enT]) ?_
  rintro _ _ ⟨rfl, rfl⟩
  simp [go_sem, memH, enT, mcells, finds]
  refine IWp.freezeP 9 6 [finds 3 4 5 7 8] [(0, m.v), (1, .int .i64 lim), (2, .ptr 0 1 0 0), (4, .nils), (5, .int .i64 0), (17, .bool false), (19, .bool false), (6, .ptr 2 1 0 0), (7, .func (.func 64) [.ptr 2 1 0 0] []), (8, .fptr 6 [finds 3 4 5 7 8] 0 0), (9, .nils), (30, .fz 5 (rws m.rows)), (31, .int .i64 m.rows.length), (32, .int .i64 0)]
    [.rows 6 [mcells m], .map [], .rows 2 [[.int .i64 0, .map 1]], .rows 6 [mcells m], .rows 1 [[.int .i64 lim]], .rows 1 [[.ptr 2 1 0 0]], .dead, .rows 1 [[.func (.func 90) [] []]], .rows 1 [[.func (.func 91) [] [.ptr 5 1 0 0]]], .dead] (by simp [go_sem, finds]) (by simp [go_sem, fzL, fzR, Mv.v, finds]) (by simp [go_sem, fzH, mcells]) ?_
  refine IWp.ownNilS 4 9 (by decide) rfl ?_
  have hfB : ∀ n, n ≥ 9 → ∀ c ∈ finds 3 4 5 7 8, Bl n c := fun n hn c hc => by
    simp only [finds, List.mem_cons, List.not_mem_nil, or_false] at hc
    rcases hc with rfl | rfl | rfl | rfl | rfl | rfl <;> simp [go_sem] <;> omega
  obtain ⟨FD, hFD⟩ : ∃ FD, finds 3 4 5 7 8 = FD := ⟨_, rfl⟩
  refine IWp.loopT (α := Nat × (List Flt × Mem) × Int) (fun x => (⟨false, 68, 15, [17, 19, 30, 31, 32, 33, 47, 51, 52, 53, 54], [], [(4, .nils), (5, .int .i64 0), (6, .ptr 2 1 0 0), (7, .func (.func 64) [.ptr 2 1 0 0] []), (8, .fptr 6 [FD] 0 0), (9, .sl 10 x.2.1.1.length 0 x.2.1.1.length none), (30, .fz 5 (rws m.rows)), (31, .int .i64 m.rows.length), (32, .int .i64 (x.1 : Int))], []⟩, bigH m lim x.2.2 x.2.1))
    (fun x => x.1 ≤ m.rows.length ∧ fRun m lim x.1 (m.rows.drop x.1) x.2.1 = fRun m lim 0 m.rows ([], []) ∧ MemB x.2.1.2 (10 * x.1) ∧ x.2.1.1.length ≤ 10 * x.1) (fun x => m.rows.length - x.1) (0, ([], []), 0) ⟨by simp, by simp, fun t f c h => by simp [aget] at h, by simp⟩ ?_ ?_
  · simp [go_sem, bigH, hFD, enT, mcells]
    rw [← hFD]
    simp [go_sem, finds]
  rintro ⟨i, q, r⟩ ⟨hi, hrun, hmb, hql⟩
  simp only at hi hrun hmb hql
  by_cases h : i < m.rows.length
  · have w1 : IntKind.i64.wrap ((i : Int) + 1) = i + 1 := wrap64 (by omega) (by omega)
    rw [List.drop_eq_getElem_cons h, fRun] at hrun
    generalize hx : m.rows[i] = x at hrun
    simp [go_sem, bigH, mcells, h, hx, ← hFD, finds]
    refine (find1_calls i q.2 m lim x).at [2, 1, 3, 4, 5, 7, 8] (by simp [go_sem, finH, Rw.v]) ?_
    rintro _ _ ⟨rfl, rfl⟩
    cases hw : wrongF m (aget ⟨1, x.r, x.t⟩ q.2).isSome x with
    | true =>
      have hst : fStep m lim i x q = (q.1 ++ [⟨1, i, x.ns, x.ew⟩], q.2) := by unfold fStep; rw [if_pos hw]
      rw [hst] at hrun
      simp [go_sem, finH, flts_cons]
      refine ⟨by omega, i + 1, q.1 ++ [⟨1, i, x.ns, x.ew⟩], q.2, ⟨⟨by simp, w1⟩, rfl, flts_snoc⟩, ⟨by omega, hrun, fun t f c e => ?_, by simp; omega⟩, by omega⟩
      have := hmb t f c e; omega
    | false =>
      have hst : fStep m lim i x q = (q.1 ++ rowF m lim q.2 i x, putL i (shL x) q.2) := by unfold fStep; rw [if_neg (by rw [hw]; decide)]
      rw [hst] at hrun
      simp [go_sem, finH]
      refine IWp.loopT (α := Nat) (fun j => (⟨false, 68, 15, [17, 19, 30, 31, 32, 33, 47, 51, 52, 53, 54], [], [(4, .nils), (5, .int .i64 0), (6, .ptr 2 1 0 0), (7, .func (.func 64) [.ptr 2 1 0 0] []), (8, .fptr 6 [finds 3 4 5 7 8] 0 0), (9, .sl 10 (partF q.1 (fiveF m lim q.2 i x) j).length 0 (partF q.1 (fiveF m lim q.2 i x) j).length none), (11, .ptr 11 1 0 0), (30, .fz 5 (rws m.rows)), (31, .int .i64 m.rows.length), (32, .int .i64 (i : Int)),
          (51, .fz 1 ((finds 3 4 5 7 8).tail.map fun f => [f])), (52, .int .i64 5), (53, .int .i64 (j : Int))], []⟩, bigH m lim i (partF q.1 (fiveF m lim q.2 i x) j, q.2) ++ [.rows 5 [x.c]]))
        (fun j => j ≤ 5) (fun j => 5 - j) 0 (by simp) ?_ ?_
      · simp [go_sem, bigH, mcells, finds, Rw.c]
      have hfl : ∀ j, ((fiveF m lim q.2 i x).getD j []).length ≤ 2 := fun j => by
        by_cases hj : j < 5
        · exact fiveF_len m lim q.2 i x j hj
        · have : (fiveF m lim q.2 i x)[j]? = none := List.getElem?_eq_none (by simp [fiveF]; omega)
          simp [List.getD, this]
      intro j hj
      have hpl := partF_len q.1 hfl j
      have hps := partF_succ q.1 (fiveF m lim q.2 i x) j
      by_cases h5 : j < 5
      · have wj : IntKind.i64.wrap ((j : Int) + 1) = j + 1 := wrap64 (by omega) (by omega)
        have hl2 := hfl j
        have fin : ∀ (L : List Flt), (fiveF m lim q.2 i x).getD j [] = L → ((partF q.1 (fiveF m lim q.2 i x) j).length + L.length ≤ 4294967296 ∧ ∃ y : Nat, (((partF q.1 (fiveF m lim q.2 i x) j).length + L.length = (partF q.1 (fiveF m lim q.2 i x) y).length ∧ IntKind.i64.wrap ((j : Int) + 1) = y) ∧ flts (partF q.1 (fiveF m lim q.2 i x) y) = flts (partF q.1 (fiveF m lim q.2 i x) j) ++ flts L) ∧ y ≤ 5 ∧ 5 - y < 5 - j) := fun L hL => by
          rw [hL] at hps hl2
          exact ⟨by omega, j + 1, ⟨⟨by rw [hps, List.length_append], wj⟩, by rw [hps, flts_append]⟩, by omega, by omega⟩
        have hone : ∀ L : List Flt, ∀ r ∈ flts L, r.length = 4 ∧ ∀ x ∈ r, IV.one x = true := fun L => flts_one
        rcases (by omega : j = 0 ∨ j = 1 ∨ j = 2 ∨ j = 3 ∨ j = 4) with rfl | rfl | rfl | rfl | rfl
        · obtain ⟨f1, y, f2, f3⟩ := fin (if 0 < x.ns ∧ x.ns = x.ew then [(⟨2, i, x.ns, x.ew⟩ : Flt)] else []) rfl
          generalize hG : partF q.1 (fiveF m lim q.2 i x) 0 = G at *
          simp [go_sem, bigH, mcells, finds, Rw.c, hG]
          refine (find2_calls i q.2 m lim x).at [2, 1, 3, 4, 5, 7, 8] (by simp [go_sem, finH, Rw.v]) ?_
          rintro _ _ ⟨rfl, rfl⟩
          generalize hL : (if 0 < x.ns ∧ x.ns = x.ew then [(⟨2, i, x.ns, x.ew⟩ : Flt)] else []) = L at *
          simp [go_sem, finH]
          exact ⟨⟨f1, hone L⟩, y, by simpa using f2, by simpa using f3⟩
        · obtain ⟨f1, y, f2, f3⟩ := fin (agL i 3 q.2 (key3 x) (seatsL x)) rfl
          generalize hG : partF q.1 (fiveF m lim q.2 i x) 1 = G at *
          simp [go_sem, bigH, mcells, finds, Rw.c, hG]
          refine (find3_calls i q.2 m lim x).at [2, 1, 3, 4, 5, 7, 8] (by simp [go_sem, finH, Rw.v]) ?_
          rintro _ _ ⟨rfl, rfl⟩
          generalize hL : (agL i 3 q.2 (key3 x) (seatsL x)) = L at *
          simp [go_sem, finH]
          exact ⟨⟨f1, hone L⟩, y, by simpa using f2, by simpa using f3⟩
        · obtain ⟨f1, y, f2, f3⟩ := fin (if m.copies ≤ cntM2 ⟨4, x.r, x.s⟩ q.2 then [(⟨4, i, x.s, cntM2 ⟨4, x.r, x.s⟩ q.2⟩ : Flt)] else []) rfl
          generalize hG : partF q.1 (fiveF m lim q.2 i x) 2 = G at *
          simp [go_sem, bigH, mcells, finds, Rw.c, hG]
          refine (find4_calls i q.2 m lim x).at [2, 1, 3, 4, 5, 7, 8] (by simp [go_sem, finH, Rw.v]) ?_
          rintro _ _ ⟨rfl, rfl⟩
          generalize hL : (if m.copies ≤ cntM2 ⟨4, x.r, x.s⟩ q.2 then [(⟨4, i, x.s, cntM2 ⟨4, x.r, x.s⟩ q.2⟩ : Flt)] else []) = L at *
          simp [go_sem, finH]
          exact ⟨⟨f1, hone L⟩, y, by simpa using f2, by simpa using f3⟩
        · obtain ⟨f1, y, f2, f3⟩ := fin (if meetB x = true then agL i 5 q.2 (key5 x) (seatsL x) else []) rfl
          generalize hG : partF q.1 (fiveF m lim q.2 i x) 3 = G at *
          simp [go_sem, bigH, mcells, finds, Rw.c, hG]
          refine (find5_calls i q.2 m lim x).at [2, 1, 3, 4, 5, 7, 8] (by simp [go_sem, finH, Rw.v]) ?_
          rintro _ _ ⟨rfl, rfl⟩
          generalize hL : (if meetB x = true then agL i 5 q.2 (key5 x) (seatsL x) else []) = L at *
          simp [go_sem, finH]
          exact ⟨⟨f1, hone L⟩, y, by simpa using f2, by simpa using f3⟩
        · obtain ⟨f1, y, f2, f3⟩ := fin (if meetB x = true ∧ lim ≤ cntM2 (encT x) q.2 then [(⟨6, i, x.ns, x.ew⟩ : Flt)] else []) rfl
          generalize hG : partF q.1 (fiveF m lim q.2 i x) 4 = G at *
          simp [go_sem, bigH, mcells, finds, Rw.c, hG]
          refine (find6_calls i q.2 m lim x).at [2, 1, 3, 4, 5, 7, 8] (by simp [go_sem, finH, Rw.v]) ?_
          rintro _ _ ⟨rfl, rfl⟩
          generalize hL : (if meetB x = true ∧ lim ≤ cntM2 (encT x) q.2 then [(⟨6, i, x.ns, x.ew⟩ : Flt)] else []) = L at *
          simp [go_sem, finH]
          exact ⟨⟨f1, hone L⟩, y, by simpa using f2, by simpa using f3⟩
      · have : j = 5 := by omega
        subst this
        have hall : partF q.1 (fiveF m lim q.2 i x) 5 = q.1 ++ rowF m lim q.2 i x := by rw [rowF_five]; simp [partF, fiveF]
        rw [hall] at hpl
        generalize hG : partF q.1 (fiveF m lim q.2 i x) 5 = G at *
        simp [go_sem, bigH, mcells, finds, Rw.c, hG]
        refine (show_calls i q.2 x (fun t f c e => by have := hmb t f c e; omega)).at [2, 1] (by simp [go_sem, memH, Rw.v, putV]) ?_
        rintro _ _ ⟨rfl, rfl⟩
        simp [go_sem, memH]
        refine ⟨i + 1, G, putL i (shL x) q.2, ⟨⟨rfl, w1⟩, rfl, rfl⟩, ⟨by omega, by rw [hall]; exact hrun, ?_, by rw [hall]; omega⟩, by omega⟩
        have h1 := MemB.putL (i := (i : Int)) (n := 10 * i) (by omega) (shL x) q.2 hmb
        have h2 : (shL x).length ≤ 10 := by
          rw [shL_eq, List.length_append]
          have := shP_len x (seatsL x).length
          have := seatsL_len x
          split <;> simp <;> omega
        intro t f c e
        have := h1 t f c e
        omega
  · have : i = m.rows.length := by omega
    subst this
    rw [List.drop_of_length_le (Nat.le_refl _), fRun] at hrun
    simp [go_sem, bigH]
    refine hR _ _ _ rfl ?_
    simp [go_sem, he, ← hrun]
end Go.Idl
