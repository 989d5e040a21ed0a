/-
  Chapter 28: what finds faults.
-/
import Derived.Test.YtdnkleclccjffaaC28PartP
namespace Go.Idl
set_option linter.all false
open Go.Proofs
set_option maxHeartbeats 4000000
set_option maxRecDepth 40000

structure Flt where
  k : Int
  row : Int
  p : Int
  o : Int
  deriving DecidableEq
def Flt.c (f : Flt) : List IV := [.int .u8 f.k, .int .i64 f.row, .int .i64 f.p, .int .i64 f.o]
def flts (l : List Flt) : List (List IV) := mp Flt.c l
@[simp] theorem flts_length (l : List Flt) : (flts l).length = l.length := mp_length
@[simp] theorem flts_getElem (l : List Flt) (i : Nat) (h : i < (flts l).length) : (flts l)[i] = [.int .u8 (l[i]'(by simpa using h)).k, .int .i64 (l[i]'(by simpa using h)).row, .int .i64 (l[i]'(by simpa using h)).p, .int .i64 (l[i]'(by simpa using h)).o] := by simp [flts, mp, Flt.c]
theorem flts_snoc {l : List Flt} {f : Flt} : flts (l ++ [f]) = flts l ++ [[.int .u8 f.k, .int .i64 f.row, .int .i64 f.p, .int .i64 f.o]] := mp_snoc
theorem flts_append {l m : List Flt} : flts (l ++ m) = flts l ++ flts m := mp_append
theorem flts_cons {l : List Flt} {f : Flt} : flts (f :: l) = [.int .u8 f.k, .int .i64 f.row, .int .i64 f.p, .int .i64 f.o] :: flts l := rfl
@[go_sem] theorem flts_nil : flts [] = [] := rfl
@[go_sem] theorem ScR_flts {l : List Flt} : ScR (flts l) = True := eq_true (mp_sc (by simp [scal, Flt.c]))
@[go_sem] theorem ClR_flts {l : List Flt} : ClR (flts l) = True := eq_true (ScR.cl (mp_sc (by simp [scal, Flt.c])))
@[go_sem] theorem BlR_flts {n : Nat} {l : List Flt} : BlR n (flts l) = True := eq_true (ScR.bl (mp_sc (by simp [scal, Flt.c])))
theorem flts_one {l : List Flt} : ∀ a ∈ flts l, a.length = 4 ∧ ∀ x ∈ a, IV.one x = true := rows_one (mp_sc (by simp [scal, Flt.c])) (mp_rows (by simp [Flt.c]))

/-- What finders look at: the memory, the movement, the limit, what is shared. -/
def finH (i : Int) (S : Mem) (m : Mv) (lim : Int) : Heap :=
  [.rows 2 [[.int .i64 i, .map 1]], .map (enT S), .rows 6 [[.int .i64 m.tables, .int .i64 m.rounds, .int .i64 m.sets, .int .i64 m.copies, .int .i64 m.winners, .fz 5 (rws m.rows)]], .rows 1 [[.int .i64 lim]], .rows 1 [[.ptr 0 1 0 0]],
   .rows 1 [[.func (.func 76) [] []]], .rows 1 [[.func (.func 77) [] [.ptr 4 1 0 0]]]]

theorem outside_fun (x n : Int) : FN 76 [.int .i64 x, .int .i64 n] (fun v => v = .bool (decide (x < 0) || decide (n ≤ x))) := by
  refine IFun.of_bodyZ false 5 [] Try.func76 rfl Try.call76 rfl fun R hR => ?_
  simp [go_sem]
  exact hR _ _ _ rfl (by simp [go_sem])
def outB (x n : Int) : Bool := decide (x < 0) || decide (n ≤ x)
def wrongF (m : Mv) (occ : Bool) (x : Rw) : Bool := occ || decide (x.ns < 0) || decide (x.ew < 0) || outB x.r m.rounds || outB x.t m.tables || outB x.s m.sets
theorem find1_calls (i : Int) (S : Mem) (m : Mv) (lim : Int) (x : Rw) : ICalls Try.prog [] 79 [x.v, .ptr 4 1 0 0, .ptr 5 1 0 0, .ptr 2 1 0 0] (finH i S m lim)
    (fun v σ' => v = .fz 4 (flts (if wrongF m (aget ⟨1, x.r, x.t⟩ S).isSome x = true then [⟨1, i, x.ns, x.ew⟩] else [])) ∧ σ' = finH i S m lim) := by
  refine ICalls.of_bodyI false 8 [55] Try.func79 rfl Try.call79 rfl fun R hR => ?_
  have hg := mget_t ⟨1, x.r, x.t⟩ S
  simp only [Th.v] at hg
  cases hk : aget ⟨1, x.r, x.t⟩ S with
  | some q =>
    simp [go_sem, Rw.v, finH, hg, hk, mkV2]
    refine ⟨fun a b h => by simpa [go_sem, keyOK] using ok_t S (a, b) h, by decide +kernel, by decide +kernel, hR _ _ _ _ ⟨rfl, rfl⟩ ?_⟩
    simp [go_sem, finH, wrongF, hk, flts_cons]
  | none =>
    have yes : wrongF m (aget ⟨1, x.r, x.t⟩ S).isSome x = true → flts (if wrongF m (aget ⟨1, x.r, x.t⟩ S).isSome x = true then [⟨1, i, x.ns, x.ew⟩] else []) = [[.int .u8 1, .int .i64 i, .int .i64 x.ns, .int .i64 x.ew]] := fun h => by rw [if_pos h]; rfl
    have no : wrongF m (aget ⟨1, x.r, x.t⟩ S).isSome x = false → flts (if wrongF m (aget ⟨1, x.r, x.t⟩ S).isSome x = true then [⟨1, i, x.ns, x.ew⟩] else []) = [] := fun h => by rw [if_neg (by rw [h]; decide)]; rfl
    by_cases h1 : x.ns < 0
    · simp [go_sem, Rw.v, finH, hg, hk, mkV2, h1]
      refine ⟨fun a b h => by simpa [go_sem, keyOK] using ok_t S (a, b) h, by decide +kernel, by decide +kernel, hR _ _ _ _ ⟨rfl, rfl⟩ ?_⟩
      rw [yes (by simp [wrongF, h1])]
      simp [go_sem, finH]
    by_cases h2 : x.ew < 0
    · simp [go_sem, Rw.v, finH, hg, hk, mkV2, h1, h2]
      refine ⟨fun a b h => by simpa [go_sem, keyOK] using ok_t S (a, b) h, by decide +kernel, by decide +kernel, hR _ _ _ _ ⟨rfl, rfl⟩ ?_⟩
      rw [yes (by simp [wrongF, h2])]
      simp [go_sem, finH]
    simp [go_sem, Rw.v, finH, hg, hk, mkV2, h1, h2]
    refine ⟨fun a b h => by simpa [go_sem, keyOK] using ok_t S (a, b) h, by decide +kernel, ?_⟩
    refine (outside_fun x.r m.rounds).callF (by simp [go_sem, finH]) ?_
    rintro _ rfl
    cases h3 : (decide (x.r < 0) || decide (m.rounds ≤ x.r)) with
    | true =>
      simp [go_sem]
      refine ⟨by decide +kernel, hR _ _ _ _ ⟨rfl, rfl⟩ ?_⟩
      rw [yes (by simp [wrongF, outB, h3])]
      simp [go_sem, finH]
    | false =>
      simp [go_sem]
      refine (outside_fun x.t m.tables).callF (by simp [go_sem, finH]) ?_
      rintro _ rfl
      cases h4 : (decide (x.t < 0) || decide (m.tables ≤ x.t)) with
      | true =>
        simp [go_sem]
        refine ⟨by decide +kernel, hR _ _ _ _ ⟨rfl, rfl⟩ ?_⟩
        rw [yes (by simp [wrongF, outB, h4])]
        simp [go_sem, finH]
      | false =>
        simp [go_sem]
        refine (outside_fun x.s m.sets).callF (by simp [go_sem, finH]) ?_
        rintro _ rfl
        cases h5 : (decide (x.s < 0) || decide (m.sets ≤ x.s)) with
        | true =>
          simp [go_sem]
          refine ⟨by decide +kernel, hR _ _ _ _ ⟨rfl, rfl⟩ ?_⟩
          rw [yes (by simp [wrongF, outB, h5])]
          simp [go_sem, finH]
        | false =>
          simp [go_sem]
          refine hR _ _ _ _ ⟨rfl, rfl⟩ ?_
          rw [no (by simp [wrongF, outB, hk, h1, h2, h3, h4, h5])]
          simp [go_sem, finH]
theorem find2_calls (i : Int) (S : Mem) (m : Mv) (lim : Int) (x : Rw) : ICalls Try.prog [] 80 [x.v, .ptr 4 1 0 0] (finH i S m lim)
    (fun v σ' => v = .fz 4 (flts (if 0 < x.ns ∧ x.ns = x.ew then [⟨2, i, x.ns, x.ew⟩] else [])) ∧ σ' = finH i S m lim) := by
  refine ICalls.of_bodyI false 4 [13] Try.func80 rfl Try.call80 rfl fun R hR => ?_
  by_cases h : 0 < x.ns ∧ x.ns = x.ew
  · simp [go_sem, Rw.v, finH, h.1, ← h.2]
    refine ⟨by decide +kernel, hR _ _ _ _ ⟨rfl, rfl⟩ ?_⟩
    rw [if_pos h]
    simp [go_sem, finH, flts_cons, ← h.2]
  · have h' : 0 < x.ns → ¬ x.ns = x.ew := fun h1 h2 => h ⟨h1, h2⟩
    simp [go_sem, Rw.v, finH, h]
    refine hR _ _ _ _ ⟨rfl, rfl⟩ ?_
    rw [if_neg h]
    simp [go_sem, finH]
/-- What a row shows that another has shown before. -/
def ag1 (i k : Int) (S : Mem) (key : Int → Th) (p : Int) : List Flt := match aget (key p) S with
  | none => []
  | some q => [⟨k, i, p, q.1⟩]
def agL (i k : Int) (S : Mem) (key : Int → Th) (l : List Int) : List Flt := l.flatMap (ag1 i k S key)
theorem agL_succ {i k : Int} {S : Mem} {key : Int → Th} {l : List Int} {j : Nat} (h : j < l.length) : agL i k S key (l.take (j + 1)) = agL i k S key (l.take j) ++ ag1 i k S key l[j] := by
  rw [List.take_succ_eq_append_getElem h, agL, List.flatMap_append]; simp [agL]
theorem agL_len {i k : Int} {S : Mem} {key : Int → Th} : ∀ (l : List Int), (agL i k S key l).length ≤ l.length
  | [] => by simp [agL]
  | p :: l => by
    have ih := agL_len (i := i) (k := k) (S := S) (key := key) l
    have h1 : (ag1 i k S key p).length ≤ 1 := by unfold ag1; split <;> simp
    have : agL i k S key (p :: l) = ag1 i k S key p ++ agL i k S key l := by simp [agL]
    rw [this, List.length_append, List.length_cons]; omega
theorem seatsL_len (x : Rw) : (seatsL x).length ≤ 2 := by unfold seatsL; split <;> split <;> simp
theorem again_calls (i : Int) (S : Mem) (m : Mv) (lim k : Int) (x : Rw) (g : FuncId) (key : Int → Th) (hkey : ∀ p, FN g [.int .i64 p, .fptr 5 [x.c] 0 0] (fun v => v = (key p).v)) : ICalls Try.prog [] 77 [.int .u8 k, .func (.func g) [] [.ptr 7 1 0 0], x.v, .ptr 4 1 0 0] (finH i S m lim ++ [.rows 5 [x.c]])
    (fun v σ' => v = .fz 4 (flts (agL i k S key (seatsL x))) ∧ σ' = finH i S m lim ++ [.rows 5 [x.c]]) := by
  refine ICalls.of_bodyI false 13 [14, 15, 16, 17, 31] Try.func77 rfl Try.call77 rfl fun R hR => ?_
  simp [go_sem, Rw.v, Rw.c, finH]
  refine (seats_fun x).callF (by simp [go_sem, finH, Rw.v]) ?_
  rintro _ rfl
  simp [go_sem]
  refine IWp.ownNilS 4 8 (by decide) rfl ?_
  have hsl := seatsL_len x
  refine IWp.loopT (α := Nat) (fun j => (⟨false, 46, 13, [14, 15, 16, 17, 31], [], [(0, .int .u8 k), (1, .func (.func g) [] [.ptr 7 1 0 0]), (3, .ptr 4 1 0 0), (7, .nils), (8, .sl 9 (agL i k S key ((seatsL x).take j)).length 0 (agL i k S key ((seatsL x).take j)).length none), (14, .fz 1 (ints (seatsL x))), (15, .int .i64 (seatsL x).length), (16, .int .i64 (j : Int))], []⟩,
      finH i S m lim ++ [.rows 5 [x.c], .dead, .rows 4 (flts (agL i k S key ((seatsL x).take j)))]))
    (fun j => j ≤ (seatsL x).length) (fun j => (seatsL x).length - j) 0 (by simp) (by simp [go_sem, finH, agL, Rw.c]) ?_
  intro j hj
  by_cases h : j < (seatsL x).length
  · have w1 : IntKind.i64.wrap ((j : Int) + 1) = j + 1 := wrap64 (by omega) (by omega)
    have hs := agL_succ (i := i) (k := k) (S := S) (key := key) h
    have hl := agL_len (i := i) (k := k) (S := S) (key := key) ((seatsL x).take j)
    have hl2 : ((seatsL x).take j).length ≤ 2 := by simp; omega
    have c := hkey (seatsL x)[j]
    generalize hp : (seatsL x)[j] = p at *
    have hg := mget_t (key p) S
    simp only [Th.v, Rw.c] at hg c
    cases hk : aget (key p) S with
    | none =>
      simp only [ag1, hk, List.append_nil] at hs
      simp [go_sem, finH, Rw.c, h, hp]
      refine Drawn.intro (fun x => if x = 6 then (key p).v else .tup []) ?_
      simp [go_sem, Th.v, c, hg, hk, Rw.c]
      refine ⟨fun a b h => by simpa [go_sem, keyOK] using ok_t S (a, b) h, by decide +kernel, j + 1, ⟨⟨by rw [hs], w1⟩, by rw [hs]⟩, by omega, by omega⟩
    | some q =>
      simp only [ag1, hk] at hs
      simp [go_sem, finH, Rw.c, h, hp]
      refine Drawn.intro (fun x => if x = 6 then (key p).v else .tup []) ?_
      simp [go_sem, Th.v, c, hg, hk, mkV2, Rw.c]
      refine ⟨fun a b h => by simpa [go_sem, keyOK] using ok_t S (a, b) h, by decide +kernel, by omega, by decide +kernel, j + 1, ⟨⟨by rw [hs]; simp, w1⟩, by rw [hs, flts_snoc]⟩, by omega, by omega⟩
  · have : j = (seatsL x).length := by omega
    subst this
    simp [go_sem, finH]
    refine hR _ _ _ _ ⟨rfl, rfl⟩ ?_
    simp [go_sem, finH, Rw.c]
def key3 (x : Rw) (p : Int) : Th := ⟨3, x.r, p⟩
def key5 (x : Rw) (p : Int) : Th := ⟨5, p, x.s⟩
theorem key3_fun (x : Rw) (p : Int) : FN 82 [.int .i64 p, .fptr 5 [x.c] 0 0] (fun v => v = (key3 x p).v) := by
  refine IFun.of_bodyZ false 4 [] Try.func82 rfl Try.call82 rfl fun R hR => ?_
  simp [go_sem, Rw.c]
  exact hR _ _ _ rfl (by simp [go_sem, key3, Th.v])
theorem key5_fun (x : Rw) (p : Int) : FN 85 [.int .i64 p, .fptr 5 [x.c] 0 0] (fun v => v = (key5 x p).v) := by
  refine IFun.of_bodyZ false 4 [] Try.func85 rfl Try.call85 rfl fun R hR => ?_
  simp [go_sem, Rw.c]
  exact hR _ _ _ rfl (by simp [go_sem, key5, Th.v])
theorem find3_calls (i : Int) (S : Mem) (m : Mv) (lim : Int) (x : Rw) : ICalls Try.prog [] 81 [x.v, .ptr 6 1 0 0] (finH i S m lim)
    (fun v σ' => v = .fz 4 (flts (agL i 3 S (key3 x) (seatsL x))) ∧ σ' = finH i S m lim) := by
  refine ICalls.of_bodyI false 4 [] Try.func81 rfl Try.call81 rfl fun R hR => ?_
  simp [go_sem, Rw.v, finH]
  refine (again_calls i S m lim 3 x 82 (key3 x) (key3_fun x)).at [0, 1, 2, 3, 4, 5, 6, 7] (by simp [go_sem, finH, Rw.v, Rw.c]) ?_
  rintro _ _ ⟨rfl, rfl⟩
  simp [go_sem, finH, Rw.c]
  refine hR _ _ _ _ ⟨rfl, rfl⟩ ?_
  simp [go_sem, finH]
theorem find5_calls (i : Int) (S : Mem) (m : Mv) (lim : Int) (x : Rw) : ICalls Try.prog [] 84 [x.v, .ptr 6 1 0 0] (finH i S m lim)
    (fun v σ' => v = .fz 4 (flts (if meetB x = true then agL i 5 S (key5 x) (seatsL x) else [])) ∧ σ' = finH i S m lim) := by
  refine ICalls.of_bodyI false 4 [6] Try.func84 rfl Try.call84 rfl fun R hR => ?_
  simp [go_sem, Rw.v, finH]
  refine (meet_fun x).callF (by simp [go_sem, Rw.v, finH]) ?_
  rintro _ rfl
  cases h : meetB x with
  | false =>
    simp [go_sem]
    refine hR _ _ _ _ ⟨rfl, rfl⟩ ?_
    simp [go_sem, finH, h]
  | true =>
    simp [go_sem]
    refine (again_calls i S m lim 5 x 85 (key5 x) (key5_fun x)).at [0, 1, 2, 3, 4, 5, 6, 7] (by simp [go_sem, finH, Rw.v, Rw.c]) ?_
    rintro _ _ ⟨rfl, rfl⟩
    simp [go_sem, finH, Rw.c]
    refine hR _ _ _ _ ⟨rfl, rfl⟩ ?_
    simp [go_sem, finH, h]
def cntM2 (t : Th) (S : Mem) : Int := ((aget t S).map (·.2)).getD 0
theorem find4_calls (i : Int) (S : Mem) (m : Mv) (lim : Int) (x : Rw) : ICalls Try.prog [] 83 [x.v, .ptr 4 1 0 0, .ptr 2 1 0 0] (finH i S m lim)
    (fun v σ' => v = .fz 4 (flts (if m.copies ≤ cntM2 ⟨4, x.r, x.s⟩ S then [⟨4, i, x.s, cntM2 ⟨4, x.r, x.s⟩ S⟩] else [])) ∧ σ' = finH i S m lim) := by
  refine ICalls.of_bodyI false 6 [20] Try.func83 rfl Try.call83 rfl fun R hR => ?_
  have hg := mget_t ⟨4, x.r, x.s⟩ S
  simp only [Th.v] at hg
  have hc : ∃ f c, (Option.map mkV2 (aget ⟨4, x.r, x.s⟩ S)).getD (.agg [.int .i64 0, .int .i64 0]) = .agg [.int .i64 f, .int .i64 c] ∧ cntM2 ⟨4, x.r, x.s⟩ S = c := by
    cases hk : aget ⟨4, x.r, x.s⟩ S with
    | none => exact ⟨0, 0, by simp, by simp [cntM2, hk]⟩
    | some q => exact ⟨q.1, q.2, by simp [mkV2], by simp [cntM2, hk]⟩
  obtain ⟨f, c, h1, h2⟩ := hc
  rw [h2] at hR
  by_cases h : m.copies ≤ c
  · simp [go_sem, Rw.v, finH, hg, h1, h]
    refine ⟨fun a b h => by simpa [go_sem, keyOK] using ok_t S (a, b) h, by decide +kernel, by decide +kernel, hR _ _ _ _ ⟨rfl, rfl⟩ ?_⟩
    simp [go_sem, finH, h, flts_cons]
  · simp [go_sem, Rw.v, finH, hg, h1, h]
    refine ⟨fun a b h => by simpa [go_sem, keyOK] using ok_t S (a, b) h, by decide +kernel, hR _ _ _ _ ⟨rfl, rfl⟩ ?_⟩
    simp [go_sem, finH, h]
theorem find6_calls (i : Int) (S : Mem) (m : Mv) (lim : Int) (x : Rw) : ICalls Try.prog [] 86 [x.v, .ptr 4 1 0 0, .ptr 3 1 0 0] (finH i S m lim)
    (fun v σ' => v = .fz 4 (flts (if meetB x = true ∧ lim ≤ cntM2 (encT x) S then [⟨6, i, x.ns, x.ew⟩] else [])) ∧ σ' = finH i S m lim) := by
  refine ICalls.of_bodyI false 5 [18] Try.func86 rfl Try.call86 rfl fun R hR => ?_
  have hg := mget_t (encT x) S
  have c1 := meet_fun x
  have c2 := encounter_fun x
  simp only [Th.v, Rw.v] at hg c1 c2
  have hc : ∃ f c, (Option.map mkV2 (aget (encT x) S)).getD (.agg [.int .i64 0, .int .i64 0]) = .agg [.int .i64 f, .int .i64 c] ∧ cntM2 (encT x) S = c := by
    cases hk : aget (encT x) S with
    | none => exact ⟨0, 0, by simp, by simp [cntM2, hk]⟩
    | some q => exact ⟨q.1, q.2, by simp [mkV2], by simp [cntM2, hk]⟩
  obtain ⟨f, c, h1, h2⟩ := hc
  rw [h2] at hR
  cases hm : meetB x with
  | false =>
    simp [go_sem, Rw.v, finH]
    refine Drawn.intro (fun k => if k = 1 then .bool false else if k = 8 then (encT x).v else .tup []) ?_
    simp [go_sem, Th.v, hm, c1, c2, hg, h1]
    refine ⟨.inl (by simpa [hm] using c1), by decide +kernel, hR _ _ _ _ ⟨rfl, rfl⟩ ?_⟩
    simp [go_sem, finH, hm]
  | true =>
    simp [go_sem, Rw.v, finH]
    refine Drawn.intro (fun k => if k = 1 then .bool true else if k = 8 then (encT x).v else .tup []) ?_
    by_cases h : lim ≤ c
    · simp [go_sem, Th.v, hm, c1, c2, hg, h1, h]
      refine ⟨.inl (by simpa [hm] using c1), fun a b h => by simpa [go_sem, keyOK] using ok_t S (a, b) h, by decide +kernel, by decide +kernel, hR _ _ _ _ ⟨rfl, rfl⟩ ?_⟩
      simp [go_sem, finH, hm, h, flts_cons]
    · simp [go_sem, Th.v, hm, c1, c2, hg, h1, h]
      refine ⟨.inl (by simpa [hm] using c1), fun a b h => by simpa [go_sem, keyOK] using ok_t S (a, b) h, by decide +kernel, hR _ _ _ _ ⟨rfl, rfl⟩ ?_⟩
      simp [go_sem, finH, hm, h]
end Go.Idl
