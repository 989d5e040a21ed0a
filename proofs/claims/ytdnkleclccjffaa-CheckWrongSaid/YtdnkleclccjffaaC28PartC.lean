/-
  What the walks share: rows, movements, lists of integers.
  Lists that increase: sorted and compacted lists; two that increase, with the same elements, are one.
  Arguments of the laws, as they come in: rows, movements.
  slices.Delete at rows.
  Lists of bytes and of short integers, as arguments.
  The verifier's kit: mark, SameInts.
  The verifier's kit: rows lent.
-/
import Derived.Test.YtdnkleclccjffaaC28PartA
import Derived.Test.YtdnkleclccjffaaIdlPartI
import Derived.Test.YtdnkleclccjffaaIdlPartJ
import Derived.Test.YtdnkleclccjffaaIdlPartK
import Derived.Test.YtdnkleclccjffaaIdlPartH
import Derived.OpenShut
import Derived.Test.YtdnkleclccjffaaIdlPartL
namespace Go.Idl
set_option linter.all false
open Go.Proofs
set_option maxHeartbeats 4000000
set_option maxRecDepth 40000

/-- A row: round, table, north-south, east-west, set. -/
structure Rw where
  r : Int
  t : Int
  ns : Int
  ew : Int
  s : Int
  deriving DecidableEq
def Rw.c (x : Rw) : List IV := [.int .i64 x.r, .int .i64 x.t, .int .i64 x.ns, .int .i64 x.ew, .int .i64 x.s]
def rws (l : List Rw) : List (List IV) := mp Rw.c l
@[simp] theorem rws_length (l : List Rw) : (rws l).length = l.length := mp_length
@[simp] theorem rws_getElem (l : List Rw) (i : Nat) (h : i < (rws l).length) : (rws l)[i] = [.int .i64 (l[i]'(by simpa using h)).r, .int .i64 (l[i]'(by simpa using h)).t, .int .i64 (l[i]'(by simpa using h)).ns, .int .i64 (l[i]'(by simpa using h)).ew, .int .i64 (l[i]'(by simpa using h)).s] := by simp [rws, mp, Rw.c]
theorem rws_snoc {l : List Rw} {x : Rw} : rws (l ++ [x]) = rws l ++ [[.int .i64 x.r, .int .i64 x.t, .int .i64 x.ns, .int .i64 x.ew, .int .i64 x.s]] := mp_snoc
theorem rws_append {l m : List Rw} : rws (l ++ m) = rws l ++ rws m := mp_append
@[go_sem] theorem rws_nil : rws [] = [] := rfl
@[go_sem] theorem ScR_rws {l : List Rw} : ScR (rws l) = True := eq_true (mp_sc (by simp [scal, Rw.c]))
@[go_sem] theorem ClR_rws {l : List Rw} : ClR (rws l) = True := eq_true (ScR.cl (mp_sc (by simp [scal, Rw.c])))
@[go_sem] theorem BlR_rws {n : Nat} {l : List Rw} : BlR n (rws l) = True := eq_true (ScR.bl (mp_sc (by simp [scal, Rw.c])))
theorem rws_rows {l : List Rw} : ∀ r ∈ rws l, r.length = 5 := mp_rows (by simp [Rw.c])
theorem rws_one {l : List Rw} : ∀ a ∈ rws l, a.length = 5 ∧ ∀ x ∈ a, IV.one x = true := rows_one (mp_sc (by simp [scal, Rw.c])) rws_rows
theorem rws_cons {l : List Rw} {x : Rw} : rws (x :: l) = [.int .i64 x.r, .int .i64 x.t, .int .i64 x.ns, .int .i64 x.ew, .int .i64 x.s] :: rws l := rfl
theorem rws_take {l : List Rw} {n : Nat} : rws (l.take n) = (rws l).take n := mp_take
theorem rws_drop {l : List Rw} {n : Nat} : rws (l.drop n) = (rws l).drop n := mp_drop
theorem rws_set {l : List Rw} {i : Nat} {x : Rw} : rws (l.set i x) = (rws l).set i x.c := mp_set
theorem rws_rep {n : Nat} {x : Rw} : List.replicate n x.c = rws (List.replicate n x) := by simp [rws, mp]
def ints (l : List Int) : List (List IV) := mp (fun x => [.int .i64 x]) l
@[simp] theorem ints_length (l : List Int) : (ints l).length = l.length := mp_length
@[simp] theorem ints_getElem (l : List Int) (i : Nat) (h : i < (ints l).length) : (ints l)[i] = [.int .i64 (l[i]'(by simpa using h))] := by simp [ints, mp]
theorem ints_snoc {l : List Int} {x : Int} : ints (l ++ [x]) = ints l ++ [[.int .i64 x]] := mp_snoc
theorem ints_append {l m : List Int} : ints (l ++ m) = ints l ++ ints m := mp_append
@[go_sem] theorem ints_nil : ints [] = [] := rfl
@[go_sem] theorem ScR_ints {l : List Int} : ScR (ints l) = True := eq_true (mp_sc (by simp [scal]))
@[go_sem] theorem ClR_ints {l : List Int} : ClR (ints l) = True := eq_true (ScR.cl (mp_sc (by simp [scal])))
@[go_sem] theorem BlR_ints {n : Nat} {l : List Int} : BlR n (ints l) = True := eq_true (ScR.bl (mp_sc (by simp [scal])))
theorem ints_rows {l : List Int} : ∀ r ∈ ints l, r.length = 1 := mp_rows (by simp)
theorem ints_one {l : List Int} : ∀ a ∈ ints l, a.length = 1 ∧ ∀ x ∈ a, IV.one x = true := rows_one (mp_sc (by simp [scal])) ints_rows
theorem ints_cons {l : List Int} {x : Int} : ints (x :: l) = [.int .i64 x] :: ints l := rfl
theorem ints_take {l : List Int} {n : Nat} : ints (l.take n) = (ints l).take n := mp_take
theorem ints_drop {l : List Int} {n : Nat} : ints (l.drop n) = (ints l).drop n := mp_drop
theorem ints_set {l : List Int} {i : Nat} {x : Int} : ints (l.set i x) = (ints l).set i [.int .i64 x] := mp_set
/-- A movement; its rows. -/
structure Mv where
  tables : Int
  rounds : Int
  sets : Int
  copies : Int
  winners : Int
  rows : List Rw
  deriving DecidableEq
def Mv.v (m : Mv) : IV := .agg [.int .i64 m.tables, .int .i64 m.rounds, .int .i64 m.sets, .int .i64 m.copies, .int .i64 m.winners, .fz 5 (rws m.rows)]
def Rw.v (x : Rw) : IV := .agg [.int .i64 x.r, .int .i64 x.t, .int .i64 x.ns, .int .i64 x.ew, .int .i64 x.s]
/-- A session. -/
def sesV (m : Mv) (boards : Int) : IV := .agg [.int .i64 m.tables, .int .i64 m.rounds, .int .i64 m.sets, .int .i64 m.copies, .int .i64 m.winners, .fz 5 (rws m.rows), .int .i64 boards]
/-- A function of the program. -/
abbrev FN (f : FuncId) (args : List IV) (V : IV → Prop) : Prop := IFun true Try.prog [] f args V
abbrev ON (f : FuncId) (args : List IV) (V : IV → Prop) : Prop := IFun false Try.prog [] f args V
end Go.Idl
namespace Go.Idl
set_option linter.all false
open Go.Lib

def Inc (l : List Int) : Prop := l.Pairwise (· < ·)
theorem Inc.ext {a b : List Int} (ha : Inc a) (hb : Inc b) (h : ∀ x, x ∈ a ↔ x ∈ b) : a = b := by
  have na : a.Nodup := ha.imp fun h => by omega
  have nb : b.Nodup := hb.imp fun h => by omega
  have p : a.Perm b := (List.perm_ext_iff_of_nodup na nb).2 h
  exact List.Perm.eq_of_pairwise (fun x y _ _ h1 h2 => by omega) ha hb p
theorem compactUpTo_spec (d : Array Int) (hs : ∀ i j, i ≤ j → j < d.size → d[i]! ≤ d[j]!) : ∀ m, m ≤ d.size → Inc (compactUpTo d m) ∧ ∀ x, x ∈ compactUpTo d m ↔ ∃ j, j < m ∧ d[j]! = x := by
  intro m
  induction m with
  | zero => intro _; exact ⟨by simp [compactUpTo, Inc], fun x => by simp [compactUpTo]⟩
  | succ m ih =>
    intro hm
    obtain ⟨h1, h2⟩ := ih (by omega)
    rw [compactUpTo_succ]
    cases hk : keeps d m with
    | true =>
      simp only [if_true]
      refine ⟨?_, fun x => ?_⟩
      · refine List.pairwise_append.2 ⟨h1, by simp, fun a ha b hb => ?_⟩
        rw [List.mem_singleton] at hb
        subst hb
        obtain ⟨j, hj, rfl⟩ := (h2 a).1 ha
        have e1 := hs j (m - 1) (by omega) (by omega)
        have e2 := hs (m - 1) m (by omega) (by omega)
        unfold keeps at hk
        simp at hk
        have : d[m]! ≠ d[m - 1]! := by
          rcases hk with hk | hk
          · omega
          · simpa using hk
        omega
      · rw [List.mem_append, h2, List.mem_singleton]
        constructor
        · rintro (⟨j, hj, rfl⟩ | rfl)
          · exact ⟨j, by omega, rfl⟩
          · exact ⟨m, by omega, rfl⟩
        · rintro ⟨j, hj, rfl⟩
          by_cases e : j = m
          · subst e; exact .inr rfl
          · exact .inl ⟨j, by omega, rfl⟩
    | false =>
      simp only [Bool.false_eq_true, if_false, List.append_nil]
      refine ⟨h1, fun x => ?_⟩
      rw [h2]
      constructor
      · rintro ⟨j, hj, rfl⟩; exact ⟨j, by omega, rfl⟩
      · rintro ⟨j, hj, rfl⟩
        by_cases e : j = m
        · subst e
          unfold keeps at hk
          simp at hk
          exact ⟨j - 1, by omega, by simpa using hk.2.symm⟩
        · exact ⟨j, by omega, rfl⟩
theorem compact_inc {l : List Int} (hs : l.Pairwise (· ≤ ·)) : Inc (compact l) ∧ ∀ x, x ∈ compact l ↔ x ∈ l := by
  have h := compactUpTo_spec l.toArray (fun i j hij hj => by
    simp at hj
    rcases Nat.lt_or_ge i j with h | h
    · have := List.pairwise_iff_getElem.1 hs i j (by omega) hj h
      simpa [hj, Nat.lt_trans h hj] using this
    · have : i = j := by omega
      subst this; exact Int.le_refl _) l.length (by simp)
  refine ⟨h.1, fun x => ?_⟩
  unfold compact
  rw [h.2, List.mem_iff_getElem]
  constructor
  · rintro ⟨j, hj, e⟩; exact ⟨j, hj, by simpa [hj] using e⟩
  · rintro ⟨j, hj, e⟩; exact ⟨j, hj, by simpa [hj] using e⟩
theorem sortI (l : List Int) : (l.mergeSort fun x y => decide (x ≤ y)).Pairwise (· ≤ ·) := by
  have := List.pairwise_mergeSort (le := fun x y : Int => decide (x ≤ y)) (fun a b c h1 h2 => by simp at *; omega) (fun a b => by simp; omega) l
  exact this.imp fun h => by simpa using h
/-- Sorted, each once. -/
def srt (l : List Int) : List Int := compact (l.mergeSort fun x y => decide (x ≤ y))
theorem srt_inc (l : List Int) : Inc (srt l) := (compact_inc (sortI l)).1
theorem srt_mem {l : List Int} {x : Int} : x ∈ srt l ↔ x ∈ l := by
  unfold srt
  rw [(compact_inc (sortI l)).2, List.mem_mergeSort]
theorem srt_eq {l a : List Int} (ha : Inc a) (h : ∀ x, x ∈ a ↔ x ∈ l) : srt l = a := (srt_inc l).ext ha fun x => by rw [srt_mem, h]
end Go.Idl
namespace Go.Idl
set_option linter.all false
open Go.RowKit Go.Proofs

theorem fitL_int {k : IntKind} {l : List Shp} {r : List IV} (h : fitL (.int k :: l) r) : ∃ (z : Int) (cs : List IV), r = .int k z :: cs ∧ (Lit.int k z).wf = true ∧ fitL l cs := by
  obtain ⟨c, cs, rfl, h1, h2⟩ := fitL_cons h
  obtain ⟨z, rfl, hz⟩ := fit_int h1
  exact ⟨z, cs, rfl, hz, h2⟩
theorem fit_rows {c : IV} (h : (Shp.fz 5 [.int .i64, .int .i64, .int .i64, .int .i64, .int .i64]).fit c) : ∃ l : List Rw, c = .fz 5 (rws l) ∧ (∀ x ∈ l, True) ∧ l.length ≤ maxLen :=
  fit_list (f := Rw.c) (fun r hr => by
    obtain ⟨a, r1, rfl, _, h1⟩ := fitL_int hr
    obtain ⟨b, r2, rfl, _, h2⟩ := fitL_int h1
    obtain ⟨c, r3, rfl, _, h3⟩ := fitL_int h2
    obtain ⟨d, r4, rfl, _, h4⟩ := fitL_int h3
    obtain ⟨e, r5, rfl, _, h5⟩ := fitL_int h4
    obtain rfl := fitL_nil h5
    exact ⟨⟨a, b, c, d, e⟩, rfl, trivial⟩) h
def Mv.cells (m : Mv) : List IV := [.int .i64 m.tables, .int .i64 m.rounds, .int .i64 m.sets, .int .i64 m.copies, .int .i64 m.winners, .fz 5 (rws m.rows)]
theorem fit_mv {cs : List IV} (h : fitL [.int .i64, .int .i64, .int .i64, .int .i64, .int .i64, .fz 5 [.int .i64, .int .i64, .int .i64, .int .i64, .int .i64]] cs) :
    ∃ q : Mv, cs = q.cells := by
  obtain ⟨a, r1, rfl, _, h1⟩ := fitL_int h
  obtain ⟨b, r2, rfl, _, h2⟩ := fitL_int h1
  obtain ⟨c, r3, rfl, _, h3⟩ := fitL_int h2
  obtain ⟨d, r4, rfl, _, h4⟩ := fitL_int h3
  obtain ⟨e, r5, rfl, _, h5⟩ := fitL_int h4
  obtain ⟨x, r6, rfl, hx, h6⟩ := fitL_cons h5
  obtain rfl := fitL_nil h6
  obtain ⟨l, rfl, _⟩ := fit_rows hx
  exact ⟨⟨a, b, c, d, e, l⟩, rfl⟩
theorem wf64 {z : Int} (h : (Lit.int .i64 z).wf = true) : -2 ^ 63 ≤ z ∧ z < 2 ^ 63 := by
  have := bounds_i64 h; omega
theorem wf8 {z : Int} (h : (Lit.int .u8 z).wf = true) : 0 ≤ z ∧ z < 256 := by
  have := bounds_u8 h; omega
end Go.Idl
namespace Go.Idl
set_option linter.all false
open Go.Proofs
set_option maxHeartbeats 8000000
set_option maxRecDepth 40000

theorem deleteRows_some (l : List Rw) (rest : List (List IV)) (i c : Nat) (hi : i < l.length) (hc : l.length + rest.length = c) (hl : l.length ≤ 2 ^ 62) :
    ICalls Try.prog [] 26 [.sl 0 c 0 l.length (some c), .int .i64 i, .int .i64 ((i : Int) + 1)] [.rows 5 (rws l ++ rest)]
      (fun v σ => v = .sl 0 c 0 (l.length - 1) (some c) ∧ σ = [.rows 5 (rws (l.eraseIdx i) ++ [.int .i64 0, .int .i64 0, .int .i64 0, .int .i64 0, .int .i64 0] :: rest)]) := by
  refine ICalls.of_bodyE false 8 [16] Try.func26 rfl Try.call26 rfl fun R hR => ?_
  have w1 : IntKind.i64.wrap ((l.length : Int)) = l.length := wrap64 (by omega) (by omega)
  have a1 : ¬ ((i : Int) = i + 1) := by omega
  have a2 : (i : Int) ≤ l.length := by omega
  have a3 : (i : Int) + 1 ≤ l.length := by omega
  have a4 : ((i : Int) + 1).toNat = i + 1 := by omega
  have a5 : (i : Int) ≤ c := by omega
  have a6 : l.length ≤ c := by omega
  have a7 : (0 : Int) ≤ i := by omega
  have a8 : (i : Int) ≤ i + 1 := by omega
  have a9 : (0 : Int) ≤ i + 1 := by omega
  obtain ⟨k, hk⟩ : ∃ k, l.length - (i + 1) = k := ⟨_, rfl⟩
  have b1 : min k (c - (i + 1)) = k := by omega
  have b2 : i + k ≤ c := by omega
  have b3 : i + k = l.length - 1 := by omega
  have b4 : i + 1 + k ≤ c := by omega
  have b5 : l.length - (i + k) = 1 := by omega
  have b6 : i ≤ c := by omega
  have b7 : (List.take k (List.drop (i + 1) (rws l ++ rest))) = rws (l.drop (i + 1)) := by
    rw [List.drop_append_of_le_length (by simp; omega), List.take_append_of_le_length (by simp; omega), List.take_of_length_le (by simp; omega), rws_drop]
  have b8 : (l.drop (i + 1)).length = k := by simp; omega
  obtain ⟨J, hJ⟩ : ∃ J, i + k = J := ⟨_, rfl⟩
  rw [hJ] at b2 b3 b5
  have b9 : (J : Int) ≤ l.length := by omega
  have c1 : J + 1 = l.length := by omega
  have c2 : i + (k + (c - J)) = c := by omega
  have c3 : J + 1 ≤ c := by omega
  have c4 : List.take J (List.take i (rws l ++ rest) ++ (rws (List.drop (i + 1) l) ++ List.drop J (rws l ++ rest))) = rws (l.eraseIdx i) := by
    have h1 : List.take i (rws l ++ rest) = rws (l.take i) := by rw [List.take_append_of_le_length (by simp; omega), rws_take]
    rw [h1, ← List.append_assoc, ← rws_append, List.take_append_of_le_length (by simp; omega), List.take_of_length_le (by simp; omega), List.eraseIdx_eq_take_drop_succ]
  have c5 : List.drop (J + 1) (List.take i (rws l ++ rest) ++ (rws (List.drop (i + 1) l) ++ List.drop J (rws l ++ rest))) = rest := by
    have h1 : List.take i (rws l ++ rest) = rws (l.take i) := by rw [List.take_append_of_le_length (by simp; omega), rws_take]
    have h2 : (rws (List.take i l ++ List.drop (i + 1) l)).length = J := by simp; omega
    rw [h1, ← List.append_assoc, ← rws_append, List.drop_append, h2, List.drop_of_length_le (by omega), show J + 1 - J = 1 by omega, List.drop_drop, List.drop_append, List.drop_of_length_le (by simp; omega)]
    simp [c1]
  simp [go_sem, a1, a2, a3, a4, a5, a6, a7, a8, a9, hc, hk, b1, b2, b4, b5, b6, b7, b8, hJ, b9, c2]
  refine ⟨fun r hr => rws_one r hr, by decide +kernel, ?_⟩
  refine ⟨c3, ?_⟩
  rw [c4, c5, b3]
  exact hR _ _ ⟨rfl, rfl⟩
theorem deleteRows_junk (l : List Rw) (i : Nat) (hi : i < l.length) (hl : l.length ≤ 2 ^ 62) :
    ICalls Try.prog [] 26 [.sl 0 l.length 0 l.length none, .int .i64 i, .int .i64 ((i : Int) + 1)] [.rows 5 (rws l)]
      (fun v σ => ∃ k : Nat, v = .sl 0 (l.length + k) 0 (l.length - 1) (some (l.length + k)) ∧ σ = [.rows 5 (rws (l.eraseIdx i) ++ [.int .i64 0, .int .i64 0, .int .i64 0, .int .i64 0, .int .i64 0] :: List.replicate k (List.replicate 5 .junk))]) := by
  refine ICalls.room (s := 5) (rs := rws l) rfl (by simp) fun cap hcap => ?_
  refine (deleteRows_some l (List.replicate (cap - l.length) (List.replicate 5 .junk)) i cap hi (by simp; omega) hl).mono ?_
  rintro _ _ ⟨rfl, rfl⟩
  refine ⟨cap - l.length, ?_, rfl⟩
  rw [show l.length + (cap - l.length) = cap by omega]
theorem deleteRows_none (l : List Rw) (i : Nat) (hi : i < l.length) (hl : l.length ≤ 2 ^ 62) :
    ICalls Try.prog [] 26 [.sl 0 l.length 0 l.length none, .int .i64 i, .int .i64 ((i : Int) + 1)] [.rows 5 (rws l)]
      (fun v σ => ∃ rest : List (List IV), v = .sl 0 (l.length + rest.length) 0 (l.length - 1) (some (l.length + rest.length)) ∧ σ = [.rows 5 (rws (l.eraseIdx i) ++ [.int .i64 0, .int .i64 0, .int .i64 0, .int .i64 0, .int .i64 0] :: rest)]) :=
  (deleteRows_junk l i hi hl).mono fun v σ ⟨k, h1, h2⟩ => ⟨List.replicate k (List.replicate 5 .junk), by simpa using h1, h2⟩
end Go.Idl
namespace Go.Idl
set_option linter.all false
open Go.RowKit Go.Proofs

def bys (k : IntKind) (l : List Int) : List (List IV) := mp (fun x => [.int k x]) l
@[simp] theorem bys_length (k : IntKind) (l : List Int) : (bys k l).length = l.length := mp_length
@[simp] theorem bys_getElem (k : IntKind) (l : List Int) (i : Nat) (h : i < (bys k l).length) : (bys k l)[i] = [.int k (l[i]'(by simpa using h))] := by simp [bys, mp]
@[go_sem] theorem bys_nil {k : IntKind} : bys k [] = [] := rfl
@[go_sem] theorem ScR_bys {k : IntKind} {l : List Int} : ScR (bys k l) = True := eq_true (mp_sc (by simp [scal]))
@[go_sem] theorem ClR_bys {k : IntKind} {l : List Int} : ClR (bys k l) = True := eq_true (ScR.cl (mp_sc (by simp [scal])))
@[go_sem] theorem BlR_bys {k : IntKind} {n : Nat} {l : List Int} : BlR n (bys k l) = True := eq_true (ScR.bl (mp_sc (by simp [scal])))
theorem bys_take {k : IntKind} {l : List Int} {n : Nat} : bys k (l.take n) = (bys k l).take n := mp_take
theorem fit_bys {k : IntKind} {c : IV} (h : (Shp.fz 1 [.int k]).fit c) : ∃ l : List Int, c = .fz 1 (bys k l) ∧ (∀ x ∈ l, (Lit.int k x).wf = true) ∧ l.length ≤ maxLen :=
  fit_list (f := fun x => [.int k x]) (fun r hr => by
    obtain ⟨a, r1, rfl, ha, h1⟩ := fitL_int hr
    obtain rfl := fitL_nil h1
    exact ⟨a, rfl, ha⟩) h
end Go.Idl
namespace Go.Idl
set_option linter.all false
open Go.Proofs
set_option maxHeartbeats 4000000
set_option maxRecDepth 40000

theorem mark_fun (k i : Int) (hk : 0 ≤ k ∧ k ≤ 10) (hi : 0 ≤ i ∧ i < 2 ^ 60) : FN 63 [.int .i64 k, .int .i64 i] (fun v => v = .int .i64 (1000003 * (k + 7) + i)) := by
  refine IFun.of_bodyZ false 5 [] Try.func63 rfl Try.call63 rfl fun R hR => ?_
  have w1 : IntKind.i64.wrap (k + 7) = k + 7 := wrap64 (by omega) (by omega)
  have w2 : IntKind.i64.wrap (1000003 * (k + 7)) = 1000003 * (k + 7) := wrap64 (by omega) (by omega)
  have w3 : IntKind.i64.wrap (1000003 * (k + 7) + i) = 1000003 * (k + 7) + i := wrap64 (by omega) (by omega)
  simp [go_sem, w1, w2, w3]
  exact hR _ _ _ rfl (by simp [go_sem])
theorem sameInts_fun (a b : List Int) (ha : a.length ≤ 2 ^ 62) : FN 37 [.fz 1 (ints a), .fz 1 (ints b)] (fun v => v = .bool (decide (a = b))) := by
  refine IFun.of_bodyZ false 6 [10, 14, 25] Try.func37 rfl Try.call37 rfl fun R hR => ?_
  by_cases hlen : a.length = b.length
  case neg =>
    have hI : ¬ (a.length : Int) = b.length := by omega
    have e : ¬ a = b := fun e => hlen (by rw [e])
    simp [go_sem, hlen, hI]
    exact hR _ _ _ rfl (by simp [go_sem, e])
  simp [go_sem, hlen]
  refine IWp.loopT (α := Nat) (fun i => (⟨false, 26, 6, [10, 14, 25], [], [(0, .fz 1 (ints a)), (1, .fz 1 (ints b)), (5, .int .i64 (i : Int))], []⟩, []))
    (fun i => i ≤ a.length ∧ a.take i = b.take i) (fun i => a.length - i) 0 (by simp) (by simp [go_sem]) ?_
  rintro i ⟨hi, he⟩
  by_cases h : i < a.length
  · have h' : i < b.length := by omega
    have w1 : IntKind.i64.wrap ((i : Int) + 1) = i + 1 := wrap64 (by omega) (by omega)
    by_cases hxy : a[i] = b[i]
    · simp [go_sem, h, h', hxy, w1]
      exact ⟨by decide +kernel, i + 1, by omega, ⟨by omega, by rw [List.take_succ_eq_append_getElem h, List.take_succ_eq_append_getElem h', he, hxy]⟩, by omega⟩
    · have e : ¬ a = b := fun e => hxy (by subst e; rfl)
      simp [go_sem, h, h', hxy]
      exact ⟨by decide +kernel, hR _ _ _ rfl (by simp [go_sem, e])⟩
  · have e : a = b := by
      rw [List.take_of_length_le (by omega), List.take_of_length_le (by omega)] at he
      exact he
    have h' : ¬ i < b.length := by omega
    simp [go_sem, h, h']
    exact hR _ _ _ rfl (by simp [go_sem, e])
end Go.Idl
namespace Go.Idl
set_option linter.all false
open Go.Proofs
set_option maxHeartbeats 4000000
set_option maxRecDepth 40000

def mkR (k i : Int) : Rw := ⟨0, 0, 1000003 * (k + 7) + i, 0, 0⟩
def mks (n : Nat) : List Rw := (List.range n).map fun i : Nat => mkR 1 i
theorem mks_succ (n : Nat) : mks (n + 1) = mks n ++ [mkR 1 n] := by simp [mks, List.range_succ]
@[simp] theorem mks_length (n : Nat) : (mks n).length = n := by simp [mks]
def zR : Rw := ⟨0, 0, 0, 0, 0⟩
theorem markRow_fun (k i : Int) (hk : 0 ≤ k ∧ k ≤ 10) (hi : 0 ≤ i ∧ i < 2 ^ 60) : FN 115 [.int .i64 k, .int .i64 i] (fun v => v = (mkR k i).v) := by
  refine IFun.of_bodyZ false 5 [] Try.func115 rfl Try.call115 rfl fun R hR => ?_
  simp [go_sem]
  refine (mark_fun k i hk hi).callF (by simp [go_sem]) ?_
  rintro _ rfl
  simp [go_sem]
  exact hR _ _ _ rfl (by simp [go_sem, mkR, Rw.v])

theorem lentRows_calls (l : List Rw) (hl : l.length ≤ 2 ^ 32) : ICalls Try.prog [] 90 [.fz 5 (rws l)] [] (fun v σ => v = .sl 0 (l.length + 12) 0 l.length (some (l.length + 12)) ∧ σ = [.rows 5 (rws (l ++ mks 12))]) := by
  refine ICalls.forget (ICalls.of_bodyE true 5 [13] Try.func90 rfl Try.call90 rfl fun R hR => ?_)
  have w1 : IntKind.i64.wrap ((l.length : Int) + 12) = ((l.length + 12 : Nat) : Int) := by rw [wrap64 (by omega) (by omega)]; rfl
  obtain ⟨N, hN⟩ : ∃ N, l.length + 12 = N := ⟨_, rfl⟩
  rw [hN] at w1
  have hLN : l.length ≤ N := by omega
  have hsub : N - l.length = 12 := by omega
  simp [go_sem, w1, hLN, hsub]
  refine ⟨by omega, fun r hr => rws_one r hr, ?_⟩
  refine IWp.loopT (α := Nat) (fun i => (⟨true, 25, 5, [13], [], [(0, .fz 5 (rws l)), (2, .nils), (3, .sl 0 N 0 (l.length + i) (some N)), (4, .int .i64 (i : Int))], []⟩, [.rows 5 (rws (l ++ (mks i ++ List.replicate (12 - i) zR)))]))
    (fun i => i ≤ 12) (fun i => 12 - i) 0 (by simp) (by simp [go_sem, rws_append, mks, rws_cons, zR]) ?_
  intro i hi
  by_cases h : i < 12
  · have h' : (i : Int) < 12 := by omega
    have w2 : IntKind.i64.wrap ((i : Int) + 1) = i + 1 := wrap64 (by omega) (by omega)
    have hr : l.length + i + 1 ≤ N := by omega
    have e1 : (rws (l ++ (mks i ++ List.replicate (12 - i) zR))).take (l.length + i) = rws (l ++ mks i) := by
      rw [← rws_take, ← List.append_assoc, List.take_append_of_le_length (by simp), List.take_of_length_le (by simp)]
    have e2 : (rws (l ++ (mks i ++ List.replicate (12 - i) zR))).drop (l.length + i + 1) = rws (List.replicate (12 - (i + 1)) zR) := by
      rw [← rws_drop, ← List.append_assoc, List.drop_append, List.drop_of_length_le (by simp), List.nil_append, List.drop_replicate]
      congr 2; simp; try omega
    have e3 : l.length + (mks i).length + (12 - i) = N := by simp; omega
    obtain ⟨L, hL⟩ : ∃ L, rws (l ++ (mks i ++ List.replicate (12 - i) zR)) = L := ⟨_, rfl⟩
    have hLl : L.length = N := by rw [← hL]; simp; omega
    obtain ⟨J, hJ⟩ : ∃ J, l.length + i = J := ⟨_, rfl⟩
    simp only [hL, hJ] at e1 e2 hr ⊢
    simp [go_sem, h', hL, hJ]
    refine (markRow_fun 1 i (by omega) (by omega)).callF (by simp [go_sem]) ?_
    rintro _ rfl
    simp [go_sem, w2, hr, Rw.v, mkR, hLl, e1, e2]
    refine ⟨i + 1, ⟨⟨by omega, rfl⟩, ?_⟩, by omega, by omega⟩
    rw [mks_succ, rws_append, rws_append, rws_append, rws_append]
    simp [rws_cons, mkR, go_sem, show 12 - (i + 1) = 11 - i by omega]
  · have : i = 12 := by omega
    subst this
    have e : (l ++ (mks 12 ++ List.replicate (12 - 12) zR)) = l ++ mks 12 := by simp
    have e' : N = l.length + 12 := hN.symm
    subst e'
    simp [go_sem]
    refine ⟨by omega, hR _ _ ⟨[.rows 5 (rws (l ++ mks 12))], ?_, rfl, rfl⟩⟩
    simp [go_sem, e]

/-- A movement whose rows lie in block b, with room behind them. -/
def Mv.o (m : Mv) (b : Nat) : IV := .agg [.int .i64 m.tables, .int .i64 m.rounds, .int .i64 m.sets, .int .i64 m.copies, .int .i64 m.winners, .sl b (m.rows.length + 12) 0 m.rows.length (some (m.rows.length + 12))]
def sesO (m : Mv) (boards : Int) (b : Nat) : IV := .agg [.int .i64 m.tables, .int .i64 m.rounds, .int .i64 m.sets, .int .i64 m.copies, .int .i64 m.winners, .sl b (m.rows.length + 12) 0 m.rows.length (some (m.rows.length + 12)), .int .i64 boards]
def lentO (l : List Rw) : IObj := .rows 5 (rws (l ++ mks 12))
theorem lentMovement_calls (m : Mv) (hl : m.rows.length ≤ 2 ^ 32) : ICalls Try.prog [] 57 [m.v] [] (fun v σ => v = m.o 2 ∧ σ = [.dead, .dead, lentO m.rows]) := by
  refine ICalls.forget (ICalls.of_bodyE true 3 [] Try.func57 rfl Try.call57 rfl fun R hR => ?_)
  simp [go_sem, Mv.v]
  refine (lentRows_calls m.rows hl).at [] (by simp [go_sem]) ?_
  rintro _ _ ⟨rfl, rfl⟩
  simp [go_sem]
  refine hR _ _ ⟨[.dead, .dead, lentO m.rows], ?_, rfl, rfl⟩
  simp [go_sem, lentO, Mv.o]
@[go_sem] theorem lent_take {l m : List Rw} : List.take l.length (rws (l ++ m)) = rws l := by rw [← rws_take]; simp
@[go_sem] theorem lent_cut {l m : List Rw} : cutR 0 l.length (rws (l ++ m)) = rws l := by simp [cutR, lent_take]
@[go_sem] theorem lentO_plO {l : List Rw} : plO (lentO l) = true := rfl
@[go_sem] theorem lentO_pl {l : List Rw} : plD (lentO l) = true := rfl
@[go_sem] theorem lentO_ren {π : Nat → Nat} {l : List Rw} : renO π (lentO l) = lentO l := by simp [lentO, go_sem]
@[go_sem] theorem lentO_bl {n : Nat} {l : List Rw} : ObBl n (lentO l) = True := by simp [lentO, go_sem]
/-! ### equality -/
theorem sameRows_fun (a b : List Rw) (ha : a.length ≤ 2 ^ 62) : FN 116 [.fz 5 (rws a), .fz 5 (rws b)] (fun v => v = .bool (decide (a = b))) := by
  refine IFun.of_bodyZ false 6 [10, 14, 25] Try.func116 rfl Try.call116 rfl fun R hR => ?_
  by_cases hlen : a.length = b.length
  case neg =>
    have hI : ¬ (a.length : Int) = b.length := by omega
    have e : ¬ a = b := fun e => hlen (by rw [e])
    simp [go_sem, hlen, hI]
    exact hR _ _ _ rfl (by simp [go_sem, e])
  simp [go_sem, hlen]
  refine IWp.loopT (α := Nat) (fun i => (⟨false, 26, 6, [10, 14, 25], [], [(0, .fz 5 (rws a)), (1, .fz 5 (rws b)), (5, .int .i64 (i : Int))], []⟩, []))
    (fun i => i ≤ a.length ∧ a.take i = b.take i) (fun i => a.length - i) 0 (by simp) (by simp [go_sem]) ?_
  rintro i ⟨hi, he⟩
  by_cases h : i < a.length
  · have h' : i < b.length := by omega
    have w1 : IntKind.i64.wrap ((i : Int) + 1) = i + 1 := wrap64 (by omega) (by omega)
    have hx : (a[i] = b[i]) ↔ (a[i].r = b[i].r ∧ a[i].t = b[i].t ∧ a[i].ns = b[i].ns ∧ a[i].ew = b[i].ew ∧ a[i].s = b[i].s) := by
      cases a[i]; cases b[i]; simp
    by_cases hxy : a[i] = b[i]
    · simp [go_sem, h, h', hxy, w1]
      exact ⟨by decide +kernel, i + 1, by omega, ⟨by omega, by rw [List.take_succ_eq_append_getElem h, List.take_succ_eq_append_getElem h', he, hxy]⟩, by omega⟩
    · have e : ¬ a = b := fun e => hxy (by subst e; rfl)
      have hc : (a[i].r == b[i].r && (a[i].t == b[i].t && (a[i].ns == b[i].ns && (a[i].ew == b[i].ew && a[i].s == b[i].s)))) = false := by
        rw [← Bool.not_eq_true]; intro hh; apply hxy; rw [hx]; simpa using hh
      simp [go_sem, h, h', hc]
      exact ⟨by decide +kernel, hR _ _ _ rfl (by simp [go_sem, e])⟩
  · have e : a = b := by
      rw [List.take_of_length_le (by omega), List.take_of_length_le (by omega)] at he
      exact he
    have h' : ¬ i < b.length := by omega
    simp [go_sem, h, h']
    exact hR _ _ _ rfl (by simp [go_sem, e])
theorem mv_eq {a b : Mv} : (a = b) ↔ (a.tables = b.tables ∧ a.rounds = b.rounds ∧ a.sets = b.sets ∧ a.copies = b.copies ∧ a.winners = b.winners ∧ a.rows = b.rows) := by
  cases a; cases b; simp
theorem sameMovement_fun (a b : Mv) (ha : a.rows.length ≤ 2 ^ 62) : FN 91 [a.v, b.v] (fun v => v = .bool (decide (a = b))) := by
  refine IFun.of_bodyZ false 5 [] Try.func91 rfl Try.call91 rfl fun R hR => ?_
  simp [go_sem, Mv.v]
  by_cases hc : (((a.tables = b.tables ∧ a.rounds = b.rounds) ∧ a.sets = b.sets) ∧ a.copies = b.copies) ∧ a.winners = b.winners
  · have he : (a = b) ↔ a.rows = b.rows := by rw [mv_eq]; simp [hc]
    obtain ⟨⟨⟨⟨h1, h2⟩, h3⟩, h4⟩, h5⟩ := hc
    simp only [h1, h2, h3, h4, h5]
    simp [go_sem]
    refine (sameRows_fun a.rows b.rows ha).callF (by simp [go_sem]) ?_
    rintro _ rfl
    simp [go_sem]
    exact hR _ _ _ rfl (by simp [go_sem, he])
  · rw [if_neg hc]
    have he : ¬ a = b := fun e => hc (by subst e; simp)
    exact ⟨by simpa using hc, hR _ _ _ rfl (by simp [go_sem, he])⟩
end Go.Idl
