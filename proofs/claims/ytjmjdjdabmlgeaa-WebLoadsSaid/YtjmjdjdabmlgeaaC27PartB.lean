/-
  Chapter 27: the shelf's contracts at this program (written by the kit's lay-plain.mjs).
  What the walks share: rows, movements, lists of integers.
  Lists that increase: sorted and compacted lists; two that increase, with the same elements, are one.
  Arguments of the laws, as they come in: rows, movements.
  The shelf's slices.Sort at []int, at this program.
  The shelf's slices.Compact at []int, at this program.
  Maps that count: keyed by two integers, or one.
  Maps that count, keyed by an integer.
  The shelf's functions of one integer; math/bits.Len.
  What is fair; numbers (plain).
  slices.Equal at []int.
-/
import Derived.Shelf.Lays
import Derived.Shelf.Lays2
import Derived.Test.YtjmjdjdabmlgeaaC27PartA
import Derived.Test.YtjmjdjdabmlgeaaIdlPartL
import Derived.Test.YtjmjdjdabmlgeaaIdlPartJ
import Derived.Test.YtjmjdjdabmlgeaaIdlPartH
import Derived.OpenShut
import Derived.Shelf.Sort.Plain
import Derived.Shelf.Slices.In.SortNone
import Derived.Shelf.Slices.CompactI
import Derived.Test.YtjmjdjdabmlgeaaIdlPartG
import Derived.Shelf.Strconv.Itoa0
namespace Go.Proofs
open Go.Shelf
def Try.lays189_ren : Go.Shelf.Ren := ⟨fun | 189 => 48 | 125 => 61 | 257 => 63 | 128 => 74 | 129 => 75 | 294 => 76 | 295 => 77 | 296 => 78 | 297 => 79 | 298 => 80 | 299 => 81 | 216 => 50 | 300 => 82 | 301 => 83 | 328 => 89 | 329 => 85 | 330 => 86 | 331 => 90 | 332 => 91 | 215 => 64 | 343 => 93 | n => n, fun | 28 => 28 | 3 => 3 | 46 => 93 | 0 => 0 | 51 => 106 | 53 => 108 | 4 => 4 | 183 => 99 | 182 => 98 | 131 => 103 | 5 => 5 | 9 => 9 | 218 => 114 | 222 => 118 | 228 => 122 | 229 => 56 | n => n, fun | n => n⟩
theorem Try.lays189 : Go.Proofs.Lays.n189 Try.prog Try.lays189_ren := {
  mixed := by kernel_rfl
  f125 := Try.func61.trans (congrArg some (by kernel_rfl))
  f128 := Try.func74.trans (congrArg some (by kernel_rfl))
  f129 := Try.func75.trans (congrArg some (by kernel_rfl))
  f189 := Try.func48.trans (congrArg some (by kernel_rfl))
  f215 := Try.func64.trans (congrArg some (by kernel_rfl))
  f216 := Try.func50.trans (congrArg some (by kernel_rfl))
  f257 := Try.func63.trans (congrArg some (by kernel_rfl))
  f294 := Try.func76.trans (congrArg some (by kernel_rfl))
  f295 := Try.func77.trans (congrArg some (by kernel_rfl))
  f296 := Try.func78.trans (congrArg some (by kernel_rfl))
  f297 := Try.func79.trans (congrArg some (by kernel_rfl))
  f298 := Try.func80.trans (congrArg some (by kernel_rfl))
  f299 := Try.func81.trans (congrArg some (by kernel_rfl))
  f300 := Try.func82.trans (congrArg some (by kernel_rfl))
  f301 := Try.func83.trans (congrArg some (by kernel_rfl))
  f328 := Try.func89.trans (congrArg some (by kernel_rfl))
  f329 := Try.func85.trans (congrArg some (by kernel_rfl))
  f330 := Try.func86.trans (congrArg some (by kernel_rfl))
  f331 := Try.func90.trans (congrArg some (by kernel_rfl))
  f332 := Try.func91.trans (congrArg some (by kernel_rfl))
  f343 := Try.func93.trans (congrArg some (by kernel_rfl))
  t0 := Try.underlying0
  a0 := Try.isAgg0
  z0 := Try.sizeOf0
  v0 := Try.zeroValue0
  t3 := Try.underlying3
  a3 := Try.isAgg3
  z3 := Try.sizeOf3
  v3 := Try.zeroValue3
  t4 := Try.underlying4
  a4 := Try.isAgg4
  z4 := Try.sizeOf4
  v4 := Try.zeroValue4
  t5 := Try.underlying5
  a5 := Try.isAgg5
  z5 := Try.sizeOf5
  v5 := Try.zeroValue5
  t9 := Try.underlying9
  a9 := Try.isAgg9
  z9 := Try.sizeOf9
  v9 := Try.zeroValue9
  t28 := Try.underlying28
  a28 := Try.isAgg28
  z28 := Try.sizeOf28
  v28 := Try.zeroValue28
  t46 := Try.underlying93
  a46 := Try.isAgg93
  z46 := Try.sizeOf93
  v46 := Try.zeroValue93
  t51 := Try.underlying106
  a51 := Try.isAgg106
  z51 := Try.sizeOf106
  v51 := Try.zeroValue106
  t53 := Try.underlying108
  a53 := Try.isAgg108
  z53 := Try.sizeOf108
  v53 := Try.zeroValue108
  t131 := Try.underlying103
  a131 := Try.isAgg103
  z131 := Try.sizeOf103
  v131 := Try.zeroValue103
  t182 := Try.underlying98
  a182 := Try.isAgg98
  z182 := Try.sizeOf98
  v182 := Try.zeroValue98
  t183 := Try.underlying99
  a183 := Try.isAgg99
  z183 := Try.sizeOf99
  v183 := Try.zeroValue99
  t218 := Try.underlying114
  a218 := Try.isAgg114
  z218 := Try.sizeOf114
  v218 := Try.zeroValue114
  t222 := Try.underlying118
  a222 := Try.isAgg118
  z222 := Try.sizeOf118
  v222 := Try.zeroValue118
  t228 := Try.underlying122
  a228 := Try.isAgg122
  z228 := Try.sizeOf122
  v228 := Try.zeroValue122
  t229 := Try.underlying56
  a229 := Try.isAgg56
  z229 := Try.sizeOf56
  v229 := Try.zeroValue56 }
def Try.lays129_ren : Go.Shelf.Ren := ⟨fun | 129 => 75 | n => n, fun | 53 => 108 | 3 => 3 | 4 => 4 | 46 => 93 | 5 => 5 | 9 => 9 | n => n, fun | n => n⟩
theorem Try.lays129 : Go.Proofs.Lays.n129 Try.prog Try.lays129_ren := {
  mixed := by kernel_rfl
  f129 := Try.func75.trans (congrArg some (by kernel_rfl))
  t3 := Try.underlying3
  a3 := Try.isAgg3
  z3 := Try.sizeOf3
  v3 := Try.zeroValue3
  t4 := Try.underlying4
  a4 := Try.isAgg4
  z4 := Try.sizeOf4
  v4 := Try.zeroValue4
  t5 := Try.underlying5
  a5 := Try.isAgg5
  z5 := Try.sizeOf5
  v5 := Try.zeroValue5
  t9 := Try.underlying9
  a9 := Try.isAgg9
  z9 := Try.sizeOf9
  v9 := Try.zeroValue9
  t46 := Try.underlying93
  a46 := Try.isAgg93
  z46 := Try.sizeOf93
  v46 := Try.zeroValue93
  t53 := Try.underlying108
  a53 := Try.isAgg108
  z53 := Try.sizeOf108
  v53 := Try.zeroValue108 }
def Try.lays2n20_ren : Go.Shelf.Ren := ⟨fun | 20 => 49 | n => n, fun | 22 => 28 | 3 => 3 | 4 => 4 | 0 => 0 | n => n, fun | n => n⟩
theorem Try.lays2n20 : Go.Proofs.Lays2.n20 Try.prog Try.lays2n20_ren := {
  mixed := by kernel_rfl
  f20 := Try.func49.trans (congrArg some (by kernel_rfl))
  t0 := Try.underlying0
  a0 := Try.isAgg0
  z0 := Try.sizeOf0
  v0 := Try.zeroValue0
  t3 := Try.underlying3
  a3 := Try.isAgg3
  z3 := Try.sizeOf3
  v3 := Try.zeroValue3
  t4 := Try.underlying4
  a4 := Try.isAgg4
  z4 := Try.sizeOf4
  v4 := Try.zeroValue4
  t22 := Try.underlying28
  a22 := Try.isAgg28
  z22 := Try.sizeOf28
  v22 := Try.zeroValue28
  i3 := by kernel_rfl }
end Go.Proofs
namespace Go.Idl
set_option linter.all false
open Go.Proofs
set_option maxHeartbeats 4000000
set_option maxRecDepth 40000

/-- A row: round, table, north-south, east-west, set. -/
structure Rw where
  r : Int
  t : Int
  ns : Int
  ew : Int
  s : Int
  deriving DecidableEq
def Rw.c (x : Rw) : List IV := [.int .i64 x.r, .int .i64 x.t, .int .i64 x.ns, .int .i64 x.ew, .int .i64 x.s]
def rws (l : List Rw) : List (List IV) := mp Rw.c l
@[simp] theorem rws_length (l : List Rw) : (rws l).length = l.length := mp_length
@[simp] theorem rws_getElem (l : List Rw) (i : Nat) (h : i < (rws l).length) : (rws l)[i] = [.int .i64 (l[i]'(by simpa using h)).r, .int .i64 (l[i]'(by simpa using h)).t, .int .i64 (l[i]'(by simpa using h)).ns, .int .i64 (l[i]'(by simpa using h)).ew, .int .i64 (l[i]'(by simpa using h)).s] := by simp [rws, mp, Rw.c]
theorem rws_snoc {l : List Rw} {x : Rw} : rws (l ++ [x]) = rws l ++ [[.int .i64 x.r, .int .i64 x.t, .int .i64 x.ns, .int .i64 x.ew, .int .i64 x.s]] := mp_snoc
theorem rws_append {l m : List Rw} : rws (l ++ m) = rws l ++ rws m := mp_append
@[go_sem] theorem rws_nil : rws [] = [] := rfl
@[go_sem] theorem ScR_rws {l : List Rw} : ScR (rws l) = True := eq_true (mp_sc (by simp [scal, Rw.c]))
@[go_sem] theorem ClR_rws {l : List Rw} : ClR (rws l) = True := eq_true (ScR.cl (mp_sc (by simp [scal, Rw.c])))
@[go_sem] theorem BlR_rws {n : Nat} {l : List Rw} : BlR n (rws l) = True := eq_true (ScR.bl (mp_sc (by simp [scal, Rw.c])))
theorem rws_rows {l : List Rw} : ∀ r ∈ rws l, r.length = 5 := mp_rows (by simp [Rw.c])
theorem rws_one {l : List Rw} : ∀ a ∈ rws l, a.length = 5 ∧ ∀ x ∈ a, IV.one x = true := rows_one (mp_sc (by simp [scal, Rw.c])) rws_rows
theorem rws_cons {l : List Rw} {x : Rw} : rws (x :: l) = [.int .i64 x.r, .int .i64 x.t, .int .i64 x.ns, .int .i64 x.ew, .int .i64 x.s] :: rws l := rfl
theorem rws_take {l : List Rw} {n : Nat} : rws (l.take n) = (rws l).take n := mp_take
theorem rws_drop {l : List Rw} {n : Nat} : rws (l.drop n) = (rws l).drop n := mp_drop
theorem rws_set {l : List Rw} {i : Nat} {x : Rw} : rws (l.set i x) = (rws l).set i x.c := mp_set
theorem rws_rep {n : Nat} {x : Rw} : List.replicate n x.c = rws (List.replicate n x) := by simp [rws, mp]
def ints (l : List Int) : List (List IV) := mp (fun x => [.int .i64 x]) l
@[simp] theorem ints_length (l : List Int) : (ints l).length = l.length := mp_length
@[simp] theorem ints_getElem (l : List Int) (i : Nat) (h : i < (ints l).length) : (ints l)[i] = [.int .i64 (l[i]'(by simpa using h))] := by simp [ints, mp]
theorem ints_snoc {l : List Int} {x : Int} : ints (l ++ [x]) = ints l ++ [[.int .i64 x]] := mp_snoc
theorem ints_append {l m : List Int} : ints (l ++ m) = ints l ++ ints m := mp_append
@[go_sem] theorem ints_nil : ints [] = [] := rfl
@[go_sem] theorem ScR_ints {l : List Int} : ScR (ints l) = True := eq_true (mp_sc (by simp [scal]))
@[go_sem] theorem ClR_ints {l : List Int} : ClR (ints l) = True := eq_true (ScR.cl (mp_sc (by simp [scal])))
@[go_sem] theorem BlR_ints {n : Nat} {l : List Int} : BlR n (ints l) = True := eq_true (ScR.bl (mp_sc (by simp [scal])))
theorem ints_rows {l : List Int} : ∀ r ∈ ints l, r.length = 1 := mp_rows (by simp)
theorem ints_one {l : List Int} : ∀ a ∈ ints l, a.length = 1 ∧ ∀ x ∈ a, IV.one x = true := rows_one (mp_sc (by simp [scal])) ints_rows
theorem ints_cons {l : List Int} {x : Int} : ints (x :: l) = [.int .i64 x] :: ints l := rfl
theorem ints_take {l : List Int} {n : Nat} : ints (l.take n) = (ints l).take n := mp_take
theorem ints_drop {l : List Int} {n : Nat} : ints (l.drop n) = (ints l).drop n := mp_drop
theorem ints_set {l : List Int} {i : Nat} {x : Int} : ints (l.set i x) = (ints l).set i [.int .i64 x] := mp_set
/-- A movement; its rows. -/
structure Mv where
  tables : Int
  rounds : Int
  sets : Int
  copies : Int
  winners : Int
  rows : List Rw
  deriving DecidableEq
def Mv.v (m : Mv) : IV := .agg [.int .i64 m.tables, .int .i64 m.rounds, .int .i64 m.sets, .int .i64 m.copies, .int .i64 m.winners, .fz 5 (rws m.rows)]
def Rw.v (x : Rw) : IV := .agg [.int .i64 x.r, .int .i64 x.t, .int .i64 x.ns, .int .i64 x.ew, .int .i64 x.s]
/-- A session. -/
def sesV (m : Mv) (boards : Int) : IV := .agg [.int .i64 m.tables, .int .i64 m.rounds, .int .i64 m.sets, .int .i64 m.copies, .int .i64 m.winners, .fz 5 (rws m.rows), .int .i64 boards]
/-- A function of the program. -/
abbrev FN (f : FuncId) (args : List IV) (V : IV → Prop) : Prop := IFun true Try.prog [] f args V
abbrev ON (f : FuncId) (args : List IV) (V : IV → Prop) : Prop := IFun false Try.prog [] f args V
end Go.Idl
namespace Go.Idl
set_option linter.all false
open Go.Lib

def Inc (l : List Int) : Prop := l.Pairwise (· < ·)
theorem Inc.ext {a b : List Int} (ha : Inc a) (hb : Inc b) (h : ∀ x, x ∈ a ↔ x ∈ b) : a = b := by
  have na : a.Nodup := ha.imp fun h => by omega
  have nb : b.Nodup := hb.imp fun h => by omega
  have p : a.Perm b := (List.perm_ext_iff_of_nodup na nb).2 h
  exact List.Perm.eq_of_pairwise (fun x y _ _ h1 h2 => by omega) ha hb p
theorem compactUpTo_spec (d : Array Int) (hs : ∀ i j, i ≤ j → j < d.size → d[i]! ≤ d[j]!) : ∀ m, m ≤ d.size → Inc (compactUpTo d m) ∧ ∀ x, x ∈ compactUpTo d m ↔ ∃ j, j < m ∧ d[j]! = x := by
  intro m
  induction m with
  | zero => intro _; exact ⟨by simp [compactUpTo, Inc], fun x => by simp [compactUpTo]⟩
  | succ m ih =>
    intro hm
    obtain ⟨h1, h2⟩ := ih (by omega)
    rw [compactUpTo_succ]
    cases hk : keeps d m with
    | true =>
      simp only [if_true]
      refine ⟨?_, fun x => ?_⟩
      · refine List.pairwise_append.2 ⟨h1, by simp, fun a ha b hb => ?_⟩
        rw [List.mem_singleton] at hb
        subst hb
        obtain ⟨j, hj, rfl⟩ := (h2 a).1 ha
        have e1 := hs j (m - 1) (by omega) (by omega)
        have e2 := hs (m - 1) m (by omega) (by omega)
        unfold keeps at hk
        simp at hk
        have : d[m]! ≠ d[m - 1]! := by
          rcases hk with hk | hk
          · omega
          · simpa using hk
        omega
      · rw [List.mem_append, h2, List.mem_singleton]
        constructor
        · rintro (⟨j, hj, rfl⟩ | rfl)
          · exact ⟨j, by omega, rfl⟩
          · exact ⟨m, by omega, rfl⟩
        · rintro ⟨j, hj, rfl⟩
          by_cases e : j = m
          · subst e; exact .inr rfl
          · exact .inl ⟨j, by omega, rfl⟩
    | false =>
      simp only [Bool.false_eq_true, if_false, List.append_nil]
      refine ⟨h1, fun x => ?_⟩
      rw [h2]
      constructor
      · rintro ⟨j, hj, rfl⟩; exact ⟨j, by omega, rfl⟩
      · rintro ⟨j, hj, rfl⟩
        by_cases e : j = m
        · subst e
          unfold keeps at hk
          simp at hk
          exact ⟨j - 1, by omega, by simpa using hk.2.symm⟩
        · exact ⟨j, by omega, rfl⟩
theorem compact_inc {l : List Int} (hs : l.Pairwise (· ≤ ·)) : Inc (compact l) ∧ ∀ x, x ∈ compact l ↔ x ∈ l := by
  have h := compactUpTo_spec l.toArray (fun i j hij hj => by
    simp at hj
    rcases Nat.lt_or_ge i j with h | h
    · have := List.pairwise_iff_getElem.1 hs i j (by omega) hj h
      simpa [hj, Nat.lt_trans h hj] using this
    · have : i = j := by omega
      subst this; exact Int.le_refl _) l.length (by simp)
  refine ⟨h.1, fun x => ?_⟩
  unfold compact
  rw [h.2, List.mem_iff_getElem]
  constructor
  · rintro ⟨j, hj, e⟩; exact ⟨j, hj, by simpa [hj] using e⟩
  · rintro ⟨j, hj, e⟩; exact ⟨j, hj, by simpa [hj] using e⟩
theorem sortI (l : List Int) : (l.mergeSort fun x y => decide (x ≤ y)).Pairwise (· ≤ ·) := by
  have := List.pairwise_mergeSort (le := fun x y : Int => decide (x ≤ y)) (fun a b c h1 h2 => by simp at *; omega) (fun a b => by simp; omega) l
  exact this.imp fun h => by simpa using h
/-- Sorted, each once. -/
def srt (l : List Int) : List Int := compact (l.mergeSort fun x y => decide (x ≤ y))
theorem srt_inc (l : List Int) : Inc (srt l) := (compact_inc (sortI l)).1
theorem srt_mem {l : List Int} {x : Int} : x ∈ srt l ↔ x ∈ l := by
  unfold srt
  rw [(compact_inc (sortI l)).2, List.mem_mergeSort]
theorem srt_eq {l a : List Int} (ha : Inc a) (h : ∀ x, x ∈ a ↔ x ∈ l) : srt l = a := (srt_inc l).ext ha fun x => by rw [srt_mem, h]
end Go.Idl
namespace Go.Idl
set_option linter.all false
open Go.RowKit Go.Proofs

theorem fitL_int {k : IntKind} {l : List Shp} {r : List IV} (h : fitL (.int k :: l) r) : ∃ (z : Int) (cs : List IV), r = .int k z :: cs ∧ (Lit.int k z).wf = true ∧ fitL l cs := by
  obtain ⟨c, cs, rfl, h1, h2⟩ := fitL_cons h
  obtain ⟨z, rfl, hz⟩ := fit_int h1
  exact ⟨z, cs, rfl, hz, h2⟩
theorem fit_rows {c : IV} (h : (Shp.fz 5 [.int .i64, .int .i64, .int .i64, .int .i64, .int .i64]).fit c) : ∃ l : List Rw, c = .fz 5 (rws l) ∧ (∀ x ∈ l, True) ∧ l.length ≤ maxLen :=
  fit_list (f := Rw.c) (fun r hr => by
    obtain ⟨a, r1, rfl, _, h1⟩ := fitL_int hr
    obtain ⟨b, r2, rfl, _, h2⟩ := fitL_int h1
    obtain ⟨c, r3, rfl, _, h3⟩ := fitL_int h2
    obtain ⟨d, r4, rfl, _, h4⟩ := fitL_int h3
    obtain ⟨e, r5, rfl, _, h5⟩ := fitL_int h4
    obtain rfl := fitL_nil h5
    exact ⟨⟨a, b, c, d, e⟩, rfl, trivial⟩) h
def Mv.cells (m : Mv) : List IV := [.int .i64 m.tables, .int .i64 m.rounds, .int .i64 m.sets, .int .i64 m.copies, .int .i64 m.winners, .fz 5 (rws m.rows)]
theorem fit_mv {cs : List IV} (h : fitL [.int .i64, .int .i64, .int .i64, .int .i64, .int .i64, .fz 5 [.int .i64, .int .i64, .int .i64, .int .i64, .int .i64]] cs) :
    ∃ q : Mv, cs = q.cells := by
  obtain ⟨a, r1, rfl, _, h1⟩ := fitL_int h
  obtain ⟨b, r2, rfl, _, h2⟩ := fitL_int h1
  obtain ⟨c, r3, rfl, _, h3⟩ := fitL_int h2
  obtain ⟨d, r4, rfl, _, h4⟩ := fitL_int h3
  obtain ⟨e, r5, rfl, _, h5⟩ := fitL_int h4
  obtain ⟨x, r6, rfl, hx, h6⟩ := fitL_cons h5
  obtain rfl := fitL_nil h6
  obtain ⟨l, rfl, _⟩ := fit_rows hx
  exact ⟨⟨a, b, c, d, e, l⟩, rfl⟩
theorem wf64 {z : Int} (h : (Lit.int .i64 z).wf = true) : -2 ^ 63 ≤ z ∧ z < 2 ^ 63 := by
  have := bounds_i64 h; omega
theorem wf8 {z : Int} (h : (Lit.int .u8 z).wf = true) : 0 ≤ z ∧ z < 256 := by
  have := bounds_u8 h; omega
end Go.Idl
namespace Go.Idl
set_option linter.all false
open Go.Proofs
theorem sortInt : SortInt Try.prog 48 := fun blk off cap zs w hH hb hl => Any.slices_Sort_int Try.lays189 blk off cap zs w hH hb hl
theorem sort0 : Sort0 Try.prog 48 := fun p cap w => Any.slices_Sort_int_none Try.lays189 p cap w
end Go.Idl
namespace Go.Idl
set_option linter.all false
open Go.Proofs
theorem compactInt : CompactInt Try.prog 49 := fun blk off cap zs w hH hc hl => Any.slices_Compact_int Try.lays2n20 blk off cap zs w hH hl hc
theorem compact0 : Compact0 Try.prog 49 := fun p cap w => Any.slices_Compact_int_empty Try.lays2n20 p cap w
end Go.Idl
namespace Go.Idl
set_option linter.all false
open Go.Proofs

def k2 (k : Int × Int) : IV := .agg [.int .i64 k.1, .int .i64 k.2]
def enP (S : List ((Int × Int) × Int)) : List (IV × IV) := enM k2 (fun v : Int => .int .i64 v) S
theorem keP (a b : Int × Int) : keq (k2 a) (k2 b) = decide (a = b) := by
  obtain ⟨a1, a2⟩ := a
  obtain ⟨b1, b2⟩ := b
  show (match ceqs [IV.int .i64 a1, IV.int .i64 a2] [IV.int .i64 b1, IV.int .i64 b2] with | some b => b | none => false) = _
  simp [ceqs, ceq, Prod.mk.injEq]
  by_cases h1 : a1 = b1 <;> by_cases h2 : a2 = b2 <;> simp [h1, h2]
theorem mget_p (a b : Int) (S : List ((Int × Int) × Int)) : mget (.agg [.int .i64 a, .int .i64 b]) (enP S) = (aget (a, b) S).map fun v => .int .i64 v := mget_en (kf := k2) keP (a, b) S
theorem mset_p (a b v : Int) (S : List ((Int × Int) × Int)) : mset (.agg [.int .i64 a, .int .i64 b]) (.int .i64 v) (enP S) = enP (aset (a, b) v S) := mset_en (kf := k2) (vf := fun v : Int => .int .i64 v) keP (a, b) v S
@[go_sem] theorem all_enP {S : List ((Int × Int) × Int)} {X : IV → Prop} : (∀ (a b : IV), (a, b) ∈ enP S → X a) ↔ ∀ p ∈ S, X (.agg [.int .i64 p.1.1, .int .i64 p.1.2]) := by
  simp only [enP, enM, List.mem_map, Prod.mk.injEq, k2]
  constructor
  · intro h p hp; exact h _ _ ⟨p, hp, rfl, rfl⟩
  · rintro h a b ⟨p, hp, rfl, rfl⟩; exact h p hp
@[go_sem] theorem bl_p {n : Nat} {S : List ((Int × Int) × Int)} : BlM n (enP S) = True := eq_true (en_bl (fun a => by simp [go_sem, k2]) (fun b => by simp [go_sem]) S)
@[go_sem] theorem enP_nil : enP [] = [] := rfl
section
variable {α : Type} [DecidableEq α]
def getC (S : List (α × Int)) (k : α) : Int := (aget k S).getD 0
@[simp] theorem getC_nil (k : α) : getC ([] : List (α × Int)) k = 0 := rfl
theorem getC_set (S : List (α × Int)) (k k' : α) (v : Int) : getC (aset k v S) k' = if k' = k then v else getC S k' := by
  unfold getC
  rw [aget_aset]
  by_cases e : k' = k <;> simp [e]
end
end Go.Idl
namespace Go.Idl
set_option linter.all false
open Go.Proofs
set_option maxHeartbeats 8000000
set_option maxRecDepth 40000

def enI (S : List (Int × Int)) : List (IV × IV) := enM (fun k : Int => .int .i64 k) (fun v : Int => .int .i64 v) S
theorem keI (a b : Int) : keq (.int .i64 a) (.int .i64 b) = decide (a = b) := by
  show (match ceqs [IV.int .i64 a] [IV.int .i64 b] with | some b => b | none => false) = _
  simp [ceqs, ceq]
  rfl
theorem mget_i (s : Int) (S : List (Int × Int)) : mget (.int .i64 s) (enI S) = (aget s S).map fun v => .int .i64 v := mget_en (kf := fun k : Int => .int .i64 k) keI s S
theorem mset_i (s v : Int) (S : List (Int × Int)) : mset (.int .i64 s) (.int .i64 v) (enI S) = enI (aset s v S) := mset_en (kf := fun k : Int => .int .i64 k) (vf := fun v : Int => .int .i64 v) keI s v S
theorem ok_i (S : List (Int × Int)) : ∀ e ∈ enI S, keyOK Try.prog 3 [.int .i64] e.1 = true := en_ok (fun a => by simp [go_sem, keyOK]) S
@[go_sem] theorem bl_i {n : Nat} {S : List (Int × Int)} : BlM n (enI S) = True := eq_true (en_bl (fun a => by simp [go_sem]) (fun b => by simp [go_sem]) S)
@[go_sem] theorem enI_nil : enI [] = [] := rfl
end Go.Idl
namespace Go.Idl
set_option linter.all false
open Go.Proofs
set_option maxHeartbeats 8000000
set_option maxRecDepth 40000
/-- A function of one integer that the shelf knows. -/
theorem IFun.of_calls1 {P : Program} {gl : List (Nat × IV)} {f : FuncId} {k k' : IntKind} {n m : Int} (he : ∀ (args : Array Value) (w : World), (callFunc f args).run P w = .ok (.enter f args) w)
    (h : ∀ w, Calls P f #[.int k n] w fun e w' => e = .returned (.int k' m) ∧ w' = w) : IFun true P gl f [.int k n] (fun v => v = .int k' m) := by
  refine ⟨he, fun μ F w vs hH hv hgl => ?_⟩
  obtain ⟨v, rfl⟩ : ∃ v, vs = [v] := by
    match vs, hv.1 with
    | [v], _ => exact ⟨v, rfl⟩
  have hv0 := hv.2 0 v _ rfl rfl
  cases hv0
  refine (h w).mono ?_
  rintro e w' ⟨rfl, rfl⟩
  exact ⟨_, .int k' m, [], μ, F, rfl, ⟨.int k' m, .int _ _, rfl⟩, .int _ _, hH, Ext.refl _ _ _⟩
theorem len64_fun (x : Nat) (h : x < 2 ^ 63) : FN 75 [.int .u64 (x : Int)] (fun v => v = .int .i64 (Lib.bitLen x)) :=
  IFun.of_calls1 Try.call75 fun w => by
    have := Any.bits_Len64 Try.lays129 (x : Int) w (by omega) (by omega)
    simp only [Int.toNat_natCast] at this
    exact this
theorem len_fun (x : Nat) (h : x < 2 ^ 63) : FN 61 [.int .u64 (x : Int)] (fun v => v = .int .i64 (Lib.bitLen x)) := by
  refine IFun.of_bodyZ false 3 [] Try.func61 rfl Try.call61 rfl fun R hR => ?_
  have cl := len64_fun x h
  simp [go_sem]
  refine cl.callF (by simp [go_sem]) ?_
  rintro _ rfl
  simp [go_sem]
  exact hR _ _ _ rfl (by simp [go_sem])
end Go.Idl
namespace Go.Idl
set_option linter.all false
open Go.Proofs
set_option maxHeartbeats 4000000
set_option maxRecDepth 40000

def sitsP (p : Int) (x : Rw) : Prop := x.ns = p ∨ x.ew = p
def apart (x y : Rw) : Prop := (x.r = y.r → x.t ≠ y.t) ∧ (∀ p, p ≠ 0 → sitsP p x → sitsP p y → x.r ≠ y.r ∧ x.s ≠ y.s) ∧ ¬ (x.ns ≠ 0 ∧ x.ew ≠ 0 ∧ (y.ns = x.ns ∧ y.ew = x.ew ∨ y.ns = x.ew ∧ y.ew = x.ns))
def rsB (r s : Int) (x : Rw) : Bool := x.r == r && x.s == s
structure Fair (T N S C Q : Int) (L : List Rw) : Prop where
  rng : ∀ x ∈ L, (0 ≤ x.r ∧ x.r < N) ∧ (0 ≤ x.t ∧ x.t < T) ∧ (0 ≤ x.s ∧ x.s < S) ∧ (0 ≤ x.ns ∧ x.ns ≤ Q) ∧ (0 ≤ x.ew ∧ x.ew ≤ Q) ∧ (x.ns = x.ew → x.ns = 0)
  pw : L.Pairwise apart
  load : ∀ r s, (L.countP (rsB r s) : Int) ≤ C
theorem Fair.sub {T N S C Q : Int} {L L' : List Rw} (h : Fair T N S C Q L) (hs : L'.Sublist L) : Fair T N S C Q L' :=
  ⟨fun x hx => h.rng x (hs.mem hx), h.pw.sublist hs, fun r s => Int.le_trans (by have := hs.countP_le (p := rsB r s); omega) (h.load r s)⟩
theorem md {x y T : Int} (hT : 0 < T) (h : x % T = y % T) (hb : -(2 * T) < x - y ∧ x - y < 2 * T) : x = y ∨ x = y + T ∨ x = y - T := by
  have e1 := Int.mul_ediv_add_emod x T
  have e2 := Int.mul_ediv_add_emod y T
  obtain ⟨c, hc⟩ : ∃ c, x / T - y / T = c := ⟨_, rfl⟩
  have e3 : x - y = T * c := by rw [← hc, Int.mul_sub]; omega
  rw [e3] at hb
  have h1 : c < 2 := by
    apply Decidable.byContradiction; intro hh
    have := Int.mul_le_mul_of_nonneg_left (show 2 ≤ c by omega) (show 0 ≤ T by omega)
    omega
  have h2 : -2 < c := by
    apply Decidable.byContradiction; intro hh
    have := Int.mul_le_mul_of_nonneg_left (show c ≤ -2 by omega) (show 0 ≤ T by omega)
    omega
  rcases (by omega : c = -1 ∨ c = 0 ∨ c = 1) with rfl | rfl | rfl <;> omega
theorem countP_one {α : Type} {P : α → Bool} {L : List α} (h : L.Pairwise fun x y => ¬ (P x = true ∧ P y = true)) : L.countP P ≤ 1 := by
  induction L with
  | nil => simp
  | cons x L ih =>
    obtain ⟨h1, h2⟩ := List.pairwise_cons.1 h
    rw [List.countP_cons]
    by_cases e : P x = true
    · have : L.countP P = 0 := List.countP_eq_zero.2 fun y hy hp => h1 y hy ⟨e, hp⟩
      rw [this, if_pos e]; omega
    · have := ih h2
      rw [if_neg e]; omega
def mdT0 (t : Int) : Int := 2 + t % 23
theorem andNot_one {T : Int} (h : 0 ≤ T ∧ T ≤ 24) : bitsOf .andNot .i64 T 1 = T - T % 2 := by
  obtain ⟨n, rfl⟩ : ∃ n : Nat, T = n := ⟨T.toNat, by omega⟩
  have : ∀ m : Fin 25, bitsOf .andNot .i64 (m.val : Int) 1 = (m.val : Int) - m.val % 2 := by decide +kernel
  exact this ⟨n, by omega⟩
end Go.Idl
namespace Go.Idl
set_option linter.all false
open Go.Proofs
set_option maxHeartbeats 4000000
set_option maxRecDepth 40000

theorem equalInts_fun (a b : List Int) (ha : a.length ≤ 2 ^ 62) : FN 28 [.fz 1 (ints a), .fz 1 (ints b)] (fun v => v = .bool (decide (a = b))) := by
  refine IFun.of_bodyZ false 6 [10, 12, 13, 14, 24] Try.func28 rfl Try.call28 rfl fun R hR => ?_
  by_cases hlen : a.length = b.length
  case neg =>
    have hI : ¬ (a.length : Int) = b.length := by omega
    have e : ¬ a = b := fun e => hlen (by rw [e])
    simp [go_sem, hlen, hI]
    exact hR _ _ _ rfl (by simp [go_sem, e])
  simp [go_sem, hlen]
  refine IWp.loopT (α := Nat) (fun i => (⟨false, 26, 6, [10, 12, 13, 14, 24], [], [(0, .fz 1 (ints a)), (1, .fz 1 (ints b)), (12, .int .i64 b.length), (13, .int .i64 (i : Int))], []⟩, []))
    (fun i => i ≤ a.length ∧ a.take i = b.take i) (fun i => a.length - i) 0 (by simp) (by simp [go_sem]) ?_
  rintro i ⟨hi, he⟩
  by_cases h : i < a.length
  · have h' : i < b.length := by omega
    have w1 : IntKind.i64.wrap ((i : Int) + 1) = i + 1 := wrap64 (by omega) (by omega)
    by_cases hxy : a[i] = b[i]
    · simp [go_sem, h, h', hxy, w1]
      exact ⟨by decide +kernel, i + 1, by omega, ⟨by omega, by rw [List.take_succ_eq_append_getElem h, List.take_succ_eq_append_getElem h', he, hxy]⟩, by omega⟩
    · have e : ¬ a = b := fun e => hxy (by subst e; rfl)
      simp [go_sem, h, h', hxy]
      exact ⟨by decide +kernel, hR _ _ _ rfl (by simp [go_sem, e])⟩
  · have e : a = b := by
      rw [List.take_of_length_le (by omega), List.take_of_length_le (by omega)] at he
      exact he
    have h' : ¬ i < b.length := by omega
    simp [go_sem, h, h']
    exact hR _ _ _ rfl (by simp [go_sem, e])
end Go.Idl
