/-
  Chapter topm: the shelf's contracts at this program (written by the kit's lay-plain.mjs).
  Chapter topm: the shelf's contracts at this program (written by the kit's lay-plain.mjs).
  TopMeets: the great arrays' types.
  What the walks share: rows, movements, lists of integers.
  The shelf's slices.Sort at []int, at this program.
  The shelf's slices.Compact at []int, at this program.
  Lists that increase: sorted and compacted lists; two that increase, with the same elements, are one.
  Arguments of the laws, as they come in: rows, movements.
  cmp.Compare at int; slices.Compare of two pairs.
  What is fair; numbers (plain).
  Maps that count: keyed by two integers, or one.
  The verifier's kit: mark, SameInts.
  The verifier's kit: rows lent.
  The verifier's kit: rows kept; lists overwritten.
-/
import Derived.Shelf.Lays
import Derived.Shelf.Lays2
import Derived.Test.YteedopeniojppaaGreatCtopmPartA
import Derived.Shelf.SlLaysF0
import Derived.Test.YteedopeniojppaaGreatIdlPartH
import Derived.Test.YteedopeniojppaaGreatIdlPartL
import Derived.Test.YteedopeniojppaaGreatIdlPartJ
import Derived.Shelf.Sort.Plain
import Derived.Shelf.Slices.In.SortNone
import Derived.Shelf.Slices.CompactI
import Derived.OpenShut
import Derived.Test.YteedopeniojppaaGreatIdlPartG
namespace Go.Proofs
open Go.Shelf
def Tryz.lays189_ren : Go.Shelf.Ren := ⟨fun | 189 => 28 | 125 => 35 | 257 => 49 | 128 => 60 | 129 => 61 | 294 => 75 | 295 => 76 | 296 => 77 | 297 => 78 | 298 => 79 | 299 => 80 | 216 => 81 | 300 => 82 | 301 => 83 | 328 => 102 | 329 => 86 | 330 => 87 | 331 => 103 | 332 => 104 | 215 => 62 | 343 => 106 | n => n, fun | 28 => 42 | 3 => 3 | 46 => 85 | 0 => 0 | 51 => 117 | 53 => 119 | 4 => 4 | 183 => 111 | 182 => 110 | 131 => 94 | 5 => 5 | 9 => 9 | 218 => 137 | 222 => 141 | 228 => 156 | 229 => 157 | n => n, fun | n => n⟩
theorem Tryz.lays189 : Go.Proofs.Lays.n189 Tryz.prog Tryz.lays189_ren := {
  mixed := by kernel_rfl
  f125 := Tryz.func35.trans (congrArg some (by kernel_rfl))
  f128 := Tryz.func60.trans (congrArg some (by kernel_rfl))
  f129 := Tryz.func61.trans (congrArg some (by kernel_rfl))
  f189 := Tryz.func28.trans (congrArg some (by kernel_rfl))
  f215 := Tryz.func62.trans (congrArg some (by kernel_rfl))
  f216 := Tryz.func81.trans (congrArg some (by kernel_rfl))
  f257 := Tryz.func49.trans (congrArg some (by kernel_rfl))
  f294 := Tryz.func75.trans (congrArg some (by kernel_rfl))
  f295 := Tryz.func76.trans (congrArg some (by kernel_rfl))
  f296 := Tryz.func77.trans (congrArg some (by kernel_rfl))
  f297 := Tryz.func78.trans (congrArg some (by kernel_rfl))
  f298 := Tryz.func79.trans (congrArg some (by kernel_rfl))
  f299 := Tryz.func80.trans (congrArg some (by kernel_rfl))
  f300 := Tryz.func82.trans (congrArg some (by kernel_rfl))
  f301 := Tryz.func83.trans (congrArg some (by kernel_rfl))
  f328 := Tryz.func102.trans (congrArg some (by kernel_rfl))
  f329 := Tryz.func86.trans (congrArg some (by kernel_rfl))
  f330 := Tryz.func87.trans (congrArg some (by kernel_rfl))
  f331 := Tryz.func103.trans (congrArg some (by kernel_rfl))
  f332 := Tryz.func104.trans (congrArg some (by kernel_rfl))
  f343 := Tryz.func106.trans (congrArg some (by kernel_rfl))
  t0 := Tryz.underlying0
  a0 := Tryz.isAgg0
  z0 := Tryz.sizeOf0
  v0 := Tryz.zeroValue0
  t3 := Tryz.underlying3
  a3 := Tryz.isAgg3
  z3 := Tryz.sizeOf3
  v3 := Tryz.zeroValue3
  t4 := Tryz.underlying4
  a4 := Tryz.isAgg4
  z4 := Tryz.sizeOf4
  v4 := Tryz.zeroValue4
  t5 := Tryz.underlying5
  a5 := Tryz.isAgg5
  z5 := Tryz.sizeOf5
  v5 := Tryz.zeroValue5
  t9 := Tryz.underlying9
  a9 := Tryz.isAgg9
  z9 := Tryz.sizeOf9
  v9 := Tryz.zeroValue9
  t28 := Tryz.underlying42
  a28 := Tryz.isAgg42
  z28 := Tryz.sizeOf42
  v28 := Tryz.zeroValue42
  t46 := Tryz.underlying85
  a46 := Tryz.isAgg85
  z46 := Tryz.sizeOf85
  v46 := Tryz.zeroValue85
  t51 := Tryz.underlying117
  a51 := Tryz.isAgg117
  z51 := Tryz.sizeOf117
  v51 := Tryz.zeroValue117
  t53 := Tryz.underlying119
  a53 := Tryz.isAgg119
  z53 := Tryz.sizeOf119
  v53 := Tryz.zeroValue119
  t131 := Tryz.underlying94
  a131 := Tryz.isAgg94
  z131 := Tryz.sizeOf94
  v131 := Tryz.zeroValue94
  t182 := Tryz.underlying110
  a182 := Tryz.isAgg110
  z182 := Tryz.sizeOf110
  v182 := Tryz.zeroValue110
  t183 := Tryz.underlying111
  a183 := Tryz.isAgg111
  z183 := Tryz.sizeOf111
  v183 := Tryz.zeroValue111
  t218 := Tryz.underlying137
  a218 := Tryz.isAgg137
  z218 := Tryz.sizeOf137
  v218 := Tryz.zeroValue137
  t222 := Tryz.underlying141
  a222 := Tryz.isAgg141
  z222 := Tryz.sizeOf141
  v222 := Tryz.zeroValue141
  t228 := Tryz.underlying156
  a228 := Tryz.isAgg156
  z228 := Tryz.sizeOf156
  v228 := Tryz.zeroValue156
  t229 := Tryz.underlying157
  a229 := Tryz.isAgg157
  z229 := Tryz.sizeOf157
  v229 := Tryz.zeroValue157 }
def Tryz.lays129_ren : Go.Shelf.Ren := ⟨fun | 129 => 61 | n => n, fun | 53 => 119 | 3 => 3 | 4 => 4 | 46 => 85 | 5 => 5 | 9 => 9 | n => n, fun | n => n⟩
theorem Tryz.lays129 : Go.Proofs.Lays.n129 Tryz.prog Tryz.lays129_ren := {
  mixed := by kernel_rfl
  f129 := Tryz.func61.trans (congrArg some (by kernel_rfl))
  t3 := Tryz.underlying3
  a3 := Tryz.isAgg3
  z3 := Tryz.sizeOf3
  v3 := Tryz.zeroValue3
  t4 := Tryz.underlying4
  a4 := Tryz.isAgg4
  z4 := Tryz.sizeOf4
  v4 := Tryz.zeroValue4
  t5 := Tryz.underlying5
  a5 := Tryz.isAgg5
  z5 := Tryz.sizeOf5
  v5 := Tryz.zeroValue5
  t9 := Tryz.underlying9
  a9 := Tryz.isAgg9
  z9 := Tryz.sizeOf9
  v9 := Tryz.zeroValue9
  t46 := Tryz.underlying85
  a46 := Tryz.isAgg85
  z46 := Tryz.sizeOf85
  v46 := Tryz.zeroValue85
  t53 := Tryz.underlying119
  a53 := Tryz.isAgg119
  z53 := Tryz.sizeOf119
  v53 := Tryz.zeroValue119 }
def Tryz.lays2n20_ren : Go.Shelf.Ren := ⟨fun | 20 => 29 | n => n, fun | 22 => 42 | 3 => 3 | 4 => 4 | 0 => 0 | n => n, fun | n => n⟩
theorem Tryz.lays2n20 : Go.Proofs.Lays2.n20 Tryz.prog Tryz.lays2n20_ren := {
  mixed := by kernel_rfl
  f20 := Tryz.func29.trans (congrArg some (by kernel_rfl))
  t0 := Tryz.underlying0
  a0 := Tryz.isAgg0
  z0 := Tryz.sizeOf0
  v0 := Tryz.zeroValue0
  t3 := Tryz.underlying3
  a3 := Tryz.isAgg3
  z3 := Tryz.sizeOf3
  v3 := Tryz.zeroValue3
  t4 := Tryz.underlying4
  a4 := Tryz.isAgg4
  z4 := Tryz.sizeOf4
  v4 := Tryz.zeroValue4
  t22 := Tryz.underlying42
  a22 := Tryz.isAgg42
  z22 := Tryz.sizeOf42
  v22 := Tryz.zeroValue42
  i3 := by kernel_rfl }
end Go.Proofs
namespace Go.Proofs
open Go.Shelf
def Tryz.sortKeys_ren : Go.Shelf.Ren := ⟨fun | 6 => 18 | 15 => 35 | 14 => 34 | 28 => 60 | 29 => 61 | 20 => 52 | 21 => 53 | 22 => 54 | 23 => 55 | 24 => 56 | 25 => 57 | 26 => 58 | 27 => 59 | 46 => 85 | 47 => 86 | 48 => 87 | 49 => 88 | 50 => 89 | 57 => 105 | n => n, fun | 22 => 32 | 24 => 39 | 25 => 54 | 3 => 3 | 39 => 85 | 0 => 0 | 53 => 117 | 55 => 119 | 4 => 4 | 46 => 111 | 45 => 110 | 50 => 94 | 5 => 5 | 9 => 9 | 66 => 137 | 70 => 141 | 76 => 156 | 77 => 157 | n => n, fun | n => n⟩
theorem Tryz.sortKeys : Go.Proofs.SlLaysF0.n6 Tryz.prog Tryz.sortKeys_ren := {
  mixed := by kernel_rfl
  f6 := ⟨Tryz.f18.name, by decide, Tryz.func18.trans (congrArg some (by kernel_rfl))⟩
  f14 := ⟨Tryz.f34.name, by decide, Tryz.func34.trans (congrArg some (by kernel_rfl))⟩
  f15 := Tryz.func35.trans (congrArg some (by kernel_rfl))
  f20 := ⟨Tryz.f52.name, by decide, Tryz.func52.trans (congrArg some (by kernel_rfl))⟩
  f21 := ⟨Tryz.f53.name, by decide, Tryz.func53.trans (congrArg some (by kernel_rfl))⟩
  f22 := ⟨Tryz.f54.name, by decide, Tryz.func54.trans (congrArg some (by kernel_rfl))⟩
  f23 := ⟨Tryz.f55.name, by decide, Tryz.func55.trans (congrArg some (by kernel_rfl))⟩
  f24 := ⟨Tryz.f56.name, by decide, Tryz.func56.trans (congrArg some (by kernel_rfl))⟩
  f25 := ⟨Tryz.f57.name, by decide, Tryz.func57.trans (congrArg some (by kernel_rfl))⟩
  f26 := ⟨Tryz.f58.name, by decide, Tryz.func58.trans (congrArg some (by kernel_rfl))⟩
  f27 := ⟨Tryz.f59.name, by decide, Tryz.func59.trans (congrArg some (by kernel_rfl))⟩
  f28 := Tryz.func60.trans (congrArg some (by kernel_rfl))
  f29 := Tryz.func61.trans (congrArg some (by kernel_rfl))
  f46 := ⟨Tryz.f85.name, by decide, Tryz.func85.trans (congrArg some (by kernel_rfl))⟩
  f47 := Tryz.func86.trans (congrArg some (by kernel_rfl))
  f48 := Tryz.func87.trans (congrArg some (by kernel_rfl))
  f49 := ⟨Tryz.f88.name, by decide, Tryz.func88.trans (congrArg some (by kernel_rfl))⟩
  f50 := ⟨Tryz.f89.name, by decide, Tryz.func89.trans (congrArg some (by kernel_rfl))⟩
  f57 := ⟨Tryz.f105.name, by decide, Tryz.func105.trans (congrArg some (by kernel_rfl))⟩
  t0 := Tryz.underlying0
  a0 := Tryz.isAgg0
  z0 := Tryz.sizeOf0
  v0 := Tryz.zeroValue0
  t3 := Tryz.underlying3
  a3 := Tryz.isAgg3
  z3 := Tryz.sizeOf3
  v3 := Tryz.zeroValue3
  t4 := Tryz.underlying4
  a4 := Tryz.isAgg4
  z4 := Tryz.sizeOf4
  v4 := Tryz.zeroValue4
  t5 := Tryz.underlying5
  a5 := Tryz.isAgg5
  z5 := Tryz.sizeOf5
  v5 := Tryz.zeroValue5
  t9 := Tryz.underlying9
  a9 := Tryz.isAgg9
  z9 := Tryz.sizeOf9
  v9 := Tryz.zeroValue9
  t22 := Tryz.underlying32
  a22 := Tryz.isAgg32
  z22 := Tryz.sizeOf32
  v22 := Tryz.zeroValue32
  t25 := Tryz.underlying54
  a25 := Tryz.isAgg54
  z25 := Tryz.sizeOf54
  v25 := Tryz.zeroValue54
  t39 := Tryz.underlying85
  a39 := Tryz.isAgg85
  z39 := Tryz.sizeOf85
  v39 := Tryz.zeroValue85
  t45 := Tryz.underlying110
  a45 := Tryz.isAgg110
  z45 := Tryz.sizeOf110
  v45 := Tryz.zeroValue110
  t46 := Tryz.underlying111
  a46 := Tryz.isAgg111
  z46 := Tryz.sizeOf111
  v46 := Tryz.zeroValue111
  t50 := Tryz.underlying94
  a50 := Tryz.isAgg94
  z50 := Tryz.sizeOf94
  v50 := Tryz.zeroValue94
  t53 := Tryz.underlying117
  a53 := Tryz.isAgg117
  z53 := Tryz.sizeOf117
  v53 := Tryz.zeroValue117
  t55 := Tryz.underlying119
  a55 := Tryz.isAgg119
  z55 := Tryz.sizeOf119
  v55 := Tryz.zeroValue119
  t66 := Tryz.underlying137
  a66 := Tryz.isAgg137
  z66 := Tryz.sizeOf137
  v66 := Tryz.zeroValue137
  t70 := Tryz.underlying141
  a70 := Tryz.isAgg141
  z70 := Tryz.sizeOf141
  v70 := Tryz.zeroValue141
  t76 := Tryz.underlying156
  a76 := Tryz.isAgg156
  z76 := Tryz.sizeOf156
  v76 := Tryz.zeroValue156
  t77 := Tryz.underlying157
  a77 := Tryz.isAgg157
  z77 := Tryz.sizeOf157
  v77 := Tryz.zeroValue157 }
end Go.Proofs
namespace Go.Idl
set_option linter.all false
open Go.Proofs
@[go_sem] theorem ttm_104_h : hasP Tryz.prog 104 = true := by decide +kernel
@[go_sem] theorem ttm_104_s : sizeP Tryz.prog 104 = 1128 := by decide +kernel
@[go_sem] theorem ttm_104_a : aggP Tryz.prog 104 = true := by decide +kernel
@[go_sem] theorem ttm_104_z : zeroP Tryz.prog 104 = some (arr 1128 fun _ => .bool false) := _root_.id (by kernel_rfl)
@[go_sem] theorem ttm_106_h : hasP Tryz.prog 106 = true := by decide +kernel
@[go_sem] theorem ttm_106_s : sizeP Tryz.prog 106 = 2350 := by decide +kernel
@[go_sem] theorem ttm_106_a : aggP Tryz.prog 106 = true := by decide +kernel
@[go_sem] theorem ttm_106_z : zeroP Tryz.prog 106 = some (arr 2350 fun _ => .bool false) := _root_.id (by kernel_rfl)
end Go.Idl
namespace Go.Idl
set_option linter.all false
open Go.Proofs
set_option maxHeartbeats 4000000
set_option maxRecDepth 40000

/-- A row: round, table, north-south, east-west, set. -/
structure Rw where
  r : Int
  t : Int
  ns : Int
  ew : Int
  s : Int
  deriving DecidableEq
def Rw.c (x : Rw) : List IV := [.int .i64 x.r, .int .i64 x.t, .int .i64 x.ns, .int .i64 x.ew, .int .i64 x.s]
def rws (l : List Rw) : List (List IV) := mp Rw.c l
@[simp] theorem rws_length (l : List Rw) : (rws l).length = l.length := mp_length
@[simp] theorem rws_getElem (l : List Rw) (i : Nat) (h : i < (rws l).length) : (rws l)[i] = [.int .i64 (l[i]'(by simpa using h)).r, .int .i64 (l[i]'(by simpa using h)).t, .int .i64 (l[i]'(by simpa using h)).ns, .int .i64 (l[i]'(by simpa using h)).ew, .int .i64 (l[i]'(by simpa using h)).s] := by simp [rws, mp, Rw.c]
theorem rws_snoc {l : List Rw} {x : Rw} : rws (l ++ [x]) = rws l ++ [[.int .i64 x.r, .int .i64 x.t, .int .i64 x.ns, .int .i64 x.ew, .int .i64 x.s]] := mp_snoc
theorem rws_append {l m : List Rw} : rws (l ++ m) = rws l ++ rws m := mp_append
@[go_sem] theorem rws_nil : rws [] = [] := rfl
@[go_sem] theorem ScR_rws {l : List Rw} : ScR (rws l) = True := eq_true (mp_sc (by simp [scal, Rw.c]))
@[go_sem] theorem ClR_rws {l : List Rw} : ClR (rws l) = True := eq_true (ScR.cl (mp_sc (by simp [scal, Rw.c])))
@[go_sem] theorem BlR_rws {n : Nat} {l : List Rw} : BlR n (rws l) = True := eq_true (ScR.bl (mp_sc (by simp [scal, Rw.c])))
theorem rws_rows {l : List Rw} : ∀ r ∈ rws l, r.length = 5 := mp_rows (by simp [Rw.c])
theorem rws_one {l : List Rw} : ∀ a ∈ rws l, a.length = 5 ∧ ∀ x ∈ a, IV.one x = true := rows_one (mp_sc (by simp [scal, Rw.c])) rws_rows
theorem rws_cons {l : List Rw} {x : Rw} : rws (x :: l) = [.int .i64 x.r, .int .i64 x.t, .int .i64 x.ns, .int .i64 x.ew, .int .i64 x.s] :: rws l := rfl
theorem rws_take {l : List Rw} {n : Nat} : rws (l.take n) = (rws l).take n := mp_take
theorem rws_drop {l : List Rw} {n : Nat} : rws (l.drop n) = (rws l).drop n := mp_drop
theorem rws_set {l : List Rw} {i : Nat} {x : Rw} : rws (l.set i x) = (rws l).set i x.c := mp_set
theorem rws_rep {n : Nat} {x : Rw} : List.replicate n x.c = rws (List.replicate n x) := by simp [rws, mp]
def ints (l : List Int) : List (List IV) := mp (fun x => [.int .i64 x]) l
@[simp] theorem ints_length (l : List Int) : (ints l).length = l.length := mp_length
@[simp] theorem ints_getElem (l : List Int) (i : Nat) (h : i < (ints l).length) : (ints l)[i] = [.int .i64 (l[i]'(by simpa using h))] := by simp [ints, mp]
theorem ints_snoc {l : List Int} {x : Int} : ints (l ++ [x]) = ints l ++ [[.int .i64 x]] := mp_snoc
theorem ints_append {l m : List Int} : ints (l ++ m) = ints l ++ ints m := mp_append
@[go_sem] theorem ints_nil : ints [] = [] := rfl
@[go_sem] theorem ScR_ints {l : List Int} : ScR (ints l) = True := eq_true (mp_sc (by simp [scal]))
@[go_sem] theorem ClR_ints {l : List Int} : ClR (ints l) = True := eq_true (ScR.cl (mp_sc (by simp [scal])))
@[go_sem] theorem BlR_ints {n : Nat} {l : List Int} : BlR n (ints l) = True := eq_true (ScR.bl (mp_sc (by simp [scal])))
theorem ints_rows {l : List Int} : ∀ r ∈ ints l, r.length = 1 := mp_rows (by simp)
theorem ints_one {l : List Int} : ∀ a ∈ ints l, a.length = 1 ∧ ∀ x ∈ a, IV.one x = true := rows_one (mp_sc (by simp [scal])) ints_rows
theorem ints_cons {l : List Int} {x : Int} : ints (x :: l) = [.int .i64 x] :: ints l := rfl
theorem ints_take {l : List Int} {n : Nat} : ints (l.take n) = (ints l).take n := mp_take
theorem ints_drop {l : List Int} {n : Nat} : ints (l.drop n) = (ints l).drop n := mp_drop
theorem ints_set {l : List Int} {i : Nat} {x : Int} : ints (l.set i x) = (ints l).set i [.int .i64 x] := mp_set
/-- A movement; its rows. -/
structure Mv where
  tables : Int
  rounds : Int
  sets : Int
  copies : Int
  winners : Int
  rows : List Rw
  deriving DecidableEq
def Mv.v (m : Mv) : IV := .agg [.int .i64 m.tables, .int .i64 m.rounds, .int .i64 m.sets, .int .i64 m.copies, .int .i64 m.winners, .fz 5 (rws m.rows)]
def Rw.v (x : Rw) : IV := .agg [.int .i64 x.r, .int .i64 x.t, .int .i64 x.ns, .int .i64 x.ew, .int .i64 x.s]
/-- A session. -/
def sesV (m : Mv) (boards : Int) : IV := .agg [.int .i64 m.tables, .int .i64 m.rounds, .int .i64 m.sets, .int .i64 m.copies, .int .i64 m.winners, .fz 5 (rws m.rows), .int .i64 boards]
/-- A function of the program. -/
abbrev FN (f : FuncId) (args : List IV) (V : IV → Prop) : Prop := IFun true Tryz.prog [] f args V
abbrev ON (f : FuncId) (args : List IV) (V : IV → Prop) : Prop := IFun false Tryz.prog [] f args V
end Go.Idl
namespace Go.Idl
set_option linter.all false
open Go.Proofs
theorem sortInt : SortInt Tryz.prog 28 := fun blk off cap zs w hH hb hl => Any.slices_Sort_int Tryz.lays189 blk off cap zs w hH hb hl
theorem sort0 : Sort0 Tryz.prog 28 := fun p cap w => Any.slices_Sort_int_none Tryz.lays189 p cap w
end Go.Idl
namespace Go.Idl
set_option linter.all false
open Go.Proofs
theorem compactInt : CompactInt Tryz.prog 29 := fun blk off cap zs w hH hc hl => Any.slices_Compact_int Tryz.lays2n20 blk off cap zs w hH hl hc
theorem compact0 : Compact0 Tryz.prog 29 := fun p cap w => Any.slices_Compact_int_empty Tryz.lays2n20 p cap w
end Go.Idl
namespace Go.Idl
set_option linter.all false
open Go.Lib

def Inc (l : List Int) : Prop := l.Pairwise (· < ·)
theorem Inc.ext {a b : List Int} (ha : Inc a) (hb : Inc b) (h : ∀ x, x ∈ a ↔ x ∈ b) : a = b := by
  have na : a.Nodup := ha.imp fun h => by omega
  have nb : b.Nodup := hb.imp fun h => by omega
  have p : a.Perm b := (List.perm_ext_iff_of_nodup na nb).2 h
  exact List.Perm.eq_of_pairwise (fun x y _ _ h1 h2 => by omega) ha hb p
theorem compactUpTo_spec (d : Array Int) (hs : ∀ i j, i ≤ j → j < d.size → d[i]! ≤ d[j]!) : ∀ m, m ≤ d.size → Inc (compactUpTo d m) ∧ ∀ x, x ∈ compactUpTo d m ↔ ∃ j, j < m ∧ d[j]! = x := by
  intro m
  induction m with
  | zero => intro _; exact ⟨by simp [compactUpTo, Inc], fun x => by simp [compactUpTo]⟩
  | succ m ih =>
    intro hm
    obtain ⟨h1, h2⟩ := ih (by omega)
    rw [compactUpTo_succ]
    cases hk : keeps d m with
    | true =>
      simp only [if_true]
      refine ⟨?_, fun x => ?_⟩
      · refine List.pairwise_append.2 ⟨h1, by simp, fun a ha b hb => ?_⟩
        rw [List.mem_singleton] at hb
        subst hb
        obtain ⟨j, hj, rfl⟩ := (h2 a).1 ha
        have e1 := hs j (m - 1) (by omega) (by omega)
        have e2 := hs (m - 1) m (by omega) (by omega)
        unfold keeps at hk
        simp at hk
        have : d[m]! ≠ d[m - 1]! := by
          rcases hk with hk | hk
          · omega
          · simpa using hk
        omega
      · rw [List.mem_append, h2, List.mem_singleton]
        constructor
        · rintro (⟨j, hj, rfl⟩ | rfl)
          · exact ⟨j, by omega, rfl⟩
          · exact ⟨m, by omega, rfl⟩
        · rintro ⟨j, hj, rfl⟩
          by_cases e : j = m
          · subst e; exact .inr rfl
          · exact .inl ⟨j, by omega, rfl⟩
    | false =>
      simp only [Bool.false_eq_true, if_false, List.append_nil]
      refine ⟨h1, fun x => ?_⟩
      rw [h2]
      constructor
      · rintro ⟨j, hj, rfl⟩; exact ⟨j, by omega, rfl⟩
      · rintro ⟨j, hj, rfl⟩
        by_cases e : j = m
        · subst e
          unfold keeps at hk
          simp at hk
          exact ⟨j - 1, by omega, by simpa using hk.2.symm⟩
        · exact ⟨j, by omega, rfl⟩
theorem compact_inc {l : List Int} (hs : l.Pairwise (· ≤ ·)) : Inc (compact l) ∧ ∀ x, x ∈ compact l ↔ x ∈ l := by
  have h := compactUpTo_spec l.toArray (fun i j hij hj => by
    simp at hj
    rcases Nat.lt_or_ge i j with h | h
    · have := List.pairwise_iff_getElem.1 hs i j (by omega) hj h
      simpa [hj, Nat.lt_trans h hj] using this
    · have : i = j := by omega
      subst this; exact Int.le_refl _) l.length (by simp)
  refine ⟨h.1, fun x => ?_⟩
  unfold compact
  rw [h.2, List.mem_iff_getElem]
  constructor
  · rintro ⟨j, hj, e⟩; exact ⟨j, hj, by simpa [hj] using e⟩
  · rintro ⟨j, hj, e⟩; exact ⟨j, hj, by simpa [hj] using e⟩
theorem sortI (l : List Int) : (l.mergeSort fun x y => decide (x ≤ y)).Pairwise (· ≤ ·) := by
  have := List.pairwise_mergeSort (le := fun x y : Int => decide (x ≤ y)) (fun a b c h1 h2 => by simp at *; omega) (fun a b => by simp; omega) l
  exact this.imp fun h => by simpa using h
/-- Sorted, each once. -/
def srt (l : List Int) : List Int := compact (l.mergeSort fun x y => decide (x ≤ y))
theorem srt_inc (l : List Int) : Inc (srt l) := (compact_inc (sortI l)).1
theorem srt_mem {l : List Int} {x : Int} : x ∈ srt l ↔ x ∈ l := by
  unfold srt
  rw [(compact_inc (sortI l)).2, List.mem_mergeSort]
theorem srt_eq {l a : List Int} (ha : Inc a) (h : ∀ x, x ∈ a ↔ x ∈ l) : srt l = a := (srt_inc l).ext ha fun x => by rw [srt_mem, h]
end Go.Idl
namespace Go.Idl
set_option linter.all false
open Go.RowKit Go.Proofs

theorem fitL_int {k : IntKind} {l : List Shp} {r : List IV} (h : fitL (.int k :: l) r) : ∃ (z : Int) (cs : List IV), r = .int k z :: cs ∧ (Lit.int k z).wf = true ∧ fitL l cs := by
  obtain ⟨c, cs, rfl, h1, h2⟩ := fitL_cons h
  obtain ⟨z, rfl, hz⟩ := fit_int h1
  exact ⟨z, cs, rfl, hz, h2⟩
theorem fit_rows {c : IV} (h : (Shp.fz 5 [.int .i64, .int .i64, .int .i64, .int .i64, .int .i64]).fit c) : ∃ l : List Rw, c = .fz 5 (rws l) ∧ (∀ x ∈ l, True) ∧ l.length ≤ maxLen :=
  fit_list (f := Rw.c) (fun r hr => by
    obtain ⟨a, r1, rfl, _, h1⟩ := fitL_int hr
    obtain ⟨b, r2, rfl, _, h2⟩ := fitL_int h1
    obtain ⟨c, r3, rfl, _, h3⟩ := fitL_int h2
    obtain ⟨d, r4, rfl, _, h4⟩ := fitL_int h3
    obtain ⟨e, r5, rfl, _, h5⟩ := fitL_int h4
    obtain rfl := fitL_nil h5
    exact ⟨⟨a, b, c, d, e⟩, rfl, trivial⟩) h
def Mv.cells (m : Mv) : List IV := [.int .i64 m.tables, .int .i64 m.rounds, .int .i64 m.sets, .int .i64 m.copies, .int .i64 m.winners, .fz 5 (rws m.rows)]
theorem fit_mv {cs : List IV} (h : fitL [.int .i64, .int .i64, .int .i64, .int .i64, .int .i64, .fz 5 [.int .i64, .int .i64, .int .i64, .int .i64, .int .i64]] cs) :
    ∃ q : Mv, cs = q.cells := by
  obtain ⟨a, r1, rfl, _, h1⟩ := fitL_int h
  obtain ⟨b, r2, rfl, _, h2⟩ := fitL_int h1
  obtain ⟨c, r3, rfl, _, h3⟩ := fitL_int h2
  obtain ⟨d, r4, rfl, _, h4⟩ := fitL_int h3
  obtain ⟨e, r5, rfl, _, h5⟩ := fitL_int h4
  obtain ⟨x, r6, rfl, hx, h6⟩ := fitL_cons h5
  obtain rfl := fitL_nil h6
  obtain ⟨l, rfl, _⟩ := fit_rows hx
  exact ⟨⟨a, b, c, d, e, l⟩, rfl⟩
theorem wf64 {z : Int} (h : (Lit.int .i64 z).wf = true) : -2 ^ 63 ≤ z ∧ z < 2 ^ 63 := by
  have := bounds_i64 h; omega
theorem wf8 {z : Int} (h : (Lit.int .u8 z).wf = true) : 0 ≤ z ∧ z < 256 := by
  have := bounds_u8 h; omega
end Go.Idl
namespace Go.Idl
set_option linter.all false
open Go.Proofs
set_option maxHeartbeats 16000000
set_option maxRecDepth 40000

def cmpI (a b : Int) : Int := if a < b then -1 else if b < a then 1 else 0
theorem isNaNI_fun (a : Int) : IFun true Tryz.prog [] 62 [.int .i64 a] (fun v => v = .bool false) := by
  refine IFun.of_bodyZ false 3 [] Tryz.func62 rfl Tryz.call62 rfl fun R hR => ?_
  simp [go_sem]
  exact hR _ _ _ rfl (by simp [go_sem])
theorem cmpI_fun (a b : Int) : IFun true Tryz.prog [] 37 [.int .i64 a, .int .i64 b] (fun v => v = .int .i64 (cmpI a b)) := by
  refine IFun.of_bodyZ false 7 [11, 12, 13, 16, 19] Tryz.func37 rfl Tryz.call37 rfl fun R hR => ?_
  unfold cmpI at hR
  simp [go_sem]
  refine (isNaNI_fun a).callF (by simp [go_sem]) ?_
  rintro _ rfl
  simp [go_sem]
  refine (isNaNI_fun b).callF (by simp [go_sem]) ?_
  rintro _ rfl
  by_cases h1 : a < b
  · rw [if_pos h1] at hR
    simp [go_sem, h1]
    exact hR _ _ _ rfl (by simp [go_sem])
  · rw [if_neg h1] at hR
    by_cases h2 : b < a
    · rw [if_pos h2] at hR
      simp [go_sem, h1, h2]
      exact hR _ _ _ rfl (by simp [go_sem])
    · rw [if_neg h2] at hR
      simp [go_sem, h1, h2]
      exact hR _ _ _ rfl (by simp [go_sem])
end Go.Idl
namespace Go.Idl
set_option linter.all false
open Go.Proofs
set_option maxHeartbeats 4000000
set_option maxRecDepth 40000

def sitsP (p : Int) (x : Rw) : Prop := x.ns = p ∨ x.ew = p
def apart (x y : Rw) : Prop := (x.r = y.r → x.t ≠ y.t) ∧ (∀ p, p ≠ 0 → sitsP p x → sitsP p y → x.r ≠ y.r ∧ x.s ≠ y.s) ∧ ¬ (x.ns ≠ 0 ∧ x.ew ≠ 0 ∧ (y.ns = x.ns ∧ y.ew = x.ew ∨ y.ns = x.ew ∧ y.ew = x.ns))
def rsB (r s : Int) (x : Rw) : Bool := x.r == r && x.s == s
structure Fair (T N S C Q : Int) (L : List Rw) : Prop where
  rng : ∀ x ∈ L, (0 ≤ x.r ∧ x.r < N) ∧ (0 ≤ x.t ∧ x.t < T) ∧ (0 ≤ x.s ∧ x.s < S) ∧ (0 ≤ x.ns ∧ x.ns ≤ Q) ∧ (0 ≤ x.ew ∧ x.ew ≤ Q) ∧ (x.ns = x.ew → x.ns = 0)
  pw : L.Pairwise apart
  load : ∀ r s, (L.countP (rsB r s) : Int) ≤ C
theorem Fair.sub {T N S C Q : Int} {L L' : List Rw} (h : Fair T N S C Q L) (hs : L'.Sublist L) : Fair T N S C Q L' :=
  ⟨fun x hx => h.rng x (hs.mem hx), h.pw.sublist hs, fun r s => Int.le_trans (by have := hs.countP_le (p := rsB r s); omega) (h.load r s)⟩
theorem md {x y T : Int} (hT : 0 < T) (h : x % T = y % T) (hb : -(2 * T) < x - y ∧ x - y < 2 * T) : x = y ∨ x = y + T ∨ x = y - T := by
  have e1 := Int.mul_ediv_add_emod x T
  have e2 := Int.mul_ediv_add_emod y T
  obtain ⟨c, hc⟩ : ∃ c, x / T - y / T = c := ⟨_, rfl⟩
  have e3 : x - y = T * c := by rw [← hc, Int.mul_sub]; omega
  rw [e3] at hb
  have h1 : c < 2 := by
    apply Decidable.byContradiction; intro hh
    have := Int.mul_le_mul_of_nonneg_left (show 2 ≤ c by omega) (show 0 ≤ T by omega)
    omega
  have h2 : -2 < c := by
    apply Decidable.byContradiction; intro hh
    have := Int.mul_le_mul_of_nonneg_left (show c ≤ -2 by omega) (show 0 ≤ T by omega)
    omega
  rcases (by omega : c = -1 ∨ c = 0 ∨ c = 1) with rfl | rfl | rfl <;> omega
theorem countP_one {α : Type} {P : α → Bool} {L : List α} (h : L.Pairwise fun x y => ¬ (P x = true ∧ P y = true)) : L.countP P ≤ 1 := by
  induction L with
  | nil => simp
  | cons x L ih =>
    obtain ⟨h1, h2⟩ := List.pairwise_cons.1 h
    rw [List.countP_cons]
    by_cases e : P x = true
    · have : L.countP P = 0 := List.countP_eq_zero.2 fun y hy hp => h1 y hy ⟨e, hp⟩
      rw [this, if_pos e]; omega
    · have := ih h2
      rw [if_neg e]; omega
def mdT0 (t : Int) : Int := 2 + t % 23
theorem andNot_one {T : Int} (h : 0 ≤ T ∧ T ≤ 24) : bitsOf .andNot .i64 T 1 = T - T % 2 := by
  obtain ⟨n, rfl⟩ : ∃ n : Nat, T = n := ⟨T.toNat, by omega⟩
  have : ∀ m : Fin 25, bitsOf .andNot .i64 (m.val : Int) 1 = (m.val : Int) - m.val % 2 := by decide +kernel
  exact this ⟨n, by omega⟩
end Go.Idl
namespace Go.Idl
set_option linter.all false
open Go.Proofs

def k2 (k : Int × Int) : IV := .agg [.int .i64 k.1, .int .i64 k.2]
def enP (S : List ((Int × Int) × Int)) : List (IV × IV) := enM k2 (fun v : Int => .int .i64 v) S
theorem keP (a b : Int × Int) : keq (k2 a) (k2 b) = decide (a = b) := by
  obtain ⟨a1, a2⟩ := a
  obtain ⟨b1, b2⟩ := b
  show (match ceqs [IV.int .i64 a1, IV.int .i64 a2] [IV.int .i64 b1, IV.int .i64 b2] with | some b => b | none => false) = _
  simp [ceqs, ceq, Prod.mk.injEq]
  by_cases h1 : a1 = b1 <;> by_cases h2 : a2 = b2 <;> simp [h1, h2]
theorem mget_p (a b : Int) (S : List ((Int × Int) × Int)) : mget (.agg [.int .i64 a, .int .i64 b]) (enP S) = (aget (a, b) S).map fun v => .int .i64 v := mget_en (kf := k2) keP (a, b) S
theorem mset_p (a b v : Int) (S : List ((Int × Int) × Int)) : mset (.agg [.int .i64 a, .int .i64 b]) (.int .i64 v) (enP S) = enP (aset (a, b) v S) := mset_en (kf := k2) (vf := fun v : Int => .int .i64 v) keP (a, b) v S
@[go_sem] theorem all_enP {S : List ((Int × Int) × Int)} {X : IV → Prop} : (∀ (a b : IV), (a, b) ∈ enP S → X a) ↔ ∀ p ∈ S, X (.agg [.int .i64 p.1.1, .int .i64 p.1.2]) := by
  simp only [enP, enM, List.mem_map, Prod.mk.injEq, k2]
  constructor
  · intro h p hp; exact h _ _ ⟨p, hp, rfl, rfl⟩
  · rintro h a b ⟨p, hp, rfl, rfl⟩; exact h p hp
@[go_sem] theorem bl_p {n : Nat} {S : List ((Int × Int) × Int)} : BlM n (enP S) = True := eq_true (en_bl (fun a => by simp [go_sem, k2]) (fun b => by simp [go_sem]) S)
@[go_sem] theorem enP_nil : enP [] = [] := rfl
section
variable {α : Type} [DecidableEq α]
def getC (S : List (α × Int)) (k : α) : Int := (aget k S).getD 0
@[simp] theorem getC_nil (k : α) : getC ([] : List (α × Int)) k = 0 := rfl
theorem getC_set (S : List (α × Int)) (k k' : α) (v : Int) : getC (aset k v S) k' = if k' = k then v else getC S k' := by
  unfold getC
  rw [aget_aset]
  by_cases e : k' = k <;> simp [e]
end
end Go.Idl
namespace Go.Idl
set_option linter.all false
open Go.Proofs
set_option maxHeartbeats 4000000
set_option maxRecDepth 40000

end Go.Idl
namespace Go.Idl
set_option linter.all false
open Go.Proofs
set_option maxHeartbeats 4000000
set_option maxRecDepth 40000

def mkR (k i : Int) : Rw := ⟨0, 0, 1000003 * (k + 7) + i, 0, 0⟩
def mks (n : Nat) : List Rw := (List.range n).map fun i : Nat => mkR 1 i
theorem mks_succ (n : Nat) : mks (n + 1) = mks n ++ [mkR 1 n] := by simp [mks, List.range_succ]
@[simp] theorem mks_length (n : Nat) : (mks n).length = n := by simp [mks]
def zR : Rw := ⟨0, 0, 0, 0, 0⟩
/-- A movement whose rows lie in block b, with room behind them. -/
def Mv.o (m : Mv) (b : Nat) : IV := .agg [.int .i64 m.tables, .int .i64 m.rounds, .int .i64 m.sets, .int .i64 m.copies, .int .i64 m.winners, .sl b (m.rows.length + 12) 0 m.rows.length (some (m.rows.length + 12))]
def sesO (m : Mv) (boards : Int) (b : Nat) : IV := .agg [.int .i64 m.tables, .int .i64 m.rounds, .int .i64 m.sets, .int .i64 m.copies, .int .i64 m.winners, .sl b (m.rows.length + 12) 0 m.rows.length (some (m.rows.length + 12)), .int .i64 boards]
def lentO (l : List Rw) : IObj := .rows 5 (rws (l ++ mks 12))
@[go_sem] theorem lent_take {l m : List Rw} : List.take l.length (rws (l ++ m)) = rws l := by rw [← rws_take]; simp
@[go_sem] theorem lent_cut {l m : List Rw} : cutR 0 l.length (rws (l ++ m)) = rws l := by simp [cutR, lent_take]
@[go_sem] theorem lentO_plO {l : List Rw} : plO (lentO l) = true := rfl
@[go_sem] theorem lentO_pl {l : List Rw} : plD (lentO l) = true := rfl
@[go_sem] theorem lentO_ren {π : Nat → Nat} {l : List Rw} : renO π (lentO l) = lentO l := by simp [lentO, go_sem]
@[go_sem] theorem lentO_bl {n : Nat} {l : List Rw} : ObBl n (lentO l) = True := by simp [lentO, go_sem]
/-! ### equality -/
theorem mv_eq {a b : Mv} : (a = b) ↔ (a.tables = b.tables ∧ a.rounds = b.rounds ∧ a.sets = b.sets ∧ a.copies = b.copies ∧ a.winners = b.winners ∧ a.rows = b.rows) := by
  cases a; cases b; simp
end Go.Idl
namespace Go.Idl
set_option linter.all false
open Go.Proofs
set_option maxHeartbeats 4000000
set_option maxRecDepth 40000

/-! ### lists overwritten -/
def JR (L : List (List IV)) : Prop := ∀ r ∈ L, r.length = 1
theorem junk_len {c : Nat} : (List.replicate c [IV.junk]).length = c := by simp
end Go.Idl
