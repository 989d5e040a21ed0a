/-
  Chapter 26: the types.
-/
import Derived.Test.YtjaefodhiegmmaaProg
import Derived.Test.YtjaefodhiegmmaaIdlW
namespace Go.Idl
set_option linter.all false
open Go.Proofs
@[go_sem] theorem t26_1_h : hasP Try.prog 1 = true := by decide +kernel
@[go_sem] theorem t26_1_s : sizeP Try.prog 1 = 1 := by decide +kernel
@[go_sem] theorem t26_1_a : aggP Try.prog 1 = false := by decide +kernel
@[go_sem] theorem t26_1_z : zeroP Try.prog 1 = some [.nilf] := _root_.id rfl
@[go_sem] theorem t26_1_o : zeroOK Try.prog 1 = true := by decide +kernel
@[go_sem] theorem t26_1_i : zeroI Try.prog 1 = some (.nilf) := _root_.id rfl
@[go_sem] theorem t26_1_y : (((Try.prog.info? 1).map (·.bytes)).getD 0 ≤ 256) = True := eq_true (by decide +kernel)
@[go_sem] theorem t26_1_b : (bytesP Try.prog 1 ≤ 1024) = True := eq_true (by decide +kernel)
@[go_sem] theorem t26_2_h : hasP Try.prog 2 = true := by decide +kernel
@[go_sem] theorem t26_2_s : sizeP Try.prog 2 = 1 := by decide +kernel
@[go_sem] theorem t26_2_a : aggP Try.prog 2 = false := by decide +kernel
@[go_sem] theorem t26_2_z : zeroP Try.prog 2 = some [.int .i64 0] := _root_.id rfl
@[go_sem] theorem t26_2_o : zeroOK Try.prog 2 = true := by decide +kernel
@[go_sem] theorem t26_2_i : zeroI Try.prog 2 = some (.int .i64 0) := _root_.id rfl
@[go_sem] theorem t26_2_y : (((Try.prog.info? 2).map (·.bytes)).getD 0 ≤ 256) = True := eq_true (by decide +kernel)
@[go_sem] theorem t26_2_b : (bytesP Try.prog 2 ≤ 1024) = True := eq_true (by decide +kernel)
@[go_sem] theorem t26_2_k : keyK Try.prog 2 = some [.int .i64] := key_of (by decide +kernel)
@[go_sem] theorem t26_3_h : hasP Try.prog 3 = true := by decide +kernel
@[go_sem] theorem t26_3_s : sizeP Try.prog 3 = 1 := by decide +kernel
@[go_sem] theorem t26_3_a : aggP Try.prog 3 = false := by decide +kernel
@[go_sem] theorem t26_3_z : zeroP Try.prog 3 = some [.int .i64 0] := _root_.id rfl
@[go_sem] theorem t26_3_o : zeroOK Try.prog 3 = true := by decide +kernel
@[go_sem] theorem t26_3_i : zeroI Try.prog 3 = some (.int .i64 0) := _root_.id rfl
@[go_sem] theorem t26_3_y : (((Try.prog.info? 3).map (·.bytes)).getD 0 ≤ 256) = True := eq_true (by decide +kernel)
@[go_sem] theorem t26_3_b : (bytesP Try.prog 3 ≤ 1024) = True := eq_true (by decide +kernel)
@[go_sem] theorem t26_3_k : keyK Try.prog 3 = some [.int .i64] := key_of (by decide +kernel)
@[go_sem] theorem t26_4_h : hasP Try.prog 4 = true := by decide +kernel
@[go_sem] theorem t26_4_s : sizeP Try.prog 4 = 1 := by decide +kernel
@[go_sem] theorem t26_4_a : aggP Try.prog 4 = false := by decide +kernel
@[go_sem] theorem t26_4_z : zeroP Try.prog 4 = some [.bool false] := _root_.id rfl
@[go_sem] theorem t26_4_o : zeroOK Try.prog 4 = true := by decide +kernel
@[go_sem] theorem t26_4_i : zeroI Try.prog 4 = some (.bool false) := _root_.id rfl
@[go_sem] theorem t26_4_y : (((Try.prog.info? 4).map (·.bytes)).getD 0 ≤ 256) = True := eq_true (by decide +kernel)
@[go_sem] theorem t26_4_b : (bytesP Try.prog 4 ≤ 1024) = True := eq_true (by decide +kernel)
@[go_sem] theorem t26_4_k : keyK Try.prog 4 = some [.bool] := key_of (by decide +kernel)
@[go_sem] theorem t26_21_h : hasP Try.prog 21 = true := by decide +kernel
@[go_sem] theorem t26_21_s : sizeP Try.prog 21 = 1 := by decide +kernel
@[go_sem] theorem t26_21_a : aggP Try.prog 21 = false := by decide +kernel
@[go_sem] theorem t26_21_z : zeroP Try.prog 21 = some [.int .i32 0] := _root_.id rfl
@[go_sem] theorem t26_21_o : zeroOK Try.prog 21 = true := by decide +kernel
@[go_sem] theorem t26_21_i : zeroI Try.prog 21 = some (.int .i32 0) := _root_.id rfl
@[go_sem] theorem t26_21_y : (((Try.prog.info? 21).map (·.bytes)).getD 0 ≤ 256) = True := eq_true (by decide +kernel)
@[go_sem] theorem t26_21_b : (bytesP Try.prog 21 ≤ 1024) = True := eq_true (by decide +kernel)
@[go_sem] theorem t26_21_k : keyK Try.prog 21 = some [.int .i32] := key_of (by decide +kernel)
@[go_sem] theorem t26_22_h : hasP Try.prog 22 = true := by decide +kernel
@[go_sem] theorem t26_22_s : sizeP Try.prog 22 = 1 := by decide +kernel
@[go_sem] theorem t26_22_a : aggP Try.prog 22 = false := by decide +kernel
@[go_sem] theorem t26_22_z : zeroP Try.prog 22 = some [.nilf] := _root_.id rfl
@[go_sem] theorem t26_22_o : zeroOK Try.prog 22 = true := by decide +kernel
@[go_sem] theorem t26_22_i : zeroI Try.prog 22 = some (.nilf) := _root_.id rfl
@[go_sem] theorem t26_22_y : (((Try.prog.info? 22).map (·.bytes)).getD 0 ≤ 256) = True := eq_true (by decide +kernel)
@[go_sem] theorem t26_22_b : (bytesP Try.prog 22 ≤ 1024) = True := eq_true (by decide +kernel)
@[go_sem] theorem t26_23_h : hasP Try.prog 23 = true := by decide +kernel
@[go_sem] theorem t26_23_s : sizeP Try.prog 23 = 1 := by decide +kernel
@[go_sem] theorem t26_23_a : aggP Try.prog 23 = false := by decide +kernel
@[go_sem] theorem t26_23_z : zeroP Try.prog 23 = some [.nilf] := _root_.id rfl
@[go_sem] theorem t26_23_o : zeroOK Try.prog 23 = true := by decide +kernel
@[go_sem] theorem t26_23_i : zeroI Try.prog 23 = some (.nilf) := _root_.id rfl
@[go_sem] theorem t26_23_y : (((Try.prog.info? 23).map (·.bytes)).getD 0 ≤ 256) = True := eq_true (by decide +kernel)
@[go_sem] theorem t26_23_b : (bytesP Try.prog 23 ≤ 1024) = True := eq_true (by decide +kernel)
@[go_sem] theorem t26_24_h : hasP Try.prog 24 = true := by decide +kernel
@[go_sem] theorem t26_24_s : sizeP Try.prog 24 = 1 := by decide +kernel
@[go_sem] theorem t26_24_a : aggP Try.prog 24 = false := by decide +kernel
@[go_sem] theorem t26_24_z : zeroP Try.prog 24 = some [.nils] := _root_.id rfl
@[go_sem] theorem t26_24_o : zeroOK Try.prog 24 = true := by decide +kernel
@[go_sem] theorem t26_24_i : zeroI Try.prog 24 = some (.nils) := _root_.id rfl
@[go_sem] theorem t26_24_y : (((Try.prog.info? 24).map (·.bytes)).getD 0 ≤ 256) = True := eq_true (by decide +kernel)
@[go_sem] theorem t26_24_b : (bytesP Try.prog 24 ≤ 1024) = True := eq_true (by decide +kernel)
@[go_sem] theorem t26_25_h : hasP Try.prog 25 = true := by decide +kernel
@[go_sem] theorem t26_25_s : sizeP Try.prog 25 = 1 := by decide +kernel
@[go_sem] theorem t26_25_a : aggP Try.prog 25 = false := by decide +kernel
@[go_sem] theorem t26_25_z : zeroP Try.prog 25 = some [.nilf] := _root_.id rfl
@[go_sem] theorem t26_25_o : zeroOK Try.prog 25 = true := by decide +kernel
@[go_sem] theorem t26_25_i : zeroI Try.prog 25 = some (.nilf) := _root_.id rfl
@[go_sem] theorem t26_25_y : (((Try.prog.info? 25).map (·.bytes)).getD 0 ≤ 256) = True := eq_true (by decide +kernel)
@[go_sem] theorem t26_25_b : (bytesP Try.prog 25 ≤ 1024) = True := eq_true (by decide +kernel)
@[go_sem] theorem t26_27_h : hasP Try.prog 27 = true := by decide +kernel
@[go_sem] theorem t26_27_s : sizeP Try.prog 27 = 1 := by decide +kernel
@[go_sem] theorem t26_27_a : aggP Try.prog 27 = false := by decide +kernel
@[go_sem] theorem t26_27_z : zeroP Try.prog 27 = some [.nilf] := _root_.id rfl
@[go_sem] theorem t26_27_o : zeroOK Try.prog 27 = true := by decide +kernel
@[go_sem] theorem t26_27_i : zeroI Try.prog 27 = some (.nilf) := _root_.id rfl
@[go_sem] theorem t26_27_y : (((Try.prog.info? 27).map (·.bytes)).getD 0 ≤ 256) = True := eq_true (by decide +kernel)
@[go_sem] theorem t26_27_b : (bytesP Try.prog 27 ≤ 1024) = True := eq_true (by decide +kernel)
@[go_sem] theorem t26_28_h : hasP Try.prog 28 = true := by decide +kernel
@[go_sem] theorem t26_28_s : sizeP Try.prog 28 = 1 := by decide +kernel
@[go_sem] theorem t26_28_a : aggP Try.prog 28 = false := by decide +kernel
@[go_sem] theorem t26_28_z : zeroP Try.prog 28 = some [.nils] := _root_.id rfl
@[go_sem] theorem t26_28_o : zeroOK Try.prog 28 = true := by decide +kernel
@[go_sem] theorem t26_28_i : zeroI Try.prog 28 = some (.nils) := _root_.id rfl
@[go_sem] theorem t26_28_y : (((Try.prog.info? 28).map (·.bytes)).getD 0 ≤ 256) = True := eq_true (by decide +kernel)
@[go_sem] theorem t26_28_b : (bytesP Try.prog 28 ≤ 1024) = True := eq_true (by decide +kernel)
@[go_sem] theorem t26_29_h : hasP Try.prog 29 = true := by decide +kernel
@[go_sem] theorem t26_29_s : sizeP Try.prog 29 = 6 := by decide +kernel
@[go_sem] theorem t26_29_a : aggP Try.prog 29 = true := by decide +kernel
@[go_sem] theorem t26_29_z : zeroP Try.prog 29 = some [.int .i64 0, .int .i64 0, .int .i64 0, .int .i64 0, .int .i64 0, .nils] := _root_.id rfl
@[go_sem] theorem t26_29_o : zeroOK Try.prog 29 = true := by decide +kernel
@[go_sem] theorem t26_29_i : zeroI Try.prog 29 = some (.agg [.int .i64 0, .int .i64 0, .int .i64 0, .int .i64 0, .int .i64 0, .nils]) := _root_.id rfl
@[go_sem] theorem t26_29_y : (((Try.prog.info? 29).map (·.bytes)).getD 0 ≤ 256) = True := eq_true (by decide +kernel)
@[go_sem] theorem t26_29_b : (bytesP Try.prog 29 ≤ 1024) = True := eq_true (by decide +kernel)
@[go_sem] theorem t26_30_h : hasP Try.prog 30 = true := by decide +kernel
@[go_sem] theorem t26_30_s : sizeP Try.prog 30 = 6 := by decide +kernel
@[go_sem] theorem t26_30_a : aggP Try.prog 30 = true := by decide +kernel
@[go_sem] theorem t26_30_z : zeroP Try.prog 30 = some [.int .i64 0, .int .i64 0, .int .i64 0, .int .i64 0, .int .i64 0, .nils] := _root_.id rfl
@[go_sem] theorem t26_30_o : zeroOK Try.prog 30 = true := by decide +kernel
@[go_sem] theorem t26_30_i : zeroI Try.prog 30 = some (.agg [.int .i64 0, .int .i64 0, .int .i64 0, .int .i64 0, .int .i64 0, .nils]) := _root_.id rfl
@[go_sem] theorem t26_30_y : (((Try.prog.info? 30).map (·.bytes)).getD 0 ≤ 256) = True := eq_true (by decide +kernel)
@[go_sem] theorem t26_30_b : (bytesP Try.prog 30 ≤ 1024) = True := eq_true (by decide +kernel)
@[go_sem] theorem t26_31_h : hasP Try.prog 31 = true := by decide +kernel
@[go_sem] theorem t26_31_s : sizeP Try.prog 31 = 1 := by decide +kernel
@[go_sem] theorem t26_31_a : aggP Try.prog 31 = false := by decide +kernel
@[go_sem] theorem t26_31_z : zeroP Try.prog 31 = some [.int .i64 0] := _root_.id rfl
@[go_sem] theorem t26_31_o : zeroOK Try.prog 31 = true := by decide +kernel
@[go_sem] theorem t26_31_i : zeroI Try.prog 31 = some (.int .i64 0) := _root_.id rfl
@[go_sem] theorem t26_31_y : (((Try.prog.info? 31).map (·.bytes)).getD 0 ≤ 256) = True := eq_true (by decide +kernel)
@[go_sem] theorem t26_31_b : (bytesP Try.prog 31 ≤ 1024) = True := eq_true (by decide +kernel)
@[go_sem] theorem t26_31_k : keyK Try.prog 31 = some [.int .i64] := key_of (by decide +kernel)
@[go_sem] theorem t26_33_h : hasP Try.prog 33 = true := by decide +kernel
@[go_sem] theorem t26_33_s : sizeP Try.prog 33 = 1 := by decide +kernel
@[go_sem] theorem t26_33_a : aggP Try.prog 33 = false := by decide +kernel
@[go_sem] theorem t26_33_z : zeroP Try.prog 33 = some [.nilf] := _root_.id rfl
@[go_sem] theorem t26_33_o : zeroOK Try.prog 33 = true := by decide +kernel
@[go_sem] theorem t26_33_i : zeroI Try.prog 33 = some (.nilf) := _root_.id rfl
@[go_sem] theorem t26_33_y : (((Try.prog.info? 33).map (·.bytes)).getD 0 ≤ 256) = True := eq_true (by decide +kernel)
@[go_sem] theorem t26_33_b : (bytesP Try.prog 33 ≤ 1024) = True := eq_true (by decide +kernel)
@[go_sem] theorem t26_34_h : hasP Try.prog 34 = true := by decide +kernel
@[go_sem] theorem t26_34_s : sizeP Try.prog 34 = 1 := by decide +kernel
@[go_sem] theorem t26_34_a : aggP Try.prog 34 = false := by decide +kernel
@[go_sem] theorem t26_34_z : zeroP Try.prog 34 = some [.nilf] := _root_.id rfl
@[go_sem] theorem t26_34_o : zeroOK Try.prog 34 = true := by decide +kernel
@[go_sem] theorem t26_34_i : zeroI Try.prog 34 = some (.nilf) := _root_.id rfl
@[go_sem] theorem t26_34_y : (((Try.prog.info? 34).map (·.bytes)).getD 0 ≤ 256) = True := eq_true (by decide +kernel)
@[go_sem] theorem t26_34_b : (bytesP Try.prog 34 ≤ 1024) = True := eq_true (by decide +kernel)
@[go_sem] theorem t26_35_h : hasP Try.prog 35 = true := by decide +kernel
@[go_sem] theorem t26_35_s : sizeP Try.prog 35 = 1 := by decide +kernel
@[go_sem] theorem t26_35_a : aggP Try.prog 35 = false := by decide +kernel
@[go_sem] theorem t26_35_z : zeroP Try.prog 35 = some [.nilf] := _root_.id rfl
@[go_sem] theorem t26_35_o : zeroOK Try.prog 35 = true := by decide +kernel
@[go_sem] theorem t26_35_i : zeroI Try.prog 35 = some (.nilf) := _root_.id rfl
@[go_sem] theorem t26_35_y : (((Try.prog.info? 35).map (·.bytes)).getD 0 ≤ 256) = True := eq_true (by decide +kernel)
@[go_sem] theorem t26_35_b : (bytesP Try.prog 35 ≤ 1024) = True := eq_true (by decide +kernel)
@[go_sem] theorem t26_36_h : hasP Try.prog 36 = true := by decide +kernel
@[go_sem] theorem t26_36_s : sizeP Try.prog 36 = 1 := by decide +kernel
@[go_sem] theorem t26_36_a : aggP Try.prog 36 = false := by decide +kernel
@[go_sem] theorem t26_36_z : zeroP Try.prog 36 = some [.nilf] := _root_.id rfl
@[go_sem] theorem t26_36_o : zeroOK Try.prog 36 = true := by decide +kernel
@[go_sem] theorem t26_36_i : zeroI Try.prog 36 = some (.nilf) := _root_.id rfl
@[go_sem] theorem t26_36_y : (((Try.prog.info? 36).map (·.bytes)).getD 0 ≤ 256) = True := eq_true (by decide +kernel)
@[go_sem] theorem t26_36_b : (bytesP Try.prog 36 ≤ 1024) = True := eq_true (by decide +kernel)
@[go_sem] theorem t26_38_h : hasP Try.prog 38 = true := by decide +kernel
@[go_sem] theorem t26_38_s : sizeP Try.prog 38 = 1 := by decide +kernel
@[go_sem] theorem t26_38_a : aggP Try.prog 38 = false := by decide +kernel
@[go_sem] theorem t26_38_z : zeroP Try.prog 38 = some [.nilf] := _root_.id rfl
@[go_sem] theorem t26_38_o : zeroOK Try.prog 38 = true := by decide +kernel
@[go_sem] theorem t26_38_i : zeroI Try.prog 38 = some (.nilf) := _root_.id rfl
@[go_sem] theorem t26_38_y : (((Try.prog.info? 38).map (·.bytes)).getD 0 ≤ 256) = True := eq_true (by decide +kernel)
@[go_sem] theorem t26_38_b : (bytesP Try.prog 38 ≤ 1024) = True := eq_true (by decide +kernel)
@[go_sem] theorem t26_40_h : hasP Try.prog 40 = true := by decide +kernel
@[go_sem] theorem t26_40_s : sizeP Try.prog 40 = 1 := by decide +kernel
@[go_sem] theorem t26_40_a : aggP Try.prog 40 = false := by decide +kernel
@[go_sem] theorem t26_40_z : zeroP Try.prog 40 = some [.nilf] := _root_.id rfl
@[go_sem] theorem t26_40_o : zeroOK Try.prog 40 = true := by decide +kernel
@[go_sem] theorem t26_40_i : zeroI Try.prog 40 = some (.nilf) := _root_.id rfl
@[go_sem] theorem t26_40_y : (((Try.prog.info? 40).map (·.bytes)).getD 0 ≤ 256) = True := eq_true (by decide +kernel)
@[go_sem] theorem t26_40_b : (bytesP Try.prog 40 ≤ 1024) = True := eq_true (by decide +kernel)
@[go_sem] theorem t26_41_h : hasP Try.prog 41 = true := by decide +kernel
@[go_sem] theorem t26_41_s : sizeP Try.prog 41 = 1 := by decide +kernel
@[go_sem] theorem t26_41_a : aggP Try.prog 41 = false := by decide +kernel
@[go_sem] theorem t26_41_z : zeroP Try.prog 41 = some [.nilf] := _root_.id rfl
@[go_sem] theorem t26_41_o : zeroOK Try.prog 41 = true := by decide +kernel
@[go_sem] theorem t26_41_i : zeroI Try.prog 41 = some (.nilf) := _root_.id rfl
@[go_sem] theorem t26_41_y : (((Try.prog.info? 41).map (·.bytes)).getD 0 ≤ 256) = True := eq_true (by decide +kernel)
@[go_sem] theorem t26_41_b : (bytesP Try.prog 41 ≤ 1024) = True := eq_true (by decide +kernel)
@[go_sem] theorem t26_42_h : hasP Try.prog 42 = true := by decide +kernel
@[go_sem] theorem t26_42_s : sizeP Try.prog 42 = 1 := by decide +kernel
@[go_sem] theorem t26_42_a : aggP Try.prog 42 = false := by decide +kernel
@[go_sem] theorem t26_42_z : zeroP Try.prog 42 = some [.int .u32 0] := _root_.id rfl
@[go_sem] theorem t26_42_o : zeroOK Try.prog 42 = true := by decide +kernel
@[go_sem] theorem t26_42_i : zeroI Try.prog 42 = some (.int .u32 0) := _root_.id rfl
@[go_sem] theorem t26_42_y : (((Try.prog.info? 42).map (·.bytes)).getD 0 ≤ 256) = True := eq_true (by decide +kernel)
@[go_sem] theorem t26_42_b : (bytesP Try.prog 42 ≤ 1024) = True := eq_true (by decide +kernel)
@[go_sem] theorem t26_42_k : keyK Try.prog 42 = some [.int .u32] := key_of (by decide +kernel)
@[go_sem] theorem t26_43_h : hasP Try.prog 43 = true := by decide +kernel
@[go_sem] theorem t26_43_s : sizeP Try.prog 43 = 1 := by decide +kernel
@[go_sem] theorem t26_43_a : aggP Try.prog 43 = false := by decide +kernel
@[go_sem] theorem t26_43_z : zeroP Try.prog 43 = some [.nilf] := _root_.id rfl
@[go_sem] theorem t26_43_o : zeroOK Try.prog 43 = true := by decide +kernel
@[go_sem] theorem t26_43_i : zeroI Try.prog 43 = some (.nilf) := _root_.id rfl
@[go_sem] theorem t26_43_y : (((Try.prog.info? 43).map (·.bytes)).getD 0 ≤ 256) = True := eq_true (by decide +kernel)
@[go_sem] theorem t26_43_b : (bytesP Try.prog 43 ≤ 1024) = True := eq_true (by decide +kernel)
@[go_sem] theorem t26_44_h : hasP Try.prog 44 = true := by decide +kernel
@[go_sem] theorem t26_44_s : sizeP Try.prog 44 = 2 := by decide +kernel
@[go_sem] theorem t26_44_a : aggP Try.prog 44 = true := by decide +kernel
@[go_sem] theorem t26_44_z : zeroP Try.prog 44 = some [.int .i64 0, .int .i64 0] := _root_.id rfl
@[go_sem] theorem t26_44_o : zeroOK Try.prog 44 = true := by decide +kernel
@[go_sem] theorem t26_44_i : zeroI Try.prog 44 = some (.agg [.int .i64 0, .int .i64 0]) := _root_.id rfl
@[go_sem] theorem t26_44_y : (((Try.prog.info? 44).map (·.bytes)).getD 0 ≤ 256) = True := eq_true (by decide +kernel)
@[go_sem] theorem t26_44_b : (bytesP Try.prog 44 ≤ 1024) = True := eq_true (by decide +kernel)
@[go_sem] theorem t26_44_f : flatP Try.prog 44 = some [.int .i64, .int .i64] := flat_of (by decide +kernel)
@[go_sem] theorem t26_44_k : keyK Try.prog 44 = some [.int .i64, .int .i64] := key_of (by decide +kernel)
@[go_sem] theorem t26_45_h : hasP Try.prog 45 = true := by decide +kernel
@[go_sem] theorem t26_45_s : sizeP Try.prog 45 = 1 := by decide +kernel
@[go_sem] theorem t26_45_a : aggP Try.prog 45 = false := by decide +kernel
@[go_sem] theorem t26_45_z : zeroP Try.prog 45 = some [.nilf] := _root_.id rfl
@[go_sem] theorem t26_45_o : zeroOK Try.prog 45 = true := by decide +kernel
@[go_sem] theorem t26_45_i : zeroI Try.prog 45 = some (.nilf) := _root_.id rfl
@[go_sem] theorem t26_45_y : (((Try.prog.info? 45).map (·.bytes)).getD 0 ≤ 256) = True := eq_true (by decide +kernel)
@[go_sem] theorem t26_45_b : (bytesP Try.prog 45 ≤ 1024) = True := eq_true (by decide +kernel)
@[go_sem] theorem t26_47_h : hasP Try.prog 47 = true := by decide +kernel
@[go_sem] theorem t26_47_s : sizeP Try.prog 47 = 1 := by decide +kernel
@[go_sem] theorem t26_47_a : aggP Try.prog 47 = false := by decide +kernel
@[go_sem] theorem t26_47_z : zeroP Try.prog 47 = some [.nilf] := _root_.id rfl
@[go_sem] theorem t26_47_o : zeroOK Try.prog 47 = true := by decide +kernel
@[go_sem] theorem t26_47_i : zeroI Try.prog 47 = some (.nilf) := _root_.id rfl
@[go_sem] theorem t26_47_y : (((Try.prog.info? 47).map (·.bytes)).getD 0 ≤ 256) = True := eq_true (by decide +kernel)
@[go_sem] theorem t26_47_b : (bytesP Try.prog 47 ≤ 1024) = True := eq_true (by decide +kernel)
@[go_sem] theorem t26_48_h : hasP Try.prog 48 = true := by decide +kernel
@[go_sem] theorem t26_48_s : sizeP Try.prog 48 = 1 := by decide +kernel
@[go_sem] theorem t26_48_a : aggP Try.prog 48 = false := by decide +kernel
@[go_sem] theorem t26_48_z : zeroP Try.prog 48 = some [.nils] := _root_.id rfl
@[go_sem] theorem t26_48_o : zeroOK Try.prog 48 = true := by decide +kernel
@[go_sem] theorem t26_48_i : zeroI Try.prog 48 = some (.nils) := _root_.id rfl
@[go_sem] theorem t26_48_y : (((Try.prog.info? 48).map (·.bytes)).getD 0 ≤ 256) = True := eq_true (by decide +kernel)
@[go_sem] theorem t26_48_b : (bytesP Try.prog 48 ≤ 1024) = True := eq_true (by decide +kernel)
@[go_sem] theorem t26_50_h : hasP Try.prog 50 = true := by decide +kernel
@[go_sem] theorem t26_50_s : sizeP Try.prog 50 = 1 := by decide +kernel
@[go_sem] theorem t26_50_a : aggP Try.prog 50 = false := by decide +kernel
@[go_sem] theorem t26_50_z : zeroP Try.prog 50 = some [.nilf] := _root_.id rfl
@[go_sem] theorem t26_50_o : zeroOK Try.prog 50 = true := by decide +kernel
@[go_sem] theorem t26_50_i : zeroI Try.prog 50 = some (.nilf) := _root_.id rfl
@[go_sem] theorem t26_50_y : (((Try.prog.info? 50).map (·.bytes)).getD 0 ≤ 256) = True := eq_true (by decide +kernel)
@[go_sem] theorem t26_50_b : (bytesP Try.prog 50 ≤ 1024) = True := eq_true (by decide +kernel)
@[go_sem] theorem t26_51_h : hasP Try.prog 51 = true := by decide +kernel
@[go_sem] theorem t26_51_s : sizeP Try.prog 51 = 1 := by decide +kernel
@[go_sem] theorem t26_51_a : aggP Try.prog 51 = false := by decide +kernel
@[go_sem] theorem t26_51_z : zeroP Try.prog 51 = some [.nilf] := _root_.id rfl
@[go_sem] theorem t26_51_o : zeroOK Try.prog 51 = true := by decide +kernel
@[go_sem] theorem t26_51_i : zeroI Try.prog 51 = some (.nilf) := _root_.id rfl
@[go_sem] theorem t26_51_y : (((Try.prog.info? 51).map (·.bytes)).getD 0 ≤ 256) = True := eq_true (by decide +kernel)
@[go_sem] theorem t26_51_b : (bytesP Try.prog 51 ≤ 1024) = True := eq_true (by decide +kernel)
@[go_sem] theorem t26_52_h : hasP Try.prog 52 = true := by decide +kernel
@[go_sem] theorem t26_52_s : sizeP Try.prog 52 = 1 := by decide +kernel
@[go_sem] theorem t26_52_a : aggP Try.prog 52 = false := by decide +kernel
@[go_sem] theorem t26_52_z : zeroP Try.prog 52 = some [.nilf] := _root_.id rfl
@[go_sem] theorem t26_52_o : zeroOK Try.prog 52 = true := by decide +kernel
@[go_sem] theorem t26_52_i : zeroI Try.prog 52 = some (.nilf) := _root_.id rfl
@[go_sem] theorem t26_52_y : (((Try.prog.info? 52).map (·.bytes)).getD 0 ≤ 256) = True := eq_true (by decide +kernel)
@[go_sem] theorem t26_52_b : (bytesP Try.prog 52 ≤ 1024) = True := eq_true (by decide +kernel)
@[go_sem] theorem t26_54_h : hasP Try.prog 54 = true := by decide +kernel
@[go_sem] theorem t26_54_s : sizeP Try.prog 54 = 1 := by decide +kernel
@[go_sem] theorem t26_54_a : aggP Try.prog 54 = false := by decide +kernel
@[go_sem] theorem t26_54_z : zeroP Try.prog 54 = some [.nilf] := _root_.id rfl
@[go_sem] theorem t26_54_o : zeroOK Try.prog 54 = true := by decide +kernel
@[go_sem] theorem t26_54_i : zeroI Try.prog 54 = some (.nilf) := _root_.id rfl
@[go_sem] theorem t26_54_y : (((Try.prog.info? 54).map (·.bytes)).getD 0 ≤ 256) = True := eq_true (by decide +kernel)
@[go_sem] theorem t26_54_b : (bytesP Try.prog 54 ≤ 1024) = True := eq_true (by decide +kernel)
@[go_sem] theorem t26_56_h : hasP Try.prog 56 = true := by decide +kernel
@[go_sem] theorem t26_56_s : sizeP Try.prog 56 = 1 := by decide +kernel
@[go_sem] theorem t26_56_a : aggP Try.prog 56 = false := by decide +kernel
@[go_sem] theorem t26_56_z : zeroP Try.prog 56 = some [.nilf] := _root_.id rfl
@[go_sem] theorem t26_56_o : zeroOK Try.prog 56 = true := by decide +kernel
@[go_sem] theorem t26_56_i : zeroI Try.prog 56 = some (.nilf) := _root_.id rfl
@[go_sem] theorem t26_56_y : (((Try.prog.info? 56).map (·.bytes)).getD 0 ≤ 256) = True := eq_true (by decide +kernel)
@[go_sem] theorem t26_56_b : (bytesP Try.prog 56 ≤ 1024) = True := eq_true (by decide +kernel)
@[go_sem] theorem t26_57_h : hasP Try.prog 57 = true := by decide +kernel
@[go_sem] theorem t26_57_s : sizeP Try.prog 57 = 1 := by decide +kernel
@[go_sem] theorem t26_57_a : aggP Try.prog 57 = false := by decide +kernel
@[go_sem] theorem t26_57_z : zeroP Try.prog 57 = some [.nilf] := _root_.id rfl
@[go_sem] theorem t26_57_o : zeroOK Try.prog 57 = true := by decide +kernel
@[go_sem] theorem t26_57_i : zeroI Try.prog 57 = some (.nilf) := _root_.id rfl
@[go_sem] theorem t26_57_y : (((Try.prog.info? 57).map (·.bytes)).getD 0 ≤ 256) = True := eq_true (by decide +kernel)
@[go_sem] theorem t26_57_b : (bytesP Try.prog 57 ≤ 1024) = True := eq_true (by decide +kernel)
@[go_sem] theorem t26_58_h : hasP Try.prog 58 = true := by decide +kernel
@[go_sem] theorem t26_58_s : sizeP Try.prog 58 = 1 := by decide +kernel
@[go_sem] theorem t26_58_a : aggP Try.prog 58 = false := by decide +kernel
@[go_sem] theorem t26_58_z : zeroP Try.prog 58 = some [.nilm] := _root_.id rfl
@[go_sem] theorem t26_58_o : zeroOK Try.prog 58 = true := by decide +kernel
@[go_sem] theorem t26_58_i : zeroI Try.prog 58 = some (.nilm) := _root_.id rfl
@[go_sem] theorem t26_58_y : (((Try.prog.info? 58).map (·.bytes)).getD 0 ≤ 256) = True := eq_true (by decide +kernel)
@[go_sem] theorem t26_58_b : (bytesP Try.prog 58 ≤ 1024) = True := eq_true (by decide +kernel)
@[go_sem] theorem t26_59_h : hasP Try.prog 59 = true := by decide +kernel
@[go_sem] theorem t26_59_s : sizeP Try.prog 59 = 3 := by decide +kernel
@[go_sem] theorem t26_59_a : aggP Try.prog 59 = true := by decide +kernel
@[go_sem] theorem t26_59_z : zeroP Try.prog 59 = some [.int .i64 0, .int .i64 0, .int .i64 0] := _root_.id rfl
@[go_sem] theorem t26_59_o : zeroOK Try.prog 59 = true := by decide +kernel
@[go_sem] theorem t26_59_i : zeroI Try.prog 59 = some (.agg [.int .i64 0, .int .i64 0, .int .i64 0]) := _root_.id rfl
@[go_sem] theorem t26_59_y : (((Try.prog.info? 59).map (·.bytes)).getD 0 ≤ 256) = True := eq_true (by decide +kernel)
@[go_sem] theorem t26_59_b : (bytesP Try.prog 59 ≤ 1024) = True := eq_true (by decide +kernel)
@[go_sem] theorem t26_59_f : flatP Try.prog 59 = some [.int .i64, .int .i64, .int .i64] := flat_of (by decide +kernel)
@[go_sem] theorem t26_59_k : keyK Try.prog 59 = some [.int .i64, .int .i64, .int .i64] := key_of (by decide +kernel)
@[go_sem] theorem t26_60_h : hasP Try.prog 60 = true := by decide +kernel
@[go_sem] theorem t26_60_s : sizeP Try.prog 60 = 1 := by decide +kernel
@[go_sem] theorem t26_60_a : aggP Try.prog 60 = false := by decide +kernel
@[go_sem] theorem t26_60_z : zeroP Try.prog 60 = some [.nils] := _root_.id rfl
@[go_sem] theorem t26_60_o : zeroOK Try.prog 60 = true := by decide +kernel
@[go_sem] theorem t26_60_i : zeroI Try.prog 60 = some (.nils) := _root_.id rfl
@[go_sem] theorem t26_60_y : (((Try.prog.info? 60).map (·.bytes)).getD 0 ≤ 256) = True := eq_true (by decide +kernel)
@[go_sem] theorem t26_60_b : (bytesP Try.prog 60 ≤ 1024) = True := eq_true (by decide +kernel)
@[go_sem] theorem t26_61_h : hasP Try.prog 61 = true := by decide +kernel
@[go_sem] theorem t26_61_s : sizeP Try.prog 61 = 5 := by decide +kernel
@[go_sem] theorem t26_61_a : aggP Try.prog 61 = true := by decide +kernel
@[go_sem] theorem t26_61_z : zeroP Try.prog 61 = some [.int .i64 0, .int .i64 0, .int .i64 0, .int .i64 0, .int .i64 0] := _root_.id rfl
@[go_sem] theorem t26_61_o : zeroOK Try.prog 61 = true := by decide +kernel
@[go_sem] theorem t26_61_i : zeroI Try.prog 61 = some (.agg [.int .i64 0, .int .i64 0, .int .i64 0, .int .i64 0, .int .i64 0]) := _root_.id rfl
@[go_sem] theorem t26_61_y : (((Try.prog.info? 61).map (·.bytes)).getD 0 ≤ 256) = True := eq_true (by decide +kernel)
@[go_sem] theorem t26_61_b : (bytesP Try.prog 61 ≤ 1024) = True := eq_true (by decide +kernel)
@[go_sem] theorem t26_61_f : flatP Try.prog 61 = some [.int .i64, .int .i64, .int .i64, .int .i64, .int .i64] := flat_of (by decide +kernel)
@[go_sem] theorem t26_61_k : keyK Try.prog 61 = some [.int .i64, .int .i64, .int .i64, .int .i64, .int .i64] := key_of (by decide +kernel)
@[go_sem] theorem t26_62_h : hasP Try.prog 62 = true := by decide +kernel
@[go_sem] theorem t26_62_s : sizeP Try.prog 62 = 5 := by decide +kernel
@[go_sem] theorem t26_62_a : aggP Try.prog 62 = true := by decide +kernel
@[go_sem] theorem t26_62_z : zeroP Try.prog 62 = some [.int .i64 0, .int .i64 0, .int .i64 0, .int .i64 0, .int .i64 0] := _root_.id rfl
@[go_sem] theorem t26_62_o : zeroOK Try.prog 62 = true := by decide +kernel
@[go_sem] theorem t26_62_i : zeroI Try.prog 62 = some (.agg [.int .i64 0, .int .i64 0, .int .i64 0, .int .i64 0, .int .i64 0]) := _root_.id rfl
@[go_sem] theorem t26_62_y : (((Try.prog.info? 62).map (·.bytes)).getD 0 ≤ 256) = True := eq_true (by decide +kernel)
@[go_sem] theorem t26_62_b : (bytesP Try.prog 62 ≤ 1024) = True := eq_true (by decide +kernel)
@[go_sem] theorem t26_62_f : flatP Try.prog 62 = some [.int .i64, .int .i64, .int .i64, .int .i64, .int .i64] := flat_of (by decide +kernel)
@[go_sem] theorem t26_62_k : keyK Try.prog 62 = some [.int .i64, .int .i64, .int .i64, .int .i64, .int .i64] := key_of (by decide +kernel)
@[go_sem] theorem t26_64_h : hasP Try.prog 64 = true := by decide +kernel
@[go_sem] theorem t26_64_s : sizeP Try.prog 64 = 1 := by decide +kernel
@[go_sem] theorem t26_64_a : aggP Try.prog 64 = false := by decide +kernel
@[go_sem] theorem t26_64_z : zeroP Try.prog 64 = some [.nilf] := _root_.id rfl
@[go_sem] theorem t26_64_o : zeroOK Try.prog 64 = true := by decide +kernel
@[go_sem] theorem t26_64_i : zeroI Try.prog 64 = some (.nilf) := _root_.id rfl
@[go_sem] theorem t26_64_y : (((Try.prog.info? 64).map (·.bytes)).getD 0 ≤ 256) = True := eq_true (by decide +kernel)
@[go_sem] theorem t26_64_b : (bytesP Try.prog 64 ≤ 1024) = True := eq_true (by decide +kernel)
@[go_sem] theorem t26_65_h : hasP Try.prog 65 = true := by decide +kernel
@[go_sem] theorem t26_65_s : sizeP Try.prog 65 = 1 := by decide +kernel
@[go_sem] theorem t26_65_a : aggP Try.prog 65 = false := by decide +kernel
@[go_sem] theorem t26_65_z : zeroP Try.prog 65 = some [.nilf] := _root_.id rfl
@[go_sem] theorem t26_65_o : zeroOK Try.prog 65 = true := by decide +kernel
@[go_sem] theorem t26_65_i : zeroI Try.prog 65 = some (.nilf) := _root_.id rfl
@[go_sem] theorem t26_65_y : (((Try.prog.info? 65).map (·.bytes)).getD 0 ≤ 256) = True := eq_true (by decide +kernel)
@[go_sem] theorem t26_65_b : (bytesP Try.prog 65 ≤ 1024) = True := eq_true (by decide +kernel)
@[go_sem] theorem t26_66_h : hasP Try.prog 66 = true := by decide +kernel
@[go_sem] theorem t26_66_s : sizeP Try.prog 66 = 1 := by decide +kernel
@[go_sem] theorem t26_66_a : aggP Try.prog 66 = false := by decide +kernel
@[go_sem] theorem t26_66_z : zeroP Try.prog 66 = some [.nilf] := _root_.id rfl
@[go_sem] theorem t26_66_o : zeroOK Try.prog 66 = true := by decide +kernel
@[go_sem] theorem t26_66_i : zeroI Try.prog 66 = some (.nilf) := _root_.id rfl
@[go_sem] theorem t26_66_y : (((Try.prog.info? 66).map (·.bytes)).getD 0 ≤ 256) = True := eq_true (by decide +kernel)
@[go_sem] theorem t26_66_b : (bytesP Try.prog 66 ≤ 1024) = True := eq_true (by decide +kernel)
@[go_sem] theorem t26_67_h : hasP Try.prog 67 = true := by decide +kernel
@[go_sem] theorem t26_67_s : sizeP Try.prog 67 = 1 := by decide +kernel
@[go_sem] theorem t26_67_a : aggP Try.prog 67 = false := by decide +kernel
@[go_sem] theorem t26_67_z : zeroP Try.prog 67 = some [.nils] := _root_.id rfl
@[go_sem] theorem t26_67_o : zeroOK Try.prog 67 = true := by decide +kernel
@[go_sem] theorem t26_67_i : zeroI Try.prog 67 = some (.nils) := _root_.id rfl
@[go_sem] theorem t26_67_y : (((Try.prog.info? 67).map (·.bytes)).getD 0 ≤ 256) = True := eq_true (by decide +kernel)
@[go_sem] theorem t26_67_b : (bytesP Try.prog 67 ≤ 1024) = True := eq_true (by decide +kernel)
@[go_sem] theorem t26_68_h : hasP Try.prog 68 = true := by decide +kernel
@[go_sem] theorem t26_68_s : sizeP Try.prog 68 = 1 := by decide +kernel
@[go_sem] theorem t26_68_a : aggP Try.prog 68 = false := by decide +kernel
@[go_sem] theorem t26_68_z : zeroP Try.prog 68 = some [.nilf] := _root_.id rfl
@[go_sem] theorem t26_68_o : zeroOK Try.prog 68 = true := by decide +kernel
@[go_sem] theorem t26_68_i : zeroI Try.prog 68 = some (.nilf) := _root_.id rfl
@[go_sem] theorem t26_68_y : (((Try.prog.info? 68).map (·.bytes)).getD 0 ≤ 256) = True := eq_true (by decide +kernel)
@[go_sem] theorem t26_68_b : (bytesP Try.prog 68 ≤ 1024) = True := eq_true (by decide +kernel)
@[go_sem] theorem t26_69_h : hasP Try.prog 69 = true := by decide +kernel
@[go_sem] theorem t26_69_s : sizeP Try.prog 69 = 1 := by decide +kernel
@[go_sem] theorem t26_69_a : aggP Try.prog 69 = false := by decide +kernel
@[go_sem] theorem t26_69_z : zeroP Try.prog 69 = some [.nilf] := _root_.id rfl
@[go_sem] theorem t26_69_o : zeroOK Try.prog 69 = true := by decide +kernel
@[go_sem] theorem t26_69_i : zeroI Try.prog 69 = some (.nilf) := _root_.id rfl
@[go_sem] theorem t26_69_y : (((Try.prog.info? 69).map (·.bytes)).getD 0 ≤ 256) = True := eq_true (by decide +kernel)
@[go_sem] theorem t26_69_b : (bytesP Try.prog 69 ≤ 1024) = True := eq_true (by decide +kernel)
@[go_sem] theorem t26_70_h : hasP Try.prog 70 = true := by decide +kernel
@[go_sem] theorem t26_70_s : sizeP Try.prog 70 = 1 := by decide +kernel
@[go_sem] theorem t26_70_a : aggP Try.prog 70 = false := by decide +kernel
@[go_sem] theorem t26_70_z : zeroP Try.prog 70 = some [.nilf] := _root_.id rfl
@[go_sem] theorem t26_70_o : zeroOK Try.prog 70 = true := by decide +kernel
@[go_sem] theorem t26_70_i : zeroI Try.prog 70 = some (.nilf) := _root_.id rfl
@[go_sem] theorem t26_70_y : (((Try.prog.info? 70).map (·.bytes)).getD 0 ≤ 256) = True := eq_true (by decide +kernel)
@[go_sem] theorem t26_70_b : (bytesP Try.prog 70 ≤ 1024) = True := eq_true (by decide +kernel)
@[go_sem] theorem t26_71_h : hasP Try.prog 71 = true := by decide +kernel
@[go_sem] theorem t26_71_s : sizeP Try.prog 71 = 1 := by decide +kernel
@[go_sem] theorem t26_71_a : aggP Try.prog 71 = false := by decide +kernel
@[go_sem] theorem t26_71_z : zeroP Try.prog 71 = some [.nilf] := _root_.id rfl
@[go_sem] theorem t26_71_o : zeroOK Try.prog 71 = true := by decide +kernel
@[go_sem] theorem t26_71_i : zeroI Try.prog 71 = some (.nilf) := _root_.id rfl
@[go_sem] theorem t26_71_y : (((Try.prog.info? 71).map (·.bytes)).getD 0 ≤ 256) = True := eq_true (by decide +kernel)
@[go_sem] theorem t26_71_b : (bytesP Try.prog 71 ≤ 1024) = True := eq_true (by decide +kernel)
@[go_sem] theorem t26_72_h : hasP Try.prog 72 = true := by decide +kernel
@[go_sem] theorem t26_72_s : sizeP Try.prog 72 = 1 := by decide +kernel
@[go_sem] theorem t26_72_a : aggP Try.prog 72 = false := by decide +kernel
@[go_sem] theorem t26_72_z : zeroP Try.prog 72 = some [.nilf] := _root_.id rfl
@[go_sem] theorem t26_72_o : zeroOK Try.prog 72 = true := by decide +kernel
@[go_sem] theorem t26_72_i : zeroI Try.prog 72 = some (.nilf) := _root_.id rfl
@[go_sem] theorem t26_72_y : (((Try.prog.info? 72).map (·.bytes)).getD 0 ≤ 256) = True := eq_true (by decide +kernel)
@[go_sem] theorem t26_72_b : (bytesP Try.prog 72 ≤ 1024) = True := eq_true (by decide +kernel)
@[go_sem] theorem t26_73_h : hasP Try.prog 73 = true := by decide +kernel
@[go_sem] theorem t26_73_s : sizeP Try.prog 73 = 1 := by decide +kernel
@[go_sem] theorem t26_73_a : aggP Try.prog 73 = false := by decide +kernel
@[go_sem] theorem t26_73_z : zeroP Try.prog 73 = some [.nilm] := _root_.id rfl
@[go_sem] theorem t26_73_o : zeroOK Try.prog 73 = true := by decide +kernel
@[go_sem] theorem t26_73_i : zeroI Try.prog 73 = some (.nilm) := _root_.id rfl
@[go_sem] theorem t26_73_y : (((Try.prog.info? 73).map (·.bytes)).getD 0 ≤ 256) = True := eq_true (by decide +kernel)
@[go_sem] theorem t26_73_b : (bytesP Try.prog 73 ≤ 1024) = True := eq_true (by decide +kernel)
@[go_sem] theorem t26_74_h : hasP Try.prog 74 = true := by decide +kernel
@[go_sem] theorem t26_74_s : sizeP Try.prog 74 = 1 := by decide +kernel
@[go_sem] theorem t26_74_a : aggP Try.prog 74 = false := by decide +kernel
@[go_sem] theorem t26_74_z : zeroP Try.prog 74 = some [.nilf] := _root_.id rfl
@[go_sem] theorem t26_74_o : zeroOK Try.prog 74 = true := by decide +kernel
@[go_sem] theorem t26_74_i : zeroI Try.prog 74 = some (.nilf) := _root_.id rfl
@[go_sem] theorem t26_74_y : (((Try.prog.info? 74).map (·.bytes)).getD 0 ≤ 256) = True := eq_true (by decide +kernel)
@[go_sem] theorem t26_74_b : (bytesP Try.prog 74 ≤ 1024) = True := eq_true (by decide +kernel)
@[go_sem] theorem t26_75_h : hasP Try.prog 75 = true := by decide +kernel
@[go_sem] theorem t26_75_s : sizeP Try.prog 75 = 1 := by decide +kernel
@[go_sem] theorem t26_75_a : aggP Try.prog 75 = false := by decide +kernel
@[go_sem] theorem t26_75_z : zeroP Try.prog 75 = some [.nilf] := _root_.id rfl
@[go_sem] theorem t26_75_o : zeroOK Try.prog 75 = true := by decide +kernel
@[go_sem] theorem t26_75_i : zeroI Try.prog 75 = some (.nilf) := _root_.id rfl
@[go_sem] theorem t26_75_y : (((Try.prog.info? 75).map (·.bytes)).getD 0 ≤ 256) = True := eq_true (by decide +kernel)
@[go_sem] theorem t26_75_b : (bytesP Try.prog 75 ≤ 1024) = True := eq_true (by decide +kernel)
@[go_sem] theorem t26_76_h : hasP Try.prog 76 = true := by decide +kernel
@[go_sem] theorem t26_76_s : sizeP Try.prog 76 = 1 := by decide +kernel
@[go_sem] theorem t26_76_a : aggP Try.prog 76 = false := by decide +kernel
@[go_sem] theorem t26_76_z : zeroP Try.prog 76 = some [.nilf] := _root_.id rfl
@[go_sem] theorem t26_76_o : zeroOK Try.prog 76 = true := by decide +kernel
@[go_sem] theorem t26_76_i : zeroI Try.prog 76 = some (.nilf) := _root_.id rfl
@[go_sem] theorem t26_76_y : (((Try.prog.info? 76).map (·.bytes)).getD 0 ≤ 256) = True := eq_true (by decide +kernel)
@[go_sem] theorem t26_76_b : (bytesP Try.prog 76 ≤ 1024) = True := eq_true (by decide +kernel)
@[go_sem] theorem t26_77_h : hasP Try.prog 77 = true := by decide +kernel
@[go_sem] theorem t26_77_s : sizeP Try.prog 77 = 1 := by decide +kernel
@[go_sem] theorem t26_77_a : aggP Try.prog 77 = false := by decide +kernel
@[go_sem] theorem t26_77_z : zeroP Try.prog 77 = some [.nilf] := _root_.id rfl
@[go_sem] theorem t26_77_o : zeroOK Try.prog 77 = true := by decide +kernel
@[go_sem] theorem t26_77_i : zeroI Try.prog 77 = some (.nilf) := _root_.id rfl
@[go_sem] theorem t26_77_y : (((Try.prog.info? 77).map (·.bytes)).getD 0 ≤ 256) = True := eq_true (by decide +kernel)
@[go_sem] theorem t26_77_b : (bytesP Try.prog 77 ≤ 1024) = True := eq_true (by decide +kernel)
@[go_sem] theorem t26_78_h : hasP Try.prog 78 = true := by decide +kernel
@[go_sem] theorem t26_78_s : sizeP Try.prog 78 = 4 := by decide +kernel
@[go_sem] theorem t26_78_a : aggP Try.prog 78 = true := by decide +kernel
@[go_sem] theorem t26_78_z : zeroP Try.prog 78 = some [.nilp, .nilp, .nilp, .str ByteArray.empty] := _root_.id rfl
@[go_sem] theorem t26_78_o : zeroOK Try.prog 78 = true := by decide +kernel
@[go_sem] theorem t26_78_i : zeroI Try.prog 78 = some (.agg [.nilp, .nilp, .nilp, .str ByteArray.empty]) := _root_.id rfl
@[go_sem] theorem t26_78_y : (((Try.prog.info? 78).map (·.bytes)).getD 0 ≤ 256) = True := eq_true (by decide +kernel)
@[go_sem] theorem t26_78_b : (bytesP Try.prog 78 ≤ 1024) = True := eq_true (by decide +kernel)
@[go_sem] theorem t26_79_h : hasP Try.prog 79 = true := by decide +kernel
@[go_sem] theorem t26_79_s : sizeP Try.prog 79 = 4 := by decide +kernel
@[go_sem] theorem t26_79_a : aggP Try.prog 79 = true := by decide +kernel
@[go_sem] theorem t26_79_z : zeroP Try.prog 79 = some [.nilp, .nilp, .nilp, .str ByteArray.empty] := _root_.id rfl
@[go_sem] theorem t26_79_o : zeroOK Try.prog 79 = true := by decide +kernel
@[go_sem] theorem t26_79_i : zeroI Try.prog 79 = some (.agg [.nilp, .nilp, .nilp, .str ByteArray.empty]) := _root_.id rfl
@[go_sem] theorem t26_79_y : (((Try.prog.info? 79).map (·.bytes)).getD 0 ≤ 256) = True := eq_true (by decide +kernel)
@[go_sem] theorem t26_79_b : (bytesP Try.prog 79 ≤ 1024) = True := eq_true (by decide +kernel)
@[go_sem] theorem t26_80_h : hasP Try.prog 80 = true := by decide +kernel
@[go_sem] theorem t26_80_s : sizeP Try.prog 80 = 0 := by decide +kernel
@[go_sem] theorem t26_80_a : aggP Try.prog 80 = true := by decide +kernel
@[go_sem] theorem t26_81_h : hasP Try.prog 81 = true := by decide +kernel
@[go_sem] theorem t26_81_s : sizeP Try.prog 81 = 0 := by decide +kernel
@[go_sem] theorem t26_81_a : aggP Try.prog 81 = true := by decide +kernel
@[go_sem] theorem t26_82_h : hasP Try.prog 82 = true := by decide +kernel
@[go_sem] theorem t26_82_s : sizeP Try.prog 82 = 0 := by decide +kernel
@[go_sem] theorem t26_82_a : aggP Try.prog 82 = true := by decide +kernel
@[go_sem] theorem t26_83_h : hasP Try.prog 83 = true := by decide +kernel
@[go_sem] theorem t26_83_s : sizeP Try.prog 83 = 1 := by decide +kernel
@[go_sem] theorem t26_83_a : aggP Try.prog 83 = false := by decide +kernel
@[go_sem] theorem t26_83_z : zeroP Try.prog 83 = some [.nilf] := _root_.id rfl
@[go_sem] theorem t26_83_o : zeroOK Try.prog 83 = true := by decide +kernel
@[go_sem] theorem t26_83_i : zeroI Try.prog 83 = some (.nilf) := _root_.id rfl
@[go_sem] theorem t26_83_y : (((Try.prog.info? 83).map (·.bytes)).getD 0 ≤ 256) = True := eq_true (by decide +kernel)
@[go_sem] theorem t26_83_b : (bytesP Try.prog 83 ≤ 1024) = True := eq_true (by decide +kernel)
@[go_sem] theorem t26_84_h : hasP Try.prog 84 = true := by decide +kernel
@[go_sem] theorem t26_84_s : sizeP Try.prog 84 = 1 := by decide +kernel
@[go_sem] theorem t26_84_a : aggP Try.prog 84 = false := by decide +kernel
@[go_sem] theorem t26_84_z : zeroP Try.prog 84 = some [.int .u8 0] := _root_.id rfl
@[go_sem] theorem t26_84_o : zeroOK Try.prog 84 = true := by decide +kernel
@[go_sem] theorem t26_84_i : zeroI Try.prog 84 = some (.int .u8 0) := _root_.id rfl
@[go_sem] theorem t26_84_y : (((Try.prog.info? 84).map (·.bytes)).getD 0 ≤ 256) = True := eq_true (by decide +kernel)
@[go_sem] theorem t26_84_b : (bytesP Try.prog 84 ≤ 1024) = True := eq_true (by decide +kernel)
@[go_sem] theorem t26_84_k : keyK Try.prog 84 = some [.int .u8] := key_of (by decide +kernel)
@[go_sem] theorem t26_85_h : hasP Try.prog 85 = true := by decide +kernel
@[go_sem] theorem t26_85_s : sizeP Try.prog 85 = 1 := by decide +kernel
@[go_sem] theorem t26_85_a : aggP Try.prog 85 = false := by decide +kernel
@[go_sem] theorem t26_85_z : zeroP Try.prog 85 = some [.int .u8 0] := _root_.id rfl
@[go_sem] theorem t26_85_o : zeroOK Try.prog 85 = true := by decide +kernel
@[go_sem] theorem t26_85_i : zeroI Try.prog 85 = some (.int .u8 0) := _root_.id rfl
@[go_sem] theorem t26_85_y : (((Try.prog.info? 85).map (·.bytes)).getD 0 ≤ 256) = True := eq_true (by decide +kernel)
@[go_sem] theorem t26_85_b : (bytesP Try.prog 85 ≤ 1024) = True := eq_true (by decide +kernel)
@[go_sem] theorem t26_85_k : keyK Try.prog 85 = some [.int .u8] := key_of (by decide +kernel)
@[go_sem] theorem t26_86_h : hasP Try.prog 86 = true := by decide +kernel
@[go_sem] theorem t26_86_s : sizeP Try.prog 86 = 1 := by decide +kernel
@[go_sem] theorem t26_86_a : aggP Try.prog 86 = false := by decide +kernel
@[go_sem] theorem t26_86_z : zeroP Try.prog 86 = some [.nilf] := _root_.id rfl
@[go_sem] theorem t26_86_o : zeroOK Try.prog 86 = true := by decide +kernel
@[go_sem] theorem t26_86_i : zeroI Try.prog 86 = some (.nilf) := _root_.id rfl
@[go_sem] theorem t26_86_y : (((Try.prog.info? 86).map (·.bytes)).getD 0 ≤ 256) = True := eq_true (by decide +kernel)
@[go_sem] theorem t26_86_b : (bytesP Try.prog 86 ≤ 1024) = True := eq_true (by decide +kernel)
@[go_sem] theorem t26_87_h : hasP Try.prog 87 = true := by decide +kernel
@[go_sem] theorem t26_87_s : sizeP Try.prog 87 = 1 := by decide +kernel
@[go_sem] theorem t26_87_a : aggP Try.prog 87 = false := by decide +kernel
@[go_sem] theorem t26_87_z : zeroP Try.prog 87 = some [.nilp] := _root_.id rfl
@[go_sem] theorem t26_87_o : zeroOK Try.prog 87 = true := by decide +kernel
@[go_sem] theorem t26_87_i : zeroI Try.prog 87 = some (.nilp) := _root_.id rfl
@[go_sem] theorem t26_87_y : (((Try.prog.info? 87).map (·.bytes)).getD 0 ≤ 256) = True := eq_true (by decide +kernel)
@[go_sem] theorem t26_87_b : (bytesP Try.prog 87 ≤ 1024) = True := eq_true (by decide +kernel)
@[go_sem] theorem t26_88_h : hasP Try.prog 88 = true := by decide +kernel
@[go_sem] theorem t26_88_s : sizeP Try.prog 88 = 1 := by decide +kernel
@[go_sem] theorem t26_88_a : aggP Try.prog 88 = false := by decide +kernel
@[go_sem] theorem t26_88_z : zeroP Try.prog 88 = some [.int .i32 0] := _root_.id rfl
@[go_sem] theorem t26_88_o : zeroOK Try.prog 88 = true := by decide +kernel
@[go_sem] theorem t26_88_i : zeroI Try.prog 88 = some (.int .i32 0) := _root_.id rfl
@[go_sem] theorem t26_88_y : (((Try.prog.info? 88).map (·.bytes)).getD 0 ≤ 256) = True := eq_true (by decide +kernel)
@[go_sem] theorem t26_88_b : (bytesP Try.prog 88 ≤ 1024) = True := eq_true (by decide +kernel)
@[go_sem] theorem t26_88_k : keyK Try.prog 88 = some [.int .i32] := key_of (by decide +kernel)
@[go_sem] theorem t26_89_h : hasP Try.prog 89 = true := by decide +kernel
@[go_sem] theorem t26_89_s : sizeP Try.prog 89 = 1 := by decide +kernel
@[go_sem] theorem t26_89_a : aggP Try.prog 89 = false := by decide +kernel
@[go_sem] theorem t26_89_z : zeroP Try.prog 89 = some [.int .i32 0] := _root_.id rfl
@[go_sem] theorem t26_89_o : zeroOK Try.prog 89 = true := by decide +kernel
@[go_sem] theorem t26_89_i : zeroI Try.prog 89 = some (.int .i32 0) := _root_.id rfl
@[go_sem] theorem t26_89_y : (((Try.prog.info? 89).map (·.bytes)).getD 0 ≤ 256) = True := eq_true (by decide +kernel)
@[go_sem] theorem t26_89_b : (bytesP Try.prog 89 ≤ 1024) = True := eq_true (by decide +kernel)
@[go_sem] theorem t26_89_k : keyK Try.prog 89 = some [.int .i32] := key_of (by decide +kernel)
end Go.Idl
