/-
  Chapter 39: the types; the variable deBruijn32tab.
-/
import Derived.Test.YtamffdgopknkfaaDoorProg
import Derived.Test.YtamffdgopknkfaaDoorIdlPartG
import Derived.KernelRfl
namespace Go.Idl
set_option linter.all false
open Go.Proofs
@[go_sem] theorem t39_1_h : hasP Tryd.prog 1 = true := by decide +kernel
@[go_sem] theorem t39_1_s : sizeP Tryd.prog 1 = 1 := by decide +kernel
@[go_sem] theorem t39_1_a : aggP Tryd.prog 1 = false := by decide +kernel
@[go_sem] theorem t39_1_o : zeroOK Tryd.prog 1 = true := by decide +kernel
@[go_sem] theorem t39_1_y : (((Tryd.prog.info? 1).map (·.bytes)).getD 0 ≤ 256) = True := eq_true (by decide +kernel)
@[go_sem] theorem t39_1_b : (bytesP Tryd.prog 1 ≤ 1024) = True := eq_true (by decide +kernel)
@[go_sem] theorem t39_2_h : hasP Tryd.prog 2 = true := by decide +kernel
@[go_sem] theorem t39_2_s : sizeP Tryd.prog 2 = 1 := by decide +kernel
@[go_sem] theorem t39_2_a : aggP Tryd.prog 2 = false := by decide +kernel
@[go_sem] theorem t39_2_o : zeroOK Tryd.prog 2 = true := by decide +kernel
@[go_sem] theorem t39_2_y : (((Tryd.prog.info? 2).map (·.bytes)).getD 0 ≤ 256) = True := eq_true (by decide +kernel)
@[go_sem] theorem t39_2_b : (bytesP Tryd.prog 2 ≤ 1024) = True := eq_true (by decide +kernel)
@[go_sem] theorem t39_2_k : keyK Tryd.prog 2 = some [.int .i64] := key_of (by decide +kernel)
@[go_sem] theorem t39_3_h : hasP Tryd.prog 3 = true := by decide +kernel
@[go_sem] theorem t39_3_s : sizeP Tryd.prog 3 = 1 := by decide +kernel
@[go_sem] theorem t39_3_a : aggP Tryd.prog 3 = false := by decide +kernel
@[go_sem] theorem t39_3_z : zeroP Tryd.prog 3 = some [.int .i64 0] := _root_.id (by kernel_rfl)
@[go_sem] theorem t39_3_o : zeroOK Tryd.prog 3 = true := by decide +kernel
@[go_sem] theorem t39_3_i : zeroI Tryd.prog 3 = some (.int .i64 0) := _root_.id (by kernel_rfl)
@[go_sem] theorem t39_3_y : (((Tryd.prog.info? 3).map (·.bytes)).getD 0 ≤ 256) = True := eq_true (by decide +kernel)
@[go_sem] theorem t39_3_b : (bytesP Tryd.prog 3 ≤ 1024) = True := eq_true (by decide +kernel)
@[go_sem] theorem t39_3_k : keyK Tryd.prog 3 = some [.int .i64] := key_of (by decide +kernel)
@[go_sem] theorem t39_4_h : hasP Tryd.prog 4 = true := by decide +kernel
@[go_sem] theorem t39_4_s : sizeP Tryd.prog 4 = 1 := by decide +kernel
@[go_sem] theorem t39_4_a : aggP Tryd.prog 4 = false := by decide +kernel
@[go_sem] theorem t39_4_o : zeroOK Tryd.prog 4 = true := by decide +kernel
@[go_sem] theorem t39_4_i : zeroI Tryd.prog 4 = some (.bool false) := _root_.id (by kernel_rfl)
@[go_sem] theorem t39_4_y : (((Tryd.prog.info? 4).map (·.bytes)).getD 0 ≤ 256) = True := eq_true (by decide +kernel)
@[go_sem] theorem t39_4_b : (bytesP Tryd.prog 4 ≤ 1024) = True := eq_true (by decide +kernel)
@[go_sem] theorem t39_4_k : keyK Tryd.prog 4 = some [.bool] := key_of (by decide +kernel)
@[go_sem] theorem t39_5_h : hasP Tryd.prog 5 = true := by decide +kernel
@[go_sem] theorem t39_5_s : sizeP Tryd.prog 5 = 1 := by decide +kernel
@[go_sem] theorem t39_5_a : aggP Tryd.prog 5 = false := by decide +kernel
@[go_sem] theorem t39_5_o : zeroOK Tryd.prog 5 = true := by decide +kernel
@[go_sem] theorem t39_5_y : (((Tryd.prog.info? 5).map (·.bytes)).getD 0 ≤ 256) = True := eq_true (by decide +kernel)
@[go_sem] theorem t39_5_b : (bytesP Tryd.prog 5 ≤ 1024) = True := eq_true (by decide +kernel)
@[go_sem] theorem t39_5_k : keyK Tryd.prog 5 = some [.int .u8] := key_of (by decide +kernel)
@[go_sem] theorem t39_6_h : hasP Tryd.prog 6 = true := by decide +kernel
@[go_sem] theorem t39_6_s : sizeP Tryd.prog 6 = 1 := by decide +kernel
@[go_sem] theorem t39_6_a : aggP Tryd.prog 6 = false := by decide +kernel
@[go_sem] theorem t39_6_o : zeroOK Tryd.prog 6 = true := by decide +kernel
@[go_sem] theorem t39_6_y : (((Tryd.prog.info? 6).map (·.bytes)).getD 0 ≤ 256) = True := eq_true (by decide +kernel)
@[go_sem] theorem t39_6_b : (bytesP Tryd.prog 6 ≤ 1024) = True := eq_true (by decide +kernel)
@[go_sem] theorem t39_6_k : keyK Tryd.prog 6 = some [.int .u8] := key_of (by decide +kernel)
@[go_sem] theorem t39_7_h : hasP Tryd.prog 7 = true := by decide +kernel
@[go_sem] theorem t39_7_s : sizeP Tryd.prog 7 = 4 := by decide +kernel
@[go_sem] theorem t39_7_a : aggP Tryd.prog 7 = true := by decide +kernel
@[go_sem] theorem t39_7_o : zeroOK Tryd.prog 7 = true := by decide +kernel
@[go_sem] theorem t39_7_y : (((Tryd.prog.info? 7).map (·.bytes)).getD 0 ≤ 256) = True := eq_true (by decide +kernel)
@[go_sem] theorem t39_7_b : (bytesP Tryd.prog 7 ≤ 1024) = True := eq_true (by decide +kernel)
@[go_sem] theorem t39_7_f : flatP Tryd.prog 7 = some [.int .i64, .int .i64, .bool, .int .u8] := flat_of (by decide +kernel)
@[go_sem] theorem t39_7_k : keyK Tryd.prog 7 = some [.int .i64, .int .i64, .bool, .int .u8] := key_of (by decide +kernel)
@[go_sem] theorem t39_9_h : hasP Tryd.prog 9 = true := by decide +kernel
@[go_sem] theorem t39_9_s : sizeP Tryd.prog 9 = 1 := by decide +kernel
@[go_sem] theorem t39_9_a : aggP Tryd.prog 9 = false := by decide +kernel
@[go_sem] theorem t39_9_o : zeroOK Tryd.prog 9 = true := by decide +kernel
@[go_sem] theorem t39_9_y : (((Tryd.prog.info? 9).map (·.bytes)).getD 0 ≤ 256) = True := eq_true (by decide +kernel)
@[go_sem] theorem t39_9_b : (bytesP Tryd.prog 9 ≤ 1024) = True := eq_true (by decide +kernel)
@[go_sem] theorem t39_9_k : keyK Tryd.prog 9 = some [.string] := key_of (by decide +kernel)
@[go_sem] theorem t39_12_h : hasP Tryd.prog 12 = true := by decide +kernel
@[go_sem] theorem t39_12_s : sizeP Tryd.prog 12 = 1 := by decide +kernel
@[go_sem] theorem t39_12_a : aggP Tryd.prog 12 = false := by decide +kernel
@[go_sem] theorem t39_12_o : zeroOK Tryd.prog 12 = true := by decide +kernel
@[go_sem] theorem t39_12_y : (((Tryd.prog.info? 12).map (·.bytes)).getD 0 ≤ 256) = True := eq_true (by decide +kernel)
@[go_sem] theorem t39_12_b : (bytesP Tryd.prog 12 ≤ 1024) = True := eq_true (by decide +kernel)
@[go_sem] theorem t39_12_k : keyK Tryd.prog 12 = some [.int .u64] := key_of (by decide +kernel)
@[go_sem] theorem t39_17_h : hasP Tryd.prog 17 = true := by decide +kernel
@[go_sem] theorem t39_17_s : sizeP Tryd.prog 17 = 1 := by decide +kernel
@[go_sem] theorem t39_17_a : aggP Tryd.prog 17 = false := by decide +kernel
@[go_sem] theorem t39_17_o : zeroOK Tryd.prog 17 = true := by decide +kernel
@[go_sem] theorem t39_17_y : (((Tryd.prog.info? 17).map (·.bytes)).getD 0 ≤ 256) = True := eq_true (by decide +kernel)
@[go_sem] theorem t39_17_b : (bytesP Tryd.prog 17 ≤ 1024) = True := eq_true (by decide +kernel)
@[go_sem] theorem t39_22_h : hasP Tryd.prog 22 = true := by decide +kernel
@[go_sem] theorem t39_22_s : sizeP Tryd.prog 22 = 1 := by decide +kernel
@[go_sem] theorem t39_22_a : aggP Tryd.prog 22 = false := by decide +kernel
@[go_sem] theorem t39_22_o : zeroOK Tryd.prog 22 = true := by decide +kernel
@[go_sem] theorem t39_22_y : (((Tryd.prog.info? 22).map (·.bytes)).getD 0 ≤ 256) = True := eq_true (by decide +kernel)
@[go_sem] theorem t39_22_b : (bytesP Tryd.prog 22 ≤ 1024) = True := eq_true (by decide +kernel)
@[go_sem] theorem t39_23_h : hasP Tryd.prog 23 = true := by decide +kernel
@[go_sem] theorem t39_23_s : sizeP Tryd.prog 23 = 1 := by decide +kernel
@[go_sem] theorem t39_23_a : aggP Tryd.prog 23 = false := by decide +kernel
@[go_sem] theorem t39_23_o : zeroOK Tryd.prog 23 = true := by decide +kernel
@[go_sem] theorem t39_23_y : (((Tryd.prog.info? 23).map (·.bytes)).getD 0 ≤ 256) = True := eq_true (by decide +kernel)
@[go_sem] theorem t39_23_b : (bytesP Tryd.prog 23 ≤ 1024) = True := eq_true (by decide +kernel)
@[go_sem] theorem t39_25_h : hasP Tryd.prog 25 = true := by decide +kernel
@[go_sem] theorem t39_25_s : sizeP Tryd.prog 25 = 5 := by decide +kernel
@[go_sem] theorem t39_25_a : aggP Tryd.prog 25 = true := by decide +kernel
@[go_sem] theorem t39_25_o : zeroOK Tryd.prog 25 = true := by decide +kernel
@[go_sem] theorem t39_25_y : (((Tryd.prog.info? 25).map (·.bytes)).getD 0 ≤ 256) = True := eq_true (by decide +kernel)
@[go_sem] theorem t39_25_b : (bytesP Tryd.prog 25 ≤ 1024) = True := eq_true (by decide +kernel)
@[go_sem] theorem t39_27_h : hasP Tryd.prog 27 = true := by decide +kernel
@[go_sem] theorem t39_27_s : sizeP Tryd.prog 27 = 1 := by decide +kernel
@[go_sem] theorem t39_27_a : aggP Tryd.prog 27 = false := by decide +kernel
@[go_sem] theorem t39_27_o : zeroOK Tryd.prog 27 = true := by decide +kernel
@[go_sem] theorem t39_27_y : (((Tryd.prog.info? 27).map (·.bytes)).getD 0 ≤ 256) = True := eq_true (by decide +kernel)
@[go_sem] theorem t39_27_b : (bytesP Tryd.prog 27 ≤ 1024) = True := eq_true (by decide +kernel)
@[go_sem] theorem t39_29_h : hasP Tryd.prog 29 = true := by decide +kernel
@[go_sem] theorem t39_29_s : sizeP Tryd.prog 29 = 4 := by decide +kernel
@[go_sem] theorem t39_29_a : aggP Tryd.prog 29 = true := by decide +kernel
@[go_sem] theorem t39_29_z : zeroP Tryd.prog 29 = some [.int .i64 0, .int .i64 0, .int .i64 0, .nils] := _root_.id (by kernel_rfl)
@[go_sem] theorem t39_29_o : zeroOK Tryd.prog 29 = true := by decide +kernel
@[go_sem] theorem t39_29_y : (((Tryd.prog.info? 29).map (·.bytes)).getD 0 ≤ 256) = True := eq_true (by decide +kernel)
@[go_sem] theorem t39_29_b : (bytesP Tryd.prog 29 ≤ 1024) = True := eq_true (by decide +kernel)
@[go_sem] theorem t39_30_h : hasP Tryd.prog 30 = true := by decide +kernel
@[go_sem] theorem t39_30_s : sizeP Tryd.prog 30 = 1 := by decide +kernel
@[go_sem] theorem t39_30_a : aggP Tryd.prog 30 = false := by decide +kernel
@[go_sem] theorem t39_30_o : zeroOK Tryd.prog 30 = true := by decide +kernel
@[go_sem] theorem t39_30_y : (((Tryd.prog.info? 30).map (·.bytes)).getD 0 ≤ 256) = True := eq_true (by decide +kernel)
@[go_sem] theorem t39_30_b : (bytesP Tryd.prog 30 ≤ 1024) = True := eq_true (by decide +kernel)
@[go_sem] theorem t39_33_h : hasP Tryd.prog 33 = true := by decide +kernel
@[go_sem] theorem t39_33_s : sizeP Tryd.prog 33 = 1 := by decide +kernel
@[go_sem] theorem t39_33_a : aggP Tryd.prog 33 = false := by decide +kernel
@[go_sem] theorem t39_33_o : zeroOK Tryd.prog 33 = true := by decide +kernel
@[go_sem] theorem t39_33_y : (((Tryd.prog.info? 33).map (·.bytes)).getD 0 ≤ 256) = True := eq_true (by decide +kernel)
@[go_sem] theorem t39_33_b : (bytesP Tryd.prog 33 ≤ 1024) = True := eq_true (by decide +kernel)
@[go_sem] theorem t39_33_k : keyK Tryd.prog 33 = some [.int .i64] := key_of (by decide +kernel)
@[go_sem] theorem t39_38_h : hasP Tryd.prog 38 = true := by decide +kernel
@[go_sem] theorem t39_38_s : sizeP Tryd.prog 38 = 1 := by decide +kernel
@[go_sem] theorem t39_38_a : aggP Tryd.prog 38 = false := by decide +kernel
@[go_sem] theorem t39_38_o : zeroOK Tryd.prog 38 = true := by decide +kernel
@[go_sem] theorem t39_38_y : (((Tryd.prog.info? 38).map (·.bytes)).getD 0 ≤ 256) = True := eq_true (by decide +kernel)
@[go_sem] theorem t39_38_b : (bytesP Tryd.prog 38 ≤ 1024) = True := eq_true (by decide +kernel)
@[go_sem] theorem t39_41_h : hasP Tryd.prog 41 = true := by decide +kernel
@[go_sem] theorem t39_41_s : sizeP Tryd.prog 41 = 1 := by decide +kernel
@[go_sem] theorem t39_41_a : aggP Tryd.prog 41 = false := by decide +kernel
@[go_sem] theorem t39_41_o : zeroOK Tryd.prog 41 = true := by decide +kernel
@[go_sem] theorem t39_41_y : (((Tryd.prog.info? 41).map (·.bytes)).getD 0 ≤ 256) = True := eq_true (by decide +kernel)
@[go_sem] theorem t39_41_b : (bytesP Tryd.prog 41 ≤ 1024) = True := eq_true (by decide +kernel)
@[go_sem] theorem t39_42_h : hasP Tryd.prog 42 = true := by decide +kernel
@[go_sem] theorem t39_42_s : sizeP Tryd.prog 42 = 1 := by decide +kernel
@[go_sem] theorem t39_42_a : aggP Tryd.prog 42 = false := by decide +kernel
@[go_sem] theorem t39_42_o : zeroOK Tryd.prog 42 = true := by decide +kernel
@[go_sem] theorem t39_42_y : (((Tryd.prog.info? 42).map (·.bytes)).getD 0 ≤ 256) = True := eq_true (by decide +kernel)
@[go_sem] theorem t39_42_b : (bytesP Tryd.prog 42 ≤ 1024) = True := eq_true (by decide +kernel)
@[go_sem] theorem t39_44_h : hasP Tryd.prog 44 = true := by decide +kernel
@[go_sem] theorem t39_44_s : sizeP Tryd.prog 44 = 4 := by decide +kernel
@[go_sem] theorem t39_44_a : aggP Tryd.prog 44 = true := by decide +kernel
@[go_sem] theorem t39_44_z : zeroP Tryd.prog 44 = some [.int .i64 0, .int .i64 0, .int .i64 0, .int .i64 0] := _root_.id (by kernel_rfl)
@[go_sem] theorem t39_44_o : zeroOK Tryd.prog 44 = true := by decide +kernel
@[go_sem] theorem t39_44_y : (((Tryd.prog.info? 44).map (·.bytes)).getD 0 ≤ 256) = True := eq_true (by decide +kernel)
@[go_sem] theorem t39_44_b : (bytesP Tryd.prog 44 ≤ 1024) = True := eq_true (by decide +kernel)
@[go_sem] theorem t39_44_f : flatP Tryd.prog 44 = some [.int .i64, .int .i64, .int .i64, .int .i64] := flat_of (by decide +kernel)
@[go_sem] theorem t39_44_k : keyK Tryd.prog 44 = some [.int .i64, .int .i64, .int .i64, .int .i64] := key_of (by decide +kernel)
@[go_sem] theorem t39_46_h : hasP Tryd.prog 46 = true := by decide +kernel
@[go_sem] theorem t39_46_s : sizeP Tryd.prog 46 = 2 := by decide +kernel
@[go_sem] theorem t39_46_a : aggP Tryd.prog 46 = true := by decide +kernel
@[go_sem] theorem t39_46_z : zeroP Tryd.prog 46 = some [.int .i64 0, .int .i64 0] := _root_.id (by kernel_rfl)
@[go_sem] theorem t39_46_o : zeroOK Tryd.prog 46 = true := by decide +kernel
@[go_sem] theorem t39_46_y : (((Tryd.prog.info? 46).map (·.bytes)).getD 0 ≤ 256) = True := eq_true (by decide +kernel)
@[go_sem] theorem t39_46_b : (bytesP Tryd.prog 46 ≤ 1024) = True := eq_true (by decide +kernel)
@[go_sem] theorem t39_46_f : flatP Tryd.prog 46 = some [.int .i64, .int .i64] := flat_of (by decide +kernel)
@[go_sem] theorem t39_46_k : keyK Tryd.prog 46 = some [.int .i64, .int .i64] := key_of (by decide +kernel)
@[go_sem] theorem t39_47_h : hasP Tryd.prog 47 = true := by decide +kernel
@[go_sem] theorem t39_47_s : sizeP Tryd.prog 47 = 2 := by decide +kernel
@[go_sem] theorem t39_47_a : aggP Tryd.prog 47 = true := by decide +kernel
@[go_sem] theorem t39_47_o : zeroOK Tryd.prog 47 = true := by decide +kernel
@[go_sem] theorem t39_47_y : (((Tryd.prog.info? 47).map (·.bytes)).getD 0 ≤ 256) = True := eq_true (by decide +kernel)
@[go_sem] theorem t39_47_b : (bytesP Tryd.prog 47 ≤ 1024) = True := eq_true (by decide +kernel)
@[go_sem] theorem t39_47_f : flatP Tryd.prog 47 = some [.int .i64, .int .i64] := flat_of (by decide +kernel)
@[go_sem] theorem t39_47_k : keyK Tryd.prog 47 = some [.int .i64, .int .i64] := key_of (by decide +kernel)
@[go_sem] theorem t39_48_h : hasP Tryd.prog 48 = true := by decide +kernel
@[go_sem] theorem t39_48_s : sizeP Tryd.prog 48 = 1 := by decide +kernel
@[go_sem] theorem t39_48_a : aggP Tryd.prog 48 = false := by decide +kernel
@[go_sem] theorem t39_48_o : zeroOK Tryd.prog 48 = true := by decide +kernel
@[go_sem] theorem t39_48_y : (((Tryd.prog.info? 48).map (·.bytes)).getD 0 ≤ 256) = True := eq_true (by decide +kernel)
@[go_sem] theorem t39_48_b : (bytesP Tryd.prog 48 ≤ 1024) = True := eq_true (by decide +kernel)
@[go_sem] theorem t39_52_h : hasP Tryd.prog 52 = true := by decide +kernel
@[go_sem] theorem t39_52_s : sizeP Tryd.prog 52 = 6 := by decide +kernel
@[go_sem] theorem t39_52_a : aggP Tryd.prog 52 = true := by decide +kernel
@[go_sem] theorem t39_52_z : zeroP Tryd.prog 52 = some [.int .i64 0, .int .i64 0, .int .i64 0, .int .i64 0, .int .i64 0, .bool false] := _root_.id (by kernel_rfl)
@[go_sem] theorem t39_52_o : zeroOK Tryd.prog 52 = true := by decide +kernel
@[go_sem] theorem t39_52_y : (((Tryd.prog.info? 52).map (·.bytes)).getD 0 ≤ 256) = True := eq_true (by decide +kernel)
@[go_sem] theorem t39_52_b : (bytesP Tryd.prog 52 ≤ 1024) = True := eq_true (by decide +kernel)
@[go_sem] theorem t39_52_f : flatP Tryd.prog 52 = some [.int .i64, .int .i64, .int .i64, .int .i64, .int .i64, .bool] := flat_of (by decide +kernel)
@[go_sem] theorem t39_52_k : keyK Tryd.prog 52 = some [.int .i64, .int .i64, .int .i64, .int .i64, .int .i64, .bool] := key_of (by decide +kernel)
@[go_sem] theorem t39_66_h : hasP Tryd.prog 66 = true := by decide +kernel
@[go_sem] theorem t39_66_s : sizeP Tryd.prog 66 = 1 := by decide +kernel
@[go_sem] theorem t39_66_a : aggP Tryd.prog 66 = false := by decide +kernel
@[go_sem] theorem t39_66_o : zeroOK Tryd.prog 66 = true := by decide +kernel
@[go_sem] theorem t39_66_y : (((Tryd.prog.info? 66).map (·.bytes)).getD 0 ≤ 256) = True := eq_true (by decide +kernel)
@[go_sem] theorem t39_66_b : (bytesP Tryd.prog 66 ≤ 1024) = True := eq_true (by decide +kernel)
@[go_sem] theorem t39_71_h : hasP Tryd.prog 71 = true := by decide +kernel
@[go_sem] theorem t39_71_s : sizeP Tryd.prog 71 = 2 := by decide +kernel
@[go_sem] theorem t39_71_a : aggP Tryd.prog 71 = true := by decide +kernel
@[go_sem] theorem t39_71_o : zeroOK Tryd.prog 71 = true := by decide +kernel
@[go_sem] theorem t39_71_y : (((Tryd.prog.info? 71).map (·.bytes)).getD 0 ≤ 256) = True := eq_true (by decide +kernel)
@[go_sem] theorem t39_71_b : (bytesP Tryd.prog 71 ≤ 1024) = True := eq_true (by decide +kernel)
@[go_sem] theorem t39_71_f : flatP Tryd.prog 71 = some [.int .i64, .int .i64] := flat_of (by decide +kernel)
@[go_sem] theorem t39_71_k : keyK Tryd.prog 71 = some [.int .i64, .int .i64] := key_of (by decide +kernel)
@[go_sem] theorem t39_81_h : hasP Tryd.prog 81 = true := by decide +kernel
@[go_sem] theorem t39_81_s : sizeP Tryd.prog 81 = 2 := by decide +kernel
@[go_sem] theorem t39_81_a : aggP Tryd.prog 81 = true := by decide +kernel
@[go_sem] theorem t39_81_z : zeroP Tryd.prog 81 = some [.int .i64 0, .int .i64 0] := _root_.id (by kernel_rfl)
@[go_sem] theorem t39_81_o : zeroOK Tryd.prog 81 = true := by decide +kernel
@[go_sem] theorem t39_81_y : (((Tryd.prog.info? 81).map (·.bytes)).getD 0 ≤ 256) = True := eq_true (by decide +kernel)
@[go_sem] theorem t39_81_b : (bytesP Tryd.prog 81 ≤ 1024) = True := eq_true (by decide +kernel)
@[go_sem] theorem t39_81_f : flatP Tryd.prog 81 = some [.int .i64, .int .i64] := flat_of (by decide +kernel)
@[go_sem] theorem t39_81_k : keyK Tryd.prog 81 = some [.int .i64, .int .i64] := key_of (by decide +kernel)
@[go_sem] theorem t39_82_h : hasP Tryd.prog 82 = true := by decide +kernel
@[go_sem] theorem t39_82_s : sizeP Tryd.prog 82 = 1 := by decide +kernel
@[go_sem] theorem t39_82_a : aggP Tryd.prog 82 = false := by decide +kernel
@[go_sem] theorem t39_82_o : zeroOK Tryd.prog 82 = true := by decide +kernel
@[go_sem] theorem t39_82_y : (((Tryd.prog.info? 82).map (·.bytes)).getD 0 ≤ 256) = True := eq_true (by decide +kernel)
@[go_sem] theorem t39_82_b : (bytesP Tryd.prog 82 ≤ 1024) = True := eq_true (by decide +kernel)
@[go_sem] theorem t39_84_h : hasP Tryd.prog 84 = true := by decide +kernel
@[go_sem] theorem t39_84_s : sizeP Tryd.prog 84 = 1 := by decide +kernel
@[go_sem] theorem t39_84_a : aggP Tryd.prog 84 = false := by decide +kernel
@[go_sem] theorem t39_84_o : zeroOK Tryd.prog 84 = true := by decide +kernel
@[go_sem] theorem t39_84_y : (((Tryd.prog.info? 84).map (·.bytes)).getD 0 ≤ 256) = True := eq_true (by decide +kernel)
@[go_sem] theorem t39_84_b : (bytesP Tryd.prog 84 ≤ 1024) = True := eq_true (by decide +kernel)
@[go_sem] theorem t39_84_k : keyK Tryd.prog 84 = some [.int .i8] := key_of (by decide +kernel)
@[go_sem] theorem t39_87_h : hasP Tryd.prog 87 = true := by decide +kernel
@[go_sem] theorem t39_87_s : sizeP Tryd.prog 87 = 1 := by decide +kernel
@[go_sem] theorem t39_87_a : aggP Tryd.prog 87 = false := by decide +kernel
@[go_sem] theorem t39_87_o : zeroOK Tryd.prog 87 = true := by decide +kernel
@[go_sem] theorem t39_87_y : (((Tryd.prog.info? 87).map (·.bytes)).getD 0 ≤ 256) = True := eq_true (by decide +kernel)
@[go_sem] theorem t39_87_b : (bytesP Tryd.prog 87 ≤ 1024) = True := eq_true (by decide +kernel)
@[go_sem] theorem t39_88_h : hasP Tryd.prog 88 = true := by decide +kernel
@[go_sem] theorem t39_88_s : sizeP Tryd.prog 88 = 1 := by decide +kernel
@[go_sem] theorem t39_88_a : aggP Tryd.prog 88 = false := by decide +kernel
@[go_sem] theorem t39_88_z : zeroP Tryd.prog 88 = some [.nils] := _root_.id (by kernel_rfl)
@[go_sem] theorem t39_88_o : zeroOK Tryd.prog 88 = true := by decide +kernel
@[go_sem] theorem t39_88_y : (((Tryd.prog.info? 88).map (·.bytes)).getD 0 ≤ 256) = True := eq_true (by decide +kernel)
@[go_sem] theorem t39_88_b : (bytesP Tryd.prog 88 ≤ 1024) = True := eq_true (by decide +kernel)
@[go_sem] theorem t39_91_h : hasP Tryd.prog 91 = true := by decide +kernel
@[go_sem] theorem t39_91_s : sizeP Tryd.prog 91 = 1 := by decide +kernel
@[go_sem] theorem t39_91_a : aggP Tryd.prog 91 = false := by decide +kernel
@[go_sem] theorem t39_91_o : zeroOK Tryd.prog 91 = true := by decide +kernel
@[go_sem] theorem t39_91_y : (((Tryd.prog.info? 91).map (·.bytes)).getD 0 ≤ 256) = True := eq_true (by decide +kernel)
@[go_sem] theorem t39_91_b : (bytesP Tryd.prog 91 ≤ 1024) = True := eq_true (by decide +kernel)
@[go_sem] theorem t39_92_h : hasP Tryd.prog 92 = true := by decide +kernel
@[go_sem] theorem t39_92_s : sizeP Tryd.prog 92 = 1 := by decide +kernel
@[go_sem] theorem t39_92_a : aggP Tryd.prog 92 = false := by decide +kernel
@[go_sem] theorem t39_92_o : zeroOK Tryd.prog 92 = true := by decide +kernel
@[go_sem] theorem t39_92_y : (((Tryd.prog.info? 92).map (·.bytes)).getD 0 ≤ 256) = True := eq_true (by decide +kernel)
@[go_sem] theorem t39_92_b : (bytesP Tryd.prog 92 ≤ 1024) = True := eq_true (by decide +kernel)
@[go_sem] theorem t39_95_h : hasP Tryd.prog 95 = true := by decide +kernel
@[go_sem] theorem t39_95_s : sizeP Tryd.prog 95 = 3 := by decide +kernel
@[go_sem] theorem t39_95_a : aggP Tryd.prog 95 = true := by decide +kernel
@[go_sem] theorem t39_95_z : zeroP Tryd.prog 95 = some [.nils, .int .i64 0, .nilm] := _root_.id (by kernel_rfl)
@[go_sem] theorem t39_95_o : zeroOK Tryd.prog 95 = true := by decide +kernel
@[go_sem] theorem t39_95_y : (((Tryd.prog.info? 95).map (·.bytes)).getD 0 ≤ 256) = True := eq_true (by decide +kernel)
@[go_sem] theorem t39_95_b : (bytesP Tryd.prog 95 ≤ 1024) = True := eq_true (by decide +kernel)
@[go_sem] theorem t39_102_h : hasP Tryd.prog 102 = true := by decide +kernel
@[go_sem] theorem t39_102_s : sizeP Tryd.prog 102 = 4 := by decide +kernel
@[go_sem] theorem t39_102_a : aggP Tryd.prog 102 = true := by decide +kernel
@[go_sem] theorem t39_102_z : zeroP Tryd.prog 102 = some [.int .i64 0, .int .i64 0, .int .i64 0, .nils] := _root_.id (by kernel_rfl)
@[go_sem] theorem t39_102_o : zeroOK Tryd.prog 102 = true := by decide +kernel
@[go_sem] theorem t39_102_y : (((Tryd.prog.info? 102).map (·.bytes)).getD 0 ≤ 256) = True := eq_true (by decide +kernel)
@[go_sem] theorem t39_102_b : (bytesP Tryd.prog 102 ≤ 1024) = True := eq_true (by decide +kernel)
@[go_sem] theorem t39_104_h : hasP Tryd.prog 104 = true := by decide +kernel
@[go_sem] theorem t39_104_s : sizeP Tryd.prog 104 = 1 := by decide +kernel
@[go_sem] theorem t39_104_a : aggP Tryd.prog 104 = false := by decide +kernel
@[go_sem] theorem t39_104_o : zeroOK Tryd.prog 104 = true := by decide +kernel
@[go_sem] theorem t39_104_y : (((Tryd.prog.info? 104).map (·.bytes)).getD 0 ≤ 256) = True := eq_true (by decide +kernel)
@[go_sem] theorem t39_104_b : (bytesP Tryd.prog 104 ≤ 1024) = True := eq_true (by decide +kernel)
@[go_sem] theorem t39_105_h : hasP Tryd.prog 105 = true := by decide +kernel
@[go_sem] theorem t39_105_s : sizeP Tryd.prog 105 = 4 := by decide +kernel
@[go_sem] theorem t39_105_a : aggP Tryd.prog 105 = true := by decide +kernel
@[go_sem] theorem t39_105_z : zeroP Tryd.prog 105 = some [.int .i64 0, .int .i64 0, .int .i64 0, .int .i64 0] := _root_.id (by kernel_rfl)
@[go_sem] theorem t39_105_o : zeroOK Tryd.prog 105 = true := by decide +kernel
@[go_sem] theorem t39_105_y : (((Tryd.prog.info? 105).map (·.bytes)).getD 0 ≤ 256) = True := eq_true (by decide +kernel)
@[go_sem] theorem t39_105_b : (bytesP Tryd.prog 105 ≤ 1024) = True := eq_true (by decide +kernel)
@[go_sem] theorem t39_105_f : flatP Tryd.prog 105 = some [.int .i64, .int .i64, .int .i64, .int .i64] := flat_of (by decide +kernel)
@[go_sem] theorem t39_105_k : keyK Tryd.prog 105 = some [.int .i64, .int .i64, .int .i64, .int .i64] := key_of (by decide +kernel)
@[go_sem] theorem t39_112_h : hasP Tryd.prog 112 = true := by decide +kernel
@[go_sem] theorem t39_112_s : sizeP Tryd.prog 112 = 1 := by decide +kernel
@[go_sem] theorem t39_112_a : aggP Tryd.prog 112 = false := by decide +kernel
@[go_sem] theorem t39_112_o : zeroOK Tryd.prog 112 = true := by decide +kernel
@[go_sem] theorem t39_112_y : (((Tryd.prog.info? 112).map (·.bytes)).getD 0 ≤ 256) = True := eq_true (by decide +kernel)
@[go_sem] theorem t39_112_b : (bytesP Tryd.prog 112 ≤ 1024) = True := eq_true (by decide +kernel)
@[go_sem] theorem t39_119_h : hasP Tryd.prog 119 = true := by decide +kernel
@[go_sem] theorem t39_119_s : sizeP Tryd.prog 119 = 6 := by decide +kernel
@[go_sem] theorem t39_119_a : aggP Tryd.prog 119 = true := by decide +kernel
@[go_sem] theorem t39_119_z : zeroP Tryd.prog 119 = some [.int .i64 0, .int .i64 0, .int .i64 0, .int .i64 0, .int .i64 0, .bool false] := _root_.id (by kernel_rfl)
@[go_sem] theorem t39_119_o : zeroOK Tryd.prog 119 = true := by decide +kernel
@[go_sem] theorem t39_119_y : (((Tryd.prog.info? 119).map (·.bytes)).getD 0 ≤ 256) = True := eq_true (by decide +kernel)
@[go_sem] theorem t39_119_b : (bytesP Tryd.prog 119 ≤ 1024) = True := eq_true (by decide +kernel)
@[go_sem] theorem t39_119_f : flatP Tryd.prog 119 = some [.int .i64, .int .i64, .int .i64, .int .i64, .int .i64, .bool] := flat_of (by decide +kernel)
@[go_sem] theorem t39_119_k : keyK Tryd.prog 119 = some [.int .i64, .int .i64, .int .i64, .int .i64, .int .i64, .bool] := key_of (by decide +kernel)
@[go_sem] theorem t39_121_h : hasP Tryd.prog 121 = true := by decide +kernel
@[go_sem] theorem t39_121_s : sizeP Tryd.prog 121 = 1 := by decide +kernel
@[go_sem] theorem t39_121_a : aggP Tryd.prog 121 = false := by decide +kernel
@[go_sem] theorem t39_121_o : zeroOK Tryd.prog 121 = true := by decide +kernel
@[go_sem] theorem t39_121_y : (((Tryd.prog.info? 121).map (·.bytes)).getD 0 ≤ 256) = True := eq_true (by decide +kernel)
@[go_sem] theorem t39_121_b : (bytesP Tryd.prog 121 ≤ 1024) = True := eq_true (by decide +kernel)
@[go_sem] theorem t39_124_h : hasP Tryd.prog 124 = true := by decide +kernel
@[go_sem] theorem t39_124_s : sizeP Tryd.prog 124 = 1 := by decide +kernel
@[go_sem] theorem t39_124_a : aggP Tryd.prog 124 = false := by decide +kernel
@[go_sem] theorem t39_124_o : zeroOK Tryd.prog 124 = true := by decide +kernel
@[go_sem] theorem t39_124_y : (((Tryd.prog.info? 124).map (·.bytes)).getD 0 ≤ 256) = True := eq_true (by decide +kernel)
@[go_sem] theorem t39_124_b : (bytesP Tryd.prog 124 ≤ 1024) = True := eq_true (by decide +kernel)
@[go_sem] theorem t39_125_h : hasP Tryd.prog 125 = true := by decide +kernel
@[go_sem] theorem t39_125_s : sizeP Tryd.prog 125 = 1 := by decide +kernel
@[go_sem] theorem t39_125_a : aggP Tryd.prog 125 = false := by decide +kernel
@[go_sem] theorem t39_125_o : zeroOK Tryd.prog 125 = true := by decide +kernel
@[go_sem] theorem t39_125_y : (((Tryd.prog.info? 125).map (·.bytes)).getD 0 ≤ 256) = True := eq_true (by decide +kernel)
@[go_sem] theorem t39_125_b : (bytesP Tryd.prog 125 ≤ 1024) = True := eq_true (by decide +kernel)
@[go_sem] theorem t39_125_k : keyK Tryd.prog 125 = some [.int .u64] := key_of (by decide +kernel)
@[go_sem] theorem t39_130_h : hasP Tryd.prog 130 = true := by decide +kernel
@[go_sem] theorem t39_130_s : sizeP Tryd.prog 130 = 2 := by decide +kernel
@[go_sem] theorem t39_130_a : aggP Tryd.prog 130 = true := by decide +kernel
@[go_sem] theorem t39_130_o : zeroOK Tryd.prog 130 = true := by decide +kernel
@[go_sem] theorem t39_130_y : (((Tryd.prog.info? 130).map (·.bytes)).getD 0 ≤ 256) = True := eq_true (by decide +kernel)
@[go_sem] theorem t39_130_b : (bytesP Tryd.prog 130 ≤ 1024) = True := eq_true (by decide +kernel)
@[go_sem] theorem t39_130_f : flatP Tryd.prog 130 = some [.int .u64, .int .u64] := flat_of (by decide +kernel)
@[go_sem] theorem t39_130_k : keyK Tryd.prog 130 = some [.int .u64, .int .u64] := key_of (by decide +kernel)
@[go_sem] theorem t39_137_h : hasP Tryd.prog 137 = true := by decide +kernel
@[go_sem] theorem t39_137_s : sizeP Tryd.prog 137 = 1 := by decide +kernel
@[go_sem] theorem t39_137_a : aggP Tryd.prog 137 = false := by decide +kernel
@[go_sem] theorem t39_137_o : zeroOK Tryd.prog 137 = true := by decide +kernel
@[go_sem] theorem t39_137_y : (((Tryd.prog.info? 137).map (·.bytes)).getD 0 ≤ 256) = True := eq_true (by decide +kernel)
@[go_sem] theorem t39_137_b : (bytesP Tryd.prog 137 ≤ 1024) = True := eq_true (by decide +kernel)
@[go_sem] theorem t39_138_h : hasP Tryd.prog 138 = true := by decide +kernel
@[go_sem] theorem t39_138_s : sizeP Tryd.prog 138 = 1 := by decide +kernel
@[go_sem] theorem t39_138_a : aggP Tryd.prog 138 = false := by decide +kernel
@[go_sem] theorem t39_138_o : zeroOK Tryd.prog 138 = true := by decide +kernel
@[go_sem] theorem t39_138_y : (((Tryd.prog.info? 138).map (·.bytes)).getD 0 ≤ 256) = True := eq_true (by decide +kernel)
@[go_sem] theorem t39_138_b : (bytesP Tryd.prog 138 ≤ 1024) = True := eq_true (by decide +kernel)
@[go_sem] theorem t39_141_h : hasP Tryd.prog 141 = true := by decide +kernel
@[go_sem] theorem t39_141_s : sizeP Tryd.prog 141 = 1 := by decide +kernel
@[go_sem] theorem t39_141_a : aggP Tryd.prog 141 = false := by decide +kernel
@[go_sem] theorem t39_141_o : zeroOK Tryd.prog 141 = true := by decide +kernel
@[go_sem] theorem t39_141_y : (((Tryd.prog.info? 141).map (·.bytes)).getD 0 ≤ 256) = True := eq_true (by decide +kernel)
@[go_sem] theorem t39_141_b : (bytesP Tryd.prog 141 ≤ 1024) = True := eq_true (by decide +kernel)
@[go_sem] theorem t39_144_h : hasP Tryd.prog 144 = true := by decide +kernel
@[go_sem] theorem t39_144_s : sizeP Tryd.prog 144 = 1 := by decide +kernel
@[go_sem] theorem t39_144_a : aggP Tryd.prog 144 = false := by decide +kernel
@[go_sem] theorem t39_144_o : zeroOK Tryd.prog 144 = true := by decide +kernel
@[go_sem] theorem t39_144_y : (((Tryd.prog.info? 144).map (·.bytes)).getD 0 ≤ 256) = True := eq_true (by decide +kernel)
@[go_sem] theorem t39_144_b : (bytesP Tryd.prog 144 ≤ 1024) = True := eq_true (by decide +kernel)
@[go_sem] theorem t39_157_h : hasP Tryd.prog 157 = true := by decide +kernel
@[go_sem] theorem t39_157_s : sizeP Tryd.prog 157 = 1 := by decide +kernel
@[go_sem] theorem t39_157_a : aggP Tryd.prog 157 = false := by decide +kernel
@[go_sem] theorem t39_157_o : zeroOK Tryd.prog 157 = true := by decide +kernel
@[go_sem] theorem t39_157_y : (((Tryd.prog.info? 157).map (·.bytes)).getD 0 ≤ 256) = True := eq_true (by decide +kernel)
@[go_sem] theorem t39_157_b : (bytesP Tryd.prog 157 ≤ 1024) = True := eq_true (by decide +kernel)
@[go_sem] theorem t39_162_h : hasP Tryd.prog 162 = true := by decide +kernel
@[go_sem] theorem t39_162_s : sizeP Tryd.prog 162 = 1 := by decide +kernel
@[go_sem] theorem t39_162_a : aggP Tryd.prog 162 = false := by decide +kernel
@[go_sem] theorem t39_162_o : zeroOK Tryd.prog 162 = true := by decide +kernel
@[go_sem] theorem t39_162_y : (((Tryd.prog.info? 162).map (·.bytes)).getD 0 ≤ 256) = True := eq_true (by decide +kernel)
@[go_sem] theorem t39_162_b : (bytesP Tryd.prog 162 ≤ 1024) = True := eq_true (by decide +kernel)
@[go_sem] theorem t39_162_k : keyK Tryd.prog 162 = some [.int .u64] := key_of (by decide +kernel)
@[go_sem] theorem t39_170_h : hasP Tryd.prog 170 = true := by decide +kernel
@[go_sem] theorem t39_170_s : sizeP Tryd.prog 170 = 1 := by decide +kernel
@[go_sem] theorem t39_170_a : aggP Tryd.prog 170 = false := by decide +kernel
@[go_sem] theorem t39_170_o : zeroOK Tryd.prog 170 = true := by decide +kernel
@[go_sem] theorem t39_170_y : (((Tryd.prog.info? 170).map (·.bytes)).getD 0 ≤ 256) = True := eq_true (by decide +kernel)
@[go_sem] theorem t39_170_b : (bytesP Tryd.prog 170 ≤ 1024) = True := eq_true (by decide +kernel)
@[go_sem] theorem t39_173_h : hasP Tryd.prog 173 = true := by decide +kernel
@[go_sem] theorem t39_173_s : sizeP Tryd.prog 173 = 1 := by decide +kernel
@[go_sem] theorem t39_173_a : aggP Tryd.prog 173 = false := by decide +kernel
@[go_sem] theorem t39_173_z : zeroP Tryd.prog 173 = some [.nilf] := _root_.id (by kernel_rfl)
@[go_sem] theorem t39_173_o : zeroOK Tryd.prog 173 = true := by decide +kernel
@[go_sem] theorem t39_173_y : (((Tryd.prog.info? 173).map (·.bytes)).getD 0 ≤ 256) = True := eq_true (by decide +kernel)
@[go_sem] theorem t39_173_b : (bytesP Tryd.prog 173 ≤ 1024) = True := eq_true (by decide +kernel)
@[go_sem] theorem t39_177_h : hasP Tryd.prog 177 = true := by decide +kernel
@[go_sem] theorem t39_177_s : sizeP Tryd.prog 177 = 1 := by decide +kernel
@[go_sem] theorem t39_177_a : aggP Tryd.prog 177 = false := by decide +kernel
@[go_sem] theorem t39_177_o : zeroOK Tryd.prog 177 = true := by decide +kernel
@[go_sem] theorem t39_177_y : (((Tryd.prog.info? 177).map (·.bytes)).getD 0 ≤ 256) = True := eq_true (by decide +kernel)
@[go_sem] theorem t39_177_b : (bytesP Tryd.prog 177 ≤ 1024) = True := eq_true (by decide +kernel)
@[go_sem] theorem t39_177_k : keyK Tryd.prog 177 = some [.int .u32] := key_of (by decide +kernel)
@[go_sem] theorem t39_195_h : hasP Tryd.prog 195 = true := by decide +kernel
@[go_sem] theorem t39_195_s : sizeP Tryd.prog 195 = 16 := by decide +kernel
@[go_sem] theorem t39_195_a : aggP Tryd.prog 195 = true := by decide +kernel
@[go_sem] theorem t39_195_o : zeroOK Tryd.prog 195 = true := by decide +kernel
@[go_sem] theorem t39_195_y : (((Tryd.prog.info? 195).map (·.bytes)).getD 0 ≤ 256) = True := eq_true (by decide +kernel)
@[go_sem] theorem t39_195_b : (bytesP Tryd.prog 195 ≤ 1024) = True := eq_true (by decide +kernel)
@[go_sem] theorem t39_195_f : flatP Tryd.prog 195 = some [.int .u32, .int .u32, .int .u32, .int .u32, .int .u32, .int .u32, .int .u32, .int .u32, .int .u32, .int .u32, .int .u32, .int .u32, .int .u32, .int .u32, .int .u32, .int .u32] := flat_of (by decide +kernel)
@[go_sem] theorem t39_195_k : keyK Tryd.prog 195 = some [.int .u32, .int .u32, .int .u32, .int .u32, .int .u32, .int .u32, .int .u32, .int .u32, .int .u32, .int .u32, .int .u32, .int .u32, .int .u32, .int .u32, .int .u32, .int .u32] := key_of (by decide +kernel)
@[go_sem] theorem t39_197_h : hasP Tryd.prog 197 = true := by decide +kernel
@[go_sem] theorem t39_197_s : sizeP Tryd.prog 197 = 17 := by decide +kernel
@[go_sem] theorem t39_197_a : aggP Tryd.prog 197 = true := by decide +kernel
@[go_sem] theorem t39_197_z : zeroP Tryd.prog 197 = some [.nils, .int .u32 0, .int .u32 0, .int .u32 0, .int .u32 0, .int .u32 0, .int .u32 0, .int .u32 0, .int .u32 0, .int .u32 0, .int .u32 0, .int .u32 0, .int .u32 0, .int .u32 0, .int .u32 0, .int .u32 0, .int .u32 0] := _root_.id (by kernel_rfl)
@[go_sem] theorem t39_197_o : zeroOK Tryd.prog 197 = true := by decide +kernel
@[go_sem] theorem t39_197_b : (bytesP Tryd.prog 197 ≤ 1024) = True := eq_true (by decide +kernel)
@[go_sem] theorem t39_198_h : hasP Tryd.prog 198 = true := by decide +kernel
@[go_sem] theorem t39_198_s : sizeP Tryd.prog 198 = 1 := by decide +kernel
@[go_sem] theorem t39_198_a : aggP Tryd.prog 198 = false := by decide +kernel
@[go_sem] theorem t39_198_z : zeroP Tryd.prog 198 = some [.nilm] := _root_.id (by kernel_rfl)
@[go_sem] theorem t39_198_o : zeroOK Tryd.prog 198 = true := by decide +kernel
@[go_sem] theorem t39_198_y : (((Tryd.prog.info? 198).map (·.bytes)).getD 0 ≤ 256) = True := eq_true (by decide +kernel)
@[go_sem] theorem t39_198_b : (bytesP Tryd.prog 198 ≤ 1024) = True := eq_true (by decide +kernel)
@[go_sem] theorem t39_210_h : hasP Tryd.prog 210 = true := by decide +kernel
@[go_sem] theorem t39_210_s : sizeP Tryd.prog 210 = 65 := by decide +kernel
@[go_sem] theorem t39_210_a : aggP Tryd.prog 210 = true := by decide +kernel
@[go_sem] theorem t39_210_z : zeroP Tryd.prog 210 = some [.bool false, .bool false, .bool false, .bool false, .bool false, .bool false, .bool false, .bool false, .bool false, .bool false, .bool false, .bool false, .bool false, .bool false, .bool false, .bool false, .bool false, .bool false, .bool false, .bool false, .bool false, .bool false, .bool false, .bool false, .bool false, .bool false, .bool false, .bool false, .bool false, .bool false, .bool false, .bool false, .bool false, .bool false, .bool false, .bool false, .bool false, .bool false, .bool false, .bool false, .bool false, .bool false, .bool false, .bool false, .bool false, .bool false, .bool false, .bool false, .bool false, .bool false, .bool false, .bool false, .bool false, .bool false, .bool false, .bool false, .bool false, .bool false, .bool false, .bool false, .bool false, .bool false, .bool false, .bool false, .bool false] := _root_.id (by kernel_rfl)
@[go_sem] theorem t39_210_o : zeroOK Tryd.prog 210 = true := by decide +kernel
@[go_sem] theorem t39_210_b : (bytesP Tryd.prog 210 ≤ 1024) = True := eq_true (by decide +kernel)
@[go_sem] theorem t39_210_f : flatP Tryd.prog 210 = some [.bool, .bool, .bool, .bool, .bool, .bool, .bool, .bool, .bool, .bool, .bool, .bool, .bool, .bool, .bool, .bool, .bool, .bool, .bool, .bool, .bool, .bool, .bool, .bool, .bool, .bool, .bool, .bool, .bool, .bool, .bool, .bool, .bool, .bool, .bool, .bool, .bool, .bool, .bool, .bool, .bool, .bool, .bool, .bool, .bool, .bool, .bool, .bool, .bool, .bool, .bool, .bool, .bool, .bool, .bool, .bool, .bool, .bool, .bool, .bool, .bool, .bool, .bool, .bool, .bool] := flat_of (by decide +kernel)
@[go_sem] theorem t39_210_k : keyK Tryd.prog 210 = some [.bool, .bool, .bool, .bool, .bool, .bool, .bool, .bool, .bool, .bool, .bool, .bool, .bool, .bool, .bool, .bool, .bool, .bool, .bool, .bool, .bool, .bool, .bool, .bool, .bool, .bool, .bool, .bool, .bool, .bool, .bool, .bool, .bool, .bool, .bool, .bool, .bool, .bool, .bool, .bool, .bool, .bool, .bool, .bool, .bool, .bool, .bool, .bool, .bool, .bool, .bool, .bool, .bool, .bool, .bool, .bool, .bool, .bool, .bool, .bool, .bool, .bool, .bool, .bool, .bool] := key_of (by decide +kernel)
@[go_sem] theorem t39_211_h : hasP Tryd.prog 211 = true := by decide +kernel
@[go_sem] theorem t39_211_s : sizeP Tryd.prog 211 = 32 := by decide +kernel
@[go_sem] theorem t39_211_a : aggP Tryd.prog 211 = true := by decide +kernel
@[go_sem] theorem t39_211_o : zeroOK Tryd.prog 211 = true := by decide +kernel
@[go_sem] theorem t39_211_b : (bytesP Tryd.prog 211 ≤ 1024) = True := eq_true (by decide +kernel)
@[go_sem] theorem t39_211_f : flatP Tryd.prog 211 = some [.int .u8, .int .u8, .int .u8, .int .u8, .int .u8, .int .u8, .int .u8, .int .u8, .int .u8, .int .u8, .int .u8, .int .u8, .int .u8, .int .u8, .int .u8, .int .u8, .int .u8, .int .u8, .int .u8, .int .u8, .int .u8, .int .u8, .int .u8, .int .u8, .int .u8, .int .u8, .int .u8, .int .u8, .int .u8, .int .u8, .int .u8, .int .u8] := flat_of (by decide +kernel)
@[go_sem] theorem t39_211_k : keyK Tryd.prog 211 = some [.int .u8, .int .u8, .int .u8, .int .u8, .int .u8, .int .u8, .int .u8, .int .u8, .int .u8, .int .u8, .int .u8, .int .u8, .int .u8, .int .u8, .int .u8, .int .u8, .int .u8, .int .u8, .int .u8, .int .u8, .int .u8, .int .u8, .int .u8, .int .u8, .int .u8, .int .u8, .int .u8, .int .u8, .int .u8, .int .u8, .int .u8, .int .u8] := key_of (by decide +kernel)
@[go_sem] theorem t39_214_h : hasP Tryd.prog 214 = true := by decide +kernel
@[go_sem] theorem t39_214_s : sizeP Tryd.prog 214 = 1 := by decide +kernel
@[go_sem] theorem t39_214_a : aggP Tryd.prog 214 = false := by decide +kernel
@[go_sem] theorem t39_214_o : zeroOK Tryd.prog 214 = true := by decide +kernel
@[go_sem] theorem t39_214_y : (((Tryd.prog.info? 214).map (·.bytes)).getD 0 ≤ 256) = True := eq_true (by decide +kernel)
@[go_sem] theorem t39_214_b : (bytesP Tryd.prog 214 ≤ 1024) = True := eq_true (by decide +kernel)
@[go_sem] theorem t39_222_h : hasP Tryd.prog 222 = true := by decide +kernel
@[go_sem] theorem t39_222_s : sizeP Tryd.prog 222 = 1 := by decide +kernel
@[go_sem] theorem t39_222_a : aggP Tryd.prog 222 = false := by decide +kernel
@[go_sem] theorem t39_222_o : zeroOK Tryd.prog 222 = true := by decide +kernel
@[go_sem] theorem t39_222_y : (((Tryd.prog.info? 222).map (·.bytes)).getD 0 ≤ 256) = True := eq_true (by decide +kernel)
@[go_sem] theorem t39_222_b : (bytesP Tryd.prog 222 ≤ 1024) = True := eq_true (by decide +kernel)
@[go_sem] theorem t39_222_k : keyK Tryd.prog 222 = some [.int .u8] := key_of (by decide +kernel)
@[go_sem] theorem t39_223_h : hasP Tryd.prog 223 = true := by decide +kernel
@[go_sem] theorem t39_223_s : sizeP Tryd.prog 223 = 1 := by decide +kernel
@[go_sem] theorem t39_223_a : aggP Tryd.prog 223 = false := by decide +kernel
@[go_sem] theorem t39_223_o : zeroOK Tryd.prog 223 = true := by decide +kernel
@[go_sem] theorem t39_223_y : (((Tryd.prog.info? 223).map (·.bytes)).getD 0 ≤ 256) = True := eq_true (by decide +kernel)
@[go_sem] theorem t39_223_b : (bytesP Tryd.prog 223 ≤ 1024) = True := eq_true (by decide +kernel)
@[go_sem] theorem t39_223_k : keyK Tryd.prog 223 = some [.int .u8] := key_of (by decide +kernel)
@[go_sem] theorem t39_224_h : hasP Tryd.prog 224 = true := by decide +kernel
@[go_sem] theorem t39_224_s : sizeP Tryd.prog 224 = 1 := by decide +kernel
@[go_sem] theorem t39_224_a : aggP Tryd.prog 224 = false := by decide +kernel
@[go_sem] theorem t39_224_o : zeroOK Tryd.prog 224 = true := by decide +kernel
@[go_sem] theorem t39_224_y : (((Tryd.prog.info? 224).map (·.bytes)).getD 0 ≤ 256) = True := eq_true (by decide +kernel)
@[go_sem] theorem t39_224_b : (bytesP Tryd.prog 224 ≤ 1024) = True := eq_true (by decide +kernel)
@[go_sem] theorem t39_225_h : hasP Tryd.prog 225 = true := by decide +kernel
@[go_sem] theorem t39_225_s : sizeP Tryd.prog 225 = 1 := by decide +kernel
@[go_sem] theorem t39_225_a : aggP Tryd.prog 225 = false := by decide +kernel
@[go_sem] theorem t39_225_o : zeroOK Tryd.prog 225 = true := by decide +kernel
@[go_sem] theorem t39_225_y : (((Tryd.prog.info? 225).map (·.bytes)).getD 0 ≤ 256) = True := eq_true (by decide +kernel)
@[go_sem] theorem t39_225_b : (bytesP Tryd.prog 225 ≤ 1024) = True := eq_true (by decide +kernel)
@[go_sem] theorem t39_226_h : hasP Tryd.prog 226 = true := by decide +kernel
@[go_sem] theorem t39_226_s : sizeP Tryd.prog 226 = 1 := by decide +kernel
@[go_sem] theorem t39_226_a : aggP Tryd.prog 226 = false := by decide +kernel
@[go_sem] theorem t39_226_o : zeroOK Tryd.prog 226 = true := by decide +kernel
@[go_sem] theorem t39_226_y : (((Tryd.prog.info? 226).map (·.bytes)).getD 0 ≤ 256) = True := eq_true (by decide +kernel)
@[go_sem] theorem t39_226_b : (bytesP Tryd.prog 226 ≤ 1024) = True := eq_true (by decide +kernel)
@[go_sem] theorem t39_226_k : keyK Tryd.prog 226 = some [.int .i32] := key_of (by decide +kernel)
@[go_sem] theorem t39_227_h : hasP Tryd.prog 227 = true := by decide +kernel
@[go_sem] theorem t39_227_s : sizeP Tryd.prog 227 = 1 := by decide +kernel
@[go_sem] theorem t39_227_a : aggP Tryd.prog 227 = false := by decide +kernel
@[go_sem] theorem t39_227_o : zeroOK Tryd.prog 227 = true := by decide +kernel
@[go_sem] theorem t39_227_y : (((Tryd.prog.info? 227).map (·.bytes)).getD 0 ≤ 256) = True := eq_true (by decide +kernel)
@[go_sem] theorem t39_227_b : (bytesP Tryd.prog 227 ≤ 1024) = True := eq_true (by decide +kernel)
@[go_sem] theorem t39_227_k : keyK Tryd.prog 227 = some [.int .i32] := key_of (by decide +kernel)
@[go_sem] theorem t39_229_h : hasP Tryd.prog 229 = true := by decide +kernel
@[go_sem] theorem t39_229_s : sizeP Tryd.prog 229 = 11 := by decide +kernel
@[go_sem] theorem t39_229_a : aggP Tryd.prog 229 = true := by decide +kernel
@[go_sem] theorem t39_229_o : zeroOK Tryd.prog 229 = true := by decide +kernel
@[go_sem] theorem t39_229_y : (((Tryd.prog.info? 229).map (·.bytes)).getD 0 ≤ 256) = True := eq_true (by decide +kernel)
@[go_sem] theorem t39_229_b : (bytesP Tryd.prog 229 ≤ 1024) = True := eq_true (by decide +kernel)
@[go_sem] theorem t39_231_h : hasP Tryd.prog 231 = true := by decide +kernel
@[go_sem] theorem t39_231_s : sizeP Tryd.prog 231 = 1 := by decide +kernel
@[go_sem] theorem t39_231_a : aggP Tryd.prog 231 = true := by decide +kernel
@[go_sem] theorem t39_231_o : zeroOK Tryd.prog 231 = true := by decide +kernel
@[go_sem] theorem t39_231_y : (((Tryd.prog.info? 231).map (·.bytes)).getD 0 ≤ 256) = True := eq_true (by decide +kernel)
@[go_sem] theorem t39_231_b : (bytesP Tryd.prog 231 ≤ 1024) = True := eq_true (by decide +kernel)
/-- The table that finds a bit. -/
def tabL : List Nat := [0, 1, 28, 2, 29, 14, 24, 3, 30, 22, 20, 15, 25, 17, 4, 8, 31, 27, 13, 23, 21, 19, 16, 7, 26, 12, 18, 6, 11, 5, 10, 9]
def tabR : List IV := tabL.map fun n => .int .u8 (n : Nat)
def tabv : IV := .fptr 32 [tabR] 0 0
def glT : List (Nat × IV) := [(2, tabv)]
theorem tabR_cl : ∀ c ∈ tabR, Cl c := by
  intro c hc
  obtain ⟨n, _, rfl⟩ := List.mem_map.1 hc
  exact .int _ _
theorem tabv_cl : Cl tabv := .fptr _ _ _ _ fun i row j c h1 h2 => by
  cases i with
  | zero => simp only [List.getElem?_cons_zero, Option.some.injEq] at h1; subst h1; exact tabR_cl c (List.mem_of_getElem? h2)
  | succ i => simp at h1
theorem glT_cl : glCl glT := ⟨tabv_cl, trivial⟩
@[go_sem] theorem glT_clT : glCl glT = True := eq_true glT_cl
@[go_sem] theorem glT_get : eget glT 2 = some (.fptr 32 [tabR] 0 0) := rfl
@[go_sem] theorem glT_bl {n : Nat} : EnBl n glT = True := eq_true (by unfold glT; rw [EnBl_cons]; exact ⟨tabv_cl.bl, by rw [EnBl_nil]; trivial⟩)
end Go.Idl
