/-
  Chapter 38: the types; the variable zero.
-/
import Derived.Test.YtnnpdhccblelgaaDoorProg
import Derived.Test.YtnnpdhccblelgaaDoorIdlPartG
import Derived.KernelRfl
namespace Go.Idl
set_option linter.all false
open Go.Proofs
@[go_sem] theorem t38_1_h : hasP Tryd.prog 1 = true := by decide +kernel
@[go_sem] theorem t38_1_s : sizeP Tryd.prog 1 = 1 := by decide +kernel
@[go_sem] theorem t38_1_a : aggP Tryd.prog 1 = false := by decide +kernel
@[go_sem] theorem t38_1_z : zeroP Tryd.prog 1 = some [.nilf] := _root_.id (by kernel_rfl)
@[go_sem] theorem t38_1_o : zeroOK Tryd.prog 1 = true := by decide +kernel
@[go_sem] theorem t38_1_i : zeroI Tryd.prog 1 = some (.nilf) := _root_.id (by kernel_rfl)
@[go_sem] theorem t38_1_y : (((Tryd.prog.info? 1).map (·.bytes)).getD 0 ≤ 256) = True := eq_true (by decide +kernel)
@[go_sem] theorem t38_1_b : (bytesP Tryd.prog 1 ≤ 1024) = True := eq_true (by decide +kernel)
@[go_sem] theorem t38_2_h : hasP Tryd.prog 2 = true := by decide +kernel
@[go_sem] theorem t38_2_s : sizeP Tryd.prog 2 = 1 := by decide +kernel
@[go_sem] theorem t38_2_a : aggP Tryd.prog 2 = false := by decide +kernel
@[go_sem] theorem t38_2_z : zeroP Tryd.prog 2 = some [.int .i64 0] := _root_.id (by kernel_rfl)
@[go_sem] theorem t38_2_o : zeroOK Tryd.prog 2 = true := by decide +kernel
@[go_sem] theorem t38_2_i : zeroI Tryd.prog 2 = some (.int .i64 0) := _root_.id (by kernel_rfl)
@[go_sem] theorem t38_2_y : (((Tryd.prog.info? 2).map (·.bytes)).getD 0 ≤ 256) = True := eq_true (by decide +kernel)
@[go_sem] theorem t38_2_b : (bytesP Tryd.prog 2 ≤ 1024) = True := eq_true (by decide +kernel)
@[go_sem] theorem t38_2_k : keyK Tryd.prog 2 = some [.int .i64] := key_of (by decide +kernel)
@[go_sem] theorem t38_3_h : hasP Tryd.prog 3 = true := by decide +kernel
@[go_sem] theorem t38_3_s : sizeP Tryd.prog 3 = 1 := by decide +kernel
@[go_sem] theorem t38_3_a : aggP Tryd.prog 3 = false := by decide +kernel
@[go_sem] theorem t38_3_z : zeroP Tryd.prog 3 = some [.int .i64 0] := _root_.id (by kernel_rfl)
@[go_sem] theorem t38_3_o : zeroOK Tryd.prog 3 = true := by decide +kernel
@[go_sem] theorem t38_3_i : zeroI Tryd.prog 3 = some (.int .i64 0) := _root_.id (by kernel_rfl)
@[go_sem] theorem t38_3_y : (((Tryd.prog.info? 3).map (·.bytes)).getD 0 ≤ 256) = True := eq_true (by decide +kernel)
@[go_sem] theorem t38_3_b : (bytesP Tryd.prog 3 ≤ 1024) = True := eq_true (by decide +kernel)
@[go_sem] theorem t38_3_k : keyK Tryd.prog 3 = some [.int .i64] := key_of (by decide +kernel)
@[go_sem] theorem t38_4_h : hasP Tryd.prog 4 = true := by decide +kernel
@[go_sem] theorem t38_4_s : sizeP Tryd.prog 4 = 1 := by decide +kernel
@[go_sem] theorem t38_4_a : aggP Tryd.prog 4 = false := by decide +kernel
@[go_sem] theorem t38_4_z : zeroP Tryd.prog 4 = some [.bool false] := _root_.id (by kernel_rfl)
@[go_sem] theorem t38_4_o : zeroOK Tryd.prog 4 = true := by decide +kernel
@[go_sem] theorem t38_4_i : zeroI Tryd.prog 4 = some (.bool false) := _root_.id (by kernel_rfl)
@[go_sem] theorem t38_4_y : (((Tryd.prog.info? 4).map (·.bytes)).getD 0 ≤ 256) = True := eq_true (by decide +kernel)
@[go_sem] theorem t38_4_b : (bytesP Tryd.prog 4 ≤ 1024) = True := eq_true (by decide +kernel)
@[go_sem] theorem t38_4_k : keyK Tryd.prog 4 = some [.bool] := key_of (by decide +kernel)
@[go_sem] theorem t38_5_h : hasP Tryd.prog 5 = true := by decide +kernel
@[go_sem] theorem t38_5_s : sizeP Tryd.prog 5 = 1 := by decide +kernel
@[go_sem] theorem t38_5_a : aggP Tryd.prog 5 = false := by decide +kernel
@[go_sem] theorem t38_5_z : zeroP Tryd.prog 5 = some [.int .u8 0] := _root_.id (by kernel_rfl)
@[go_sem] theorem t38_5_o : zeroOK Tryd.prog 5 = true := by decide +kernel
@[go_sem] theorem t38_5_i : zeroI Tryd.prog 5 = some (.int .u8 0) := _root_.id (by kernel_rfl)
@[go_sem] theorem t38_5_y : (((Tryd.prog.info? 5).map (·.bytes)).getD 0 ≤ 256) = True := eq_true (by decide +kernel)
@[go_sem] theorem t38_5_b : (bytesP Tryd.prog 5 ≤ 1024) = True := eq_true (by decide +kernel)
@[go_sem] theorem t38_5_k : keyK Tryd.prog 5 = some [.int .u8] := key_of (by decide +kernel)
@[go_sem] theorem t38_6_h : hasP Tryd.prog 6 = true := by decide +kernel
@[go_sem] theorem t38_6_s : sizeP Tryd.prog 6 = 1 := by decide +kernel
@[go_sem] theorem t38_6_a : aggP Tryd.prog 6 = false := by decide +kernel
@[go_sem] theorem t38_6_z : zeroP Tryd.prog 6 = some [.int .u8 0] := _root_.id (by kernel_rfl)
@[go_sem] theorem t38_6_o : zeroOK Tryd.prog 6 = true := by decide +kernel
@[go_sem] theorem t38_6_i : zeroI Tryd.prog 6 = some (.int .u8 0) := _root_.id (by kernel_rfl)
@[go_sem] theorem t38_6_y : (((Tryd.prog.info? 6).map (·.bytes)).getD 0 ≤ 256) = True := eq_true (by decide +kernel)
@[go_sem] theorem t38_6_b : (bytesP Tryd.prog 6 ≤ 1024) = True := eq_true (by decide +kernel)
@[go_sem] theorem t38_6_k : keyK Tryd.prog 6 = some [.int .u8] := key_of (by decide +kernel)
@[go_sem] theorem t38_7_h : hasP Tryd.prog 7 = true := by decide +kernel
@[go_sem] theorem t38_7_s : sizeP Tryd.prog 7 = 4 := by decide +kernel
@[go_sem] theorem t38_7_a : aggP Tryd.prog 7 = true := by decide +kernel
@[go_sem] theorem t38_7_z : zeroP Tryd.prog 7 = some [.int .i64 0, .int .i64 0, .bool false, .int .u8 0] := _root_.id (by kernel_rfl)
@[go_sem] theorem t38_7_o : zeroOK Tryd.prog 7 = true := by decide +kernel
@[go_sem] theorem t38_7_i : zeroI Tryd.prog 7 = some (.agg [.int .i64 0, .int .i64 0, .bool false, .int .u8 0]) := _root_.id (by kernel_rfl)
@[go_sem] theorem t38_7_y : (((Tryd.prog.info? 7).map (·.bytes)).getD 0 ≤ 256) = True := eq_true (by decide +kernel)
@[go_sem] theorem t38_7_b : (bytesP Tryd.prog 7 ≤ 1024) = True := eq_true (by decide +kernel)
@[go_sem] theorem t38_7_f : flatP Tryd.prog 7 = some [.int .i64, .int .i64, .bool, .int .u8] := flat_of (by decide +kernel)
@[go_sem] theorem t38_7_k : keyK Tryd.prog 7 = some [.int .i64, .int .i64, .bool, .int .u8] := key_of (by decide +kernel)
@[go_sem] theorem t38_8_h : hasP Tryd.prog 8 = true := by decide +kernel
@[go_sem] theorem t38_8_s : sizeP Tryd.prog 8 = 4 := by decide +kernel
@[go_sem] theorem t38_8_a : aggP Tryd.prog 8 = true := by decide +kernel
@[go_sem] theorem t38_8_z : zeroP Tryd.prog 8 = some [.int .i64 0, .int .i64 0, .bool false, .int .u8 0] := _root_.id (by kernel_rfl)
@[go_sem] theorem t38_8_o : zeroOK Tryd.prog 8 = true := by decide +kernel
@[go_sem] theorem t38_8_i : zeroI Tryd.prog 8 = some (.agg [.int .i64 0, .int .i64 0, .bool false, .int .u8 0]) := _root_.id (by kernel_rfl)
@[go_sem] theorem t38_8_y : (((Tryd.prog.info? 8).map (·.bytes)).getD 0 ≤ 256) = True := eq_true (by decide +kernel)
@[go_sem] theorem t38_8_b : (bytesP Tryd.prog 8 ≤ 1024) = True := eq_true (by decide +kernel)
@[go_sem] theorem t38_8_f : flatP Tryd.prog 8 = some [.int .i64, .int .i64, .bool, .int .u8] := flat_of (by decide +kernel)
@[go_sem] theorem t38_8_k : keyK Tryd.prog 8 = some [.int .i64, .int .i64, .bool, .int .u8] := key_of (by decide +kernel)
@[go_sem] theorem t38_9_h : hasP Tryd.prog 9 = true := by decide +kernel
@[go_sem] theorem t38_9_s : sizeP Tryd.prog 9 = 1 := by decide +kernel
@[go_sem] theorem t38_9_a : aggP Tryd.prog 9 = false := by decide +kernel
@[go_sem] theorem t38_9_z : zeroP Tryd.prog 9 = some [.str ByteArray.empty] := _root_.id (by kernel_rfl)
@[go_sem] theorem t38_9_o : zeroOK Tryd.prog 9 = true := by decide +kernel
@[go_sem] theorem t38_9_i : zeroI Tryd.prog 9 = some (.str ByteArray.empty) := _root_.id (by kernel_rfl)
@[go_sem] theorem t38_9_y : (((Tryd.prog.info? 9).map (·.bytes)).getD 0 ≤ 256) = True := eq_true (by decide +kernel)
@[go_sem] theorem t38_9_b : (bytesP Tryd.prog 9 ≤ 1024) = True := eq_true (by decide +kernel)
@[go_sem] theorem t38_9_k : keyK Tryd.prog 9 = some [.string] := key_of (by decide +kernel)
@[go_sem] theorem t38_10_h : hasP Tryd.prog 10 = true := by decide +kernel
@[go_sem] theorem t38_10_s : sizeP Tryd.prog 10 = 1 := by decide +kernel
@[go_sem] theorem t38_10_a : aggP Tryd.prog 10 = false := by decide +kernel
@[go_sem] theorem t38_10_z : zeroP Tryd.prog 10 = some [.str ByteArray.empty] := _root_.id (by kernel_rfl)
@[go_sem] theorem t38_10_o : zeroOK Tryd.prog 10 = true := by decide +kernel
@[go_sem] theorem t38_10_i : zeroI Tryd.prog 10 = some (.str ByteArray.empty) := _root_.id (by kernel_rfl)
@[go_sem] theorem t38_10_y : (((Tryd.prog.info? 10).map (·.bytes)).getD 0 ≤ 256) = True := eq_true (by decide +kernel)
@[go_sem] theorem t38_10_b : (bytesP Tryd.prog 10 ≤ 1024) = True := eq_true (by decide +kernel)
@[go_sem] theorem t38_10_k : keyK Tryd.prog 10 = some [.string] := key_of (by decide +kernel)
@[go_sem] theorem t38_11_h : hasP Tryd.prog 11 = true := by decide +kernel
@[go_sem] theorem t38_11_s : sizeP Tryd.prog 11 = 1 := by decide +kernel
@[go_sem] theorem t38_11_a : aggP Tryd.prog 11 = false := by decide +kernel
@[go_sem] theorem t38_11_z : zeroP Tryd.prog 11 = some [.str ByteArray.empty] := _root_.id (by kernel_rfl)
@[go_sem] theorem t38_11_o : zeroOK Tryd.prog 11 = true := by decide +kernel
@[go_sem] theorem t38_11_i : zeroI Tryd.prog 11 = some (.str ByteArray.empty) := _root_.id (by kernel_rfl)
@[go_sem] theorem t38_11_y : (((Tryd.prog.info? 11).map (·.bytes)).getD 0 ≤ 256) = True := eq_true (by decide +kernel)
@[go_sem] theorem t38_11_b : (bytesP Tryd.prog 11 ≤ 1024) = True := eq_true (by decide +kernel)
@[go_sem] theorem t38_11_k : keyK Tryd.prog 11 = some [.string] := key_of (by decide +kernel)
@[go_sem] theorem t38_12_h : hasP Tryd.prog 12 = true := by decide +kernel
@[go_sem] theorem t38_12_s : sizeP Tryd.prog 12 = 1 := by decide +kernel
@[go_sem] theorem t38_12_a : aggP Tryd.prog 12 = false := by decide +kernel
@[go_sem] theorem t38_12_z : zeroP Tryd.prog 12 = some [.int .u64 0] := _root_.id (by kernel_rfl)
@[go_sem] theorem t38_12_o : zeroOK Tryd.prog 12 = true := by decide +kernel
@[go_sem] theorem t38_12_i : zeroI Tryd.prog 12 = some (.int .u64 0) := _root_.id (by kernel_rfl)
@[go_sem] theorem t38_12_y : (((Tryd.prog.info? 12).map (·.bytes)).getD 0 ≤ 256) = True := eq_true (by decide +kernel)
@[go_sem] theorem t38_12_b : (bytesP Tryd.prog 12 ≤ 1024) = True := eq_true (by decide +kernel)
@[go_sem] theorem t38_12_k : keyK Tryd.prog 12 = some [.int .u64] := key_of (by decide +kernel)
@[go_sem] theorem t38_13_h : hasP Tryd.prog 13 = true := by decide +kernel
@[go_sem] theorem t38_13_s : sizeP Tryd.prog 13 = 2 := by decide +kernel
@[go_sem] theorem t38_13_a : aggP Tryd.prog 13 = true := by decide +kernel
@[go_sem] theorem t38_13_z : zeroP Tryd.prog 13 = some [.str ByteArray.empty, .int .u64 0] := _root_.id (by kernel_rfl)
@[go_sem] theorem t38_13_o : zeroOK Tryd.prog 13 = true := by decide +kernel
@[go_sem] theorem t38_13_i : zeroI Tryd.prog 13 = some (.agg [.str ByteArray.empty, .int .u64 0]) := _root_.id (by kernel_rfl)
@[go_sem] theorem t38_13_y : (((Tryd.prog.info? 13).map (·.bytes)).getD 0 ≤ 256) = True := eq_true (by decide +kernel)
@[go_sem] theorem t38_13_b : (bytesP Tryd.prog 13 ≤ 1024) = True := eq_true (by decide +kernel)
@[go_sem] theorem t38_14_h : hasP Tryd.prog 14 = true := by decide +kernel
@[go_sem] theorem t38_14_s : sizeP Tryd.prog 14 = 2 := by decide +kernel
@[go_sem] theorem t38_14_a : aggP Tryd.prog 14 = true := by decide +kernel
@[go_sem] theorem t38_14_z : zeroP Tryd.prog 14 = some [.str ByteArray.empty, .int .u64 0] := _root_.id (by kernel_rfl)
@[go_sem] theorem t38_14_o : zeroOK Tryd.prog 14 = true := by decide +kernel
@[go_sem] theorem t38_14_i : zeroI Tryd.prog 14 = some (.agg [.str ByteArray.empty, .int .u64 0]) := _root_.id (by kernel_rfl)
@[go_sem] theorem t38_14_y : (((Tryd.prog.info? 14).map (·.bytes)).getD 0 ≤ 256) = True := eq_true (by decide +kernel)
@[go_sem] theorem t38_14_b : (bytesP Tryd.prog 14 ≤ 1024) = True := eq_true (by decide +kernel)
@[go_sem] theorem t38_15_h : hasP Tryd.prog 15 = true := by decide +kernel
@[go_sem] theorem t38_15_s : sizeP Tryd.prog 15 = 1 := by decide +kernel
@[go_sem] theorem t38_15_a : aggP Tryd.prog 15 = false := by decide +kernel
@[go_sem] theorem t38_15_z : zeroP Tryd.prog 15 = some [.nilp] := _root_.id (by kernel_rfl)
@[go_sem] theorem t38_15_o : zeroOK Tryd.prog 15 = true := by decide +kernel
@[go_sem] theorem t38_15_i : zeroI Tryd.prog 15 = some (.nilp) := _root_.id (by kernel_rfl)
@[go_sem] theorem t38_15_y : (((Tryd.prog.info? 15).map (·.bytes)).getD 0 ≤ 256) = True := eq_true (by decide +kernel)
@[go_sem] theorem t38_15_b : (bytesP Tryd.prog 15 ≤ 1024) = True := eq_true (by decide +kernel)
@[go_sem] theorem t38_16_h : hasP Tryd.prog 16 = true := by decide +kernel
@[go_sem] theorem t38_16_s : sizeP Tryd.prog 16 = 1 := by decide +kernel
@[go_sem] theorem t38_16_a : aggP Tryd.prog 16 = false := by decide +kernel
@[go_sem] theorem t38_16_z : zeroP Tryd.prog 16 = some [.nilp] := _root_.id (by kernel_rfl)
@[go_sem] theorem t38_16_o : zeroOK Tryd.prog 16 = true := by decide +kernel
@[go_sem] theorem t38_16_i : zeroI Tryd.prog 16 = some (.nilp) := _root_.id (by kernel_rfl)
@[go_sem] theorem t38_16_y : (((Tryd.prog.info? 16).map (·.bytes)).getD 0 ≤ 256) = True := eq_true (by decide +kernel)
@[go_sem] theorem t38_16_b : (bytesP Tryd.prog 16 ≤ 1024) = True := eq_true (by decide +kernel)
@[go_sem] theorem t38_17_h : hasP Tryd.prog 17 = true := by decide +kernel
@[go_sem] theorem t38_17_s : sizeP Tryd.prog 17 = 1 := by decide +kernel
@[go_sem] theorem t38_17_a : aggP Tryd.prog 17 = false := by decide +kernel
@[go_sem] theorem t38_17_z : zeroP Tryd.prog 17 = some [.nilp] := _root_.id (by kernel_rfl)
@[go_sem] theorem t38_17_o : zeroOK Tryd.prog 17 = true := by decide +kernel
@[go_sem] theorem t38_17_i : zeroI Tryd.prog 17 = some (.nilp) := _root_.id (by kernel_rfl)
@[go_sem] theorem t38_17_y : (((Tryd.prog.info? 17).map (·.bytes)).getD 0 ≤ 256) = True := eq_true (by decide +kernel)
@[go_sem] theorem t38_17_b : (bytesP Tryd.prog 17 ≤ 1024) = True := eq_true (by decide +kernel)
@[go_sem] theorem t38_18_h : hasP Tryd.prog 18 = true := by decide +kernel
@[go_sem] theorem t38_18_s : sizeP Tryd.prog 18 = 1 := by decide +kernel
@[go_sem] theorem t38_18_a : aggP Tryd.prog 18 = true := by decide +kernel
@[go_sem] theorem t38_18_z : zeroP Tryd.prog 18 = some [.nilp] := _root_.id (by kernel_rfl)
@[go_sem] theorem t38_18_o : zeroOK Tryd.prog 18 = true := by decide +kernel
@[go_sem] theorem t38_18_i : zeroI Tryd.prog 18 = some (.agg [.nilp]) := _root_.id (by kernel_rfl)
@[go_sem] theorem t38_18_y : (((Tryd.prog.info? 18).map (·.bytes)).getD 0 ≤ 256) = True := eq_true (by decide +kernel)
@[go_sem] theorem t38_18_b : (bytesP Tryd.prog 18 ≤ 1024) = True := eq_true (by decide +kernel)
@[go_sem] theorem t38_19_h : hasP Tryd.prog 19 = true := by decide +kernel
@[go_sem] theorem t38_19_s : sizeP Tryd.prog 19 = 1 := by decide +kernel
@[go_sem] theorem t38_19_a : aggP Tryd.prog 19 = true := by decide +kernel
@[go_sem] theorem t38_19_z : zeroP Tryd.prog 19 = some [.nilp] := _root_.id (by kernel_rfl)
@[go_sem] theorem t38_19_o : zeroOK Tryd.prog 19 = true := by decide +kernel
@[go_sem] theorem t38_19_i : zeroI Tryd.prog 19 = some (.agg [.nilp]) := _root_.id (by kernel_rfl)
@[go_sem] theorem t38_19_y : (((Tryd.prog.info? 19).map (·.bytes)).getD 0 ≤ 256) = True := eq_true (by decide +kernel)
@[go_sem] theorem t38_19_b : (bytesP Tryd.prog 19 ≤ 1024) = True := eq_true (by decide +kernel)
@[go_sem] theorem t38_21_h : hasP Tryd.prog 21 = true := by decide +kernel
@[go_sem] theorem t38_21_s : sizeP Tryd.prog 21 = 1 := by decide +kernel
@[go_sem] theorem t38_21_a : aggP Tryd.prog 21 = false := by decide +kernel
@[go_sem] theorem t38_21_z : zeroP Tryd.prog 21 = some [.int .i32 0] := _root_.id (by kernel_rfl)
@[go_sem] theorem t38_21_o : zeroOK Tryd.prog 21 = true := by decide +kernel
@[go_sem] theorem t38_21_i : zeroI Tryd.prog 21 = some (.int .i32 0) := _root_.id (by kernel_rfl)
@[go_sem] theorem t38_21_y : (((Tryd.prog.info? 21).map (·.bytes)).getD 0 ≤ 256) = True := eq_true (by decide +kernel)
@[go_sem] theorem t38_21_b : (bytesP Tryd.prog 21 ≤ 1024) = True := eq_true (by decide +kernel)
@[go_sem] theorem t38_21_k : keyK Tryd.prog 21 = some [.int .i32] := key_of (by decide +kernel)
@[go_sem] theorem t38_22_h : hasP Tryd.prog 22 = true := by decide +kernel
@[go_sem] theorem t38_22_s : sizeP Tryd.prog 22 = 2 := by decide +kernel
@[go_sem] theorem t38_22_a : aggP Tryd.prog 22 = true := by decide +kernel
@[go_sem] theorem t38_22_z : zeroP Tryd.prog 22 = some [.int .i64 0, .int .i64 0] := _root_.id (by kernel_rfl)
@[go_sem] theorem t38_22_o : zeroOK Tryd.prog 22 = true := by decide +kernel
@[go_sem] theorem t38_22_i : zeroI Tryd.prog 22 = some (.agg [.int .i64 0, .int .i64 0]) := _root_.id (by kernel_rfl)
@[go_sem] theorem t38_22_y : (((Tryd.prog.info? 22).map (·.bytes)).getD 0 ≤ 256) = True := eq_true (by decide +kernel)
@[go_sem] theorem t38_22_b : (bytesP Tryd.prog 22 ≤ 1024) = True := eq_true (by decide +kernel)
@[go_sem] theorem t38_22_f : flatP Tryd.prog 22 = some [.int .i64, .int .i64] := flat_of (by decide +kernel)
@[go_sem] theorem t38_22_k : keyK Tryd.prog 22 = some [.int .i64, .int .i64] := key_of (by decide +kernel)
@[go_sem] theorem t38_23_h : hasP Tryd.prog 23 = true := by decide +kernel
@[go_sem] theorem t38_23_s : sizeP Tryd.prog 23 = 2 := by decide +kernel
@[go_sem] theorem t38_23_a : aggP Tryd.prog 23 = true := by decide +kernel
@[go_sem] theorem t38_23_z : zeroP Tryd.prog 23 = some [.int .i64 0, .int .i64 0] := _root_.id (by kernel_rfl)
@[go_sem] theorem t38_23_o : zeroOK Tryd.prog 23 = true := by decide +kernel
@[go_sem] theorem t38_23_i : zeroI Tryd.prog 23 = some (.agg [.int .i64 0, .int .i64 0]) := _root_.id (by kernel_rfl)
@[go_sem] theorem t38_23_y : (((Tryd.prog.info? 23).map (·.bytes)).getD 0 ≤ 256) = True := eq_true (by decide +kernel)
@[go_sem] theorem t38_23_b : (bytesP Tryd.prog 23 ≤ 1024) = True := eq_true (by decide +kernel)
@[go_sem] theorem t38_23_f : flatP Tryd.prog 23 = some [.int .i64, .int .i64] := flat_of (by decide +kernel)
@[go_sem] theorem t38_23_k : keyK Tryd.prog 23 = some [.int .i64, .int .i64] := key_of (by decide +kernel)
@[go_sem] theorem t38_24_h : hasP Tryd.prog 24 = true := by decide +kernel
@[go_sem] theorem t38_24_s : sizeP Tryd.prog 24 = 1 := by decide +kernel
@[go_sem] theorem t38_24_a : aggP Tryd.prog 24 = false := by decide +kernel
@[go_sem] theorem t38_24_z : zeroP Tryd.prog 24 = some [.nilf] := _root_.id (by kernel_rfl)
@[go_sem] theorem t38_24_o : zeroOK Tryd.prog 24 = true := by decide +kernel
@[go_sem] theorem t38_24_i : zeroI Tryd.prog 24 = some (.nilf) := _root_.id (by kernel_rfl)
@[go_sem] theorem t38_24_y : (((Tryd.prog.info? 24).map (·.bytes)).getD 0 ≤ 256) = True := eq_true (by decide +kernel)
@[go_sem] theorem t38_24_b : (bytesP Tryd.prog 24 ≤ 1024) = True := eq_true (by decide +kernel)
@[go_sem] theorem t38_25_h : hasP Tryd.prog 25 = true := by decide +kernel
@[go_sem] theorem t38_25_s : sizeP Tryd.prog 25 = 1 := by decide +kernel
@[go_sem] theorem t38_25_a : aggP Tryd.prog 25 = false := by decide +kernel
@[go_sem] theorem t38_25_z : zeroP Tryd.prog 25 = some [.nilf] := _root_.id (by kernel_rfl)
@[go_sem] theorem t38_25_o : zeroOK Tryd.prog 25 = true := by decide +kernel
@[go_sem] theorem t38_25_i : zeroI Tryd.prog 25 = some (.nilf) := _root_.id (by kernel_rfl)
@[go_sem] theorem t38_25_y : (((Tryd.prog.info? 25).map (·.bytes)).getD 0 ≤ 256) = True := eq_true (by decide +kernel)
@[go_sem] theorem t38_25_b : (bytesP Tryd.prog 25 ≤ 1024) = True := eq_true (by decide +kernel)
@[go_sem] theorem t38_26_h : hasP Tryd.prog 26 = true := by decide +kernel
@[go_sem] theorem t38_26_s : sizeP Tryd.prog 26 = 1 := by decide +kernel
@[go_sem] theorem t38_26_a : aggP Tryd.prog 26 = false := by decide +kernel
@[go_sem] theorem t38_26_z : zeroP Tryd.prog 26 = some [.int .i64 0] := _root_.id (by kernel_rfl)
@[go_sem] theorem t38_26_o : zeroOK Tryd.prog 26 = true := by decide +kernel
@[go_sem] theorem t38_26_i : zeroI Tryd.prog 26 = some (.int .i64 0) := _root_.id (by kernel_rfl)
@[go_sem] theorem t38_26_y : (((Tryd.prog.info? 26).map (·.bytes)).getD 0 ≤ 256) = True := eq_true (by decide +kernel)
@[go_sem] theorem t38_26_b : (bytesP Tryd.prog 26 ≤ 1024) = True := eq_true (by decide +kernel)
@[go_sem] theorem t38_26_k : keyK Tryd.prog 26 = some [.int .i64] := key_of (by decide +kernel)
@[go_sem] theorem t38_28_h : hasP Tryd.prog 28 = true := by decide +kernel
@[go_sem] theorem t38_28_s : sizeP Tryd.prog 28 = 1 := by decide +kernel
@[go_sem] theorem t38_28_a : aggP Tryd.prog 28 = false := by decide +kernel
@[go_sem] theorem t38_28_z : zeroP Tryd.prog 28 = some [.nilf] := _root_.id (by kernel_rfl)
@[go_sem] theorem t38_28_o : zeroOK Tryd.prog 28 = true := by decide +kernel
@[go_sem] theorem t38_28_i : zeroI Tryd.prog 28 = some (.nilf) := _root_.id (by kernel_rfl)
@[go_sem] theorem t38_28_y : (((Tryd.prog.info? 28).map (·.bytes)).getD 0 ≤ 256) = True := eq_true (by decide +kernel)
@[go_sem] theorem t38_28_b : (bytesP Tryd.prog 28 ≤ 1024) = True := eq_true (by decide +kernel)
@[go_sem] theorem t38_29_h : hasP Tryd.prog 29 = true := by decide +kernel
@[go_sem] theorem t38_29_s : sizeP Tryd.prog 29 = 1 := by decide +kernel
@[go_sem] theorem t38_29_a : aggP Tryd.prog 29 = false := by decide +kernel
@[go_sem] theorem t38_29_z : zeroP Tryd.prog 29 = some [.nils] := _root_.id (by kernel_rfl)
@[go_sem] theorem t38_29_o : zeroOK Tryd.prog 29 = true := by decide +kernel
@[go_sem] theorem t38_29_i : zeroI Tryd.prog 29 = some (.nils) := _root_.id (by kernel_rfl)
@[go_sem] theorem t38_29_y : (((Tryd.prog.info? 29).map (·.bytes)).getD 0 ≤ 256) = True := eq_true (by decide +kernel)
@[go_sem] theorem t38_29_b : (bytesP Tryd.prog 29 ≤ 1024) = True := eq_true (by decide +kernel)
@[go_sem] theorem t38_31_h : hasP Tryd.prog 31 = true := by decide +kernel
@[go_sem] theorem t38_31_s : sizeP Tryd.prog 31 = 1 := by decide +kernel
@[go_sem] theorem t38_31_a : aggP Tryd.prog 31 = false := by decide +kernel
@[go_sem] theorem t38_31_z : zeroP Tryd.prog 31 = some [.nilf] := _root_.id (by kernel_rfl)
@[go_sem] theorem t38_31_o : zeroOK Tryd.prog 31 = true := by decide +kernel
@[go_sem] theorem t38_31_i : zeroI Tryd.prog 31 = some (.nilf) := _root_.id (by kernel_rfl)
@[go_sem] theorem t38_31_y : (((Tryd.prog.info? 31).map (·.bytes)).getD 0 ≤ 256) = True := eq_true (by decide +kernel)
@[go_sem] theorem t38_31_b : (bytesP Tryd.prog 31 ≤ 1024) = True := eq_true (by decide +kernel)
@[go_sem] theorem t38_32_h : hasP Tryd.prog 32 = true := by decide +kernel
@[go_sem] theorem t38_32_s : sizeP Tryd.prog 32 = 1 := by decide +kernel
@[go_sem] theorem t38_32_a : aggP Tryd.prog 32 = false := by decide +kernel
@[go_sem] theorem t38_32_z : zeroP Tryd.prog 32 = some [.nilf] := _root_.id (by kernel_rfl)
@[go_sem] theorem t38_32_o : zeroOK Tryd.prog 32 = true := by decide +kernel
@[go_sem] theorem t38_32_i : zeroI Tryd.prog 32 = some (.nilf) := _root_.id (by kernel_rfl)
@[go_sem] theorem t38_32_y : (((Tryd.prog.info? 32).map (·.bytes)).getD 0 ≤ 256) = True := eq_true (by decide +kernel)
@[go_sem] theorem t38_32_b : (bytesP Tryd.prog 32 ≤ 1024) = True := eq_true (by decide +kernel)
@[go_sem] theorem t38_33_h : hasP Tryd.prog 33 = true := by decide +kernel
@[go_sem] theorem t38_33_s : sizeP Tryd.prog 33 = 4 := by decide +kernel
@[go_sem] theorem t38_33_a : aggP Tryd.prog 33 = true := by decide +kernel
@[go_sem] theorem t38_33_z : zeroP Tryd.prog 33 = some [.int .i64 0, .int .i64 0, .int .i64 0, .int .i64 0] := _root_.id (by kernel_rfl)
@[go_sem] theorem t38_33_o : zeroOK Tryd.prog 33 = true := by decide +kernel
@[go_sem] theorem t38_33_i : zeroI Tryd.prog 33 = some (.agg [.int .i64 0, .int .i64 0, .int .i64 0, .int .i64 0]) := _root_.id (by kernel_rfl)
@[go_sem] theorem t38_33_y : (((Tryd.prog.info? 33).map (·.bytes)).getD 0 ≤ 256) = True := eq_true (by decide +kernel)
@[go_sem] theorem t38_33_b : (bytesP Tryd.prog 33 ≤ 1024) = True := eq_true (by decide +kernel)
@[go_sem] theorem t38_33_f : flatP Tryd.prog 33 = some [.int .i64, .int .i64, .int .i64, .int .i64] := flat_of (by decide +kernel)
@[go_sem] theorem t38_33_k : keyK Tryd.prog 33 = some [.int .i64, .int .i64, .int .i64, .int .i64] := key_of (by decide +kernel)
@[go_sem] theorem t38_34_h : hasP Tryd.prog 34 = true := by decide +kernel
@[go_sem] theorem t38_34_s : sizeP Tryd.prog 34 = 4 := by decide +kernel
@[go_sem] theorem t38_34_a : aggP Tryd.prog 34 = true := by decide +kernel
@[go_sem] theorem t38_34_z : zeroP Tryd.prog 34 = some [.int .i64 0, .int .i64 0, .int .i64 0, .int .i64 0] := _root_.id (by kernel_rfl)
@[go_sem] theorem t38_34_o : zeroOK Tryd.prog 34 = true := by decide +kernel
@[go_sem] theorem t38_34_i : zeroI Tryd.prog 34 = some (.agg [.int .i64 0, .int .i64 0, .int .i64 0, .int .i64 0]) := _root_.id (by kernel_rfl)
@[go_sem] theorem t38_34_y : (((Tryd.prog.info? 34).map (·.bytes)).getD 0 ≤ 256) = True := eq_true (by decide +kernel)
@[go_sem] theorem t38_34_b : (bytesP Tryd.prog 34 ≤ 1024) = True := eq_true (by decide +kernel)
@[go_sem] theorem t38_34_f : flatP Tryd.prog 34 = some [.int .i64, .int .i64, .int .i64, .int .i64] := flat_of (by decide +kernel)
@[go_sem] theorem t38_34_k : keyK Tryd.prog 34 = some [.int .i64, .int .i64, .int .i64, .int .i64] := key_of (by decide +kernel)
@[go_sem] theorem t38_35_h : hasP Tryd.prog 35 = true := by decide +kernel
@[go_sem] theorem t38_35_s : sizeP Tryd.prog 35 = 1 := by decide +kernel
@[go_sem] theorem t38_35_a : aggP Tryd.prog 35 = false := by decide +kernel
@[go_sem] theorem t38_35_z : zeroP Tryd.prog 35 = some [.nilf] := _root_.id (by kernel_rfl)
@[go_sem] theorem t38_35_o : zeroOK Tryd.prog 35 = true := by decide +kernel
@[go_sem] theorem t38_35_i : zeroI Tryd.prog 35 = some (.nilf) := _root_.id (by kernel_rfl)
@[go_sem] theorem t38_35_y : (((Tryd.prog.info? 35).map (·.bytes)).getD 0 ≤ 256) = True := eq_true (by decide +kernel)
@[go_sem] theorem t38_35_b : (bytesP Tryd.prog 35 ≤ 1024) = True := eq_true (by decide +kernel)
@[go_sem] theorem t38_36_h : hasP Tryd.prog 36 = true := by decide +kernel
@[go_sem] theorem t38_36_s : sizeP Tryd.prog 36 = 1 := by decide +kernel
@[go_sem] theorem t38_36_a : aggP Tryd.prog 36 = false := by decide +kernel
@[go_sem] theorem t38_36_z : zeroP Tryd.prog 36 = some [.nilf] := _root_.id (by kernel_rfl)
@[go_sem] theorem t38_36_o : zeroOK Tryd.prog 36 = true := by decide +kernel
@[go_sem] theorem t38_36_i : zeroI Tryd.prog 36 = some (.nilf) := _root_.id (by kernel_rfl)
@[go_sem] theorem t38_36_y : (((Tryd.prog.info? 36).map (·.bytes)).getD 0 ≤ 256) = True := eq_true (by decide +kernel)
@[go_sem] theorem t38_36_b : (bytesP Tryd.prog 36 ≤ 1024) = True := eq_true (by decide +kernel)
@[go_sem] theorem t38_37_h : hasP Tryd.prog 37 = true := by decide +kernel
@[go_sem] theorem t38_37_s : sizeP Tryd.prog 37 = 1 := by decide +kernel
@[go_sem] theorem t38_37_a : aggP Tryd.prog 37 = false := by decide +kernel
@[go_sem] theorem t38_37_z : zeroP Tryd.prog 37 = some [.int .u16 0] := _root_.id (by kernel_rfl)
@[go_sem] theorem t38_37_o : zeroOK Tryd.prog 37 = true := by decide +kernel
@[go_sem] theorem t38_37_i : zeroI Tryd.prog 37 = some (.int .u16 0) := _root_.id (by kernel_rfl)
@[go_sem] theorem t38_37_y : (((Tryd.prog.info? 37).map (·.bytes)).getD 0 ≤ 256) = True := eq_true (by decide +kernel)
@[go_sem] theorem t38_37_b : (bytesP Tryd.prog 37 ≤ 1024) = True := eq_true (by decide +kernel)
@[go_sem] theorem t38_37_k : keyK Tryd.prog 37 = some [.int .u16] := key_of (by decide +kernel)
@[go_sem] theorem t38_38_h : hasP Tryd.prog 38 = true := by decide +kernel
@[go_sem] theorem t38_38_s : sizeP Tryd.prog 38 = 1 := by decide +kernel
@[go_sem] theorem t38_38_a : aggP Tryd.prog 38 = false := by decide +kernel
@[go_sem] theorem t38_38_z : zeroP Tryd.prog 38 = some [.int .i16 0] := _root_.id (by kernel_rfl)
@[go_sem] theorem t38_38_o : zeroOK Tryd.prog 38 = true := by decide +kernel
@[go_sem] theorem t38_38_i : zeroI Tryd.prog 38 = some (.int .i16 0) := _root_.id (by kernel_rfl)
@[go_sem] theorem t38_38_y : (((Tryd.prog.info? 38).map (·.bytes)).getD 0 ≤ 256) = True := eq_true (by decide +kernel)
@[go_sem] theorem t38_38_b : (bytesP Tryd.prog 38 ≤ 1024) = True := eq_true (by decide +kernel)
@[go_sem] theorem t38_38_k : keyK Tryd.prog 38 = some [.int .i16] := key_of (by decide +kernel)
@[go_sem] theorem t38_40_h : hasP Tryd.prog 40 = true := by decide +kernel
@[go_sem] theorem t38_40_s : sizeP Tryd.prog 40 = 1 := by decide +kernel
@[go_sem] theorem t38_40_a : aggP Tryd.prog 40 = false := by decide +kernel
@[go_sem] theorem t38_40_z : zeroP Tryd.prog 40 = some [.nilf] := _root_.id (by kernel_rfl)
@[go_sem] theorem t38_40_o : zeroOK Tryd.prog 40 = true := by decide +kernel
@[go_sem] theorem t38_40_i : zeroI Tryd.prog 40 = some (.nilf) := _root_.id (by kernel_rfl)
@[go_sem] theorem t38_40_y : (((Tryd.prog.info? 40).map (·.bytes)).getD 0 ≤ 256) = True := eq_true (by decide +kernel)
@[go_sem] theorem t38_40_b : (bytesP Tryd.prog 40 ≤ 1024) = True := eq_true (by decide +kernel)
@[go_sem] theorem t38_41_h : hasP Tryd.prog 41 = true := by decide +kernel
@[go_sem] theorem t38_41_s : sizeP Tryd.prog 41 = 1 := by decide +kernel
@[go_sem] theorem t38_41_a : aggP Tryd.prog 41 = false := by decide +kernel
@[go_sem] theorem t38_41_z : zeroP Tryd.prog 41 = some [.nilf] := _root_.id (by kernel_rfl)
@[go_sem] theorem t38_41_o : zeroOK Tryd.prog 41 = true := by decide +kernel
@[go_sem] theorem t38_41_i : zeroI Tryd.prog 41 = some (.nilf) := _root_.id (by kernel_rfl)
@[go_sem] theorem t38_41_y : (((Tryd.prog.info? 41).map (·.bytes)).getD 0 ≤ 256) = True := eq_true (by decide +kernel)
@[go_sem] theorem t38_41_b : (bytesP Tryd.prog 41 ≤ 1024) = True := eq_true (by decide +kernel)
@[go_sem] theorem t38_42_h : hasP Tryd.prog 42 = true := by decide +kernel
@[go_sem] theorem t38_42_s : sizeP Tryd.prog 42 = 1 := by decide +kernel
@[go_sem] theorem t38_42_a : aggP Tryd.prog 42 = false := by decide +kernel
@[go_sem] theorem t38_42_z : zeroP Tryd.prog 42 = some [.nilf] := _root_.id (by kernel_rfl)
@[go_sem] theorem t38_42_o : zeroOK Tryd.prog 42 = true := by decide +kernel
@[go_sem] theorem t38_42_i : zeroI Tryd.prog 42 = some (.nilf) := _root_.id (by kernel_rfl)
@[go_sem] theorem t38_42_y : (((Tryd.prog.info? 42).map (·.bytes)).getD 0 ≤ 256) = True := eq_true (by decide +kernel)
@[go_sem] theorem t38_42_b : (bytesP Tryd.prog 42 ≤ 1024) = True := eq_true (by decide +kernel)
@[go_sem] theorem t38_43_h : hasP Tryd.prog 43 = true := by decide +kernel
@[go_sem] theorem t38_43_s : sizeP Tryd.prog 43 = 1 := by decide +kernel
@[go_sem] theorem t38_43_a : aggP Tryd.prog 43 = false := by decide +kernel
@[go_sem] theorem t38_43_z : zeroP Tryd.prog 43 = some [.nilf] := _root_.id (by kernel_rfl)
@[go_sem] theorem t38_43_o : zeroOK Tryd.prog 43 = true := by decide +kernel
@[go_sem] theorem t38_43_i : zeroI Tryd.prog 43 = some (.nilf) := _root_.id (by kernel_rfl)
@[go_sem] theorem t38_43_y : (((Tryd.prog.info? 43).map (·.bytes)).getD 0 ≤ 256) = True := eq_true (by decide +kernel)
@[go_sem] theorem t38_43_b : (bytesP Tryd.prog 43 ≤ 1024) = True := eq_true (by decide +kernel)
@[go_sem] theorem t38_44_h : hasP Tryd.prog 44 = true := by decide +kernel
@[go_sem] theorem t38_44_s : sizeP Tryd.prog 44 = 1 := by decide +kernel
@[go_sem] theorem t38_44_a : aggP Tryd.prog 44 = false := by decide +kernel
@[go_sem] theorem t38_44_z : zeroP Tryd.prog 44 = some [.nilf] := _root_.id (by kernel_rfl)
@[go_sem] theorem t38_44_o : zeroOK Tryd.prog 44 = true := by decide +kernel
@[go_sem] theorem t38_44_i : zeroI Tryd.prog 44 = some (.nilf) := _root_.id (by kernel_rfl)
@[go_sem] theorem t38_44_y : (((Tryd.prog.info? 44).map (·.bytes)).getD 0 ≤ 256) = True := eq_true (by decide +kernel)
@[go_sem] theorem t38_44_b : (bytesP Tryd.prog 44 ≤ 1024) = True := eq_true (by decide +kernel)
@[go_sem] theorem t38_45_h : hasP Tryd.prog 45 = true := by decide +kernel
@[go_sem] theorem t38_45_s : sizeP Tryd.prog 45 = 1 := by decide +kernel
@[go_sem] theorem t38_45_a : aggP Tryd.prog 45 = false := by decide +kernel
@[go_sem] theorem t38_45_z : zeroP Tryd.prog 45 = some [.nilf] := _root_.id (by kernel_rfl)
@[go_sem] theorem t38_45_o : zeroOK Tryd.prog 45 = true := by decide +kernel
@[go_sem] theorem t38_45_i : zeroI Tryd.prog 45 = some (.nilf) := _root_.id (by kernel_rfl)
@[go_sem] theorem t38_45_y : (((Tryd.prog.info? 45).map (·.bytes)).getD 0 ≤ 256) = True := eq_true (by decide +kernel)
@[go_sem] theorem t38_45_b : (bytesP Tryd.prog 45 ≤ 1024) = True := eq_true (by decide +kernel)
@[go_sem] theorem t38_46_h : hasP Tryd.prog 46 = true := by decide +kernel
@[go_sem] theorem t38_46_s : sizeP Tryd.prog 46 = 1 := by decide +kernel
@[go_sem] theorem t38_46_a : aggP Tryd.prog 46 = false := by decide +kernel
@[go_sem] theorem t38_46_z : zeroP Tryd.prog 46 = some [.nilf] := _root_.id (by kernel_rfl)
@[go_sem] theorem t38_46_o : zeroOK Tryd.prog 46 = true := by decide +kernel
@[go_sem] theorem t38_46_i : zeroI Tryd.prog 46 = some (.nilf) := _root_.id (by kernel_rfl)
@[go_sem] theorem t38_46_y : (((Tryd.prog.info? 46).map (·.bytes)).getD 0 ≤ 256) = True := eq_true (by decide +kernel)
@[go_sem] theorem t38_46_b : (bytesP Tryd.prog 46 ≤ 1024) = True := eq_true (by decide +kernel)
@[go_sem] theorem t38_47_h : hasP Tryd.prog 47 = true := by decide +kernel
@[go_sem] theorem t38_47_s : sizeP Tryd.prog 47 = 1 := by decide +kernel
@[go_sem] theorem t38_47_a : aggP Tryd.prog 47 = false := by decide +kernel
@[go_sem] theorem t38_47_z : zeroP Tryd.prog 47 = some [.nils] := _root_.id (by kernel_rfl)
@[go_sem] theorem t38_47_o : zeroOK Tryd.prog 47 = true := by decide +kernel
@[go_sem] theorem t38_47_i : zeroI Tryd.prog 47 = some (.nils) := _root_.id (by kernel_rfl)
@[go_sem] theorem t38_47_y : (((Tryd.prog.info? 47).map (·.bytes)).getD 0 ≤ 256) = True := eq_true (by decide +kernel)
@[go_sem] theorem t38_47_b : (bytesP Tryd.prog 47 ≤ 1024) = True := eq_true (by decide +kernel)
@[go_sem] theorem t38_48_h : hasP Tryd.prog 48 = true := by decide +kernel
@[go_sem] theorem t38_48_s : sizeP Tryd.prog 48 = 1 := by decide +kernel
@[go_sem] theorem t38_48_a : aggP Tryd.prog 48 = false := by decide +kernel
@[go_sem] theorem t38_48_z : zeroP Tryd.prog 48 = some [.nilf] := _root_.id (by kernel_rfl)
@[go_sem] theorem t38_48_o : zeroOK Tryd.prog 48 = true := by decide +kernel
@[go_sem] theorem t38_48_i : zeroI Tryd.prog 48 = some (.nilf) := _root_.id (by kernel_rfl)
@[go_sem] theorem t38_48_y : (((Tryd.prog.info? 48).map (·.bytes)).getD 0 ≤ 256) = True := eq_true (by decide +kernel)
@[go_sem] theorem t38_48_b : (bytesP Tryd.prog 48 ≤ 1024) = True := eq_true (by decide +kernel)
@[go_sem] theorem t38_49_h : hasP Tryd.prog 49 = true := by decide +kernel
@[go_sem] theorem t38_49_s : sizeP Tryd.prog 49 = 1 := by decide +kernel
@[go_sem] theorem t38_49_a : aggP Tryd.prog 49 = false := by decide +kernel
@[go_sem] theorem t38_49_z : zeroP Tryd.prog 49 = some [.nilf] := _root_.id (by kernel_rfl)
@[go_sem] theorem t38_49_o : zeroOK Tryd.prog 49 = true := by decide +kernel
@[go_sem] theorem t38_49_i : zeroI Tryd.prog 49 = some (.nilf) := _root_.id (by kernel_rfl)
@[go_sem] theorem t38_49_y : (((Tryd.prog.info? 49).map (·.bytes)).getD 0 ≤ 256) = True := eq_true (by decide +kernel)
@[go_sem] theorem t38_49_b : (bytesP Tryd.prog 49 ≤ 1024) = True := eq_true (by decide +kernel)
@[go_sem] theorem t38_50_h : hasP Tryd.prog 50 = true := by decide +kernel
@[go_sem] theorem t38_50_s : sizeP Tryd.prog 50 = 1 := by decide +kernel
@[go_sem] theorem t38_50_a : aggP Tryd.prog 50 = false := by decide +kernel
@[go_sem] theorem t38_50_z : zeroP Tryd.prog 50 = some [.nilf] := _root_.id (by kernel_rfl)
@[go_sem] theorem t38_50_o : zeroOK Tryd.prog 50 = true := by decide +kernel
@[go_sem] theorem t38_50_i : zeroI Tryd.prog 50 = some (.nilf) := _root_.id (by kernel_rfl)
@[go_sem] theorem t38_50_y : (((Tryd.prog.info? 50).map (·.bytes)).getD 0 ≤ 256) = True := eq_true (by decide +kernel)
@[go_sem] theorem t38_50_b : (bytesP Tryd.prog 50 ≤ 1024) = True := eq_true (by decide +kernel)
@[go_sem] theorem t38_51_h : hasP Tryd.prog 51 = true := by decide +kernel
@[go_sem] theorem t38_51_s : sizeP Tryd.prog 51 = 6 := by decide +kernel
@[go_sem] theorem t38_51_a : aggP Tryd.prog 51 = true := by decide +kernel
@[go_sem] theorem t38_51_z : zeroP Tryd.prog 51 = some [.int .i64 0, .int .i64 0, .int .i64 0, .int .i64 0, .int .i64 0, .int .i64 0] := _root_.id (by kernel_rfl)
@[go_sem] theorem t38_51_o : zeroOK Tryd.prog 51 = true := by decide +kernel
@[go_sem] theorem t38_51_i : zeroI Tryd.prog 51 = some (.agg [.int .i64 0, .int .i64 0, .int .i64 0, .int .i64 0, .int .i64 0, .int .i64 0]) := _root_.id (by kernel_rfl)
@[go_sem] theorem t38_51_y : (((Tryd.prog.info? 51).map (·.bytes)).getD 0 ≤ 256) = True := eq_true (by decide +kernel)
@[go_sem] theorem t38_51_b : (bytesP Tryd.prog 51 ≤ 1024) = True := eq_true (by decide +kernel)
@[go_sem] theorem t38_51_f : flatP Tryd.prog 51 = some [.int .i64, .int .i64, .int .i64, .int .i64, .int .i64, .int .i64] := flat_of (by decide +kernel)
@[go_sem] theorem t38_51_k : keyK Tryd.prog 51 = some [.int .i64, .int .i64, .int .i64, .int .i64, .int .i64, .int .i64] := key_of (by decide +kernel)
@[go_sem] theorem t38_52_h : hasP Tryd.prog 52 = true := by decide +kernel
@[go_sem] theorem t38_52_s : sizeP Tryd.prog 52 = 6 := by decide +kernel
@[go_sem] theorem t38_52_a : aggP Tryd.prog 52 = true := by decide +kernel
@[go_sem] theorem t38_52_z : zeroP Tryd.prog 52 = some [.int .i64 0, .int .i64 0, .int .i64 0, .int .i64 0, .int .i64 0, .int .i64 0] := _root_.id (by kernel_rfl)
@[go_sem] theorem t38_52_o : zeroOK Tryd.prog 52 = true := by decide +kernel
@[go_sem] theorem t38_52_i : zeroI Tryd.prog 52 = some (.agg [.int .i64 0, .int .i64 0, .int .i64 0, .int .i64 0, .int .i64 0, .int .i64 0]) := _root_.id (by kernel_rfl)
@[go_sem] theorem t38_52_y : (((Tryd.prog.info? 52).map (·.bytes)).getD 0 ≤ 256) = True := eq_true (by decide +kernel)
@[go_sem] theorem t38_52_b : (bytesP Tryd.prog 52 ≤ 1024) = True := eq_true (by decide +kernel)
@[go_sem] theorem t38_52_f : flatP Tryd.prog 52 = some [.int .i64, .int .i64, .int .i64, .int .i64, .int .i64, .int .i64] := flat_of (by decide +kernel)
@[go_sem] theorem t38_52_k : keyK Tryd.prog 52 = some [.int .i64, .int .i64, .int .i64, .int .i64, .int .i64, .int .i64] := key_of (by decide +kernel)
@[go_sem] theorem t38_53_h : hasP Tryd.prog 53 = true := by decide +kernel
@[go_sem] theorem t38_53_s : sizeP Tryd.prog 53 = 1 := by decide +kernel
@[go_sem] theorem t38_53_a : aggP Tryd.prog 53 = false := by decide +kernel
@[go_sem] theorem t38_53_z : zeroP Tryd.prog 53 = some [.nils] := _root_.id (by kernel_rfl)
@[go_sem] theorem t38_53_o : zeroOK Tryd.prog 53 = true := by decide +kernel
@[go_sem] theorem t38_53_i : zeroI Tryd.prog 53 = some (.nils) := _root_.id (by kernel_rfl)
@[go_sem] theorem t38_53_y : (((Tryd.prog.info? 53).map (·.bytes)).getD 0 ≤ 256) = True := eq_true (by decide +kernel)
@[go_sem] theorem t38_53_b : (bytesP Tryd.prog 53 ≤ 1024) = True := eq_true (by decide +kernel)
@[go_sem] theorem t38_54_h : hasP Tryd.prog 54 = true := by decide +kernel
@[go_sem] theorem t38_54_s : sizeP Tryd.prog 54 = 1 := by decide +kernel
@[go_sem] theorem t38_54_a : aggP Tryd.prog 54 = false := by decide +kernel
@[go_sem] theorem t38_54_z : zeroP Tryd.prog 54 = some [.nils] := _root_.id (by kernel_rfl)
@[go_sem] theorem t38_54_o : zeroOK Tryd.prog 54 = true := by decide +kernel
@[go_sem] theorem t38_54_i : zeroI Tryd.prog 54 = some (.nils) := _root_.id (by kernel_rfl)
@[go_sem] theorem t38_54_y : (((Tryd.prog.info? 54).map (·.bytes)).getD 0 ≤ 256) = True := eq_true (by decide +kernel)
@[go_sem] theorem t38_54_b : (bytesP Tryd.prog 54 ≤ 1024) = True := eq_true (by decide +kernel)
@[go_sem] theorem t38_56_h : hasP Tryd.prog 56 = true := by decide +kernel
@[go_sem] theorem t38_56_s : sizeP Tryd.prog 56 = 1 := by decide +kernel
@[go_sem] theorem t38_56_a : aggP Tryd.prog 56 = false := by decide +kernel
@[go_sem] theorem t38_56_z : zeroP Tryd.prog 56 = some [.nilf] := _root_.id (by kernel_rfl)
@[go_sem] theorem t38_56_o : zeroOK Tryd.prog 56 = true := by decide +kernel
@[go_sem] theorem t38_56_i : zeroI Tryd.prog 56 = some (.nilf) := _root_.id (by kernel_rfl)
@[go_sem] theorem t38_56_y : (((Tryd.prog.info? 56).map (·.bytes)).getD 0 ≤ 256) = True := eq_true (by decide +kernel)
@[go_sem] theorem t38_56_b : (bytesP Tryd.prog 56 ≤ 1024) = True := eq_true (by decide +kernel)
@[go_sem] theorem t38_57_h : hasP Tryd.prog 57 = true := by decide +kernel
@[go_sem] theorem t38_57_s : sizeP Tryd.prog 57 = 1 := by decide +kernel
@[go_sem] theorem t38_57_a : aggP Tryd.prog 57 = false := by decide +kernel
@[go_sem] theorem t38_57_z : zeroP Tryd.prog 57 = some [.nilf] := _root_.id (by kernel_rfl)
@[go_sem] theorem t38_57_o : zeroOK Tryd.prog 57 = true := by decide +kernel
@[go_sem] theorem t38_57_i : zeroI Tryd.prog 57 = some (.nilf) := _root_.id (by kernel_rfl)
@[go_sem] theorem t38_57_y : (((Tryd.prog.info? 57).map (·.bytes)).getD 0 ≤ 256) = True := eq_true (by decide +kernel)
@[go_sem] theorem t38_57_b : (bytesP Tryd.prog 57 ≤ 1024) = True := eq_true (by decide +kernel)
@[go_sem] theorem t38_58_h : hasP Tryd.prog 58 = true := by decide +kernel
@[go_sem] theorem t38_58_s : sizeP Tryd.prog 58 = 1 := by decide +kernel
@[go_sem] theorem t38_58_a : aggP Tryd.prog 58 = false := by decide +kernel
@[go_sem] theorem t38_58_z : zeroP Tryd.prog 58 = some [.int .i8 0] := _root_.id (by kernel_rfl)
@[go_sem] theorem t38_58_o : zeroOK Tryd.prog 58 = true := by decide +kernel
@[go_sem] theorem t38_58_i : zeroI Tryd.prog 58 = some (.int .i8 0) := _root_.id (by kernel_rfl)
@[go_sem] theorem t38_58_y : (((Tryd.prog.info? 58).map (·.bytes)).getD 0 ≤ 256) = True := eq_true (by decide +kernel)
@[go_sem] theorem t38_58_b : (bytesP Tryd.prog 58 ≤ 1024) = True := eq_true (by decide +kernel)
@[go_sem] theorem t38_58_k : keyK Tryd.prog 58 = some [.int .i8] := key_of (by decide +kernel)
@[go_sem] theorem t38_59_h : hasP Tryd.prog 59 = true := by decide +kernel
@[go_sem] theorem t38_59_s : sizeP Tryd.prog 59 = 4 := by decide +kernel
@[go_sem] theorem t38_59_a : aggP Tryd.prog 59 = true := by decide +kernel
@[go_sem] theorem t38_59_z : zeroP Tryd.prog 59 = some [.int .u8 0, .int .u8 0, .int .u8 0, .int .i8 0] := _root_.id (by kernel_rfl)
@[go_sem] theorem t38_59_o : zeroOK Tryd.prog 59 = true := by decide +kernel
@[go_sem] theorem t38_59_i : zeroI Tryd.prog 59 = some (.agg [.int .u8 0, .int .u8 0, .int .u8 0, .int .i8 0]) := _root_.id (by kernel_rfl)
@[go_sem] theorem t38_59_y : (((Tryd.prog.info? 59).map (·.bytes)).getD 0 ≤ 256) = True := eq_true (by decide +kernel)
@[go_sem] theorem t38_59_b : (bytesP Tryd.prog 59 ≤ 1024) = True := eq_true (by decide +kernel)
@[go_sem] theorem t38_59_f : flatP Tryd.prog 59 = some [.int .u8, .int .u8, .int .u8, .int .i8] := flat_of (by decide +kernel)
@[go_sem] theorem t38_59_k : keyK Tryd.prog 59 = some [.int .u8, .int .u8, .int .u8, .int .i8] := key_of (by decide +kernel)
@[go_sem] theorem t38_60_h : hasP Tryd.prog 60 = true := by decide +kernel
@[go_sem] theorem t38_60_s : sizeP Tryd.prog 60 = 4 := by decide +kernel
@[go_sem] theorem t38_60_a : aggP Tryd.prog 60 = true := by decide +kernel
@[go_sem] theorem t38_60_z : zeroP Tryd.prog 60 = some [.int .u8 0, .int .u8 0, .int .u8 0, .int .i8 0] := _root_.id (by kernel_rfl)
@[go_sem] theorem t38_60_o : zeroOK Tryd.prog 60 = true := by decide +kernel
@[go_sem] theorem t38_60_i : zeroI Tryd.prog 60 = some (.agg [.int .u8 0, .int .u8 0, .int .u8 0, .int .i8 0]) := _root_.id (by kernel_rfl)
@[go_sem] theorem t38_60_y : (((Tryd.prog.info? 60).map (·.bytes)).getD 0 ≤ 256) = True := eq_true (by decide +kernel)
@[go_sem] theorem t38_60_b : (bytesP Tryd.prog 60 ≤ 1024) = True := eq_true (by decide +kernel)
@[go_sem] theorem t38_60_f : flatP Tryd.prog 60 = some [.int .u8, .int .u8, .int .u8, .int .i8] := flat_of (by decide +kernel)
@[go_sem] theorem t38_60_k : keyK Tryd.prog 60 = some [.int .u8, .int .u8, .int .u8, .int .i8] := key_of (by decide +kernel)
@[go_sem] theorem t38_61_h : hasP Tryd.prog 61 = true := by decide +kernel
@[go_sem] theorem t38_61_s : sizeP Tryd.prog 61 = 1 := by decide +kernel
@[go_sem] theorem t38_61_a : aggP Tryd.prog 61 = false := by decide +kernel
@[go_sem] theorem t38_61_z : zeroP Tryd.prog 61 = some [.nilf] := _root_.id (by kernel_rfl)
@[go_sem] theorem t38_61_o : zeroOK Tryd.prog 61 = true := by decide +kernel
@[go_sem] theorem t38_61_i : zeroI Tryd.prog 61 = some (.nilf) := _root_.id (by kernel_rfl)
@[go_sem] theorem t38_61_y : (((Tryd.prog.info? 61).map (·.bytes)).getD 0 ≤ 256) = True := eq_true (by decide +kernel)
@[go_sem] theorem t38_61_b : (bytesP Tryd.prog 61 ≤ 1024) = True := eq_true (by decide +kernel)
@[go_sem] theorem t38_62_h : hasP Tryd.prog 62 = true := by decide +kernel
@[go_sem] theorem t38_62_s : sizeP Tryd.prog 62 = 1 := by decide +kernel
@[go_sem] theorem t38_62_a : aggP Tryd.prog 62 = false := by decide +kernel
@[go_sem] theorem t38_62_z : zeroP Tryd.prog 62 = some [.nils] := _root_.id (by kernel_rfl)
@[go_sem] theorem t38_62_o : zeroOK Tryd.prog 62 = true := by decide +kernel
@[go_sem] theorem t38_62_i : zeroI Tryd.prog 62 = some (.nils) := _root_.id (by kernel_rfl)
@[go_sem] theorem t38_62_y : (((Tryd.prog.info? 62).map (·.bytes)).getD 0 ≤ 256) = True := eq_true (by decide +kernel)
@[go_sem] theorem t38_62_b : (bytesP Tryd.prog 62 ≤ 1024) = True := eq_true (by decide +kernel)
@[go_sem] theorem t38_64_h : hasP Tryd.prog 64 = true := by decide +kernel
@[go_sem] theorem t38_64_s : sizeP Tryd.prog 64 = 1 := by decide +kernel
@[go_sem] theorem t38_64_a : aggP Tryd.prog 64 = false := by decide +kernel
@[go_sem] theorem t38_64_z : zeroP Tryd.prog 64 = some [.nilf] := _root_.id (by kernel_rfl)
@[go_sem] theorem t38_64_o : zeroOK Tryd.prog 64 = true := by decide +kernel
@[go_sem] theorem t38_64_i : zeroI Tryd.prog 64 = some (.nilf) := _root_.id (by kernel_rfl)
@[go_sem] theorem t38_64_y : (((Tryd.prog.info? 64).map (·.bytes)).getD 0 ≤ 256) = True := eq_true (by decide +kernel)
@[go_sem] theorem t38_64_b : (bytesP Tryd.prog 64 ≤ 1024) = True := eq_true (by decide +kernel)
@[go_sem] theorem t38_65_h : hasP Tryd.prog 65 = true := by decide +kernel
@[go_sem] theorem t38_65_s : sizeP Tryd.prog 65 = 1 := by decide +kernel
@[go_sem] theorem t38_65_a : aggP Tryd.prog 65 = false := by decide +kernel
@[go_sem] theorem t38_65_z : zeroP Tryd.prog 65 = some [.nilf] := _root_.id (by kernel_rfl)
@[go_sem] theorem t38_65_o : zeroOK Tryd.prog 65 = true := by decide +kernel
@[go_sem] theorem t38_65_i : zeroI Tryd.prog 65 = some (.nilf) := _root_.id (by kernel_rfl)
@[go_sem] theorem t38_65_y : (((Tryd.prog.info? 65).map (·.bytes)).getD 0 ≤ 256) = True := eq_true (by decide +kernel)
@[go_sem] theorem t38_65_b : (bytesP Tryd.prog 65 ≤ 1024) = True := eq_true (by decide +kernel)
@[go_sem] theorem t38_66_h : hasP Tryd.prog 66 = true := by decide +kernel
@[go_sem] theorem t38_66_s : sizeP Tryd.prog 66 = 1 := by decide +kernel
@[go_sem] theorem t38_66_a : aggP Tryd.prog 66 = false := by decide +kernel
@[go_sem] theorem t38_66_z : zeroP Tryd.prog 66 = some [.nilf] := _root_.id (by kernel_rfl)
@[go_sem] theorem t38_66_o : zeroOK Tryd.prog 66 = true := by decide +kernel
@[go_sem] theorem t38_66_i : zeroI Tryd.prog 66 = some (.nilf) := _root_.id (by kernel_rfl)
@[go_sem] theorem t38_66_y : (((Tryd.prog.info? 66).map (·.bytes)).getD 0 ≤ 256) = True := eq_true (by decide +kernel)
@[go_sem] theorem t38_66_b : (bytesP Tryd.prog 66 ≤ 1024) = True := eq_true (by decide +kernel)
@[go_sem] theorem t38_67_h : hasP Tryd.prog 67 = true := by decide +kernel
@[go_sem] theorem t38_67_s : sizeP Tryd.prog 67 = 1 := by decide +kernel
@[go_sem] theorem t38_67_a : aggP Tryd.prog 67 = false := by decide +kernel
@[go_sem] theorem t38_67_z : zeroP Tryd.prog 67 = some [.nilf] := _root_.id (by kernel_rfl)
@[go_sem] theorem t38_67_o : zeroOK Tryd.prog 67 = true := by decide +kernel
@[go_sem] theorem t38_67_i : zeroI Tryd.prog 67 = some (.nilf) := _root_.id (by kernel_rfl)
@[go_sem] theorem t38_67_y : (((Tryd.prog.info? 67).map (·.bytes)).getD 0 ≤ 256) = True := eq_true (by decide +kernel)
@[go_sem] theorem t38_67_b : (bytesP Tryd.prog 67 ≤ 1024) = True := eq_true (by decide +kernel)
@[go_sem] theorem t38_68_h : hasP Tryd.prog 68 = true := by decide +kernel
@[go_sem] theorem t38_68_s : sizeP Tryd.prog 68 = 1 := by decide +kernel
@[go_sem] theorem t38_68_a : aggP Tryd.prog 68 = false := by decide +kernel
@[go_sem] theorem t38_68_z : zeroP Tryd.prog 68 = some [.nilf] := _root_.id (by kernel_rfl)
@[go_sem] theorem t38_68_o : zeroOK Tryd.prog 68 = true := by decide +kernel
@[go_sem] theorem t38_68_i : zeroI Tryd.prog 68 = some (.nilf) := _root_.id (by kernel_rfl)
@[go_sem] theorem t38_68_y : (((Tryd.prog.info? 68).map (·.bytes)).getD 0 ≤ 256) = True := eq_true (by decide +kernel)
@[go_sem] theorem t38_68_b : (bytesP Tryd.prog 68 ≤ 1024) = True := eq_true (by decide +kernel)
@[go_sem] theorem t38_69_h : hasP Tryd.prog 69 = true := by decide +kernel
@[go_sem] theorem t38_69_s : sizeP Tryd.prog 69 = 1 := by decide +kernel
@[go_sem] theorem t38_69_a : aggP Tryd.prog 69 = false := by decide +kernel
@[go_sem] theorem t38_69_z : zeroP Tryd.prog 69 = some [.nilf] := _root_.id (by kernel_rfl)
@[go_sem] theorem t38_69_o : zeroOK Tryd.prog 69 = true := by decide +kernel
@[go_sem] theorem t38_69_i : zeroI Tryd.prog 69 = some (.nilf) := _root_.id (by kernel_rfl)
@[go_sem] theorem t38_69_y : (((Tryd.prog.info? 69).map (·.bytes)).getD 0 ≤ 256) = True := eq_true (by decide +kernel)
@[go_sem] theorem t38_69_b : (bytesP Tryd.prog 69 ≤ 1024) = True := eq_true (by decide +kernel)
@[go_sem] theorem t38_70_h : hasP Tryd.prog 70 = true := by decide +kernel
@[go_sem] theorem t38_70_s : sizeP Tryd.prog 70 = 1 := by decide +kernel
@[go_sem] theorem t38_70_a : aggP Tryd.prog 70 = false := by decide +kernel
@[go_sem] theorem t38_70_z : zeroP Tryd.prog 70 = some [.nilf] := _root_.id (by kernel_rfl)
@[go_sem] theorem t38_70_o : zeroOK Tryd.prog 70 = true := by decide +kernel
@[go_sem] theorem t38_70_i : zeroI Tryd.prog 70 = some (.nilf) := _root_.id (by kernel_rfl)
@[go_sem] theorem t38_70_y : (((Tryd.prog.info? 70).map (·.bytes)).getD 0 ≤ 256) = True := eq_true (by decide +kernel)
@[go_sem] theorem t38_70_b : (bytesP Tryd.prog 70 ≤ 1024) = True := eq_true (by decide +kernel)
@[go_sem] theorem t38_71_h : hasP Tryd.prog 71 = true := by decide +kernel
@[go_sem] theorem t38_71_s : sizeP Tryd.prog 71 = 1 := by decide +kernel
@[go_sem] theorem t38_71_a : aggP Tryd.prog 71 = false := by decide +kernel
@[go_sem] theorem t38_71_z : zeroP Tryd.prog 71 = some [.nilf] := _root_.id (by kernel_rfl)
@[go_sem] theorem t38_71_o : zeroOK Tryd.prog 71 = true := by decide +kernel
@[go_sem] theorem t38_71_i : zeroI Tryd.prog 71 = some (.nilf) := _root_.id (by kernel_rfl)
@[go_sem] theorem t38_71_y : (((Tryd.prog.info? 71).map (·.bytes)).getD 0 ≤ 256) = True := eq_true (by decide +kernel)
@[go_sem] theorem t38_71_b : (bytesP Tryd.prog 71 ≤ 1024) = True := eq_true (by decide +kernel)
@[go_sem] theorem t38_72_h : hasP Tryd.prog 72 = true := by decide +kernel
@[go_sem] theorem t38_72_s : sizeP Tryd.prog 72 = 1 := by decide +kernel
@[go_sem] theorem t38_72_a : aggP Tryd.prog 72 = false := by decide +kernel
@[go_sem] theorem t38_72_z : zeroP Tryd.prog 72 = some [.nilf] := _root_.id (by kernel_rfl)
@[go_sem] theorem t38_72_o : zeroOK Tryd.prog 72 = true := by decide +kernel
@[go_sem] theorem t38_72_i : zeroI Tryd.prog 72 = some (.nilf) := _root_.id (by kernel_rfl)
@[go_sem] theorem t38_72_y : (((Tryd.prog.info? 72).map (·.bytes)).getD 0 ≤ 256) = True := eq_true (by decide +kernel)
@[go_sem] theorem t38_72_b : (bytesP Tryd.prog 72 ≤ 1024) = True := eq_true (by decide +kernel)
@[go_sem] theorem t38_73_h : hasP Tryd.prog 73 = true := by decide +kernel
@[go_sem] theorem t38_73_s : sizeP Tryd.prog 73 = 1 := by decide +kernel
@[go_sem] theorem t38_73_a : aggP Tryd.prog 73 = false := by decide +kernel
@[go_sem] theorem t38_73_z : zeroP Tryd.prog 73 = some [.nilm] := _root_.id (by kernel_rfl)
@[go_sem] theorem t38_73_o : zeroOK Tryd.prog 73 = true := by decide +kernel
@[go_sem] theorem t38_73_i : zeroI Tryd.prog 73 = some (.nilm) := _root_.id (by kernel_rfl)
@[go_sem] theorem t38_73_y : (((Tryd.prog.info? 73).map (·.bytes)).getD 0 ≤ 256) = True := eq_true (by decide +kernel)
@[go_sem] theorem t38_73_b : (bytesP Tryd.prog 73 ≤ 1024) = True := eq_true (by decide +kernel)
@[go_sem] theorem t38_74_h : hasP Tryd.prog 74 = true := by decide +kernel
@[go_sem] theorem t38_74_s : sizeP Tryd.prog 74 = 1 := by decide +kernel
@[go_sem] theorem t38_74_a : aggP Tryd.prog 74 = false := by decide +kernel
@[go_sem] theorem t38_74_z : zeroP Tryd.prog 74 = some [.nilf] := _root_.id (by kernel_rfl)
@[go_sem] theorem t38_74_o : zeroOK Tryd.prog 74 = true := by decide +kernel
@[go_sem] theorem t38_74_i : zeroI Tryd.prog 74 = some (.nilf) := _root_.id (by kernel_rfl)
@[go_sem] theorem t38_74_y : (((Tryd.prog.info? 74).map (·.bytes)).getD 0 ≤ 256) = True := eq_true (by decide +kernel)
@[go_sem] theorem t38_74_b : (bytesP Tryd.prog 74 ≤ 1024) = True := eq_true (by decide +kernel)
@[go_sem] theorem t38_75_h : hasP Tryd.prog 75 = true := by decide +kernel
@[go_sem] theorem t38_75_s : sizeP Tryd.prog 75 = 1 := by decide +kernel
@[go_sem] theorem t38_75_a : aggP Tryd.prog 75 = false := by decide +kernel
@[go_sem] theorem t38_75_z : zeroP Tryd.prog 75 = some [.nilf] := _root_.id (by kernel_rfl)
@[go_sem] theorem t38_75_o : zeroOK Tryd.prog 75 = true := by decide +kernel
@[go_sem] theorem t38_75_i : zeroI Tryd.prog 75 = some (.nilf) := _root_.id (by kernel_rfl)
@[go_sem] theorem t38_75_y : (((Tryd.prog.info? 75).map (·.bytes)).getD 0 ≤ 256) = True := eq_true (by decide +kernel)
@[go_sem] theorem t38_75_b : (bytesP Tryd.prog 75 ≤ 1024) = True := eq_true (by decide +kernel)
@[go_sem] theorem t38_76_h : hasP Tryd.prog 76 = true := by decide +kernel
@[go_sem] theorem t38_76_s : sizeP Tryd.prog 76 = 1 := by decide +kernel
@[go_sem] theorem t38_76_a : aggP Tryd.prog 76 = false := by decide +kernel
@[go_sem] theorem t38_76_z : zeroP Tryd.prog 76 = some [.nilf] := _root_.id (by kernel_rfl)
@[go_sem] theorem t38_76_o : zeroOK Tryd.prog 76 = true := by decide +kernel
@[go_sem] theorem t38_76_i : zeroI Tryd.prog 76 = some (.nilf) := _root_.id (by kernel_rfl)
@[go_sem] theorem t38_76_y : (((Tryd.prog.info? 76).map (·.bytes)).getD 0 ≤ 256) = True := eq_true (by decide +kernel)
@[go_sem] theorem t38_76_b : (bytesP Tryd.prog 76 ≤ 1024) = True := eq_true (by decide +kernel)
@[go_sem] theorem t38_78_h : hasP Tryd.prog 78 = true := by decide +kernel
@[go_sem] theorem t38_78_s : sizeP Tryd.prog 78 = 1 := by decide +kernel
@[go_sem] theorem t38_78_a : aggP Tryd.prog 78 = false := by decide +kernel
@[go_sem] theorem t38_78_z : zeroP Tryd.prog 78 = some [.nilf] := _root_.id (by kernel_rfl)
@[go_sem] theorem t38_78_o : zeroOK Tryd.prog 78 = true := by decide +kernel
@[go_sem] theorem t38_78_i : zeroI Tryd.prog 78 = some (.nilf) := _root_.id (by kernel_rfl)
@[go_sem] theorem t38_78_y : (((Tryd.prog.info? 78).map (·.bytes)).getD 0 ≤ 256) = True := eq_true (by decide +kernel)
@[go_sem] theorem t38_78_b : (bytesP Tryd.prog 78 ≤ 1024) = True := eq_true (by decide +kernel)
@[go_sem] theorem t38_79_h : hasP Tryd.prog 79 = true := by decide +kernel
@[go_sem] theorem t38_79_s : sizeP Tryd.prog 79 = 1 := by decide +kernel
@[go_sem] theorem t38_79_a : aggP Tryd.prog 79 = false := by decide +kernel
@[go_sem] theorem t38_79_z : zeroP Tryd.prog 79 = some [.nilf] := _root_.id (by kernel_rfl)
@[go_sem] theorem t38_79_o : zeroOK Tryd.prog 79 = true := by decide +kernel
@[go_sem] theorem t38_79_i : zeroI Tryd.prog 79 = some (.nilf) := _root_.id (by kernel_rfl)
@[go_sem] theorem t38_79_y : (((Tryd.prog.info? 79).map (·.bytes)).getD 0 ≤ 256) = True := eq_true (by decide +kernel)
@[go_sem] theorem t38_79_b : (bytesP Tryd.prog 79 ≤ 1024) = True := eq_true (by decide +kernel)
@[go_sem] theorem t38_80_h : hasP Tryd.prog 80 = true := by decide +kernel
@[go_sem] theorem t38_80_s : sizeP Tryd.prog 80 = 1 := by decide +kernel
@[go_sem] theorem t38_80_a : aggP Tryd.prog 80 = false := by decide +kernel
@[go_sem] theorem t38_80_z : zeroP Tryd.prog 80 = some [.nilf] := _root_.id (by kernel_rfl)
@[go_sem] theorem t38_80_o : zeroOK Tryd.prog 80 = true := by decide +kernel
@[go_sem] theorem t38_80_i : zeroI Tryd.prog 80 = some (.nilf) := _root_.id (by kernel_rfl)
@[go_sem] theorem t38_80_y : (((Tryd.prog.info? 80).map (·.bytes)).getD 0 ≤ 256) = True := eq_true (by decide +kernel)
@[go_sem] theorem t38_80_b : (bytesP Tryd.prog 80 ≤ 1024) = True := eq_true (by decide +kernel)
@[go_sem] theorem t38_81_h : hasP Tryd.prog 81 = true := by decide +kernel
@[go_sem] theorem t38_81_s : sizeP Tryd.prog 81 = 6 := by decide +kernel
@[go_sem] theorem t38_81_a : aggP Tryd.prog 81 = true := by decide +kernel
@[go_sem] theorem t38_81_z : zeroP Tryd.prog 81 = some [.int .i64 0, .int .i64 0, .int .i64 0, .int .i64 0, .int .i64 0, .int .i64 0] := _root_.id (by kernel_rfl)
@[go_sem] theorem t38_81_o : zeroOK Tryd.prog 81 = true := by decide +kernel
@[go_sem] theorem t38_81_i : zeroI Tryd.prog 81 = some (.agg [.int .i64 0, .int .i64 0, .int .i64 0, .int .i64 0, .int .i64 0, .int .i64 0]) := _root_.id (by kernel_rfl)
@[go_sem] theorem t38_81_y : (((Tryd.prog.info? 81).map (·.bytes)).getD 0 ≤ 256) = True := eq_true (by decide +kernel)
@[go_sem] theorem t38_81_b : (bytesP Tryd.prog 81 ≤ 1024) = True := eq_true (by decide +kernel)
@[go_sem] theorem t38_81_f : flatP Tryd.prog 81 = some [.int .i64, .int .i64, .int .i64, .int .i64, .int .i64, .int .i64] := flat_of (by decide +kernel)
@[go_sem] theorem t38_81_k : keyK Tryd.prog 81 = some [.int .i64, .int .i64, .int .i64, .int .i64, .int .i64, .int .i64] := key_of (by decide +kernel)
@[go_sem] theorem t38_82_h : hasP Tryd.prog 82 = true := by decide +kernel
@[go_sem] theorem t38_82_s : sizeP Tryd.prog 82 = 1 := by decide +kernel
@[go_sem] theorem t38_82_a : aggP Tryd.prog 82 = false := by decide +kernel
@[go_sem] theorem t38_82_z : zeroP Tryd.prog 82 = some [.nils] := _root_.id (by kernel_rfl)
@[go_sem] theorem t38_82_o : zeroOK Tryd.prog 82 = true := by decide +kernel
@[go_sem] theorem t38_82_i : zeroI Tryd.prog 82 = some (.nils) := _root_.id (by kernel_rfl)
@[go_sem] theorem t38_82_y : (((Tryd.prog.info? 82).map (·.bytes)).getD 0 ≤ 256) = True := eq_true (by decide +kernel)
@[go_sem] theorem t38_82_b : (bytesP Tryd.prog 82 ≤ 1024) = True := eq_true (by decide +kernel)
@[go_sem] theorem t38_83_h : hasP Tryd.prog 83 = true := by decide +kernel
@[go_sem] theorem t38_83_s : sizeP Tryd.prog 83 = 1 := by decide +kernel
@[go_sem] theorem t38_83_a : aggP Tryd.prog 83 = false := by decide +kernel
@[go_sem] theorem t38_83_z : zeroP Tryd.prog 83 = some [.nilf] := _root_.id (by kernel_rfl)
@[go_sem] theorem t38_83_o : zeroOK Tryd.prog 83 = true := by decide +kernel
@[go_sem] theorem t38_83_i : zeroI Tryd.prog 83 = some (.nilf) := _root_.id (by kernel_rfl)
@[go_sem] theorem t38_83_y : (((Tryd.prog.info? 83).map (·.bytes)).getD 0 ≤ 256) = True := eq_true (by decide +kernel)
@[go_sem] theorem t38_83_b : (bytesP Tryd.prog 83 ≤ 1024) = True := eq_true (by decide +kernel)
@[go_sem] theorem t38_84_h : hasP Tryd.prog 84 = true := by decide +kernel
@[go_sem] theorem t38_84_s : sizeP Tryd.prog 84 = 1 := by decide +kernel
@[go_sem] theorem t38_84_a : aggP Tryd.prog 84 = false := by decide +kernel
@[go_sem] theorem t38_84_z : zeroP Tryd.prog 84 = some [.nilp] := _root_.id (by kernel_rfl)
@[go_sem] theorem t38_84_o : zeroOK Tryd.prog 84 = true := by decide +kernel
@[go_sem] theorem t38_84_i : zeroI Tryd.prog 84 = some (.nilp) := _root_.id (by kernel_rfl)
@[go_sem] theorem t38_84_y : (((Tryd.prog.info? 84).map (·.bytes)).getD 0 ≤ 256) = True := eq_true (by decide +kernel)
@[go_sem] theorem t38_84_b : (bytesP Tryd.prog 84 ≤ 1024) = True := eq_true (by decide +kernel)
@[go_sem] theorem t38_85_h : hasP Tryd.prog 85 = true := by decide +kernel
@[go_sem] theorem t38_85_s : sizeP Tryd.prog 85 = 1 := by decide +kernel
@[go_sem] theorem t38_85_a : aggP Tryd.prog 85 = false := by decide +kernel
@[go_sem] theorem t38_85_z : zeroP Tryd.prog 85 = some [.nilf] := _root_.id (by kernel_rfl)
@[go_sem] theorem t38_85_o : zeroOK Tryd.prog 85 = true := by decide +kernel
@[go_sem] theorem t38_85_i : zeroI Tryd.prog 85 = some (.nilf) := _root_.id (by kernel_rfl)
@[go_sem] theorem t38_85_y : (((Tryd.prog.info? 85).map (·.bytes)).getD 0 ≤ 256) = True := eq_true (by decide +kernel)
@[go_sem] theorem t38_85_b : (bytesP Tryd.prog 85 ≤ 1024) = True := eq_true (by decide +kernel)
@[go_sem] theorem t38_86_h : hasP Tryd.prog 86 = true := by decide +kernel
@[go_sem] theorem t38_86_s : sizeP Tryd.prog 86 = 1 := by decide +kernel
@[go_sem] theorem t38_86_a : aggP Tryd.prog 86 = false := by decide +kernel
@[go_sem] theorem t38_86_z : zeroP Tryd.prog 86 = some [.nilm] := _root_.id (by kernel_rfl)
@[go_sem] theorem t38_86_o : zeroOK Tryd.prog 86 = true := by decide +kernel
@[go_sem] theorem t38_86_i : zeroI Tryd.prog 86 = some (.nilm) := _root_.id (by kernel_rfl)
@[go_sem] theorem t38_86_y : (((Tryd.prog.info? 86).map (·.bytes)).getD 0 ≤ 256) = True := eq_true (by decide +kernel)
@[go_sem] theorem t38_86_b : (bytesP Tryd.prog 86 ≤ 1024) = True := eq_true (by decide +kernel)
@[go_sem] theorem t38_87_h : hasP Tryd.prog 87 = true := by decide +kernel
@[go_sem] theorem t38_87_s : sizeP Tryd.prog 87 = 3 := by decide +kernel
@[go_sem] theorem t38_87_a : aggP Tryd.prog 87 = true := by decide +kernel
@[go_sem] theorem t38_87_z : zeroP Tryd.prog 87 = some [.int .i64 0, .nils, .nilm] := _root_.id (by kernel_rfl)
@[go_sem] theorem t38_87_o : zeroOK Tryd.prog 87 = true := by decide +kernel
@[go_sem] theorem t38_87_i : zeroI Tryd.prog 87 = some (.agg [.int .i64 0, .nils, .nilm]) := _root_.id (by kernel_rfl)
@[go_sem] theorem t38_87_y : (((Tryd.prog.info? 87).map (·.bytes)).getD 0 ≤ 256) = True := eq_true (by decide +kernel)
@[go_sem] theorem t38_87_b : (bytesP Tryd.prog 87 ≤ 1024) = True := eq_true (by decide +kernel)
@[go_sem] theorem t38_88_h : hasP Tryd.prog 88 = true := by decide +kernel
@[go_sem] theorem t38_88_s : sizeP Tryd.prog 88 = 3 := by decide +kernel
@[go_sem] theorem t38_88_a : aggP Tryd.prog 88 = true := by decide +kernel
@[go_sem] theorem t38_88_z : zeroP Tryd.prog 88 = some [.int .i64 0, .nils, .nilm] := _root_.id (by kernel_rfl)
@[go_sem] theorem t38_88_o : zeroOK Tryd.prog 88 = true := by decide +kernel
@[go_sem] theorem t38_88_i : zeroI Tryd.prog 88 = some (.agg [.int .i64 0, .nils, .nilm]) := _root_.id (by kernel_rfl)
@[go_sem] theorem t38_88_y : (((Tryd.prog.info? 88).map (·.bytes)).getD 0 ≤ 256) = True := eq_true (by decide +kernel)
@[go_sem] theorem t38_88_b : (bytesP Tryd.prog 88 ≤ 1024) = True := eq_true (by decide +kernel)
@[go_sem] theorem t38_90_h : hasP Tryd.prog 90 = true := by decide +kernel
@[go_sem] theorem t38_90_s : sizeP Tryd.prog 90 = 1 := by decide +kernel
@[go_sem] theorem t38_90_a : aggP Tryd.prog 90 = false := by decide +kernel
@[go_sem] theorem t38_90_z : zeroP Tryd.prog 90 = some [.nilf] := _root_.id (by kernel_rfl)
@[go_sem] theorem t38_90_o : zeroOK Tryd.prog 90 = true := by decide +kernel
@[go_sem] theorem t38_90_i : zeroI Tryd.prog 90 = some (.nilf) := _root_.id (by kernel_rfl)
@[go_sem] theorem t38_90_y : (((Tryd.prog.info? 90).map (·.bytes)).getD 0 ≤ 256) = True := eq_true (by decide +kernel)
@[go_sem] theorem t38_90_b : (bytesP Tryd.prog 90 ≤ 1024) = True := eq_true (by decide +kernel)
@[go_sem] theorem t38_91_h : hasP Tryd.prog 91 = true := by decide +kernel
@[go_sem] theorem t38_91_s : sizeP Tryd.prog 91 = 2 := by decide +kernel
@[go_sem] theorem t38_91_a : aggP Tryd.prog 91 = true := by decide +kernel
@[go_sem] theorem t38_91_z : zeroP Tryd.prog 91 = some [.int .i64 0, .int .i64 0] := _root_.id (by kernel_rfl)
@[go_sem] theorem t38_91_o : zeroOK Tryd.prog 91 = true := by decide +kernel
@[go_sem] theorem t38_91_i : zeroI Tryd.prog 91 = some (.agg [.int .i64 0, .int .i64 0]) := _root_.id (by kernel_rfl)
@[go_sem] theorem t38_91_y : (((Tryd.prog.info? 91).map (·.bytes)).getD 0 ≤ 256) = True := eq_true (by decide +kernel)
@[go_sem] theorem t38_91_b : (bytesP Tryd.prog 91 ≤ 1024) = True := eq_true (by decide +kernel)
@[go_sem] theorem t38_91_f : flatP Tryd.prog 91 = some [.int .i64, .int .i64] := flat_of (by decide +kernel)
@[go_sem] theorem t38_91_k : keyK Tryd.prog 91 = some [.int .i64, .int .i64] := key_of (by decide +kernel)
@[go_sem] theorem t38_93_h : hasP Tryd.prog 93 = true := by decide +kernel
@[go_sem] theorem t38_93_s : sizeP Tryd.prog 93 = 1 := by decide +kernel
@[go_sem] theorem t38_93_a : aggP Tryd.prog 93 = false := by decide +kernel
@[go_sem] theorem t38_93_z : zeroP Tryd.prog 93 = some [.nilf] := _root_.id (by kernel_rfl)
@[go_sem] theorem t38_93_o : zeroOK Tryd.prog 93 = true := by decide +kernel
@[go_sem] theorem t38_93_i : zeroI Tryd.prog 93 = some (.nilf) := _root_.id (by kernel_rfl)
@[go_sem] theorem t38_93_y : (((Tryd.prog.info? 93).map (·.bytes)).getD 0 ≤ 256) = True := eq_true (by decide +kernel)
@[go_sem] theorem t38_93_b : (bytesP Tryd.prog 93 ≤ 1024) = True := eq_true (by decide +kernel)
@[go_sem] theorem t38_95_h : hasP Tryd.prog 95 = true := by decide +kernel
@[go_sem] theorem t38_95_s : sizeP Tryd.prog 95 = 1 := by decide +kernel
@[go_sem] theorem t38_95_a : aggP Tryd.prog 95 = false := by decide +kernel
@[go_sem] theorem t38_95_z : zeroP Tryd.prog 95 = some [.nilf] := _root_.id (by kernel_rfl)
@[go_sem] theorem t38_95_o : zeroOK Tryd.prog 95 = true := by decide +kernel
@[go_sem] theorem t38_95_i : zeroI Tryd.prog 95 = some (.nilf) := _root_.id (by kernel_rfl)
@[go_sem] theorem t38_95_y : (((Tryd.prog.info? 95).map (·.bytes)).getD 0 ≤ 256) = True := eq_true (by decide +kernel)
@[go_sem] theorem t38_95_b : (bytesP Tryd.prog 95 ≤ 1024) = True := eq_true (by decide +kernel)
@[go_sem] theorem t38_96_h : hasP Tryd.prog 96 = true := by decide +kernel
@[go_sem] theorem t38_96_s : sizeP Tryd.prog 96 = 1 := by decide +kernel
@[go_sem] theorem t38_96_a : aggP Tryd.prog 96 = false := by decide +kernel
@[go_sem] theorem t38_96_z : zeroP Tryd.prog 96 = some [.nils] := _root_.id (by kernel_rfl)
@[go_sem] theorem t38_96_o : zeroOK Tryd.prog 96 = true := by decide +kernel
@[go_sem] theorem t38_96_i : zeroI Tryd.prog 96 = some (.nils) := _root_.id (by kernel_rfl)
@[go_sem] theorem t38_96_y : (((Tryd.prog.info? 96).map (·.bytes)).getD 0 ≤ 256) = True := eq_true (by decide +kernel)
@[go_sem] theorem t38_96_b : (bytesP Tryd.prog 96 ≤ 1024) = True := eq_true (by decide +kernel)
@[go_sem] theorem t38_98_h : hasP Tryd.prog 98 = true := by decide +kernel
@[go_sem] theorem t38_98_s : sizeP Tryd.prog 98 = 1 := by decide +kernel
@[go_sem] theorem t38_98_a : aggP Tryd.prog 98 = false := by decide +kernel
@[go_sem] theorem t38_98_z : zeroP Tryd.prog 98 = some [.nilf] := _root_.id (by kernel_rfl)
@[go_sem] theorem t38_98_o : zeroOK Tryd.prog 98 = true := by decide +kernel
@[go_sem] theorem t38_98_i : zeroI Tryd.prog 98 = some (.nilf) := _root_.id (by kernel_rfl)
@[go_sem] theorem t38_98_y : (((Tryd.prog.info? 98).map (·.bytes)).getD 0 ≤ 256) = True := eq_true (by decide +kernel)
@[go_sem] theorem t38_98_b : (bytesP Tryd.prog 98 ≤ 1024) = True := eq_true (by decide +kernel)
@[go_sem] theorem t38_99_h : hasP Tryd.prog 99 = true := by decide +kernel
@[go_sem] theorem t38_99_s : sizeP Tryd.prog 99 = 1 := by decide +kernel
@[go_sem] theorem t38_99_a : aggP Tryd.prog 99 = false := by decide +kernel
@[go_sem] theorem t38_99_z : zeroP Tryd.prog 99 = some [.nilf] := _root_.id (by kernel_rfl)
@[go_sem] theorem t38_99_o : zeroOK Tryd.prog 99 = true := by decide +kernel
@[go_sem] theorem t38_99_i : zeroI Tryd.prog 99 = some (.nilf) := _root_.id (by kernel_rfl)
@[go_sem] theorem t38_99_y : (((Tryd.prog.info? 99).map (·.bytes)).getD 0 ≤ 256) = True := eq_true (by decide +kernel)
@[go_sem] theorem t38_99_b : (bytesP Tryd.prog 99 ≤ 1024) = True := eq_true (by decide +kernel)
@[go_sem] theorem t38_100_h : hasP Tryd.prog 100 = true := by decide +kernel
@[go_sem] theorem t38_100_s : sizeP Tryd.prog 100 = 1 := by decide +kernel
@[go_sem] theorem t38_100_a : aggP Tryd.prog 100 = false := by decide +kernel
@[go_sem] theorem t38_100_z : zeroP Tryd.prog 100 = some [.nilf] := _root_.id (by kernel_rfl)
@[go_sem] theorem t38_100_o : zeroOK Tryd.prog 100 = true := by decide +kernel
@[go_sem] theorem t38_100_i : zeroI Tryd.prog 100 = some (.nilf) := _root_.id (by kernel_rfl)
@[go_sem] theorem t38_100_y : (((Tryd.prog.info? 100).map (·.bytes)).getD 0 ≤ 256) = True := eq_true (by decide +kernel)
@[go_sem] theorem t38_100_b : (bytesP Tryd.prog 100 ≤ 1024) = True := eq_true (by decide +kernel)
@[go_sem] theorem t38_101_h : hasP Tryd.prog 101 = true := by decide +kernel
@[go_sem] theorem t38_101_s : sizeP Tryd.prog 101 = 1 := by decide +kernel
@[go_sem] theorem t38_101_a : aggP Tryd.prog 101 = false := by decide +kernel
@[go_sem] theorem t38_101_z : zeroP Tryd.prog 101 = some [.int .u64 0] := _root_.id (by kernel_rfl)
@[go_sem] theorem t38_101_o : zeroOK Tryd.prog 101 = true := by decide +kernel
@[go_sem] theorem t38_101_i : zeroI Tryd.prog 101 = some (.int .u64 0) := _root_.id (by kernel_rfl)
@[go_sem] theorem t38_101_y : (((Tryd.prog.info? 101).map (·.bytes)).getD 0 ≤ 256) = True := eq_true (by decide +kernel)
@[go_sem] theorem t38_101_b : (bytesP Tryd.prog 101 ≤ 1024) = True := eq_true (by decide +kernel)
@[go_sem] theorem t38_101_k : keyK Tryd.prog 101 = some [.int .u64] := key_of (by decide +kernel)
@[go_sem] theorem t38_102_h : hasP Tryd.prog 102 = true := by decide +kernel
@[go_sem] theorem t38_102_s : sizeP Tryd.prog 102 = 1 := by decide +kernel
@[go_sem] theorem t38_102_a : aggP Tryd.prog 102 = false := by decide +kernel
@[go_sem] theorem t38_102_z : zeroP Tryd.prog 102 = some [.nilf] := _root_.id (by kernel_rfl)
@[go_sem] theorem t38_102_o : zeroOK Tryd.prog 102 = true := by decide +kernel
@[go_sem] theorem t38_102_i : zeroI Tryd.prog 102 = some (.nilf) := _root_.id (by kernel_rfl)
@[go_sem] theorem t38_102_y : (((Tryd.prog.info? 102).map (·.bytes)).getD 0 ≤ 256) = True := eq_true (by decide +kernel)
@[go_sem] theorem t38_102_b : (bytesP Tryd.prog 102 ≤ 1024) = True := eq_true (by decide +kernel)
@[go_sem] theorem t38_103_h : hasP Tryd.prog 103 = true := by decide +kernel
@[go_sem] theorem t38_103_s : sizeP Tryd.prog 103 = 1 := by decide +kernel
@[go_sem] theorem t38_103_a : aggP Tryd.prog 103 = false := by decide +kernel
@[go_sem] theorem t38_103_z : zeroP Tryd.prog 103 = some [.nilf] := _root_.id (by kernel_rfl)
@[go_sem] theorem t38_103_o : zeroOK Tryd.prog 103 = true := by decide +kernel
@[go_sem] theorem t38_103_i : zeroI Tryd.prog 103 = some (.nilf) := _root_.id (by kernel_rfl)
@[go_sem] theorem t38_103_y : (((Tryd.prog.info? 103).map (·.bytes)).getD 0 ≤ 256) = True := eq_true (by decide +kernel)
@[go_sem] theorem t38_103_b : (bytesP Tryd.prog 103 ≤ 1024) = True := eq_true (by decide +kernel)
@[go_sem] theorem t38_104_h : hasP Tryd.prog 104 = true := by decide +kernel
@[go_sem] theorem t38_104_s : sizeP Tryd.prog 104 = 1 := by decide +kernel
@[go_sem] theorem t38_104_a : aggP Tryd.prog 104 = false := by decide +kernel
@[go_sem] theorem t38_104_z : zeroP Tryd.prog 104 = some [.nilf] := _root_.id (by kernel_rfl)
@[go_sem] theorem t38_104_o : zeroOK Tryd.prog 104 = true := by decide +kernel
@[go_sem] theorem t38_104_i : zeroI Tryd.prog 104 = some (.nilf) := _root_.id (by kernel_rfl)
@[go_sem] theorem t38_104_y : (((Tryd.prog.info? 104).map (·.bytes)).getD 0 ≤ 256) = True := eq_true (by decide +kernel)
@[go_sem] theorem t38_104_b : (bytesP Tryd.prog 104 ≤ 1024) = True := eq_true (by decide +kernel)
@[go_sem] theorem t38_105_h : hasP Tryd.prog 105 = true := by decide +kernel
@[go_sem] theorem t38_105_s : sizeP Tryd.prog 105 = 2 := by decide +kernel
@[go_sem] theorem t38_105_a : aggP Tryd.prog 105 = true := by decide +kernel
@[go_sem] theorem t38_105_z : zeroP Tryd.prog 105 = some [.int .u64 0, .int .u64 0] := _root_.id (by kernel_rfl)
@[go_sem] theorem t38_105_o : zeroOK Tryd.prog 105 = true := by decide +kernel
@[go_sem] theorem t38_105_i : zeroI Tryd.prog 105 = some (.agg [.int .u64 0, .int .u64 0]) := _root_.id (by kernel_rfl)
@[go_sem] theorem t38_105_y : (((Tryd.prog.info? 105).map (·.bytes)).getD 0 ≤ 256) = True := eq_true (by decide +kernel)
@[go_sem] theorem t38_105_b : (bytesP Tryd.prog 105 ≤ 1024) = True := eq_true (by decide +kernel)
@[go_sem] theorem t38_105_f : flatP Tryd.prog 105 = some [.int .u64, .int .u64] := flat_of (by decide +kernel)
@[go_sem] theorem t38_105_k : keyK Tryd.prog 105 = some [.int .u64, .int .u64] := key_of (by decide +kernel)
@[go_sem] theorem t38_106_h : hasP Tryd.prog 106 = true := by decide +kernel
@[go_sem] theorem t38_106_s : sizeP Tryd.prog 106 = 2 := by decide +kernel
@[go_sem] theorem t38_106_a : aggP Tryd.prog 106 = true := by decide +kernel
@[go_sem] theorem t38_106_z : zeroP Tryd.prog 106 = some [.int .u64 0, .int .u64 0] := _root_.id (by kernel_rfl)
@[go_sem] theorem t38_106_o : zeroOK Tryd.prog 106 = true := by decide +kernel
@[go_sem] theorem t38_106_i : zeroI Tryd.prog 106 = some (.agg [.int .u64 0, .int .u64 0]) := _root_.id (by kernel_rfl)
@[go_sem] theorem t38_106_y : (((Tryd.prog.info? 106).map (·.bytes)).getD 0 ≤ 256) = True := eq_true (by decide +kernel)
@[go_sem] theorem t38_106_b : (bytesP Tryd.prog 106 ≤ 1024) = True := eq_true (by decide +kernel)
@[go_sem] theorem t38_106_f : flatP Tryd.prog 106 = some [.int .u64, .int .u64] := flat_of (by decide +kernel)
@[go_sem] theorem t38_106_k : keyK Tryd.prog 106 = some [.int .u64, .int .u64] := key_of (by decide +kernel)
@[go_sem] theorem t38_107_h : hasP Tryd.prog 107 = true := by decide +kernel
@[go_sem] theorem t38_107_s : sizeP Tryd.prog 107 = 1 := by decide +kernel
@[go_sem] theorem t38_107_a : aggP Tryd.prog 107 = false := by decide +kernel
@[go_sem] theorem t38_107_z : zeroP Tryd.prog 107 = some [.nilf] := _root_.id (by kernel_rfl)
@[go_sem] theorem t38_107_o : zeroOK Tryd.prog 107 = true := by decide +kernel
@[go_sem] theorem t38_107_i : zeroI Tryd.prog 107 = some (.nilf) := _root_.id (by kernel_rfl)
@[go_sem] theorem t38_107_y : (((Tryd.prog.info? 107).map (·.bytes)).getD 0 ≤ 256) = True := eq_true (by decide +kernel)
@[go_sem] theorem t38_107_b : (bytesP Tryd.prog 107 ≤ 1024) = True := eq_true (by decide +kernel)
@[go_sem] theorem t38_108_h : hasP Tryd.prog 108 = true := by decide +kernel
@[go_sem] theorem t38_108_s : sizeP Tryd.prog 108 = 1 := by decide +kernel
@[go_sem] theorem t38_108_a : aggP Tryd.prog 108 = false := by decide +kernel
@[go_sem] theorem t38_108_z : zeroP Tryd.prog 108 = some [.nilf] := _root_.id (by kernel_rfl)
@[go_sem] theorem t38_108_o : zeroOK Tryd.prog 108 = true := by decide +kernel
@[go_sem] theorem t38_108_i : zeroI Tryd.prog 108 = some (.nilf) := _root_.id (by kernel_rfl)
@[go_sem] theorem t38_108_y : (((Tryd.prog.info? 108).map (·.bytes)).getD 0 ≤ 256) = True := eq_true (by decide +kernel)
@[go_sem] theorem t38_108_b : (bytesP Tryd.prog 108 ≤ 1024) = True := eq_true (by decide +kernel)
@[go_sem] theorem t38_109_h : hasP Tryd.prog 109 = true := by decide +kernel
@[go_sem] theorem t38_109_s : sizeP Tryd.prog 109 = 1 := by decide +kernel
@[go_sem] theorem t38_109_a : aggP Tryd.prog 109 = false := by decide +kernel
@[go_sem] theorem t38_109_z : zeroP Tryd.prog 109 = some [.nilf] := _root_.id (by kernel_rfl)
@[go_sem] theorem t38_109_o : zeroOK Tryd.prog 109 = true := by decide +kernel
@[go_sem] theorem t38_109_i : zeroI Tryd.prog 109 = some (.nilf) := _root_.id (by kernel_rfl)
@[go_sem] theorem t38_109_y : (((Tryd.prog.info? 109).map (·.bytes)).getD 0 ≤ 256) = True := eq_true (by decide +kernel)
@[go_sem] theorem t38_109_b : (bytesP Tryd.prog 109 ≤ 1024) = True := eq_true (by decide +kernel)
@[go_sem] theorem t38_110_h : hasP Tryd.prog 110 = true := by decide +kernel
@[go_sem] theorem t38_110_s : sizeP Tryd.prog 110 = 1 := by decide +kernel
@[go_sem] theorem t38_110_a : aggP Tryd.prog 110 = false := by decide +kernel
@[go_sem] theorem t38_110_z : zeroP Tryd.prog 110 = some [.nilf] := _root_.id (by kernel_rfl)
@[go_sem] theorem t38_110_o : zeroOK Tryd.prog 110 = true := by decide +kernel
@[go_sem] theorem t38_110_i : zeroI Tryd.prog 110 = some (.nilf) := _root_.id (by kernel_rfl)
@[go_sem] theorem t38_110_y : (((Tryd.prog.info? 110).map (·.bytes)).getD 0 ≤ 256) = True := eq_true (by decide +kernel)
@[go_sem] theorem t38_110_b : (bytesP Tryd.prog 110 ≤ 1024) = True := eq_true (by decide +kernel)
@[go_sem] theorem t38_112_h : hasP Tryd.prog 112 = true := by decide +kernel
@[go_sem] theorem t38_112_s : sizeP Tryd.prog 112 = 1 := by decide +kernel
@[go_sem] theorem t38_112_a : aggP Tryd.prog 112 = false := by decide +kernel
@[go_sem] theorem t38_112_z : zeroP Tryd.prog 112 = some [.nilf] := _root_.id (by kernel_rfl)
@[go_sem] theorem t38_112_o : zeroOK Tryd.prog 112 = true := by decide +kernel
@[go_sem] theorem t38_112_i : zeroI Tryd.prog 112 = some (.nilf) := _root_.id (by kernel_rfl)
@[go_sem] theorem t38_112_y : (((Tryd.prog.info? 112).map (·.bytes)).getD 0 ≤ 256) = True := eq_true (by decide +kernel)
@[go_sem] theorem t38_112_b : (bytesP Tryd.prog 112 ≤ 1024) = True := eq_true (by decide +kernel)
@[go_sem] theorem t38_115_h : hasP Tryd.prog 115 = true := by decide +kernel
@[go_sem] theorem t38_115_s : sizeP Tryd.prog 115 = 1 := by decide +kernel
@[go_sem] theorem t38_115_a : aggP Tryd.prog 115 = false := by decide +kernel
@[go_sem] theorem t38_115_z : zeroP Tryd.prog 115 = some [.nilf] := _root_.id (by kernel_rfl)
@[go_sem] theorem t38_115_o : zeroOK Tryd.prog 115 = true := by decide +kernel
@[go_sem] theorem t38_115_i : zeroI Tryd.prog 115 = some (.nilf) := _root_.id (by kernel_rfl)
@[go_sem] theorem t38_115_y : (((Tryd.prog.info? 115).map (·.bytes)).getD 0 ≤ 256) = True := eq_true (by decide +kernel)
@[go_sem] theorem t38_115_b : (bytesP Tryd.prog 115 ≤ 1024) = True := eq_true (by decide +kernel)
@[go_sem] theorem t38_116_h : hasP Tryd.prog 116 = true := by decide +kernel
@[go_sem] theorem t38_116_s : sizeP Tryd.prog 116 = 1 := by decide +kernel
@[go_sem] theorem t38_116_a : aggP Tryd.prog 116 = false := by decide +kernel
@[go_sem] theorem t38_116_z : zeroP Tryd.prog 116 = some [.nilf] := _root_.id (by kernel_rfl)
@[go_sem] theorem t38_116_o : zeroOK Tryd.prog 116 = true := by decide +kernel
@[go_sem] theorem t38_116_i : zeroI Tryd.prog 116 = some (.nilf) := _root_.id (by kernel_rfl)
@[go_sem] theorem t38_116_y : (((Tryd.prog.info? 116).map (·.bytes)).getD 0 ≤ 256) = True := eq_true (by decide +kernel)
@[go_sem] theorem t38_116_b : (bytesP Tryd.prog 116 ≤ 1024) = True := eq_true (by decide +kernel)
@[go_sem] theorem t38_117_h : hasP Tryd.prog 117 = true := by decide +kernel
@[go_sem] theorem t38_117_s : sizeP Tryd.prog 117 = 1 := by decide +kernel
@[go_sem] theorem t38_117_a : aggP Tryd.prog 117 = false := by decide +kernel
@[go_sem] theorem t38_117_z : zeroP Tryd.prog 117 = some [.nilf] := _root_.id (by kernel_rfl)
@[go_sem] theorem t38_117_o : zeroOK Tryd.prog 117 = true := by decide +kernel
@[go_sem] theorem t38_117_i : zeroI Tryd.prog 117 = some (.nilf) := _root_.id (by kernel_rfl)
@[go_sem] theorem t38_117_y : (((Tryd.prog.info? 117).map (·.bytes)).getD 0 ≤ 256) = True := eq_true (by decide +kernel)
@[go_sem] theorem t38_117_b : (bytesP Tryd.prog 117 ≤ 1024) = True := eq_true (by decide +kernel)
@[go_sem] theorem t38_118_h : hasP Tryd.prog 118 = true := by decide +kernel
@[go_sem] theorem t38_118_s : sizeP Tryd.prog 118 = 1 := by decide +kernel
@[go_sem] theorem t38_118_a : aggP Tryd.prog 118 = false := by decide +kernel
@[go_sem] theorem t38_118_z : zeroP Tryd.prog 118 = some [.nilf] := _root_.id (by kernel_rfl)
@[go_sem] theorem t38_118_o : zeroOK Tryd.prog 118 = true := by decide +kernel
@[go_sem] theorem t38_118_i : zeroI Tryd.prog 118 = some (.nilf) := _root_.id (by kernel_rfl)
@[go_sem] theorem t38_118_y : (((Tryd.prog.info? 118).map (·.bytes)).getD 0 ≤ 256) = True := eq_true (by decide +kernel)
@[go_sem] theorem t38_118_b : (bytesP Tryd.prog 118 ≤ 1024) = True := eq_true (by decide +kernel)
@[go_sem] theorem t38_119_h : hasP Tryd.prog 119 = true := by decide +kernel
@[go_sem] theorem t38_119_s : sizeP Tryd.prog 119 = 1 := by decide +kernel
@[go_sem] theorem t38_119_a : aggP Tryd.prog 119 = false := by decide +kernel
@[go_sem] theorem t38_119_z : zeroP Tryd.prog 119 = some [.nilf] := _root_.id (by kernel_rfl)
@[go_sem] theorem t38_119_o : zeroOK Tryd.prog 119 = true := by decide +kernel
@[go_sem] theorem t38_119_i : zeroI Tryd.prog 119 = some (.nilf) := _root_.id (by kernel_rfl)
@[go_sem] theorem t38_119_y : (((Tryd.prog.info? 119).map (·.bytes)).getD 0 ≤ 256) = True := eq_true (by decide +kernel)
@[go_sem] theorem t38_119_b : (bytesP Tryd.prog 119 ≤ 1024) = True := eq_true (by decide +kernel)
@[go_sem] theorem t38_120_h : hasP Tryd.prog 120 = true := by decide +kernel
@[go_sem] theorem t38_120_s : sizeP Tryd.prog 120 = 1 := by decide +kernel
@[go_sem] theorem t38_120_a : aggP Tryd.prog 120 = false := by decide +kernel
@[go_sem] theorem t38_120_z : zeroP Tryd.prog 120 = some [.nilf] := _root_.id (by kernel_rfl)
@[go_sem] theorem t38_120_o : zeroOK Tryd.prog 120 = true := by decide +kernel
@[go_sem] theorem t38_120_i : zeroI Tryd.prog 120 = some (.nilf) := _root_.id (by kernel_rfl)
@[go_sem] theorem t38_120_y : (((Tryd.prog.info? 120).map (·.bytes)).getD 0 ≤ 256) = True := eq_true (by decide +kernel)
@[go_sem] theorem t38_120_b : (bytesP Tryd.prog 120 ≤ 1024) = True := eq_true (by decide +kernel)
@[go_sem] theorem t38_121_h : hasP Tryd.prog 121 = true := by decide +kernel
@[go_sem] theorem t38_121_s : sizeP Tryd.prog 121 = 1 := by decide +kernel
@[go_sem] theorem t38_121_a : aggP Tryd.prog 121 = false := by decide +kernel
@[go_sem] theorem t38_121_z : zeroP Tryd.prog 121 = some [.int .u64 0] := _root_.id (by kernel_rfl)
@[go_sem] theorem t38_121_o : zeroOK Tryd.prog 121 = true := by decide +kernel
@[go_sem] theorem t38_121_i : zeroI Tryd.prog 121 = some (.int .u64 0) := _root_.id (by kernel_rfl)
@[go_sem] theorem t38_121_y : (((Tryd.prog.info? 121).map (·.bytes)).getD 0 ≤ 256) = True := eq_true (by decide +kernel)
@[go_sem] theorem t38_121_b : (bytesP Tryd.prog 121 ≤ 1024) = True := eq_true (by decide +kernel)
@[go_sem] theorem t38_121_k : keyK Tryd.prog 121 = some [.int .u64] := key_of (by decide +kernel)
@[go_sem] theorem t38_122_h : hasP Tryd.prog 122 = true := by decide +kernel
@[go_sem] theorem t38_122_s : sizeP Tryd.prog 122 = 1 := by decide +kernel
@[go_sem] theorem t38_122_a : aggP Tryd.prog 122 = false := by decide +kernel
@[go_sem] theorem t38_122_z : zeroP Tryd.prog 122 = some [.nilf] := _root_.id (by kernel_rfl)
@[go_sem] theorem t38_122_o : zeroOK Tryd.prog 122 = true := by decide +kernel
@[go_sem] theorem t38_122_i : zeroI Tryd.prog 122 = some (.nilf) := _root_.id (by kernel_rfl)
@[go_sem] theorem t38_122_y : (((Tryd.prog.info? 122).map (·.bytes)).getD 0 ≤ 256) = True := eq_true (by decide +kernel)
@[go_sem] theorem t38_122_b : (bytesP Tryd.prog 122 ≤ 1024) = True := eq_true (by decide +kernel)
@[go_sem] theorem t38_123_h : hasP Tryd.prog 123 = true := by decide +kernel
@[go_sem] theorem t38_123_s : sizeP Tryd.prog 123 = 4 := by decide +kernel
@[go_sem] theorem t38_123_a : aggP Tryd.prog 123 = true := by decide +kernel
@[go_sem] theorem t38_123_z : zeroP Tryd.prog 123 = some [.int .i64 0, .int .i64 0, .int .i64 0, .int .i64 0] := _root_.id (by kernel_rfl)
@[go_sem] theorem t38_123_o : zeroOK Tryd.prog 123 = true := by decide +kernel
@[go_sem] theorem t38_123_i : zeroI Tryd.prog 123 = some (.agg [.int .i64 0, .int .i64 0, .int .i64 0, .int .i64 0]) := _root_.id (by kernel_rfl)
@[go_sem] theorem t38_123_y : (((Tryd.prog.info? 123).map (·.bytes)).getD 0 ≤ 256) = True := eq_true (by decide +kernel)
@[go_sem] theorem t38_123_b : (bytesP Tryd.prog 123 ≤ 1024) = True := eq_true (by decide +kernel)
@[go_sem] theorem t38_123_f : flatP Tryd.prog 123 = some [.int .i64, .int .i64, .int .i64, .int .i64] := flat_of (by decide +kernel)
@[go_sem] theorem t38_123_k : keyK Tryd.prog 123 = some [.int .i64, .int .i64, .int .i64, .int .i64] := key_of (by decide +kernel)
@[go_sem] theorem t38_124_h : hasP Tryd.prog 124 = true := by decide +kernel
@[go_sem] theorem t38_124_s : sizeP Tryd.prog 124 = 1 := by decide +kernel
@[go_sem] theorem t38_124_a : aggP Tryd.prog 124 = false := by decide +kernel
@[go_sem] theorem t38_124_z : zeroP Tryd.prog 124 = some [.nils] := _root_.id (by kernel_rfl)
@[go_sem] theorem t38_124_o : zeroOK Tryd.prog 124 = true := by decide +kernel
@[go_sem] theorem t38_124_i : zeroI Tryd.prog 124 = some (.nils) := _root_.id (by kernel_rfl)
@[go_sem] theorem t38_124_y : (((Tryd.prog.info? 124).map (·.bytes)).getD 0 ≤ 256) = True := eq_true (by decide +kernel)
@[go_sem] theorem t38_124_b : (bytesP Tryd.prog 124 ≤ 1024) = True := eq_true (by decide +kernel)
@[go_sem] theorem t38_125_h : hasP Tryd.prog 125 = true := by decide +kernel
@[go_sem] theorem t38_125_s : sizeP Tryd.prog 125 = 1 := by decide +kernel
@[go_sem] theorem t38_125_a : aggP Tryd.prog 125 = false := by decide +kernel
@[go_sem] theorem t38_125_z : zeroP Tryd.prog 125 = some [.nilf] := _root_.id (by kernel_rfl)
@[go_sem] theorem t38_125_o : zeroOK Tryd.prog 125 = true := by decide +kernel
@[go_sem] theorem t38_125_i : zeroI Tryd.prog 125 = some (.nilf) := _root_.id (by kernel_rfl)
@[go_sem] theorem t38_125_y : (((Tryd.prog.info? 125).map (·.bytes)).getD 0 ≤ 256) = True := eq_true (by decide +kernel)
@[go_sem] theorem t38_125_b : (bytesP Tryd.prog 125 ≤ 1024) = True := eq_true (by decide +kernel)
@[go_sem] theorem t38_126_h : hasP Tryd.prog 126 = true := by decide +kernel
@[go_sem] theorem t38_126_s : sizeP Tryd.prog 126 = 6 := by decide +kernel
@[go_sem] theorem t38_126_a : aggP Tryd.prog 126 = true := by decide +kernel
@[go_sem] theorem t38_126_z : zeroP Tryd.prog 126 = some [.int .i64 0, .int .i64 0, .int .i64 0, .int .i64 0, .int .i64 0, .int .i64 0] := _root_.id (by kernel_rfl)
@[go_sem] theorem t38_126_o : zeroOK Tryd.prog 126 = true := by decide +kernel
@[go_sem] theorem t38_126_i : zeroI Tryd.prog 126 = some (.agg [.int .i64 0, .int .i64 0, .int .i64 0, .int .i64 0, .int .i64 0, .int .i64 0]) := _root_.id (by kernel_rfl)
@[go_sem] theorem t38_126_y : (((Tryd.prog.info? 126).map (·.bytes)).getD 0 ≤ 256) = True := eq_true (by decide +kernel)
@[go_sem] theorem t38_126_b : (bytesP Tryd.prog 126 ≤ 1024) = True := eq_true (by decide +kernel)
@[go_sem] theorem t38_126_f : flatP Tryd.prog 126 = some [.int .i64, .int .i64, .int .i64, .int .i64, .int .i64, .int .i64] := flat_of (by decide +kernel)
@[go_sem] theorem t38_126_k : keyK Tryd.prog 126 = some [.int .i64, .int .i64, .int .i64, .int .i64, .int .i64, .int .i64] := key_of (by decide +kernel)
@[go_sem] theorem t38_127_h : hasP Tryd.prog 127 = true := by decide +kernel
@[go_sem] theorem t38_127_s : sizeP Tryd.prog 127 = 1 := by decide +kernel
@[go_sem] theorem t38_127_a : aggP Tryd.prog 127 = false := by decide +kernel
@[go_sem] theorem t38_127_z : zeroP Tryd.prog 127 = some [.nilf] := _root_.id (by kernel_rfl)
@[go_sem] theorem t38_127_o : zeroOK Tryd.prog 127 = true := by decide +kernel
@[go_sem] theorem t38_127_i : zeroI Tryd.prog 127 = some (.nilf) := _root_.id (by kernel_rfl)
@[go_sem] theorem t38_127_y : (((Tryd.prog.info? 127).map (·.bytes)).getD 0 ≤ 256) = True := eq_true (by decide +kernel)
@[go_sem] theorem t38_127_b : (bytesP Tryd.prog 127 ≤ 1024) = True := eq_true (by decide +kernel)
@[go_sem] theorem t38_128_h : hasP Tryd.prog 128 = true := by decide +kernel
@[go_sem] theorem t38_128_s : sizeP Tryd.prog 128 = 1 := by decide +kernel
@[go_sem] theorem t38_128_a : aggP Tryd.prog 128 = false := by decide +kernel
@[go_sem] theorem t38_128_z : zeroP Tryd.prog 128 = some [.nilf] := _root_.id (by kernel_rfl)
@[go_sem] theorem t38_128_o : zeroOK Tryd.prog 128 = true := by decide +kernel
@[go_sem] theorem t38_128_i : zeroI Tryd.prog 128 = some (.nilf) := _root_.id (by kernel_rfl)
@[go_sem] theorem t38_128_y : (((Tryd.prog.info? 128).map (·.bytes)).getD 0 ≤ 256) = True := eq_true (by decide +kernel)
@[go_sem] theorem t38_128_b : (bytesP Tryd.prog 128 ≤ 1024) = True := eq_true (by decide +kernel)
@[go_sem] theorem t38_130_h : hasP Tryd.prog 130 = true := by decide +kernel
@[go_sem] theorem t38_130_s : sizeP Tryd.prog 130 = 1 := by decide +kernel
@[go_sem] theorem t38_130_a : aggP Tryd.prog 130 = false := by decide +kernel
@[go_sem] theorem t38_130_z : zeroP Tryd.prog 130 = some [.nilf] := _root_.id (by kernel_rfl)
@[go_sem] theorem t38_130_o : zeroOK Tryd.prog 130 = true := by decide +kernel
@[go_sem] theorem t38_130_i : zeroI Tryd.prog 130 = some (.nilf) := _root_.id (by kernel_rfl)
@[go_sem] theorem t38_130_y : (((Tryd.prog.info? 130).map (·.bytes)).getD 0 ≤ 256) = True := eq_true (by decide +kernel)
@[go_sem] theorem t38_130_b : (bytesP Tryd.prog 130 ≤ 1024) = True := eq_true (by decide +kernel)
@[go_sem] theorem t38_131_h : hasP Tryd.prog 131 = true := by decide +kernel
@[go_sem] theorem t38_131_s : sizeP Tryd.prog 131 = 1 := by decide +kernel
@[go_sem] theorem t38_131_a : aggP Tryd.prog 131 = false := by decide +kernel
@[go_sem] theorem t38_131_z : zeroP Tryd.prog 131 = some [.nilf] := _root_.id (by kernel_rfl)
@[go_sem] theorem t38_131_o : zeroOK Tryd.prog 131 = true := by decide +kernel
@[go_sem] theorem t38_131_i : zeroI Tryd.prog 131 = some (.nilf) := _root_.id (by kernel_rfl)
@[go_sem] theorem t38_131_y : (((Tryd.prog.info? 131).map (·.bytes)).getD 0 ≤ 256) = True := eq_true (by decide +kernel)
@[go_sem] theorem t38_131_b : (bytesP Tryd.prog 131 ≤ 1024) = True := eq_true (by decide +kernel)
@[go_sem] theorem t38_132_h : hasP Tryd.prog 132 = true := by decide +kernel
@[go_sem] theorem t38_132_s : sizeP Tryd.prog 132 = 1 := by decide +kernel
@[go_sem] theorem t38_132_a : aggP Tryd.prog 132 = false := by decide +kernel
@[go_sem] theorem t38_132_z : zeroP Tryd.prog 132 = some [.nilf] := _root_.id (by kernel_rfl)
@[go_sem] theorem t38_132_o : zeroOK Tryd.prog 132 = true := by decide +kernel
@[go_sem] theorem t38_132_i : zeroI Tryd.prog 132 = some (.nilf) := _root_.id (by kernel_rfl)
@[go_sem] theorem t38_132_y : (((Tryd.prog.info? 132).map (·.bytes)).getD 0 ≤ 256) = True := eq_true (by decide +kernel)
@[go_sem] theorem t38_132_b : (bytesP Tryd.prog 132 ≤ 1024) = True := eq_true (by decide +kernel)
@[go_sem] theorem t38_133_h : hasP Tryd.prog 133 = true := by decide +kernel
@[go_sem] theorem t38_133_s : sizeP Tryd.prog 133 = 1 := by decide +kernel
@[go_sem] theorem t38_133_a : aggP Tryd.prog 133 = false := by decide +kernel
@[go_sem] theorem t38_133_z : zeroP Tryd.prog 133 = some [.nilf] := _root_.id (by kernel_rfl)
@[go_sem] theorem t38_133_o : zeroOK Tryd.prog 133 = true := by decide +kernel
@[go_sem] theorem t38_133_i : zeroI Tryd.prog 133 = some (.nilf) := _root_.id (by kernel_rfl)
@[go_sem] theorem t38_133_y : (((Tryd.prog.info? 133).map (·.bytes)).getD 0 ≤ 256) = True := eq_true (by decide +kernel)
@[go_sem] theorem t38_133_b : (bytesP Tryd.prog 133 ≤ 1024) = True := eq_true (by decide +kernel)
@[go_sem] theorem t38_134_h : hasP Tryd.prog 134 = true := by decide +kernel
@[go_sem] theorem t38_134_s : sizeP Tryd.prog 134 = 1 := by decide +kernel
@[go_sem] theorem t38_134_a : aggP Tryd.prog 134 = false := by decide +kernel
@[go_sem] theorem t38_134_z : zeroP Tryd.prog 134 = some [.nilf] := _root_.id (by kernel_rfl)
@[go_sem] theorem t38_134_o : zeroOK Tryd.prog 134 = true := by decide +kernel
@[go_sem] theorem t38_134_i : zeroI Tryd.prog 134 = some (.nilf) := _root_.id (by kernel_rfl)
@[go_sem] theorem t38_134_y : (((Tryd.prog.info? 134).map (·.bytes)).getD 0 ≤ 256) = True := eq_true (by decide +kernel)
@[go_sem] theorem t38_134_b : (bytesP Tryd.prog 134 ≤ 1024) = True := eq_true (by decide +kernel)
@[go_sem] theorem t38_135_h : hasP Tryd.prog 135 = true := by decide +kernel
@[go_sem] theorem t38_135_s : sizeP Tryd.prog 135 = 1 := by decide +kernel
@[go_sem] theorem t38_135_a : aggP Tryd.prog 135 = false := by decide +kernel
@[go_sem] theorem t38_135_z : zeroP Tryd.prog 135 = some [.nilf] := _root_.id (by kernel_rfl)
@[go_sem] theorem t38_135_o : zeroOK Tryd.prog 135 = true := by decide +kernel
@[go_sem] theorem t38_135_i : zeroI Tryd.prog 135 = some (.nilf) := _root_.id (by kernel_rfl)
@[go_sem] theorem t38_135_y : (((Tryd.prog.info? 135).map (·.bytes)).getD 0 ≤ 256) = True := eq_true (by decide +kernel)
@[go_sem] theorem t38_135_b : (bytesP Tryd.prog 135 ≤ 1024) = True := eq_true (by decide +kernel)
@[go_sem] theorem t38_136_h : hasP Tryd.prog 136 = true := by decide +kernel
@[go_sem] theorem t38_136_s : sizeP Tryd.prog 136 = 1 := by decide +kernel
@[go_sem] theorem t38_136_a : aggP Tryd.prog 136 = false := by decide +kernel
@[go_sem] theorem t38_136_z : zeroP Tryd.prog 136 = some [.nilf] := _root_.id (by kernel_rfl)
@[go_sem] theorem t38_136_o : zeroOK Tryd.prog 136 = true := by decide +kernel
@[go_sem] theorem t38_136_i : zeroI Tryd.prog 136 = some (.nilf) := _root_.id (by kernel_rfl)
@[go_sem] theorem t38_136_y : (((Tryd.prog.info? 136).map (·.bytes)).getD 0 ≤ 256) = True := eq_true (by decide +kernel)
@[go_sem] theorem t38_136_b : (bytesP Tryd.prog 136 ≤ 1024) = True := eq_true (by decide +kernel)
@[go_sem] theorem t38_137_h : hasP Tryd.prog 137 = true := by decide +kernel
@[go_sem] theorem t38_137_s : sizeP Tryd.prog 137 = 1 := by decide +kernel
@[go_sem] theorem t38_137_a : aggP Tryd.prog 137 = false := by decide +kernel
@[go_sem] theorem t38_137_z : zeroP Tryd.prog 137 = some [.nilf] := _root_.id (by kernel_rfl)
@[go_sem] theorem t38_137_o : zeroOK Tryd.prog 137 = true := by decide +kernel
@[go_sem] theorem t38_137_i : zeroI Tryd.prog 137 = some (.nilf) := _root_.id (by kernel_rfl)
@[go_sem] theorem t38_137_y : (((Tryd.prog.info? 137).map (·.bytes)).getD 0 ≤ 256) = True := eq_true (by decide +kernel)
@[go_sem] theorem t38_137_b : (bytesP Tryd.prog 137 ≤ 1024) = True := eq_true (by decide +kernel)
@[go_sem] theorem t38_138_h : hasP Tryd.prog 138 = true := by decide +kernel
@[go_sem] theorem t38_138_s : sizeP Tryd.prog 138 = 1 := by decide +kernel
@[go_sem] theorem t38_138_a : aggP Tryd.prog 138 = false := by decide +kernel
@[go_sem] theorem t38_138_z : zeroP Tryd.prog 138 = some [.nilf] := _root_.id (by kernel_rfl)
@[go_sem] theorem t38_138_o : zeroOK Tryd.prog 138 = true := by decide +kernel
@[go_sem] theorem t38_138_i : zeroI Tryd.prog 138 = some (.nilf) := _root_.id (by kernel_rfl)
@[go_sem] theorem t38_138_y : (((Tryd.prog.info? 138).map (·.bytes)).getD 0 ≤ 256) = True := eq_true (by decide +kernel)
@[go_sem] theorem t38_138_b : (bytesP Tryd.prog 138 ≤ 1024) = True := eq_true (by decide +kernel)
@[go_sem] theorem t38_139_h : hasP Tryd.prog 139 = true := by decide +kernel
@[go_sem] theorem t38_139_s : sizeP Tryd.prog 139 = 1 := by decide +kernel
@[go_sem] theorem t38_139_a : aggP Tryd.prog 139 = false := by decide +kernel
@[go_sem] theorem t38_139_z : zeroP Tryd.prog 139 = some [.nilf] := _root_.id (by kernel_rfl)
@[go_sem] theorem t38_139_o : zeroOK Tryd.prog 139 = true := by decide +kernel
@[go_sem] theorem t38_139_i : zeroI Tryd.prog 139 = some (.nilf) := _root_.id (by kernel_rfl)
@[go_sem] theorem t38_139_y : (((Tryd.prog.info? 139).map (·.bytes)).getD 0 ≤ 256) = True := eq_true (by decide +kernel)
@[go_sem] theorem t38_139_b : (bytesP Tryd.prog 139 ≤ 1024) = True := eq_true (by decide +kernel)
@[go_sem] theorem t38_140_h : hasP Tryd.prog 140 = true := by decide +kernel
@[go_sem] theorem t38_140_s : sizeP Tryd.prog 140 = 1 := by decide +kernel
@[go_sem] theorem t38_140_a : aggP Tryd.prog 140 = false := by decide +kernel
@[go_sem] theorem t38_140_z : zeroP Tryd.prog 140 = some [.nilf] := _root_.id (by kernel_rfl)
@[go_sem] theorem t38_140_o : zeroOK Tryd.prog 140 = true := by decide +kernel
@[go_sem] theorem t38_140_i : zeroI Tryd.prog 140 = some (.nilf) := _root_.id (by kernel_rfl)
@[go_sem] theorem t38_140_y : (((Tryd.prog.info? 140).map (·.bytes)).getD 0 ≤ 256) = True := eq_true (by decide +kernel)
@[go_sem] theorem t38_140_b : (bytesP Tryd.prog 140 ≤ 1024) = True := eq_true (by decide +kernel)
@[go_sem] theorem t38_141_h : hasP Tryd.prog 141 = true := by decide +kernel
@[go_sem] theorem t38_141_s : sizeP Tryd.prog 141 = 1 := by decide +kernel
@[go_sem] theorem t38_141_a : aggP Tryd.prog 141 = false := by decide +kernel
@[go_sem] theorem t38_141_z : zeroP Tryd.prog 141 = some [.int .u32 0] := _root_.id (by kernel_rfl)
@[go_sem] theorem t38_141_o : zeroOK Tryd.prog 141 = true := by decide +kernel
@[go_sem] theorem t38_141_i : zeroI Tryd.prog 141 = some (.int .u32 0) := _root_.id (by kernel_rfl)
@[go_sem] theorem t38_141_y : (((Tryd.prog.info? 141).map (·.bytes)).getD 0 ≤ 256) = True := eq_true (by decide +kernel)
@[go_sem] theorem t38_141_b : (bytesP Tryd.prog 141 ≤ 1024) = True := eq_true (by decide +kernel)
@[go_sem] theorem t38_141_k : keyK Tryd.prog 141 = some [.int .u32] := key_of (by decide +kernel)
@[go_sem] theorem t38_142_h : hasP Tryd.prog 142 = true := by decide +kernel
@[go_sem] theorem t38_142_s : sizeP Tryd.prog 142 = 1 := by decide +kernel
@[go_sem] theorem t38_142_a : aggP Tryd.prog 142 = false := by decide +kernel
@[go_sem] theorem t38_142_z : zeroP Tryd.prog 142 = some [.nilf] := _root_.id (by kernel_rfl)
@[go_sem] theorem t38_142_o : zeroOK Tryd.prog 142 = true := by decide +kernel
@[go_sem] theorem t38_142_i : zeroI Tryd.prog 142 = some (.nilf) := _root_.id (by kernel_rfl)
@[go_sem] theorem t38_142_y : (((Tryd.prog.info? 142).map (·.bytes)).getD 0 ≤ 256) = True := eq_true (by decide +kernel)
@[go_sem] theorem t38_142_b : (bytesP Tryd.prog 142 ≤ 1024) = True := eq_true (by decide +kernel)
@[go_sem] theorem t38_143_h : hasP Tryd.prog 143 = true := by decide +kernel
@[go_sem] theorem t38_143_s : sizeP Tryd.prog 143 = 1 := by decide +kernel
@[go_sem] theorem t38_143_a : aggP Tryd.prog 143 = false := by decide +kernel
@[go_sem] theorem t38_143_z : zeroP Tryd.prog 143 = some [.nilf] := _root_.id (by kernel_rfl)
@[go_sem] theorem t38_143_o : zeroOK Tryd.prog 143 = true := by decide +kernel
@[go_sem] theorem t38_143_i : zeroI Tryd.prog 143 = some (.nilf) := _root_.id (by kernel_rfl)
@[go_sem] theorem t38_143_y : (((Tryd.prog.info? 143).map (·.bytes)).getD 0 ≤ 256) = True := eq_true (by decide +kernel)
@[go_sem] theorem t38_143_b : (bytesP Tryd.prog 143 ≤ 1024) = True := eq_true (by decide +kernel)
@[go_sem] theorem t38_144_h : hasP Tryd.prog 144 = true := by decide +kernel
@[go_sem] theorem t38_144_s : sizeP Tryd.prog 144 = 1 := by decide +kernel
@[go_sem] theorem t38_144_a : aggP Tryd.prog 144 = false := by decide +kernel
@[go_sem] theorem t38_144_z : zeroP Tryd.prog 144 = some [.nilf] := _root_.id (by kernel_rfl)
@[go_sem] theorem t38_144_o : zeroOK Tryd.prog 144 = true := by decide +kernel
@[go_sem] theorem t38_144_i : zeroI Tryd.prog 144 = some (.nilf) := _root_.id (by kernel_rfl)
@[go_sem] theorem t38_144_y : (((Tryd.prog.info? 144).map (·.bytes)).getD 0 ≤ 256) = True := eq_true (by decide +kernel)
@[go_sem] theorem t38_144_b : (bytesP Tryd.prog 144 ≤ 1024) = True := eq_true (by decide +kernel)
@[go_sem] theorem t38_145_h : hasP Tryd.prog 145 = true := by decide +kernel
@[go_sem] theorem t38_145_s : sizeP Tryd.prog 145 = 1 := by decide +kernel
@[go_sem] theorem t38_145_a : aggP Tryd.prog 145 = false := by decide +kernel
@[go_sem] theorem t38_145_z : zeroP Tryd.prog 145 = some [.nilf] := _root_.id (by kernel_rfl)
@[go_sem] theorem t38_145_o : zeroOK Tryd.prog 145 = true := by decide +kernel
@[go_sem] theorem t38_145_i : zeroI Tryd.prog 145 = some (.nilf) := _root_.id (by kernel_rfl)
@[go_sem] theorem t38_145_y : (((Tryd.prog.info? 145).map (·.bytes)).getD 0 ≤ 256) = True := eq_true (by decide +kernel)
@[go_sem] theorem t38_145_b : (bytesP Tryd.prog 145 ≤ 1024) = True := eq_true (by decide +kernel)
@[go_sem] theorem t38_146_h : hasP Tryd.prog 146 = true := by decide +kernel
@[go_sem] theorem t38_146_s : sizeP Tryd.prog 146 = 1 := by decide +kernel
@[go_sem] theorem t38_146_a : aggP Tryd.prog 146 = false := by decide +kernel
@[go_sem] theorem t38_146_z : zeroP Tryd.prog 146 = some [.nilf] := _root_.id (by kernel_rfl)
@[go_sem] theorem t38_146_o : zeroOK Tryd.prog 146 = true := by decide +kernel
@[go_sem] theorem t38_146_i : zeroI Tryd.prog 146 = some (.nilf) := _root_.id (by kernel_rfl)
@[go_sem] theorem t38_146_y : (((Tryd.prog.info? 146).map (·.bytes)).getD 0 ≤ 256) = True := eq_true (by decide +kernel)
@[go_sem] theorem t38_146_b : (bytesP Tryd.prog 146 ≤ 1024) = True := eq_true (by decide +kernel)
@[go_sem] theorem t38_148_h : hasP Tryd.prog 148 = true := by decide +kernel
@[go_sem] theorem t38_148_s : sizeP Tryd.prog 148 = 1 := by decide +kernel
@[go_sem] theorem t38_148_a : aggP Tryd.prog 148 = false := by decide +kernel
@[go_sem] theorem t38_148_z : zeroP Tryd.prog 148 = some [.nilf] := _root_.id (by kernel_rfl)
@[go_sem] theorem t38_148_o : zeroOK Tryd.prog 148 = true := by decide +kernel
@[go_sem] theorem t38_148_i : zeroI Tryd.prog 148 = some (.nilf) := _root_.id (by kernel_rfl)
@[go_sem] theorem t38_148_y : (((Tryd.prog.info? 148).map (·.bytes)).getD 0 ≤ 256) = True := eq_true (by decide +kernel)
@[go_sem] theorem t38_148_b : (bytesP Tryd.prog 148 ≤ 1024) = True := eq_true (by decide +kernel)
@[go_sem] theorem t38_150_h : hasP Tryd.prog 150 = true := by decide +kernel
@[go_sem] theorem t38_150_s : sizeP Tryd.prog 150 = 1 := by decide +kernel
@[go_sem] theorem t38_150_a : aggP Tryd.prog 150 = false := by decide +kernel
@[go_sem] theorem t38_150_z : zeroP Tryd.prog 150 = some [.nilf] := _root_.id (by kernel_rfl)
@[go_sem] theorem t38_150_o : zeroOK Tryd.prog 150 = true := by decide +kernel
@[go_sem] theorem t38_150_i : zeroI Tryd.prog 150 = some (.nilf) := _root_.id (by kernel_rfl)
@[go_sem] theorem t38_150_y : (((Tryd.prog.info? 150).map (·.bytes)).getD 0 ≤ 256) = True := eq_true (by decide +kernel)
@[go_sem] theorem t38_150_b : (bytesP Tryd.prog 150 ≤ 1024) = True := eq_true (by decide +kernel)
@[go_sem] theorem t38_152_h : hasP Tryd.prog 152 = true := by decide +kernel
@[go_sem] theorem t38_152_s : sizeP Tryd.prog 152 = 1 := by decide +kernel
@[go_sem] theorem t38_152_a : aggP Tryd.prog 152 = false := by decide +kernel
@[go_sem] theorem t38_152_z : zeroP Tryd.prog 152 = some [.nilf] := _root_.id (by kernel_rfl)
@[go_sem] theorem t38_152_o : zeroOK Tryd.prog 152 = true := by decide +kernel
@[go_sem] theorem t38_152_i : zeroI Tryd.prog 152 = some (.nilf) := _root_.id (by kernel_rfl)
@[go_sem] theorem t38_152_y : (((Tryd.prog.info? 152).map (·.bytes)).getD 0 ≤ 256) = True := eq_true (by decide +kernel)
@[go_sem] theorem t38_152_b : (bytesP Tryd.prog 152 ≤ 1024) = True := eq_true (by decide +kernel)
@[go_sem] theorem t38_153_h : hasP Tryd.prog 153 = true := by decide +kernel
@[go_sem] theorem t38_153_s : sizeP Tryd.prog 153 = 1 := by decide +kernel
@[go_sem] theorem t38_153_a : aggP Tryd.prog 153 = false := by decide +kernel
@[go_sem] theorem t38_153_z : zeroP Tryd.prog 153 = some [.nilf] := _root_.id (by kernel_rfl)
@[go_sem] theorem t38_153_o : zeroOK Tryd.prog 153 = true := by decide +kernel
@[go_sem] theorem t38_153_i : zeroI Tryd.prog 153 = some (.nilf) := _root_.id (by kernel_rfl)
@[go_sem] theorem t38_153_y : (((Tryd.prog.info? 153).map (·.bytes)).getD 0 ≤ 256) = True := eq_true (by decide +kernel)
@[go_sem] theorem t38_153_b : (bytesP Tryd.prog 153 ≤ 1024) = True := eq_true (by decide +kernel)
@[go_sem] theorem t38_154_h : hasP Tryd.prog 154 = true := by decide +kernel
@[go_sem] theorem t38_154_s : sizeP Tryd.prog 154 = 1 := by decide +kernel
@[go_sem] theorem t38_154_a : aggP Tryd.prog 154 = false := by decide +kernel
@[go_sem] theorem t38_154_z : zeroP Tryd.prog 154 = some [.nilf] := _root_.id (by kernel_rfl)
@[go_sem] theorem t38_154_o : zeroOK Tryd.prog 154 = true := by decide +kernel
@[go_sem] theorem t38_154_i : zeroI Tryd.prog 154 = some (.nilf) := _root_.id (by kernel_rfl)
@[go_sem] theorem t38_154_y : (((Tryd.prog.info? 154).map (·.bytes)).getD 0 ≤ 256) = True := eq_true (by decide +kernel)
@[go_sem] theorem t38_154_b : (bytesP Tryd.prog 154 ≤ 1024) = True := eq_true (by decide +kernel)
@[go_sem] theorem t38_155_h : hasP Tryd.prog 155 = true := by decide +kernel
@[go_sem] theorem t38_155_s : sizeP Tryd.prog 155 = 1 := by decide +kernel
@[go_sem] theorem t38_155_a : aggP Tryd.prog 155 = false := by decide +kernel
@[go_sem] theorem t38_155_z : zeroP Tryd.prog 155 = some [.nilf] := _root_.id (by kernel_rfl)
@[go_sem] theorem t38_155_o : zeroOK Tryd.prog 155 = true := by decide +kernel
@[go_sem] theorem t38_155_i : zeroI Tryd.prog 155 = some (.nilf) := _root_.id (by kernel_rfl)
@[go_sem] theorem t38_155_y : (((Tryd.prog.info? 155).map (·.bytes)).getD 0 ≤ 256) = True := eq_true (by decide +kernel)
@[go_sem] theorem t38_155_b : (bytesP Tryd.prog 155 ≤ 1024) = True := eq_true (by decide +kernel)
@[go_sem] theorem t38_156_h : hasP Tryd.prog 156 = true := by decide +kernel
@[go_sem] theorem t38_156_s : sizeP Tryd.prog 156 = 1 := by decide +kernel
@[go_sem] theorem t38_156_a : aggP Tryd.prog 156 = false := by decide +kernel
@[go_sem] theorem t38_156_z : zeroP Tryd.prog 156 = some [.nilf] := _root_.id (by kernel_rfl)
@[go_sem] theorem t38_156_o : zeroOK Tryd.prog 156 = true := by decide +kernel
@[go_sem] theorem t38_156_i : zeroI Tryd.prog 156 = some (.nilf) := _root_.id (by kernel_rfl)
@[go_sem] theorem t38_156_y : (((Tryd.prog.info? 156).map (·.bytes)).getD 0 ≤ 256) = True := eq_true (by decide +kernel)
@[go_sem] theorem t38_156_b : (bytesP Tryd.prog 156 ≤ 1024) = True := eq_true (by decide +kernel)
@[go_sem] theorem t38_159_h : hasP Tryd.prog 159 = true := by decide +kernel
@[go_sem] theorem t38_159_s : sizeP Tryd.prog 159 = 1 := by decide +kernel
@[go_sem] theorem t38_159_a : aggP Tryd.prog 159 = false := by decide +kernel
@[go_sem] theorem t38_159_z : zeroP Tryd.prog 159 = some [.nilp] := _root_.id (by kernel_rfl)
@[go_sem] theorem t38_159_o : zeroOK Tryd.prog 159 = true := by decide +kernel
@[go_sem] theorem t38_159_i : zeroI Tryd.prog 159 = some (.nilp) := _root_.id (by kernel_rfl)
@[go_sem] theorem t38_159_y : (((Tryd.prog.info? 159).map (·.bytes)).getD 0 ≤ 256) = True := eq_true (by decide +kernel)
@[go_sem] theorem t38_159_b : (bytesP Tryd.prog 159 ≤ 1024) = True := eq_true (by decide +kernel)
@[go_sem] theorem t38_160_h : hasP Tryd.prog 160 = true := by decide +kernel
@[go_sem] theorem t38_160_s : sizeP Tryd.prog 160 = 1 := by decide +kernel
@[go_sem] theorem t38_160_a : aggP Tryd.prog 160 = false := by decide +kernel
@[go_sem] theorem t38_160_z : zeroP Tryd.prog 160 = some [.nilf] := _root_.id (by kernel_rfl)
@[go_sem] theorem t38_160_o : zeroOK Tryd.prog 160 = true := by decide +kernel
@[go_sem] theorem t38_160_i : zeroI Tryd.prog 160 = some (.nilf) := _root_.id (by kernel_rfl)
@[go_sem] theorem t38_160_y : (((Tryd.prog.info? 160).map (·.bytes)).getD 0 ≤ 256) = True := eq_true (by decide +kernel)
@[go_sem] theorem t38_160_b : (bytesP Tryd.prog 160 ≤ 1024) = True := eq_true (by decide +kernel)
@[go_sem] theorem t38_161_h : hasP Tryd.prog 161 = true := by decide +kernel
@[go_sem] theorem t38_161_s : sizeP Tryd.prog 161 = 4 := by decide +kernel
@[go_sem] theorem t38_161_a : aggP Tryd.prog 161 = true := by decide +kernel
@[go_sem] theorem t38_161_z : zeroP Tryd.prog 161 = some [.nilp, .nilp, .nilp, .str ByteArray.empty] := _root_.id (by kernel_rfl)
@[go_sem] theorem t38_161_o : zeroOK Tryd.prog 161 = true := by decide +kernel
@[go_sem] theorem t38_161_i : zeroI Tryd.prog 161 = some (.agg [.nilp, .nilp, .nilp, .str ByteArray.empty]) := _root_.id (by kernel_rfl)
@[go_sem] theorem t38_161_y : (((Tryd.prog.info? 161).map (·.bytes)).getD 0 ≤ 256) = True := eq_true (by decide +kernel)
@[go_sem] theorem t38_161_b : (bytesP Tryd.prog 161 ≤ 1024) = True := eq_true (by decide +kernel)
@[go_sem] theorem t38_162_h : hasP Tryd.prog 162 = true := by decide +kernel
@[go_sem] theorem t38_162_s : sizeP Tryd.prog 162 = 4 := by decide +kernel
@[go_sem] theorem t38_162_a : aggP Tryd.prog 162 = true := by decide +kernel
@[go_sem] theorem t38_162_z : zeroP Tryd.prog 162 = some [.nilp, .nilp, .nilp, .str ByteArray.empty] := _root_.id (by kernel_rfl)
@[go_sem] theorem t38_162_o : zeroOK Tryd.prog 162 = true := by decide +kernel
@[go_sem] theorem t38_162_i : zeroI Tryd.prog 162 = some (.agg [.nilp, .nilp, .nilp, .str ByteArray.empty]) := _root_.id (by kernel_rfl)
@[go_sem] theorem t38_162_y : (((Tryd.prog.info? 162).map (·.bytes)).getD 0 ≤ 256) = True := eq_true (by decide +kernel)
@[go_sem] theorem t38_162_b : (bytesP Tryd.prog 162 ≤ 1024) = True := eq_true (by decide +kernel)
@[go_sem] theorem t38_163_h : hasP Tryd.prog 163 = true := by decide +kernel
@[go_sem] theorem t38_163_s : sizeP Tryd.prog 163 = 0 := by decide +kernel
@[go_sem] theorem t38_163_a : aggP Tryd.prog 163 = true := by decide +kernel
@[go_sem] theorem t38_164_h : hasP Tryd.prog 164 = true := by decide +kernel
@[go_sem] theorem t38_164_s : sizeP Tryd.prog 164 = 0 := by decide +kernel
@[go_sem] theorem t38_164_a : aggP Tryd.prog 164 = true := by decide +kernel
@[go_sem] theorem t38_165_h : hasP Tryd.prog 165 = true := by decide +kernel
@[go_sem] theorem t38_165_s : sizeP Tryd.prog 165 = 0 := by decide +kernel
@[go_sem] theorem t38_165_a : aggP Tryd.prog 165 = true := by decide +kernel
@[go_sem] theorem t38_166_h : hasP Tryd.prog 166 = true := by decide +kernel
@[go_sem] theorem t38_166_s : sizeP Tryd.prog 166 = 1 := by decide +kernel
@[go_sem] theorem t38_166_a : aggP Tryd.prog 166 = false := by decide +kernel
@[go_sem] theorem t38_166_z : zeroP Tryd.prog 166 = some [.nilf] := _root_.id (by kernel_rfl)
@[go_sem] theorem t38_166_o : zeroOK Tryd.prog 166 = true := by decide +kernel
@[go_sem] theorem t38_166_i : zeroI Tryd.prog 166 = some (.nilf) := _root_.id (by kernel_rfl)
@[go_sem] theorem t38_166_y : (((Tryd.prog.info? 166).map (·.bytes)).getD 0 ≤ 256) = True := eq_true (by decide +kernel)
@[go_sem] theorem t38_166_b : (bytesP Tryd.prog 166 ≤ 1024) = True := eq_true (by decide +kernel)
@[go_sem] theorem t38_167_h : hasP Tryd.prog 167 = true := by decide +kernel
@[go_sem] theorem t38_167_s : sizeP Tryd.prog 167 = 1 := by decide +kernel
@[go_sem] theorem t38_167_a : aggP Tryd.prog 167 = false := by decide +kernel
@[go_sem] theorem t38_167_z : zeroP Tryd.prog 167 = some [.int .u8 0] := _root_.id (by kernel_rfl)
@[go_sem] theorem t38_167_o : zeroOK Tryd.prog 167 = true := by decide +kernel
@[go_sem] theorem t38_167_i : zeroI Tryd.prog 167 = some (.int .u8 0) := _root_.id (by kernel_rfl)
@[go_sem] theorem t38_167_y : (((Tryd.prog.info? 167).map (·.bytes)).getD 0 ≤ 256) = True := eq_true (by decide +kernel)
@[go_sem] theorem t38_167_b : (bytesP Tryd.prog 167 ≤ 1024) = True := eq_true (by decide +kernel)
@[go_sem] theorem t38_167_k : keyK Tryd.prog 167 = some [.int .u8] := key_of (by decide +kernel)
@[go_sem] theorem t38_168_h : hasP Tryd.prog 168 = true := by decide +kernel
@[go_sem] theorem t38_168_s : sizeP Tryd.prog 168 = 1 := by decide +kernel
@[go_sem] theorem t38_168_a : aggP Tryd.prog 168 = false := by decide +kernel
@[go_sem] theorem t38_168_z : zeroP Tryd.prog 168 = some [.int .u8 0] := _root_.id (by kernel_rfl)
@[go_sem] theorem t38_168_o : zeroOK Tryd.prog 168 = true := by decide +kernel
@[go_sem] theorem t38_168_i : zeroI Tryd.prog 168 = some (.int .u8 0) := _root_.id (by kernel_rfl)
@[go_sem] theorem t38_168_y : (((Tryd.prog.info? 168).map (·.bytes)).getD 0 ≤ 256) = True := eq_true (by decide +kernel)
@[go_sem] theorem t38_168_b : (bytesP Tryd.prog 168 ≤ 1024) = True := eq_true (by decide +kernel)
@[go_sem] theorem t38_168_k : keyK Tryd.prog 168 = some [.int .u8] := key_of (by decide +kernel)
@[go_sem] theorem t38_169_h : hasP Tryd.prog 169 = true := by decide +kernel
@[go_sem] theorem t38_169_s : sizeP Tryd.prog 169 = 1 := by decide +kernel
@[go_sem] theorem t38_169_a : aggP Tryd.prog 169 = false := by decide +kernel
@[go_sem] theorem t38_169_z : zeroP Tryd.prog 169 = some [.nilf] := _root_.id (by kernel_rfl)
@[go_sem] theorem t38_169_o : zeroOK Tryd.prog 169 = true := by decide +kernel
@[go_sem] theorem t38_169_i : zeroI Tryd.prog 169 = some (.nilf) := _root_.id (by kernel_rfl)
@[go_sem] theorem t38_169_y : (((Tryd.prog.info? 169).map (·.bytes)).getD 0 ≤ 256) = True := eq_true (by decide +kernel)
@[go_sem] theorem t38_169_b : (bytesP Tryd.prog 169 ≤ 1024) = True := eq_true (by decide +kernel)
@[go_sem] theorem t38_170_h : hasP Tryd.prog 170 = true := by decide +kernel
@[go_sem] theorem t38_170_s : sizeP Tryd.prog 170 = 1 := by decide +kernel
@[go_sem] theorem t38_170_a : aggP Tryd.prog 170 = false := by decide +kernel
@[go_sem] theorem t38_170_z : zeroP Tryd.prog 170 = some [.nilp] := _root_.id (by kernel_rfl)
@[go_sem] theorem t38_170_o : zeroOK Tryd.prog 170 = true := by decide +kernel
@[go_sem] theorem t38_170_i : zeroI Tryd.prog 170 = some (.nilp) := _root_.id (by kernel_rfl)
@[go_sem] theorem t38_170_y : (((Tryd.prog.info? 170).map (·.bytes)).getD 0 ≤ 256) = True := eq_true (by decide +kernel)
@[go_sem] theorem t38_170_b : (bytesP Tryd.prog 170 ≤ 1024) = True := eq_true (by decide +kernel)
@[go_sem] theorem t38_171_h : hasP Tryd.prog 171 = true := by decide +kernel
@[go_sem] theorem t38_171_s : sizeP Tryd.prog 171 = 1 := by decide +kernel
@[go_sem] theorem t38_171_a : aggP Tryd.prog 171 = false := by decide +kernel
@[go_sem] theorem t38_171_z : zeroP Tryd.prog 171 = some [.int .i32 0] := _root_.id (by kernel_rfl)
@[go_sem] theorem t38_171_o : zeroOK Tryd.prog 171 = true := by decide +kernel
@[go_sem] theorem t38_171_i : zeroI Tryd.prog 171 = some (.int .i32 0) := _root_.id (by kernel_rfl)
@[go_sem] theorem t38_171_y : (((Tryd.prog.info? 171).map (·.bytes)).getD 0 ≤ 256) = True := eq_true (by decide +kernel)
@[go_sem] theorem t38_171_b : (bytesP Tryd.prog 171 ≤ 1024) = True := eq_true (by decide +kernel)
@[go_sem] theorem t38_171_k : keyK Tryd.prog 171 = some [.int .i32] := key_of (by decide +kernel)
@[go_sem] theorem t38_172_h : hasP Tryd.prog 172 = true := by decide +kernel
@[go_sem] theorem t38_172_s : sizeP Tryd.prog 172 = 1 := by decide +kernel
@[go_sem] theorem t38_172_a : aggP Tryd.prog 172 = false := by decide +kernel
@[go_sem] theorem t38_172_z : zeroP Tryd.prog 172 = some [.int .i32 0] := _root_.id (by kernel_rfl)
@[go_sem] theorem t38_172_o : zeroOK Tryd.prog 172 = true := by decide +kernel
@[go_sem] theorem t38_172_i : zeroI Tryd.prog 172 = some (.int .i32 0) := _root_.id (by kernel_rfl)
@[go_sem] theorem t38_172_y : (((Tryd.prog.info? 172).map (·.bytes)).getD 0 ≤ 256) = True := eq_true (by decide +kernel)
@[go_sem] theorem t38_172_b : (bytesP Tryd.prog 172 ≤ 1024) = True := eq_true (by decide +kernel)
@[go_sem] theorem t38_172_k : keyK Tryd.prog 172 = some [.int .i32] := key_of (by decide +kernel)
@[go_sem] theorem t38_173_h : hasP Tryd.prog 173 = true := by decide +kernel
@[go_sem] theorem t38_173_s : sizeP Tryd.prog 173 = 11 := by decide +kernel
@[go_sem] theorem t38_173_a : aggP Tryd.prog 173 = true := by decide +kernel
@[go_sem] theorem t38_173_z : zeroP Tryd.prog 173 = some [.int .u64 0, .int .u64 0, .int .u32 0, .int .u8 0, .int .u8 0, .int .u8 0, .int .u8 0, .nilf, .nilp, .int .i32 0, .int .i32 0] := _root_.id (by kernel_rfl)
@[go_sem] theorem t38_173_o : zeroOK Tryd.prog 173 = true := by decide +kernel
@[go_sem] theorem t38_173_i : zeroI Tryd.prog 173 = some (.agg [.int .u64 0, .int .u64 0, .int .u32 0, .int .u8 0, .int .u8 0, .int .u8 0, .int .u8 0, .nilf, .nilp, .int .i32 0, .int .i32 0]) := _root_.id (by kernel_rfl)
@[go_sem] theorem t38_173_y : (((Tryd.prog.info? 173).map (·.bytes)).getD 0 ≤ 256) = True := eq_true (by decide +kernel)
@[go_sem] theorem t38_173_b : (bytesP Tryd.prog 173 ≤ 1024) = True := eq_true (by decide +kernel)
@[go_sem] theorem t38_174_h : hasP Tryd.prog 174 = true := by decide +kernel
@[go_sem] theorem t38_174_s : sizeP Tryd.prog 174 = 11 := by decide +kernel
@[go_sem] theorem t38_174_a : aggP Tryd.prog 174 = true := by decide +kernel
@[go_sem] theorem t38_174_z : zeroP Tryd.prog 174 = some [.int .u64 0, .int .u64 0, .int .u32 0, .int .u8 0, .int .u8 0, .int .u8 0, .int .u8 0, .nilf, .nilp, .int .i32 0, .int .i32 0] := _root_.id (by kernel_rfl)
@[go_sem] theorem t38_174_o : zeroOK Tryd.prog 174 = true := by decide +kernel
@[go_sem] theorem t38_174_i : zeroI Tryd.prog 174 = some (.agg [.int .u64 0, .int .u64 0, .int .u32 0, .int .u8 0, .int .u8 0, .int .u8 0, .int .u8 0, .nilf, .nilp, .int .i32 0, .int .i32 0]) := _root_.id (by kernel_rfl)
@[go_sem] theorem t38_174_y : (((Tryd.prog.info? 174).map (·.bytes)).getD 0 ≤ 256) = True := eq_true (by decide +kernel)
@[go_sem] theorem t38_174_b : (bytesP Tryd.prog 174 ≤ 1024) = True := eq_true (by decide +kernel)
@[go_sem] theorem t38_175_h : hasP Tryd.prog 175 = true := by decide +kernel
@[go_sem] theorem t38_175_s : sizeP Tryd.prog 175 = 1 := by decide +kernel
@[go_sem] theorem t38_175_a : aggP Tryd.prog 175 = true := by decide +kernel
@[go_sem] theorem t38_175_z : zeroP Tryd.prog 175 = some [.str ByteArray.empty] := _root_.id (by kernel_rfl)
@[go_sem] theorem t38_175_o : zeroOK Tryd.prog 175 = true := by decide +kernel
@[go_sem] theorem t38_175_i : zeroI Tryd.prog 175 = some (.agg [.str ByteArray.empty]) := _root_.id (by kernel_rfl)
@[go_sem] theorem t38_175_y : (((Tryd.prog.info? 175).map (·.bytes)).getD 0 ≤ 256) = True := eq_true (by decide +kernel)
@[go_sem] theorem t38_175_b : (bytesP Tryd.prog 175 ≤ 1024) = True := eq_true (by decide +kernel)
@[go_sem] theorem t38_176_h : hasP Tryd.prog 176 = true := by decide +kernel
@[go_sem] theorem t38_176_s : sizeP Tryd.prog 176 = 1 := by decide +kernel
@[go_sem] theorem t38_176_a : aggP Tryd.prog 176 = true := by decide +kernel
@[go_sem] theorem t38_176_z : zeroP Tryd.prog 176 = some [.str ByteArray.empty] := _root_.id (by kernel_rfl)
@[go_sem] theorem t38_176_o : zeroOK Tryd.prog 176 = true := by decide +kernel
@[go_sem] theorem t38_176_i : zeroI Tryd.prog 176 = some (.agg [.str ByteArray.empty]) := _root_.id (by kernel_rfl)
@[go_sem] theorem t38_176_y : (((Tryd.prog.info? 176).map (·.bytes)).getD 0 ≤ 256) = True := eq_true (by decide +kernel)
@[go_sem] theorem t38_176_b : (bytesP Tryd.prog 176 ≤ 1024) = True := eq_true (by decide +kernel)
/-- finesselaw38.zero: no carry. -/
def zerov : IV := .fptr 2 [[.int .i64 0, .int .i64 1]] 0 0
def glT : List (Nat × IV) := [(0, zerov)]
theorem zerov_cl : Cl zerov := .fptr _ _ _ _ fun i row j c h1 h2 => by
  cases i with
  | zero =>
    simp only [List.getElem?_cons_zero, Option.some.injEq] at h1
    subst h1
    have := List.mem_of_getElem? h2
    simp at this
    rcases this with rfl | rfl <;> exact .int _ _
  | succ i => simp at h1
theorem glT_cl : glCl glT := ⟨zerov_cl, trivial⟩
@[go_sem] theorem glT_clT : glCl glT = True := eq_true glT_cl
@[go_sem] theorem glT_get : eget glT 0 = some (.fptr 2 [[.int .i64 0, .int .i64 1]] 0 0) := rfl
@[go_sem] theorem glT_bl {n : Nat} : EnBl n glT = True := eq_true (by unfold glT; rw [EnBl_cons]; exact ⟨zerov_cl.bl, by rw [EnBl_nil]; trivial⟩)
end Go.Idl
