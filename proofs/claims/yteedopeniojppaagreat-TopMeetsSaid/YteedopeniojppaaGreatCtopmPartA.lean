/-
  TopMeets: the types.
-/
import Derived.Test.YteedopeniojppaaGreatProg
import Derived.Test.YteedopeniojppaaGreatIdlPartG
import Derived.KernelRfl
namespace Go.Idl
set_option linter.all false
open Go.Proofs
@[go_sem] theorem ttm_1_h : hasP Tryz.prog 1 = true := by decide +kernel
@[go_sem] theorem ttm_1_s : sizeP Tryz.prog 1 = 1 := by decide +kernel
@[go_sem] theorem ttm_1_a : aggP Tryz.prog 1 = false := by decide +kernel
@[go_sem] theorem ttm_1_z : zeroP Tryz.prog 1 = some [.nilf] := _root_.id (by kernel_rfl)
@[go_sem] theorem ttm_1_o : zeroOK Tryz.prog 1 = true := by decide +kernel
@[go_sem] theorem ttm_1_i : zeroI Tryz.prog 1 = some (.nilf) := _root_.id (by kernel_rfl)
@[go_sem] theorem ttm_1_y : (((Tryz.prog.info? 1).map (·.bytes)).getD 0 ≤ 256) = True := eq_true (by decide +kernel)
@[go_sem] theorem ttm_1_b : (bytesP Tryz.prog 1 ≤ 1024) = True := eq_true (by decide +kernel)
@[go_sem] theorem ttm_2_h : hasP Tryz.prog 2 = true := by decide +kernel
@[go_sem] theorem ttm_2_s : sizeP Tryz.prog 2 = 1 := by decide +kernel
@[go_sem] theorem ttm_2_a : aggP Tryz.prog 2 = false := by decide +kernel
@[go_sem] theorem ttm_2_z : zeroP Tryz.prog 2 = some [.int .i64 0] := _root_.id (by kernel_rfl)
@[go_sem] theorem ttm_2_o : zeroOK Tryz.prog 2 = true := by decide +kernel
@[go_sem] theorem ttm_2_i : zeroI Tryz.prog 2 = some (.int .i64 0) := _root_.id (by kernel_rfl)
@[go_sem] theorem ttm_2_y : (((Tryz.prog.info? 2).map (·.bytes)).getD 0 ≤ 256) = True := eq_true (by decide +kernel)
@[go_sem] theorem ttm_2_b : (bytesP Tryz.prog 2 ≤ 1024) = True := eq_true (by decide +kernel)
@[go_sem] theorem ttm_2_k : keyK Tryz.prog 2 = some [.int .i64] := key_of (by decide +kernel)
@[go_sem] theorem ttm_3_h : hasP Tryz.prog 3 = true := by decide +kernel
@[go_sem] theorem ttm_3_s : sizeP Tryz.prog 3 = 1 := by decide +kernel
@[go_sem] theorem ttm_3_a : aggP Tryz.prog 3 = false := by decide +kernel
@[go_sem] theorem ttm_3_z : zeroP Tryz.prog 3 = some [.int .i64 0] := _root_.id (by kernel_rfl)
@[go_sem] theorem ttm_3_o : zeroOK Tryz.prog 3 = true := by decide +kernel
@[go_sem] theorem ttm_3_i : zeroI Tryz.prog 3 = some (.int .i64 0) := _root_.id (by kernel_rfl)
@[go_sem] theorem ttm_3_y : (((Tryz.prog.info? 3).map (·.bytes)).getD 0 ≤ 256) = True := eq_true (by decide +kernel)
@[go_sem] theorem ttm_3_b : (bytesP Tryz.prog 3 ≤ 1024) = True := eq_true (by decide +kernel)
@[go_sem] theorem ttm_3_k : keyK Tryz.prog 3 = some [.int .i64] := key_of (by decide +kernel)
@[go_sem] theorem ttm_4_h : hasP Tryz.prog 4 = true := by decide +kernel
@[go_sem] theorem ttm_4_s : sizeP Tryz.prog 4 = 1 := by decide +kernel
@[go_sem] theorem ttm_4_a : aggP Tryz.prog 4 = false := by decide +kernel
@[go_sem] theorem ttm_4_z : zeroP Tryz.prog 4 = some [.bool false] := _root_.id (by kernel_rfl)
@[go_sem] theorem ttm_4_o : zeroOK Tryz.prog 4 = true := by decide +kernel
@[go_sem] theorem ttm_4_i : zeroI Tryz.prog 4 = some (.bool false) := _root_.id (by kernel_rfl)
@[go_sem] theorem ttm_4_y : (((Tryz.prog.info? 4).map (·.bytes)).getD 0 ≤ 256) = True := eq_true (by decide +kernel)
@[go_sem] theorem ttm_4_b : (bytesP Tryz.prog 4 ≤ 1024) = True := eq_true (by decide +kernel)
@[go_sem] theorem ttm_4_k : keyK Tryz.prog 4 = some [.bool] := key_of (by decide +kernel)
@[go_sem] theorem ttm_5_h : hasP Tryz.prog 5 = true := by decide +kernel
@[go_sem] theorem ttm_5_s : sizeP Tryz.prog 5 = 1 := by decide +kernel
@[go_sem] theorem ttm_5_a : aggP Tryz.prog 5 = false := by decide +kernel
@[go_sem] theorem ttm_5_z : zeroP Tryz.prog 5 = some [.int .u8 0] := _root_.id (by kernel_rfl)
@[go_sem] theorem ttm_5_o : zeroOK Tryz.prog 5 = true := by decide +kernel
@[go_sem] theorem ttm_5_i : zeroI Tryz.prog 5 = some (.int .u8 0) := _root_.id (by kernel_rfl)
@[go_sem] theorem ttm_5_y : (((Tryz.prog.info? 5).map (·.bytes)).getD 0 ≤ 256) = True := eq_true (by decide +kernel)
@[go_sem] theorem ttm_5_b : (bytesP Tryz.prog 5 ≤ 1024) = True := eq_true (by decide +kernel)
@[go_sem] theorem ttm_5_k : keyK Tryz.prog 5 = some [.int .u8] := key_of (by decide +kernel)
@[go_sem] theorem ttm_6_h : hasP Tryz.prog 6 = true := by decide +kernel
@[go_sem] theorem ttm_6_s : sizeP Tryz.prog 6 = 1 := by decide +kernel
@[go_sem] theorem ttm_6_a : aggP Tryz.prog 6 = false := by decide +kernel
@[go_sem] theorem ttm_6_z : zeroP Tryz.prog 6 = some [.int .u8 0] := _root_.id (by kernel_rfl)
@[go_sem] theorem ttm_6_o : zeroOK Tryz.prog 6 = true := by decide +kernel
@[go_sem] theorem ttm_6_i : zeroI Tryz.prog 6 = some (.int .u8 0) := _root_.id (by kernel_rfl)
@[go_sem] theorem ttm_6_y : (((Tryz.prog.info? 6).map (·.bytes)).getD 0 ≤ 256) = True := eq_true (by decide +kernel)
@[go_sem] theorem ttm_6_b : (bytesP Tryz.prog 6 ≤ 1024) = True := eq_true (by decide +kernel)
@[go_sem] theorem ttm_6_k : keyK Tryz.prog 6 = some [.int .u8] := key_of (by decide +kernel)
@[go_sem] theorem ttm_7_h : hasP Tryz.prog 7 = true := by decide +kernel
@[go_sem] theorem ttm_7_s : sizeP Tryz.prog 7 = 4 := by decide +kernel
@[go_sem] theorem ttm_7_a : aggP Tryz.prog 7 = true := by decide +kernel
@[go_sem] theorem ttm_7_z : zeroP Tryz.prog 7 = some [.int .i64 0, .int .i64 0, .bool false, .int .u8 0] := _root_.id (by kernel_rfl)
@[go_sem] theorem ttm_7_o : zeroOK Tryz.prog 7 = true := by decide +kernel
@[go_sem] theorem ttm_7_i : zeroI Tryz.prog 7 = some (.agg [.int .i64 0, .int .i64 0, .bool false, .int .u8 0]) := _root_.id (by kernel_rfl)
@[go_sem] theorem ttm_7_y : (((Tryz.prog.info? 7).map (·.bytes)).getD 0 ≤ 256) = True := eq_true (by decide +kernel)
@[go_sem] theorem ttm_7_b : (bytesP Tryz.prog 7 ≤ 1024) = True := eq_true (by decide +kernel)
@[go_sem] theorem ttm_7_f : flatP Tryz.prog 7 = some [.int .i64, .int .i64, .bool, .int .u8] := flat_of (by decide +kernel)
@[go_sem] theorem ttm_7_k : keyK Tryz.prog 7 = some [.int .i64, .int .i64, .bool, .int .u8] := key_of (by decide +kernel)
@[go_sem] theorem ttm_8_h : hasP Tryz.prog 8 = true := by decide +kernel
@[go_sem] theorem ttm_8_s : sizeP Tryz.prog 8 = 4 := by decide +kernel
@[go_sem] theorem ttm_8_a : aggP Tryz.prog 8 = true := by decide +kernel
@[go_sem] theorem ttm_8_z : zeroP Tryz.prog 8 = some [.int .i64 0, .int .i64 0, .bool false, .int .u8 0] := _root_.id (by kernel_rfl)
@[go_sem] theorem ttm_8_o : zeroOK Tryz.prog 8 = true := by decide +kernel
@[go_sem] theorem ttm_8_i : zeroI Tryz.prog 8 = some (.agg [.int .i64 0, .int .i64 0, .bool false, .int .u8 0]) := _root_.id (by kernel_rfl)
@[go_sem] theorem ttm_8_y : (((Tryz.prog.info? 8).map (·.bytes)).getD 0 ≤ 256) = True := eq_true (by decide +kernel)
@[go_sem] theorem ttm_8_b : (bytesP Tryz.prog 8 ≤ 1024) = True := eq_true (by decide +kernel)
@[go_sem] theorem ttm_8_f : flatP Tryz.prog 8 = some [.int .i64, .int .i64, .bool, .int .u8] := flat_of (by decide +kernel)
@[go_sem] theorem ttm_8_k : keyK Tryz.prog 8 = some [.int .i64, .int .i64, .bool, .int .u8] := key_of (by decide +kernel)
@[go_sem] theorem ttm_9_h : hasP Tryz.prog 9 = true := by decide +kernel
@[go_sem] theorem ttm_9_s : sizeP Tryz.prog 9 = 1 := by decide +kernel
@[go_sem] theorem ttm_9_a : aggP Tryz.prog 9 = false := by decide +kernel
@[go_sem] theorem ttm_9_z : zeroP Tryz.prog 9 = some [.str ByteArray.empty] := _root_.id (by kernel_rfl)
@[go_sem] theorem ttm_9_o : zeroOK Tryz.prog 9 = true := by decide +kernel
@[go_sem] theorem ttm_9_i : zeroI Tryz.prog 9 = some (.str ByteArray.empty) := _root_.id (by kernel_rfl)
@[go_sem] theorem ttm_9_y : (((Tryz.prog.info? 9).map (·.bytes)).getD 0 ≤ 256) = True := eq_true (by decide +kernel)
@[go_sem] theorem ttm_9_b : (bytesP Tryz.prog 9 ≤ 1024) = True := eq_true (by decide +kernel)
@[go_sem] theorem ttm_9_k : keyK Tryz.prog 9 = some [.string] := key_of (by decide +kernel)
@[go_sem] theorem ttm_10_h : hasP Tryz.prog 10 = true := by decide +kernel
@[go_sem] theorem ttm_10_s : sizeP Tryz.prog 10 = 1 := by decide +kernel
@[go_sem] theorem ttm_10_a : aggP Tryz.prog 10 = false := by decide +kernel
@[go_sem] theorem ttm_10_z : zeroP Tryz.prog 10 = some [.str ByteArray.empty] := _root_.id (by kernel_rfl)
@[go_sem] theorem ttm_10_o : zeroOK Tryz.prog 10 = true := by decide +kernel
@[go_sem] theorem ttm_10_i : zeroI Tryz.prog 10 = some (.str ByteArray.empty) := _root_.id (by kernel_rfl)
@[go_sem] theorem ttm_10_y : (((Tryz.prog.info? 10).map (·.bytes)).getD 0 ≤ 256) = True := eq_true (by decide +kernel)
@[go_sem] theorem ttm_10_b : (bytesP Tryz.prog 10 ≤ 1024) = True := eq_true (by decide +kernel)
@[go_sem] theorem ttm_10_k : keyK Tryz.prog 10 = some [.string] := key_of (by decide +kernel)
@[go_sem] theorem ttm_11_h : hasP Tryz.prog 11 = true := by decide +kernel
@[go_sem] theorem ttm_11_s : sizeP Tryz.prog 11 = 1 := by decide +kernel
@[go_sem] theorem ttm_11_a : aggP Tryz.prog 11 = false := by decide +kernel
@[go_sem] theorem ttm_11_z : zeroP Tryz.prog 11 = some [.str ByteArray.empty] := _root_.id (by kernel_rfl)
@[go_sem] theorem ttm_11_o : zeroOK Tryz.prog 11 = true := by decide +kernel
@[go_sem] theorem ttm_11_i : zeroI Tryz.prog 11 = some (.str ByteArray.empty) := _root_.id (by kernel_rfl)
@[go_sem] theorem ttm_11_y : (((Tryz.prog.info? 11).map (·.bytes)).getD 0 ≤ 256) = True := eq_true (by decide +kernel)
@[go_sem] theorem ttm_11_b : (bytesP Tryz.prog 11 ≤ 1024) = True := eq_true (by decide +kernel)
@[go_sem] theorem ttm_11_k : keyK Tryz.prog 11 = some [.string] := key_of (by decide +kernel)
@[go_sem] theorem ttm_12_h : hasP Tryz.prog 12 = true := by decide +kernel
@[go_sem] theorem ttm_12_s : sizeP Tryz.prog 12 = 1 := by decide +kernel
@[go_sem] theorem ttm_12_a : aggP Tryz.prog 12 = false := by decide +kernel
@[go_sem] theorem ttm_12_z : zeroP Tryz.prog 12 = some [.int .u64 0] := _root_.id (by kernel_rfl)
@[go_sem] theorem ttm_12_o : zeroOK Tryz.prog 12 = true := by decide +kernel
@[go_sem] theorem ttm_12_i : zeroI Tryz.prog 12 = some (.int .u64 0) := _root_.id (by kernel_rfl)
@[go_sem] theorem ttm_12_y : (((Tryz.prog.info? 12).map (·.bytes)).getD 0 ≤ 256) = True := eq_true (by decide +kernel)
@[go_sem] theorem ttm_12_b : (bytesP Tryz.prog 12 ≤ 1024) = True := eq_true (by decide +kernel)
@[go_sem] theorem ttm_12_k : keyK Tryz.prog 12 = some [.int .u64] := key_of (by decide +kernel)
@[go_sem] theorem ttm_13_h : hasP Tryz.prog 13 = true := by decide +kernel
@[go_sem] theorem ttm_13_s : sizeP Tryz.prog 13 = 2 := by decide +kernel
@[go_sem] theorem ttm_13_a : aggP Tryz.prog 13 = true := by decide +kernel
@[go_sem] theorem ttm_13_z : zeroP Tryz.prog 13 = some [.str ByteArray.empty, .int .u64 0] := _root_.id (by kernel_rfl)
@[go_sem] theorem ttm_13_o : zeroOK Tryz.prog 13 = true := by decide +kernel
@[go_sem] theorem ttm_13_i : zeroI Tryz.prog 13 = some (.agg [.str ByteArray.empty, .int .u64 0]) := _root_.id (by kernel_rfl)
@[go_sem] theorem ttm_13_y : (((Tryz.prog.info? 13).map (·.bytes)).getD 0 ≤ 256) = True := eq_true (by decide +kernel)
@[go_sem] theorem ttm_13_b : (bytesP Tryz.prog 13 ≤ 1024) = True := eq_true (by decide +kernel)
@[go_sem] theorem ttm_14_h : hasP Tryz.prog 14 = true := by decide +kernel
@[go_sem] theorem ttm_14_s : sizeP Tryz.prog 14 = 2 := by decide +kernel
@[go_sem] theorem ttm_14_a : aggP Tryz.prog 14 = true := by decide +kernel
@[go_sem] theorem ttm_14_z : zeroP Tryz.prog 14 = some [.str ByteArray.empty, .int .u64 0] := _root_.id (by kernel_rfl)
@[go_sem] theorem ttm_14_o : zeroOK Tryz.prog 14 = true := by decide +kernel
@[go_sem] theorem ttm_14_i : zeroI Tryz.prog 14 = some (.agg [.str ByteArray.empty, .int .u64 0]) := _root_.id (by kernel_rfl)
@[go_sem] theorem ttm_14_y : (((Tryz.prog.info? 14).map (·.bytes)).getD 0 ≤ 256) = True := eq_true (by decide +kernel)
@[go_sem] theorem ttm_14_b : (bytesP Tryz.prog 14 ≤ 1024) = True := eq_true (by decide +kernel)
@[go_sem] theorem ttm_15_h : hasP Tryz.prog 15 = true := by decide +kernel
@[go_sem] theorem ttm_15_s : sizeP Tryz.prog 15 = 1 := by decide +kernel
@[go_sem] theorem ttm_15_a : aggP Tryz.prog 15 = false := by decide +kernel
@[go_sem] theorem ttm_15_z : zeroP Tryz.prog 15 = some [.nilp] := _root_.id (by kernel_rfl)
@[go_sem] theorem ttm_15_o : zeroOK Tryz.prog 15 = true := by decide +kernel
@[go_sem] theorem ttm_15_i : zeroI Tryz.prog 15 = some (.nilp) := _root_.id (by kernel_rfl)
@[go_sem] theorem ttm_15_y : (((Tryz.prog.info? 15).map (·.bytes)).getD 0 ≤ 256) = True := eq_true (by decide +kernel)
@[go_sem] theorem ttm_15_b : (bytesP Tryz.prog 15 ≤ 1024) = True := eq_true (by decide +kernel)
@[go_sem] theorem ttm_16_h : hasP Tryz.prog 16 = true := by decide +kernel
@[go_sem] theorem ttm_16_s : sizeP Tryz.prog 16 = 1 := by decide +kernel
@[go_sem] theorem ttm_16_a : aggP Tryz.prog 16 = false := by decide +kernel
@[go_sem] theorem ttm_16_z : zeroP Tryz.prog 16 = some [.nilp] := _root_.id (by kernel_rfl)
@[go_sem] theorem ttm_16_o : zeroOK Tryz.prog 16 = true := by decide +kernel
@[go_sem] theorem ttm_16_i : zeroI Tryz.prog 16 = some (.nilp) := _root_.id (by kernel_rfl)
@[go_sem] theorem ttm_16_y : (((Tryz.prog.info? 16).map (·.bytes)).getD 0 ≤ 256) = True := eq_true (by decide +kernel)
@[go_sem] theorem ttm_16_b : (bytesP Tryz.prog 16 ≤ 1024) = True := eq_true (by decide +kernel)
@[go_sem] theorem ttm_17_h : hasP Tryz.prog 17 = true := by decide +kernel
@[go_sem] theorem ttm_17_s : sizeP Tryz.prog 17 = 1 := by decide +kernel
@[go_sem] theorem ttm_17_a : aggP Tryz.prog 17 = false := by decide +kernel
@[go_sem] theorem ttm_17_z : zeroP Tryz.prog 17 = some [.nilp] := _root_.id (by kernel_rfl)
@[go_sem] theorem ttm_17_o : zeroOK Tryz.prog 17 = true := by decide +kernel
@[go_sem] theorem ttm_17_i : zeroI Tryz.prog 17 = some (.nilp) := _root_.id (by kernel_rfl)
@[go_sem] theorem ttm_17_y : (((Tryz.prog.info? 17).map (·.bytes)).getD 0 ≤ 256) = True := eq_true (by decide +kernel)
@[go_sem] theorem ttm_17_b : (bytesP Tryz.prog 17 ≤ 1024) = True := eq_true (by decide +kernel)
@[go_sem] theorem ttm_18_h : hasP Tryz.prog 18 = true := by decide +kernel
@[go_sem] theorem ttm_18_s : sizeP Tryz.prog 18 = 1 := by decide +kernel
@[go_sem] theorem ttm_18_a : aggP Tryz.prog 18 = true := by decide +kernel
@[go_sem] theorem ttm_18_z : zeroP Tryz.prog 18 = some [.nilp] := _root_.id (by kernel_rfl)
@[go_sem] theorem ttm_18_o : zeroOK Tryz.prog 18 = true := by decide +kernel
@[go_sem] theorem ttm_18_i : zeroI Tryz.prog 18 = some (.agg [.nilp]) := _root_.id (by kernel_rfl)
@[go_sem] theorem ttm_18_y : (((Tryz.prog.info? 18).map (·.bytes)).getD 0 ≤ 256) = True := eq_true (by decide +kernel)
@[go_sem] theorem ttm_18_b : (bytesP Tryz.prog 18 ≤ 1024) = True := eq_true (by decide +kernel)
@[go_sem] theorem ttm_19_h : hasP Tryz.prog 19 = true := by decide +kernel
@[go_sem] theorem ttm_19_s : sizeP Tryz.prog 19 = 1 := by decide +kernel
@[go_sem] theorem ttm_19_a : aggP Tryz.prog 19 = true := by decide +kernel
@[go_sem] theorem ttm_19_z : zeroP Tryz.prog 19 = some [.nilp] := _root_.id (by kernel_rfl)
@[go_sem] theorem ttm_19_o : zeroOK Tryz.prog 19 = true := by decide +kernel
@[go_sem] theorem ttm_19_i : zeroI Tryz.prog 19 = some (.agg [.nilp]) := _root_.id (by kernel_rfl)
@[go_sem] theorem ttm_19_y : (((Tryz.prog.info? 19).map (·.bytes)).getD 0 ≤ 256) = True := eq_true (by decide +kernel)
@[go_sem] theorem ttm_19_b : (bytesP Tryz.prog 19 ≤ 1024) = True := eq_true (by decide +kernel)
@[go_sem] theorem ttm_21_h : hasP Tryz.prog 21 = true := by decide +kernel
@[go_sem] theorem ttm_21_s : sizeP Tryz.prog 21 = 1 := by decide +kernel
@[go_sem] theorem ttm_21_a : aggP Tryz.prog 21 = false := by decide +kernel
@[go_sem] theorem ttm_21_z : zeroP Tryz.prog 21 = some [.int .i32 0] := _root_.id (by kernel_rfl)
@[go_sem] theorem ttm_21_o : zeroOK Tryz.prog 21 = true := by decide +kernel
@[go_sem] theorem ttm_21_i : zeroI Tryz.prog 21 = some (.int .i32 0) := _root_.id (by kernel_rfl)
@[go_sem] theorem ttm_21_y : (((Tryz.prog.info? 21).map (·.bytes)).getD 0 ≤ 256) = True := eq_true (by decide +kernel)
@[go_sem] theorem ttm_21_b : (bytesP Tryz.prog 21 ≤ 1024) = True := eq_true (by decide +kernel)
@[go_sem] theorem ttm_21_k : keyK Tryz.prog 21 = some [.int .i32] := key_of (by decide +kernel)
@[go_sem] theorem ttm_22_h : hasP Tryz.prog 22 = true := by decide +kernel
@[go_sem] theorem ttm_22_s : sizeP Tryz.prog 22 = 1 := by decide +kernel
@[go_sem] theorem ttm_22_a : aggP Tryz.prog 22 = false := by decide +kernel
@[go_sem] theorem ttm_22_z : zeroP Tryz.prog 22 = some [.int .u16 0] := _root_.id (by kernel_rfl)
@[go_sem] theorem ttm_22_o : zeroOK Tryz.prog 22 = true := by decide +kernel
@[go_sem] theorem ttm_22_i : zeroI Tryz.prog 22 = some (.int .u16 0) := _root_.id (by kernel_rfl)
@[go_sem] theorem ttm_22_y : (((Tryz.prog.info? 22).map (·.bytes)).getD 0 ≤ 256) = True := eq_true (by decide +kernel)
@[go_sem] theorem ttm_22_b : (bytesP Tryz.prog 22 ≤ 1024) = True := eq_true (by decide +kernel)
@[go_sem] theorem ttm_22_k : keyK Tryz.prog 22 = some [.int .u16] := key_of (by decide +kernel)
@[go_sem] theorem ttm_23_h : hasP Tryz.prog 23 = true := by decide +kernel
@[go_sem] theorem ttm_23_s : sizeP Tryz.prog 23 = 6 := by decide +kernel
@[go_sem] theorem ttm_23_a : aggP Tryz.prog 23 = true := by decide +kernel
@[go_sem] theorem ttm_23_z : zeroP Tryz.prog 23 = some [.int .u8 0, .int .u8 0, .int .u8 0, .int .u8 0, .int .u8 0, .int .u16 0] := _root_.id (by kernel_rfl)
@[go_sem] theorem ttm_23_o : zeroOK Tryz.prog 23 = true := by decide +kernel
@[go_sem] theorem ttm_23_i : zeroI Tryz.prog 23 = some (.agg [.int .u8 0, .int .u8 0, .int .u8 0, .int .u8 0, .int .u8 0, .int .u16 0]) := _root_.id (by kernel_rfl)
@[go_sem] theorem ttm_23_y : (((Tryz.prog.info? 23).map (·.bytes)).getD 0 ≤ 256) = True := eq_true (by decide +kernel)
@[go_sem] theorem ttm_23_b : (bytesP Tryz.prog 23 ≤ 1024) = True := eq_true (by decide +kernel)
@[go_sem] theorem ttm_23_f : flatP Tryz.prog 23 = some [.int .u8, .int .u8, .int .u8, .int .u8, .int .u8, .int .u16] := flat_of (by decide +kernel)
@[go_sem] theorem ttm_23_k : keyK Tryz.prog 23 = some [.int .u8, .int .u8, .int .u8, .int .u8, .int .u8, .int .u16] := key_of (by decide +kernel)
@[go_sem] theorem ttm_24_h : hasP Tryz.prog 24 = true := by decide +kernel
@[go_sem] theorem ttm_24_s : sizeP Tryz.prog 24 = 6 := by decide +kernel
@[go_sem] theorem ttm_24_a : aggP Tryz.prog 24 = true := by decide +kernel
@[go_sem] theorem ttm_24_z : zeroP Tryz.prog 24 = some [.int .u8 0, .int .u8 0, .int .u8 0, .int .u8 0, .int .u8 0, .int .u16 0] := _root_.id (by kernel_rfl)
@[go_sem] theorem ttm_24_o : zeroOK Tryz.prog 24 = true := by decide +kernel
@[go_sem] theorem ttm_24_i : zeroI Tryz.prog 24 = some (.agg [.int .u8 0, .int .u8 0, .int .u8 0, .int .u8 0, .int .u8 0, .int .u16 0]) := _root_.id (by kernel_rfl)
@[go_sem] theorem ttm_24_y : (((Tryz.prog.info? 24).map (·.bytes)).getD 0 ≤ 256) = True := eq_true (by decide +kernel)
@[go_sem] theorem ttm_24_b : (bytesP Tryz.prog 24 ≤ 1024) = True := eq_true (by decide +kernel)
@[go_sem] theorem ttm_24_f : flatP Tryz.prog 24 = some [.int .u8, .int .u8, .int .u8, .int .u8, .int .u8, .int .u16] := flat_of (by decide +kernel)
@[go_sem] theorem ttm_24_k : keyK Tryz.prog 24 = some [.int .u8, .int .u8, .int .u8, .int .u8, .int .u8, .int .u16] := key_of (by decide +kernel)
@[go_sem] theorem ttm_25_h : hasP Tryz.prog 25 = true := by decide +kernel
@[go_sem] theorem ttm_25_s : sizeP Tryz.prog 25 = 1 := by decide +kernel
@[go_sem] theorem ttm_25_a : aggP Tryz.prog 25 = false := by decide +kernel
@[go_sem] theorem ttm_25_z : zeroP Tryz.prog 25 = some [.nils] := _root_.id (by kernel_rfl)
@[go_sem] theorem ttm_25_o : zeroOK Tryz.prog 25 = true := by decide +kernel
@[go_sem] theorem ttm_25_i : zeroI Tryz.prog 25 = some (.nils) := _root_.id (by kernel_rfl)
@[go_sem] theorem ttm_25_y : (((Tryz.prog.info? 25).map (·.bytes)).getD 0 ≤ 256) = True := eq_true (by decide +kernel)
@[go_sem] theorem ttm_25_b : (bytesP Tryz.prog 25 ≤ 1024) = True := eq_true (by decide +kernel)
@[go_sem] theorem ttm_26_h : hasP Tryz.prog 26 = true := by decide +kernel
@[go_sem] theorem ttm_26_s : sizeP Tryz.prog 26 = 6 := by decide +kernel
@[go_sem] theorem ttm_26_a : aggP Tryz.prog 26 = true := by decide +kernel
@[go_sem] theorem ttm_26_z : zeroP Tryz.prog 26 = some [.int .i64 0, .int .i64 0, .int .i64 0, .int .i64 0, .int .i64 0, .nils] := _root_.id (by kernel_rfl)
@[go_sem] theorem ttm_26_o : zeroOK Tryz.prog 26 = true := by decide +kernel
@[go_sem] theorem ttm_26_i : zeroI Tryz.prog 26 = some (.agg [.int .i64 0, .int .i64 0, .int .i64 0, .int .i64 0, .int .i64 0, .nils]) := _root_.id (by kernel_rfl)
@[go_sem] theorem ttm_26_y : (((Tryz.prog.info? 26).map (·.bytes)).getD 0 ≤ 256) = True := eq_true (by decide +kernel)
@[go_sem] theorem ttm_26_b : (bytesP Tryz.prog 26 ≤ 1024) = True := eq_true (by decide +kernel)
@[go_sem] theorem ttm_27_h : hasP Tryz.prog 27 = true := by decide +kernel
@[go_sem] theorem ttm_27_s : sizeP Tryz.prog 27 = 6 := by decide +kernel
@[go_sem] theorem ttm_27_a : aggP Tryz.prog 27 = true := by decide +kernel
@[go_sem] theorem ttm_27_z : zeroP Tryz.prog 27 = some [.int .i64 0, .int .i64 0, .int .i64 0, .int .i64 0, .int .i64 0, .nils] := _root_.id (by kernel_rfl)
@[go_sem] theorem ttm_27_o : zeroOK Tryz.prog 27 = true := by decide +kernel
@[go_sem] theorem ttm_27_i : zeroI Tryz.prog 27 = some (.agg [.int .i64 0, .int .i64 0, .int .i64 0, .int .i64 0, .int .i64 0, .nils]) := _root_.id (by kernel_rfl)
@[go_sem] theorem ttm_27_y : (((Tryz.prog.info? 27).map (·.bytes)).getD 0 ≤ 256) = True := eq_true (by decide +kernel)
@[go_sem] theorem ttm_27_b : (bytesP Tryz.prog 27 ≤ 1024) = True := eq_true (by decide +kernel)
@[go_sem] theorem ttm_28_h : hasP Tryz.prog 28 = true := by decide +kernel
@[go_sem] theorem ttm_28_s : sizeP Tryz.prog 28 = 7 := by decide +kernel
@[go_sem] theorem ttm_28_a : aggP Tryz.prog 28 = true := by decide +kernel
@[go_sem] theorem ttm_28_z : zeroP Tryz.prog 28 = some [.int .i64 0, .int .i64 0, .int .i64 0, .int .i64 0, .int .i64 0, .nils, .int .i64 0] := _root_.id (by kernel_rfl)
@[go_sem] theorem ttm_28_o : zeroOK Tryz.prog 28 = true := by decide +kernel
@[go_sem] theorem ttm_28_i : zeroI Tryz.prog 28 = some (.agg [.int .i64 0, .int .i64 0, .int .i64 0, .int .i64 0, .int .i64 0, .nils, .int .i64 0]) := _root_.id (by kernel_rfl)
@[go_sem] theorem ttm_28_y : (((Tryz.prog.info? 28).map (·.bytes)).getD 0 ≤ 256) = True := eq_true (by decide +kernel)
@[go_sem] theorem ttm_28_b : (bytesP Tryz.prog 28 ≤ 1024) = True := eq_true (by decide +kernel)
@[go_sem] theorem ttm_29_h : hasP Tryz.prog 29 = true := by decide +kernel
@[go_sem] theorem ttm_29_s : sizeP Tryz.prog 29 = 7 := by decide +kernel
@[go_sem] theorem ttm_29_a : aggP Tryz.prog 29 = true := by decide +kernel
@[go_sem] theorem ttm_29_z : zeroP Tryz.prog 29 = some [.int .i64 0, .int .i64 0, .int .i64 0, .int .i64 0, .int .i64 0, .nils, .int .i64 0] := _root_.id (by kernel_rfl)
@[go_sem] theorem ttm_29_o : zeroOK Tryz.prog 29 = true := by decide +kernel
@[go_sem] theorem ttm_29_i : zeroI Tryz.prog 29 = some (.agg [.int .i64 0, .int .i64 0, .int .i64 0, .int .i64 0, .int .i64 0, .nils, .int .i64 0]) := _root_.id (by kernel_rfl)
@[go_sem] theorem ttm_29_y : (((Tryz.prog.info? 29).map (·.bytes)).getD 0 ≤ 256) = True := eq_true (by decide +kernel)
@[go_sem] theorem ttm_29_b : (bytesP Tryz.prog 29 ≤ 1024) = True := eq_true (by decide +kernel)
@[go_sem] theorem ttm_31_h : hasP Tryz.prog 31 = true := by decide +kernel
@[go_sem] theorem ttm_31_s : sizeP Tryz.prog 31 = 1 := by decide +kernel
@[go_sem] theorem ttm_31_a : aggP Tryz.prog 31 = false := by decide +kernel
@[go_sem] theorem ttm_31_z : zeroP Tryz.prog 31 = some [.nilf] := _root_.id (by kernel_rfl)
@[go_sem] theorem ttm_31_o : zeroOK Tryz.prog 31 = true := by decide +kernel
@[go_sem] theorem ttm_31_i : zeroI Tryz.prog 31 = some (.nilf) := _root_.id (by kernel_rfl)
@[go_sem] theorem ttm_31_y : (((Tryz.prog.info? 31).map (·.bytes)).getD 0 ≤ 256) = True := eq_true (by decide +kernel)
@[go_sem] theorem ttm_31_b : (bytesP Tryz.prog 31 ≤ 1024) = True := eq_true (by decide +kernel)
@[go_sem] theorem ttm_32_h : hasP Tryz.prog 32 = true := by decide +kernel
@[go_sem] theorem ttm_32_s : sizeP Tryz.prog 32 = 1 := by decide +kernel
@[go_sem] theorem ttm_32_a : aggP Tryz.prog 32 = false := by decide +kernel
@[go_sem] theorem ttm_32_z : zeroP Tryz.prog 32 = some [.nils] := _root_.id (by kernel_rfl)
@[go_sem] theorem ttm_32_o : zeroOK Tryz.prog 32 = true := by decide +kernel
@[go_sem] theorem ttm_32_i : zeroI Tryz.prog 32 = some (.nils) := _root_.id (by kernel_rfl)
@[go_sem] theorem ttm_32_y : (((Tryz.prog.info? 32).map (·.bytes)).getD 0 ≤ 256) = True := eq_true (by decide +kernel)
@[go_sem] theorem ttm_32_b : (bytesP Tryz.prog 32 ≤ 1024) = True := eq_true (by decide +kernel)
@[go_sem] theorem ttm_33_h : hasP Tryz.prog 33 = true := by decide +kernel
@[go_sem] theorem ttm_33_s : sizeP Tryz.prog 33 = 1 := by decide +kernel
@[go_sem] theorem ttm_33_a : aggP Tryz.prog 33 = false := by decide +kernel
@[go_sem] theorem ttm_33_z : zeroP Tryz.prog 33 = some [.int .i64 0] := _root_.id (by kernel_rfl)
@[go_sem] theorem ttm_33_o : zeroOK Tryz.prog 33 = true := by decide +kernel
@[go_sem] theorem ttm_33_i : zeroI Tryz.prog 33 = some (.int .i64 0) := _root_.id (by kernel_rfl)
@[go_sem] theorem ttm_33_y : (((Tryz.prog.info? 33).map (·.bytes)).getD 0 ≤ 256) = True := eq_true (by decide +kernel)
@[go_sem] theorem ttm_33_b : (bytesP Tryz.prog 33 ≤ 1024) = True := eq_true (by decide +kernel)
@[go_sem] theorem ttm_33_k : keyK Tryz.prog 33 = some [.int .i64] := key_of (by decide +kernel)
@[go_sem] theorem ttm_35_h : hasP Tryz.prog 35 = true := by decide +kernel
@[go_sem] theorem ttm_35_s : sizeP Tryz.prog 35 = 1 := by decide +kernel
@[go_sem] theorem ttm_35_a : aggP Tryz.prog 35 = false := by decide +kernel
@[go_sem] theorem ttm_35_z : zeroP Tryz.prog 35 = some [.nilf] := _root_.id (by kernel_rfl)
@[go_sem] theorem ttm_35_o : zeroOK Tryz.prog 35 = true := by decide +kernel
@[go_sem] theorem ttm_35_i : zeroI Tryz.prog 35 = some (.nilf) := _root_.id (by kernel_rfl)
@[go_sem] theorem ttm_35_y : (((Tryz.prog.info? 35).map (·.bytes)).getD 0 ≤ 256) = True := eq_true (by decide +kernel)
@[go_sem] theorem ttm_35_b : (bytesP Tryz.prog 35 ≤ 1024) = True := eq_true (by decide +kernel)
@[go_sem] theorem ttm_36_h : hasP Tryz.prog 36 = true := by decide +kernel
@[go_sem] theorem ttm_36_s : sizeP Tryz.prog 36 = 1 := by decide +kernel
@[go_sem] theorem ttm_36_a : aggP Tryz.prog 36 = false := by decide +kernel
@[go_sem] theorem ttm_36_z : zeroP Tryz.prog 36 = some [.nilf] := _root_.id (by kernel_rfl)
@[go_sem] theorem ttm_36_o : zeroOK Tryz.prog 36 = true := by decide +kernel
@[go_sem] theorem ttm_36_i : zeroI Tryz.prog 36 = some (.nilf) := _root_.id (by kernel_rfl)
@[go_sem] theorem ttm_36_y : (((Tryz.prog.info? 36).map (·.bytes)).getD 0 ≤ 256) = True := eq_true (by decide +kernel)
@[go_sem] theorem ttm_36_b : (bytesP Tryz.prog 36 ≤ 1024) = True := eq_true (by decide +kernel)
@[go_sem] theorem ttm_37_h : hasP Tryz.prog 37 = true := by decide +kernel
@[go_sem] theorem ttm_37_s : sizeP Tryz.prog 37 = 1 := by decide +kernel
@[go_sem] theorem ttm_37_a : aggP Tryz.prog 37 = false := by decide +kernel
@[go_sem] theorem ttm_37_z : zeroP Tryz.prog 37 = some [.nilm] := _root_.id (by kernel_rfl)
@[go_sem] theorem ttm_37_o : zeroOK Tryz.prog 37 = true := by decide +kernel
@[go_sem] theorem ttm_37_i : zeroI Tryz.prog 37 = some (.nilm) := _root_.id (by kernel_rfl)
@[go_sem] theorem ttm_37_y : (((Tryz.prog.info? 37).map (·.bytes)).getD 0 ≤ 256) = True := eq_true (by decide +kernel)
@[go_sem] theorem ttm_37_b : (bytesP Tryz.prog 37 ≤ 1024) = True := eq_true (by decide +kernel)
@[go_sem] theorem ttm_38_h : hasP Tryz.prog 38 = true := by decide +kernel
@[go_sem] theorem ttm_38_s : sizeP Tryz.prog 38 = 3 := by decide +kernel
@[go_sem] theorem ttm_38_a : aggP Tryz.prog 38 = true := by decide +kernel
@[go_sem] theorem ttm_38_z : zeroP Tryz.prog 38 = some [.int .i64 0, .int .i64 0, .int .i64 0] := _root_.id (by kernel_rfl)
@[go_sem] theorem ttm_38_o : zeroOK Tryz.prog 38 = true := by decide +kernel
@[go_sem] theorem ttm_38_i : zeroI Tryz.prog 38 = some (.agg [.int .i64 0, .int .i64 0, .int .i64 0]) := _root_.id (by kernel_rfl)
@[go_sem] theorem ttm_38_y : (((Tryz.prog.info? 38).map (·.bytes)).getD 0 ≤ 256) = True := eq_true (by decide +kernel)
@[go_sem] theorem ttm_38_b : (bytesP Tryz.prog 38 ≤ 1024) = True := eq_true (by decide +kernel)
@[go_sem] theorem ttm_38_f : flatP Tryz.prog 38 = some [.int .i64, .int .i64, .int .i64] := flat_of (by decide +kernel)
@[go_sem] theorem ttm_38_k : keyK Tryz.prog 38 = some [.int .i64, .int .i64, .int .i64] := key_of (by decide +kernel)
@[go_sem] theorem ttm_39_h : hasP Tryz.prog 39 = true := by decide +kernel
@[go_sem] theorem ttm_39_s : sizeP Tryz.prog 39 = 3 := by decide +kernel
@[go_sem] theorem ttm_39_a : aggP Tryz.prog 39 = true := by decide +kernel
@[go_sem] theorem ttm_39_z : zeroP Tryz.prog 39 = some [.int .i64 0, .int .i64 0, .int .i64 0] := _root_.id (by kernel_rfl)
@[go_sem] theorem ttm_39_o : zeroOK Tryz.prog 39 = true := by decide +kernel
@[go_sem] theorem ttm_39_i : zeroI Tryz.prog 39 = some (.agg [.int .i64 0, .int .i64 0, .int .i64 0]) := _root_.id (by kernel_rfl)
@[go_sem] theorem ttm_39_y : (((Tryz.prog.info? 39).map (·.bytes)).getD 0 ≤ 256) = True := eq_true (by decide +kernel)
@[go_sem] theorem ttm_39_b : (bytesP Tryz.prog 39 ≤ 1024) = True := eq_true (by decide +kernel)
@[go_sem] theorem ttm_39_f : flatP Tryz.prog 39 = some [.int .i64, .int .i64, .int .i64] := flat_of (by decide +kernel)
@[go_sem] theorem ttm_39_k : keyK Tryz.prog 39 = some [.int .i64, .int .i64, .int .i64] := key_of (by decide +kernel)
@[go_sem] theorem ttm_40_h : hasP Tryz.prog 40 = true := by decide +kernel
@[go_sem] theorem ttm_40_s : sizeP Tryz.prog 40 = 5 := by decide +kernel
@[go_sem] theorem ttm_40_a : aggP Tryz.prog 40 = true := by decide +kernel
@[go_sem] theorem ttm_40_z : zeroP Tryz.prog 40 = some [.int .i64 0, .int .i64 0, .int .i64 0, .int .i64 0, .int .i64 0] := _root_.id (by kernel_rfl)
@[go_sem] theorem ttm_40_o : zeroOK Tryz.prog 40 = true := by decide +kernel
@[go_sem] theorem ttm_40_i : zeroI Tryz.prog 40 = some (.agg [.int .i64 0, .int .i64 0, .int .i64 0, .int .i64 0, .int .i64 0]) := _root_.id (by kernel_rfl)
@[go_sem] theorem ttm_40_y : (((Tryz.prog.info? 40).map (·.bytes)).getD 0 ≤ 256) = True := eq_true (by decide +kernel)
@[go_sem] theorem ttm_40_b : (bytesP Tryz.prog 40 ≤ 1024) = True := eq_true (by decide +kernel)
@[go_sem] theorem ttm_40_f : flatP Tryz.prog 40 = some [.int .i64, .int .i64, .int .i64, .int .i64, .int .i64] := flat_of (by decide +kernel)
@[go_sem] theorem ttm_40_k : keyK Tryz.prog 40 = some [.int .i64, .int .i64, .int .i64, .int .i64, .int .i64] := key_of (by decide +kernel)
@[go_sem] theorem ttm_41_h : hasP Tryz.prog 41 = true := by decide +kernel
@[go_sem] theorem ttm_41_s : sizeP Tryz.prog 41 = 5 := by decide +kernel
@[go_sem] theorem ttm_41_a : aggP Tryz.prog 41 = true := by decide +kernel
@[go_sem] theorem ttm_41_z : zeroP Tryz.prog 41 = some [.int .i64 0, .int .i64 0, .int .i64 0, .int .i64 0, .int .i64 0] := _root_.id (by kernel_rfl)
@[go_sem] theorem ttm_41_o : zeroOK Tryz.prog 41 = true := by decide +kernel
@[go_sem] theorem ttm_41_i : zeroI Tryz.prog 41 = some (.agg [.int .i64 0, .int .i64 0, .int .i64 0, .int .i64 0, .int .i64 0]) := _root_.id (by kernel_rfl)
@[go_sem] theorem ttm_41_y : (((Tryz.prog.info? 41).map (·.bytes)).getD 0 ≤ 256) = True := eq_true (by decide +kernel)
@[go_sem] theorem ttm_41_b : (bytesP Tryz.prog 41 ≤ 1024) = True := eq_true (by decide +kernel)
@[go_sem] theorem ttm_41_f : flatP Tryz.prog 41 = some [.int .i64, .int .i64, .int .i64, .int .i64, .int .i64] := flat_of (by decide +kernel)
@[go_sem] theorem ttm_41_k : keyK Tryz.prog 41 = some [.int .i64, .int .i64, .int .i64, .int .i64, .int .i64] := key_of (by decide +kernel)
@[go_sem] theorem ttm_42_h : hasP Tryz.prog 42 = true := by decide +kernel
@[go_sem] theorem ttm_42_s : sizeP Tryz.prog 42 = 1 := by decide +kernel
@[go_sem] theorem ttm_42_a : aggP Tryz.prog 42 = false := by decide +kernel
@[go_sem] theorem ttm_42_z : zeroP Tryz.prog 42 = some [.nils] := _root_.id (by kernel_rfl)
@[go_sem] theorem ttm_42_o : zeroOK Tryz.prog 42 = true := by decide +kernel
@[go_sem] theorem ttm_42_i : zeroI Tryz.prog 42 = some (.nils) := _root_.id (by kernel_rfl)
@[go_sem] theorem ttm_42_y : (((Tryz.prog.info? 42).map (·.bytes)).getD 0 ≤ 256) = True := eq_true (by decide +kernel)
@[go_sem] theorem ttm_42_b : (bytesP Tryz.prog 42 ≤ 1024) = True := eq_true (by decide +kernel)
@[go_sem] theorem ttm_43_h : hasP Tryz.prog 43 = true := by decide +kernel
@[go_sem] theorem ttm_43_s : sizeP Tryz.prog 43 = 2 := by decide +kernel
@[go_sem] theorem ttm_43_a : aggP Tryz.prog 43 = true := by decide +kernel
@[go_sem] theorem ttm_43_z : zeroP Tryz.prog 43 = some [.int .i64 0, .int .i64 0] := _root_.id (by kernel_rfl)
@[go_sem] theorem ttm_43_o : zeroOK Tryz.prog 43 = true := by decide +kernel
@[go_sem] theorem ttm_43_i : zeroI Tryz.prog 43 = some (.agg [.int .i64 0, .int .i64 0]) := _root_.id (by kernel_rfl)
@[go_sem] theorem ttm_43_y : (((Tryz.prog.info? 43).map (·.bytes)).getD 0 ≤ 256) = True := eq_true (by decide +kernel)
@[go_sem] theorem ttm_43_b : (bytesP Tryz.prog 43 ≤ 1024) = True := eq_true (by decide +kernel)
@[go_sem] theorem ttm_43_f : flatP Tryz.prog 43 = some [.int .i64, .int .i64] := flat_of (by decide +kernel)
@[go_sem] theorem ttm_43_k : keyK Tryz.prog 43 = some [.int .i64, .int .i64] := key_of (by decide +kernel)
@[go_sem] theorem ttm_44_h : hasP Tryz.prog 44 = true := by decide +kernel
@[go_sem] theorem ttm_44_s : sizeP Tryz.prog 44 = 1 := by decide +kernel
@[go_sem] theorem ttm_44_a : aggP Tryz.prog 44 = false := by decide +kernel
@[go_sem] theorem ttm_44_z : zeroP Tryz.prog 44 = some [.nilf] := _root_.id (by kernel_rfl)
@[go_sem] theorem ttm_44_o : zeroOK Tryz.prog 44 = true := by decide +kernel
@[go_sem] theorem ttm_44_i : zeroI Tryz.prog 44 = some (.nilf) := _root_.id (by kernel_rfl)
@[go_sem] theorem ttm_44_y : (((Tryz.prog.info? 44).map (·.bytes)).getD 0 ≤ 256) = True := eq_true (by decide +kernel)
@[go_sem] theorem ttm_44_b : (bytesP Tryz.prog 44 ≤ 1024) = True := eq_true (by decide +kernel)
@[go_sem] theorem ttm_45_h : hasP Tryz.prog 45 = true := by decide +kernel
@[go_sem] theorem ttm_45_s : sizeP Tryz.prog 45 = 1 := by decide +kernel
@[go_sem] theorem ttm_45_a : aggP Tryz.prog 45 = false := by decide +kernel
@[go_sem] theorem ttm_45_z : zeroP Tryz.prog 45 = some [.nilf] := _root_.id (by kernel_rfl)
@[go_sem] theorem ttm_45_o : zeroOK Tryz.prog 45 = true := by decide +kernel
@[go_sem] theorem ttm_45_i : zeroI Tryz.prog 45 = some (.nilf) := _root_.id (by kernel_rfl)
@[go_sem] theorem ttm_45_y : (((Tryz.prog.info? 45).map (·.bytes)).getD 0 ≤ 256) = True := eq_true (by decide +kernel)
@[go_sem] theorem ttm_45_b : (bytesP Tryz.prog 45 ≤ 1024) = True := eq_true (by decide +kernel)
@[go_sem] theorem ttm_47_h : hasP Tryz.prog 47 = true := by decide +kernel
@[go_sem] theorem ttm_47_s : sizeP Tryz.prog 47 = 1 := by decide +kernel
@[go_sem] theorem ttm_47_a : aggP Tryz.prog 47 = false := by decide +kernel
@[go_sem] theorem ttm_47_z : zeroP Tryz.prog 47 = some [.nilf] := _root_.id (by kernel_rfl)
@[go_sem] theorem ttm_47_o : zeroOK Tryz.prog 47 = true := by decide +kernel
@[go_sem] theorem ttm_47_i : zeroI Tryz.prog 47 = some (.nilf) := _root_.id (by kernel_rfl)
@[go_sem] theorem ttm_47_y : (((Tryz.prog.info? 47).map (·.bytes)).getD 0 ≤ 256) = True := eq_true (by decide +kernel)
@[go_sem] theorem ttm_47_b : (bytesP Tryz.prog 47 ≤ 1024) = True := eq_true (by decide +kernel)
@[go_sem] theorem ttm_49_h : hasP Tryz.prog 49 = true := by decide +kernel
@[go_sem] theorem ttm_49_s : sizeP Tryz.prog 49 = 1 := by decide +kernel
@[go_sem] theorem ttm_49_a : aggP Tryz.prog 49 = false := by decide +kernel
@[go_sem] theorem ttm_49_z : zeroP Tryz.prog 49 = some [.nilf] := _root_.id (by kernel_rfl)
@[go_sem] theorem ttm_49_o : zeroOK Tryz.prog 49 = true := by decide +kernel
@[go_sem] theorem ttm_49_i : zeroI Tryz.prog 49 = some (.nilf) := _root_.id (by kernel_rfl)
@[go_sem] theorem ttm_49_y : (((Tryz.prog.info? 49).map (·.bytes)).getD 0 ≤ 256) = True := eq_true (by decide +kernel)
@[go_sem] theorem ttm_49_b : (bytesP Tryz.prog 49 ≤ 1024) = True := eq_true (by decide +kernel)
@[go_sem] theorem ttm_50_h : hasP Tryz.prog 50 = true := by decide +kernel
@[go_sem] theorem ttm_50_s : sizeP Tryz.prog 50 = 1 := by decide +kernel
@[go_sem] theorem ttm_50_a : aggP Tryz.prog 50 = false := by decide +kernel
@[go_sem] theorem ttm_50_z : zeroP Tryz.prog 50 = some [.nilf] := _root_.id (by kernel_rfl)
@[go_sem] theorem ttm_50_o : zeroOK Tryz.prog 50 = true := by decide +kernel
@[go_sem] theorem ttm_50_i : zeroI Tryz.prog 50 = some (.nilf) := _root_.id (by kernel_rfl)
@[go_sem] theorem ttm_50_y : (((Tryz.prog.info? 50).map (·.bytes)).getD 0 ≤ 256) = True := eq_true (by decide +kernel)
@[go_sem] theorem ttm_50_b : (bytesP Tryz.prog 50 ≤ 1024) = True := eq_true (by decide +kernel)
@[go_sem] theorem ttm_51_h : hasP Tryz.prog 51 = true := by decide +kernel
@[go_sem] theorem ttm_51_s : sizeP Tryz.prog 51 = 1 := by decide +kernel
@[go_sem] theorem ttm_51_a : aggP Tryz.prog 51 = false := by decide +kernel
@[go_sem] theorem ttm_51_z : zeroP Tryz.prog 51 = some [.nilf] := _root_.id (by kernel_rfl)
@[go_sem] theorem ttm_51_o : zeroOK Tryz.prog 51 = true := by decide +kernel
@[go_sem] theorem ttm_51_i : zeroI Tryz.prog 51 = some (.nilf) := _root_.id (by kernel_rfl)
@[go_sem] theorem ttm_51_y : (((Tryz.prog.info? 51).map (·.bytes)).getD 0 ≤ 256) = True := eq_true (by decide +kernel)
@[go_sem] theorem ttm_51_b : (bytesP Tryz.prog 51 ≤ 1024) = True := eq_true (by decide +kernel)
@[go_sem] theorem ttm_52_h : hasP Tryz.prog 52 = true := by decide +kernel
@[go_sem] theorem ttm_52_s : sizeP Tryz.prog 52 = 1 := by decide +kernel
@[go_sem] theorem ttm_52_a : aggP Tryz.prog 52 = false := by decide +kernel
@[go_sem] theorem ttm_52_z : zeroP Tryz.prog 52 = some [.nilf] := _root_.id (by kernel_rfl)
@[go_sem] theorem ttm_52_o : zeroOK Tryz.prog 52 = true := by decide +kernel
@[go_sem] theorem ttm_52_i : zeroI Tryz.prog 52 = some (.nilf) := _root_.id (by kernel_rfl)
@[go_sem] theorem ttm_52_y : (((Tryz.prog.info? 52).map (·.bytes)).getD 0 ≤ 256) = True := eq_true (by decide +kernel)
@[go_sem] theorem ttm_52_b : (bytesP Tryz.prog 52 ≤ 1024) = True := eq_true (by decide +kernel)
@[go_sem] theorem ttm_53_h : hasP Tryz.prog 53 = true := by decide +kernel
@[go_sem] theorem ttm_53_s : sizeP Tryz.prog 53 = 1 := by decide +kernel
@[go_sem] theorem ttm_53_a : aggP Tryz.prog 53 = false := by decide +kernel
@[go_sem] theorem ttm_53_z : zeroP Tryz.prog 53 = some [.nilf] := _root_.id (by kernel_rfl)
@[go_sem] theorem ttm_53_o : zeroOK Tryz.prog 53 = true := by decide +kernel
@[go_sem] theorem ttm_53_i : zeroI Tryz.prog 53 = some (.nilf) := _root_.id (by kernel_rfl)
@[go_sem] theorem ttm_53_y : (((Tryz.prog.info? 53).map (·.bytes)).getD 0 ≤ 256) = True := eq_true (by decide +kernel)
@[go_sem] theorem ttm_53_b : (bytesP Tryz.prog 53 ≤ 1024) = True := eq_true (by decide +kernel)
@[go_sem] theorem ttm_54_h : hasP Tryz.prog 54 = true := by decide +kernel
@[go_sem] theorem ttm_54_s : sizeP Tryz.prog 54 = 1 := by decide +kernel
@[go_sem] theorem ttm_54_a : aggP Tryz.prog 54 = false := by decide +kernel
@[go_sem] theorem ttm_54_z : zeroP Tryz.prog 54 = some [.nilf] := _root_.id (by kernel_rfl)
@[go_sem] theorem ttm_54_o : zeroOK Tryz.prog 54 = true := by decide +kernel
@[go_sem] theorem ttm_54_i : zeroI Tryz.prog 54 = some (.nilf) := _root_.id (by kernel_rfl)
@[go_sem] theorem ttm_54_y : (((Tryz.prog.info? 54).map (·.bytes)).getD 0 ≤ 256) = True := eq_true (by decide +kernel)
@[go_sem] theorem ttm_54_b : (bytesP Tryz.prog 54 ≤ 1024) = True := eq_true (by decide +kernel)
@[go_sem] theorem ttm_56_h : hasP Tryz.prog 56 = true := by decide +kernel
@[go_sem] theorem ttm_56_s : sizeP Tryz.prog 56 = 1 := by decide +kernel
@[go_sem] theorem ttm_56_a : aggP Tryz.prog 56 = false := by decide +kernel
@[go_sem] theorem ttm_56_z : zeroP Tryz.prog 56 = some [.nilf] := _root_.id (by kernel_rfl)
@[go_sem] theorem ttm_56_o : zeroOK Tryz.prog 56 = true := by decide +kernel
@[go_sem] theorem ttm_56_i : zeroI Tryz.prog 56 = some (.nilf) := _root_.id (by kernel_rfl)
@[go_sem] theorem ttm_56_y : (((Tryz.prog.info? 56).map (·.bytes)).getD 0 ≤ 256) = True := eq_true (by decide +kernel)
@[go_sem] theorem ttm_56_b : (bytesP Tryz.prog 56 ≤ 1024) = True := eq_true (by decide +kernel)
@[go_sem] theorem ttm_57_h : hasP Tryz.prog 57 = true := by decide +kernel
@[go_sem] theorem ttm_57_s : sizeP Tryz.prog 57 = 1 := by decide +kernel
@[go_sem] theorem ttm_57_a : aggP Tryz.prog 57 = false := by decide +kernel
@[go_sem] theorem ttm_57_z : zeroP Tryz.prog 57 = some [.nilm] := _root_.id (by kernel_rfl)
@[go_sem] theorem ttm_57_o : zeroOK Tryz.prog 57 = true := by decide +kernel
@[go_sem] theorem ttm_57_i : zeroI Tryz.prog 57 = some (.nilm) := _root_.id (by kernel_rfl)
@[go_sem] theorem ttm_57_y : (((Tryz.prog.info? 57).map (·.bytes)).getD 0 ≤ 256) = True := eq_true (by decide +kernel)
@[go_sem] theorem ttm_57_b : (bytesP Tryz.prog 57 ≤ 1024) = True := eq_true (by decide +kernel)
@[go_sem] theorem ttm_58_h : hasP Tryz.prog 58 = true := by decide +kernel
@[go_sem] theorem ttm_58_s : sizeP Tryz.prog 58 = 1 := by decide +kernel
@[go_sem] theorem ttm_58_a : aggP Tryz.prog 58 = false := by decide +kernel
@[go_sem] theorem ttm_58_z : zeroP Tryz.prog 58 = some [.nilf] := _root_.id (by kernel_rfl)
@[go_sem] theorem ttm_58_o : zeroOK Tryz.prog 58 = true := by decide +kernel
@[go_sem] theorem ttm_58_i : zeroI Tryz.prog 58 = some (.nilf) := _root_.id (by kernel_rfl)
@[go_sem] theorem ttm_58_y : (((Tryz.prog.info? 58).map (·.bytes)).getD 0 ≤ 256) = True := eq_true (by decide +kernel)
@[go_sem] theorem ttm_58_b : (bytesP Tryz.prog 58 ≤ 1024) = True := eq_true (by decide +kernel)
@[go_sem] theorem ttm_59_h : hasP Tryz.prog 59 = true := by decide +kernel
@[go_sem] theorem ttm_59_s : sizeP Tryz.prog 59 = 1 := by decide +kernel
@[go_sem] theorem ttm_59_a : aggP Tryz.prog 59 = false := by decide +kernel
@[go_sem] theorem ttm_59_z : zeroP Tryz.prog 59 = some [.nilf] := _root_.id (by kernel_rfl)
@[go_sem] theorem ttm_59_o : zeroOK Tryz.prog 59 = true := by decide +kernel
@[go_sem] theorem ttm_59_i : zeroI Tryz.prog 59 = some (.nilf) := _root_.id (by kernel_rfl)
@[go_sem] theorem ttm_59_y : (((Tryz.prog.info? 59).map (·.bytes)).getD 0 ≤ 256) = True := eq_true (by decide +kernel)
@[go_sem] theorem ttm_59_b : (bytesP Tryz.prog 59 ≤ 1024) = True := eq_true (by decide +kernel)
@[go_sem] theorem ttm_60_h : hasP Tryz.prog 60 = true := by decide +kernel
@[go_sem] theorem ttm_60_s : sizeP Tryz.prog 60 = 5 := by decide +kernel
@[go_sem] theorem ttm_60_a : aggP Tryz.prog 60 = true := by decide +kernel
@[go_sem] theorem ttm_60_z : zeroP Tryz.prog 60 = some [.bool false, .int .i64 0, .int .i64 0, .nilf, .nilf] := _root_.id (by kernel_rfl)
@[go_sem] theorem ttm_60_o : zeroOK Tryz.prog 60 = true := by decide +kernel
@[go_sem] theorem ttm_60_i : zeroI Tryz.prog 60 = some (.agg [.bool false, .int .i64 0, .int .i64 0, .nilf, .nilf]) := _root_.id (by kernel_rfl)
@[go_sem] theorem ttm_60_y : (((Tryz.prog.info? 60).map (·.bytes)).getD 0 ≤ 256) = True := eq_true (by decide +kernel)
@[go_sem] theorem ttm_60_b : (bytesP Tryz.prog 60 ≤ 1024) = True := eq_true (by decide +kernel)
@[go_sem] theorem ttm_61_h : hasP Tryz.prog 61 = true := by decide +kernel
@[go_sem] theorem ttm_61_s : sizeP Tryz.prog 61 = 5 := by decide +kernel
@[go_sem] theorem ttm_61_a : aggP Tryz.prog 61 = true := by decide +kernel
@[go_sem] theorem ttm_61_z : zeroP Tryz.prog 61 = some [.bool false, .int .i64 0, .int .i64 0, .nilf, .nilf] := _root_.id (by kernel_rfl)
@[go_sem] theorem ttm_61_o : zeroOK Tryz.prog 61 = true := by decide +kernel
@[go_sem] theorem ttm_61_i : zeroI Tryz.prog 61 = some (.agg [.bool false, .int .i64 0, .int .i64 0, .nilf, .nilf]) := _root_.id (by kernel_rfl)
@[go_sem] theorem ttm_61_y : (((Tryz.prog.info? 61).map (·.bytes)).getD 0 ≤ 256) = True := eq_true (by decide +kernel)
@[go_sem] theorem ttm_61_b : (bytesP Tryz.prog 61 ≤ 1024) = True := eq_true (by decide +kernel)
@[go_sem] theorem ttm_63_h : hasP Tryz.prog 63 = true := by decide +kernel
@[go_sem] theorem ttm_63_s : sizeP Tryz.prog 63 = 1 := by decide +kernel
@[go_sem] theorem ttm_63_a : aggP Tryz.prog 63 = false := by decide +kernel
@[go_sem] theorem ttm_63_z : zeroP Tryz.prog 63 = some [.nilf] := _root_.id (by kernel_rfl)
@[go_sem] theorem ttm_63_o : zeroOK Tryz.prog 63 = true := by decide +kernel
@[go_sem] theorem ttm_63_i : zeroI Tryz.prog 63 = some (.nilf) := _root_.id (by kernel_rfl)
@[go_sem] theorem ttm_63_y : (((Tryz.prog.info? 63).map (·.bytes)).getD 0 ≤ 256) = True := eq_true (by decide +kernel)
@[go_sem] theorem ttm_63_b : (bytesP Tryz.prog 63 ≤ 1024) = True := eq_true (by decide +kernel)
@[go_sem] theorem ttm_64_h : hasP Tryz.prog 64 = true := by decide +kernel
@[go_sem] theorem ttm_64_s : sizeP Tryz.prog 64 = 1 := by decide +kernel
@[go_sem] theorem ttm_64_a : aggP Tryz.prog 64 = false := by decide +kernel
@[go_sem] theorem ttm_64_z : zeroP Tryz.prog 64 = some [.nilf] := _root_.id (by kernel_rfl)
@[go_sem] theorem ttm_64_o : zeroOK Tryz.prog 64 = true := by decide +kernel
@[go_sem] theorem ttm_64_i : zeroI Tryz.prog 64 = some (.nilf) := _root_.id (by kernel_rfl)
@[go_sem] theorem ttm_64_y : (((Tryz.prog.info? 64).map (·.bytes)).getD 0 ≤ 256) = True := eq_true (by decide +kernel)
@[go_sem] theorem ttm_64_b : (bytesP Tryz.prog 64 ≤ 1024) = True := eq_true (by decide +kernel)
@[go_sem] theorem ttm_65_h : hasP Tryz.prog 65 = true := by decide +kernel
@[go_sem] theorem ttm_65_s : sizeP Tryz.prog 65 = 1 := by decide +kernel
@[go_sem] theorem ttm_65_a : aggP Tryz.prog 65 = false := by decide +kernel
@[go_sem] theorem ttm_65_z : zeroP Tryz.prog 65 = some [.nilf] := _root_.id (by kernel_rfl)
@[go_sem] theorem ttm_65_o : zeroOK Tryz.prog 65 = true := by decide +kernel
@[go_sem] theorem ttm_65_i : zeroI Tryz.prog 65 = some (.nilf) := _root_.id (by kernel_rfl)
@[go_sem] theorem ttm_65_y : (((Tryz.prog.info? 65).map (·.bytes)).getD 0 ≤ 256) = True := eq_true (by decide +kernel)
@[go_sem] theorem ttm_65_b : (bytesP Tryz.prog 65 ≤ 1024) = True := eq_true (by decide +kernel)
@[go_sem] theorem ttm_66_h : hasP Tryz.prog 66 = true := by decide +kernel
@[go_sem] theorem ttm_66_s : sizeP Tryz.prog 66 = 1 := by decide +kernel
@[go_sem] theorem ttm_66_a : aggP Tryz.prog 66 = false := by decide +kernel
@[go_sem] theorem ttm_66_z : zeroP Tryz.prog 66 = some [.nilf] := _root_.id (by kernel_rfl)
@[go_sem] theorem ttm_66_o : zeroOK Tryz.prog 66 = true := by decide +kernel
@[go_sem] theorem ttm_66_i : zeroI Tryz.prog 66 = some (.nilf) := _root_.id (by kernel_rfl)
@[go_sem] theorem ttm_66_y : (((Tryz.prog.info? 66).map (·.bytes)).getD 0 ≤ 256) = True := eq_true (by decide +kernel)
@[go_sem] theorem ttm_66_b : (bytesP Tryz.prog 66 ≤ 1024) = True := eq_true (by decide +kernel)
@[go_sem] theorem ttm_67_h : hasP Tryz.prog 67 = true := by decide +kernel
@[go_sem] theorem ttm_67_s : sizeP Tryz.prog 67 = 1 := by decide +kernel
@[go_sem] theorem ttm_67_a : aggP Tryz.prog 67 = false := by decide +kernel
@[go_sem] theorem ttm_67_z : zeroP Tryz.prog 67 = some [.nilf] := _root_.id (by kernel_rfl)
@[go_sem] theorem ttm_67_o : zeroOK Tryz.prog 67 = true := by decide +kernel
@[go_sem] theorem ttm_67_i : zeroI Tryz.prog 67 = some (.nilf) := _root_.id (by kernel_rfl)
@[go_sem] theorem ttm_67_y : (((Tryz.prog.info? 67).map (·.bytes)).getD 0 ≤ 256) = True := eq_true (by decide +kernel)
@[go_sem] theorem ttm_67_b : (bytesP Tryz.prog 67 ≤ 1024) = True := eq_true (by decide +kernel)
@[go_sem] theorem ttm_68_h : hasP Tryz.prog 68 = true := by decide +kernel
@[go_sem] theorem ttm_68_s : sizeP Tryz.prog 68 = 4 := by decide +kernel
@[go_sem] theorem ttm_68_a : aggP Tryz.prog 68 = true := by decide +kernel
@[go_sem] theorem ttm_68_z : zeroP Tryz.prog 68 = some [.int .i64 0, .int .i64 0, .int .i64 0, .bool false] := _root_.id (by kernel_rfl)
@[go_sem] theorem ttm_68_o : zeroOK Tryz.prog 68 = true := by decide +kernel
@[go_sem] theorem ttm_68_i : zeroI Tryz.prog 68 = some (.agg [.int .i64 0, .int .i64 0, .int .i64 0, .bool false]) := _root_.id (by kernel_rfl)
@[go_sem] theorem ttm_68_y : (((Tryz.prog.info? 68).map (·.bytes)).getD 0 ≤ 256) = True := eq_true (by decide +kernel)
@[go_sem] theorem ttm_68_b : (bytesP Tryz.prog 68 ≤ 1024) = True := eq_true (by decide +kernel)
@[go_sem] theorem ttm_68_f : flatP Tryz.prog 68 = some [.int .i64, .int .i64, .int .i64, .bool] := flat_of (by decide +kernel)
@[go_sem] theorem ttm_68_k : keyK Tryz.prog 68 = some [.int .i64, .int .i64, .int .i64, .bool] := key_of (by decide +kernel)
@[go_sem] theorem ttm_69_h : hasP Tryz.prog 69 = true := by decide +kernel
@[go_sem] theorem ttm_69_s : sizeP Tryz.prog 69 = 4 := by decide +kernel
@[go_sem] theorem ttm_69_a : aggP Tryz.prog 69 = true := by decide +kernel
@[go_sem] theorem ttm_69_z : zeroP Tryz.prog 69 = some [.int .i64 0, .int .i64 0, .int .i64 0, .bool false] := _root_.id (by kernel_rfl)
@[go_sem] theorem ttm_69_o : zeroOK Tryz.prog 69 = true := by decide +kernel
@[go_sem] theorem ttm_69_i : zeroI Tryz.prog 69 = some (.agg [.int .i64 0, .int .i64 0, .int .i64 0, .bool false]) := _root_.id (by kernel_rfl)
@[go_sem] theorem ttm_69_y : (((Tryz.prog.info? 69).map (·.bytes)).getD 0 ≤ 256) = True := eq_true (by decide +kernel)
@[go_sem] theorem ttm_69_b : (bytesP Tryz.prog 69 ≤ 1024) = True := eq_true (by decide +kernel)
@[go_sem] theorem ttm_69_f : flatP Tryz.prog 69 = some [.int .i64, .int .i64, .int .i64, .bool] := flat_of (by decide +kernel)
@[go_sem] theorem ttm_69_k : keyK Tryz.prog 69 = some [.int .i64, .int .i64, .int .i64, .bool] := key_of (by decide +kernel)
@[go_sem] theorem ttm_71_h : hasP Tryz.prog 71 = true := by decide +kernel
@[go_sem] theorem ttm_71_s : sizeP Tryz.prog 71 = 1 := by decide +kernel
@[go_sem] theorem ttm_71_a : aggP Tryz.prog 71 = false := by decide +kernel
@[go_sem] theorem ttm_71_z : zeroP Tryz.prog 71 = some [.nilf] := _root_.id (by kernel_rfl)
@[go_sem] theorem ttm_71_o : zeroOK Tryz.prog 71 = true := by decide +kernel
@[go_sem] theorem ttm_71_i : zeroI Tryz.prog 71 = some (.nilf) := _root_.id (by kernel_rfl)
@[go_sem] theorem ttm_71_y : (((Tryz.prog.info? 71).map (·.bytes)).getD 0 ≤ 256) = True := eq_true (by decide +kernel)
@[go_sem] theorem ttm_71_b : (bytesP Tryz.prog 71 ≤ 1024) = True := eq_true (by decide +kernel)
@[go_sem] theorem ttm_72_h : hasP Tryz.prog 72 = true := by decide +kernel
@[go_sem] theorem ttm_72_s : sizeP Tryz.prog 72 = 1 := by decide +kernel
@[go_sem] theorem ttm_72_a : aggP Tryz.prog 72 = false := by decide +kernel
@[go_sem] theorem ttm_72_z : zeroP Tryz.prog 72 = some [.nils] := _root_.id (by kernel_rfl)
@[go_sem] theorem ttm_72_o : zeroOK Tryz.prog 72 = true := by decide +kernel
@[go_sem] theorem ttm_72_i : zeroI Tryz.prog 72 = some (.nils) := _root_.id (by kernel_rfl)
@[go_sem] theorem ttm_72_y : (((Tryz.prog.info? 72).map (·.bytes)).getD 0 ≤ 256) = True := eq_true (by decide +kernel)
@[go_sem] theorem ttm_72_b : (bytesP Tryz.prog 72 ≤ 1024) = True := eq_true (by decide +kernel)
@[go_sem] theorem ttm_74_h : hasP Tryz.prog 74 = true := by decide +kernel
@[go_sem] theorem ttm_74_s : sizeP Tryz.prog 74 = 1 := by decide +kernel
@[go_sem] theorem ttm_74_a : aggP Tryz.prog 74 = false := by decide +kernel
@[go_sem] theorem ttm_74_z : zeroP Tryz.prog 74 = some [.nilf] := _root_.id (by kernel_rfl)
@[go_sem] theorem ttm_74_o : zeroOK Tryz.prog 74 = true := by decide +kernel
@[go_sem] theorem ttm_74_i : zeroI Tryz.prog 74 = some (.nilf) := _root_.id (by kernel_rfl)
@[go_sem] theorem ttm_74_y : (((Tryz.prog.info? 74).map (·.bytes)).getD 0 ≤ 256) = True := eq_true (by decide +kernel)
@[go_sem] theorem ttm_74_b : (bytesP Tryz.prog 74 ≤ 1024) = True := eq_true (by decide +kernel)
@[go_sem] theorem ttm_75_h : hasP Tryz.prog 75 = true := by decide +kernel
@[go_sem] theorem ttm_75_s : sizeP Tryz.prog 75 = 1 := by decide +kernel
@[go_sem] theorem ttm_75_a : aggP Tryz.prog 75 = false := by decide +kernel
@[go_sem] theorem ttm_75_z : zeroP Tryz.prog 75 = some [.nilf] := _root_.id (by kernel_rfl)
@[go_sem] theorem ttm_75_o : zeroOK Tryz.prog 75 = true := by decide +kernel
@[go_sem] theorem ttm_75_i : zeroI Tryz.prog 75 = some (.nilf) := _root_.id (by kernel_rfl)
@[go_sem] theorem ttm_75_y : (((Tryz.prog.info? 75).map (·.bytes)).getD 0 ≤ 256) = True := eq_true (by decide +kernel)
@[go_sem] theorem ttm_75_b : (bytesP Tryz.prog 75 ≤ 1024) = True := eq_true (by decide +kernel)
@[go_sem] theorem ttm_76_h : hasP Tryz.prog 76 = true := by decide +kernel
@[go_sem] theorem ttm_76_s : sizeP Tryz.prog 76 = 1 := by decide +kernel
@[go_sem] theorem ttm_76_a : aggP Tryz.prog 76 = false := by decide +kernel
@[go_sem] theorem ttm_76_z : zeroP Tryz.prog 76 = some [.nilp] := _root_.id (by kernel_rfl)
@[go_sem] theorem ttm_76_o : zeroOK Tryz.prog 76 = true := by decide +kernel
@[go_sem] theorem ttm_76_i : zeroI Tryz.prog 76 = some (.nilp) := _root_.id (by kernel_rfl)
@[go_sem] theorem ttm_76_y : (((Tryz.prog.info? 76).map (·.bytes)).getD 0 ≤ 256) = True := eq_true (by decide +kernel)
@[go_sem] theorem ttm_76_b : (bytesP Tryz.prog 76 ≤ 1024) = True := eq_true (by decide +kernel)
@[go_sem] theorem ttm_77_h : hasP Tryz.prog 77 = true := by decide +kernel
@[go_sem] theorem ttm_77_s : sizeP Tryz.prog 77 = 1 := by decide +kernel
@[go_sem] theorem ttm_77_a : aggP Tryz.prog 77 = false := by decide +kernel
@[go_sem] theorem ttm_77_z : zeroP Tryz.prog 77 = some [.nilf] := _root_.id (by kernel_rfl)
@[go_sem] theorem ttm_77_o : zeroOK Tryz.prog 77 = true := by decide +kernel
@[go_sem] theorem ttm_77_i : zeroI Tryz.prog 77 = some (.nilf) := _root_.id (by kernel_rfl)
@[go_sem] theorem ttm_77_y : (((Tryz.prog.info? 77).map (·.bytes)).getD 0 ≤ 256) = True := eq_true (by decide +kernel)
@[go_sem] theorem ttm_77_b : (bytesP Tryz.prog 77 ≤ 1024) = True := eq_true (by decide +kernel)
@[go_sem] theorem ttm_78_h : hasP Tryz.prog 78 = true := by decide +kernel
@[go_sem] theorem ttm_78_s : sizeP Tryz.prog 78 = 1 := by decide +kernel
@[go_sem] theorem ttm_78_a : aggP Tryz.prog 78 = false := by decide +kernel
@[go_sem] theorem ttm_78_z : zeroP Tryz.prog 78 = some [.nilf] := _root_.id (by kernel_rfl)
@[go_sem] theorem ttm_78_o : zeroOK Tryz.prog 78 = true := by decide +kernel
@[go_sem] theorem ttm_78_i : zeroI Tryz.prog 78 = some (.nilf) := _root_.id (by kernel_rfl)
@[go_sem] theorem ttm_78_y : (((Tryz.prog.info? 78).map (·.bytes)).getD 0 ≤ 256) = True := eq_true (by decide +kernel)
@[go_sem] theorem ttm_78_b : (bytesP Tryz.prog 78 ≤ 1024) = True := eq_true (by decide +kernel)
@[go_sem] theorem ttm_79_h : hasP Tryz.prog 79 = true := by decide +kernel
@[go_sem] theorem ttm_79_s : sizeP Tryz.prog 79 = 1 := by decide +kernel
@[go_sem] theorem ttm_79_a : aggP Tryz.prog 79 = false := by decide +kernel
@[go_sem] theorem ttm_79_z : zeroP Tryz.prog 79 = some [.nilf] := _root_.id (by kernel_rfl)
@[go_sem] theorem ttm_79_o : zeroOK Tryz.prog 79 = true := by decide +kernel
@[go_sem] theorem ttm_79_i : zeroI Tryz.prog 79 = some (.nilf) := _root_.id (by kernel_rfl)
@[go_sem] theorem ttm_79_y : (((Tryz.prog.info? 79).map (·.bytes)).getD 0 ≤ 256) = True := eq_true (by decide +kernel)
@[go_sem] theorem ttm_79_b : (bytesP Tryz.prog 79 ≤ 1024) = True := eq_true (by decide +kernel)
@[go_sem] theorem ttm_80_h : hasP Tryz.prog 80 = true := by decide +kernel
@[go_sem] theorem ttm_80_s : sizeP Tryz.prog 80 = 1 := by decide +kernel
@[go_sem] theorem ttm_80_a : aggP Tryz.prog 80 = false := by decide +kernel
@[go_sem] theorem ttm_80_z : zeroP Tryz.prog 80 = some [.nilf] := _root_.id (by kernel_rfl)
@[go_sem] theorem ttm_80_o : zeroOK Tryz.prog 80 = true := by decide +kernel
@[go_sem] theorem ttm_80_i : zeroI Tryz.prog 80 = some (.nilf) := _root_.id (by kernel_rfl)
@[go_sem] theorem ttm_80_y : (((Tryz.prog.info? 80).map (·.bytes)).getD 0 ≤ 256) = True := eq_true (by decide +kernel)
@[go_sem] theorem ttm_80_b : (bytesP Tryz.prog 80 ≤ 1024) = True := eq_true (by decide +kernel)
@[go_sem] theorem ttm_81_h : hasP Tryz.prog 81 = true := by decide +kernel
@[go_sem] theorem ttm_81_s : sizeP Tryz.prog 81 = 1 := by decide +kernel
@[go_sem] theorem ttm_81_a : aggP Tryz.prog 81 = false := by decide +kernel
@[go_sem] theorem ttm_81_z : zeroP Tryz.prog 81 = some [.nilf] := _root_.id (by kernel_rfl)
@[go_sem] theorem ttm_81_o : zeroOK Tryz.prog 81 = true := by decide +kernel
@[go_sem] theorem ttm_81_i : zeroI Tryz.prog 81 = some (.nilf) := _root_.id (by kernel_rfl)
@[go_sem] theorem ttm_81_y : (((Tryz.prog.info? 81).map (·.bytes)).getD 0 ≤ 256) = True := eq_true (by decide +kernel)
@[go_sem] theorem ttm_81_b : (bytesP Tryz.prog 81 ≤ 1024) = True := eq_true (by decide +kernel)
@[go_sem] theorem ttm_82_h : hasP Tryz.prog 82 = true := by decide +kernel
@[go_sem] theorem ttm_82_s : sizeP Tryz.prog 82 = 1 := by decide +kernel
@[go_sem] theorem ttm_82_a : aggP Tryz.prog 82 = false := by decide +kernel
@[go_sem] theorem ttm_82_z : zeroP Tryz.prog 82 = some [.nilf] := _root_.id (by kernel_rfl)
@[go_sem] theorem ttm_82_o : zeroOK Tryz.prog 82 = true := by decide +kernel
@[go_sem] theorem ttm_82_i : zeroI Tryz.prog 82 = some (.nilf) := _root_.id (by kernel_rfl)
@[go_sem] theorem ttm_82_y : (((Tryz.prog.info? 82).map (·.bytes)).getD 0 ≤ 256) = True := eq_true (by decide +kernel)
@[go_sem] theorem ttm_82_b : (bytesP Tryz.prog 82 ≤ 1024) = True := eq_true (by decide +kernel)
@[go_sem] theorem ttm_83_h : hasP Tryz.prog 83 = true := by decide +kernel
@[go_sem] theorem ttm_83_s : sizeP Tryz.prog 83 = 1 := by decide +kernel
@[go_sem] theorem ttm_83_a : aggP Tryz.prog 83 = false := by decide +kernel
@[go_sem] theorem ttm_83_z : zeroP Tryz.prog 83 = some [.nilf] := _root_.id (by kernel_rfl)
@[go_sem] theorem ttm_83_o : zeroOK Tryz.prog 83 = true := by decide +kernel
@[go_sem] theorem ttm_83_i : zeroI Tryz.prog 83 = some (.nilf) := _root_.id (by kernel_rfl)
@[go_sem] theorem ttm_83_y : (((Tryz.prog.info? 83).map (·.bytes)).getD 0 ≤ 256) = True := eq_true (by decide +kernel)
@[go_sem] theorem ttm_83_b : (bytesP Tryz.prog 83 ≤ 1024) = True := eq_true (by decide +kernel)
@[go_sem] theorem ttm_84_h : hasP Tryz.prog 84 = true := by decide +kernel
@[go_sem] theorem ttm_84_s : sizeP Tryz.prog 84 = 1 := by decide +kernel
@[go_sem] theorem ttm_84_a : aggP Tryz.prog 84 = false := by decide +kernel
@[go_sem] theorem ttm_84_z : zeroP Tryz.prog 84 = some [.nilf] := _root_.id (by kernel_rfl)
@[go_sem] theorem ttm_84_o : zeroOK Tryz.prog 84 = true := by decide +kernel
@[go_sem] theorem ttm_84_i : zeroI Tryz.prog 84 = some (.nilf) := _root_.id (by kernel_rfl)
@[go_sem] theorem ttm_84_y : (((Tryz.prog.info? 84).map (·.bytes)).getD 0 ≤ 256) = True := eq_true (by decide +kernel)
@[go_sem] theorem ttm_84_b : (bytesP Tryz.prog 84 ≤ 1024) = True := eq_true (by decide +kernel)
@[go_sem] theorem ttm_85_h : hasP Tryz.prog 85 = true := by decide +kernel
@[go_sem] theorem ttm_85_s : sizeP Tryz.prog 85 = 1 := by decide +kernel
@[go_sem] theorem ttm_85_a : aggP Tryz.prog 85 = false := by decide +kernel
@[go_sem] theorem ttm_85_z : zeroP Tryz.prog 85 = some [.int .u64 0] := _root_.id (by kernel_rfl)
@[go_sem] theorem ttm_85_o : zeroOK Tryz.prog 85 = true := by decide +kernel
@[go_sem] theorem ttm_85_i : zeroI Tryz.prog 85 = some (.int .u64 0) := _root_.id (by kernel_rfl)
@[go_sem] theorem ttm_85_y : (((Tryz.prog.info? 85).map (·.bytes)).getD 0 ≤ 256) = True := eq_true (by decide +kernel)
@[go_sem] theorem ttm_85_b : (bytesP Tryz.prog 85 ≤ 1024) = True := eq_true (by decide +kernel)
@[go_sem] theorem ttm_85_k : keyK Tryz.prog 85 = some [.int .u64] := key_of (by decide +kernel)
@[go_sem] theorem ttm_86_h : hasP Tryz.prog 86 = true := by decide +kernel
@[go_sem] theorem ttm_86_s : sizeP Tryz.prog 86 = 1 := by decide +kernel
@[go_sem] theorem ttm_86_a : aggP Tryz.prog 86 = false := by decide +kernel
@[go_sem] theorem ttm_86_z : zeroP Tryz.prog 86 = some [.nilf] := _root_.id (by kernel_rfl)
@[go_sem] theorem ttm_86_o : zeroOK Tryz.prog 86 = true := by decide +kernel
@[go_sem] theorem ttm_86_i : zeroI Tryz.prog 86 = some (.nilf) := _root_.id (by kernel_rfl)
@[go_sem] theorem ttm_86_y : (((Tryz.prog.info? 86).map (·.bytes)).getD 0 ≤ 256) = True := eq_true (by decide +kernel)
@[go_sem] theorem ttm_86_b : (bytesP Tryz.prog 86 ≤ 1024) = True := eq_true (by decide +kernel)
@[go_sem] theorem ttm_87_h : hasP Tryz.prog 87 = true := by decide +kernel
@[go_sem] theorem ttm_87_s : sizeP Tryz.prog 87 = 1 := by decide +kernel
@[go_sem] theorem ttm_87_a : aggP Tryz.prog 87 = false := by decide +kernel
@[go_sem] theorem ttm_87_z : zeroP Tryz.prog 87 = some [.nilf] := _root_.id (by kernel_rfl)
@[go_sem] theorem ttm_87_o : zeroOK Tryz.prog 87 = true := by decide +kernel
@[go_sem] theorem ttm_87_i : zeroI Tryz.prog 87 = some (.nilf) := _root_.id (by kernel_rfl)
@[go_sem] theorem ttm_87_y : (((Tryz.prog.info? 87).map (·.bytes)).getD 0 ≤ 256) = True := eq_true (by decide +kernel)
@[go_sem] theorem ttm_87_b : (bytesP Tryz.prog 87 ≤ 1024) = True := eq_true (by decide +kernel)
@[go_sem] theorem ttm_88_h : hasP Tryz.prog 88 = true := by decide +kernel
@[go_sem] theorem ttm_88_s : sizeP Tryz.prog 88 = 1 := by decide +kernel
@[go_sem] theorem ttm_88_a : aggP Tryz.prog 88 = false := by decide +kernel
@[go_sem] theorem ttm_88_z : zeroP Tryz.prog 88 = some [.nils] := _root_.id (by kernel_rfl)
@[go_sem] theorem ttm_88_o : zeroOK Tryz.prog 88 = true := by decide +kernel
@[go_sem] theorem ttm_88_i : zeroI Tryz.prog 88 = some (.nils) := _root_.id (by kernel_rfl)
@[go_sem] theorem ttm_88_y : (((Tryz.prog.info? 88).map (·.bytes)).getD 0 ≤ 256) = True := eq_true (by decide +kernel)
@[go_sem] theorem ttm_88_b : (bytesP Tryz.prog 88 ≤ 1024) = True := eq_true (by decide +kernel)
@[go_sem] theorem ttm_90_h : hasP Tryz.prog 90 = true := by decide +kernel
@[go_sem] theorem ttm_90_s : sizeP Tryz.prog 90 = 1 := by decide +kernel
@[go_sem] theorem ttm_90_a : aggP Tryz.prog 90 = false := by decide +kernel
@[go_sem] theorem ttm_90_z : zeroP Tryz.prog 90 = some [.nilf] := _root_.id (by kernel_rfl)
@[go_sem] theorem ttm_90_o : zeroOK Tryz.prog 90 = true := by decide +kernel
@[go_sem] theorem ttm_90_i : zeroI Tryz.prog 90 = some (.nilf) := _root_.id (by kernel_rfl)
@[go_sem] theorem ttm_90_y : (((Tryz.prog.info? 90).map (·.bytes)).getD 0 ≤ 256) = True := eq_true (by decide +kernel)
@[go_sem] theorem ttm_90_b : (bytesP Tryz.prog 90 ≤ 1024) = True := eq_true (by decide +kernel)
@[go_sem] theorem ttm_91_h : hasP Tryz.prog 91 = true := by decide +kernel
@[go_sem] theorem ttm_91_s : sizeP Tryz.prog 91 = 20 := by decide +kernel
@[go_sem] theorem ttm_91_a : aggP Tryz.prog 91 = true := by decide +kernel
@[go_sem] theorem ttm_91_z : zeroP Tryz.prog 91 = some [.bool false, .int .i64 0, .int .i64 0, .nilf, .nilf, .bool false, .int .i64 0, .int .i64 0, .nilf, .nilf, .bool false, .int .i64 0, .int .i64 0, .nilf, .nilf, .bool false, .int .i64 0, .int .i64 0, .nilf, .nilf] := _root_.id (by kernel_rfl)
@[go_sem] theorem ttm_91_o : zeroOK Tryz.prog 91 = true := by decide +kernel
@[go_sem] theorem ttm_91_i : zeroI Tryz.prog 91 = some (.agg [.bool false, .int .i64 0, .int .i64 0, .nilf, .nilf, .bool false, .int .i64 0, .int .i64 0, .nilf, .nilf, .bool false, .int .i64 0, .int .i64 0, .nilf, .nilf, .bool false, .int .i64 0, .int .i64 0, .nilf, .nilf]) := _root_.id (by kernel_rfl)
@[go_sem] theorem ttm_91_b : (bytesP Tryz.prog 91 ≤ 1024) = True := eq_true (by decide +kernel)
@[go_sem] theorem ttm_92_h : hasP Tryz.prog 92 = true := by decide +kernel
@[go_sem] theorem ttm_92_s : sizeP Tryz.prog 92 = 1 := by decide +kernel
@[go_sem] theorem ttm_92_a : aggP Tryz.prog 92 = false := by decide +kernel
@[go_sem] theorem ttm_92_z : zeroP Tryz.prog 92 = some [.nilf] := _root_.id (by kernel_rfl)
@[go_sem] theorem ttm_92_o : zeroOK Tryz.prog 92 = true := by decide +kernel
@[go_sem] theorem ttm_92_i : zeroI Tryz.prog 92 = some (.nilf) := _root_.id (by kernel_rfl)
@[go_sem] theorem ttm_92_y : (((Tryz.prog.info? 92).map (·.bytes)).getD 0 ≤ 256) = True := eq_true (by decide +kernel)
@[go_sem] theorem ttm_92_b : (bytesP Tryz.prog 92 ≤ 1024) = True := eq_true (by decide +kernel)
@[go_sem] theorem ttm_93_h : hasP Tryz.prog 93 = true := by decide +kernel
@[go_sem] theorem ttm_93_s : sizeP Tryz.prog 93 = 1 := by decide +kernel
@[go_sem] theorem ttm_93_a : aggP Tryz.prog 93 = false := by decide +kernel
@[go_sem] theorem ttm_93_z : zeroP Tryz.prog 93 = some [.nilf] := _root_.id (by kernel_rfl)
@[go_sem] theorem ttm_93_o : zeroOK Tryz.prog 93 = true := by decide +kernel
@[go_sem] theorem ttm_93_i : zeroI Tryz.prog 93 = some (.nilf) := _root_.id (by kernel_rfl)
@[go_sem] theorem ttm_93_y : (((Tryz.prog.info? 93).map (·.bytes)).getD 0 ≤ 256) = True := eq_true (by decide +kernel)
@[go_sem] theorem ttm_93_b : (bytesP Tryz.prog 93 ≤ 1024) = True := eq_true (by decide +kernel)
@[go_sem] theorem ttm_95_h : hasP Tryz.prog 95 = true := by decide +kernel
@[go_sem] theorem ttm_95_s : sizeP Tryz.prog 95 = 1 := by decide +kernel
@[go_sem] theorem ttm_95_a : aggP Tryz.prog 95 = false := by decide +kernel
@[go_sem] theorem ttm_95_z : zeroP Tryz.prog 95 = some [.nilf] := _root_.id (by kernel_rfl)
@[go_sem] theorem ttm_95_o : zeroOK Tryz.prog 95 = true := by decide +kernel
@[go_sem] theorem ttm_95_i : zeroI Tryz.prog 95 = some (.nilf) := _root_.id (by kernel_rfl)
@[go_sem] theorem ttm_95_y : (((Tryz.prog.info? 95).map (·.bytes)).getD 0 ≤ 256) = True := eq_true (by decide +kernel)
@[go_sem] theorem ttm_95_b : (bytesP Tryz.prog 95 ≤ 1024) = True := eq_true (by decide +kernel)
@[go_sem] theorem ttm_96_h : hasP Tryz.prog 96 = true := by decide +kernel
@[go_sem] theorem ttm_96_s : sizeP Tryz.prog 96 = 1 := by decide +kernel
@[go_sem] theorem ttm_96_a : aggP Tryz.prog 96 = false := by decide +kernel
@[go_sem] theorem ttm_96_z : zeroP Tryz.prog 96 = some [.nilf] := _root_.id (by kernel_rfl)
@[go_sem] theorem ttm_96_o : zeroOK Tryz.prog 96 = true := by decide +kernel
@[go_sem] theorem ttm_96_i : zeroI Tryz.prog 96 = some (.nilf) := _root_.id (by kernel_rfl)
@[go_sem] theorem ttm_96_y : (((Tryz.prog.info? 96).map (·.bytes)).getD 0 ≤ 256) = True := eq_true (by decide +kernel)
@[go_sem] theorem ttm_96_b : (bytesP Tryz.prog 96 ≤ 1024) = True := eq_true (by decide +kernel)
@[go_sem] theorem ttm_97_h : hasP Tryz.prog 97 = true := by decide +kernel
@[go_sem] theorem ttm_97_s : sizeP Tryz.prog 97 = 1 := by decide +kernel
@[go_sem] theorem ttm_97_a : aggP Tryz.prog 97 = false := by decide +kernel
@[go_sem] theorem ttm_97_z : zeroP Tryz.prog 97 = some [.nilf] := _root_.id (by kernel_rfl)
@[go_sem] theorem ttm_97_o : zeroOK Tryz.prog 97 = true := by decide +kernel
@[go_sem] theorem ttm_97_i : zeroI Tryz.prog 97 = some (.nilf) := _root_.id (by kernel_rfl)
@[go_sem] theorem ttm_97_y : (((Tryz.prog.info? 97).map (·.bytes)).getD 0 ≤ 256) = True := eq_true (by decide +kernel)
@[go_sem] theorem ttm_97_b : (bytesP Tryz.prog 97 ≤ 1024) = True := eq_true (by decide +kernel)
@[go_sem] theorem ttm_98_h : hasP Tryz.prog 98 = true := by decide +kernel
@[go_sem] theorem ttm_98_s : sizeP Tryz.prog 98 = 1 := by decide +kernel
@[go_sem] theorem ttm_98_a : aggP Tryz.prog 98 = false := by decide +kernel
@[go_sem] theorem ttm_98_z : zeroP Tryz.prog 98 = some [.nilf] := _root_.id (by kernel_rfl)
@[go_sem] theorem ttm_98_o : zeroOK Tryz.prog 98 = true := by decide +kernel
@[go_sem] theorem ttm_98_i : zeroI Tryz.prog 98 = some (.nilf) := _root_.id (by kernel_rfl)
@[go_sem] theorem ttm_98_y : (((Tryz.prog.info? 98).map (·.bytes)).getD 0 ≤ 256) = True := eq_true (by decide +kernel)
@[go_sem] theorem ttm_98_b : (bytesP Tryz.prog 98 ≤ 1024) = True := eq_true (by decide +kernel)
@[go_sem] theorem ttm_99_h : hasP Tryz.prog 99 = true := by decide +kernel
@[go_sem] theorem ttm_99_s : sizeP Tryz.prog 99 = 1 := by decide +kernel
@[go_sem] theorem ttm_99_a : aggP Tryz.prog 99 = false := by decide +kernel
@[go_sem] theorem ttm_99_z : zeroP Tryz.prog 99 = some [.nilf] := _root_.id (by kernel_rfl)
@[go_sem] theorem ttm_99_o : zeroOK Tryz.prog 99 = true := by decide +kernel
@[go_sem] theorem ttm_99_i : zeroI Tryz.prog 99 = some (.nilf) := _root_.id (by kernel_rfl)
@[go_sem] theorem ttm_99_y : (((Tryz.prog.info? 99).map (·.bytes)).getD 0 ≤ 256) = True := eq_true (by decide +kernel)
@[go_sem] theorem ttm_99_b : (bytesP Tryz.prog 99 ≤ 1024) = True := eq_true (by decide +kernel)
@[go_sem] theorem ttm_100_h : hasP Tryz.prog 100 = true := by decide +kernel
@[go_sem] theorem ttm_100_s : sizeP Tryz.prog 100 = 1 := by decide +kernel
@[go_sem] theorem ttm_100_a : aggP Tryz.prog 100 = false := by decide +kernel
@[go_sem] theorem ttm_100_z : zeroP Tryz.prog 100 = some [.nilf] := _root_.id (by kernel_rfl)
@[go_sem] theorem ttm_100_o : zeroOK Tryz.prog 100 = true := by decide +kernel
@[go_sem] theorem ttm_100_i : zeroI Tryz.prog 100 = some (.nilf) := _root_.id (by kernel_rfl)
@[go_sem] theorem ttm_100_y : (((Tryz.prog.info? 100).map (·.bytes)).getD 0 ≤ 256) = True := eq_true (by decide +kernel)
@[go_sem] theorem ttm_100_b : (bytesP Tryz.prog 100 ≤ 1024) = True := eq_true (by decide +kernel)
@[go_sem] theorem ttm_101_h : hasP Tryz.prog 101 = true := by decide +kernel
@[go_sem] theorem ttm_101_s : sizeP Tryz.prog 101 = 1 := by decide +kernel
@[go_sem] theorem ttm_101_a : aggP Tryz.prog 101 = false := by decide +kernel
@[go_sem] theorem ttm_101_z : zeroP Tryz.prog 101 = some [.nilf] := _root_.id (by kernel_rfl)
@[go_sem] theorem ttm_101_o : zeroOK Tryz.prog 101 = true := by decide +kernel
@[go_sem] theorem ttm_101_i : zeroI Tryz.prog 101 = some (.nilf) := _root_.id (by kernel_rfl)
@[go_sem] theorem ttm_101_y : (((Tryz.prog.info? 101).map (·.bytes)).getD 0 ≤ 256) = True := eq_true (by decide +kernel)
@[go_sem] theorem ttm_101_b : (bytesP Tryz.prog 101 ≤ 1024) = True := eq_true (by decide +kernel)
@[go_sem] theorem ttm_102_h : hasP Tryz.prog 102 = true := by decide +kernel
@[go_sem] theorem ttm_102_s : sizeP Tryz.prog 102 = 1 := by decide +kernel
@[go_sem] theorem ttm_102_a : aggP Tryz.prog 102 = false := by decide +kernel
@[go_sem] theorem ttm_102_z : zeroP Tryz.prog 102 = some [.nilf] := _root_.id (by kernel_rfl)
@[go_sem] theorem ttm_102_o : zeroOK Tryz.prog 102 = true := by decide +kernel
@[go_sem] theorem ttm_102_i : zeroI Tryz.prog 102 = some (.nilf) := _root_.id (by kernel_rfl)
@[go_sem] theorem ttm_102_y : (((Tryz.prog.info? 102).map (·.bytes)).getD 0 ≤ 256) = True := eq_true (by decide +kernel)
@[go_sem] theorem ttm_102_b : (bytesP Tryz.prog 102 ≤ 1024) = True := eq_true (by decide +kernel)
@[go_sem] theorem ttm_103_h : hasP Tryz.prog 103 = true := by decide +kernel
@[go_sem] theorem ttm_103_s : sizeP Tryz.prog 103 = 24 := by decide +kernel
@[go_sem] theorem ttm_103_a : aggP Tryz.prog 103 = true := by decide +kernel
@[go_sem] theorem ttm_103_z : zeroP Tryz.prog 103 = some [.bool false, .bool false, .bool false, .bool false, .bool false, .bool false, .bool false, .bool false, .bool false, .bool false, .bool false, .bool false, .bool false, .bool false, .bool false, .bool false, .bool false, .bool false, .bool false, .bool false, .bool false, .bool false, .bool false, .bool false] := _root_.id (by kernel_rfl)
@[go_sem] theorem ttm_103_o : zeroOK Tryz.prog 103 = true := by decide +kernel
@[go_sem] theorem ttm_103_i : zeroI Tryz.prog 103 = some (.agg [.bool false, .bool false, .bool false, .bool false, .bool false, .bool false, .bool false, .bool false, .bool false, .bool false, .bool false, .bool false, .bool false, .bool false, .bool false, .bool false, .bool false, .bool false, .bool false, .bool false, .bool false, .bool false, .bool false, .bool false]) := _root_.id (by kernel_rfl)
@[go_sem] theorem ttm_103_b : (bytesP Tryz.prog 103 ≤ 1024) = True := eq_true (by decide +kernel)
@[go_sem] theorem ttm_103_f : flatP Tryz.prog 103 = some [.bool, .bool, .bool, .bool, .bool, .bool, .bool, .bool, .bool, .bool, .bool, .bool, .bool, .bool, .bool, .bool, .bool, .bool, .bool, .bool, .bool, .bool, .bool, .bool] := flat_of (by decide +kernel)
@[go_sem] theorem ttm_103_k : keyK Tryz.prog 103 = some [.bool, .bool, .bool, .bool, .bool, .bool, .bool, .bool, .bool, .bool, .bool, .bool, .bool, .bool, .bool, .bool, .bool, .bool, .bool, .bool, .bool, .bool, .bool, .bool] := key_of (by decide +kernel)
@[go_sem] theorem ttm_105_h : hasP Tryz.prog 105 = true := by decide +kernel
@[go_sem] theorem ttm_105_s : sizeP Tryz.prog 105 = 50 := by decide +kernel
@[go_sem] theorem ttm_105_a : aggP Tryz.prog 105 = true := by decide +kernel
@[go_sem] theorem ttm_105_z : zeroP Tryz.prog 105 = some [.bool false, .bool false, .bool false, .bool false, .bool false, .bool false, .bool false, .bool false, .bool false, .bool false, .bool false, .bool false, .bool false, .bool false, .bool false, .bool false, .bool false, .bool false, .bool false, .bool false, .bool false, .bool false, .bool false, .bool false, .bool false, .bool false, .bool false, .bool false, .bool false, .bool false, .bool false, .bool false, .bool false, .bool false, .bool false, .bool false, .bool false, .bool false, .bool false, .bool false, .bool false, .bool false, .bool false, .bool false, .bool false, .bool false, .bool false, .bool false, .bool false, .bool false] := _root_.id (by kernel_rfl)
@[go_sem] theorem ttm_105_o : zeroOK Tryz.prog 105 = true := by decide +kernel
@[go_sem] theorem ttm_105_i : zeroI Tryz.prog 105 = some (.agg [.bool false, .bool false, .bool false, .bool false, .bool false, .bool false, .bool false, .bool false, .bool false, .bool false, .bool false, .bool false, .bool false, .bool false, .bool false, .bool false, .bool false, .bool false, .bool false, .bool false, .bool false, .bool false, .bool false, .bool false, .bool false, .bool false, .bool false, .bool false, .bool false, .bool false, .bool false, .bool false, .bool false, .bool false, .bool false, .bool false, .bool false, .bool false, .bool false, .bool false, .bool false, .bool false, .bool false, .bool false, .bool false, .bool false, .bool false, .bool false, .bool false, .bool false]) := _root_.id (by kernel_rfl)
@[go_sem] theorem ttm_105_b : (bytesP Tryz.prog 105 ≤ 1024) = True := eq_true (by decide +kernel)
@[go_sem] theorem ttm_105_f : flatP Tryz.prog 105 = some [.bool, .bool, .bool, .bool, .bool, .bool, .bool, .bool, .bool, .bool, .bool, .bool, .bool, .bool, .bool, .bool, .bool, .bool, .bool, .bool, .bool, .bool, .bool, .bool, .bool, .bool, .bool, .bool, .bool, .bool, .bool, .bool, .bool, .bool, .bool, .bool, .bool, .bool, .bool, .bool, .bool, .bool, .bool, .bool, .bool, .bool, .bool, .bool, .bool, .bool] := flat_of (by decide +kernel)
@[go_sem] theorem ttm_105_k : keyK Tryz.prog 105 = some [.bool, .bool, .bool, .bool, .bool, .bool, .bool, .bool, .bool, .bool, .bool, .bool, .bool, .bool, .bool, .bool, .bool, .bool, .bool, .bool, .bool, .bool, .bool, .bool, .bool, .bool, .bool, .bool, .bool, .bool, .bool, .bool, .bool, .bool, .bool, .bool, .bool, .bool, .bool, .bool, .bool, .bool, .bool, .bool, .bool, .bool, .bool, .bool, .bool, .bool] := key_of (by decide +kernel)
@[go_sem] theorem ttm_107_h : hasP Tryz.prog 107 = true := by decide +kernel
@[go_sem] theorem ttm_107_s : sizeP Tryz.prog 107 = 1 := by decide +kernel
@[go_sem] theorem ttm_107_a : aggP Tryz.prog 107 = false := by decide +kernel
@[go_sem] theorem ttm_107_z : zeroP Tryz.prog 107 = some [.nilf] := _root_.id (by kernel_rfl)
@[go_sem] theorem ttm_107_o : zeroOK Tryz.prog 107 = true := by decide +kernel
@[go_sem] theorem ttm_107_i : zeroI Tryz.prog 107 = some (.nilf) := _root_.id (by kernel_rfl)
@[go_sem] theorem ttm_107_y : (((Tryz.prog.info? 107).map (·.bytes)).getD 0 ≤ 256) = True := eq_true (by decide +kernel)
@[go_sem] theorem ttm_107_b : (bytesP Tryz.prog 107 ≤ 1024) = True := eq_true (by decide +kernel)
@[go_sem] theorem ttm_108_h : hasP Tryz.prog 108 = true := by decide +kernel
@[go_sem] theorem ttm_108_s : sizeP Tryz.prog 108 = 1 := by decide +kernel
@[go_sem] theorem ttm_108_a : aggP Tryz.prog 108 = false := by decide +kernel
@[go_sem] theorem ttm_108_z : zeroP Tryz.prog 108 = some [.nilf] := _root_.id (by kernel_rfl)
@[go_sem] theorem ttm_108_o : zeroOK Tryz.prog 108 = true := by decide +kernel
@[go_sem] theorem ttm_108_i : zeroI Tryz.prog 108 = some (.nilf) := _root_.id (by kernel_rfl)
@[go_sem] theorem ttm_108_y : (((Tryz.prog.info? 108).map (·.bytes)).getD 0 ≤ 256) = True := eq_true (by decide +kernel)
@[go_sem] theorem ttm_108_b : (bytesP Tryz.prog 108 ≤ 1024) = True := eq_true (by decide +kernel)
@[go_sem] theorem ttm_109_h : hasP Tryz.prog 109 = true := by decide +kernel
@[go_sem] theorem ttm_109_s : sizeP Tryz.prog 109 = 1 := by decide +kernel
@[go_sem] theorem ttm_109_a : aggP Tryz.prog 109 = false := by decide +kernel
@[go_sem] theorem ttm_109_z : zeroP Tryz.prog 109 = some [.nilf] := _root_.id (by kernel_rfl)
@[go_sem] theorem ttm_109_o : zeroOK Tryz.prog 109 = true := by decide +kernel
@[go_sem] theorem ttm_109_i : zeroI Tryz.prog 109 = some (.nilf) := _root_.id (by kernel_rfl)
@[go_sem] theorem ttm_109_y : (((Tryz.prog.info? 109).map (·.bytes)).getD 0 ≤ 256) = True := eq_true (by decide +kernel)
@[go_sem] theorem ttm_109_b : (bytesP Tryz.prog 109 ≤ 1024) = True := eq_true (by decide +kernel)
@[go_sem] theorem ttm_110_h : hasP Tryz.prog 110 = true := by decide +kernel
@[go_sem] theorem ttm_110_s : sizeP Tryz.prog 110 = 1 := by decide +kernel
@[go_sem] theorem ttm_110_a : aggP Tryz.prog 110 = false := by decide +kernel
@[go_sem] theorem ttm_110_z : zeroP Tryz.prog 110 = some [.int .i64 0] := _root_.id (by kernel_rfl)
@[go_sem] theorem ttm_110_o : zeroOK Tryz.prog 110 = true := by decide +kernel
@[go_sem] theorem ttm_110_i : zeroI Tryz.prog 110 = some (.int .i64 0) := _root_.id (by kernel_rfl)
@[go_sem] theorem ttm_110_y : (((Tryz.prog.info? 110).map (·.bytes)).getD 0 ≤ 256) = True := eq_true (by decide +kernel)
@[go_sem] theorem ttm_110_b : (bytesP Tryz.prog 110 ≤ 1024) = True := eq_true (by decide +kernel)
@[go_sem] theorem ttm_110_k : keyK Tryz.prog 110 = some [.int .i64] := key_of (by decide +kernel)
@[go_sem] theorem ttm_112_h : hasP Tryz.prog 112 = true := by decide +kernel
@[go_sem] theorem ttm_112_s : sizeP Tryz.prog 112 = 1 := by decide +kernel
@[go_sem] theorem ttm_112_a : aggP Tryz.prog 112 = false := by decide +kernel
@[go_sem] theorem ttm_112_z : zeroP Tryz.prog 112 = some [.nilf] := _root_.id (by kernel_rfl)
@[go_sem] theorem ttm_112_o : zeroOK Tryz.prog 112 = true := by decide +kernel
@[go_sem] theorem ttm_112_i : zeroI Tryz.prog 112 = some (.nilf) := _root_.id (by kernel_rfl)
@[go_sem] theorem ttm_112_y : (((Tryz.prog.info? 112).map (·.bytes)).getD 0 ≤ 256) = True := eq_true (by decide +kernel)
@[go_sem] theorem ttm_112_b : (bytesP Tryz.prog 112 ≤ 1024) = True := eq_true (by decide +kernel)
@[go_sem] theorem ttm_113_h : hasP Tryz.prog 113 = true := by decide +kernel
@[go_sem] theorem ttm_113_s : sizeP Tryz.prog 113 = 1 := by decide +kernel
@[go_sem] theorem ttm_113_a : aggP Tryz.prog 113 = false := by decide +kernel
@[go_sem] theorem ttm_113_z : zeroP Tryz.prog 113 = some [.nilf] := _root_.id (by kernel_rfl)
@[go_sem] theorem ttm_113_o : zeroOK Tryz.prog 113 = true := by decide +kernel
@[go_sem] theorem ttm_113_i : zeroI Tryz.prog 113 = some (.nilf) := _root_.id (by kernel_rfl)
@[go_sem] theorem ttm_113_y : (((Tryz.prog.info? 113).map (·.bytes)).getD 0 ≤ 256) = True := eq_true (by decide +kernel)
@[go_sem] theorem ttm_113_b : (bytesP Tryz.prog 113 ≤ 1024) = True := eq_true (by decide +kernel)
@[go_sem] theorem ttm_114_h : hasP Tryz.prog 114 = true := by decide +kernel
@[go_sem] theorem ttm_114_s : sizeP Tryz.prog 114 = 1 := by decide +kernel
@[go_sem] theorem ttm_114_a : aggP Tryz.prog 114 = false := by decide +kernel
@[go_sem] theorem ttm_114_z : zeroP Tryz.prog 114 = some [.nilf] := _root_.id (by kernel_rfl)
@[go_sem] theorem ttm_114_o : zeroOK Tryz.prog 114 = true := by decide +kernel
@[go_sem] theorem ttm_114_i : zeroI Tryz.prog 114 = some (.nilf) := _root_.id (by kernel_rfl)
@[go_sem] theorem ttm_114_y : (((Tryz.prog.info? 114).map (·.bytes)).getD 0 ≤ 256) = True := eq_true (by decide +kernel)
@[go_sem] theorem ttm_114_b : (bytesP Tryz.prog 114 ≤ 1024) = True := eq_true (by decide +kernel)
@[go_sem] theorem ttm_115_h : hasP Tryz.prog 115 = true := by decide +kernel
@[go_sem] theorem ttm_115_s : sizeP Tryz.prog 115 = 1 := by decide +kernel
@[go_sem] theorem ttm_115_a : aggP Tryz.prog 115 = false := by decide +kernel
@[go_sem] theorem ttm_115_z : zeroP Tryz.prog 115 = some [.nilf] := _root_.id (by kernel_rfl)
@[go_sem] theorem ttm_115_o : zeroOK Tryz.prog 115 = true := by decide +kernel
@[go_sem] theorem ttm_115_i : zeroI Tryz.prog 115 = some (.nilf) := _root_.id (by kernel_rfl)
@[go_sem] theorem ttm_115_y : (((Tryz.prog.info? 115).map (·.bytes)).getD 0 ≤ 256) = True := eq_true (by decide +kernel)
@[go_sem] theorem ttm_115_b : (bytesP Tryz.prog 115 ≤ 1024) = True := eq_true (by decide +kernel)
@[go_sem] theorem ttm_116_h : hasP Tryz.prog 116 = true := by decide +kernel
@[go_sem] theorem ttm_116_s : sizeP Tryz.prog 116 = 1 := by decide +kernel
@[go_sem] theorem ttm_116_a : aggP Tryz.prog 116 = false := by decide +kernel
@[go_sem] theorem ttm_116_z : zeroP Tryz.prog 116 = some [.nilf] := _root_.id (by kernel_rfl)
@[go_sem] theorem ttm_116_o : zeroOK Tryz.prog 116 = true := by decide +kernel
@[go_sem] theorem ttm_116_i : zeroI Tryz.prog 116 = some (.nilf) := _root_.id (by kernel_rfl)
@[go_sem] theorem ttm_116_y : (((Tryz.prog.info? 116).map (·.bytes)).getD 0 ≤ 256) = True := eq_true (by decide +kernel)
@[go_sem] theorem ttm_116_b : (bytesP Tryz.prog 116 ≤ 1024) = True := eq_true (by decide +kernel)
@[go_sem] theorem ttm_117_h : hasP Tryz.prog 117 = true := by decide +kernel
@[go_sem] theorem ttm_117_s : sizeP Tryz.prog 117 = 1 := by decide +kernel
@[go_sem] theorem ttm_117_a : aggP Tryz.prog 117 = false := by decide +kernel
@[go_sem] theorem ttm_117_z : zeroP Tryz.prog 117 = some [.int .u32 0] := _root_.id (by kernel_rfl)
@[go_sem] theorem ttm_117_o : zeroOK Tryz.prog 117 = true := by decide +kernel
@[go_sem] theorem ttm_117_i : zeroI Tryz.prog 117 = some (.int .u32 0) := _root_.id (by kernel_rfl)
@[go_sem] theorem ttm_117_y : (((Tryz.prog.info? 117).map (·.bytes)).getD 0 ≤ 256) = True := eq_true (by decide +kernel)
@[go_sem] theorem ttm_117_b : (bytesP Tryz.prog 117 ≤ 1024) = True := eq_true (by decide +kernel)
@[go_sem] theorem ttm_117_k : keyK Tryz.prog 117 = some [.int .u32] := key_of (by decide +kernel)
@[go_sem] theorem ttm_118_h : hasP Tryz.prog 118 = true := by decide +kernel
@[go_sem] theorem ttm_118_s : sizeP Tryz.prog 118 = 1 := by decide +kernel
@[go_sem] theorem ttm_118_a : aggP Tryz.prog 118 = false := by decide +kernel
@[go_sem] theorem ttm_118_z : zeroP Tryz.prog 118 = some [.nilf] := _root_.id (by kernel_rfl)
@[go_sem] theorem ttm_118_o : zeroOK Tryz.prog 118 = true := by decide +kernel
@[go_sem] theorem ttm_118_i : zeroI Tryz.prog 118 = some (.nilf) := _root_.id (by kernel_rfl)
@[go_sem] theorem ttm_118_y : (((Tryz.prog.info? 118).map (·.bytes)).getD 0 ≤ 256) = True := eq_true (by decide +kernel)
@[go_sem] theorem ttm_118_b : (bytesP Tryz.prog 118 ≤ 1024) = True := eq_true (by decide +kernel)
@[go_sem] theorem ttm_119_h : hasP Tryz.prog 119 = true := by decide +kernel
@[go_sem] theorem ttm_119_s : sizeP Tryz.prog 119 = 1 := by decide +kernel
@[go_sem] theorem ttm_119_a : aggP Tryz.prog 119 = false := by decide +kernel
@[go_sem] theorem ttm_119_z : zeroP Tryz.prog 119 = some [.int .u64 0] := _root_.id (by kernel_rfl)
@[go_sem] theorem ttm_119_o : zeroOK Tryz.prog 119 = true := by decide +kernel
@[go_sem] theorem ttm_119_i : zeroI Tryz.prog 119 = some (.int .u64 0) := _root_.id (by kernel_rfl)
@[go_sem] theorem ttm_119_y : (((Tryz.prog.info? 119).map (·.bytes)).getD 0 ≤ 256) = True := eq_true (by decide +kernel)
@[go_sem] theorem ttm_119_b : (bytesP Tryz.prog 119 ≤ 1024) = True := eq_true (by decide +kernel)
@[go_sem] theorem ttm_119_k : keyK Tryz.prog 119 = some [.int .u64] := key_of (by decide +kernel)
@[go_sem] theorem ttm_120_h : hasP Tryz.prog 120 = true := by decide +kernel
@[go_sem] theorem ttm_120_s : sizeP Tryz.prog 120 = 1 := by decide +kernel
@[go_sem] theorem ttm_120_a : aggP Tryz.prog 120 = false := by decide +kernel
@[go_sem] theorem ttm_120_z : zeroP Tryz.prog 120 = some [.nilp] := _root_.id (by kernel_rfl)
@[go_sem] theorem ttm_120_o : zeroOK Tryz.prog 120 = true := by decide +kernel
@[go_sem] theorem ttm_120_i : zeroI Tryz.prog 120 = some (.nilp) := _root_.id (by kernel_rfl)
@[go_sem] theorem ttm_120_y : (((Tryz.prog.info? 120).map (·.bytes)).getD 0 ≤ 256) = True := eq_true (by decide +kernel)
@[go_sem] theorem ttm_120_b : (bytesP Tryz.prog 120 ≤ 1024) = True := eq_true (by decide +kernel)
@[go_sem] theorem ttm_121_h : hasP Tryz.prog 121 = true := by decide +kernel
@[go_sem] theorem ttm_121_s : sizeP Tryz.prog 121 = 1 := by decide +kernel
@[go_sem] theorem ttm_121_a : aggP Tryz.prog 121 = false := by decide +kernel
@[go_sem] theorem ttm_121_z : zeroP Tryz.prog 121 = some [.nilm] := _root_.id (by kernel_rfl)
@[go_sem] theorem ttm_121_o : zeroOK Tryz.prog 121 = true := by decide +kernel
@[go_sem] theorem ttm_121_i : zeroI Tryz.prog 121 = some (.nilm) := _root_.id (by kernel_rfl)
@[go_sem] theorem ttm_121_y : (((Tryz.prog.info? 121).map (·.bytes)).getD 0 ≤ 256) = True := eq_true (by decide +kernel)
@[go_sem] theorem ttm_121_b : (bytesP Tryz.prog 121 ≤ 1024) = True := eq_true (by decide +kernel)
@[go_sem] theorem ttm_122_h : hasP Tryz.prog 122 = true := by decide +kernel
@[go_sem] theorem ttm_122_s : sizeP Tryz.prog 122 = 2 := by decide +kernel
@[go_sem] theorem ttm_122_a : aggP Tryz.prog 122 = true := by decide +kernel
@[go_sem] theorem ttm_122_z : zeroP Tryz.prog 122 = some [.int .i64 0, .nilm] := _root_.id (by kernel_rfl)
@[go_sem] theorem ttm_122_o : zeroOK Tryz.prog 122 = true := by decide +kernel
@[go_sem] theorem ttm_122_i : zeroI Tryz.prog 122 = some (.agg [.int .i64 0, .nilm]) := _root_.id (by kernel_rfl)
@[go_sem] theorem ttm_122_y : (((Tryz.prog.info? 122).map (·.bytes)).getD 0 ≤ 256) = True := eq_true (by decide +kernel)
@[go_sem] theorem ttm_122_b : (bytesP Tryz.prog 122 ≤ 1024) = True := eq_true (by decide +kernel)
@[go_sem] theorem ttm_123_h : hasP Tryz.prog 123 = true := by decide +kernel
@[go_sem] theorem ttm_123_s : sizeP Tryz.prog 123 = 2 := by decide +kernel
@[go_sem] theorem ttm_123_a : aggP Tryz.prog 123 = true := by decide +kernel
@[go_sem] theorem ttm_123_z : zeroP Tryz.prog 123 = some [.int .i64 0, .nilm] := _root_.id (by kernel_rfl)
@[go_sem] theorem ttm_123_o : zeroOK Tryz.prog 123 = true := by decide +kernel
@[go_sem] theorem ttm_123_i : zeroI Tryz.prog 123 = some (.agg [.int .i64 0, .nilm]) := _root_.id (by kernel_rfl)
@[go_sem] theorem ttm_123_y : (((Tryz.prog.info? 123).map (·.bytes)).getD 0 ≤ 256) = True := eq_true (by decide +kernel)
@[go_sem] theorem ttm_123_b : (bytesP Tryz.prog 123 ≤ 1024) = True := eq_true (by decide +kernel)
@[go_sem] theorem ttm_124_h : hasP Tryz.prog 124 = true := by decide +kernel
@[go_sem] theorem ttm_124_s : sizeP Tryz.prog 124 = 1 := by decide +kernel
@[go_sem] theorem ttm_124_a : aggP Tryz.prog 124 = false := by decide +kernel
@[go_sem] theorem ttm_124_z : zeroP Tryz.prog 124 = some [.nilf] := _root_.id (by kernel_rfl)
@[go_sem] theorem ttm_124_o : zeroOK Tryz.prog 124 = true := by decide +kernel
@[go_sem] theorem ttm_124_i : zeroI Tryz.prog 124 = some (.nilf) := _root_.id (by kernel_rfl)
@[go_sem] theorem ttm_124_y : (((Tryz.prog.info? 124).map (·.bytes)).getD 0 ≤ 256) = True := eq_true (by decide +kernel)
@[go_sem] theorem ttm_124_b : (bytesP Tryz.prog 124 ≤ 1024) = True := eq_true (by decide +kernel)
@[go_sem] theorem ttm_125_h : hasP Tryz.prog 125 = true := by decide +kernel
@[go_sem] theorem ttm_125_s : sizeP Tryz.prog 125 = 1 := by decide +kernel
@[go_sem] theorem ttm_125_a : aggP Tryz.prog 125 = false := by decide +kernel
@[go_sem] theorem ttm_125_z : zeroP Tryz.prog 125 = some [.nilf] := _root_.id (by kernel_rfl)
@[go_sem] theorem ttm_125_o : zeroOK Tryz.prog 125 = true := by decide +kernel
@[go_sem] theorem ttm_125_i : zeroI Tryz.prog 125 = some (.nilf) := _root_.id (by kernel_rfl)
@[go_sem] theorem ttm_125_y : (((Tryz.prog.info? 125).map (·.bytes)).getD 0 ≤ 256) = True := eq_true (by decide +kernel)
@[go_sem] theorem ttm_125_b : (bytesP Tryz.prog 125 ≤ 1024) = True := eq_true (by decide +kernel)
@[go_sem] theorem ttm_126_h : hasP Tryz.prog 126 = true := by decide +kernel
@[go_sem] theorem ttm_126_s : sizeP Tryz.prog 126 = 6 := by decide +kernel
@[go_sem] theorem ttm_126_a : aggP Tryz.prog 126 = true := by decide +kernel
@[go_sem] theorem ttm_126_z : zeroP Tryz.prog 126 = some [.nilf, .nilf, .nilf, .nilf, .nilf, .nilf] := _root_.id (by kernel_rfl)
@[go_sem] theorem ttm_126_o : zeroOK Tryz.prog 126 = true := by decide +kernel
@[go_sem] theorem ttm_126_i : zeroI Tryz.prog 126 = some (.agg [.nilf, .nilf, .nilf, .nilf, .nilf, .nilf]) := _root_.id (by kernel_rfl)
@[go_sem] theorem ttm_126_y : (((Tryz.prog.info? 126).map (·.bytes)).getD 0 ≤ 256) = True := eq_true (by decide +kernel)
@[go_sem] theorem ttm_126_b : (bytesP Tryz.prog 126 ≤ 1024) = True := eq_true (by decide +kernel)
@[go_sem] theorem ttm_127_h : hasP Tryz.prog 127 = true := by decide +kernel
@[go_sem] theorem ttm_127_s : sizeP Tryz.prog 127 = 1 := by decide +kernel
@[go_sem] theorem ttm_127_a : aggP Tryz.prog 127 = false := by decide +kernel
@[go_sem] theorem ttm_127_z : zeroP Tryz.prog 127 = some [.nilf] := _root_.id (by kernel_rfl)
@[go_sem] theorem ttm_127_o : zeroOK Tryz.prog 127 = true := by decide +kernel
@[go_sem] theorem ttm_127_i : zeroI Tryz.prog 127 = some (.nilf) := _root_.id (by kernel_rfl)
@[go_sem] theorem ttm_127_y : (((Tryz.prog.info? 127).map (·.bytes)).getD 0 ≤ 256) = True := eq_true (by decide +kernel)
@[go_sem] theorem ttm_127_b : (bytesP Tryz.prog 127 ≤ 1024) = True := eq_true (by decide +kernel)
@[go_sem] theorem ttm_128_h : hasP Tryz.prog 128 = true := by decide +kernel
@[go_sem] theorem ttm_128_s : sizeP Tryz.prog 128 = 1 := by decide +kernel
@[go_sem] theorem ttm_128_a : aggP Tryz.prog 128 = false := by decide +kernel
@[go_sem] theorem ttm_128_z : zeroP Tryz.prog 128 = some [.nils] := _root_.id (by kernel_rfl)
@[go_sem] theorem ttm_128_o : zeroOK Tryz.prog 128 = true := by decide +kernel
@[go_sem] theorem ttm_128_i : zeroI Tryz.prog 128 = some (.nils) := _root_.id (by kernel_rfl)
@[go_sem] theorem ttm_128_y : (((Tryz.prog.info? 128).map (·.bytes)).getD 0 ≤ 256) = True := eq_true (by decide +kernel)
@[go_sem] theorem ttm_128_b : (bytesP Tryz.prog 128 ≤ 1024) = True := eq_true (by decide +kernel)
@[go_sem] theorem ttm_129_h : hasP Tryz.prog 129 = true := by decide +kernel
@[go_sem] theorem ttm_129_s : sizeP Tryz.prog 129 = 1 := by decide +kernel
@[go_sem] theorem ttm_129_a : aggP Tryz.prog 129 = false := by decide +kernel
@[go_sem] theorem ttm_129_z : zeroP Tryz.prog 129 = some [.nilf] := _root_.id (by kernel_rfl)
@[go_sem] theorem ttm_129_o : zeroOK Tryz.prog 129 = true := by decide +kernel
@[go_sem] theorem ttm_129_i : zeroI Tryz.prog 129 = some (.nilf) := _root_.id (by kernel_rfl)
@[go_sem] theorem ttm_129_y : (((Tryz.prog.info? 129).map (·.bytes)).getD 0 ≤ 256) = True := eq_true (by decide +kernel)
@[go_sem] theorem ttm_129_b : (bytesP Tryz.prog 129 ≤ 1024) = True := eq_true (by decide +kernel)
@[go_sem] theorem ttm_130_h : hasP Tryz.prog 130 = true := by decide +kernel
@[go_sem] theorem ttm_130_s : sizeP Tryz.prog 130 = 1 := by decide +kernel
@[go_sem] theorem ttm_130_a : aggP Tryz.prog 130 = false := by decide +kernel
@[go_sem] theorem ttm_130_z : zeroP Tryz.prog 130 = some [.nilf] := _root_.id (by kernel_rfl)
@[go_sem] theorem ttm_130_o : zeroOK Tryz.prog 130 = true := by decide +kernel
@[go_sem] theorem ttm_130_i : zeroI Tryz.prog 130 = some (.nilf) := _root_.id (by kernel_rfl)
@[go_sem] theorem ttm_130_y : (((Tryz.prog.info? 130).map (·.bytes)).getD 0 ≤ 256) = True := eq_true (by decide +kernel)
@[go_sem] theorem ttm_130_b : (bytesP Tryz.prog 130 ≤ 1024) = True := eq_true (by decide +kernel)
@[go_sem] theorem ttm_131_h : hasP Tryz.prog 131 = true := by decide +kernel
@[go_sem] theorem ttm_131_s : sizeP Tryz.prog 131 = 1 := by decide +kernel
@[go_sem] theorem ttm_131_a : aggP Tryz.prog 131 = false := by decide +kernel
@[go_sem] theorem ttm_131_z : zeroP Tryz.prog 131 = some [.nilm] := _root_.id (by kernel_rfl)
@[go_sem] theorem ttm_131_o : zeroOK Tryz.prog 131 = true := by decide +kernel
@[go_sem] theorem ttm_131_i : zeroI Tryz.prog 131 = some (.nilm) := _root_.id (by kernel_rfl)
@[go_sem] theorem ttm_131_y : (((Tryz.prog.info? 131).map (·.bytes)).getD 0 ≤ 256) = True := eq_true (by decide +kernel)
@[go_sem] theorem ttm_131_b : (bytesP Tryz.prog 131 ≤ 1024) = True := eq_true (by decide +kernel)
@[go_sem] theorem ttm_132_h : hasP Tryz.prog 132 = true := by decide +kernel
@[go_sem] theorem ttm_132_s : sizeP Tryz.prog 132 = 1 := by decide +kernel
@[go_sem] theorem ttm_132_a : aggP Tryz.prog 132 = false := by decide +kernel
@[go_sem] theorem ttm_132_z : zeroP Tryz.prog 132 = some [.nilf] := _root_.id (by kernel_rfl)
@[go_sem] theorem ttm_132_o : zeroOK Tryz.prog 132 = true := by decide +kernel
@[go_sem] theorem ttm_132_i : zeroI Tryz.prog 132 = some (.nilf) := _root_.id (by kernel_rfl)
@[go_sem] theorem ttm_132_y : (((Tryz.prog.info? 132).map (·.bytes)).getD 0 ≤ 256) = True := eq_true (by decide +kernel)
@[go_sem] theorem ttm_132_b : (bytesP Tryz.prog 132 ≤ 1024) = True := eq_true (by decide +kernel)
@[go_sem] theorem ttm_133_h : hasP Tryz.prog 133 = true := by decide +kernel
@[go_sem] theorem ttm_133_s : sizeP Tryz.prog 133 = 1 := by decide +kernel
@[go_sem] theorem ttm_133_a : aggP Tryz.prog 133 = false := by decide +kernel
@[go_sem] theorem ttm_133_z : zeroP Tryz.prog 133 = some [.nilf] := _root_.id (by kernel_rfl)
@[go_sem] theorem ttm_133_o : zeroOK Tryz.prog 133 = true := by decide +kernel
@[go_sem] theorem ttm_133_i : zeroI Tryz.prog 133 = some (.nilf) := _root_.id (by kernel_rfl)
@[go_sem] theorem ttm_133_y : (((Tryz.prog.info? 133).map (·.bytes)).getD 0 ≤ 256) = True := eq_true (by decide +kernel)
@[go_sem] theorem ttm_133_b : (bytesP Tryz.prog 133 ≤ 1024) = True := eq_true (by decide +kernel)
@[go_sem] theorem ttm_134_h : hasP Tryz.prog 134 = true := by decide +kernel
@[go_sem] theorem ttm_134_s : sizeP Tryz.prog 134 = 1 := by decide +kernel
@[go_sem] theorem ttm_134_a : aggP Tryz.prog 134 = false := by decide +kernel
@[go_sem] theorem ttm_134_z : zeroP Tryz.prog 134 = some [.nilf] := _root_.id (by kernel_rfl)
@[go_sem] theorem ttm_134_o : zeroOK Tryz.prog 134 = true := by decide +kernel
@[go_sem] theorem ttm_134_i : zeroI Tryz.prog 134 = some (.nilf) := _root_.id (by kernel_rfl)
@[go_sem] theorem ttm_134_y : (((Tryz.prog.info? 134).map (·.bytes)).getD 0 ≤ 256) = True := eq_true (by decide +kernel)
@[go_sem] theorem ttm_134_b : (bytesP Tryz.prog 134 ≤ 1024) = True := eq_true (by decide +kernel)
@[go_sem] theorem ttm_135_h : hasP Tryz.prog 135 = true := by decide +kernel
@[go_sem] theorem ttm_135_s : sizeP Tryz.prog 135 = 1 := by decide +kernel
@[go_sem] theorem ttm_135_a : aggP Tryz.prog 135 = false := by decide +kernel
@[go_sem] theorem ttm_135_z : zeroP Tryz.prog 135 = some [.nilf] := _root_.id (by kernel_rfl)
@[go_sem] theorem ttm_135_o : zeroOK Tryz.prog 135 = true := by decide +kernel
@[go_sem] theorem ttm_135_i : zeroI Tryz.prog 135 = some (.nilf) := _root_.id (by kernel_rfl)
@[go_sem] theorem ttm_135_y : (((Tryz.prog.info? 135).map (·.bytes)).getD 0 ≤ 256) = True := eq_true (by decide +kernel)
@[go_sem] theorem ttm_135_b : (bytesP Tryz.prog 135 ≤ 1024) = True := eq_true (by decide +kernel)
@[go_sem] theorem ttm_136_h : hasP Tryz.prog 136 = true := by decide +kernel
@[go_sem] theorem ttm_136_s : sizeP Tryz.prog 136 = 1 := by decide +kernel
@[go_sem] theorem ttm_136_a : aggP Tryz.prog 136 = false := by decide +kernel
@[go_sem] theorem ttm_136_z : zeroP Tryz.prog 136 = some [.nilf] := _root_.id (by kernel_rfl)
@[go_sem] theorem ttm_136_o : zeroOK Tryz.prog 136 = true := by decide +kernel
@[go_sem] theorem ttm_136_i : zeroI Tryz.prog 136 = some (.nilf) := _root_.id (by kernel_rfl)
@[go_sem] theorem ttm_136_y : (((Tryz.prog.info? 136).map (·.bytes)).getD 0 ≤ 256) = True := eq_true (by decide +kernel)
@[go_sem] theorem ttm_136_b : (bytesP Tryz.prog 136 ≤ 1024) = True := eq_true (by decide +kernel)
@[go_sem] theorem ttm_137_h : hasP Tryz.prog 137 = true := by decide +kernel
@[go_sem] theorem ttm_137_s : sizeP Tryz.prog 137 = 1 := by decide +kernel
@[go_sem] theorem ttm_137_a : aggP Tryz.prog 137 = false := by decide +kernel
@[go_sem] theorem ttm_137_z : zeroP Tryz.prog 137 = some [.int .u64 0] := _root_.id (by kernel_rfl)
@[go_sem] theorem ttm_137_o : zeroOK Tryz.prog 137 = true := by decide +kernel
@[go_sem] theorem ttm_137_i : zeroI Tryz.prog 137 = some (.int .u64 0) := _root_.id (by kernel_rfl)
@[go_sem] theorem ttm_137_y : (((Tryz.prog.info? 137).map (·.bytes)).getD 0 ≤ 256) = True := eq_true (by decide +kernel)
@[go_sem] theorem ttm_137_b : (bytesP Tryz.prog 137 ≤ 1024) = True := eq_true (by decide +kernel)
@[go_sem] theorem ttm_137_k : keyK Tryz.prog 137 = some [.int .u64] := key_of (by decide +kernel)
@[go_sem] theorem ttm_138_h : hasP Tryz.prog 138 = true := by decide +kernel
@[go_sem] theorem ttm_138_s : sizeP Tryz.prog 138 = 1 := by decide +kernel
@[go_sem] theorem ttm_138_a : aggP Tryz.prog 138 = false := by decide +kernel
@[go_sem] theorem ttm_138_z : zeroP Tryz.prog 138 = some [.nilf] := _root_.id (by kernel_rfl)
@[go_sem] theorem ttm_138_o : zeroOK Tryz.prog 138 = true := by decide +kernel
@[go_sem] theorem ttm_138_i : zeroI Tryz.prog 138 = some (.nilf) := _root_.id (by kernel_rfl)
@[go_sem] theorem ttm_138_y : (((Tryz.prog.info? 138).map (·.bytes)).getD 0 ≤ 256) = True := eq_true (by decide +kernel)
@[go_sem] theorem ttm_138_b : (bytesP Tryz.prog 138 ≤ 1024) = True := eq_true (by decide +kernel)
@[go_sem] theorem ttm_139_h : hasP Tryz.prog 139 = true := by decide +kernel
@[go_sem] theorem ttm_139_s : sizeP Tryz.prog 139 = 1 := by decide +kernel
@[go_sem] theorem ttm_139_a : aggP Tryz.prog 139 = false := by decide +kernel
@[go_sem] theorem ttm_139_z : zeroP Tryz.prog 139 = some [.nilf] := _root_.id (by kernel_rfl)
@[go_sem] theorem ttm_139_o : zeroOK Tryz.prog 139 = true := by decide +kernel
@[go_sem] theorem ttm_139_i : zeroI Tryz.prog 139 = some (.nilf) := _root_.id (by kernel_rfl)
@[go_sem] theorem ttm_139_y : (((Tryz.prog.info? 139).map (·.bytes)).getD 0 ≤ 256) = True := eq_true (by decide +kernel)
@[go_sem] theorem ttm_139_b : (bytesP Tryz.prog 139 ≤ 1024) = True := eq_true (by decide +kernel)
@[go_sem] theorem ttm_140_h : hasP Tryz.prog 140 = true := by decide +kernel
@[go_sem] theorem ttm_140_s : sizeP Tryz.prog 140 = 1 := by decide +kernel
@[go_sem] theorem ttm_140_a : aggP Tryz.prog 140 = false := by decide +kernel
@[go_sem] theorem ttm_140_z : zeroP Tryz.prog 140 = some [.nilf] := _root_.id (by kernel_rfl)
@[go_sem] theorem ttm_140_o : zeroOK Tryz.prog 140 = true := by decide +kernel
@[go_sem] theorem ttm_140_i : zeroI Tryz.prog 140 = some (.nilf) := _root_.id (by kernel_rfl)
@[go_sem] theorem ttm_140_y : (((Tryz.prog.info? 140).map (·.bytes)).getD 0 ≤ 256) = True := eq_true (by decide +kernel)
@[go_sem] theorem ttm_140_b : (bytesP Tryz.prog 140 ≤ 1024) = True := eq_true (by decide +kernel)
@[go_sem] theorem ttm_141_h : hasP Tryz.prog 141 = true := by decide +kernel
@[go_sem] theorem ttm_141_s : sizeP Tryz.prog 141 = 1 := by decide +kernel
@[go_sem] theorem ttm_141_a : aggP Tryz.prog 141 = false := by decide +kernel
@[go_sem] theorem ttm_141_z : zeroP Tryz.prog 141 = some [.nilp] := _root_.id (by kernel_rfl)
@[go_sem] theorem ttm_141_o : zeroOK Tryz.prog 141 = true := by decide +kernel
@[go_sem] theorem ttm_141_i : zeroI Tryz.prog 141 = some (.nilp) := _root_.id (by kernel_rfl)
@[go_sem] theorem ttm_141_y : (((Tryz.prog.info? 141).map (·.bytes)).getD 0 ≤ 256) = True := eq_true (by decide +kernel)
@[go_sem] theorem ttm_141_b : (bytesP Tryz.prog 141 ≤ 1024) = True := eq_true (by decide +kernel)
@[go_sem] theorem ttm_142_h : hasP Tryz.prog 142 = true := by decide +kernel
@[go_sem] theorem ttm_142_s : sizeP Tryz.prog 142 = 1 := by decide +kernel
@[go_sem] theorem ttm_142_a : aggP Tryz.prog 142 = false := by decide +kernel
@[go_sem] theorem ttm_142_z : zeroP Tryz.prog 142 = some [.nilf] := _root_.id (by kernel_rfl)
@[go_sem] theorem ttm_142_o : zeroOK Tryz.prog 142 = true := by decide +kernel
@[go_sem] theorem ttm_142_i : zeroI Tryz.prog 142 = some (.nilf) := _root_.id (by kernel_rfl)
@[go_sem] theorem ttm_142_y : (((Tryz.prog.info? 142).map (·.bytes)).getD 0 ≤ 256) = True := eq_true (by decide +kernel)
@[go_sem] theorem ttm_142_b : (bytesP Tryz.prog 142 ≤ 1024) = True := eq_true (by decide +kernel)
@[go_sem] theorem ttm_143_h : hasP Tryz.prog 143 = true := by decide +kernel
@[go_sem] theorem ttm_143_s : sizeP Tryz.prog 143 = 3 := by decide +kernel
@[go_sem] theorem ttm_143_a : aggP Tryz.prog 143 = true := by decide +kernel
@[go_sem] theorem ttm_143_z : zeroP Tryz.prog 143 = some [.int .u8 0, .int .i64 0, .int .i64 0] := _root_.id (by kernel_rfl)
@[go_sem] theorem ttm_143_o : zeroOK Tryz.prog 143 = true := by decide +kernel
@[go_sem] theorem ttm_143_i : zeroI Tryz.prog 143 = some (.agg [.int .u8 0, .int .i64 0, .int .i64 0]) := _root_.id (by kernel_rfl)
@[go_sem] theorem ttm_143_y : (((Tryz.prog.info? 143).map (·.bytes)).getD 0 ≤ 256) = True := eq_true (by decide +kernel)
@[go_sem] theorem ttm_143_b : (bytesP Tryz.prog 143 ≤ 1024) = True := eq_true (by decide +kernel)
@[go_sem] theorem ttm_143_f : flatP Tryz.prog 143 = some [.int .u8, .int .i64, .int .i64] := flat_of (by decide +kernel)
@[go_sem] theorem ttm_143_k : keyK Tryz.prog 143 = some [.int .u8, .int .i64, .int .i64] := key_of (by decide +kernel)
@[go_sem] theorem ttm_144_h : hasP Tryz.prog 144 = true := by decide +kernel
@[go_sem] theorem ttm_144_s : sizeP Tryz.prog 144 = 3 := by decide +kernel
@[go_sem] theorem ttm_144_a : aggP Tryz.prog 144 = true := by decide +kernel
@[go_sem] theorem ttm_144_z : zeroP Tryz.prog 144 = some [.int .u8 0, .int .i64 0, .int .i64 0] := _root_.id (by kernel_rfl)
@[go_sem] theorem ttm_144_o : zeroOK Tryz.prog 144 = true := by decide +kernel
@[go_sem] theorem ttm_144_i : zeroI Tryz.prog 144 = some (.agg [.int .u8 0, .int .i64 0, .int .i64 0]) := _root_.id (by kernel_rfl)
@[go_sem] theorem ttm_144_y : (((Tryz.prog.info? 144).map (·.bytes)).getD 0 ≤ 256) = True := eq_true (by decide +kernel)
@[go_sem] theorem ttm_144_b : (bytesP Tryz.prog 144 ≤ 1024) = True := eq_true (by decide +kernel)
@[go_sem] theorem ttm_144_f : flatP Tryz.prog 144 = some [.int .u8, .int .i64, .int .i64] := flat_of (by decide +kernel)
@[go_sem] theorem ttm_144_k : keyK Tryz.prog 144 = some [.int .u8, .int .i64, .int .i64] := key_of (by decide +kernel)
@[go_sem] theorem ttm_145_h : hasP Tryz.prog 145 = true := by decide +kernel
@[go_sem] theorem ttm_145_s : sizeP Tryz.prog 145 = 2 := by decide +kernel
@[go_sem] theorem ttm_145_a : aggP Tryz.prog 145 = true := by decide +kernel
@[go_sem] theorem ttm_145_z : zeroP Tryz.prog 145 = some [.int .i64 0, .int .i64 0] := _root_.id (by kernel_rfl)
@[go_sem] theorem ttm_145_o : zeroOK Tryz.prog 145 = true := by decide +kernel
@[go_sem] theorem ttm_145_i : zeroI Tryz.prog 145 = some (.agg [.int .i64 0, .int .i64 0]) := _root_.id (by kernel_rfl)
@[go_sem] theorem ttm_145_y : (((Tryz.prog.info? 145).map (·.bytes)).getD 0 ≤ 256) = True := eq_true (by decide +kernel)
@[go_sem] theorem ttm_145_b : (bytesP Tryz.prog 145 ≤ 1024) = True := eq_true (by decide +kernel)
@[go_sem] theorem ttm_145_f : flatP Tryz.prog 145 = some [.int .i64, .int .i64] := flat_of (by decide +kernel)
@[go_sem] theorem ttm_145_k : keyK Tryz.prog 145 = some [.int .i64, .int .i64] := key_of (by decide +kernel)
@[go_sem] theorem ttm_146_h : hasP Tryz.prog 146 = true := by decide +kernel
@[go_sem] theorem ttm_146_s : sizeP Tryz.prog 146 = 2 := by decide +kernel
@[go_sem] theorem ttm_146_a : aggP Tryz.prog 146 = true := by decide +kernel
@[go_sem] theorem ttm_146_z : zeroP Tryz.prog 146 = some [.int .i64 0, .int .i64 0] := _root_.id (by kernel_rfl)
@[go_sem] theorem ttm_146_o : zeroOK Tryz.prog 146 = true := by decide +kernel
@[go_sem] theorem ttm_146_i : zeroI Tryz.prog 146 = some (.agg [.int .i64 0, .int .i64 0]) := _root_.id (by kernel_rfl)
@[go_sem] theorem ttm_146_y : (((Tryz.prog.info? 146).map (·.bytes)).getD 0 ≤ 256) = True := eq_true (by decide +kernel)
@[go_sem] theorem ttm_146_b : (bytesP Tryz.prog 146 ≤ 1024) = True := eq_true (by decide +kernel)
@[go_sem] theorem ttm_146_f : flatP Tryz.prog 146 = some [.int .i64, .int .i64] := flat_of (by decide +kernel)
@[go_sem] theorem ttm_146_k : keyK Tryz.prog 146 = some [.int .i64, .int .i64] := key_of (by decide +kernel)
@[go_sem] theorem ttm_148_h : hasP Tryz.prog 148 = true := by decide +kernel
@[go_sem] theorem ttm_148_s : sizeP Tryz.prog 148 = 1 := by decide +kernel
@[go_sem] theorem ttm_148_a : aggP Tryz.prog 148 = false := by decide +kernel
@[go_sem] theorem ttm_148_z : zeroP Tryz.prog 148 = some [.nilf] := _root_.id (by kernel_rfl)
@[go_sem] theorem ttm_148_o : zeroOK Tryz.prog 148 = true := by decide +kernel
@[go_sem] theorem ttm_148_i : zeroI Tryz.prog 148 = some (.nilf) := _root_.id (by kernel_rfl)
@[go_sem] theorem ttm_148_y : (((Tryz.prog.info? 148).map (·.bytes)).getD 0 ≤ 256) = True := eq_true (by decide +kernel)
@[go_sem] theorem ttm_148_b : (bytesP Tryz.prog 148 ≤ 1024) = True := eq_true (by decide +kernel)
@[go_sem] theorem ttm_149_h : hasP Tryz.prog 149 = true := by decide +kernel
@[go_sem] theorem ttm_149_s : sizeP Tryz.prog 149 = 1 := by decide +kernel
@[go_sem] theorem ttm_149_a : aggP Tryz.prog 149 = false := by decide +kernel
@[go_sem] theorem ttm_149_z : zeroP Tryz.prog 149 = some [.nilf] := _root_.id (by kernel_rfl)
@[go_sem] theorem ttm_149_o : zeroOK Tryz.prog 149 = true := by decide +kernel
@[go_sem] theorem ttm_149_i : zeroI Tryz.prog 149 = some (.nilf) := _root_.id (by kernel_rfl)
@[go_sem] theorem ttm_149_y : (((Tryz.prog.info? 149).map (·.bytes)).getD 0 ≤ 256) = True := eq_true (by decide +kernel)
@[go_sem] theorem ttm_149_b : (bytesP Tryz.prog 149 ≤ 1024) = True := eq_true (by decide +kernel)
@[go_sem] theorem ttm_150_h : hasP Tryz.prog 150 = true := by decide +kernel
@[go_sem] theorem ttm_150_s : sizeP Tryz.prog 150 = 4 := by decide +kernel
@[go_sem] theorem ttm_150_a : aggP Tryz.prog 150 = true := by decide +kernel
@[go_sem] theorem ttm_150_z : zeroP Tryz.prog 150 = some [.int .u8 0, .int .i64 0, .int .i64 0, .int .i64 0] := _root_.id (by kernel_rfl)
@[go_sem] theorem ttm_150_o : zeroOK Tryz.prog 150 = true := by decide +kernel
@[go_sem] theorem ttm_150_i : zeroI Tryz.prog 150 = some (.agg [.int .u8 0, .int .i64 0, .int .i64 0, .int .i64 0]) := _root_.id (by kernel_rfl)
@[go_sem] theorem ttm_150_y : (((Tryz.prog.info? 150).map (·.bytes)).getD 0 ≤ 256) = True := eq_true (by decide +kernel)
@[go_sem] theorem ttm_150_b : (bytesP Tryz.prog 150 ≤ 1024) = True := eq_true (by decide +kernel)
@[go_sem] theorem ttm_150_f : flatP Tryz.prog 150 = some [.int .u8, .int .i64, .int .i64, .int .i64] := flat_of (by decide +kernel)
@[go_sem] theorem ttm_150_k : keyK Tryz.prog 150 = some [.int .u8, .int .i64, .int .i64, .int .i64] := key_of (by decide +kernel)
@[go_sem] theorem ttm_151_h : hasP Tryz.prog 151 = true := by decide +kernel
@[go_sem] theorem ttm_151_s : sizeP Tryz.prog 151 = 4 := by decide +kernel
@[go_sem] theorem ttm_151_a : aggP Tryz.prog 151 = true := by decide +kernel
@[go_sem] theorem ttm_151_z : zeroP Tryz.prog 151 = some [.int .u8 0, .int .i64 0, .int .i64 0, .int .i64 0] := _root_.id (by kernel_rfl)
@[go_sem] theorem ttm_151_o : zeroOK Tryz.prog 151 = true := by decide +kernel
@[go_sem] theorem ttm_151_i : zeroI Tryz.prog 151 = some (.agg [.int .u8 0, .int .i64 0, .int .i64 0, .int .i64 0]) := _root_.id (by kernel_rfl)
@[go_sem] theorem ttm_151_y : (((Tryz.prog.info? 151).map (·.bytes)).getD 0 ≤ 256) = True := eq_true (by decide +kernel)
@[go_sem] theorem ttm_151_b : (bytesP Tryz.prog 151 ≤ 1024) = True := eq_true (by decide +kernel)
@[go_sem] theorem ttm_151_f : flatP Tryz.prog 151 = some [.int .u8, .int .i64, .int .i64, .int .i64] := flat_of (by decide +kernel)
@[go_sem] theorem ttm_151_k : keyK Tryz.prog 151 = some [.int .u8, .int .i64, .int .i64, .int .i64] := key_of (by decide +kernel)
@[go_sem] theorem ttm_152_h : hasP Tryz.prog 152 = true := by decide +kernel
@[go_sem] theorem ttm_152_s : sizeP Tryz.prog 152 = 1 := by decide +kernel
@[go_sem] theorem ttm_152_a : aggP Tryz.prog 152 = false := by decide +kernel
@[go_sem] theorem ttm_152_z : zeroP Tryz.prog 152 = some [.nilf] := _root_.id (by kernel_rfl)
@[go_sem] theorem ttm_152_o : zeroOK Tryz.prog 152 = true := by decide +kernel
@[go_sem] theorem ttm_152_i : zeroI Tryz.prog 152 = some (.nilf) := _root_.id (by kernel_rfl)
@[go_sem] theorem ttm_152_y : (((Tryz.prog.info? 152).map (·.bytes)).getD 0 ≤ 256) = True := eq_true (by decide +kernel)
@[go_sem] theorem ttm_152_b : (bytesP Tryz.prog 152 ≤ 1024) = True := eq_true (by decide +kernel)
@[go_sem] theorem ttm_153_h : hasP Tryz.prog 153 = true := by decide +kernel
@[go_sem] theorem ttm_153_s : sizeP Tryz.prog 153 = 1 := by decide +kernel
@[go_sem] theorem ttm_153_a : aggP Tryz.prog 153 = false := by decide +kernel
@[go_sem] theorem ttm_153_z : zeroP Tryz.prog 153 = some [.nilf] := _root_.id (by kernel_rfl)
@[go_sem] theorem ttm_153_o : zeroOK Tryz.prog 153 = true := by decide +kernel
@[go_sem] theorem ttm_153_i : zeroI Tryz.prog 153 = some (.nilf) := _root_.id (by kernel_rfl)
@[go_sem] theorem ttm_153_y : (((Tryz.prog.info? 153).map (·.bytes)).getD 0 ≤ 256) = True := eq_true (by decide +kernel)
@[go_sem] theorem ttm_153_b : (bytesP Tryz.prog 153 ≤ 1024) = True := eq_true (by decide +kernel)
@[go_sem] theorem ttm_154_h : hasP Tryz.prog 154 = true := by decide +kernel
@[go_sem] theorem ttm_154_s : sizeP Tryz.prog 154 = 1 := by decide +kernel
@[go_sem] theorem ttm_154_a : aggP Tryz.prog 154 = false := by decide +kernel
@[go_sem] theorem ttm_154_z : zeroP Tryz.prog 154 = some [.nilf] := _root_.id (by kernel_rfl)
@[go_sem] theorem ttm_154_o : zeroOK Tryz.prog 154 = true := by decide +kernel
@[go_sem] theorem ttm_154_i : zeroI Tryz.prog 154 = some (.nilf) := _root_.id (by kernel_rfl)
@[go_sem] theorem ttm_154_y : (((Tryz.prog.info? 154).map (·.bytes)).getD 0 ≤ 256) = True := eq_true (by decide +kernel)
@[go_sem] theorem ttm_154_b : (bytesP Tryz.prog 154 ≤ 1024) = True := eq_true (by decide +kernel)
@[go_sem] theorem ttm_155_h : hasP Tryz.prog 155 = true := by decide +kernel
@[go_sem] theorem ttm_155_s : sizeP Tryz.prog 155 = 1 := by decide +kernel
@[go_sem] theorem ttm_155_a : aggP Tryz.prog 155 = false := by decide +kernel
@[go_sem] theorem ttm_155_z : zeroP Tryz.prog 155 = some [.nilf] := _root_.id (by kernel_rfl)
@[go_sem] theorem ttm_155_o : zeroOK Tryz.prog 155 = true := by decide +kernel
@[go_sem] theorem ttm_155_i : zeroI Tryz.prog 155 = some (.nilf) := _root_.id (by kernel_rfl)
@[go_sem] theorem ttm_155_y : (((Tryz.prog.info? 155).map (·.bytes)).getD 0 ≤ 256) = True := eq_true (by decide +kernel)
@[go_sem] theorem ttm_155_b : (bytesP Tryz.prog 155 ≤ 1024) = True := eq_true (by decide +kernel)
@[go_sem] theorem ttm_156_h : hasP Tryz.prog 156 = true := by decide +kernel
@[go_sem] theorem ttm_156_s : sizeP Tryz.prog 156 = 1 := by decide +kernel
@[go_sem] theorem ttm_156_a : aggP Tryz.prog 156 = false := by decide +kernel
@[go_sem] theorem ttm_156_z : zeroP Tryz.prog 156 = some [.nilp] := _root_.id (by kernel_rfl)
@[go_sem] theorem ttm_156_o : zeroOK Tryz.prog 156 = true := by decide +kernel
@[go_sem] theorem ttm_156_i : zeroI Tryz.prog 156 = some (.nilp) := _root_.id (by kernel_rfl)
@[go_sem] theorem ttm_156_y : (((Tryz.prog.info? 156).map (·.bytes)).getD 0 ≤ 256) = True := eq_true (by decide +kernel)
@[go_sem] theorem ttm_156_b : (bytesP Tryz.prog 156 ≤ 1024) = True := eq_true (by decide +kernel)
@[go_sem] theorem ttm_158_h : hasP Tryz.prog 158 = true := by decide +kernel
@[go_sem] theorem ttm_158_s : sizeP Tryz.prog 158 = 1 := by decide +kernel
@[go_sem] theorem ttm_158_a : aggP Tryz.prog 158 = false := by decide +kernel
@[go_sem] theorem ttm_158_z : zeroP Tryz.prog 158 = some [.nilf] := _root_.id (by kernel_rfl)
@[go_sem] theorem ttm_158_o : zeroOK Tryz.prog 158 = true := by decide +kernel
@[go_sem] theorem ttm_158_i : zeroI Tryz.prog 158 = some (.nilf) := _root_.id (by kernel_rfl)
@[go_sem] theorem ttm_158_y : (((Tryz.prog.info? 158).map (·.bytes)).getD 0 ≤ 256) = True := eq_true (by decide +kernel)
@[go_sem] theorem ttm_158_b : (bytesP Tryz.prog 158 ≤ 1024) = True := eq_true (by decide +kernel)
@[go_sem] theorem ttm_159_h : hasP Tryz.prog 159 = true := by decide +kernel
@[go_sem] theorem ttm_159_s : sizeP Tryz.prog 159 = 1 := by decide +kernel
@[go_sem] theorem ttm_159_a : aggP Tryz.prog 159 = false := by decide +kernel
@[go_sem] theorem ttm_159_z : zeroP Tryz.prog 159 = some [.nilf] := _root_.id (by kernel_rfl)
@[go_sem] theorem ttm_159_o : zeroOK Tryz.prog 159 = true := by decide +kernel
@[go_sem] theorem ttm_159_i : zeroI Tryz.prog 159 = some (.nilf) := _root_.id (by kernel_rfl)
@[go_sem] theorem ttm_159_y : (((Tryz.prog.info? 159).map (·.bytes)).getD 0 ≤ 256) = True := eq_true (by decide +kernel)
@[go_sem] theorem ttm_159_b : (bytesP Tryz.prog 159 ≤ 1024) = True := eq_true (by decide +kernel)
@[go_sem] theorem ttm_160_h : hasP Tryz.prog 160 = true := by decide +kernel
@[go_sem] theorem ttm_160_s : sizeP Tryz.prog 160 = 1 := by decide +kernel
@[go_sem] theorem ttm_160_a : aggP Tryz.prog 160 = false := by decide +kernel
@[go_sem] theorem ttm_160_z : zeroP Tryz.prog 160 = some [.nilf] := _root_.id (by kernel_rfl)
@[go_sem] theorem ttm_160_o : zeroOK Tryz.prog 160 = true := by decide +kernel
@[go_sem] theorem ttm_160_i : zeroI Tryz.prog 160 = some (.nilf) := _root_.id (by kernel_rfl)
@[go_sem] theorem ttm_160_y : (((Tryz.prog.info? 160).map (·.bytes)).getD 0 ≤ 256) = True := eq_true (by decide +kernel)
@[go_sem] theorem ttm_160_b : (bytesP Tryz.prog 160 ≤ 1024) = True := eq_true (by decide +kernel)
@[go_sem] theorem ttm_161_h : hasP Tryz.prog 161 = true := by decide +kernel
@[go_sem] theorem ttm_161_s : sizeP Tryz.prog 161 = 4 := by decide +kernel
@[go_sem] theorem ttm_161_a : aggP Tryz.prog 161 = true := by decide +kernel
@[go_sem] theorem ttm_161_z : zeroP Tryz.prog 161 = some [.nilp, .nilp, .nilp, .str ByteArray.empty] := _root_.id (by kernel_rfl)
@[go_sem] theorem ttm_161_o : zeroOK Tryz.prog 161 = true := by decide +kernel
@[go_sem] theorem ttm_161_i : zeroI Tryz.prog 161 = some (.agg [.nilp, .nilp, .nilp, .str ByteArray.empty]) := _root_.id (by kernel_rfl)
@[go_sem] theorem ttm_161_y : (((Tryz.prog.info? 161).map (·.bytes)).getD 0 ≤ 256) = True := eq_true (by decide +kernel)
@[go_sem] theorem ttm_161_b : (bytesP Tryz.prog 161 ≤ 1024) = True := eq_true (by decide +kernel)
@[go_sem] theorem ttm_162_h : hasP Tryz.prog 162 = true := by decide +kernel
@[go_sem] theorem ttm_162_s : sizeP Tryz.prog 162 = 4 := by decide +kernel
@[go_sem] theorem ttm_162_a : aggP Tryz.prog 162 = true := by decide +kernel
@[go_sem] theorem ttm_162_z : zeroP Tryz.prog 162 = some [.nilp, .nilp, .nilp, .str ByteArray.empty] := _root_.id (by kernel_rfl)
@[go_sem] theorem ttm_162_o : zeroOK Tryz.prog 162 = true := by decide +kernel
@[go_sem] theorem ttm_162_i : zeroI Tryz.prog 162 = some (.agg [.nilp, .nilp, .nilp, .str ByteArray.empty]) := _root_.id (by kernel_rfl)
@[go_sem] theorem ttm_162_y : (((Tryz.prog.info? 162).map (·.bytes)).getD 0 ≤ 256) = True := eq_true (by decide +kernel)
@[go_sem] theorem ttm_162_b : (bytesP Tryz.prog 162 ≤ 1024) = True := eq_true (by decide +kernel)
@[go_sem] theorem ttm_163_h : hasP Tryz.prog 163 = true := by decide +kernel
@[go_sem] theorem ttm_163_s : sizeP Tryz.prog 163 = 0 := by decide +kernel
@[go_sem] theorem ttm_163_a : aggP Tryz.prog 163 = true := by decide +kernel
@[go_sem] theorem ttm_164_h : hasP Tryz.prog 164 = true := by decide +kernel
@[go_sem] theorem ttm_164_s : sizeP Tryz.prog 164 = 0 := by decide +kernel
@[go_sem] theorem ttm_164_a : aggP Tryz.prog 164 = true := by decide +kernel
@[go_sem] theorem ttm_165_h : hasP Tryz.prog 165 = true := by decide +kernel
@[go_sem] theorem ttm_165_s : sizeP Tryz.prog 165 = 0 := by decide +kernel
@[go_sem] theorem ttm_165_a : aggP Tryz.prog 165 = true := by decide +kernel
@[go_sem] theorem ttm_166_h : hasP Tryz.prog 166 = true := by decide +kernel
@[go_sem] theorem ttm_166_s : sizeP Tryz.prog 166 = 1 := by decide +kernel
@[go_sem] theorem ttm_166_a : aggP Tryz.prog 166 = false := by decide +kernel
@[go_sem] theorem ttm_166_z : zeroP Tryz.prog 166 = some [.nilf] := _root_.id (by kernel_rfl)
@[go_sem] theorem ttm_166_o : zeroOK Tryz.prog 166 = true := by decide +kernel
@[go_sem] theorem ttm_166_i : zeroI Tryz.prog 166 = some (.nilf) := _root_.id (by kernel_rfl)
@[go_sem] theorem ttm_166_y : (((Tryz.prog.info? 166).map (·.bytes)).getD 0 ≤ 256) = True := eq_true (by decide +kernel)
@[go_sem] theorem ttm_166_b : (bytesP Tryz.prog 166 ≤ 1024) = True := eq_true (by decide +kernel)
@[go_sem] theorem ttm_167_h : hasP Tryz.prog 167 = true := by decide +kernel
@[go_sem] theorem ttm_167_s : sizeP Tryz.prog 167 = 1 := by decide +kernel
@[go_sem] theorem ttm_167_a : aggP Tryz.prog 167 = false := by decide +kernel
@[go_sem] theorem ttm_167_z : zeroP Tryz.prog 167 = some [.int .u8 0] := _root_.id (by kernel_rfl)
@[go_sem] theorem ttm_167_o : zeroOK Tryz.prog 167 = true := by decide +kernel
@[go_sem] theorem ttm_167_i : zeroI Tryz.prog 167 = some (.int .u8 0) := _root_.id (by kernel_rfl)
@[go_sem] theorem ttm_167_y : (((Tryz.prog.info? 167).map (·.bytes)).getD 0 ≤ 256) = True := eq_true (by decide +kernel)
@[go_sem] theorem ttm_167_b : (bytesP Tryz.prog 167 ≤ 1024) = True := eq_true (by decide +kernel)
@[go_sem] theorem ttm_167_k : keyK Tryz.prog 167 = some [.int .u8] := key_of (by decide +kernel)
@[go_sem] theorem ttm_168_h : hasP Tryz.prog 168 = true := by decide +kernel
@[go_sem] theorem ttm_168_s : sizeP Tryz.prog 168 = 1 := by decide +kernel
@[go_sem] theorem ttm_168_a : aggP Tryz.prog 168 = false := by decide +kernel
@[go_sem] theorem ttm_168_z : zeroP Tryz.prog 168 = some [.int .u8 0] := _root_.id (by kernel_rfl)
@[go_sem] theorem ttm_168_o : zeroOK Tryz.prog 168 = true := by decide +kernel
@[go_sem] theorem ttm_168_i : zeroI Tryz.prog 168 = some (.int .u8 0) := _root_.id (by kernel_rfl)
@[go_sem] theorem ttm_168_y : (((Tryz.prog.info? 168).map (·.bytes)).getD 0 ≤ 256) = True := eq_true (by decide +kernel)
@[go_sem] theorem ttm_168_b : (bytesP Tryz.prog 168 ≤ 1024) = True := eq_true (by decide +kernel)
@[go_sem] theorem ttm_168_k : keyK Tryz.prog 168 = some [.int .u8] := key_of (by decide +kernel)
@[go_sem] theorem ttm_169_h : hasP Tryz.prog 169 = true := by decide +kernel
@[go_sem] theorem ttm_169_s : sizeP Tryz.prog 169 = 1 := by decide +kernel
@[go_sem] theorem ttm_169_a : aggP Tryz.prog 169 = false := by decide +kernel
@[go_sem] theorem ttm_169_z : zeroP Tryz.prog 169 = some [.nilf] := _root_.id (by kernel_rfl)
@[go_sem] theorem ttm_169_o : zeroOK Tryz.prog 169 = true := by decide +kernel
@[go_sem] theorem ttm_169_i : zeroI Tryz.prog 169 = some (.nilf) := _root_.id (by kernel_rfl)
@[go_sem] theorem ttm_169_y : (((Tryz.prog.info? 169).map (·.bytes)).getD 0 ≤ 256) = True := eq_true (by decide +kernel)
@[go_sem] theorem ttm_169_b : (bytesP Tryz.prog 169 ≤ 1024) = True := eq_true (by decide +kernel)
@[go_sem] theorem ttm_170_h : hasP Tryz.prog 170 = true := by decide +kernel
@[go_sem] theorem ttm_170_s : sizeP Tryz.prog 170 = 1 := by decide +kernel
@[go_sem] theorem ttm_170_a : aggP Tryz.prog 170 = false := by decide +kernel
@[go_sem] theorem ttm_170_z : zeroP Tryz.prog 170 = some [.nilp] := _root_.id (by kernel_rfl)
@[go_sem] theorem ttm_170_o : zeroOK Tryz.prog 170 = true := by decide +kernel
@[go_sem] theorem ttm_170_i : zeroI Tryz.prog 170 = some (.nilp) := _root_.id (by kernel_rfl)
@[go_sem] theorem ttm_170_y : (((Tryz.prog.info? 170).map (·.bytes)).getD 0 ≤ 256) = True := eq_true (by decide +kernel)
@[go_sem] theorem ttm_170_b : (bytesP Tryz.prog 170 ≤ 1024) = True := eq_true (by decide +kernel)
@[go_sem] theorem ttm_171_h : hasP Tryz.prog 171 = true := by decide +kernel
@[go_sem] theorem ttm_171_s : sizeP Tryz.prog 171 = 1 := by decide +kernel
@[go_sem] theorem ttm_171_a : aggP Tryz.prog 171 = false := by decide +kernel
@[go_sem] theorem ttm_171_z : zeroP Tryz.prog 171 = some [.int .i32 0] := _root_.id (by kernel_rfl)
@[go_sem] theorem ttm_171_o : zeroOK Tryz.prog 171 = true := by decide +kernel
@[go_sem] theorem ttm_171_i : zeroI Tryz.prog 171 = some (.int .i32 0) := _root_.id (by kernel_rfl)
@[go_sem] theorem ttm_171_y : (((Tryz.prog.info? 171).map (·.bytes)).getD 0 ≤ 256) = True := eq_true (by decide +kernel)
@[go_sem] theorem ttm_171_b : (bytesP Tryz.prog 171 ≤ 1024) = True := eq_true (by decide +kernel)
@[go_sem] theorem ttm_171_k : keyK Tryz.prog 171 = some [.int .i32] := key_of (by decide +kernel)
@[go_sem] theorem ttm_172_h : hasP Tryz.prog 172 = true := by decide +kernel
@[go_sem] theorem ttm_172_s : sizeP Tryz.prog 172 = 1 := by decide +kernel
@[go_sem] theorem ttm_172_a : aggP Tryz.prog 172 = false := by decide +kernel
@[go_sem] theorem ttm_172_z : zeroP Tryz.prog 172 = some [.int .i32 0] := _root_.id (by kernel_rfl)
@[go_sem] theorem ttm_172_o : zeroOK Tryz.prog 172 = true := by decide +kernel
@[go_sem] theorem ttm_172_i : zeroI Tryz.prog 172 = some (.int .i32 0) := _root_.id (by kernel_rfl)
@[go_sem] theorem ttm_172_y : (((Tryz.prog.info? 172).map (·.bytes)).getD 0 ≤ 256) = True := eq_true (by decide +kernel)
@[go_sem] theorem ttm_172_b : (bytesP Tryz.prog 172 ≤ 1024) = True := eq_true (by decide +kernel)
@[go_sem] theorem ttm_172_k : keyK Tryz.prog 172 = some [.int .i32] := key_of (by decide +kernel)
@[go_sem] theorem ttm_173_h : hasP Tryz.prog 173 = true := by decide +kernel
@[go_sem] theorem ttm_173_s : sizeP Tryz.prog 173 = 11 := by decide +kernel
@[go_sem] theorem ttm_173_a : aggP Tryz.prog 173 = true := by decide +kernel
@[go_sem] theorem ttm_173_z : zeroP Tryz.prog 173 = some [.int .u64 0, .int .u64 0, .int .u32 0, .int .u8 0, .int .u8 0, .int .u8 0, .int .u8 0, .nilf, .nilp, .int .i32 0, .int .i32 0] := _root_.id (by kernel_rfl)
@[go_sem] theorem ttm_173_o : zeroOK Tryz.prog 173 = true := by decide +kernel
@[go_sem] theorem ttm_173_i : zeroI Tryz.prog 173 = some (.agg [.int .u64 0, .int .u64 0, .int .u32 0, .int .u8 0, .int .u8 0, .int .u8 0, .int .u8 0, .nilf, .nilp, .int .i32 0, .int .i32 0]) := _root_.id (by kernel_rfl)
@[go_sem] theorem ttm_173_y : (((Tryz.prog.info? 173).map (·.bytes)).getD 0 ≤ 256) = True := eq_true (by decide +kernel)
@[go_sem] theorem ttm_173_b : (bytesP Tryz.prog 173 ≤ 1024) = True := eq_true (by decide +kernel)
@[go_sem] theorem ttm_174_h : hasP Tryz.prog 174 = true := by decide +kernel
@[go_sem] theorem ttm_174_s : sizeP Tryz.prog 174 = 11 := by decide +kernel
@[go_sem] theorem ttm_174_a : aggP Tryz.prog 174 = true := by decide +kernel
@[go_sem] theorem ttm_174_z : zeroP Tryz.prog 174 = some [.int .u64 0, .int .u64 0, .int .u32 0, .int .u8 0, .int .u8 0, .int .u8 0, .int .u8 0, .nilf, .nilp, .int .i32 0, .int .i32 0] := _root_.id (by kernel_rfl)
@[go_sem] theorem ttm_174_o : zeroOK Tryz.prog 174 = true := by decide +kernel
@[go_sem] theorem ttm_174_i : zeroI Tryz.prog 174 = some (.agg [.int .u64 0, .int .u64 0, .int .u32 0, .int .u8 0, .int .u8 0, .int .u8 0, .int .u8 0, .nilf, .nilp, .int .i32 0, .int .i32 0]) := _root_.id (by kernel_rfl)
@[go_sem] theorem ttm_174_y : (((Tryz.prog.info? 174).map (·.bytes)).getD 0 ≤ 256) = True := eq_true (by decide +kernel)
@[go_sem] theorem ttm_174_b : (bytesP Tryz.prog 174 ≤ 1024) = True := eq_true (by decide +kernel)
end Go.Idl
