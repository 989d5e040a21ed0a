/-
  Chapter 36: the types.
-/
import Derived.Test.YtpfpgkopbokfgaaDoorProg
import Derived.Test.YtpfpgkopbokfgaaDoorIdlW
namespace Go.Idl
set_option linter.all false
open Go.Proofs
@[go_sem] theorem t36_1_h : hasP Tryd.prog 1 = true := by decide +kernel
@[go_sem] theorem t36_1_s : sizeP Tryd.prog 1 = 1 := by decide +kernel
@[go_sem] theorem t36_1_a : aggP Tryd.prog 1 = false := by decide +kernel
@[go_sem] theorem t36_1_z : zeroP Tryd.prog 1 = some [.nilf] := _root_.id rfl
@[go_sem] theorem t36_1_o : zeroOK Tryd.prog 1 = true := by decide +kernel
@[go_sem] theorem t36_1_i : zeroI Tryd.prog 1 = some (.nilf) := _root_.id rfl
@[go_sem] theorem t36_1_y : (((Tryd.prog.info? 1).map (·.bytes)).getD 0 ≤ 256) = True := eq_true (by decide +kernel)
@[go_sem] theorem t36_1_b : (bytesP Tryd.prog 1 ≤ 1024) = True := eq_true (by decide +kernel)
@[go_sem] theorem t36_2_h : hasP Tryd.prog 2 = true := by decide +kernel
@[go_sem] theorem t36_2_s : sizeP Tryd.prog 2 = 1 := by decide +kernel
@[go_sem] theorem t36_2_a : aggP Tryd.prog 2 = false := by decide +kernel
@[go_sem] theorem t36_2_z : zeroP Tryd.prog 2 = some [.int .i64 0] := _root_.id rfl
@[go_sem] theorem t36_2_o : zeroOK Tryd.prog 2 = true := by decide +kernel
@[go_sem] theorem t36_2_i : zeroI Tryd.prog 2 = some (.int .i64 0) := _root_.id rfl
@[go_sem] theorem t36_2_y : (((Tryd.prog.info? 2).map (·.bytes)).getD 0 ≤ 256) = True := eq_true (by decide +kernel)
@[go_sem] theorem t36_2_b : (bytesP Tryd.prog 2 ≤ 1024) = True := eq_true (by decide +kernel)
@[go_sem] theorem t36_2_k : keyK Tryd.prog 2 = some [.int .i64] := key_of (by decide +kernel)
@[go_sem] theorem t36_3_h : hasP Tryd.prog 3 = true := by decide +kernel
@[go_sem] theorem t36_3_s : sizeP Tryd.prog 3 = 1 := by decide +kernel
@[go_sem] theorem t36_3_a : aggP Tryd.prog 3 = false := by decide +kernel
@[go_sem] theorem t36_3_z : zeroP Tryd.prog 3 = some [.int .i64 0] := _root_.id rfl
@[go_sem] theorem t36_3_o : zeroOK Tryd.prog 3 = true := by decide +kernel
@[go_sem] theorem t36_3_i : zeroI Tryd.prog 3 = some (.int .i64 0) := _root_.id rfl
@[go_sem] theorem t36_3_y : (((Tryd.prog.info? 3).map (·.bytes)).getD 0 ≤ 256) = True := eq_true (by decide +kernel)
@[go_sem] theorem t36_3_b : (bytesP Tryd.prog 3 ≤ 1024) = True := eq_true (by decide +kernel)
@[go_sem] theorem t36_3_k : keyK Tryd.prog 3 = some [.int .i64] := key_of (by decide +kernel)
@[go_sem] theorem t36_4_h : hasP Tryd.prog 4 = true := by decide +kernel
@[go_sem] theorem t36_4_s : sizeP Tryd.prog 4 = 1 := by decide +kernel
@[go_sem] theorem t36_4_a : aggP Tryd.prog 4 = false := by decide +kernel
@[go_sem] theorem t36_4_z : zeroP Tryd.prog 4 = some [.bool false] := _root_.id rfl
@[go_sem] theorem t36_4_o : zeroOK Tryd.prog 4 = true := by decide +kernel
@[go_sem] theorem t36_4_i : zeroI Tryd.prog 4 = some (.bool false) := _root_.id rfl
@[go_sem] theorem t36_4_y : (((Tryd.prog.info? 4).map (·.bytes)).getD 0 ≤ 256) = True := eq_true (by decide +kernel)
@[go_sem] theorem t36_4_b : (bytesP Tryd.prog 4 ≤ 1024) = True := eq_true (by decide +kernel)
@[go_sem] theorem t36_4_k : keyK Tryd.prog 4 = some [.bool] := key_of (by decide +kernel)
@[go_sem] theorem t36_5_h : hasP Tryd.prog 5 = true := by decide +kernel
@[go_sem] theorem t36_5_s : sizeP Tryd.prog 5 = 1 := by decide +kernel
@[go_sem] theorem t36_5_a : aggP Tryd.prog 5 = false := by decide +kernel
@[go_sem] theorem t36_5_z : zeroP Tryd.prog 5 = some [.int .u8 0] := _root_.id rfl
@[go_sem] theorem t36_5_o : zeroOK Tryd.prog 5 = true := by decide +kernel
@[go_sem] theorem t36_5_i : zeroI Tryd.prog 5 = some (.int .u8 0) := _root_.id rfl
@[go_sem] theorem t36_5_y : (((Tryd.prog.info? 5).map (·.bytes)).getD 0 ≤ 256) = True := eq_true (by decide +kernel)
@[go_sem] theorem t36_5_b : (bytesP Tryd.prog 5 ≤ 1024) = True := eq_true (by decide +kernel)
@[go_sem] theorem t36_5_k : keyK Tryd.prog 5 = some [.int .u8] := key_of (by decide +kernel)
@[go_sem] theorem t36_6_h : hasP Tryd.prog 6 = true := by decide +kernel
@[go_sem] theorem t36_6_s : sizeP Tryd.prog 6 = 1 := by decide +kernel
@[go_sem] theorem t36_6_a : aggP Tryd.prog 6 = false := by decide +kernel
@[go_sem] theorem t36_6_z : zeroP Tryd.prog 6 = some [.int .u8 0] := _root_.id rfl
@[go_sem] theorem t36_6_o : zeroOK Tryd.prog 6 = true := by decide +kernel
@[go_sem] theorem t36_6_i : zeroI Tryd.prog 6 = some (.int .u8 0) := _root_.id rfl
@[go_sem] theorem t36_6_y : (((Tryd.prog.info? 6).map (·.bytes)).getD 0 ≤ 256) = True := eq_true (by decide +kernel)
@[go_sem] theorem t36_6_b : (bytesP Tryd.prog 6 ≤ 1024) = True := eq_true (by decide +kernel)
@[go_sem] theorem t36_6_k : keyK Tryd.prog 6 = some [.int .u8] := key_of (by decide +kernel)
@[go_sem] theorem t36_7_h : hasP Tryd.prog 7 = true := by decide +kernel
@[go_sem] theorem t36_7_s : sizeP Tryd.prog 7 = 4 := by decide +kernel
@[go_sem] theorem t36_7_a : aggP Tryd.prog 7 = true := by decide +kernel
@[go_sem] theorem t36_7_z : zeroP Tryd.prog 7 = some [.int .i64 0, .int .i64 0, .bool false, .int .u8 0] := _root_.id rfl
@[go_sem] theorem t36_7_o : zeroOK Tryd.prog 7 = true := by decide +kernel
@[go_sem] theorem t36_7_i : zeroI Tryd.prog 7 = some (.agg [.int .i64 0, .int .i64 0, .bool false, .int .u8 0]) := _root_.id rfl
@[go_sem] theorem t36_7_y : (((Tryd.prog.info? 7).map (·.bytes)).getD 0 ≤ 256) = True := eq_true (by decide +kernel)
@[go_sem] theorem t36_7_b : (bytesP Tryd.prog 7 ≤ 1024) = True := eq_true (by decide +kernel)
@[go_sem] theorem t36_7_f : flatP Tryd.prog 7 = some [.int .i64, .int .i64, .bool, .int .u8] := flat_of (by decide +kernel)
@[go_sem] theorem t36_7_k : keyK Tryd.prog 7 = some [.int .i64, .int .i64, .bool, .int .u8] := key_of (by decide +kernel)
@[go_sem] theorem t36_8_h : hasP Tryd.prog 8 = true := by decide +kernel
@[go_sem] theorem t36_8_s : sizeP Tryd.prog 8 = 4 := by decide +kernel
@[go_sem] theorem t36_8_a : aggP Tryd.prog 8 = true := by decide +kernel
@[go_sem] theorem t36_8_z : zeroP Tryd.prog 8 = some [.int .i64 0, .int .i64 0, .bool false, .int .u8 0] := _root_.id rfl
@[go_sem] theorem t36_8_o : zeroOK Tryd.prog 8 = true := by decide +kernel
@[go_sem] theorem t36_8_i : zeroI Tryd.prog 8 = some (.agg [.int .i64 0, .int .i64 0, .bool false, .int .u8 0]) := _root_.id rfl
@[go_sem] theorem t36_8_y : (((Tryd.prog.info? 8).map (·.bytes)).getD 0 ≤ 256) = True := eq_true (by decide +kernel)
@[go_sem] theorem t36_8_b : (bytesP Tryd.prog 8 ≤ 1024) = True := eq_true (by decide +kernel)
@[go_sem] theorem t36_8_f : flatP Tryd.prog 8 = some [.int .i64, .int .i64, .bool, .int .u8] := flat_of (by decide +kernel)
@[go_sem] theorem t36_8_k : keyK Tryd.prog 8 = some [.int .i64, .int .i64, .bool, .int .u8] := key_of (by decide +kernel)
@[go_sem] theorem t36_9_h : hasP Tryd.prog 9 = true := by decide +kernel
@[go_sem] theorem t36_9_s : sizeP Tryd.prog 9 = 1 := by decide +kernel
@[go_sem] theorem t36_9_a : aggP Tryd.prog 9 = false := by decide +kernel
@[go_sem] theorem t36_9_z : zeroP Tryd.prog 9 = some [.str ByteArray.empty] := _root_.id rfl
@[go_sem] theorem t36_9_o : zeroOK Tryd.prog 9 = true := by decide +kernel
@[go_sem] theorem t36_9_i : zeroI Tryd.prog 9 = some (.str ByteArray.empty) := _root_.id rfl
@[go_sem] theorem t36_9_y : (((Tryd.prog.info? 9).map (·.bytes)).getD 0 ≤ 256) = True := eq_true (by decide +kernel)
@[go_sem] theorem t36_9_b : (bytesP Tryd.prog 9 ≤ 1024) = True := eq_true (by decide +kernel)
@[go_sem] theorem t36_9_k : keyK Tryd.prog 9 = some [.string] := key_of (by decide +kernel)
@[go_sem] theorem t36_10_h : hasP Tryd.prog 10 = true := by decide +kernel
@[go_sem] theorem t36_10_s : sizeP Tryd.prog 10 = 1 := by decide +kernel
@[go_sem] theorem t36_10_a : aggP Tryd.prog 10 = false := by decide +kernel
@[go_sem] theorem t36_10_z : zeroP Tryd.prog 10 = some [.str ByteArray.empty] := _root_.id rfl
@[go_sem] theorem t36_10_o : zeroOK Tryd.prog 10 = true := by decide +kernel
@[go_sem] theorem t36_10_i : zeroI Tryd.prog 10 = some (.str ByteArray.empty) := _root_.id rfl
@[go_sem] theorem t36_10_y : (((Tryd.prog.info? 10).map (·.bytes)).getD 0 ≤ 256) = True := eq_true (by decide +kernel)
@[go_sem] theorem t36_10_b : (bytesP Tryd.prog 10 ≤ 1024) = True := eq_true (by decide +kernel)
@[go_sem] theorem t36_10_k : keyK Tryd.prog 10 = some [.string] := key_of (by decide +kernel)
@[go_sem] theorem t36_11_h : hasP Tryd.prog 11 = true := by decide +kernel
@[go_sem] theorem t36_11_s : sizeP Tryd.prog 11 = 1 := by decide +kernel
@[go_sem] theorem t36_11_a : aggP Tryd.prog 11 = false := by decide +kernel
@[go_sem] theorem t36_11_z : zeroP Tryd.prog 11 = some [.str ByteArray.empty] := _root_.id rfl
@[go_sem] theorem t36_11_o : zeroOK Tryd.prog 11 = true := by decide +kernel
@[go_sem] theorem t36_11_i : zeroI Tryd.prog 11 = some (.str ByteArray.empty) := _root_.id rfl
@[go_sem] theorem t36_11_y : (((Tryd.prog.info? 11).map (·.bytes)).getD 0 ≤ 256) = True := eq_true (by decide +kernel)
@[go_sem] theorem t36_11_b : (bytesP Tryd.prog 11 ≤ 1024) = True := eq_true (by decide +kernel)
@[go_sem] theorem t36_11_k : keyK Tryd.prog 11 = some [.string] := key_of (by decide +kernel)
@[go_sem] theorem t36_12_h : hasP Tryd.prog 12 = true := by decide +kernel
@[go_sem] theorem t36_12_s : sizeP Tryd.prog 12 = 1 := by decide +kernel
@[go_sem] theorem t36_12_a : aggP Tryd.prog 12 = false := by decide +kernel
@[go_sem] theorem t36_12_z : zeroP Tryd.prog 12 = some [.int .u64 0] := _root_.id rfl
@[go_sem] theorem t36_12_o : zeroOK Tryd.prog 12 = true := by decide +kernel
@[go_sem] theorem t36_12_i : zeroI Tryd.prog 12 = some (.int .u64 0) := _root_.id rfl
@[go_sem] theorem t36_12_y : (((Tryd.prog.info? 12).map (·.bytes)).getD 0 ≤ 256) = True := eq_true (by decide +kernel)
@[go_sem] theorem t36_12_b : (bytesP Tryd.prog 12 ≤ 1024) = True := eq_true (by decide +kernel)
@[go_sem] theorem t36_12_k : keyK Tryd.prog 12 = some [.int .u64] := key_of (by decide +kernel)
@[go_sem] theorem t36_13_h : hasP Tryd.prog 13 = true := by decide +kernel
@[go_sem] theorem t36_13_s : sizeP Tryd.prog 13 = 2 := by decide +kernel
@[go_sem] theorem t36_13_a : aggP Tryd.prog 13 = true := by decide +kernel
@[go_sem] theorem t36_13_z : zeroP Tryd.prog 13 = some [.str ByteArray.empty, .int .u64 0] := _root_.id rfl
@[go_sem] theorem t36_13_o : zeroOK Tryd.prog 13 = true := by decide +kernel
@[go_sem] theorem t36_13_i : zeroI Tryd.prog 13 = some (.agg [.str ByteArray.empty, .int .u64 0]) := _root_.id rfl
@[go_sem] theorem t36_13_y : (((Tryd.prog.info? 13).map (·.bytes)).getD 0 ≤ 256) = True := eq_true (by decide +kernel)
@[go_sem] theorem t36_13_b : (bytesP Tryd.prog 13 ≤ 1024) = True := eq_true (by decide +kernel)
@[go_sem] theorem t36_14_h : hasP Tryd.prog 14 = true := by decide +kernel
@[go_sem] theorem t36_14_s : sizeP Tryd.prog 14 = 2 := by decide +kernel
@[go_sem] theorem t36_14_a : aggP Tryd.prog 14 = true := by decide +kernel
@[go_sem] theorem t36_14_z : zeroP Tryd.prog 14 = some [.str ByteArray.empty, .int .u64 0] := _root_.id rfl
@[go_sem] theorem t36_14_o : zeroOK Tryd.prog 14 = true := by decide +kernel
@[go_sem] theorem t36_14_i : zeroI Tryd.prog 14 = some (.agg [.str ByteArray.empty, .int .u64 0]) := _root_.id rfl
@[go_sem] theorem t36_14_y : (((Tryd.prog.info? 14).map (·.bytes)).getD 0 ≤ 256) = True := eq_true (by decide +kernel)
@[go_sem] theorem t36_14_b : (bytesP Tryd.prog 14 ≤ 1024) = True := eq_true (by decide +kernel)
@[go_sem] theorem t36_15_h : hasP Tryd.prog 15 = true := by decide +kernel
@[go_sem] theorem t36_15_s : sizeP Tryd.prog 15 = 1 := by decide +kernel
@[go_sem] theorem t36_15_a : aggP Tryd.prog 15 = false := by decide +kernel
@[go_sem] theorem t36_15_z : zeroP Tryd.prog 15 = some [.nilp] := _root_.id rfl
@[go_sem] theorem t36_15_o : zeroOK Tryd.prog 15 = true := by decide +kernel
@[go_sem] theorem t36_15_i : zeroI Tryd.prog 15 = some (.nilp) := _root_.id rfl
@[go_sem] theorem t36_15_y : (((Tryd.prog.info? 15).map (·.bytes)).getD 0 ≤ 256) = True := eq_true (by decide +kernel)
@[go_sem] theorem t36_15_b : (bytesP Tryd.prog 15 ≤ 1024) = True := eq_true (by decide +kernel)
@[go_sem] theorem t36_16_h : hasP Tryd.prog 16 = true := by decide +kernel
@[go_sem] theorem t36_16_s : sizeP Tryd.prog 16 = 1 := by decide +kernel
@[go_sem] theorem t36_16_a : aggP Tryd.prog 16 = false := by decide +kernel
@[go_sem] theorem t36_16_z : zeroP Tryd.prog 16 = some [.nilp] := _root_.id rfl
@[go_sem] theorem t36_16_o : zeroOK Tryd.prog 16 = true := by decide +kernel
@[go_sem] theorem t36_16_i : zeroI Tryd.prog 16 = some (.nilp) := _root_.id rfl
@[go_sem] theorem t36_16_y : (((Tryd.prog.info? 16).map (·.bytes)).getD 0 ≤ 256) = True := eq_true (by decide +kernel)
@[go_sem] theorem t36_16_b : (bytesP Tryd.prog 16 ≤ 1024) = True := eq_true (by decide +kernel)
@[go_sem] theorem t36_17_h : hasP Tryd.prog 17 = true := by decide +kernel
@[go_sem] theorem t36_17_s : sizeP Tryd.prog 17 = 1 := by decide +kernel
@[go_sem] theorem t36_17_a : aggP Tryd.prog 17 = false := by decide +kernel
@[go_sem] theorem t36_17_z : zeroP Tryd.prog 17 = some [.nilp] := _root_.id rfl
@[go_sem] theorem t36_17_o : zeroOK Tryd.prog 17 = true := by decide +kernel
@[go_sem] theorem t36_17_i : zeroI Tryd.prog 17 = some (.nilp) := _root_.id rfl
@[go_sem] theorem t36_17_y : (((Tryd.prog.info? 17).map (·.bytes)).getD 0 ≤ 256) = True := eq_true (by decide +kernel)
@[go_sem] theorem t36_17_b : (bytesP Tryd.prog 17 ≤ 1024) = True := eq_true (by decide +kernel)
@[go_sem] theorem t36_18_h : hasP Tryd.prog 18 = true := by decide +kernel
@[go_sem] theorem t36_18_s : sizeP Tryd.prog 18 = 1 := by decide +kernel
@[go_sem] theorem t36_18_a : aggP Tryd.prog 18 = true := by decide +kernel
@[go_sem] theorem t36_18_z : zeroP Tryd.prog 18 = some [.nilp] := _root_.id rfl
@[go_sem] theorem t36_18_o : zeroOK Tryd.prog 18 = true := by decide +kernel
@[go_sem] theorem t36_18_i : zeroI Tryd.prog 18 = some (.agg [.nilp]) := _root_.id rfl
@[go_sem] theorem t36_18_y : (((Tryd.prog.info? 18).map (·.bytes)).getD 0 ≤ 256) = True := eq_true (by decide +kernel)
@[go_sem] theorem t36_18_b : (bytesP Tryd.prog 18 ≤ 1024) = True := eq_true (by decide +kernel)
@[go_sem] theorem t36_19_h : hasP Tryd.prog 19 = true := by decide +kernel
@[go_sem] theorem t36_19_s : sizeP Tryd.prog 19 = 1 := by decide +kernel
@[go_sem] theorem t36_19_a : aggP Tryd.prog 19 = true := by decide +kernel
@[go_sem] theorem t36_19_z : zeroP Tryd.prog 19 = some [.nilp] := _root_.id rfl
@[go_sem] theorem t36_19_o : zeroOK Tryd.prog 19 = true := by decide +kernel
@[go_sem] theorem t36_19_i : zeroI Tryd.prog 19 = some (.agg [.nilp]) := _root_.id rfl
@[go_sem] theorem t36_19_y : (((Tryd.prog.info? 19).map (·.bytes)).getD 0 ≤ 256) = True := eq_true (by decide +kernel)
@[go_sem] theorem t36_19_b : (bytesP Tryd.prog 19 ≤ 1024) = True := eq_true (by decide +kernel)
@[go_sem] theorem t36_21_h : hasP Tryd.prog 21 = true := by decide +kernel
@[go_sem] theorem t36_21_s : sizeP Tryd.prog 21 = 1 := by decide +kernel
@[go_sem] theorem t36_21_a : aggP Tryd.prog 21 = false := by decide +kernel
@[go_sem] theorem t36_21_z : zeroP Tryd.prog 21 = some [.int .i32 0] := _root_.id rfl
@[go_sem] theorem t36_21_o : zeroOK Tryd.prog 21 = true := by decide +kernel
@[go_sem] theorem t36_21_i : zeroI Tryd.prog 21 = some (.int .i32 0) := _root_.id rfl
@[go_sem] theorem t36_21_y : (((Tryd.prog.info? 21).map (·.bytes)).getD 0 ≤ 256) = True := eq_true (by decide +kernel)
@[go_sem] theorem t36_21_b : (bytesP Tryd.prog 21 ≤ 1024) = True := eq_true (by decide +kernel)
@[go_sem] theorem t36_21_k : keyK Tryd.prog 21 = some [.int .i32] := key_of (by decide +kernel)
@[go_sem] theorem t36_22_h : hasP Tryd.prog 22 = true := by decide +kernel
@[go_sem] theorem t36_22_s : sizeP Tryd.prog 22 = 1 := by decide +kernel
@[go_sem] theorem t36_22_a : aggP Tryd.prog 22 = false := by decide +kernel
@[go_sem] theorem t36_22_z : zeroP Tryd.prog 22 = some [.nils] := _root_.id rfl
@[go_sem] theorem t36_22_o : zeroOK Tryd.prog 22 = true := by decide +kernel
@[go_sem] theorem t36_22_i : zeroI Tryd.prog 22 = some (.nils) := _root_.id rfl
@[go_sem] theorem t36_22_y : (((Tryd.prog.info? 22).map (·.bytes)).getD 0 ≤ 256) = True := eq_true (by decide +kernel)
@[go_sem] theorem t36_22_b : (bytesP Tryd.prog 22 ≤ 1024) = True := eq_true (by decide +kernel)
@[go_sem] theorem t36_23_h : hasP Tryd.prog 23 = true := by decide +kernel
@[go_sem] theorem t36_23_s : sizeP Tryd.prog 23 = 1 := by decide +kernel
@[go_sem] theorem t36_23_a : aggP Tryd.prog 23 = false := by decide +kernel
@[go_sem] theorem t36_23_z : zeroP Tryd.prog 23 = some [.nils] := _root_.id rfl
@[go_sem] theorem t36_23_o : zeroOK Tryd.prog 23 = true := by decide +kernel
@[go_sem] theorem t36_23_i : zeroI Tryd.prog 23 = some (.nils) := _root_.id rfl
@[go_sem] theorem t36_23_y : (((Tryd.prog.info? 23).map (·.bytes)).getD 0 ≤ 256) = True := eq_true (by decide +kernel)
@[go_sem] theorem t36_23_b : (bytesP Tryd.prog 23 ≤ 1024) = True := eq_true (by decide +kernel)
@[go_sem] theorem t36_24_h : hasP Tryd.prog 24 = true := by decide +kernel
@[go_sem] theorem t36_24_s : sizeP Tryd.prog 24 = 1 := by decide +kernel
@[go_sem] theorem t36_24_a : aggP Tryd.prog 24 = false := by decide +kernel
@[go_sem] theorem t36_24_z : zeroP Tryd.prog 24 = some [.nilf] := _root_.id rfl
@[go_sem] theorem t36_24_o : zeroOK Tryd.prog 24 = true := by decide +kernel
@[go_sem] theorem t36_24_i : zeroI Tryd.prog 24 = some (.nilf) := _root_.id rfl
@[go_sem] theorem t36_24_y : (((Tryd.prog.info? 24).map (·.bytes)).getD 0 ≤ 256) = True := eq_true (by decide +kernel)
@[go_sem] theorem t36_24_b : (bytesP Tryd.prog 24 ≤ 1024) = True := eq_true (by decide +kernel)
@[go_sem] theorem t36_25_h : hasP Tryd.prog 25 = true := by decide +kernel
@[go_sem] theorem t36_25_s : sizeP Tryd.prog 25 = 1 := by decide +kernel
@[go_sem] theorem t36_25_a : aggP Tryd.prog 25 = false := by decide +kernel
@[go_sem] theorem t36_25_z : zeroP Tryd.prog 25 = some [.nilf] := _root_.id rfl
@[go_sem] theorem t36_25_o : zeroOK Tryd.prog 25 = true := by decide +kernel
@[go_sem] theorem t36_25_i : zeroI Tryd.prog 25 = some (.nilf) := _root_.id rfl
@[go_sem] theorem t36_25_y : (((Tryd.prog.info? 25).map (·.bytes)).getD 0 ≤ 256) = True := eq_true (by decide +kernel)
@[go_sem] theorem t36_25_b : (bytesP Tryd.prog 25 ≤ 1024) = True := eq_true (by decide +kernel)
@[go_sem] theorem t36_26_h : hasP Tryd.prog 26 = true := by decide +kernel
@[go_sem] theorem t36_26_s : sizeP Tryd.prog 26 = 1 := by decide +kernel
@[go_sem] theorem t36_26_a : aggP Tryd.prog 26 = false := by decide +kernel
@[go_sem] theorem t36_26_z : zeroP Tryd.prog 26 = some [.int .i64 0] := _root_.id rfl
@[go_sem] theorem t36_26_o : zeroOK Tryd.prog 26 = true := by decide +kernel
@[go_sem] theorem t36_26_i : zeroI Tryd.prog 26 = some (.int .i64 0) := _root_.id rfl
@[go_sem] theorem t36_26_y : (((Tryd.prog.info? 26).map (·.bytes)).getD 0 ≤ 256) = True := eq_true (by decide +kernel)
@[go_sem] theorem t36_26_b : (bytesP Tryd.prog 26 ≤ 1024) = True := eq_true (by decide +kernel)
@[go_sem] theorem t36_26_k : keyK Tryd.prog 26 = some [.int .i64] := key_of (by decide +kernel)
@[go_sem] theorem t36_28_h : hasP Tryd.prog 28 = true := by decide +kernel
@[go_sem] theorem t36_28_s : sizeP Tryd.prog 28 = 1 := by decide +kernel
@[go_sem] theorem t36_28_a : aggP Tryd.prog 28 = false := by decide +kernel
@[go_sem] theorem t36_28_z : zeroP Tryd.prog 28 = some [.nilf] := _root_.id rfl
@[go_sem] theorem t36_28_o : zeroOK Tryd.prog 28 = true := by decide +kernel
@[go_sem] theorem t36_28_i : zeroI Tryd.prog 28 = some (.nilf) := _root_.id rfl
@[go_sem] theorem t36_28_y : (((Tryd.prog.info? 28).map (·.bytes)).getD 0 ≤ 256) = True := eq_true (by decide +kernel)
@[go_sem] theorem t36_28_b : (bytesP Tryd.prog 28 ≤ 1024) = True := eq_true (by decide +kernel)
@[go_sem] theorem t36_29_h : hasP Tryd.prog 29 = true := by decide +kernel
@[go_sem] theorem t36_29_s : sizeP Tryd.prog 29 = 1 := by decide +kernel
@[go_sem] theorem t36_29_a : aggP Tryd.prog 29 = false := by decide +kernel
@[go_sem] theorem t36_29_z : zeroP Tryd.prog 29 = some [.nils] := _root_.id rfl
@[go_sem] theorem t36_29_o : zeroOK Tryd.prog 29 = true := by decide +kernel
@[go_sem] theorem t36_29_i : zeroI Tryd.prog 29 = some (.nils) := _root_.id rfl
@[go_sem] theorem t36_29_y : (((Tryd.prog.info? 29).map (·.bytes)).getD 0 ≤ 256) = True := eq_true (by decide +kernel)
@[go_sem] theorem t36_29_b : (bytesP Tryd.prog 29 ≤ 1024) = True := eq_true (by decide +kernel)
@[go_sem] theorem t36_31_h : hasP Tryd.prog 31 = true := by decide +kernel
@[go_sem] theorem t36_31_s : sizeP Tryd.prog 31 = 1 := by decide +kernel
@[go_sem] theorem t36_31_a : aggP Tryd.prog 31 = false := by decide +kernel
@[go_sem] theorem t36_31_z : zeroP Tryd.prog 31 = some [.nilf] := _root_.id rfl
@[go_sem] theorem t36_31_o : zeroOK Tryd.prog 31 = true := by decide +kernel
@[go_sem] theorem t36_31_i : zeroI Tryd.prog 31 = some (.nilf) := _root_.id rfl
@[go_sem] theorem t36_31_y : (((Tryd.prog.info? 31).map (·.bytes)).getD 0 ≤ 256) = True := eq_true (by decide +kernel)
@[go_sem] theorem t36_31_b : (bytesP Tryd.prog 31 ≤ 1024) = True := eq_true (by decide +kernel)
@[go_sem] theorem t36_32_h : hasP Tryd.prog 32 = true := by decide +kernel
@[go_sem] theorem t36_32_s : sizeP Tryd.prog 32 = 1 := by decide +kernel
@[go_sem] theorem t36_32_a : aggP Tryd.prog 32 = false := by decide +kernel
@[go_sem] theorem t36_32_z : zeroP Tryd.prog 32 = some [.nilf] := _root_.id rfl
@[go_sem] theorem t36_32_o : zeroOK Tryd.prog 32 = true := by decide +kernel
@[go_sem] theorem t36_32_i : zeroI Tryd.prog 32 = some (.nilf) := _root_.id rfl
@[go_sem] theorem t36_32_y : (((Tryd.prog.info? 32).map (·.bytes)).getD 0 ≤ 256) = True := eq_true (by decide +kernel)
@[go_sem] theorem t36_32_b : (bytesP Tryd.prog 32 ≤ 1024) = True := eq_true (by decide +kernel)
@[go_sem] theorem t36_33_h : hasP Tryd.prog 33 = true := by decide +kernel
@[go_sem] theorem t36_33_s : sizeP Tryd.prog 33 = 1 := by decide +kernel
@[go_sem] theorem t36_33_a : aggP Tryd.prog 33 = false := by decide +kernel
@[go_sem] theorem t36_33_z : zeroP Tryd.prog 33 = some [.nilf] := _root_.id rfl
@[go_sem] theorem t36_33_o : zeroOK Tryd.prog 33 = true := by decide +kernel
@[go_sem] theorem t36_33_i : zeroI Tryd.prog 33 = some (.nilf) := _root_.id rfl
@[go_sem] theorem t36_33_y : (((Tryd.prog.info? 33).map (·.bytes)).getD 0 ≤ 256) = True := eq_true (by decide +kernel)
@[go_sem] theorem t36_33_b : (bytesP Tryd.prog 33 ≤ 1024) = True := eq_true (by decide +kernel)
@[go_sem] theorem t36_34_h : hasP Tryd.prog 34 = true := by decide +kernel
@[go_sem] theorem t36_34_s : sizeP Tryd.prog 34 = 1 := by decide +kernel
@[go_sem] theorem t36_34_a : aggP Tryd.prog 34 = false := by decide +kernel
@[go_sem] theorem t36_34_z : zeroP Tryd.prog 34 = some [.nilf] := _root_.id rfl
@[go_sem] theorem t36_34_o : zeroOK Tryd.prog 34 = true := by decide +kernel
@[go_sem] theorem t36_34_i : zeroI Tryd.prog 34 = some (.nilf) := _root_.id rfl
@[go_sem] theorem t36_34_y : (((Tryd.prog.info? 34).map (·.bytes)).getD 0 ≤ 256) = True := eq_true (by decide +kernel)
@[go_sem] theorem t36_34_b : (bytesP Tryd.prog 34 ≤ 1024) = True := eq_true (by decide +kernel)
@[go_sem] theorem t36_35_h : hasP Tryd.prog 35 = true := by decide +kernel
@[go_sem] theorem t36_35_s : sizeP Tryd.prog 35 = 1 := by decide +kernel
@[go_sem] theorem t36_35_a : aggP Tryd.prog 35 = false := by decide +kernel
@[go_sem] theorem t36_35_z : zeroP Tryd.prog 35 = some [.nilf] := _root_.id rfl
@[go_sem] theorem t36_35_o : zeroOK Tryd.prog 35 = true := by decide +kernel
@[go_sem] theorem t36_35_i : zeroI Tryd.prog 35 = some (.nilf) := _root_.id rfl
@[go_sem] theorem t36_35_y : (((Tryd.prog.info? 35).map (·.bytes)).getD 0 ≤ 256) = True := eq_true (by decide +kernel)
@[go_sem] theorem t36_35_b : (bytesP Tryd.prog 35 ≤ 1024) = True := eq_true (by decide +kernel)
@[go_sem] theorem t36_36_h : hasP Tryd.prog 36 = true := by decide +kernel
@[go_sem] theorem t36_36_s : sizeP Tryd.prog 36 = 1 := by decide +kernel
@[go_sem] theorem t36_36_a : aggP Tryd.prog 36 = false := by decide +kernel
@[go_sem] theorem t36_36_z : zeroP Tryd.prog 36 = some [.nilf] := _root_.id rfl
@[go_sem] theorem t36_36_o : zeroOK Tryd.prog 36 = true := by decide +kernel
@[go_sem] theorem t36_36_i : zeroI Tryd.prog 36 = some (.nilf) := _root_.id rfl
@[go_sem] theorem t36_36_y : (((Tryd.prog.info? 36).map (·.bytes)).getD 0 ≤ 256) = True := eq_true (by decide +kernel)
@[go_sem] theorem t36_36_b : (bytesP Tryd.prog 36 ≤ 1024) = True := eq_true (by decide +kernel)
@[go_sem] theorem t36_37_h : hasP Tryd.prog 37 = true := by decide +kernel
@[go_sem] theorem t36_37_s : sizeP Tryd.prog 37 = 1 := by decide +kernel
@[go_sem] theorem t36_37_a : aggP Tryd.prog 37 = false := by decide +kernel
@[go_sem] theorem t36_37_z : zeroP Tryd.prog 37 = some [.nils] := _root_.id rfl
@[go_sem] theorem t36_37_o : zeroOK Tryd.prog 37 = true := by decide +kernel
@[go_sem] theorem t36_37_i : zeroI Tryd.prog 37 = some (.nils) := _root_.id rfl
@[go_sem] theorem t36_37_y : (((Tryd.prog.info? 37).map (·.bytes)).getD 0 ≤ 256) = True := eq_true (by decide +kernel)
@[go_sem] theorem t36_37_b : (bytesP Tryd.prog 37 ≤ 1024) = True := eq_true (by decide +kernel)
@[go_sem] theorem t36_38_h : hasP Tryd.prog 38 = true := by decide +kernel
@[go_sem] theorem t36_38_s : sizeP Tryd.prog 38 = 1 := by decide +kernel
@[go_sem] theorem t36_38_a : aggP Tryd.prog 38 = false := by decide +kernel
@[go_sem] theorem t36_38_z : zeroP Tryd.prog 38 = some [.int .u64 0] := _root_.id rfl
@[go_sem] theorem t36_38_o : zeroOK Tryd.prog 38 = true := by decide +kernel
@[go_sem] theorem t36_38_i : zeroI Tryd.prog 38 = some (.int .u64 0) := _root_.id rfl
@[go_sem] theorem t36_38_y : (((Tryd.prog.info? 38).map (·.bytes)).getD 0 ≤ 256) = True := eq_true (by decide +kernel)
@[go_sem] theorem t36_38_b : (bytesP Tryd.prog 38 ≤ 1024) = True := eq_true (by decide +kernel)
@[go_sem] theorem t36_38_k : keyK Tryd.prog 38 = some [.int .u64] := key_of (by decide +kernel)
@[go_sem] theorem t36_40_h : hasP Tryd.prog 40 = true := by decide +kernel
@[go_sem] theorem t36_40_s : sizeP Tryd.prog 40 = 1 := by decide +kernel
@[go_sem] theorem t36_40_a : aggP Tryd.prog 40 = false := by decide +kernel
@[go_sem] theorem t36_40_z : zeroP Tryd.prog 40 = some [.nilf] := _root_.id rfl
@[go_sem] theorem t36_40_o : zeroOK Tryd.prog 40 = true := by decide +kernel
@[go_sem] theorem t36_40_i : zeroI Tryd.prog 40 = some (.nilf) := _root_.id rfl
@[go_sem] theorem t36_40_y : (((Tryd.prog.info? 40).map (·.bytes)).getD 0 ≤ 256) = True := eq_true (by decide +kernel)
@[go_sem] theorem t36_40_b : (bytesP Tryd.prog 40 ≤ 1024) = True := eq_true (by decide +kernel)
@[go_sem] theorem t36_41_h : hasP Tryd.prog 41 = true := by decide +kernel
@[go_sem] theorem t36_41_s : sizeP Tryd.prog 41 = 1 := by decide +kernel
@[go_sem] theorem t36_41_a : aggP Tryd.prog 41 = false := by decide +kernel
@[go_sem] theorem t36_41_z : zeroP Tryd.prog 41 = some [.nilf] := _root_.id rfl
@[go_sem] theorem t36_41_o : zeroOK Tryd.prog 41 = true := by decide +kernel
@[go_sem] theorem t36_41_i : zeroI Tryd.prog 41 = some (.nilf) := _root_.id rfl
@[go_sem] theorem t36_41_y : (((Tryd.prog.info? 41).map (·.bytes)).getD 0 ≤ 256) = True := eq_true (by decide +kernel)
@[go_sem] theorem t36_41_b : (bytesP Tryd.prog 41 ≤ 1024) = True := eq_true (by decide +kernel)
@[go_sem] theorem t36_42_h : hasP Tryd.prog 42 = true := by decide +kernel
@[go_sem] theorem t36_42_s : sizeP Tryd.prog 42 = 2 := by decide +kernel
@[go_sem] theorem t36_42_a : aggP Tryd.prog 42 = true := by decide +kernel
@[go_sem] theorem t36_42_z : zeroP Tryd.prog 42 = some [.int .i64 0, .int .i64 0] := _root_.id rfl
@[go_sem] theorem t36_42_o : zeroOK Tryd.prog 42 = true := by decide +kernel
@[go_sem] theorem t36_42_i : zeroI Tryd.prog 42 = some (.agg [.int .i64 0, .int .i64 0]) := _root_.id rfl
@[go_sem] theorem t36_42_y : (((Tryd.prog.info? 42).map (·.bytes)).getD 0 ≤ 256) = True := eq_true (by decide +kernel)
@[go_sem] theorem t36_42_b : (bytesP Tryd.prog 42 ≤ 1024) = True := eq_true (by decide +kernel)
@[go_sem] theorem t36_42_f : flatP Tryd.prog 42 = some [.int .i64, .int .i64] := flat_of (by decide +kernel)
@[go_sem] theorem t36_42_k : keyK Tryd.prog 42 = some [.int .i64, .int .i64] := key_of (by decide +kernel)
@[go_sem] theorem t36_43_h : hasP Tryd.prog 43 = true := by decide +kernel
@[go_sem] theorem t36_43_s : sizeP Tryd.prog 43 = 2 := by decide +kernel
@[go_sem] theorem t36_43_a : aggP Tryd.prog 43 = true := by decide +kernel
@[go_sem] theorem t36_43_z : zeroP Tryd.prog 43 = some [.int .i64 0, .int .i64 0] := _root_.id rfl
@[go_sem] theorem t36_43_o : zeroOK Tryd.prog 43 = true := by decide +kernel
@[go_sem] theorem t36_43_i : zeroI Tryd.prog 43 = some (.agg [.int .i64 0, .int .i64 0]) := _root_.id rfl
@[go_sem] theorem t36_43_y : (((Tryd.prog.info? 43).map (·.bytes)).getD 0 ≤ 256) = True := eq_true (by decide +kernel)
@[go_sem] theorem t36_43_b : (bytesP Tryd.prog 43 ≤ 1024) = True := eq_true (by decide +kernel)
@[go_sem] theorem t36_43_f : flatP Tryd.prog 43 = some [.int .i64, .int .i64] := flat_of (by decide +kernel)
@[go_sem] theorem t36_43_k : keyK Tryd.prog 43 = some [.int .i64, .int .i64] := key_of (by decide +kernel)
@[go_sem] theorem t36_45_h : hasP Tryd.prog 45 = true := by decide +kernel
@[go_sem] theorem t36_45_s : sizeP Tryd.prog 45 = 1 := by decide +kernel
@[go_sem] theorem t36_45_a : aggP Tryd.prog 45 = false := by decide +kernel
@[go_sem] theorem t36_45_z : zeroP Tryd.prog 45 = some [.nilf] := _root_.id rfl
@[go_sem] theorem t36_45_o : zeroOK Tryd.prog 45 = true := by decide +kernel
@[go_sem] theorem t36_45_i : zeroI Tryd.prog 45 = some (.nilf) := _root_.id rfl
@[go_sem] theorem t36_45_y : (((Tryd.prog.info? 45).map (·.bytes)).getD 0 ≤ 256) = True := eq_true (by decide +kernel)
@[go_sem] theorem t36_45_b : (bytesP Tryd.prog 45 ≤ 1024) = True := eq_true (by decide +kernel)
@[go_sem] theorem t36_46_h : hasP Tryd.prog 46 = true := by decide +kernel
@[go_sem] theorem t36_46_s : sizeP Tryd.prog 46 = 1 := by decide +kernel
@[go_sem] theorem t36_46_a : aggP Tryd.prog 46 = false := by decide +kernel
@[go_sem] theorem t36_46_z : zeroP Tryd.prog 46 = some [.nilf] := _root_.id rfl
@[go_sem] theorem t36_46_o : zeroOK Tryd.prog 46 = true := by decide +kernel
@[go_sem] theorem t36_46_i : zeroI Tryd.prog 46 = some (.nilf) := _root_.id rfl
@[go_sem] theorem t36_46_y : (((Tryd.prog.info? 46).map (·.bytes)).getD 0 ≤ 256) = True := eq_true (by decide +kernel)
@[go_sem] theorem t36_46_b : (bytesP Tryd.prog 46 ≤ 1024) = True := eq_true (by decide +kernel)
@[go_sem] theorem t36_47_h : hasP Tryd.prog 47 = true := by decide +kernel
@[go_sem] theorem t36_47_s : sizeP Tryd.prog 47 = 1 := by decide +kernel
@[go_sem] theorem t36_47_a : aggP Tryd.prog 47 = false := by decide +kernel
@[go_sem] theorem t36_47_z : zeroP Tryd.prog 47 = some [.nils] := _root_.id rfl
@[go_sem] theorem t36_47_o : zeroOK Tryd.prog 47 = true := by decide +kernel
@[go_sem] theorem t36_47_i : zeroI Tryd.prog 47 = some (.nils) := _root_.id rfl
@[go_sem] theorem t36_47_y : (((Tryd.prog.info? 47).map (·.bytes)).getD 0 ≤ 256) = True := eq_true (by decide +kernel)
@[go_sem] theorem t36_47_b : (bytesP Tryd.prog 47 ≤ 1024) = True := eq_true (by decide +kernel)
@[go_sem] theorem t36_49_h : hasP Tryd.prog 49 = true := by decide +kernel
@[go_sem] theorem t36_49_s : sizeP Tryd.prog 49 = 1 := by decide +kernel
@[go_sem] theorem t36_49_a : aggP Tryd.prog 49 = false := by decide +kernel
@[go_sem] theorem t36_49_z : zeroP Tryd.prog 49 = some [.nilf] := _root_.id rfl
@[go_sem] theorem t36_49_o : zeroOK Tryd.prog 49 = true := by decide +kernel
@[go_sem] theorem t36_49_i : zeroI Tryd.prog 49 = some (.nilf) := _root_.id rfl
@[go_sem] theorem t36_49_y : (((Tryd.prog.info? 49).map (·.bytes)).getD 0 ≤ 256) = True := eq_true (by decide +kernel)
@[go_sem] theorem t36_49_b : (bytesP Tryd.prog 49 ≤ 1024) = True := eq_true (by decide +kernel)
@[go_sem] theorem t36_50_h : hasP Tryd.prog 50 = true := by decide +kernel
@[go_sem] theorem t36_50_s : sizeP Tryd.prog 50 = 1 := by decide +kernel
@[go_sem] theorem t36_50_a : aggP Tryd.prog 50 = false := by decide +kernel
@[go_sem] theorem t36_50_z : zeroP Tryd.prog 50 = some [.nilf] := _root_.id rfl
@[go_sem] theorem t36_50_o : zeroOK Tryd.prog 50 = true := by decide +kernel
@[go_sem] theorem t36_50_i : zeroI Tryd.prog 50 = some (.nilf) := _root_.id rfl
@[go_sem] theorem t36_50_y : (((Tryd.prog.info? 50).map (·.bytes)).getD 0 ≤ 256) = True := eq_true (by decide +kernel)
@[go_sem] theorem t36_50_b : (bytesP Tryd.prog 50 ≤ 1024) = True := eq_true (by decide +kernel)
@[go_sem] theorem t36_51_h : hasP Tryd.prog 51 = true := by decide +kernel
@[go_sem] theorem t36_51_s : sizeP Tryd.prog 51 = 1 := by decide +kernel
@[go_sem] theorem t36_51_a : aggP Tryd.prog 51 = false := by decide +kernel
@[go_sem] theorem t36_51_z : zeroP Tryd.prog 51 = some [.nils] := _root_.id rfl
@[go_sem] theorem t36_51_o : zeroOK Tryd.prog 51 = true := by decide +kernel
@[go_sem] theorem t36_51_i : zeroI Tryd.prog 51 = some (.nils) := _root_.id rfl
@[go_sem] theorem t36_51_y : (((Tryd.prog.info? 51).map (·.bytes)).getD 0 ≤ 256) = True := eq_true (by decide +kernel)
@[go_sem] theorem t36_51_b : (bytesP Tryd.prog 51 ≤ 1024) = True := eq_true (by decide +kernel)
@[go_sem] theorem t36_52_h : hasP Tryd.prog 52 = true := by decide +kernel
@[go_sem] theorem t36_52_s : sizeP Tryd.prog 52 = 1 := by decide +kernel
@[go_sem] theorem t36_52_a : aggP Tryd.prog 52 = false := by decide +kernel
@[go_sem] theorem t36_52_z : zeroP Tryd.prog 52 = some [.nilf] := _root_.id rfl
@[go_sem] theorem t36_52_o : zeroOK Tryd.prog 52 = true := by decide +kernel
@[go_sem] theorem t36_52_i : zeroI Tryd.prog 52 = some (.nilf) := _root_.id rfl
@[go_sem] theorem t36_52_y : (((Tryd.prog.info? 52).map (·.bytes)).getD 0 ≤ 256) = True := eq_true (by decide +kernel)
@[go_sem] theorem t36_52_b : (bytesP Tryd.prog 52 ≤ 1024) = True := eq_true (by decide +kernel)
@[go_sem] theorem t36_53_h : hasP Tryd.prog 53 = true := by decide +kernel
@[go_sem] theorem t36_53_s : sizeP Tryd.prog 53 = 1 := by decide +kernel
@[go_sem] theorem t36_53_a : aggP Tryd.prog 53 = false := by decide +kernel
@[go_sem] theorem t36_53_z : zeroP Tryd.prog 53 = some [.nilf] := _root_.id rfl
@[go_sem] theorem t36_53_o : zeroOK Tryd.prog 53 = true := by decide +kernel
@[go_sem] theorem t36_53_i : zeroI Tryd.prog 53 = some (.nilf) := _root_.id rfl
@[go_sem] theorem t36_53_y : (((Tryd.prog.info? 53).map (·.bytes)).getD 0 ≤ 256) = True := eq_true (by decide +kernel)
@[go_sem] theorem t36_53_b : (bytesP Tryd.prog 53 ≤ 1024) = True := eq_true (by decide +kernel)
@[go_sem] theorem t36_54_h : hasP Tryd.prog 54 = true := by decide +kernel
@[go_sem] theorem t36_54_s : sizeP Tryd.prog 54 = 1 := by decide +kernel
@[go_sem] theorem t36_54_a : aggP Tryd.prog 54 = false := by decide +kernel
@[go_sem] theorem t36_54_z : zeroP Tryd.prog 54 = some [.nilf] := _root_.id rfl
@[go_sem] theorem t36_54_o : zeroOK Tryd.prog 54 = true := by decide +kernel
@[go_sem] theorem t36_54_i : zeroI Tryd.prog 54 = some (.nilf) := _root_.id rfl
@[go_sem] theorem t36_54_y : (((Tryd.prog.info? 54).map (·.bytes)).getD 0 ≤ 256) = True := eq_true (by decide +kernel)
@[go_sem] theorem t36_54_b : (bytesP Tryd.prog 54 ≤ 1024) = True := eq_true (by decide +kernel)
@[go_sem] theorem t36_55_h : hasP Tryd.prog 55 = true := by decide +kernel
@[go_sem] theorem t36_55_s : sizeP Tryd.prog 55 = 1 := by decide +kernel
@[go_sem] theorem t36_55_a : aggP Tryd.prog 55 = false := by decide +kernel
@[go_sem] theorem t36_55_z : zeroP Tryd.prog 55 = some [.nilf] := _root_.id rfl
@[go_sem] theorem t36_55_o : zeroOK Tryd.prog 55 = true := by decide +kernel
@[go_sem] theorem t36_55_i : zeroI Tryd.prog 55 = some (.nilf) := _root_.id rfl
@[go_sem] theorem t36_55_y : (((Tryd.prog.info? 55).map (·.bytes)).getD 0 ≤ 256) = True := eq_true (by decide +kernel)
@[go_sem] theorem t36_55_b : (bytesP Tryd.prog 55 ≤ 1024) = True := eq_true (by decide +kernel)
@[go_sem] theorem t36_56_h : hasP Tryd.prog 56 = true := by decide +kernel
@[go_sem] theorem t36_56_s : sizeP Tryd.prog 56 = 1 := by decide +kernel
@[go_sem] theorem t36_56_a : aggP Tryd.prog 56 = false := by decide +kernel
@[go_sem] theorem t36_56_z : zeroP Tryd.prog 56 = some [.nilf] := _root_.id rfl
@[go_sem] theorem t36_56_o : zeroOK Tryd.prog 56 = true := by decide +kernel
@[go_sem] theorem t36_56_i : zeroI Tryd.prog 56 = some (.nilf) := _root_.id rfl
@[go_sem] theorem t36_56_y : (((Tryd.prog.info? 56).map (·.bytes)).getD 0 ≤ 256) = True := eq_true (by decide +kernel)
@[go_sem] theorem t36_56_b : (bytesP Tryd.prog 56 ≤ 1024) = True := eq_true (by decide +kernel)
@[go_sem] theorem t36_57_h : hasP Tryd.prog 57 = true := by decide +kernel
@[go_sem] theorem t36_57_s : sizeP Tryd.prog 57 = 1 := by decide +kernel
@[go_sem] theorem t36_57_a : aggP Tryd.prog 57 = false := by decide +kernel
@[go_sem] theorem t36_57_z : zeroP Tryd.prog 57 = some [.nilf] := _root_.id rfl
@[go_sem] theorem t36_57_o : zeroOK Tryd.prog 57 = true := by decide +kernel
@[go_sem] theorem t36_57_i : zeroI Tryd.prog 57 = some (.nilf) := _root_.id rfl
@[go_sem] theorem t36_57_y : (((Tryd.prog.info? 57).map (·.bytes)).getD 0 ≤ 256) = True := eq_true (by decide +kernel)
@[go_sem] theorem t36_57_b : (bytesP Tryd.prog 57 ≤ 1024) = True := eq_true (by decide +kernel)
@[go_sem] theorem t36_58_h : hasP Tryd.prog 58 = true := by decide +kernel
@[go_sem] theorem t36_58_s : sizeP Tryd.prog 58 = 1 := by decide +kernel
@[go_sem] theorem t36_58_a : aggP Tryd.prog 58 = false := by decide +kernel
@[go_sem] theorem t36_58_z : zeroP Tryd.prog 58 = some [.nilf] := _root_.id rfl
@[go_sem] theorem t36_58_o : zeroOK Tryd.prog 58 = true := by decide +kernel
@[go_sem] theorem t36_58_i : zeroI Tryd.prog 58 = some (.nilf) := _root_.id rfl
@[go_sem] theorem t36_58_y : (((Tryd.prog.info? 58).map (·.bytes)).getD 0 ≤ 256) = True := eq_true (by decide +kernel)
@[go_sem] theorem t36_58_b : (bytesP Tryd.prog 58 ≤ 1024) = True := eq_true (by decide +kernel)
@[go_sem] theorem t36_59_h : hasP Tryd.prog 59 = true := by decide +kernel
@[go_sem] theorem t36_59_s : sizeP Tryd.prog 59 = 1 := by decide +kernel
@[go_sem] theorem t36_59_a : aggP Tryd.prog 59 = false := by decide +kernel
@[go_sem] theorem t36_59_z : zeroP Tryd.prog 59 = some [.nilp] := _root_.id rfl
@[go_sem] theorem t36_59_o : zeroOK Tryd.prog 59 = true := by decide +kernel
@[go_sem] theorem t36_59_i : zeroI Tryd.prog 59 = some (.nilp) := _root_.id rfl
@[go_sem] theorem t36_59_y : (((Tryd.prog.info? 59).map (·.bytes)).getD 0 ≤ 256) = True := eq_true (by decide +kernel)
@[go_sem] theorem t36_59_b : (bytesP Tryd.prog 59 ≤ 1024) = True := eq_true (by decide +kernel)
@[go_sem] theorem t36_61_h : hasP Tryd.prog 61 = true := by decide +kernel
@[go_sem] theorem t36_61_s : sizeP Tryd.prog 61 = 1 := by decide +kernel
@[go_sem] theorem t36_61_a : aggP Tryd.prog 61 = false := by decide +kernel
@[go_sem] theorem t36_61_z : zeroP Tryd.prog 61 = some [.nilf] := _root_.id rfl
@[go_sem] theorem t36_61_o : zeroOK Tryd.prog 61 = true := by decide +kernel
@[go_sem] theorem t36_61_i : zeroI Tryd.prog 61 = some (.nilf) := _root_.id rfl
@[go_sem] theorem t36_61_y : (((Tryd.prog.info? 61).map (·.bytes)).getD 0 ≤ 256) = True := eq_true (by decide +kernel)
@[go_sem] theorem t36_61_b : (bytesP Tryd.prog 61 ≤ 1024) = True := eq_true (by decide +kernel)
@[go_sem] theorem t36_62_h : hasP Tryd.prog 62 = true := by decide +kernel
@[go_sem] theorem t36_62_s : sizeP Tryd.prog 62 = 1 := by decide +kernel
@[go_sem] theorem t36_62_a : aggP Tryd.prog 62 = false := by decide +kernel
@[go_sem] theorem t36_62_z : zeroP Tryd.prog 62 = some [.nilf] := _root_.id rfl
@[go_sem] theorem t36_62_o : zeroOK Tryd.prog 62 = true := by decide +kernel
@[go_sem] theorem t36_62_i : zeroI Tryd.prog 62 = some (.nilf) := _root_.id rfl
@[go_sem] theorem t36_62_y : (((Tryd.prog.info? 62).map (·.bytes)).getD 0 ≤ 256) = True := eq_true (by decide +kernel)
@[go_sem] theorem t36_62_b : (bytesP Tryd.prog 62 ≤ 1024) = True := eq_true (by decide +kernel)
@[go_sem] theorem t36_63_h : hasP Tryd.prog 63 = true := by decide +kernel
@[go_sem] theorem t36_63_s : sizeP Tryd.prog 63 = 1 := by decide +kernel
@[go_sem] theorem t36_63_a : aggP Tryd.prog 63 = false := by decide +kernel
@[go_sem] theorem t36_63_z : zeroP Tryd.prog 63 = some [.nilf] := _root_.id rfl
@[go_sem] theorem t36_63_o : zeroOK Tryd.prog 63 = true := by decide +kernel
@[go_sem] theorem t36_63_i : zeroI Tryd.prog 63 = some (.nilf) := _root_.id rfl
@[go_sem] theorem t36_63_y : (((Tryd.prog.info? 63).map (·.bytes)).getD 0 ≤ 256) = True := eq_true (by decide +kernel)
@[go_sem] theorem t36_63_b : (bytesP Tryd.prog 63 ≤ 1024) = True := eq_true (by decide +kernel)
@[go_sem] theorem t36_65_h : hasP Tryd.prog 65 = true := by decide +kernel
@[go_sem] theorem t36_65_s : sizeP Tryd.prog 65 = 1 := by decide +kernel
@[go_sem] theorem t36_65_a : aggP Tryd.prog 65 = false := by decide +kernel
@[go_sem] theorem t36_65_z : zeroP Tryd.prog 65 = some [.nilf] := _root_.id rfl
@[go_sem] theorem t36_65_o : zeroOK Tryd.prog 65 = true := by decide +kernel
@[go_sem] theorem t36_65_i : zeroI Tryd.prog 65 = some (.nilf) := _root_.id rfl
@[go_sem] theorem t36_65_y : (((Tryd.prog.info? 65).map (·.bytes)).getD 0 ≤ 256) = True := eq_true (by decide +kernel)
@[go_sem] theorem t36_65_b : (bytesP Tryd.prog 65 ≤ 1024) = True := eq_true (by decide +kernel)
@[go_sem] theorem t36_66_h : hasP Tryd.prog 66 = true := by decide +kernel
@[go_sem] theorem t36_66_s : sizeP Tryd.prog 66 = 1 := by decide +kernel
@[go_sem] theorem t36_66_a : aggP Tryd.prog 66 = false := by decide +kernel
@[go_sem] theorem t36_66_z : zeroP Tryd.prog 66 = some [.int .u32 0] := _root_.id rfl
@[go_sem] theorem t36_66_o : zeroOK Tryd.prog 66 = true := by decide +kernel
@[go_sem] theorem t36_66_i : zeroI Tryd.prog 66 = some (.int .u32 0) := _root_.id rfl
@[go_sem] theorem t36_66_y : (((Tryd.prog.info? 66).map (·.bytes)).getD 0 ≤ 256) = True := eq_true (by decide +kernel)
@[go_sem] theorem t36_66_b : (bytesP Tryd.prog 66 ≤ 1024) = True := eq_true (by decide +kernel)
@[go_sem] theorem t36_66_k : keyK Tryd.prog 66 = some [.int .u32] := key_of (by decide +kernel)
@[go_sem] theorem t36_67_h : hasP Tryd.prog 67 = true := by decide +kernel
@[go_sem] theorem t36_67_s : sizeP Tryd.prog 67 = 1 := by decide +kernel
@[go_sem] theorem t36_67_a : aggP Tryd.prog 67 = false := by decide +kernel
@[go_sem] theorem t36_67_z : zeroP Tryd.prog 67 = some [.nilf] := _root_.id rfl
@[go_sem] theorem t36_67_o : zeroOK Tryd.prog 67 = true := by decide +kernel
@[go_sem] theorem t36_67_i : zeroI Tryd.prog 67 = some (.nilf) := _root_.id rfl
@[go_sem] theorem t36_67_y : (((Tryd.prog.info? 67).map (·.bytes)).getD 0 ≤ 256) = True := eq_true (by decide +kernel)
@[go_sem] theorem t36_67_b : (bytesP Tryd.prog 67 ≤ 1024) = True := eq_true (by decide +kernel)
@[go_sem] theorem t36_68_h : hasP Tryd.prog 68 = true := by decide +kernel
@[go_sem] theorem t36_68_s : sizeP Tryd.prog 68 = 1 := by decide +kernel
@[go_sem] theorem t36_68_a : aggP Tryd.prog 68 = false := by decide +kernel
@[go_sem] theorem t36_68_z : zeroP Tryd.prog 68 = some [.nilf] := _root_.id rfl
@[go_sem] theorem t36_68_o : zeroOK Tryd.prog 68 = true := by decide +kernel
@[go_sem] theorem t36_68_i : zeroI Tryd.prog 68 = some (.nilf) := _root_.id rfl
@[go_sem] theorem t36_68_y : (((Tryd.prog.info? 68).map (·.bytes)).getD 0 ≤ 256) = True := eq_true (by decide +kernel)
@[go_sem] theorem t36_68_b : (bytesP Tryd.prog 68 ≤ 1024) = True := eq_true (by decide +kernel)
@[go_sem] theorem t36_69_h : hasP Tryd.prog 69 = true := by decide +kernel
@[go_sem] theorem t36_69_s : sizeP Tryd.prog 69 = 1 := by decide +kernel
@[go_sem] theorem t36_69_a : aggP Tryd.prog 69 = false := by decide +kernel
@[go_sem] theorem t36_69_z : zeroP Tryd.prog 69 = some [.nilf] := _root_.id rfl
@[go_sem] theorem t36_69_o : zeroOK Tryd.prog 69 = true := by decide +kernel
@[go_sem] theorem t36_69_i : zeroI Tryd.prog 69 = some (.nilf) := _root_.id rfl
@[go_sem] theorem t36_69_y : (((Tryd.prog.info? 69).map (·.bytes)).getD 0 ≤ 256) = True := eq_true (by decide +kernel)
@[go_sem] theorem t36_69_b : (bytesP Tryd.prog 69 ≤ 1024) = True := eq_true (by decide +kernel)
@[go_sem] theorem t36_71_h : hasP Tryd.prog 71 = true := by decide +kernel
@[go_sem] theorem t36_71_s : sizeP Tryd.prog 71 = 1 := by decide +kernel
@[go_sem] theorem t36_71_a : aggP Tryd.prog 71 = false := by decide +kernel
@[go_sem] theorem t36_71_z : zeroP Tryd.prog 71 = some [.nilf] := _root_.id rfl
@[go_sem] theorem t36_71_o : zeroOK Tryd.prog 71 = true := by decide +kernel
@[go_sem] theorem t36_71_i : zeroI Tryd.prog 71 = some (.nilf) := _root_.id rfl
@[go_sem] theorem t36_71_y : (((Tryd.prog.info? 71).map (·.bytes)).getD 0 ≤ 256) = True := eq_true (by decide +kernel)
@[go_sem] theorem t36_71_b : (bytesP Tryd.prog 71 ≤ 1024) = True := eq_true (by decide +kernel)
@[go_sem] theorem t36_72_h : hasP Tryd.prog 72 = true := by decide +kernel
@[go_sem] theorem t36_72_s : sizeP Tryd.prog 72 = 2 := by decide +kernel
@[go_sem] theorem t36_72_a : aggP Tryd.prog 72 = true := by decide +kernel
@[go_sem] theorem t36_72_z : zeroP Tryd.prog 72 = some [.int .i64 0, .int .i64 0] := _root_.id rfl
@[go_sem] theorem t36_72_o : zeroOK Tryd.prog 72 = true := by decide +kernel
@[go_sem] theorem t36_72_i : zeroI Tryd.prog 72 = some (.agg [.int .i64 0, .int .i64 0]) := _root_.id rfl
@[go_sem] theorem t36_72_y : (((Tryd.prog.info? 72).map (·.bytes)).getD 0 ≤ 256) = True := eq_true (by decide +kernel)
@[go_sem] theorem t36_72_b : (bytesP Tryd.prog 72 ≤ 1024) = True := eq_true (by decide +kernel)
@[go_sem] theorem t36_72_f : flatP Tryd.prog 72 = some [.int .i64, .int .i64] := flat_of (by decide +kernel)
@[go_sem] theorem t36_72_k : keyK Tryd.prog 72 = some [.int .i64, .int .i64] := key_of (by decide +kernel)
@[go_sem] theorem t36_73_h : hasP Tryd.prog 73 = true := by decide +kernel
@[go_sem] theorem t36_73_s : sizeP Tryd.prog 73 = 1 := by decide +kernel
@[go_sem] theorem t36_73_a : aggP Tryd.prog 73 = false := by decide +kernel
@[go_sem] theorem t36_73_z : zeroP Tryd.prog 73 = some [.nilf] := _root_.id rfl
@[go_sem] theorem t36_73_o : zeroOK Tryd.prog 73 = true := by decide +kernel
@[go_sem] theorem t36_73_i : zeroI Tryd.prog 73 = some (.nilf) := _root_.id rfl
@[go_sem] theorem t36_73_y : (((Tryd.prog.info? 73).map (·.bytes)).getD 0 ≤ 256) = True := eq_true (by decide +kernel)
@[go_sem] theorem t36_73_b : (bytesP Tryd.prog 73 ≤ 1024) = True := eq_true (by decide +kernel)
@[go_sem] theorem t36_74_h : hasP Tryd.prog 74 = true := by decide +kernel
@[go_sem] theorem t36_74_s : sizeP Tryd.prog 74 = 1 := by decide +kernel
@[go_sem] theorem t36_74_a : aggP Tryd.prog 74 = false := by decide +kernel
@[go_sem] theorem t36_74_z : zeroP Tryd.prog 74 = some [.nilf] := _root_.id rfl
@[go_sem] theorem t36_74_o : zeroOK Tryd.prog 74 = true := by decide +kernel
@[go_sem] theorem t36_74_i : zeroI Tryd.prog 74 = some (.nilf) := _root_.id rfl
@[go_sem] theorem t36_74_y : (((Tryd.prog.info? 74).map (·.bytes)).getD 0 ≤ 256) = True := eq_true (by decide +kernel)
@[go_sem] theorem t36_74_b : (bytesP Tryd.prog 74 ≤ 1024) = True := eq_true (by decide +kernel)
@[go_sem] theorem t36_76_h : hasP Tryd.prog 76 = true := by decide +kernel
@[go_sem] theorem t36_76_s : sizeP Tryd.prog 76 = 1 := by decide +kernel
@[go_sem] theorem t36_76_a : aggP Tryd.prog 76 = false := by decide +kernel
@[go_sem] theorem t36_76_z : zeroP Tryd.prog 76 = some [.nilf] := _root_.id rfl
@[go_sem] theorem t36_76_o : zeroOK Tryd.prog 76 = true := by decide +kernel
@[go_sem] theorem t36_76_i : zeroI Tryd.prog 76 = some (.nilf) := _root_.id rfl
@[go_sem] theorem t36_76_y : (((Tryd.prog.info? 76).map (·.bytes)).getD 0 ≤ 256) = True := eq_true (by decide +kernel)
@[go_sem] theorem t36_76_b : (bytesP Tryd.prog 76 ≤ 1024) = True := eq_true (by decide +kernel)
@[go_sem] theorem t36_77_h : hasP Tryd.prog 77 = true := by decide +kernel
@[go_sem] theorem t36_77_s : sizeP Tryd.prog 77 = 16 := by decide +kernel
@[go_sem] theorem t36_77_a : aggP Tryd.prog 77 = true := by decide +kernel
@[go_sem] theorem t36_77_z : zeroP Tryd.prog 77 = some [.int .u32 0, .int .u32 0, .int .u32 0, .int .u32 0, .int .u32 0, .int .u32 0, .int .u32 0, .int .u32 0, .int .u32 0, .int .u32 0, .int .u32 0, .int .u32 0, .int .u32 0, .int .u32 0, .int .u32 0, .int .u32 0] := _root_.id rfl
@[go_sem] theorem t36_77_o : zeroOK Tryd.prog 77 = true := by decide +kernel
@[go_sem] theorem t36_77_i : zeroI Tryd.prog 77 = some (.agg [.int .u32 0, .int .u32 0, .int .u32 0, .int .u32 0, .int .u32 0, .int .u32 0, .int .u32 0, .int .u32 0, .int .u32 0, .int .u32 0, .int .u32 0, .int .u32 0, .int .u32 0, .int .u32 0, .int .u32 0, .int .u32 0]) := _root_.id rfl
@[go_sem] theorem t36_77_y : (((Tryd.prog.info? 77).map (·.bytes)).getD 0 ≤ 256) = True := eq_true (by decide +kernel)
@[go_sem] theorem t36_77_b : (bytesP Tryd.prog 77 ≤ 1024) = True := eq_true (by decide +kernel)
@[go_sem] theorem t36_77_f : flatP Tryd.prog 77 = some [.int .u32, .int .u32, .int .u32, .int .u32, .int .u32, .int .u32, .int .u32, .int .u32, .int .u32, .int .u32, .int .u32, .int .u32, .int .u32, .int .u32, .int .u32, .int .u32] := flat_of (by decide +kernel)
@[go_sem] theorem t36_77_k : keyK Tryd.prog 77 = some [.int .u32, .int .u32, .int .u32, .int .u32, .int .u32, .int .u32, .int .u32, .int .u32, .int .u32, .int .u32, .int .u32, .int .u32, .int .u32, .int .u32, .int .u32, .int .u32] := key_of (by decide +kernel)
@[go_sem] theorem t36_78_h : hasP Tryd.prog 78 = true := by decide +kernel
@[go_sem] theorem t36_78_s : sizeP Tryd.prog 78 = 17 := by decide +kernel
@[go_sem] theorem t36_78_a : aggP Tryd.prog 78 = true := by decide +kernel
@[go_sem] theorem t36_78_z : zeroP Tryd.prog 78 = some [.nils, .int .u32 0, .int .u32 0, .int .u32 0, .int .u32 0, .int .u32 0, .int .u32 0, .int .u32 0, .int .u32 0, .int .u32 0, .int .u32 0, .int .u32 0, .int .u32 0, .int .u32 0, .int .u32 0, .int .u32 0, .int .u32 0] := _root_.id rfl
@[go_sem] theorem t36_78_o : zeroOK Tryd.prog 78 = true := by decide +kernel
@[go_sem] theorem t36_78_i : zeroI Tryd.prog 78 = some (.agg [.nils, .int .u32 0, .int .u32 0, .int .u32 0, .int .u32 0, .int .u32 0, .int .u32 0, .int .u32 0, .int .u32 0, .int .u32 0, .int .u32 0, .int .u32 0, .int .u32 0, .int .u32 0, .int .u32 0, .int .u32 0, .int .u32 0]) := _root_.id rfl
@[go_sem] theorem t36_78_b : (bytesP Tryd.prog 78 ≤ 1024) = True := eq_true (by decide +kernel)
@[go_sem] theorem t36_79_h : hasP Tryd.prog 79 = true := by decide +kernel
@[go_sem] theorem t36_79_s : sizeP Tryd.prog 79 = 17 := by decide +kernel
@[go_sem] theorem t36_79_a : aggP Tryd.prog 79 = true := by decide +kernel
@[go_sem] theorem t36_79_z : zeroP Tryd.prog 79 = some [.nils, .int .u32 0, .int .u32 0, .int .u32 0, .int .u32 0, .int .u32 0, .int .u32 0, .int .u32 0, .int .u32 0, .int .u32 0, .int .u32 0, .int .u32 0, .int .u32 0, .int .u32 0, .int .u32 0, .int .u32 0, .int .u32 0] := _root_.id rfl
@[go_sem] theorem t36_79_o : zeroOK Tryd.prog 79 = true := by decide +kernel
@[go_sem] theorem t36_79_i : zeroI Tryd.prog 79 = some (.agg [.nils, .int .u32 0, .int .u32 0, .int .u32 0, .int .u32 0, .int .u32 0, .int .u32 0, .int .u32 0, .int .u32 0, .int .u32 0, .int .u32 0, .int .u32 0, .int .u32 0, .int .u32 0, .int .u32 0, .int .u32 0, .int .u32 0]) := _root_.id rfl
@[go_sem] theorem t36_79_b : (bytesP Tryd.prog 79 ≤ 1024) = True := eq_true (by decide +kernel)
@[go_sem] theorem t36_80_h : hasP Tryd.prog 80 = true := by decide +kernel
@[go_sem] theorem t36_80_s : sizeP Tryd.prog 80 = 65 := by decide +kernel
@[go_sem] theorem t36_80_a : aggP Tryd.prog 80 = true := by decide +kernel
@[go_sem] theorem t36_80_z : zeroP Tryd.prog 80 = some [.bool false, .bool false, .bool false, .bool false, .bool false, .bool false, .bool false, .bool false, .bool false, .bool false, .bool false, .bool false, .bool false, .bool false, .bool false, .bool false, .bool false, .bool false, .bool false, .bool false, .bool false, .bool false, .bool false, .bool false, .bool false, .bool false, .bool false, .bool false, .bool false, .bool false, .bool false, .bool false, .bool false, .bool false, .bool false, .bool false, .bool false, .bool false, .bool false, .bool false, .bool false, .bool false, .bool false, .bool false, .bool false, .bool false, .bool false, .bool false, .bool false, .bool false, .bool false, .bool false, .bool false, .bool false, .bool false, .bool false, .bool false, .bool false, .bool false, .bool false, .bool false, .bool false, .bool false, .bool false, .bool false] := _root_.id rfl
@[go_sem] theorem t36_80_o : zeroOK Tryd.prog 80 = true := by decide +kernel
@[go_sem] theorem t36_80_i : zeroI Tryd.prog 80 = some (.agg [.bool false, .bool false, .bool false, .bool false, .bool false, .bool false, .bool false, .bool false, .bool false, .bool false, .bool false, .bool false, .bool false, .bool false, .bool false, .bool false, .bool false, .bool false, .bool false, .bool false, .bool false, .bool false, .bool false, .bool false, .bool false, .bool false, .bool false, .bool false, .bool false, .bool false, .bool false, .bool false, .bool false, .bool false, .bool false, .bool false, .bool false, .bool false, .bool false, .bool false, .bool false, .bool false, .bool false, .bool false, .bool false, .bool false, .bool false, .bool false, .bool false, .bool false, .bool false, .bool false, .bool false, .bool false, .bool false, .bool false, .bool false, .bool false, .bool false, .bool false, .bool false, .bool false, .bool false, .bool false, .bool false]) := _root_.id rfl
@[go_sem] theorem t36_80_b : (bytesP Tryd.prog 80 ≤ 1024) = True := eq_true (by decide +kernel)
@[go_sem] theorem t36_80_f : flatP Tryd.prog 80 = some [.bool, .bool, .bool, .bool, .bool, .bool, .bool, .bool, .bool, .bool, .bool, .bool, .bool, .bool, .bool, .bool, .bool, .bool, .bool, .bool, .bool, .bool, .bool, .bool, .bool, .bool, .bool, .bool, .bool, .bool, .bool, .bool, .bool, .bool, .bool, .bool, .bool, .bool, .bool, .bool, .bool, .bool, .bool, .bool, .bool, .bool, .bool, .bool, .bool, .bool, .bool, .bool, .bool, .bool, .bool, .bool, .bool, .bool, .bool, .bool, .bool, .bool, .bool, .bool, .bool] := flat_of (by decide +kernel)
@[go_sem] theorem t36_80_k : keyK Tryd.prog 80 = some [.bool, .bool, .bool, .bool, .bool, .bool, .bool, .bool, .bool, .bool, .bool, .bool, .bool, .bool, .bool, .bool, .bool, .bool, .bool, .bool, .bool, .bool, .bool, .bool, .bool, .bool, .bool, .bool, .bool, .bool, .bool, .bool, .bool, .bool, .bool, .bool, .bool, .bool, .bool, .bool, .bool, .bool, .bool, .bool, .bool, .bool, .bool, .bool, .bool, .bool, .bool, .bool, .bool, .bool, .bool, .bool, .bool, .bool, .bool, .bool, .bool, .bool, .bool, .bool, .bool] := key_of (by decide +kernel)
@[go_sem] theorem t36_81_h : hasP Tryd.prog 81 = true := by decide +kernel
@[go_sem] theorem t36_81_s : sizeP Tryd.prog 81 = 1 := by decide +kernel
@[go_sem] theorem t36_81_a : aggP Tryd.prog 81 = false := by decide +kernel
@[go_sem] theorem t36_81_z : zeroP Tryd.prog 81 = some [.nilf] := _root_.id rfl
@[go_sem] theorem t36_81_o : zeroOK Tryd.prog 81 = true := by decide +kernel
@[go_sem] theorem t36_81_i : zeroI Tryd.prog 81 = some (.nilf) := _root_.id rfl
@[go_sem] theorem t36_81_y : (((Tryd.prog.info? 81).map (·.bytes)).getD 0 ≤ 256) = True := eq_true (by decide +kernel)
@[go_sem] theorem t36_81_b : (bytesP Tryd.prog 81 ≤ 1024) = True := eq_true (by decide +kernel)
@[go_sem] theorem t36_82_h : hasP Tryd.prog 82 = true := by decide +kernel
@[go_sem] theorem t36_82_s : sizeP Tryd.prog 82 = 1 := by decide +kernel
@[go_sem] theorem t36_82_a : aggP Tryd.prog 82 = false := by decide +kernel
@[go_sem] theorem t36_82_z : zeroP Tryd.prog 82 = some [.nilf] := _root_.id rfl
@[go_sem] theorem t36_82_o : zeroOK Tryd.prog 82 = true := by decide +kernel
@[go_sem] theorem t36_82_i : zeroI Tryd.prog 82 = some (.nilf) := _root_.id rfl
@[go_sem] theorem t36_82_y : (((Tryd.prog.info? 82).map (·.bytes)).getD 0 ≤ 256) = True := eq_true (by decide +kernel)
@[go_sem] theorem t36_82_b : (bytesP Tryd.prog 82 ≤ 1024) = True := eq_true (by decide +kernel)
@[go_sem] theorem t36_83_h : hasP Tryd.prog 83 = true := by decide +kernel
@[go_sem] theorem t36_83_s : sizeP Tryd.prog 83 = 1 := by decide +kernel
@[go_sem] theorem t36_83_a : aggP Tryd.prog 83 = false := by decide +kernel
@[go_sem] theorem t36_83_z : zeroP Tryd.prog 83 = some [.nilf] := _root_.id rfl
@[go_sem] theorem t36_83_o : zeroOK Tryd.prog 83 = true := by decide +kernel
@[go_sem] theorem t36_83_i : zeroI Tryd.prog 83 = some (.nilf) := _root_.id rfl
@[go_sem] theorem t36_83_y : (((Tryd.prog.info? 83).map (·.bytes)).getD 0 ≤ 256) = True := eq_true (by decide +kernel)
@[go_sem] theorem t36_83_b : (bytesP Tryd.prog 83 ≤ 1024) = True := eq_true (by decide +kernel)
@[go_sem] theorem t36_84_h : hasP Tryd.prog 84 = true := by decide +kernel
@[go_sem] theorem t36_84_s : sizeP Tryd.prog 84 = 1 := by decide +kernel
@[go_sem] theorem t36_84_a : aggP Tryd.prog 84 = false := by decide +kernel
@[go_sem] theorem t36_84_z : zeroP Tryd.prog 84 = some [.nilf] := _root_.id rfl
@[go_sem] theorem t36_84_o : zeroOK Tryd.prog 84 = true := by decide +kernel
@[go_sem] theorem t36_84_i : zeroI Tryd.prog 84 = some (.nilf) := _root_.id rfl
@[go_sem] theorem t36_84_y : (((Tryd.prog.info? 84).map (·.bytes)).getD 0 ≤ 256) = True := eq_true (by decide +kernel)
@[go_sem] theorem t36_84_b : (bytesP Tryd.prog 84 ≤ 1024) = True := eq_true (by decide +kernel)
@[go_sem] theorem t36_86_h : hasP Tryd.prog 86 = true := by decide +kernel
@[go_sem] theorem t36_86_s : sizeP Tryd.prog 86 = 1 := by decide +kernel
@[go_sem] theorem t36_86_a : aggP Tryd.prog 86 = false := by decide +kernel
@[go_sem] theorem t36_86_z : zeroP Tryd.prog 86 = some [.nilf] := _root_.id rfl
@[go_sem] theorem t36_86_o : zeroOK Tryd.prog 86 = true := by decide +kernel
@[go_sem] theorem t36_86_i : zeroI Tryd.prog 86 = some (.nilf) := _root_.id rfl
@[go_sem] theorem t36_86_y : (((Tryd.prog.info? 86).map (·.bytes)).getD 0 ≤ 256) = True := eq_true (by decide +kernel)
@[go_sem] theorem t36_86_b : (bytesP Tryd.prog 86 ≤ 1024) = True := eq_true (by decide +kernel)
@[go_sem] theorem t36_87_h : hasP Tryd.prog 87 = true := by decide +kernel
@[go_sem] theorem t36_87_s : sizeP Tryd.prog 87 = 1 := by decide +kernel
@[go_sem] theorem t36_87_a : aggP Tryd.prog 87 = false := by decide +kernel
@[go_sem] theorem t36_87_z : zeroP Tryd.prog 87 = some [.nilf] := _root_.id rfl
@[go_sem] theorem t36_87_o : zeroOK Tryd.prog 87 = true := by decide +kernel
@[go_sem] theorem t36_87_i : zeroI Tryd.prog 87 = some (.nilf) := _root_.id rfl
@[go_sem] theorem t36_87_y : (((Tryd.prog.info? 87).map (·.bytes)).getD 0 ≤ 256) = True := eq_true (by decide +kernel)
@[go_sem] theorem t36_87_b : (bytesP Tryd.prog 87 ≤ 1024) = True := eq_true (by decide +kernel)
@[go_sem] theorem t36_88_h : hasP Tryd.prog 88 = true := by decide +kernel
@[go_sem] theorem t36_88_s : sizeP Tryd.prog 88 = 1 := by decide +kernel
@[go_sem] theorem t36_88_a : aggP Tryd.prog 88 = false := by decide +kernel
@[go_sem] theorem t36_88_z : zeroP Tryd.prog 88 = some [.nilm] := _root_.id rfl
@[go_sem] theorem t36_88_o : zeroOK Tryd.prog 88 = true := by decide +kernel
@[go_sem] theorem t36_88_i : zeroI Tryd.prog 88 = some (.nilm) := _root_.id rfl
@[go_sem] theorem t36_88_y : (((Tryd.prog.info? 88).map (·.bytes)).getD 0 ≤ 256) = True := eq_true (by decide +kernel)
@[go_sem] theorem t36_88_b : (bytesP Tryd.prog 88 ≤ 1024) = True := eq_true (by decide +kernel)
@[go_sem] theorem t36_89_h : hasP Tryd.prog 89 = true := by decide +kernel
@[go_sem] theorem t36_89_s : sizeP Tryd.prog 89 = 1 := by decide +kernel
@[go_sem] theorem t36_89_a : aggP Tryd.prog 89 = false := by decide +kernel
@[go_sem] theorem t36_89_z : zeroP Tryd.prog 89 = some [.nilm] := _root_.id rfl
@[go_sem] theorem t36_89_o : zeroOK Tryd.prog 89 = true := by decide +kernel
@[go_sem] theorem t36_89_i : zeroI Tryd.prog 89 = some (.nilm) := _root_.id rfl
@[go_sem] theorem t36_89_y : (((Tryd.prog.info? 89).map (·.bytes)).getD 0 ≤ 256) = True := eq_true (by decide +kernel)
@[go_sem] theorem t36_89_b : (bytesP Tryd.prog 89 ≤ 1024) = True := eq_true (by decide +kernel)
@[go_sem] theorem t36_91_h : hasP Tryd.prog 91 = true := by decide +kernel
@[go_sem] theorem t36_91_s : sizeP Tryd.prog 91 = 1 := by decide +kernel
@[go_sem] theorem t36_91_a : aggP Tryd.prog 91 = false := by decide +kernel
@[go_sem] theorem t36_91_z : zeroP Tryd.prog 91 = some [.nilm] := _root_.id rfl
@[go_sem] theorem t36_91_o : zeroOK Tryd.prog 91 = true := by decide +kernel
@[go_sem] theorem t36_91_i : zeroI Tryd.prog 91 = some (.nilm) := _root_.id rfl
@[go_sem] theorem t36_91_y : (((Tryd.prog.info? 91).map (·.bytes)).getD 0 ≤ 256) = True := eq_true (by decide +kernel)
@[go_sem] theorem t36_91_b : (bytesP Tryd.prog 91 ≤ 1024) = True := eq_true (by decide +kernel)
@[go_sem] theorem t36_93_h : hasP Tryd.prog 93 = true := by decide +kernel
@[go_sem] theorem t36_93_s : sizeP Tryd.prog 93 = 32 := by decide +kernel
@[go_sem] theorem t36_93_a : aggP Tryd.prog 93 = true := by decide +kernel
@[go_sem] theorem t36_93_z : zeroP Tryd.prog 93 = some [.int .u8 0, .int .u8 0, .int .u8 0, .int .u8 0, .int .u8 0, .int .u8 0, .int .u8 0, .int .u8 0, .int .u8 0, .int .u8 0, .int .u8 0, .int .u8 0, .int .u8 0, .int .u8 0, .int .u8 0, .int .u8 0, .int .u8 0, .int .u8 0, .int .u8 0, .int .u8 0, .int .u8 0, .int .u8 0, .int .u8 0, .int .u8 0, .int .u8 0, .int .u8 0, .int .u8 0, .int .u8 0, .int .u8 0, .int .u8 0, .int .u8 0, .int .u8 0] := _root_.id rfl
@[go_sem] theorem t36_93_o : zeroOK Tryd.prog 93 = true := by decide +kernel
@[go_sem] theorem t36_93_i : zeroI Tryd.prog 93 = some (.agg [.int .u8 0, .int .u8 0, .int .u8 0, .int .u8 0, .int .u8 0, .int .u8 0, .int .u8 0, .int .u8 0, .int .u8 0, .int .u8 0, .int .u8 0, .int .u8 0, .int .u8 0, .int .u8 0, .int .u8 0, .int .u8 0, .int .u8 0, .int .u8 0, .int .u8 0, .int .u8 0, .int .u8 0, .int .u8 0, .int .u8 0, .int .u8 0, .int .u8 0, .int .u8 0, .int .u8 0, .int .u8 0, .int .u8 0, .int .u8 0, .int .u8 0, .int .u8 0]) := _root_.id rfl
@[go_sem] theorem t36_93_b : (bytesP Tryd.prog 93 ≤ 1024) = True := eq_true (by decide +kernel)
@[go_sem] theorem t36_93_f : flatP Tryd.prog 93 = some [.int .u8, .int .u8, .int .u8, .int .u8, .int .u8, .int .u8, .int .u8, .int .u8, .int .u8, .int .u8, .int .u8, .int .u8, .int .u8, .int .u8, .int .u8, .int .u8, .int .u8, .int .u8, .int .u8, .int .u8, .int .u8, .int .u8, .int .u8, .int .u8, .int .u8, .int .u8, .int .u8, .int .u8, .int .u8, .int .u8, .int .u8, .int .u8] := flat_of (by decide +kernel)
@[go_sem] theorem t36_93_k : keyK Tryd.prog 93 = some [.int .u8, .int .u8, .int .u8, .int .u8, .int .u8, .int .u8, .int .u8, .int .u8, .int .u8, .int .u8, .int .u8, .int .u8, .int .u8, .int .u8, .int .u8, .int .u8, .int .u8, .int .u8, .int .u8, .int .u8, .int .u8, .int .u8, .int .u8, .int .u8, .int .u8, .int .u8, .int .u8, .int .u8, .int .u8, .int .u8, .int .u8, .int .u8] := key_of (by decide +kernel)
@[go_sem] theorem t36_94_h : hasP Tryd.prog 94 = true := by decide +kernel
@[go_sem] theorem t36_94_s : sizeP Tryd.prog 94 = 1 := by decide +kernel
@[go_sem] theorem t36_94_a : aggP Tryd.prog 94 = false := by decide +kernel
@[go_sem] theorem t36_94_z : zeroP Tryd.prog 94 = some [.int .u64 0] := _root_.id rfl
@[go_sem] theorem t36_94_o : zeroOK Tryd.prog 94 = true := by decide +kernel
@[go_sem] theorem t36_94_i : zeroI Tryd.prog 94 = some (.int .u64 0) := _root_.id rfl
@[go_sem] theorem t36_94_y : (((Tryd.prog.info? 94).map (·.bytes)).getD 0 ≤ 256) = True := eq_true (by decide +kernel)
@[go_sem] theorem t36_94_b : (bytesP Tryd.prog 94 ≤ 1024) = True := eq_true (by decide +kernel)
@[go_sem] theorem t36_94_k : keyK Tryd.prog 94 = some [.int .u64] := key_of (by decide +kernel)
@[go_sem] theorem t36_95_h : hasP Tryd.prog 95 = true := by decide +kernel
@[go_sem] theorem t36_95_s : sizeP Tryd.prog 95 = 1 := by decide +kernel
@[go_sem] theorem t36_95_a : aggP Tryd.prog 95 = false := by decide +kernel
@[go_sem] theorem t36_95_z : zeroP Tryd.prog 95 = some [.nils] := _root_.id rfl
@[go_sem] theorem t36_95_o : zeroOK Tryd.prog 95 = true := by decide +kernel
@[go_sem] theorem t36_95_i : zeroI Tryd.prog 95 = some (.nils) := _root_.id rfl
@[go_sem] theorem t36_95_y : (((Tryd.prog.info? 95).map (·.bytes)).getD 0 ≤ 256) = True := eq_true (by decide +kernel)
@[go_sem] theorem t36_95_b : (bytesP Tryd.prog 95 ≤ 1024) = True := eq_true (by decide +kernel)
@[go_sem] theorem t36_96_h : hasP Tryd.prog 96 = true := by decide +kernel
@[go_sem] theorem t36_96_s : sizeP Tryd.prog 96 = 1 := by decide +kernel
@[go_sem] theorem t36_96_a : aggP Tryd.prog 96 = false := by decide +kernel
@[go_sem] theorem t36_96_z : zeroP Tryd.prog 96 = some [.nilf] := _root_.id rfl
@[go_sem] theorem t36_96_o : zeroOK Tryd.prog 96 = true := by decide +kernel
@[go_sem] theorem t36_96_i : zeroI Tryd.prog 96 = some (.nilf) := _root_.id rfl
@[go_sem] theorem t36_96_y : (((Tryd.prog.info? 96).map (·.bytes)).getD 0 ≤ 256) = True := eq_true (by decide +kernel)
@[go_sem] theorem t36_96_b : (bytesP Tryd.prog 96 ≤ 1024) = True := eq_true (by decide +kernel)
@[go_sem] theorem t36_97_h : hasP Tryd.prog 97 = true := by decide +kernel
@[go_sem] theorem t36_97_s : sizeP Tryd.prog 97 = 1 := by decide +kernel
@[go_sem] theorem t36_97_a : aggP Tryd.prog 97 = false := by decide +kernel
@[go_sem] theorem t36_97_z : zeroP Tryd.prog 97 = some [.nilf] := _root_.id rfl
@[go_sem] theorem t36_97_o : zeroOK Tryd.prog 97 = true := by decide +kernel
@[go_sem] theorem t36_97_i : zeroI Tryd.prog 97 = some (.nilf) := _root_.id rfl
@[go_sem] theorem t36_97_y : (((Tryd.prog.info? 97).map (·.bytes)).getD 0 ≤ 256) = True := eq_true (by decide +kernel)
@[go_sem] theorem t36_97_b : (bytesP Tryd.prog 97 ≤ 1024) = True := eq_true (by decide +kernel)
@[go_sem] theorem t36_98_h : hasP Tryd.prog 98 = true := by decide +kernel
@[go_sem] theorem t36_98_s : sizeP Tryd.prog 98 = 1 := by decide +kernel
@[go_sem] theorem t36_98_a : aggP Tryd.prog 98 = false := by decide +kernel
@[go_sem] theorem t36_98_z : zeroP Tryd.prog 98 = some [.nilf] := _root_.id rfl
@[go_sem] theorem t36_98_o : zeroOK Tryd.prog 98 = true := by decide +kernel
@[go_sem] theorem t36_98_i : zeroI Tryd.prog 98 = some (.nilf) := _root_.id rfl
@[go_sem] theorem t36_98_y : (((Tryd.prog.info? 98).map (·.bytes)).getD 0 ≤ 256) = True := eq_true (by decide +kernel)
@[go_sem] theorem t36_98_b : (bytesP Tryd.prog 98 ≤ 1024) = True := eq_true (by decide +kernel)
@[go_sem] theorem t36_99_h : hasP Tryd.prog 99 = true := by decide +kernel
@[go_sem] theorem t36_99_s : sizeP Tryd.prog 99 = 4 := by decide +kernel
@[go_sem] theorem t36_99_a : aggP Tryd.prog 99 = true := by decide +kernel
@[go_sem] theorem t36_99_z : zeroP Tryd.prog 99 = some [.nilp, .nilp, .nilp, .str ByteArray.empty] := _root_.id rfl
@[go_sem] theorem t36_99_o : zeroOK Tryd.prog 99 = true := by decide +kernel
@[go_sem] theorem t36_99_i : zeroI Tryd.prog 99 = some (.agg [.nilp, .nilp, .nilp, .str ByteArray.empty]) := _root_.id rfl
@[go_sem] theorem t36_99_y : (((Tryd.prog.info? 99).map (·.bytes)).getD 0 ≤ 256) = True := eq_true (by decide +kernel)
@[go_sem] theorem t36_99_b : (bytesP Tryd.prog 99 ≤ 1024) = True := eq_true (by decide +kernel)
@[go_sem] theorem t36_100_h : hasP Tryd.prog 100 = true := by decide +kernel
@[go_sem] theorem t36_100_s : sizeP Tryd.prog 100 = 4 := by decide +kernel
@[go_sem] theorem t36_100_a : aggP Tryd.prog 100 = true := by decide +kernel
@[go_sem] theorem t36_100_z : zeroP Tryd.prog 100 = some [.nilp, .nilp, .nilp, .str ByteArray.empty] := _root_.id rfl
@[go_sem] theorem t36_100_o : zeroOK Tryd.prog 100 = true := by decide +kernel
@[go_sem] theorem t36_100_i : zeroI Tryd.prog 100 = some (.agg [.nilp, .nilp, .nilp, .str ByteArray.empty]) := _root_.id rfl
@[go_sem] theorem t36_100_y : (((Tryd.prog.info? 100).map (·.bytes)).getD 0 ≤ 256) = True := eq_true (by decide +kernel)
@[go_sem] theorem t36_100_b : (bytesP Tryd.prog 100 ≤ 1024) = True := eq_true (by decide +kernel)
@[go_sem] theorem t36_101_h : hasP Tryd.prog 101 = true := by decide +kernel
@[go_sem] theorem t36_101_s : sizeP Tryd.prog 101 = 0 := by decide +kernel
@[go_sem] theorem t36_101_a : aggP Tryd.prog 101 = true := by decide +kernel
@[go_sem] theorem t36_102_h : hasP Tryd.prog 102 = true := by decide +kernel
@[go_sem] theorem t36_102_s : sizeP Tryd.prog 102 = 0 := by decide +kernel
@[go_sem] theorem t36_102_a : aggP Tryd.prog 102 = true := by decide +kernel
@[go_sem] theorem t36_103_h : hasP Tryd.prog 103 = true := by decide +kernel
@[go_sem] theorem t36_103_s : sizeP Tryd.prog 103 = 0 := by decide +kernel
@[go_sem] theorem t36_103_a : aggP Tryd.prog 103 = true := by decide +kernel
@[go_sem] theorem t36_104_h : hasP Tryd.prog 104 = true := by decide +kernel
@[go_sem] theorem t36_104_s : sizeP Tryd.prog 104 = 1 := by decide +kernel
@[go_sem] theorem t36_104_a : aggP Tryd.prog 104 = false := by decide +kernel
@[go_sem] theorem t36_104_z : zeroP Tryd.prog 104 = some [.nilf] := _root_.id rfl
@[go_sem] theorem t36_104_o : zeroOK Tryd.prog 104 = true := by decide +kernel
@[go_sem] theorem t36_104_i : zeroI Tryd.prog 104 = some (.nilf) := _root_.id rfl
@[go_sem] theorem t36_104_y : (((Tryd.prog.info? 104).map (·.bytes)).getD 0 ≤ 256) = True := eq_true (by decide +kernel)
@[go_sem] theorem t36_104_b : (bytesP Tryd.prog 104 ≤ 1024) = True := eq_true (by decide +kernel)
@[go_sem] theorem t36_105_h : hasP Tryd.prog 105 = true := by decide +kernel
@[go_sem] theorem t36_105_s : sizeP Tryd.prog 105 = 1 := by decide +kernel
@[go_sem] theorem t36_105_a : aggP Tryd.prog 105 = false := by decide +kernel
@[go_sem] theorem t36_105_z : zeroP Tryd.prog 105 = some [.int .u8 0] := _root_.id rfl
@[go_sem] theorem t36_105_o : zeroOK Tryd.prog 105 = true := by decide +kernel
@[go_sem] theorem t36_105_i : zeroI Tryd.prog 105 = some (.int .u8 0) := _root_.id rfl
@[go_sem] theorem t36_105_y : (((Tryd.prog.info? 105).map (·.bytes)).getD 0 ≤ 256) = True := eq_true (by decide +kernel)
@[go_sem] theorem t36_105_b : (bytesP Tryd.prog 105 ≤ 1024) = True := eq_true (by decide +kernel)
@[go_sem] theorem t36_105_k : keyK Tryd.prog 105 = some [.int .u8] := key_of (by decide +kernel)
@[go_sem] theorem t36_106_h : hasP Tryd.prog 106 = true := by decide +kernel
@[go_sem] theorem t36_106_s : sizeP Tryd.prog 106 = 1 := by decide +kernel
@[go_sem] theorem t36_106_a : aggP Tryd.prog 106 = false := by decide +kernel
@[go_sem] theorem t36_106_z : zeroP Tryd.prog 106 = some [.int .u8 0] := _root_.id rfl
@[go_sem] theorem t36_106_o : zeroOK Tryd.prog 106 = true := by decide +kernel
@[go_sem] theorem t36_106_i : zeroI Tryd.prog 106 = some (.int .u8 0) := _root_.id rfl
@[go_sem] theorem t36_106_y : (((Tryd.prog.info? 106).map (·.bytes)).getD 0 ≤ 256) = True := eq_true (by decide +kernel)
@[go_sem] theorem t36_106_b : (bytesP Tryd.prog 106 ≤ 1024) = True := eq_true (by decide +kernel)
@[go_sem] theorem t36_106_k : keyK Tryd.prog 106 = some [.int .u8] := key_of (by decide +kernel)
@[go_sem] theorem t36_107_h : hasP Tryd.prog 107 = true := by decide +kernel
@[go_sem] theorem t36_107_s : sizeP Tryd.prog 107 = 1 := by decide +kernel
@[go_sem] theorem t36_107_a : aggP Tryd.prog 107 = false := by decide +kernel
@[go_sem] theorem t36_107_z : zeroP Tryd.prog 107 = some [.nilf] := _root_.id rfl
@[go_sem] theorem t36_107_o : zeroOK Tryd.prog 107 = true := by decide +kernel
@[go_sem] theorem t36_107_i : zeroI Tryd.prog 107 = some (.nilf) := _root_.id rfl
@[go_sem] theorem t36_107_y : (((Tryd.prog.info? 107).map (·.bytes)).getD 0 ≤ 256) = True := eq_true (by decide +kernel)
@[go_sem] theorem t36_107_b : (bytesP Tryd.prog 107 ≤ 1024) = True := eq_true (by decide +kernel)
@[go_sem] theorem t36_108_h : hasP Tryd.prog 108 = true := by decide +kernel
@[go_sem] theorem t36_108_s : sizeP Tryd.prog 108 = 1 := by decide +kernel
@[go_sem] theorem t36_108_a : aggP Tryd.prog 108 = false := by decide +kernel
@[go_sem] theorem t36_108_z : zeroP Tryd.prog 108 = some [.nilp] := _root_.id rfl
@[go_sem] theorem t36_108_o : zeroOK Tryd.prog 108 = true := by decide +kernel
@[go_sem] theorem t36_108_i : zeroI Tryd.prog 108 = some (.nilp) := _root_.id rfl
@[go_sem] theorem t36_108_y : (((Tryd.prog.info? 108).map (·.bytes)).getD 0 ≤ 256) = True := eq_true (by decide +kernel)
@[go_sem] theorem t36_108_b : (bytesP Tryd.prog 108 ≤ 1024) = True := eq_true (by decide +kernel)
@[go_sem] theorem t36_109_h : hasP Tryd.prog 109 = true := by decide +kernel
@[go_sem] theorem t36_109_s : sizeP Tryd.prog 109 = 1 := by decide +kernel
@[go_sem] theorem t36_109_a : aggP Tryd.prog 109 = false := by decide +kernel
@[go_sem] theorem t36_109_z : zeroP Tryd.prog 109 = some [.int .i32 0] := _root_.id rfl
@[go_sem] theorem t36_109_o : zeroOK Tryd.prog 109 = true := by decide +kernel
@[go_sem] theorem t36_109_i : zeroI Tryd.prog 109 = some (.int .i32 0) := _root_.id rfl
@[go_sem] theorem t36_109_y : (((Tryd.prog.info? 109).map (·.bytes)).getD 0 ≤ 256) = True := eq_true (by decide +kernel)
@[go_sem] theorem t36_109_b : (bytesP Tryd.prog 109 ≤ 1024) = True := eq_true (by decide +kernel)
@[go_sem] theorem t36_109_k : keyK Tryd.prog 109 = some [.int .i32] := key_of (by decide +kernel)
@[go_sem] theorem t36_110_h : hasP Tryd.prog 110 = true := by decide +kernel
@[go_sem] theorem t36_110_s : sizeP Tryd.prog 110 = 1 := by decide +kernel
@[go_sem] theorem t36_110_a : aggP Tryd.prog 110 = false := by decide +kernel
@[go_sem] theorem t36_110_z : zeroP Tryd.prog 110 = some [.int .i32 0] := _root_.id rfl
@[go_sem] theorem t36_110_o : zeroOK Tryd.prog 110 = true := by decide +kernel
@[go_sem] theorem t36_110_i : zeroI Tryd.prog 110 = some (.int .i32 0) := _root_.id rfl
@[go_sem] theorem t36_110_y : (((Tryd.prog.info? 110).map (·.bytes)).getD 0 ≤ 256) = True := eq_true (by decide +kernel)
@[go_sem] theorem t36_110_b : (bytesP Tryd.prog 110 ≤ 1024) = True := eq_true (by decide +kernel)
@[go_sem] theorem t36_110_k : keyK Tryd.prog 110 = some [.int .i32] := key_of (by decide +kernel)
@[go_sem] theorem t36_111_h : hasP Tryd.prog 111 = true := by decide +kernel
@[go_sem] theorem t36_111_s : sizeP Tryd.prog 111 = 11 := by decide +kernel
@[go_sem] theorem t36_111_a : aggP Tryd.prog 111 = true := by decide +kernel
@[go_sem] theorem t36_111_z : zeroP Tryd.prog 111 = some [.int .u64 0, .int .u64 0, .int .u32 0, .int .u8 0, .int .u8 0, .int .u8 0, .int .u8 0, .nilf, .nilp, .int .i32 0, .int .i32 0] := _root_.id rfl
@[go_sem] theorem t36_111_o : zeroOK Tryd.prog 111 = true := by decide +kernel
@[go_sem] theorem t36_111_i : zeroI Tryd.prog 111 = some (.agg [.int .u64 0, .int .u64 0, .int .u32 0, .int .u8 0, .int .u8 0, .int .u8 0, .int .u8 0, .nilf, .nilp, .int .i32 0, .int .i32 0]) := _root_.id rfl
@[go_sem] theorem t36_111_y : (((Tryd.prog.info? 111).map (·.bytes)).getD 0 ≤ 256) = True := eq_true (by decide +kernel)
@[go_sem] theorem t36_111_b : (bytesP Tryd.prog 111 ≤ 1024) = True := eq_true (by decide +kernel)
@[go_sem] theorem t36_112_h : hasP Tryd.prog 112 = true := by decide +kernel
@[go_sem] theorem t36_112_s : sizeP Tryd.prog 112 = 11 := by decide +kernel
@[go_sem] theorem t36_112_a : aggP Tryd.prog 112 = true := by decide +kernel
@[go_sem] theorem t36_112_z : zeroP Tryd.prog 112 = some [.int .u64 0, .int .u64 0, .int .u32 0, .int .u8 0, .int .u8 0, .int .u8 0, .int .u8 0, .nilf, .nilp, .int .i32 0, .int .i32 0] := _root_.id rfl
@[go_sem] theorem t36_112_o : zeroOK Tryd.prog 112 = true := by decide +kernel
@[go_sem] theorem t36_112_i : zeroI Tryd.prog 112 = some (.agg [.int .u64 0, .int .u64 0, .int .u32 0, .int .u8 0, .int .u8 0, .int .u8 0, .int .u8 0, .nilf, .nilp, .int .i32 0, .int .i32 0]) := _root_.id rfl
@[go_sem] theorem t36_112_y : (((Tryd.prog.info? 112).map (·.bytes)).getD 0 ≤ 256) = True := eq_true (by decide +kernel)
@[go_sem] theorem t36_112_b : (bytesP Tryd.prog 112 ≤ 1024) = True := eq_true (by decide +kernel)
end Go.Idl
