/-
  Chapter 36: the types.
  Chapter 36, plain law: sets of places as bits of a number of 32 bits.
  Chapter 36, plain law: draws of a list, how many, which, and the number of one.
  Chapter 36, plain law: draws one after another; the place of one.
  Chapter 36, plain law: what is in the draws, how many at most, in which order; one pair more or less.
  Chapter 36: what the walks share.
-/
import Derived.Test.YtpfpgkopbokfgaaDoorProg
import Derived.Test.YtpfpgkopbokfgaaDoorIdlPartG
import Derived.Test.YtpfpgkopbokfgaaDoorIdlPartH
namespace Go.Idl
set_option linter.all false
open Go.Proofs
@[go_sem] theorem t36_1_h : hasP Tryd.prog 1 = true := by decide +kernel
@[go_sem] theorem t36_1_s : sizeP Tryd.prog 1 = 1 := by decide +kernel
@[go_sem] theorem t36_1_a : aggP Tryd.prog 1 = false := by decide +kernel
@[go_sem] theorem t36_1_z : zeroP Tryd.prog 1 = some [.nilf] := _root_.id rfl
@[go_sem] theorem t36_1_o : zeroOK Tryd.prog 1 = true := by decide +kernel
@[go_sem] theorem t36_1_i : zeroI Tryd.prog 1 = some (.nilf) := _root_.id rfl
@[go_sem] theorem t36_1_y : (((Tryd.prog.info? 1).map (·.bytes)).getD 0 ≤ 256) = True := eq_true (by decide +kernel)
@[go_sem] theorem t36_1_b : (bytesP Tryd.prog 1 ≤ 1024) = True := eq_true (by decide +kernel)
@[go_sem] theorem t36_2_h : hasP Tryd.prog 2 = true := by decide +kernel
@[go_sem] theorem t36_2_s : sizeP Tryd.prog 2 = 1 := by decide +kernel
@[go_sem] theorem t36_2_a : aggP Tryd.prog 2 = false := by decide +kernel
@[go_sem] theorem t36_2_z : zeroP Tryd.prog 2 = some [.int .i64 0] := _root_.id rfl
@[go_sem] theorem t36_2_o : zeroOK Tryd.prog 2 = true := by decide +kernel
@[go_sem] theorem t36_2_i : zeroI Tryd.prog 2 = some (.int .i64 0) := _root_.id rfl
@[go_sem] theorem t36_2_y : (((Tryd.prog.info? 2).map (·.bytes)).getD 0 ≤ 256) = True := eq_true (by decide +kernel)
@[go_sem] theorem t36_2_b : (bytesP Tryd.prog 2 ≤ 1024) = True := eq_true (by decide +kernel)
@[go_sem] theorem t36_2_k : keyK Tryd.prog 2 = some [.int .i64] := key_of (by decide +kernel)
@[go_sem] theorem t36_3_h : hasP Tryd.prog 3 = true := by decide +kernel
@[go_sem] theorem t36_3_s : sizeP Tryd.prog 3 = 1 := by decide +kernel
@[go_sem] theorem t36_3_a : aggP Tryd.prog 3 = false := by decide +kernel
@[go_sem] theorem t36_3_z : zeroP Tryd.prog 3 = some [.int .i64 0] := _root_.id rfl
@[go_sem] theorem t36_3_o : zeroOK Tryd.prog 3 = true := by decide +kernel
@[go_sem] theorem t36_3_i : zeroI Tryd.prog 3 = some (.int .i64 0) := _root_.id rfl
@[go_sem] theorem t36_3_y : (((Tryd.prog.info? 3).map (·.bytes)).getD 0 ≤ 256) = True := eq_true (by decide +kernel)
@[go_sem] theorem t36_3_b : (bytesP Tryd.prog 3 ≤ 1024) = True := eq_true (by decide +kernel)
@[go_sem] theorem t36_3_k : keyK Tryd.prog 3 = some [.int .i64] := key_of (by decide +kernel)
@[go_sem] theorem t36_4_h : hasP Tryd.prog 4 = true := by decide +kernel
@[go_sem] theorem t36_4_s : sizeP Tryd.prog 4 = 1 := by decide +kernel
@[go_sem] theorem t36_4_a : aggP Tryd.prog 4 = false := by decide +kernel
@[go_sem] theorem t36_4_z : zeroP Tryd.prog 4 = some [.bool false] := _root_.id rfl
@[go_sem] theorem t36_4_o : zeroOK Tryd.prog 4 = true := by decide +kernel
@[go_sem] theorem t36_4_i : zeroI Tryd.prog 4 = some (.bool false) := _root_.id rfl
@[go_sem] theorem t36_4_y : (((Tryd.prog.info? 4).map (·.bytes)).getD 0 ≤ 256) = True := eq_true (by decide +kernel)
@[go_sem] theorem t36_4_b : (bytesP Tryd.prog 4 ≤ 1024) = True := eq_true (by decide +kernel)
@[go_sem] theorem t36_4_k : keyK Tryd.prog 4 = some [.bool] := key_of (by decide +kernel)
@[go_sem] theorem t36_5_h : hasP Tryd.prog 5 = true := by decide +kernel
@[go_sem] theorem t36_5_s : sizeP Tryd.prog 5 = 1 := by decide +kernel
@[go_sem] theorem t36_5_a : aggP Tryd.prog 5 = false := by decide +kernel
@[go_sem] theorem t36_5_z : zeroP Tryd.prog 5 = some [.int .u8 0] := _root_.id rfl
@[go_sem] theorem t36_5_o : zeroOK Tryd.prog 5 = true := by decide +kernel
@[go_sem] theorem t36_5_i : zeroI Tryd.prog 5 = some (.int .u8 0) := _root_.id rfl
@[go_sem] theorem t36_5_y : (((Tryd.prog.info? 5).map (·.bytes)).getD 0 ≤ 256) = True := eq_true (by decide +kernel)
@[go_sem] theorem t36_5_b : (bytesP Tryd.prog 5 ≤ 1024) = True := eq_true (by decide +kernel)
@[go_sem] theorem t36_5_k : keyK Tryd.prog 5 = some [.int .u8] := key_of (by decide +kernel)
@[go_sem] theorem t36_6_h : hasP Tryd.prog 6 = true := by decide +kernel
@[go_sem] theorem t36_6_s : sizeP Tryd.prog 6 = 1 := by decide +kernel
@[go_sem] theorem t36_6_a : aggP Tryd.prog 6 = false := by decide +kernel
@[go_sem] theorem t36_6_z : zeroP Tryd.prog 6 = some [.int .u8 0] := _root_.id rfl
@[go_sem] theorem t36_6_o : zeroOK Tryd.prog 6 = true := by decide +kernel
@[go_sem] theorem t36_6_i : zeroI Tryd.prog 6 = some (.int .u8 0) := _root_.id rfl
@[go_sem] theorem t36_6_y : (((Tryd.prog.info? 6).map (·.bytes)).getD 0 ≤ 256) = True := eq_true (by decide +kernel)
@[go_sem] theorem t36_6_b : (bytesP Tryd.prog 6 ≤ 1024) = True := eq_true (by decide +kernel)
@[go_sem] theorem t36_6_k : keyK Tryd.prog 6 = some [.int .u8] := key_of (by decide +kernel)
@[go_sem] theorem t36_7_h : hasP Tryd.prog 7 = true := by decide +kernel
@[go_sem] theorem t36_7_s : sizeP Tryd.prog 7 = 4 := by decide +kernel
@[go_sem] theorem t36_7_a : aggP Tryd.prog 7 = true := by decide +kernel
@[go_sem] theorem t36_7_z : zeroP Tryd.prog 7 = some [.int .i64 0, .int .i64 0, .bool false, .int .u8 0] := _root_.id rfl
@[go_sem] theorem t36_7_o : zeroOK Tryd.prog 7 = true := by decide +kernel
@[go_sem] theorem t36_7_i : zeroI Tryd.prog 7 = some (.agg [.int .i64 0, .int .i64 0, .bool false, .int .u8 0]) := _root_.id rfl
@[go_sem] theorem t36_7_y : (((Tryd.prog.info? 7).map (·.bytes)).getD 0 ≤ 256) = True := eq_true (by decide +kernel)
@[go_sem] theorem t36_7_b : (bytesP Tryd.prog 7 ≤ 1024) = True := eq_true (by decide +kernel)
@[go_sem] theorem t36_7_f : flatP Tryd.prog 7 = some [.int .i64, .int .i64, .bool, .int .u8] := flat_of (by decide +kernel)
@[go_sem] theorem t36_7_k : keyK Tryd.prog 7 = some [.int .i64, .int .i64, .bool, .int .u8] := key_of (by decide +kernel)
@[go_sem] theorem t36_8_h : hasP Tryd.prog 8 = true := by decide +kernel
@[go_sem] theorem t36_8_s : sizeP Tryd.prog 8 = 4 := by decide +kernel
@[go_sem] theorem t36_8_a : aggP Tryd.prog 8 = true := by decide +kernel
@[go_sem] theorem t36_8_z : zeroP Tryd.prog 8 = some [.int .i64 0, .int .i64 0, .bool false, .int .u8 0] := _root_.id rfl
@[go_sem] theorem t36_8_o : zeroOK Tryd.prog 8 = true := by decide +kernel
@[go_sem] theorem t36_8_i : zeroI Tryd.prog 8 = some (.agg [.int .i64 0, .int .i64 0, .bool false, .int .u8 0]) := _root_.id rfl
@[go_sem] theorem t36_8_y : (((Tryd.prog.info? 8).map (·.bytes)).getD 0 ≤ 256) = True := eq_true (by decide +kernel)
@[go_sem] theorem t36_8_b : (bytesP Tryd.prog 8 ≤ 1024) = True := eq_true (by decide +kernel)
@[go_sem] theorem t36_8_f : flatP Tryd.prog 8 = some [.int .i64, .int .i64, .bool, .int .u8] := flat_of (by decide +kernel)
@[go_sem] theorem t36_8_k : keyK Tryd.prog 8 = some [.int .i64, .int .i64, .bool, .int .u8] := key_of (by decide +kernel)
@[go_sem] theorem t36_9_h : hasP Tryd.prog 9 = true := by decide +kernel
@[go_sem] theorem t36_9_s : sizeP Tryd.prog 9 = 1 := by decide +kernel
@[go_sem] theorem t36_9_a : aggP Tryd.prog 9 = false := by decide +kernel
@[go_sem] theorem t36_9_z : zeroP Tryd.prog 9 = some [.str ByteArray.empty] := _root_.id rfl
@[go_sem] theorem t36_9_o : zeroOK Tryd.prog 9 = true := by decide +kernel
@[go_sem] theorem t36_9_i : zeroI Tryd.prog 9 = some (.str ByteArray.empty) := _root_.id rfl
@[go_sem] theorem t36_9_y : (((Tryd.prog.info? 9).map (·.bytes)).getD 0 ≤ 256) = True := eq_true (by decide +kernel)
@[go_sem] theorem t36_9_b : (bytesP Tryd.prog 9 ≤ 1024) = True := eq_true (by decide +kernel)
@[go_sem] theorem t36_9_k : keyK Tryd.prog 9 = some [.string] := key_of (by decide +kernel)
@[go_sem] theorem t36_10_h : hasP Tryd.prog 10 = true := by decide +kernel
@[go_sem] theorem t36_10_s : sizeP Tryd.prog 10 = 1 := by decide +kernel
@[go_sem] theorem t36_10_a : aggP Tryd.prog 10 = false := by decide +kernel
@[go_sem] theorem t36_10_z : zeroP Tryd.prog 10 = some [.str ByteArray.empty] := _root_.id rfl
@[go_sem] theorem t36_10_o : zeroOK Tryd.prog 10 = true := by decide +kernel
@[go_sem] theorem t36_10_i : zeroI Tryd.prog 10 = some (.str ByteArray.empty) := _root_.id rfl
@[go_sem] theorem t36_10_y : (((Tryd.prog.info? 10).map (·.bytes)).getD 0 ≤ 256) = True := eq_true (by decide +kernel)
@[go_sem] theorem t36_10_b : (bytesP Tryd.prog 10 ≤ 1024) = True := eq_true (by decide +kernel)
@[go_sem] theorem t36_10_k : keyK Tryd.prog 10 = some [.string] := key_of (by decide +kernel)
@[go_sem] theorem t36_11_h : hasP Tryd.prog 11 = true := by decide +kernel
@[go_sem] theorem t36_11_s : sizeP Tryd.prog 11 = 1 := by decide +kernel
@[go_sem] theorem t36_11_a : aggP Tryd.prog 11 = false := by decide +kernel
@[go_sem] theorem t36_11_z : zeroP Tryd.prog 11 = some [.str ByteArray.empty] := _root_.id rfl
@[go_sem] theorem t36_11_o : zeroOK Tryd.prog 11 = true := by decide +kernel
@[go_sem] theorem t36_11_i : zeroI Tryd.prog 11 = some (.str ByteArray.empty) := _root_.id rfl
@[go_sem] theorem t36_11_y : (((Tryd.prog.info? 11).map (·.bytes)).getD 0 ≤ 256) = True := eq_true (by decide +kernel)
@[go_sem] theorem t36_11_b : (bytesP Tryd.prog 11 ≤ 1024) = True := eq_true (by decide +kernel)
@[go_sem] theorem t36_11_k : keyK Tryd.prog 11 = some [.string] := key_of (by decide +kernel)
@[go_sem] theorem t36_12_h : hasP Tryd.prog 12 = true := by decide +kernel
@[go_sem] theorem t36_12_s : sizeP Tryd.prog 12 = 1 := by decide +kernel
@[go_sem] theorem t36_12_a : aggP Tryd.prog 12 = false := by decide +kernel
@[go_sem] theorem t36_12_z : zeroP Tryd.prog 12 = some [.int .u64 0] := _root_.id rfl
@[go_sem] theorem t36_12_o : zeroOK Tryd.prog 12 = true := by decide +kernel
@[go_sem] theorem t36_12_i : zeroI Tryd.prog 12 = some (.int .u64 0) := _root_.id rfl
@[go_sem] theorem t36_12_y : (((Tryd.prog.info? 12).map (·.bytes)).getD 0 ≤ 256) = True := eq_true (by decide +kernel)
@[go_sem] theorem t36_12_b : (bytesP Tryd.prog 12 ≤ 1024) = True := eq_true (by decide +kernel)
@[go_sem] theorem t36_12_k : keyK Tryd.prog 12 = some [.int .u64] := key_of (by decide +kernel)
@[go_sem] theorem t36_13_h : hasP Tryd.prog 13 = true := by decide +kernel
@[go_sem] theorem t36_13_s : sizeP Tryd.prog 13 = 2 := by decide +kernel
@[go_sem] theorem t36_13_a : aggP Tryd.prog 13 = true := by decide +kernel
@[go_sem] theorem t36_13_z : zeroP Tryd.prog 13 = some [.str ByteArray.empty, .int .u64 0] := _root_.id rfl
@[go_sem] theorem t36_13_o : zeroOK Tryd.prog 13 = true := by decide +kernel
@[go_sem] theorem t36_13_i : zeroI Tryd.prog 13 = some (.agg [.str ByteArray.empty, .int .u64 0]) := _root_.id rfl
@[go_sem] theorem t36_13_y : (((Tryd.prog.info? 13).map (·.bytes)).getD 0 ≤ 256) = True := eq_true (by decide +kernel)
@[go_sem] theorem t36_13_b : (bytesP Tryd.prog 13 ≤ 1024) = True := eq_true (by decide +kernel)
@[go_sem] theorem t36_14_h : hasP Tryd.prog 14 = true := by decide +kernel
@[go_sem] theorem t36_14_s : sizeP Tryd.prog 14 = 2 := by decide +kernel
@[go_sem] theorem t36_14_a : aggP Tryd.prog 14 = true := by decide +kernel
@[go_sem] theorem t36_14_z : zeroP Tryd.prog 14 = some [.str ByteArray.empty, .int .u64 0] := _root_.id rfl
@[go_sem] theorem t36_14_o : zeroOK Tryd.prog 14 = true := by decide +kernel
@[go_sem] theorem t36_14_i : zeroI Tryd.prog 14 = some (.agg [.str ByteArray.empty, .int .u64 0]) := _root_.id rfl
@[go_sem] theorem t36_14_y : (((Tryd.prog.info? 14).map (·.bytes)).getD 0 ≤ 256) = True := eq_true (by decide +kernel)
@[go_sem] theorem t36_14_b : (bytesP Tryd.prog 14 ≤ 1024) = True := eq_true (by decide +kernel)
@[go_sem] theorem t36_15_h : hasP Tryd.prog 15 = true := by decide +kernel
@[go_sem] theorem t36_15_s : sizeP Tryd.prog 15 = 1 := by decide +kernel
@[go_sem] theorem t36_15_a : aggP Tryd.prog 15 = false := by decide +kernel
@[go_sem] theorem t36_15_z : zeroP Tryd.prog 15 = some [.nilp] := _root_.id rfl
@[go_sem] theorem t36_15_o : zeroOK Tryd.prog 15 = true := by decide +kernel
@[go_sem] theorem t36_15_i : zeroI Tryd.prog 15 = some (.nilp) := _root_.id rfl
@[go_sem] theorem t36_15_y : (((Tryd.prog.info? 15).map (·.bytes)).getD 0 ≤ 256) = True := eq_true (by decide +kernel)
@[go_sem] theorem t36_15_b : (bytesP Tryd.prog 15 ≤ 1024) = True := eq_true (by decide +kernel)
@[go_sem] theorem t36_16_h : hasP Tryd.prog 16 = true := by decide +kernel
@[go_sem] theorem t36_16_s : sizeP Tryd.prog 16 = 1 := by decide +kernel
@[go_sem] theorem t36_16_a : aggP Tryd.prog 16 = false := by decide +kernel
@[go_sem] theorem t36_16_z : zeroP Tryd.prog 16 = some [.nilp] := _root_.id rfl
@[go_sem] theorem t36_16_o : zeroOK Tryd.prog 16 = true := by decide +kernel
@[go_sem] theorem t36_16_i : zeroI Tryd.prog 16 = some (.nilp) := _root_.id rfl
@[go_sem] theorem t36_16_y : (((Tryd.prog.info? 16).map (·.bytes)).getD 0 ≤ 256) = True := eq_true (by decide +kernel)
@[go_sem] theorem t36_16_b : (bytesP Tryd.prog 16 ≤ 1024) = True := eq_true (by decide +kernel)
@[go_sem] theorem t36_17_h : hasP Tryd.prog 17 = true := by decide +kernel
@[go_sem] theorem t36_17_s : sizeP Tryd.prog 17 = 1 := by decide +kernel
@[go_sem] theorem t36_17_a : aggP Tryd.prog 17 = false := by decide +kernel
@[go_sem] theorem t36_17_z : zeroP Tryd.prog 17 = some [.nilp] := _root_.id rfl
@[go_sem] theorem t36_17_o : zeroOK Tryd.prog 17 = true := by decide +kernel
@[go_sem] theorem t36_17_i : zeroI Tryd.prog 17 = some (.nilp) := _root_.id rfl
@[go_sem] theorem t36_17_y : (((Tryd.prog.info? 17).map (·.bytes)).getD 0 ≤ 256) = True := eq_true (by decide +kernel)
@[go_sem] theorem t36_17_b : (bytesP Tryd.prog 17 ≤ 1024) = True := eq_true (by decide +kernel)
@[go_sem] theorem t36_18_h : hasP Tryd.prog 18 = true := by decide +kernel
@[go_sem] theorem t36_18_s : sizeP Tryd.prog 18 = 1 := by decide +kernel
@[go_sem] theorem t36_18_a : aggP Tryd.prog 18 = true := by decide +kernel
@[go_sem] theorem t36_18_z : zeroP Tryd.prog 18 = some [.nilp] := _root_.id rfl
@[go_sem] theorem t36_18_o : zeroOK Tryd.prog 18 = true := by decide +kernel
@[go_sem] theorem t36_18_i : zeroI Tryd.prog 18 = some (.agg [.nilp]) := _root_.id rfl
@[go_sem] theorem t36_18_y : (((Tryd.prog.info? 18).map (·.bytes)).getD 0 ≤ 256) = True := eq_true (by decide +kernel)
@[go_sem] theorem t36_18_b : (bytesP Tryd.prog 18 ≤ 1024) = True := eq_true (by decide +kernel)
@[go_sem] theorem t36_19_h : hasP Tryd.prog 19 = true := by decide +kernel
@[go_sem] theorem t36_19_s : sizeP Tryd.prog 19 = 1 := by decide +kernel
@[go_sem] theorem t36_19_a : aggP Tryd.prog 19 = true := by decide +kernel
@[go_sem] theorem t36_19_z : zeroP Tryd.prog 19 = some [.nilp] := _root_.id rfl
@[go_sem] theorem t36_19_o : zeroOK Tryd.prog 19 = true := by decide +kernel
@[go_sem] theorem t36_19_i : zeroI Tryd.prog 19 = some (.agg [.nilp]) := _root_.id rfl
@[go_sem] theorem t36_19_y : (((Tryd.prog.info? 19).map (·.bytes)).getD 0 ≤ 256) = True := eq_true (by decide +kernel)
@[go_sem] theorem t36_19_b : (bytesP Tryd.prog 19 ≤ 1024) = True := eq_true (by decide +kernel)
@[go_sem] theorem t36_21_h : hasP Tryd.prog 21 = true := by decide +kernel
@[go_sem] theorem t36_21_s : sizeP Tryd.prog 21 = 1 := by decide +kernel
@[go_sem] theorem t36_21_a : aggP Tryd.prog 21 = false := by decide +kernel
@[go_sem] theorem t36_21_z : zeroP Tryd.prog 21 = some [.int .i32 0] := _root_.id rfl
@[go_sem] theorem t36_21_o : zeroOK Tryd.prog 21 = true := by decide +kernel
@[go_sem] theorem t36_21_i : zeroI Tryd.prog 21 = some (.int .i32 0) := _root_.id rfl
@[go_sem] theorem t36_21_y : (((Tryd.prog.info? 21).map (·.bytes)).getD 0 ≤ 256) = True := eq_true (by decide +kernel)
@[go_sem] theorem t36_21_b : (bytesP Tryd.prog 21 ≤ 1024) = True := eq_true (by decide +kernel)
@[go_sem] theorem t36_21_k : keyK Tryd.prog 21 = some [.int .i32] := key_of (by decide +kernel)
@[go_sem] theorem t36_22_h : hasP Tryd.prog 22 = true := by decide +kernel
@[go_sem] theorem t36_22_s : sizeP Tryd.prog 22 = 1 := by decide +kernel
@[go_sem] theorem t36_22_a : aggP Tryd.prog 22 = false := by decide +kernel
@[go_sem] theorem t36_22_z : zeroP Tryd.prog 22 = some [.nils] := _root_.id rfl
@[go_sem] theorem t36_22_o : zeroOK Tryd.prog 22 = true := by decide +kernel
@[go_sem] theorem t36_22_i : zeroI Tryd.prog 22 = some (.nils) := _root_.id rfl
@[go_sem] theorem t36_22_y : (((Tryd.prog.info? 22).map (·.bytes)).getD 0 ≤ 256) = True := eq_true (by decide +kernel)
@[go_sem] theorem t36_22_b : (bytesP Tryd.prog 22 ≤ 1024) = True := eq_true (by decide +kernel)
@[go_sem] theorem t36_23_h : hasP Tryd.prog 23 = true := by decide +kernel
@[go_sem] theorem t36_23_s : sizeP Tryd.prog 23 = 1 := by decide +kernel
@[go_sem] theorem t36_23_a : aggP Tryd.prog 23 = false := by decide +kernel
@[go_sem] theorem t36_23_z : zeroP Tryd.prog 23 = some [.nils] := _root_.id rfl
@[go_sem] theorem t36_23_o : zeroOK Tryd.prog 23 = true := by decide +kernel
@[go_sem] theorem t36_23_i : zeroI Tryd.prog 23 = some (.nils) := _root_.id rfl
@[go_sem] theorem t36_23_y : (((Tryd.prog.info? 23).map (·.bytes)).getD 0 ≤ 256) = True := eq_true (by decide +kernel)
@[go_sem] theorem t36_23_b : (bytesP Tryd.prog 23 ≤ 1024) = True := eq_true (by decide +kernel)
@[go_sem] theorem t36_24_h : hasP Tryd.prog 24 = true := by decide +kernel
@[go_sem] theorem t36_24_s : sizeP Tryd.prog 24 = 1 := by decide +kernel
@[go_sem] theorem t36_24_a : aggP Tryd.prog 24 = false := by decide +kernel
@[go_sem] theorem t36_24_z : zeroP Tryd.prog 24 = some [.nilf] := _root_.id rfl
@[go_sem] theorem t36_24_o : zeroOK Tryd.prog 24 = true := by decide +kernel
@[go_sem] theorem t36_24_i : zeroI Tryd.prog 24 = some (.nilf) := _root_.id rfl
@[go_sem] theorem t36_24_y : (((Tryd.prog.info? 24).map (·.bytes)).getD 0 ≤ 256) = True := eq_true (by decide +kernel)
@[go_sem] theorem t36_24_b : (bytesP Tryd.prog 24 ≤ 1024) = True := eq_true (by decide +kernel)
@[go_sem] theorem t36_25_h : hasP Tryd.prog 25 = true := by decide +kernel
@[go_sem] theorem t36_25_s : sizeP Tryd.prog 25 = 1 := by decide +kernel
@[go_sem] theorem t36_25_a : aggP Tryd.prog 25 = false := by decide +kernel
@[go_sem] theorem t36_25_z : zeroP Tryd.prog 25 = some [.nilf] := _root_.id rfl
@[go_sem] theorem t36_25_o : zeroOK Tryd.prog 25 = true := by decide +kernel
@[go_sem] theorem t36_25_i : zeroI Tryd.prog 25 = some (.nilf) := _root_.id rfl
@[go_sem] theorem t36_25_y : (((Tryd.prog.info? 25).map (·.bytes)).getD 0 ≤ 256) = True := eq_true (by decide +kernel)
@[go_sem] theorem t36_25_b : (bytesP Tryd.prog 25 ≤ 1024) = True := eq_true (by decide +kernel)
@[go_sem] theorem t36_26_h : hasP Tryd.prog 26 = true := by decide +kernel
@[go_sem] theorem t36_26_s : sizeP Tryd.prog 26 = 1 := by decide +kernel
@[go_sem] theorem t36_26_a : aggP Tryd.prog 26 = false := by decide +kernel
@[go_sem] theorem t36_26_z : zeroP Tryd.prog 26 = some [.int .i64 0] := _root_.id rfl
@[go_sem] theorem t36_26_o : zeroOK Tryd.prog 26 = true := by decide +kernel
@[go_sem] theorem t36_26_i : zeroI Tryd.prog 26 = some (.int .i64 0) := _root_.id rfl
@[go_sem] theorem t36_26_y : (((Tryd.prog.info? 26).map (·.bytes)).getD 0 ≤ 256) = True := eq_true (by decide +kernel)
@[go_sem] theorem t36_26_b : (bytesP Tryd.prog 26 ≤ 1024) = True := eq_true (by decide +kernel)
@[go_sem] theorem t36_26_k : keyK Tryd.prog 26 = some [.int .i64] := key_of (by decide +kernel)
@[go_sem] theorem t36_28_h : hasP Tryd.prog 28 = true := by decide +kernel
@[go_sem] theorem t36_28_s : sizeP Tryd.prog 28 = 1 := by decide +kernel
@[go_sem] theorem t36_28_a : aggP Tryd.prog 28 = false := by decide +kernel
@[go_sem] theorem t36_28_z : zeroP Tryd.prog 28 = some [.nilf] := _root_.id rfl
@[go_sem] theorem t36_28_o : zeroOK Tryd.prog 28 = true := by decide +kernel
@[go_sem] theorem t36_28_i : zeroI Tryd.prog 28 = some (.nilf) := _root_.id rfl
@[go_sem] theorem t36_28_y : (((Tryd.prog.info? 28).map (·.bytes)).getD 0 ≤ 256) = True := eq_true (by decide +kernel)
@[go_sem] theorem t36_28_b : (bytesP Tryd.prog 28 ≤ 1024) = True := eq_true (by decide +kernel)
@[go_sem] theorem t36_29_h : hasP Tryd.prog 29 = true := by decide +kernel
@[go_sem] theorem t36_29_s : sizeP Tryd.prog 29 = 1 := by decide +kernel
@[go_sem] theorem t36_29_a : aggP Tryd.prog 29 = false := by decide +kernel
@[go_sem] theorem t36_29_z : zeroP Tryd.prog 29 = some [.nils] := _root_.id rfl
@[go_sem] theorem t36_29_o : zeroOK Tryd.prog 29 = true := by decide +kernel
@[go_sem] theorem t36_29_i : zeroI Tryd.prog 29 = some (.nils) := _root_.id rfl
@[go_sem] theorem t36_29_y : (((Tryd.prog.info? 29).map (·.bytes)).getD 0 ≤ 256) = True := eq_true (by decide +kernel)
@[go_sem] theorem t36_29_b : (bytesP Tryd.prog 29 ≤ 1024) = True := eq_true (by decide +kernel)
@[go_sem] theorem t36_31_h : hasP Tryd.prog 31 = true := by decide +kernel
@[go_sem] theorem t36_31_s : sizeP Tryd.prog 31 = 1 := by decide +kernel
@[go_sem] theorem t36_31_a : aggP Tryd.prog 31 = false := by decide +kernel
@[go_sem] theorem t36_31_z : zeroP Tryd.prog 31 = some [.nilf] := _root_.id rfl
@[go_sem] theorem t36_31_o : zeroOK Tryd.prog 31 = true := by decide +kernel
@[go_sem] theorem t36_31_i : zeroI Tryd.prog 31 = some (.nilf) := _root_.id rfl
@[go_sem] theorem t36_31_y : (((Tryd.prog.info? 31).map (·.bytes)).getD 0 ≤ 256) = True := eq_true (by decide +kernel)
@[go_sem] theorem t36_31_b : (bytesP Tryd.prog 31 ≤ 1024) = True := eq_true (by decide +kernel)
@[go_sem] theorem t36_32_h : hasP Tryd.prog 32 = true := by decide +kernel
@[go_sem] theorem t36_32_s : sizeP Tryd.prog 32 = 1 := by decide +kernel
@[go_sem] theorem t36_32_a : aggP Tryd.prog 32 = false := by decide +kernel
@[go_sem] theorem t36_32_z : zeroP Tryd.prog 32 = some [.nilf] := _root_.id rfl
@[go_sem] theorem t36_32_o : zeroOK Tryd.prog 32 = true := by decide +kernel
@[go_sem] theorem t36_32_i : zeroI Tryd.prog 32 = some (.nilf) := _root_.id rfl
@[go_sem] theorem t36_32_y : (((Tryd.prog.info? 32).map (·.bytes)).getD 0 ≤ 256) = True := eq_true (by decide +kernel)
@[go_sem] theorem t36_32_b : (bytesP Tryd.prog 32 ≤ 1024) = True := eq_true (by decide +kernel)
@[go_sem] theorem t36_33_h : hasP Tryd.prog 33 = true := by decide +kernel
@[go_sem] theorem t36_33_s : sizeP Tryd.prog 33 = 1 := by decide +kernel
@[go_sem] theorem t36_33_a : aggP Tryd.prog 33 = false := by decide +kernel
@[go_sem] theorem t36_33_z : zeroP Tryd.prog 33 = some [.nilf] := _root_.id rfl
@[go_sem] theorem t36_33_o : zeroOK Tryd.prog 33 = true := by decide +kernel
@[go_sem] theorem t36_33_i : zeroI Tryd.prog 33 = some (.nilf) := _root_.id rfl
@[go_sem] theorem t36_33_y : (((Tryd.prog.info? 33).map (·.bytes)).getD 0 ≤ 256) = True := eq_true (by decide +kernel)
@[go_sem] theorem t36_33_b : (bytesP Tryd.prog 33 ≤ 1024) = True := eq_true (by decide +kernel)
@[go_sem] theorem t36_34_h : hasP Tryd.prog 34 = true := by decide +kernel
@[go_sem] theorem t36_34_s : sizeP Tryd.prog 34 = 1 := by decide +kernel
@[go_sem] theorem t36_34_a : aggP Tryd.prog 34 = false := by decide +kernel
@[go_sem] theorem t36_34_z : zeroP Tryd.prog 34 = some [.nilf] := _root_.id rfl
@[go_sem] theorem t36_34_o : zeroOK Tryd.prog 34 = true := by decide +kernel
@[go_sem] theorem t36_34_i : zeroI Tryd.prog 34 = some (.nilf) := _root_.id rfl
@[go_sem] theorem t36_34_y : (((Tryd.prog.info? 34).map (·.bytes)).getD 0 ≤ 256) = True := eq_true (by decide +kernel)
@[go_sem] theorem t36_34_b : (bytesP Tryd.prog 34 ≤ 1024) = True := eq_true (by decide +kernel)
@[go_sem] theorem t36_35_h : hasP Tryd.prog 35 = true := by decide +kernel
@[go_sem] theorem t36_35_s : sizeP Tryd.prog 35 = 1 := by decide +kernel
@[go_sem] theorem t36_35_a : aggP Tryd.prog 35 = false := by decide +kernel
@[go_sem] theorem t36_35_z : zeroP Tryd.prog 35 = some [.nilf] := _root_.id rfl
@[go_sem] theorem t36_35_o : zeroOK Tryd.prog 35 = true := by decide +kernel
@[go_sem] theorem t36_35_i : zeroI Tryd.prog 35 = some (.nilf) := _root_.id rfl
@[go_sem] theorem t36_35_y : (((Tryd.prog.info? 35).map (·.bytes)).getD 0 ≤ 256) = True := eq_true (by decide +kernel)
@[go_sem] theorem t36_35_b : (bytesP Tryd.prog 35 ≤ 1024) = True := eq_true (by decide +kernel)
@[go_sem] theorem t36_36_h : hasP Tryd.prog 36 = true := by decide +kernel
@[go_sem] theorem t36_36_s : sizeP Tryd.prog 36 = 1 := by decide +kernel
@[go_sem] theorem t36_36_a : aggP Tryd.prog 36 = false := by decide +kernel
@[go_sem] theorem t36_36_z : zeroP Tryd.prog 36 = some [.nilf] := _root_.id rfl
@[go_sem] theorem t36_36_o : zeroOK Tryd.prog 36 = true := by decide +kernel
@[go_sem] theorem t36_36_i : zeroI Tryd.prog 36 = some (.nilf) := _root_.id rfl
@[go_sem] theorem t36_36_y : (((Tryd.prog.info? 36).map (·.bytes)).getD 0 ≤ 256) = True := eq_true (by decide +kernel)
@[go_sem] theorem t36_36_b : (bytesP Tryd.prog 36 ≤ 1024) = True := eq_true (by decide +kernel)
@[go_sem] theorem t36_37_h : hasP Tryd.prog 37 = true := by decide +kernel
@[go_sem] theorem t36_37_s : sizeP Tryd.prog 37 = 1 := by decide +kernel
@[go_sem] theorem t36_37_a : aggP Tryd.prog 37 = false := by decide +kernel
@[go_sem] theorem t36_37_z : zeroP Tryd.prog 37 = some [.nils] := _root_.id rfl
@[go_sem] theorem t36_37_o : zeroOK Tryd.prog 37 = true := by decide +kernel
@[go_sem] theorem t36_37_i : zeroI Tryd.prog 37 = some (.nils) := _root_.id rfl
@[go_sem] theorem t36_37_y : (((Tryd.prog.info? 37).map (·.bytes)).getD 0 ≤ 256) = True := eq_true (by decide +kernel)
@[go_sem] theorem t36_37_b : (bytesP Tryd.prog 37 ≤ 1024) = True := eq_true (by decide +kernel)
@[go_sem] theorem t36_38_h : hasP Tryd.prog 38 = true := by decide +kernel
@[go_sem] theorem t36_38_s : sizeP Tryd.prog 38 = 1 := by decide +kernel
@[go_sem] theorem t36_38_a : aggP Tryd.prog 38 = false := by decide +kernel
@[go_sem] theorem t36_38_z : zeroP Tryd.prog 38 = some [.int .u64 0] := _root_.id rfl
@[go_sem] theorem t36_38_o : zeroOK Tryd.prog 38 = true := by decide +kernel
@[go_sem] theorem t36_38_i : zeroI Tryd.prog 38 = some (.int .u64 0) := _root_.id rfl
@[go_sem] theorem t36_38_y : (((Tryd.prog.info? 38).map (·.bytes)).getD 0 ≤ 256) = True := eq_true (by decide +kernel)
@[go_sem] theorem t36_38_b : (bytesP Tryd.prog 38 ≤ 1024) = True := eq_true (by decide +kernel)
@[go_sem] theorem t36_38_k : keyK Tryd.prog 38 = some [.int .u64] := key_of (by decide +kernel)
@[go_sem] theorem t36_40_h : hasP Tryd.prog 40 = true := by decide +kernel
@[go_sem] theorem t36_40_s : sizeP Tryd.prog 40 = 1 := by decide +kernel
@[go_sem] theorem t36_40_a : aggP Tryd.prog 40 = false := by decide +kernel
@[go_sem] theorem t36_40_z : zeroP Tryd.prog 40 = some [.nilf] := _root_.id rfl
@[go_sem] theorem t36_40_o : zeroOK Tryd.prog 40 = true := by decide +kernel
@[go_sem] theorem t36_40_i : zeroI Tryd.prog 40 = some (.nilf) := _root_.id rfl
@[go_sem] theorem t36_40_y : (((Tryd.prog.info? 40).map (·.bytes)).getD 0 ≤ 256) = True := eq_true (by decide +kernel)
@[go_sem] theorem t36_40_b : (bytesP Tryd.prog 40 ≤ 1024) = True := eq_true (by decide +kernel)
@[go_sem] theorem t36_41_h : hasP Tryd.prog 41 = true := by decide +kernel
@[go_sem] theorem t36_41_s : sizeP Tryd.prog 41 = 1 := by decide +kernel
@[go_sem] theorem t36_41_a : aggP Tryd.prog 41 = false := by decide +kernel
@[go_sem] theorem t36_41_z : zeroP Tryd.prog 41 = some [.nilf] := _root_.id rfl
@[go_sem] theorem t36_41_o : zeroOK Tryd.prog 41 = true := by decide +kernel
@[go_sem] theorem t36_41_i : zeroI Tryd.prog 41 = some (.nilf) := _root_.id rfl
@[go_sem] theorem t36_41_y : (((Tryd.prog.info? 41).map (·.bytes)).getD 0 ≤ 256) = True := eq_true (by decide +kernel)
@[go_sem] theorem t36_41_b : (bytesP Tryd.prog 41 ≤ 1024) = True := eq_true (by decide +kernel)
@[go_sem] theorem t36_42_h : hasP Tryd.prog 42 = true := by decide +kernel
@[go_sem] theorem t36_42_s : sizeP Tryd.prog 42 = 2 := by decide +kernel
@[go_sem] theorem t36_42_a : aggP Tryd.prog 42 = true := by decide +kernel
@[go_sem] theorem t36_42_z : zeroP Tryd.prog 42 = some [.int .i64 0, .int .i64 0] := _root_.id rfl
@[go_sem] theorem t36_42_o : zeroOK Tryd.prog 42 = true := by decide +kernel
@[go_sem] theorem t36_42_i : zeroI Tryd.prog 42 = some (.agg [.int .i64 0, .int .i64 0]) := _root_.id rfl
@[go_sem] theorem t36_42_y : (((Tryd.prog.info? 42).map (·.bytes)).getD 0 ≤ 256) = True := eq_true (by decide +kernel)
@[go_sem] theorem t36_42_b : (bytesP Tryd.prog 42 ≤ 1024) = True := eq_true (by decide +kernel)
@[go_sem] theorem t36_42_f : flatP Tryd.prog 42 = some [.int .i64, .int .i64] := flat_of (by decide +kernel)
@[go_sem] theorem t36_42_k : keyK Tryd.prog 42 = some [.int .i64, .int .i64] := key_of (by decide +kernel)
@[go_sem] theorem t36_43_h : hasP Tryd.prog 43 = true := by decide +kernel
@[go_sem] theorem t36_43_s : sizeP Tryd.prog 43 = 2 := by decide +kernel
@[go_sem] theorem t36_43_a : aggP Tryd.prog 43 = true := by decide +kernel
@[go_sem] theorem t36_43_z : zeroP Tryd.prog 43 = some [.int .i64 0, .int .i64 0] := _root_.id rfl
@[go_sem] theorem t36_43_o : zeroOK Tryd.prog 43 = true := by decide +kernel
@[go_sem] theorem t36_43_i : zeroI Tryd.prog 43 = some (.agg [.int .i64 0, .int .i64 0]) := _root_.id rfl
@[go_sem] theorem t36_43_y : (((Tryd.prog.info? 43).map (·.bytes)).getD 0 ≤ 256) = True := eq_true (by decide +kernel)
@[go_sem] theorem t36_43_b : (bytesP Tryd.prog 43 ≤ 1024) = True := eq_true (by decide +kernel)
@[go_sem] theorem t36_43_f : flatP Tryd.prog 43 = some [.int .i64, .int .i64] := flat_of (by decide +kernel)
@[go_sem] theorem t36_43_k : keyK Tryd.prog 43 = some [.int .i64, .int .i64] := key_of (by decide +kernel)
@[go_sem] theorem t36_45_h : hasP Tryd.prog 45 = true := by decide +kernel
@[go_sem] theorem t36_45_s : sizeP Tryd.prog 45 = 1 := by decide +kernel
@[go_sem] theorem t36_45_a : aggP Tryd.prog 45 = false := by decide +kernel
@[go_sem] theorem t36_45_z : zeroP Tryd.prog 45 = some [.nilf] := _root_.id rfl
@[go_sem] theorem t36_45_o : zeroOK Tryd.prog 45 = true := by decide +kernel
@[go_sem] theorem t36_45_i : zeroI Tryd.prog 45 = some (.nilf) := _root_.id rfl
@[go_sem] theorem t36_45_y : (((Tryd.prog.info? 45).map (·.bytes)).getD 0 ≤ 256) = True := eq_true (by decide +kernel)
@[go_sem] theorem t36_45_b : (bytesP Tryd.prog 45 ≤ 1024) = True := eq_true (by decide +kernel)
@[go_sem] theorem t36_46_h : hasP Tryd.prog 46 = true := by decide +kernel
@[go_sem] theorem t36_46_s : sizeP Tryd.prog 46 = 1 := by decide +kernel
@[go_sem] theorem t36_46_a : aggP Tryd.prog 46 = false := by decide +kernel
@[go_sem] theorem t36_46_z : zeroP Tryd.prog 46 = some [.nilf] := _root_.id rfl
@[go_sem] theorem t36_46_o : zeroOK Tryd.prog 46 = true := by decide +kernel
@[go_sem] theorem t36_46_i : zeroI Tryd.prog 46 = some (.nilf) := _root_.id rfl
@[go_sem] theorem t36_46_y : (((Tryd.prog.info? 46).map (·.bytes)).getD 0 ≤ 256) = True := eq_true (by decide +kernel)
@[go_sem] theorem t36_46_b : (bytesP Tryd.prog 46 ≤ 1024) = True := eq_true (by decide +kernel)
@[go_sem] theorem t36_47_h : hasP Tryd.prog 47 = true := by decide +kernel
@[go_sem] theorem t36_47_s : sizeP Tryd.prog 47 = 1 := by decide +kernel
@[go_sem] theorem t36_47_a : aggP Tryd.prog 47 = false := by decide +kernel
@[go_sem] theorem t36_47_z : zeroP Tryd.prog 47 = some [.nils] := _root_.id rfl
@[go_sem] theorem t36_47_o : zeroOK Tryd.prog 47 = true := by decide +kernel
@[go_sem] theorem t36_47_i : zeroI Tryd.prog 47 = some (.nils) := _root_.id rfl
@[go_sem] theorem t36_47_y : (((Tryd.prog.info? 47).map (·.bytes)).getD 0 ≤ 256) = True := eq_true (by decide +kernel)
@[go_sem] theorem t36_47_b : (bytesP Tryd.prog 47 ≤ 1024) = True := eq_true (by decide +kernel)
@[go_sem] theorem t36_49_h : hasP Tryd.prog 49 = true := by decide +kernel
@[go_sem] theorem t36_49_s : sizeP Tryd.prog 49 = 1 := by decide +kernel
@[go_sem] theorem t36_49_a : aggP Tryd.prog 49 = false := by decide +kernel
@[go_sem] theorem t36_49_z : zeroP Tryd.prog 49 = some [.nilf] := _root_.id rfl
@[go_sem] theorem t36_49_o : zeroOK Tryd.prog 49 = true := by decide +kernel
@[go_sem] theorem t36_49_i : zeroI Tryd.prog 49 = some (.nilf) := _root_.id rfl
@[go_sem] theorem t36_49_y : (((Tryd.prog.info? 49).map (·.bytes)).getD 0 ≤ 256) = True := eq_true (by decide +kernel)
@[go_sem] theorem t36_49_b : (bytesP Tryd.prog 49 ≤ 1024) = True := eq_true (by decide +kernel)
@[go_sem] theorem t36_50_h : hasP Tryd.prog 50 = true := by decide +kernel
@[go_sem] theorem t36_50_s : sizeP Tryd.prog 50 = 1 := by decide +kernel
@[go_sem] theorem t36_50_a : aggP Tryd.prog 50 = false := by decide +kernel
@[go_sem] theorem t36_50_z : zeroP Tryd.prog 50 = some [.nilf] := _root_.id rfl
@[go_sem] theorem t36_50_o : zeroOK Tryd.prog 50 = true := by decide +kernel
@[go_sem] theorem t36_50_i : zeroI Tryd.prog 50 = some (.nilf) := _root_.id rfl
@[go_sem] theorem t36_50_y : (((Tryd.prog.info? 50).map (·.bytes)).getD 0 ≤ 256) = True := eq_true (by decide +kernel)
@[go_sem] theorem t36_50_b : (bytesP Tryd.prog 50 ≤ 1024) = True := eq_true (by decide +kernel)
@[go_sem] theorem t36_51_h : hasP Tryd.prog 51 = true := by decide +kernel
@[go_sem] theorem t36_51_s : sizeP Tryd.prog 51 = 1 := by decide +kernel
@[go_sem] theorem t36_51_a : aggP Tryd.prog 51 = false := by decide +kernel
@[go_sem] theorem t36_51_z : zeroP Tryd.prog 51 = some [.nils] := _root_.id rfl
@[go_sem] theorem t36_51_o : zeroOK Tryd.prog 51 = true := by decide +kernel
@[go_sem] theorem t36_51_i : zeroI Tryd.prog 51 = some (.nils) := _root_.id rfl
@[go_sem] theorem t36_51_y : (((Tryd.prog.info? 51).map (·.bytes)).getD 0 ≤ 256) = True := eq_true (by decide +kernel)
@[go_sem] theorem t36_51_b : (bytesP Tryd.prog 51 ≤ 1024) = True := eq_true (by decide +kernel)
@[go_sem] theorem t36_52_h : hasP Tryd.prog 52 = true := by decide +kernel
@[go_sem] theorem t36_52_s : sizeP Tryd.prog 52 = 1 := by decide +kernel
@[go_sem] theorem t36_52_a : aggP Tryd.prog 52 = false := by decide +kernel
@[go_sem] theorem t36_52_z : zeroP Tryd.prog 52 = some [.nilf] := _root_.id rfl
@[go_sem] theorem t36_52_o : zeroOK Tryd.prog 52 = true := by decide +kernel
@[go_sem] theorem t36_52_i : zeroI Tryd.prog 52 = some (.nilf) := _root_.id rfl
@[go_sem] theorem t36_52_y : (((Tryd.prog.info? 52).map (·.bytes)).getD 0 ≤ 256) = True := eq_true (by decide +kernel)
@[go_sem] theorem t36_52_b : (bytesP Tryd.prog 52 ≤ 1024) = True := eq_true (by decide +kernel)
@[go_sem] theorem t36_53_h : hasP Tryd.prog 53 = true := by decide +kernel
@[go_sem] theorem t36_53_s : sizeP Tryd.prog 53 = 1 := by decide +kernel
@[go_sem] theorem t36_53_a : aggP Tryd.prog 53 = false := by decide +kernel
@[go_sem] theorem t36_53_z : zeroP Tryd.prog 53 = some [.nilf] := _root_.id rfl
@[go_sem] theorem t36_53_o : zeroOK Tryd.prog 53 = true := by decide +kernel
@[go_sem] theorem t36_53_i : zeroI Tryd.prog 53 = some (.nilf) := _root_.id rfl
@[go_sem] theorem t36_53_y : (((Tryd.prog.info? 53).map (·.bytes)).getD 0 ≤ 256) = True := eq_true (by decide +kernel)
@[go_sem] theorem t36_53_b : (bytesP Tryd.prog 53 ≤ 1024) = True := eq_true (by decide +kernel)
@[go_sem] theorem t36_54_h : hasP Tryd.prog 54 = true := by decide +kernel
@[go_sem] theorem t36_54_s : sizeP Tryd.prog 54 = 1 := by decide +kernel
@[go_sem] theorem t36_54_a : aggP Tryd.prog 54 = false := by decide +kernel
@[go_sem] theorem t36_54_z : zeroP Tryd.prog 54 = some [.nilf] := _root_.id rfl
@[go_sem] theorem t36_54_o : zeroOK Tryd.prog 54 = true := by decide +kernel
@[go_sem] theorem t36_54_i : zeroI Tryd.prog 54 = some (.nilf) := _root_.id rfl
@[go_sem] theorem t36_54_y : (((Tryd.prog.info? 54).map (·.bytes)).getD 0 ≤ 256) = True := eq_true (by decide +kernel)
@[go_sem] theorem t36_54_b : (bytesP Tryd.prog 54 ≤ 1024) = True := eq_true (by decide +kernel)
@[go_sem] theorem t36_55_h : hasP Tryd.prog 55 = true := by decide +kernel
@[go_sem] theorem t36_55_s : sizeP Tryd.prog 55 = 1 := by decide +kernel
@[go_sem] theorem t36_55_a : aggP Tryd.prog 55 = false := by decide +kernel
@[go_sem] theorem t36_55_z : zeroP Tryd.prog 55 = some [.nilf] := _root_.id rfl
@[go_sem] theorem t36_55_o : zeroOK Tryd.prog 55 = true := by decide +kernel
@[go_sem] theorem t36_55_i : zeroI Tryd.prog 55 = some (.nilf) := _root_.id rfl
@[go_sem] theorem t36_55_y : (((Tryd.prog.info? 55).map (·.bytes)).getD 0 ≤ 256) = True := eq_true (by decide +kernel)
@[go_sem] theorem t36_55_b : (bytesP Tryd.prog 55 ≤ 1024) = True := eq_true (by decide +kernel)
@[go_sem] theorem t36_56_h : hasP Tryd.prog 56 = true := by decide +kernel
@[go_sem] theorem t36_56_s : sizeP Tryd.prog 56 = 1 := by decide +kernel
@[go_sem] theorem t36_56_a : aggP Tryd.prog 56 = false := by decide +kernel
@[go_sem] theorem t36_56_z : zeroP Tryd.prog 56 = some [.nilf] := _root_.id rfl
@[go_sem] theorem t36_56_o : zeroOK Tryd.prog 56 = true := by decide +kernel
@[go_sem] theorem t36_56_i : zeroI Tryd.prog 56 = some (.nilf) := _root_.id rfl
@[go_sem] theorem t36_56_y : (((Tryd.prog.info? 56).map (·.bytes)).getD 0 ≤ 256) = True := eq_true (by decide +kernel)
@[go_sem] theorem t36_56_b : (bytesP Tryd.prog 56 ≤ 1024) = True := eq_true (by decide +kernel)
@[go_sem] theorem t36_57_h : hasP Tryd.prog 57 = true := by decide +kernel
@[go_sem] theorem t36_57_s : sizeP Tryd.prog 57 = 1 := by decide +kernel
@[go_sem] theorem t36_57_a : aggP Tryd.prog 57 = false := by decide +kernel
@[go_sem] theorem t36_57_z : zeroP Tryd.prog 57 = some [.nilf] := _root_.id rfl
@[go_sem] theorem t36_57_o : zeroOK Tryd.prog 57 = true := by decide +kernel
@[go_sem] theorem t36_57_i : zeroI Tryd.prog 57 = some (.nilf) := _root_.id rfl
@[go_sem] theorem t36_57_y : (((Tryd.prog.info? 57).map (·.bytes)).getD 0 ≤ 256) = True := eq_true (by decide +kernel)
@[go_sem] theorem t36_57_b : (bytesP Tryd.prog 57 ≤ 1024) = True := eq_true (by decide +kernel)
@[go_sem] theorem t36_58_h : hasP Tryd.prog 58 = true := by decide +kernel
@[go_sem] theorem t36_58_s : sizeP Tryd.prog 58 = 1 := by decide +kernel
@[go_sem] theorem t36_58_a : aggP Tryd.prog 58 = false := by decide +kernel
@[go_sem] theorem t36_58_z : zeroP Tryd.prog 58 = some [.nilf] := _root_.id rfl
@[go_sem] theorem t36_58_o : zeroOK Tryd.prog 58 = true := by decide +kernel
@[go_sem] theorem t36_58_i : zeroI Tryd.prog 58 = some (.nilf) := _root_.id rfl
@[go_sem] theorem t36_58_y : (((Tryd.prog.info? 58).map (·.bytes)).getD 0 ≤ 256) = True := eq_true (by decide +kernel)
@[go_sem] theorem t36_58_b : (bytesP Tryd.prog 58 ≤ 1024) = True := eq_true (by decide +kernel)
@[go_sem] theorem t36_59_h : hasP Tryd.prog 59 = true := by decide +kernel
@[go_sem] theorem t36_59_s : sizeP Tryd.prog 59 = 1 := by decide +kernel
@[go_sem] theorem t36_59_a : aggP Tryd.prog 59 = false := by decide +kernel
@[go_sem] theorem t36_59_z : zeroP Tryd.prog 59 = some [.nilp] := _root_.id rfl
@[go_sem] theorem t36_59_o : zeroOK Tryd.prog 59 = true := by decide +kernel
@[go_sem] theorem t36_59_i : zeroI Tryd.prog 59 = some (.nilp) := _root_.id rfl
@[go_sem] theorem t36_59_y : (((Tryd.prog.info? 59).map (·.bytes)).getD 0 ≤ 256) = True := eq_true (by decide +kernel)
@[go_sem] theorem t36_59_b : (bytesP Tryd.prog 59 ≤ 1024) = True := eq_true (by decide +kernel)
@[go_sem] theorem t36_61_h : hasP Tryd.prog 61 = true := by decide +kernel
@[go_sem] theorem t36_61_s : sizeP Tryd.prog 61 = 1 := by decide +kernel
@[go_sem] theorem t36_61_a : aggP Tryd.prog 61 = false := by decide +kernel
@[go_sem] theorem t36_61_z : zeroP Tryd.prog 61 = some [.nilf] := _root_.id rfl
@[go_sem] theorem t36_61_o : zeroOK Tryd.prog 61 = true := by decide +kernel
@[go_sem] theorem t36_61_i : zeroI Tryd.prog 61 = some (.nilf) := _root_.id rfl
@[go_sem] theorem t36_61_y : (((Tryd.prog.info? 61).map (·.bytes)).getD 0 ≤ 256) = True := eq_true (by decide +kernel)
@[go_sem] theorem t36_61_b : (bytesP Tryd.prog 61 ≤ 1024) = True := eq_true (by decide +kernel)
@[go_sem] theorem t36_62_h : hasP Tryd.prog 62 = true := by decide +kernel
@[go_sem] theorem t36_62_s : sizeP Tryd.prog 62 = 1 := by decide +kernel
@[go_sem] theorem t36_62_a : aggP Tryd.prog 62 = false := by decide +kernel
@[go_sem] theorem t36_62_z : zeroP Tryd.prog 62 = some [.nilf] := _root_.id rfl
@[go_sem] theorem t36_62_o : zeroOK Tryd.prog 62 = true := by decide +kernel
@[go_sem] theorem t36_62_i : zeroI Tryd.prog 62 = some (.nilf) := _root_.id rfl
@[go_sem] theorem t36_62_y : (((Tryd.prog.info? 62).map (·.bytes)).getD 0 ≤ 256) = True := eq_true (by decide +kernel)
@[go_sem] theorem t36_62_b : (bytesP Tryd.prog 62 ≤ 1024) = True := eq_true (by decide +kernel)
@[go_sem] theorem t36_63_h : hasP Tryd.prog 63 = true := by decide +kernel
@[go_sem] theorem t36_63_s : sizeP Tryd.prog 63 = 1 := by decide +kernel
@[go_sem] theorem t36_63_a : aggP Tryd.prog 63 = false := by decide +kernel
@[go_sem] theorem t36_63_z : zeroP Tryd.prog 63 = some [.nilf] := _root_.id rfl
@[go_sem] theorem t36_63_o : zeroOK Tryd.prog 63 = true := by decide +kernel
@[go_sem] theorem t36_63_i : zeroI Tryd.prog 63 = some (.nilf) := _root_.id rfl
@[go_sem] theorem t36_63_y : (((Tryd.prog.info? 63).map (·.bytes)).getD 0 ≤ 256) = True := eq_true (by decide +kernel)
@[go_sem] theorem t36_63_b : (bytesP Tryd.prog 63 ≤ 1024) = True := eq_true (by decide +kernel)
@[go_sem] theorem t36_65_h : hasP Tryd.prog 65 = true := by decide +kernel
@[go_sem] theorem t36_65_s : sizeP Tryd.prog 65 = 1 := by decide +kernel
@[go_sem] theorem t36_65_a : aggP Tryd.prog 65 = false := by decide +kernel
@[go_sem] theorem t36_65_z : zeroP Tryd.prog 65 = some [.nilf] := _root_.id rfl
@[go_sem] theorem t36_65_o : zeroOK Tryd.prog 65 = true := by decide +kernel
@[go_sem] theorem t36_65_i : zeroI Tryd.prog 65 = some (.nilf) := _root_.id rfl
@[go_sem] theorem t36_65_y : (((Tryd.prog.info? 65).map (·.bytes)).getD 0 ≤ 256) = True := eq_true (by decide +kernel)
@[go_sem] theorem t36_65_b : (bytesP Tryd.prog 65 ≤ 1024) = True := eq_true (by decide +kernel)
@[go_sem] theorem t36_66_h : hasP Tryd.prog 66 = true := by decide +kernel
@[go_sem] theorem t36_66_s : sizeP Tryd.prog 66 = 1 := by decide +kernel
@[go_sem] theorem t36_66_a : aggP Tryd.prog 66 = false := by decide +kernel
@[go_sem] theorem t36_66_z : zeroP Tryd.prog 66 = some [.int .u32 0] := _root_.id rfl
@[go_sem] theorem t36_66_o : zeroOK Tryd.prog 66 = true := by decide +kernel
@[go_sem] theorem t36_66_i : zeroI Tryd.prog 66 = some (.int .u32 0) := _root_.id rfl
@[go_sem] theorem t36_66_y : (((Tryd.prog.info? 66).map (·.bytes)).getD 0 ≤ 256) = True := eq_true (by decide +kernel)
@[go_sem] theorem t36_66_b : (bytesP Tryd.prog 66 ≤ 1024) = True := eq_true (by decide +kernel)
@[go_sem] theorem t36_66_k : keyK Tryd.prog 66 = some [.int .u32] := key_of (by decide +kernel)
@[go_sem] theorem t36_67_h : hasP Tryd.prog 67 = true := by decide +kernel
@[go_sem] theorem t36_67_s : sizeP Tryd.prog 67 = 1 := by decide +kernel
@[go_sem] theorem t36_67_a : aggP Tryd.prog 67 = false := by decide +kernel
@[go_sem] theorem t36_67_z : zeroP Tryd.prog 67 = some [.nilf] := _root_.id rfl
@[go_sem] theorem t36_67_o : zeroOK Tryd.prog 67 = true := by decide +kernel
@[go_sem] theorem t36_67_i : zeroI Tryd.prog 67 = some (.nilf) := _root_.id rfl
@[go_sem] theorem t36_67_y : (((Tryd.prog.info? 67).map (·.bytes)).getD 0 ≤ 256) = True := eq_true (by decide +kernel)
@[go_sem] theorem t36_67_b : (bytesP Tryd.prog 67 ≤ 1024) = True := eq_true (by decide +kernel)
@[go_sem] theorem t36_68_h : hasP Tryd.prog 68 = true := by decide +kernel
@[go_sem] theorem t36_68_s : sizeP Tryd.prog 68 = 1 := by decide +kernel
@[go_sem] theorem t36_68_a : aggP Tryd.prog 68 = false := by decide +kernel
@[go_sem] theorem t36_68_z : zeroP Tryd.prog 68 = some [.nilf] := _root_.id rfl
@[go_sem] theorem t36_68_o : zeroOK Tryd.prog 68 = true := by decide +kernel
@[go_sem] theorem t36_68_i : zeroI Tryd.prog 68 = some (.nilf) := _root_.id rfl
@[go_sem] theorem t36_68_y : (((Tryd.prog.info? 68).map (·.bytes)).getD 0 ≤ 256) = True := eq_true (by decide +kernel)
@[go_sem] theorem t36_68_b : (bytesP Tryd.prog 68 ≤ 1024) = True := eq_true (by decide +kernel)
@[go_sem] theorem t36_69_h : hasP Tryd.prog 69 = true := by decide +kernel
@[go_sem] theorem t36_69_s : sizeP Tryd.prog 69 = 1 := by decide +kernel
@[go_sem] theorem t36_69_a : aggP Tryd.prog 69 = false := by decide +kernel
@[go_sem] theorem t36_69_z : zeroP Tryd.prog 69 = some [.nilf] := _root_.id rfl
@[go_sem] theorem t36_69_o : zeroOK Tryd.prog 69 = true := by decide +kernel
@[go_sem] theorem t36_69_i : zeroI Tryd.prog 69 = some (.nilf) := _root_.id rfl
@[go_sem] theorem t36_69_y : (((Tryd.prog.info? 69).map (·.bytes)).getD 0 ≤ 256) = True := eq_true (by decide +kernel)
@[go_sem] theorem t36_69_b : (bytesP Tryd.prog 69 ≤ 1024) = True := eq_true (by decide +kernel)
@[go_sem] theorem t36_71_h : hasP Tryd.prog 71 = true := by decide +kernel
@[go_sem] theorem t36_71_s : sizeP Tryd.prog 71 = 1 := by decide +kernel
@[go_sem] theorem t36_71_a : aggP Tryd.prog 71 = false := by decide +kernel
@[go_sem] theorem t36_71_z : zeroP Tryd.prog 71 = some [.nilf] := _root_.id rfl
@[go_sem] theorem t36_71_o : zeroOK Tryd.prog 71 = true := by decide +kernel
@[go_sem] theorem t36_71_i : zeroI Tryd.prog 71 = some (.nilf) := _root_.id rfl
@[go_sem] theorem t36_71_y : (((Tryd.prog.info? 71).map (·.bytes)).getD 0 ≤ 256) = True := eq_true (by decide +kernel)
@[go_sem] theorem t36_71_b : (bytesP Tryd.prog 71 ≤ 1024) = True := eq_true (by decide +kernel)
@[go_sem] theorem t36_72_h : hasP Tryd.prog 72 = true := by decide +kernel
@[go_sem] theorem t36_72_s : sizeP Tryd.prog 72 = 2 := by decide +kernel
@[go_sem] theorem t36_72_a : aggP Tryd.prog 72 = true := by decide +kernel
@[go_sem] theorem t36_72_z : zeroP Tryd.prog 72 = some [.int .i64 0, .int .i64 0] := _root_.id rfl
@[go_sem] theorem t36_72_o : zeroOK Tryd.prog 72 = true := by decide +kernel
@[go_sem] theorem t36_72_i : zeroI Tryd.prog 72 = some (.agg [.int .i64 0, .int .i64 0]) := _root_.id rfl
@[go_sem] theorem t36_72_y : (((Tryd.prog.info? 72).map (·.bytes)).getD 0 ≤ 256) = True := eq_true (by decide +kernel)
@[go_sem] theorem t36_72_b : (bytesP Tryd.prog 72 ≤ 1024) = True := eq_true (by decide +kernel)
@[go_sem] theorem t36_72_f : flatP Tryd.prog 72 = some [.int .i64, .int .i64] := flat_of (by decide +kernel)
@[go_sem] theorem t36_72_k : keyK Tryd.prog 72 = some [.int .i64, .int .i64] := key_of (by decide +kernel)
@[go_sem] theorem t36_73_h : hasP Tryd.prog 73 = true := by decide +kernel
@[go_sem] theorem t36_73_s : sizeP Tryd.prog 73 = 1 := by decide +kernel
@[go_sem] theorem t36_73_a : aggP Tryd.prog 73 = false := by decide +kernel
@[go_sem] theorem t36_73_z : zeroP Tryd.prog 73 = some [.nilf] := _root_.id rfl
@[go_sem] theorem t36_73_o : zeroOK Tryd.prog 73 = true := by decide +kernel
@[go_sem] theorem t36_73_i : zeroI Tryd.prog 73 = some (.nilf) := _root_.id rfl
@[go_sem] theorem t36_73_y : (((Tryd.prog.info? 73).map (·.bytes)).getD 0 ≤ 256) = True := eq_true (by decide +kernel)
@[go_sem] theorem t36_73_b : (bytesP Tryd.prog 73 ≤ 1024) = True := eq_true (by decide +kernel)
@[go_sem] theorem t36_74_h : hasP Tryd.prog 74 = true := by decide +kernel
@[go_sem] theorem t36_74_s : sizeP Tryd.prog 74 = 1 := by decide +kernel
@[go_sem] theorem t36_74_a : aggP Tryd.prog 74 = false := by decide +kernel
@[go_sem] theorem t36_74_z : zeroP Tryd.prog 74 = some [.nilf] := _root_.id rfl
@[go_sem] theorem t36_74_o : zeroOK Tryd.prog 74 = true := by decide +kernel
@[go_sem] theorem t36_74_i : zeroI Tryd.prog 74 = some (.nilf) := _root_.id rfl
@[go_sem] theorem t36_74_y : (((Tryd.prog.info? 74).map (·.bytes)).getD 0 ≤ 256) = True := eq_true (by decide +kernel)
@[go_sem] theorem t36_74_b : (bytesP Tryd.prog 74 ≤ 1024) = True := eq_true (by decide +kernel)
@[go_sem] theorem t36_76_h : hasP Tryd.prog 76 = true := by decide +kernel
@[go_sem] theorem t36_76_s : sizeP Tryd.prog 76 = 1 := by decide +kernel
@[go_sem] theorem t36_76_a : aggP Tryd.prog 76 = false := by decide +kernel
@[go_sem] theorem t36_76_z : zeroP Tryd.prog 76 = some [.nilf] := _root_.id rfl
@[go_sem] theorem t36_76_o : zeroOK Tryd.prog 76 = true := by decide +kernel
@[go_sem] theorem t36_76_i : zeroI Tryd.prog 76 = some (.nilf) := _root_.id rfl
@[go_sem] theorem t36_76_y : (((Tryd.prog.info? 76).map (·.bytes)).getD 0 ≤ 256) = True := eq_true (by decide +kernel)
@[go_sem] theorem t36_76_b : (bytesP Tryd.prog 76 ≤ 1024) = True := eq_true (by decide +kernel)
@[go_sem] theorem t36_77_h : hasP Tryd.prog 77 = true := by decide +kernel
@[go_sem] theorem t36_77_s : sizeP Tryd.prog 77 = 16 := by decide +kernel
@[go_sem] theorem t36_77_a : aggP Tryd.prog 77 = true := by decide +kernel
@[go_sem] theorem t36_77_z : zeroP Tryd.prog 77 = some [.int .u32 0, .int .u32 0, .int .u32 0, .int .u32 0, .int .u32 0, .int .u32 0, .int .u32 0, .int .u32 0, .int .u32 0, .int .u32 0, .int .u32 0, .int .u32 0, .int .u32 0, .int .u32 0, .int .u32 0, .int .u32 0] := _root_.id rfl
@[go_sem] theorem t36_77_o : zeroOK Tryd.prog 77 = true := by decide +kernel
@[go_sem] theorem t36_77_i : zeroI Tryd.prog 77 = some (.agg [.int .u32 0, .int .u32 0, .int .u32 0, .int .u32 0, .int .u32 0, .int .u32 0, .int .u32 0, .int .u32 0, .int .u32 0, .int .u32 0, .int .u32 0, .int .u32 0, .int .u32 0, .int .u32 0, .int .u32 0, .int .u32 0]) := _root_.id rfl
@[go_sem] theorem t36_77_y : (((Tryd.prog.info? 77).map (·.bytes)).getD 0 ≤ 256) = True := eq_true (by decide +kernel)
@[go_sem] theorem t36_77_b : (bytesP Tryd.prog 77 ≤ 1024) = True := eq_true (by decide +kernel)
@[go_sem] theorem t36_77_f : flatP Tryd.prog 77 = some [.int .u32, .int .u32, .int .u32, .int .u32, .int .u32, .int .u32, .int .u32, .int .u32, .int .u32, .int .u32, .int .u32, .int .u32, .int .u32, .int .u32, .int .u32, .int .u32] := flat_of (by decide +kernel)
@[go_sem] theorem t36_77_k : keyK Tryd.prog 77 = some [.int .u32, .int .u32, .int .u32, .int .u32, .int .u32, .int .u32, .int .u32, .int .u32, .int .u32, .int .u32, .int .u32, .int .u32, .int .u32, .int .u32, .int .u32, .int .u32] := key_of (by decide +kernel)
@[go_sem] theorem t36_78_h : hasP Tryd.prog 78 = true := by decide +kernel
@[go_sem] theorem t36_78_s : sizeP Tryd.prog 78 = 17 := by decide +kernel
@[go_sem] theorem t36_78_a : aggP Tryd.prog 78 = true := by decide +kernel
@[go_sem] theorem t36_78_z : zeroP Tryd.prog 78 = some [.nils, .int .u32 0, .int .u32 0, .int .u32 0, .int .u32 0, .int .u32 0, .int .u32 0, .int .u32 0, .int .u32 0, .int .u32 0, .int .u32 0, .int .u32 0, .int .u32 0, .int .u32 0, .int .u32 0, .int .u32 0, .int .u32 0] := _root_.id rfl
@[go_sem] theorem t36_78_o : zeroOK Tryd.prog 78 = true := by decide +kernel
@[go_sem] theorem t36_78_i : zeroI Tryd.prog 78 = some (.agg [.nils, .int .u32 0, .int .u32 0, .int .u32 0, .int .u32 0, .int .u32 0, .int .u32 0, .int .u32 0, .int .u32 0, .int .u32 0, .int .u32 0, .int .u32 0, .int .u32 0, .int .u32 0, .int .u32 0, .int .u32 0, .int .u32 0]) := _root_.id rfl
@[go_sem] theorem t36_78_b : (bytesP Tryd.prog 78 ≤ 1024) = True := eq_true (by decide +kernel)
@[go_sem] theorem t36_79_h : hasP Tryd.prog 79 = true := by decide +kernel
@[go_sem] theorem t36_79_s : sizeP Tryd.prog 79 = 17 := by decide +kernel
@[go_sem] theorem t36_79_a : aggP Tryd.prog 79 = true := by decide +kernel
@[go_sem] theorem t36_79_z : zeroP Tryd.prog 79 = some [.nils, .int .u32 0, .int .u32 0, .int .u32 0, .int .u32 0, .int .u32 0, .int .u32 0, .int .u32 0, .int .u32 0, .int .u32 0, .int .u32 0, .int .u32 0, .int .u32 0, .int .u32 0, .int .u32 0, .int .u32 0, .int .u32 0] := _root_.id rfl
@[go_sem] theorem t36_79_o : zeroOK Tryd.prog 79 = true := by decide +kernel
@[go_sem] theorem t36_79_i : zeroI Tryd.prog 79 = some (.agg [.nils, .int .u32 0, .int .u32 0, .int .u32 0, .int .u32 0, .int .u32 0, .int .u32 0, .int .u32 0, .int .u32 0, .int .u32 0, .int .u32 0, .int .u32 0, .int .u32 0, .int .u32 0, .int .u32 0, .int .u32 0, .int .u32 0]) := _root_.id rfl
@[go_sem] theorem t36_79_b : (bytesP Tryd.prog 79 ≤ 1024) = True := eq_true (by decide +kernel)
@[go_sem] theorem t36_80_h : hasP Tryd.prog 80 = true := by decide +kernel
@[go_sem] theorem t36_80_s : sizeP Tryd.prog 80 = 65 := by decide +kernel
@[go_sem] theorem t36_80_a : aggP Tryd.prog 80 = true := by decide +kernel
@[go_sem] theorem t36_80_z : zeroP Tryd.prog 80 = some [.bool false, .bool false, .bool false, .bool false, .bool false, .bool false, .bool false, .bool false, .bool false, .bool false, .bool false, .bool false, .bool false, .bool false, .bool false, .bool false, .bool false, .bool false, .bool false, .bool false, .bool false, .bool false, .bool false, .bool false, .bool false, .bool false, .bool false, .bool false, .bool false, .bool false, .bool false, .bool false, .bool false, .bool false, .bool false, .bool false, .bool false, .bool false, .bool false, .bool false, .bool false, .bool false, .bool false, .bool false, .bool false, .bool false, .bool false, .bool false, .bool false, .bool false, .bool false, .bool false, .bool false, .bool false, .bool false, .bool false, .bool false, .bool false, .bool false, .bool false, .bool false, .bool false, .bool false, .bool false, .bool false] := _root_.id rfl
@[go_sem] theorem t36_80_o : zeroOK Tryd.prog 80 = true := by decide +kernel
@[go_sem] theorem t36_80_i : zeroI Tryd.prog 80 = some (.agg [.bool false, .bool false, .bool false, .bool false, .bool false, .bool false, .bool false, .bool false, .bool false, .bool false, .bool false, .bool false, .bool false, .bool false, .bool false, .bool false, .bool false, .bool false, .bool false, .bool false, .bool false, .bool false, .bool false, .bool false, .bool false, .bool false, .bool false, .bool false, .bool false, .bool false, .bool false, .bool false, .bool false, .bool false, .bool false, .bool false, .bool false, .bool false, .bool false, .bool false, .bool false, .bool false, .bool false, .bool false, .bool false, .bool false, .bool false, .bool false, .bool false, .bool false, .bool false, .bool false, .bool false, .bool false, .bool false, .bool false, .bool false, .bool false, .bool false, .bool false, .bool false, .bool false, .bool false, .bool false, .bool false]) := _root_.id rfl
@[go_sem] theorem t36_80_b : (bytesP Tryd.prog 80 ≤ 1024) = True := eq_true (by decide +kernel)
@[go_sem] theorem t36_80_f : flatP Tryd.prog 80 = some [.bool, .bool, .bool, .bool, .bool, .bool, .bool, .bool, .bool, .bool, .bool, .bool, .bool, .bool, .bool, .bool, .bool, .bool, .bool, .bool, .bool, .bool, .bool, .bool, .bool, .bool, .bool, .bool, .bool, .bool, .bool, .bool, .bool, .bool, .bool, .bool, .bool, .bool, .bool, .bool, .bool, .bool, .bool, .bool, .bool, .bool, .bool, .bool, .bool, .bool, .bool, .bool, .bool, .bool, .bool, .bool, .bool, .bool, .bool, .bool, .bool, .bool, .bool, .bool, .bool] := flat_of (by decide +kernel)
@[go_sem] theorem t36_80_k : keyK Tryd.prog 80 = some [.bool, .bool, .bool, .bool, .bool, .bool, .bool, .bool, .bool, .bool, .bool, .bool, .bool, .bool, .bool, .bool, .bool, .bool, .bool, .bool, .bool, .bool, .bool, .bool, .bool, .bool, .bool, .bool, .bool, .bool, .bool, .bool, .bool, .bool, .bool, .bool, .bool, .bool, .bool, .bool, .bool, .bool, .bool, .bool, .bool, .bool, .bool, .bool, .bool, .bool, .bool, .bool, .bool, .bool, .bool, .bool, .bool, .bool, .bool, .bool, .bool, .bool, .bool, .bool, .bool] := key_of (by decide +kernel)
@[go_sem] theorem t36_81_h : hasP Tryd.prog 81 = true := by decide +kernel
@[go_sem] theorem t36_81_s : sizeP Tryd.prog 81 = 1 := by decide +kernel
@[go_sem] theorem t36_81_a : aggP Tryd.prog 81 = false := by decide +kernel
@[go_sem] theorem t36_81_z : zeroP Tryd.prog 81 = some [.nilf] := _root_.id rfl
@[go_sem] theorem t36_81_o : zeroOK Tryd.prog 81 = true := by decide +kernel
@[go_sem] theorem t36_81_i : zeroI Tryd.prog 81 = some (.nilf) := _root_.id rfl
@[go_sem] theorem t36_81_y : (((Tryd.prog.info? 81).map (·.bytes)).getD 0 ≤ 256) = True := eq_true (by decide +kernel)
@[go_sem] theorem t36_81_b : (bytesP Tryd.prog 81 ≤ 1024) = True := eq_true (by decide +kernel)
@[go_sem] theorem t36_82_h : hasP Tryd.prog 82 = true := by decide +kernel
@[go_sem] theorem t36_82_s : sizeP Tryd.prog 82 = 1 := by decide +kernel
@[go_sem] theorem t36_82_a : aggP Tryd.prog 82 = false := by decide +kernel
@[go_sem] theorem t36_82_z : zeroP Tryd.prog 82 = some [.nilf] := _root_.id rfl
@[go_sem] theorem t36_82_o : zeroOK Tryd.prog 82 = true := by decide +kernel
@[go_sem] theorem t36_82_i : zeroI Tryd.prog 82 = some (.nilf) := _root_.id rfl
@[go_sem] theorem t36_82_y : (((Tryd.prog.info? 82).map (·.bytes)).getD 0 ≤ 256) = True := eq_true (by decide +kernel)
@[go_sem] theorem t36_82_b : (bytesP Tryd.prog 82 ≤ 1024) = True := eq_true (by decide +kernel)
@[go_sem] theorem t36_83_h : hasP Tryd.prog 83 = true := by decide +kernel
@[go_sem] theorem t36_83_s : sizeP Tryd.prog 83 = 1 := by decide +kernel
@[go_sem] theorem t36_83_a : aggP Tryd.prog 83 = false := by decide +kernel
@[go_sem] theorem t36_83_z : zeroP Tryd.prog 83 = some [.nilf] := _root_.id rfl
@[go_sem] theorem t36_83_o : zeroOK Tryd.prog 83 = true := by decide +kernel
@[go_sem] theorem t36_83_i : zeroI Tryd.prog 83 = some (.nilf) := _root_.id rfl
@[go_sem] theorem t36_83_y : (((Tryd.prog.info? 83).map (·.bytes)).getD 0 ≤ 256) = True := eq_true (by decide +kernel)
@[go_sem] theorem t36_83_b : (bytesP Tryd.prog 83 ≤ 1024) = True := eq_true (by decide +kernel)
@[go_sem] theorem t36_84_h : hasP Tryd.prog 84 = true := by decide +kernel
@[go_sem] theorem t36_84_s : sizeP Tryd.prog 84 = 1 := by decide +kernel
@[go_sem] theorem t36_84_a : aggP Tryd.prog 84 = false := by decide +kernel
@[go_sem] theorem t36_84_z : zeroP Tryd.prog 84 = some [.nilf] := _root_.id rfl
@[go_sem] theorem t36_84_o : zeroOK Tryd.prog 84 = true := by decide +kernel
@[go_sem] theorem t36_84_i : zeroI Tryd.prog 84 = some (.nilf) := _root_.id rfl
@[go_sem] theorem t36_84_y : (((Tryd.prog.info? 84).map (·.bytes)).getD 0 ≤ 256) = True := eq_true (by decide +kernel)
@[go_sem] theorem t36_84_b : (bytesP Tryd.prog 84 ≤ 1024) = True := eq_true (by decide +kernel)
@[go_sem] theorem t36_86_h : hasP Tryd.prog 86 = true := by decide +kernel
@[go_sem] theorem t36_86_s : sizeP Tryd.prog 86 = 1 := by decide +kernel
@[go_sem] theorem t36_86_a : aggP Tryd.prog 86 = false := by decide +kernel
@[go_sem] theorem t36_86_z : zeroP Tryd.prog 86 = some [.nilf] := _root_.id rfl
@[go_sem] theorem t36_86_o : zeroOK Tryd.prog 86 = true := by decide +kernel
@[go_sem] theorem t36_86_i : zeroI Tryd.prog 86 = some (.nilf) := _root_.id rfl
@[go_sem] theorem t36_86_y : (((Tryd.prog.info? 86).map (·.bytes)).getD 0 ≤ 256) = True := eq_true (by decide +kernel)
@[go_sem] theorem t36_86_b : (bytesP Tryd.prog 86 ≤ 1024) = True := eq_true (by decide +kernel)
@[go_sem] theorem t36_87_h : hasP Tryd.prog 87 = true := by decide +kernel
@[go_sem] theorem t36_87_s : sizeP Tryd.prog 87 = 1 := by decide +kernel
@[go_sem] theorem t36_87_a : aggP Tryd.prog 87 = false := by decide +kernel
@[go_sem] theorem t36_87_z : zeroP Tryd.prog 87 = some [.nilf] := _root_.id rfl
@[go_sem] theorem t36_87_o : zeroOK Tryd.prog 87 = true := by decide +kernel
@[go_sem] theorem t36_87_i : zeroI Tryd.prog 87 = some (.nilf) := _root_.id rfl
@[go_sem] theorem t36_87_y : (((Tryd.prog.info? 87).map (·.bytes)).getD 0 ≤ 256) = True := eq_true (by decide +kernel)
@[go_sem] theorem t36_87_b : (bytesP Tryd.prog 87 ≤ 1024) = True := eq_true (by decide +kernel)
@[go_sem] theorem t36_88_h : hasP Tryd.prog 88 = true := by decide +kernel
@[go_sem] theorem t36_88_s : sizeP Tryd.prog 88 = 1 := by decide +kernel
@[go_sem] theorem t36_88_a : aggP Tryd.prog 88 = false := by decide +kernel
@[go_sem] theorem t36_88_z : zeroP Tryd.prog 88 = some [.nilm] := _root_.id rfl
@[go_sem] theorem t36_88_o : zeroOK Tryd.prog 88 = true := by decide +kernel
@[go_sem] theorem t36_88_i : zeroI Tryd.prog 88 = some (.nilm) := _root_.id rfl
@[go_sem] theorem t36_88_y : (((Tryd.prog.info? 88).map (·.bytes)).getD 0 ≤ 256) = True := eq_true (by decide +kernel)
@[go_sem] theorem t36_88_b : (bytesP Tryd.prog 88 ≤ 1024) = True := eq_true (by decide +kernel)
@[go_sem] theorem t36_89_h : hasP Tryd.prog 89 = true := by decide +kernel
@[go_sem] theorem t36_89_s : sizeP Tryd.prog 89 = 1 := by decide +kernel
@[go_sem] theorem t36_89_a : aggP Tryd.prog 89 = false := by decide +kernel
@[go_sem] theorem t36_89_z : zeroP Tryd.prog 89 = some [.nilm] := _root_.id rfl
@[go_sem] theorem t36_89_o : zeroOK Tryd.prog 89 = true := by decide +kernel
@[go_sem] theorem t36_89_i : zeroI Tryd.prog 89 = some (.nilm) := _root_.id rfl
@[go_sem] theorem t36_89_y : (((Tryd.prog.info? 89).map (·.bytes)).getD 0 ≤ 256) = True := eq_true (by decide +kernel)
@[go_sem] theorem t36_89_b : (bytesP Tryd.prog 89 ≤ 1024) = True := eq_true (by decide +kernel)
@[go_sem] theorem t36_91_h : hasP Tryd.prog 91 = true := by decide +kernel
@[go_sem] theorem t36_91_s : sizeP Tryd.prog 91 = 1 := by decide +kernel
@[go_sem] theorem t36_91_a : aggP Tryd.prog 91 = false := by decide +kernel
@[go_sem] theorem t36_91_z : zeroP Tryd.prog 91 = some [.nilm] := _root_.id rfl
@[go_sem] theorem t36_91_o : zeroOK Tryd.prog 91 = true := by decide +kernel
@[go_sem] theorem t36_91_i : zeroI Tryd.prog 91 = some (.nilm) := _root_.id rfl
@[go_sem] theorem t36_91_y : (((Tryd.prog.info? 91).map (·.bytes)).getD 0 ≤ 256) = True := eq_true (by decide +kernel)
@[go_sem] theorem t36_91_b : (bytesP Tryd.prog 91 ≤ 1024) = True := eq_true (by decide +kernel)
@[go_sem] theorem t36_93_h : hasP Tryd.prog 93 = true := by decide +kernel
@[go_sem] theorem t36_93_s : sizeP Tryd.prog 93 = 32 := by decide +kernel
@[go_sem] theorem t36_93_a : aggP Tryd.prog 93 = true := by decide +kernel
@[go_sem] theorem t36_93_z : zeroP Tryd.prog 93 = some [.int .u8 0, .int .u8 0, .int .u8 0, .int .u8 0, .int .u8 0, .int .u8 0, .int .u8 0, .int .u8 0, .int .u8 0, .int .u8 0, .int .u8 0, .int .u8 0, .int .u8 0, .int .u8 0, .int .u8 0, .int .u8 0, .int .u8 0, .int .u8 0, .int .u8 0, .int .u8 0, .int .u8 0, .int .u8 0, .int .u8 0, .int .u8 0, .int .u8 0, .int .u8 0, .int .u8 0, .int .u8 0, .int .u8 0, .int .u8 0, .int .u8 0, .int .u8 0] := _root_.id rfl
@[go_sem] theorem t36_93_o : zeroOK Tryd.prog 93 = true := by decide +kernel
@[go_sem] theorem t36_93_i : zeroI Tryd.prog 93 = some (.agg [.int .u8 0, .int .u8 0, .int .u8 0, .int .u8 0, .int .u8 0, .int .u8 0, .int .u8 0, .int .u8 0, .int .u8 0, .int .u8 0, .int .u8 0, .int .u8 0, .int .u8 0, .int .u8 0, .int .u8 0, .int .u8 0, .int .u8 0, .int .u8 0, .int .u8 0, .int .u8 0, .int .u8 0, .int .u8 0, .int .u8 0, .int .u8 0, .int .u8 0, .int .u8 0, .int .u8 0, .int .u8 0, .int .u8 0, .int .u8 0, .int .u8 0, .int .u8 0]) := _root_.id rfl
@[go_sem] theorem t36_93_b : (bytesP Tryd.prog 93 ≤ 1024) = True := eq_true (by decide +kernel)
@[go_sem] theorem t36_93_f : flatP Tryd.prog 93 = some [.int .u8, .int .u8, .int .u8, .int .u8, .int .u8, .int .u8, .int .u8, .int .u8, .int .u8, .int .u8, .int .u8, .int .u8, .int .u8, .int .u8, .int .u8, .int .u8, .int .u8, .int .u8, .int .u8, .int .u8, .int .u8, .int .u8, .int .u8, .int .u8, .int .u8, .int .u8, .int .u8, .int .u8, .int .u8, .int .u8, .int .u8, .int .u8] := flat_of (by decide +kernel)
@[go_sem] theorem t36_93_k : keyK Tryd.prog 93 = some [.int .u8, .int .u8, .int .u8, .int .u8, .int .u8, .int .u8, .int .u8, .int .u8, .int .u8, .int .u8, .int .u8, .int .u8, .int .u8, .int .u8, .int .u8, .int .u8, .int .u8, .int .u8, .int .u8, .int .u8, .int .u8, .int .u8, .int .u8, .int .u8, .int .u8, .int .u8, .int .u8, .int .u8, .int .u8, .int .u8, .int .u8, .int .u8] := key_of (by decide +kernel)
@[go_sem] theorem t36_94_h : hasP Tryd.prog 94 = true := by decide +kernel
@[go_sem] theorem t36_94_s : sizeP Tryd.prog 94 = 1 := by decide +kernel
@[go_sem] theorem t36_94_a : aggP Tryd.prog 94 = false := by decide +kernel
@[go_sem] theorem t36_94_z : zeroP Tryd.prog 94 = some [.int .u64 0] := _root_.id rfl
@[go_sem] theorem t36_94_o : zeroOK Tryd.prog 94 = true := by decide +kernel
@[go_sem] theorem t36_94_i : zeroI Tryd.prog 94 = some (.int .u64 0) := _root_.id rfl
@[go_sem] theorem t36_94_y : (((Tryd.prog.info? 94).map (·.bytes)).getD 0 ≤ 256) = True := eq_true (by decide +kernel)
@[go_sem] theorem t36_94_b : (bytesP Tryd.prog 94 ≤ 1024) = True := eq_true (by decide +kernel)
@[go_sem] theorem t36_94_k : keyK Tryd.prog 94 = some [.int .u64] := key_of (by decide +kernel)
@[go_sem] theorem t36_95_h : hasP Tryd.prog 95 = true := by decide +kernel
@[go_sem] theorem t36_95_s : sizeP Tryd.prog 95 = 1 := by decide +kernel
@[go_sem] theorem t36_95_a : aggP Tryd.prog 95 = false := by decide +kernel
@[go_sem] theorem t36_95_z : zeroP Tryd.prog 95 = some [.nils] := _root_.id rfl
@[go_sem] theorem t36_95_o : zeroOK Tryd.prog 95 = true := by decide +kernel
@[go_sem] theorem t36_95_i : zeroI Tryd.prog 95 = some (.nils) := _root_.id rfl
@[go_sem] theorem t36_95_y : (((Tryd.prog.info? 95).map (·.bytes)).getD 0 ≤ 256) = True := eq_true (by decide +kernel)
@[go_sem] theorem t36_95_b : (bytesP Tryd.prog 95 ≤ 1024) = True := eq_true (by decide +kernel)
@[go_sem] theorem t36_96_h : hasP Tryd.prog 96 = true := by decide +kernel
@[go_sem] theorem t36_96_s : sizeP Tryd.prog 96 = 1 := by decide +kernel
@[go_sem] theorem t36_96_a : aggP Tryd.prog 96 = false := by decide +kernel
@[go_sem] theorem t36_96_z : zeroP Tryd.prog 96 = some [.nilf] := _root_.id rfl
@[go_sem] theorem t36_96_o : zeroOK Tryd.prog 96 = true := by decide +kernel
@[go_sem] theorem t36_96_i : zeroI Tryd.prog 96 = some (.nilf) := _root_.id rfl
@[go_sem] theorem t36_96_y : (((Tryd.prog.info? 96).map (·.bytes)).getD 0 ≤ 256) = True := eq_true (by decide +kernel)
@[go_sem] theorem t36_96_b : (bytesP Tryd.prog 96 ≤ 1024) = True := eq_true (by decide +kernel)
@[go_sem] theorem t36_97_h : hasP Tryd.prog 97 = true := by decide +kernel
@[go_sem] theorem t36_97_s : sizeP Tryd.prog 97 = 1 := by decide +kernel
@[go_sem] theorem t36_97_a : aggP Tryd.prog 97 = false := by decide +kernel
@[go_sem] theorem t36_97_z : zeroP Tryd.prog 97 = some [.nilf] := _root_.id rfl
@[go_sem] theorem t36_97_o : zeroOK Tryd.prog 97 = true := by decide +kernel
@[go_sem] theorem t36_97_i : zeroI Tryd.prog 97 = some (.nilf) := _root_.id rfl
@[go_sem] theorem t36_97_y : (((Tryd.prog.info? 97).map (·.bytes)).getD 0 ≤ 256) = True := eq_true (by decide +kernel)
@[go_sem] theorem t36_97_b : (bytesP Tryd.prog 97 ≤ 1024) = True := eq_true (by decide +kernel)
@[go_sem] theorem t36_98_h : hasP Tryd.prog 98 = true := by decide +kernel
@[go_sem] theorem t36_98_s : sizeP Tryd.prog 98 = 1 := by decide +kernel
@[go_sem] theorem t36_98_a : aggP Tryd.prog 98 = false := by decide +kernel
@[go_sem] theorem t36_98_z : zeroP Tryd.prog 98 = some [.nilf] := _root_.id rfl
@[go_sem] theorem t36_98_o : zeroOK Tryd.prog 98 = true := by decide +kernel
@[go_sem] theorem t36_98_i : zeroI Tryd.prog 98 = some (.nilf) := _root_.id rfl
@[go_sem] theorem t36_98_y : (((Tryd.prog.info? 98).map (·.bytes)).getD 0 ≤ 256) = True := eq_true (by decide +kernel)
@[go_sem] theorem t36_98_b : (bytesP Tryd.prog 98 ≤ 1024) = True := eq_true (by decide +kernel)
@[go_sem] theorem t36_99_h : hasP Tryd.prog 99 = true := by decide +kernel
@[go_sem] theorem t36_99_s : sizeP Tryd.prog 99 = 4 := by decide +kernel
@[go_sem] theorem t36_99_a : aggP Tryd.prog 99 = true := by decide +kernel
@[go_sem] theorem t36_99_z : zeroP Tryd.prog 99 = some [.nilp, .nilp, .nilp, .str ByteArray.empty] := _root_.id rfl
@[go_sem] theorem t36_99_o : zeroOK Tryd.prog 99 = true := by decide +kernel
@[go_sem] theorem t36_99_i : zeroI Tryd.prog 99 = some (.agg [.nilp, .nilp, .nilp, .str ByteArray.empty]) := _root_.id rfl
@[go_sem] theorem t36_99_y : (((Tryd.prog.info? 99).map (·.bytes)).getD 0 ≤ 256) = True := eq_true (by decide +kernel)
@[go_sem] theorem t36_99_b : (bytesP Tryd.prog 99 ≤ 1024) = True := eq_true (by decide +kernel)
@[go_sem] theorem t36_100_h : hasP Tryd.prog 100 = true := by decide +kernel
@[go_sem] theorem t36_100_s : sizeP Tryd.prog 100 = 4 := by decide +kernel
@[go_sem] theorem t36_100_a : aggP Tryd.prog 100 = true := by decide +kernel
@[go_sem] theorem t36_100_z : zeroP Tryd.prog 100 = some [.nilp, .nilp, .nilp, .str ByteArray.empty] := _root_.id rfl
@[go_sem] theorem t36_100_o : zeroOK Tryd.prog 100 = true := by decide +kernel
@[go_sem] theorem t36_100_i : zeroI Tryd.prog 100 = some (.agg [.nilp, .nilp, .nilp, .str ByteArray.empty]) := _root_.id rfl
@[go_sem] theorem t36_100_y : (((Tryd.prog.info? 100).map (·.bytes)).getD 0 ≤ 256) = True := eq_true (by decide +kernel)
@[go_sem] theorem t36_100_b : (bytesP Tryd.prog 100 ≤ 1024) = True := eq_true (by decide +kernel)
@[go_sem] theorem t36_101_h : hasP Tryd.prog 101 = true := by decide +kernel
@[go_sem] theorem t36_101_s : sizeP Tryd.prog 101 = 0 := by decide +kernel
@[go_sem] theorem t36_101_a : aggP Tryd.prog 101 = true := by decide +kernel
@[go_sem] theorem t36_102_h : hasP Tryd.prog 102 = true := by decide +kernel
@[go_sem] theorem t36_102_s : sizeP Tryd.prog 102 = 0 := by decide +kernel
@[go_sem] theorem t36_102_a : aggP Tryd.prog 102 = true := by decide +kernel
@[go_sem] theorem t36_103_h : hasP Tryd.prog 103 = true := by decide +kernel
@[go_sem] theorem t36_103_s : sizeP Tryd.prog 103 = 0 := by decide +kernel
@[go_sem] theorem t36_103_a : aggP Tryd.prog 103 = true := by decide +kernel
@[go_sem] theorem t36_104_h : hasP Tryd.prog 104 = true := by decide +kernel
@[go_sem] theorem t36_104_s : sizeP Tryd.prog 104 = 1 := by decide +kernel
@[go_sem] theorem t36_104_a : aggP Tryd.prog 104 = false := by decide +kernel
@[go_sem] theorem t36_104_z : zeroP Tryd.prog 104 = some [.nilf] := _root_.id rfl
@[go_sem] theorem t36_104_o : zeroOK Tryd.prog 104 = true := by decide +kernel
@[go_sem] theorem t36_104_i : zeroI Tryd.prog 104 = some (.nilf) := _root_.id rfl
@[go_sem] theorem t36_104_y : (((Tryd.prog.info? 104).map (·.bytes)).getD 0 ≤ 256) = True := eq_true (by decide +kernel)
@[go_sem] theorem t36_104_b : (bytesP Tryd.prog 104 ≤ 1024) = True := eq_true (by decide +kernel)
@[go_sem] theorem t36_105_h : hasP Tryd.prog 105 = true := by decide +kernel
@[go_sem] theorem t36_105_s : sizeP Tryd.prog 105 = 1 := by decide +kernel
@[go_sem] theorem t36_105_a : aggP Tryd.prog 105 = false := by decide +kernel
@[go_sem] theorem t36_105_z : zeroP Tryd.prog 105 = some [.int .u8 0] := _root_.id rfl
@[go_sem] theorem t36_105_o : zeroOK Tryd.prog 105 = true := by decide +kernel
@[go_sem] theorem t36_105_i : zeroI Tryd.prog 105 = some (.int .u8 0) := _root_.id rfl
@[go_sem] theorem t36_105_y : (((Tryd.prog.info? 105).map (·.bytes)).getD 0 ≤ 256) = True := eq_true (by decide +kernel)
@[go_sem] theorem t36_105_b : (bytesP Tryd.prog 105 ≤ 1024) = True := eq_true (by decide +kernel)
@[go_sem] theorem t36_105_k : keyK Tryd.prog 105 = some [.int .u8] := key_of (by decide +kernel)
@[go_sem] theorem t36_106_h : hasP Tryd.prog 106 = true := by decide +kernel
@[go_sem] theorem t36_106_s : sizeP Tryd.prog 106 = 1 := by decide +kernel
@[go_sem] theorem t36_106_a : aggP Tryd.prog 106 = false := by decide +kernel
@[go_sem] theorem t36_106_z : zeroP Tryd.prog 106 = some [.int .u8 0] := _root_.id rfl
@[go_sem] theorem t36_106_o : zeroOK Tryd.prog 106 = true := by decide +kernel
@[go_sem] theorem t36_106_i : zeroI Tryd.prog 106 = some (.int .u8 0) := _root_.id rfl
@[go_sem] theorem t36_106_y : (((Tryd.prog.info? 106).map (·.bytes)).getD 0 ≤ 256) = True := eq_true (by decide +kernel)
@[go_sem] theorem t36_106_b : (bytesP Tryd.prog 106 ≤ 1024) = True := eq_true (by decide +kernel)
@[go_sem] theorem t36_106_k : keyK Tryd.prog 106 = some [.int .u8] := key_of (by decide +kernel)
@[go_sem] theorem t36_107_h : hasP Tryd.prog 107 = true := by decide +kernel
@[go_sem] theorem t36_107_s : sizeP Tryd.prog 107 = 1 := by decide +kernel
@[go_sem] theorem t36_107_a : aggP Tryd.prog 107 = false := by decide +kernel
@[go_sem] theorem t36_107_z : zeroP Tryd.prog 107 = some [.nilf] := _root_.id rfl
@[go_sem] theorem t36_107_o : zeroOK Tryd.prog 107 = true := by decide +kernel
@[go_sem] theorem t36_107_i : zeroI Tryd.prog 107 = some (.nilf) := _root_.id rfl
@[go_sem] theorem t36_107_y : (((Tryd.prog.info? 107).map (·.bytes)).getD 0 ≤ 256) = True := eq_true (by decide +kernel)
@[go_sem] theorem t36_107_b : (bytesP Tryd.prog 107 ≤ 1024) = True := eq_true (by decide +kernel)
@[go_sem] theorem t36_108_h : hasP Tryd.prog 108 = true := by decide +kernel
@[go_sem] theorem t36_108_s : sizeP Tryd.prog 108 = 1 := by decide +kernel
@[go_sem] theorem t36_108_a : aggP Tryd.prog 108 = false := by decide +kernel
@[go_sem] theorem t36_108_z : zeroP Tryd.prog 108 = some [.nilp] := _root_.id rfl
@[go_sem] theorem t36_108_o : zeroOK Tryd.prog 108 = true := by decide +kernel
@[go_sem] theorem t36_108_i : zeroI Tryd.prog 108 = some (.nilp) := _root_.id rfl
@[go_sem] theorem t36_108_y : (((Tryd.prog.info? 108).map (·.bytes)).getD 0 ≤ 256) = True := eq_true (by decide +kernel)
@[go_sem] theorem t36_108_b : (bytesP Tryd.prog 108 ≤ 1024) = True := eq_true (by decide +kernel)
@[go_sem] theorem t36_109_h : hasP Tryd.prog 109 = true := by decide +kernel
@[go_sem] theorem t36_109_s : sizeP Tryd.prog 109 = 1 := by decide +kernel
@[go_sem] theorem t36_109_a : aggP Tryd.prog 109 = false := by decide +kernel
@[go_sem] theorem t36_109_z : zeroP Tryd.prog 109 = some [.int .i32 0] := _root_.id rfl
@[go_sem] theorem t36_109_o : zeroOK Tryd.prog 109 = true := by decide +kernel
@[go_sem] theorem t36_109_i : zeroI Tryd.prog 109 = some (.int .i32 0) := _root_.id rfl
@[go_sem] theorem t36_109_y : (((Tryd.prog.info? 109).map (·.bytes)).getD 0 ≤ 256) = True := eq_true (by decide +kernel)
@[go_sem] theorem t36_109_b : (bytesP Tryd.prog 109 ≤ 1024) = True := eq_true (by decide +kernel)
@[go_sem] theorem t36_109_k : keyK Tryd.prog 109 = some [.int .i32] := key_of (by decide +kernel)
@[go_sem] theorem t36_110_h : hasP Tryd.prog 110 = true := by decide +kernel
@[go_sem] theorem t36_110_s : sizeP Tryd.prog 110 = 1 := by decide +kernel
@[go_sem] theorem t36_110_a : aggP Tryd.prog 110 = false := by decide +kernel
@[go_sem] theorem t36_110_z : zeroP Tryd.prog 110 = some [.int .i32 0] := _root_.id rfl
@[go_sem] theorem t36_110_o : zeroOK Tryd.prog 110 = true := by decide +kernel
@[go_sem] theorem t36_110_i : zeroI Tryd.prog 110 = some (.int .i32 0) := _root_.id rfl
@[go_sem] theorem t36_110_y : (((Tryd.prog.info? 110).map (·.bytes)).getD 0 ≤ 256) = True := eq_true (by decide +kernel)
@[go_sem] theorem t36_110_b : (bytesP Tryd.prog 110 ≤ 1024) = True := eq_true (by decide +kernel)
@[go_sem] theorem t36_110_k : keyK Tryd.prog 110 = some [.int .i32] := key_of (by decide +kernel)
@[go_sem] theorem t36_111_h : hasP Tryd.prog 111 = true := by decide +kernel
@[go_sem] theorem t36_111_s : sizeP Tryd.prog 111 = 11 := by decide +kernel
@[go_sem] theorem t36_111_a : aggP Tryd.prog 111 = true := by decide +kernel
@[go_sem] theorem t36_111_z : zeroP Tryd.prog 111 = some [.int .u64 0, .int .u64 0, .int .u32 0, .int .u8 0, .int .u8 0, .int .u8 0, .int .u8 0, .nilf, .nilp, .int .i32 0, .int .i32 0] := _root_.id rfl
@[go_sem] theorem t36_111_o : zeroOK Tryd.prog 111 = true := by decide +kernel
@[go_sem] theorem t36_111_i : zeroI Tryd.prog 111 = some (.agg [.int .u64 0, .int .u64 0, .int .u32 0, .int .u8 0, .int .u8 0, .int .u8 0, .int .u8 0, .nilf, .nilp, .int .i32 0, .int .i32 0]) := _root_.id rfl
@[go_sem] theorem t36_111_y : (((Tryd.prog.info? 111).map (·.bytes)).getD 0 ≤ 256) = True := eq_true (by decide +kernel)
@[go_sem] theorem t36_111_b : (bytesP Tryd.prog 111 ≤ 1024) = True := eq_true (by decide +kernel)
@[go_sem] theorem t36_112_h : hasP Tryd.prog 112 = true := by decide +kernel
@[go_sem] theorem t36_112_s : sizeP Tryd.prog 112 = 11 := by decide +kernel
@[go_sem] theorem t36_112_a : aggP Tryd.prog 112 = true := by decide +kernel
@[go_sem] theorem t36_112_z : zeroP Tryd.prog 112 = some [.int .u64 0, .int .u64 0, .int .u32 0, .int .u8 0, .int .u8 0, .int .u8 0, .int .u8 0, .nilf, .nilp, .int .i32 0, .int .i32 0] := _root_.id rfl
@[go_sem] theorem t36_112_o : zeroOK Tryd.prog 112 = true := by decide +kernel
@[go_sem] theorem t36_112_i : zeroI Tryd.prog 112 = some (.agg [.int .u64 0, .int .u64 0, .int .u32 0, .int .u8 0, .int .u8 0, .int .u8 0, .int .u8 0, .nilf, .nilp, .int .i32 0, .int .i32 0]) := _root_.id rfl
@[go_sem] theorem t36_112_y : (((Tryd.prog.info? 112).map (·.bytes)).getD 0 ≤ 256) = True := eq_true (by decide +kernel)
@[go_sem] theorem t36_112_b : (bytesP Tryd.prog 112 ≤ 1024) = True := eq_true (by decide +kernel)
end Go.Idl
namespace Go.Idl
set_option linter.all false
set_option maxHeartbeats 4000000
set_option maxRecDepth 40000

theorem wrapu32 {n : Int} (h1 : 0 ≤ n) (h2 : n < 4294967296) : IntKind.u32.wrap n = n := by
  simp [IntKind.wrap, IntKind.bits, IntKind.signed]
  omega
def bitsL (m : Nat) : List Nat := (List.range 32).filter fun i => Nat.testBit m i
theorem bitsL_mem {m i : Nat} : i ∈ bitsL m ↔ i < 32 ∧ Nat.testBit m i = true := by simp [bitsL]
theorem bitsL_zero : bitsL 0 = [] := by decide
theorem bitsL_nodup (m : Nat) : (bitsL m).Nodup := List.nodup_range.filter _
theorem bitsL_sorted (m : Nat) : (bitsL m).Pairwise (· < ·) := List.pairwise_lt_range.filter _
theorem bitsL_ne {m : Nat} (h0 : m ≠ 0) (h : m < 2 ^ 32) : bitsL m ≠ [] := by
  intro e
  obtain ⟨i, hi⟩ := Nat.exists_testBit_of_ne_zero h0
  have : i < 32 := by
    apply Decidable.byContradiction
    intro hn
    have : m < 2 ^ i := Nat.lt_of_lt_of_le h (Nat.pow_le_pow_right (by decide) (by omega))
    rw [Nat.testBit_lt_two_pow this] at hi; cases hi
  have h2 : i ∈ bitsL m := bitsL_mem.2 ⟨this, hi⟩
  rw [e] at h2; cases h2
/-- The first place. -/
def tz (m : Nat) : Nat := (bitsL m).headD 32
theorem tz_spec {m : Nat} (h0 : m ≠ 0) (h : m < 2 ^ 32) : tz m < 32 ∧ Nat.testBit m (tz m) = true ∧ ∀ j, j < tz m → Nat.testBit m j = false := by
  have hs := bitsL_sorted m
  unfold tz
  cases hb : bitsL m with
  | nil => exact absurd hb (bitsL_ne h0 h)
  | cons a r =>
    have ha : a ∈ bitsL m := by rw [hb]; simp
    refine ⟨(bitsL_mem.1 ha).1, (bitsL_mem.1 ha).2, fun j hj => ?_⟩
    simp only [List.headD_cons] at hj
    rw [hb, List.pairwise_cons] at hs
    cases ht : Nat.testBit m j with
    | false => rfl
    | true =>
      have hj2 : j ∈ bitsL m := bitsL_mem.2 ⟨by have := (bitsL_mem.1 ha).1; omega, ht⟩
      rw [hb] at hj2
      rcases List.mem_cons.1 hj2 with e | e
      · omega
      · have := hs.1 j e; omega
theorem pred_bit {m a : Nat} (h1 : Nat.testBit m a = true) (h2 : ∀ j, j < a → Nat.testBit m j = false) (j : Nat) : Nat.testBit (m - 1) j = if j < a then true else if j = a then false else Nat.testBit m j := by
  have hz : m % 2 ^ a = 0 := by
    apply Nat.eq_of_testBit_eq
    intro i
    rw [Nat.testBit_mod_two_pow, Nat.zero_testBit]
    by_cases h : i < a
    · rw [h2 i h]; simp
    · simp [h]
  have hm : m = 2 ^ a * (m / 2 ^ a) := by have := Nat.div_add_mod m (2 ^ a); omega
  have hodd : (m / 2 ^ a) % 2 = 1 := by
    have : Nat.testBit (m / 2 ^ a) 0 = true := by rw [Nat.testBit_div_two_pow]; simpa using h1
    simpa [Nat.testBit_zero] using this
  obtain ⟨q, hq⟩ : ∃ q, m / 2 ^ a = 2 * q + 1 := ⟨m / 2 ^ a / 2, by omega⟩
  rw [hq] at hm
  have hp : 0 < 2 ^ a := Nat.pow_pos (by decide)
  have hm1 : m - 1 = 2 ^ a * (2 * q) + (2 ^ a - 1) := by rw [hm, Nat.mul_add]; omega
  rw [hm1, Nat.testBit_two_pow_mul_add _ (by omega)]
  by_cases hj : j < a
  · rw [if_pos hj, if_pos hj, Nat.testBit_two_pow_sub_one]; simpa using hj
  · rw [if_neg hj, if_neg hj]
    by_cases hja : j = a
    · subst hja; simp
    · rw [if_neg hja]
      obtain ⟨k, hk⟩ : ∃ k, j - a = k + 1 := ⟨j - a - 1, by omega⟩
      have h3 : Nat.testBit m j = Nat.testBit (2 * q + 1) (j - a) := by
        conv => lhs; rw [hm, show 2 ^ a * (2 * q + 1) = 2 ^ a * (2 * q + 1) + 0 by omega]
        rw [Nat.testBit_two_pow_mul_add _ hp, if_neg hj]
      rw [h3, hk, Nat.testBit_succ, Nat.testBit_succ]
      congr 1; omega
theorem clear_bit {m : Nat} (h0 : m ≠ 0) (h : m < 2 ^ 32) (j : Nat) : Nat.testBit (m &&& (m - 1)) j = (Nat.testBit m j && !(decide (j = tz m))) := by
  obtain ⟨_, h1, h2⟩ := tz_spec h0 h
  rw [Nat.testBit_and, pred_bit h1 h2]
  by_cases hj : j < tz m
  · rw [if_pos hj, h2 j hj]; rfl
  · rw [if_neg hj]
    by_cases hja : j = tz m
    · rw [if_pos hja]; simp [hja]
    · rw [if_neg hja]; simp [hja]
theorem low_bit {m : Nat} (h0 : m ≠ 0) (h : m < 2 ^ 32) : m &&& (2 ^ 32 - m) = 2 ^ tz m := by
  obtain ⟨h3, h1, h2⟩ := tz_spec h0 h
  apply Nat.eq_of_testBit_eq
  intro j
  rw [Nat.testBit_and, Nat.testBit_two_pow, show 2 ^ 32 - m = 2 ^ 32 - ((m - 1) + 1) by omega, Nat.testBit_two_pow_sub_succ (by omega), pred_bit h1 h2]
  by_cases hj : j < tz m
  · rw [if_pos hj, h2 j hj]; simp; omega
  · rw [if_neg hj]
    by_cases hja : j = tz m
    · rw [if_pos hja]; subst hja; simp [h1, h3]
    · rw [if_neg hja]
      cases Nat.testBit m j <;> simp <;> omega
theorem bitsL_clear {m : Nat} (h0 : m ≠ 0) (h : m < 2 ^ 32) : bitsL m = tz m :: bitsL (m &&& (m - 1)) := by
  have h1 : bitsL (m &&& (m - 1)) = (bitsL m).filter fun j => !(decide (j = tz m)) := by
    unfold bitsL
    rw [List.filter_filter]
    congr 1; funext j
    rw [clear_bit h0 h, Bool.and_comm]
  rw [h1]
  have hs := bitsL_nodup m
  unfold tz
  cases hb : bitsL m with
  | nil => exact absurd hb (bitsL_ne h0 h)
  | cons a r =>
    rw [hb, List.nodup_cons] at hs
    simp only [List.headD_cons, List.filter_cons, decide_true, Bool.not_true, Bool.false_eq_true, if_false, List.cons.injEq, true_and]
    rw [eq_comm, List.filter_eq_self]
    intro x hx
    have : x ≠ a := fun e => hs.1 (e ▸ hx)
    simp [this]
theorem bitsL_and (m o : Nat) : bitsL (m &&& o) = (bitsL m).filter fun i => Nat.testBit o i := by
  unfold bitsL
  rw [List.filter_filter]
  congr 1; funext j
  rw [Nat.testBit_and, Bool.and_comm]
def anb (a b : Nat) : Nat := (BitVec.ofNat 32 a &&& ~~~(BitVec.ofNat 32 b)).toNat
theorem anb_lt (a b : Nat) : anb a b < 2 ^ 32 := BitVec.isLt _
theorem anb_bit {a : Nat} (b : Nat) (h : a < 2 ^ 32) (j : Nat) : Nat.testBit (anb a b) j = (Nat.testBit a j && !(Nat.testBit b j)) := by
  unfold anb
  rw [BitVec.testBit_toNat, BitVec.getLsbD_and, BitVec.getLsbD_not, BitVec.getLsbD_ofNat, BitVec.getLsbD_ofNat]
  by_cases hj : j < 32
  · simp [hj]
  · have : Nat.testBit a j = false := Nat.testBit_lt_two_pow (Nat.lt_of_lt_of_le h (Nat.pow_le_pow_right (by decide) (by omega)))
    simp [this]
theorem bitsL_anb {m : Nat} (b : Nat) (h : m < 2 ^ 32) : bitsL (anb m (2 ^ b)) = (bitsL m).filter fun i => !(decide (i = b)) := by
  unfold bitsL
  rw [List.filter_filter]
  congr 1; funext j
  rw [anb_bit _ h, Nat.testBit_two_pow, Bool.and_comm]
  congr 2
  exact decide_eq_decide.2 eq_comm
theorem and_lt {m o : Nat} (h : m < 2 ^ 32) : m &&& o < 2 ^ 32 := Nat.lt_of_le_of_lt Nat.and_le_left h
theorem anb_le {m b : Nat} (h : m < 2 ^ 32) : anb m b ≤ m := by
  have : anb m b = m &&& anb m b := by
    apply Nat.eq_of_testBit_eq
    intro j
    rw [Nat.testBit_and, anb_bit _ h]
    cases Nat.testBit m j <;> simp
  rw [this]; exact Nat.and_le_left
theorem u32_and {a b : Nat} (ha : a < 2 ^ 32) (hb : b < 2 ^ 32) : bitsOf .and .u32 (a : Int) (b : Int) = ((a &&& b : Nat) : Int) := by
  have h := and_lt (o := b) ha
  simp only [bitsOf, BitVec.ofInt_natCast, BitVec.toNat_and, BitVec.toNat_ofNat, show IntKind.u32.bits = 32 from rfl]
  rw [Nat.mod_eq_of_lt ha, Nat.mod_eq_of_lt hb]
  exact wrapu32 (by omega) (by omega)
theorem u32_andNot {a b : Nat} : bitsOf .andNot .u32 (a : Int) (b : Int) = (anb a b : Int) := by
  have h := anb_lt a b
  simp only [bitsOf, BitVec.ofInt_natCast]
  exact wrapu32 (Int.natCast_nonneg _) (by show (anb a b : Int) < _; omega)
theorem u32_neg {m : Nat} (h0 : m ≠ 0) (h : m < 2 ^ 32) : IntKind.u32.wrap (0 - (m : Int)) = ((2 ^ 32 - m : Nat) : Int) := by
  simp [IntKind.wrap, IntKind.bits, IntKind.signed]
  omega
theorem u32_pred {m : Nat} (h0 : m ≠ 0) (h : m < 2 ^ 32) : IntKind.u32.wrap ((m : Int) - 1) = ((m - 1 : Nat) : Int) := by
  rw [wrapu32 (by omega) (by omega)]; omega
end Go.Idl
namespace Go.Idl
set_option linter.all false
set_option maxHeartbeats 4000000
set_option maxRecDepth 40000

section
variable {α β : Type}
/-- Each one with the others. -/
def picks : List α → List (α × List α)
  | [] => []
  | b :: r => (b, r) :: (picks r).map fun p => (p.1, b :: p.2)
theorem picks_length : ∀ l : List α, (picks l).length = l.length
  | [] => rfl
  | b :: r => by simp [picks, picks_length r]
theorem picks_len : ∀ {l : List α} {p : α × List α}, p ∈ picks l → p.2.length + 1 = l.length
  | b :: r, p, h => by
    simp only [picks, List.mem_cons, List.mem_map] at h
    rcases h with rfl | ⟨q, hq, rfl⟩
    · rfl
    · simp only [List.length_cons, picks_len hq]
theorem picks_at : ∀ (l : List α) (i : Nat) (h : i < l.length), (picks l)[i]? = some (l[i], l.eraseIdx i)
  | b :: r, 0, _ => by simp [picks]
  | b :: r, i + 1, h => by simp [picks, picks_at r i (by simpa using h)]
theorem picks_map (g : α → β) : ∀ l : List α, picks (l.map g) = (picks l).map fun p => (g p.1, p.2.map g)
  | [] => rfl
  | b :: r => by simp [picks, picks_map g r]
theorem picks_nodup [DecidableEq α] : ∀ {l : List α}, l.Nodup → picks l = l.map fun b => (b, l.filter fun x => !(decide (x = b)))
  | [], _ => rfl
  | b :: r, h => by
    rw [List.nodup_cons] at h
    simp only [picks, picks_nodup h.2, List.map_cons, List.map_map]
    congr 1
    · simp only [List.filter_cons, decide_true, Bool.not_true, Bool.false_eq_true, if_false, Prod.mk.injEq, true_and]
      rw [eq_comm, List.filter_eq_self]
      intro x hx
      have : x ≠ b := fun e => h.1 (e ▸ hx)
      simp [this]
    · apply List.map_congr_left
      intro x hx
      have : b ≠ x := fun e => h.1 (e ▸ hx)
      simp [this]
theorem picks_mem {l : List α} {p : α × List α} (h : p ∈ picks l) : p.1 ∈ l ∧ ∀ x ∈ p.2, x ∈ l := by
  induction l generalizing p with
  | nil => cases h
  | cons b r ih =>
    simp only [picks, List.mem_cons, List.mem_map] at h
    rcases h with rfl | ⟨q, hq, rfl⟩
    · exact ⟨by simp, fun x hx => by simp [hx]⟩
    · have := ih hq
      refine ⟨by simp [this.1], fun x hx => ?_⟩
      rcases List.mem_cons.1 hx with rfl | hx
      · simp
      · simp [this.2 x hx]

theorem flatMap_ext {l : List α} {f g : α → List β} (h : ∀ x ∈ l, f x = g x) : l.flatMap f = l.flatMap g := by
  induction l with
  | nil => rfl
  | cons a l ih => rw [List.flatMap_cons, List.flatMap_cons, h a (by simp), ih fun x hx => h x (by simp [hx])]
/-- All draws. -/
def drsF (ok : α → α → Bool) : Nat → List α → List (List (α × α))
  | _, [] => [[]]
  | 0, _ :: _ => []
  | f + 1, a :: rest => (picks rest).flatMap fun p => if ok a p.1 = true then (drsF ok f p.2).map ((a, p.1) :: ·) else []
def drs (ok : α → α → Bool) (l : List α) : List (List (α × α)) := drsF ok l.length l
variable {ok : α → α → Bool}
theorem drsF_fuel : ∀ (f : Nat) (l : List α), l.length ≤ f → drsF ok f l = drsF ok l.length l
  | _, [], _ => by simp [drsF]
  | 0, _ :: _, h => by simp at h
  | f + 1, a :: rest, h => by
    simp only [drsF, List.length_cons]
    apply flatMap_ext
    intro p hp
    have := picks_len hp
    rw [drsF_fuel f p.2 (by simp at h; omega), drsF_fuel rest.length p.2 (by omega)]
theorem drs_nil : drs ok [] = [[]] := by simp [drs, drsF]
theorem drs_cons (a : α) (rest : List α) : drs ok (a :: rest) = (picks rest).flatMap fun p => if ok a p.1 = true then (drs ok p.2).map ((a, p.1) :: ·) else [] := by
  simp only [drs, drsF, List.length_cons]
  apply flatMap_ext
  intro p hp
  have := picks_len hp
  rw [drsF_fuel rest.length p.2 (by omega)]
theorem drs_map (g : α → β) {ok' : β → β → Bool} (h : ∀ a b, ok a b = ok' (g a) (g b)) : ∀ (n : Nat) (l : List α), l.length ≤ n → drs ok' (l.map g) = (drs ok l).map fun d => d.map fun p => (g p.1, g p.2)
  | _, [], _ => by simp [drs_nil]
  | 0, _ :: _, h => by simp at h
  | n + 1, a :: rest, hl => by
    rw [List.map_cons, drs_cons, drs_cons, picks_map, List.flatMap_map, List.map_flatMap]
    apply flatMap_ext
    intro p hp
    have := picks_len hp
    simp only [← h]
    split
    · rw [drs_map g h n p.2 (by simp at hl; omega), List.map_map, List.map_map]
      apply List.map_congr_left
      intro d _
      simp
    · rfl
theorem nodup_picks {l : List α} (h : l.Nodup) {p : α × List α} (hp : p ∈ picks l) : p.2.Nodup ∧ p.1 ∉ p.2 := by
  induction l generalizing p with
  | nil => cases hp
  | cons b r ih =>
    rw [List.nodup_cons] at h
    simp only [picks, List.mem_cons, List.mem_map] at hp
    rcases hp with rfl | ⟨q, hq, rfl⟩
    · exact ⟨h.2, h.1⟩
    · have := ih h.2 hq
      have hm := picks_mem hq
      refine ⟨List.nodup_cons.2 ⟨fun hb => h.1 (hm.2 b hb), this.1⟩, ?_⟩
      simp only [List.mem_cons, not_or]
      exact ⟨fun e => h.1 (e ▸ hm.1), this.2⟩
theorem drs_congr {ok' : α → α → Bool} : ∀ (n : Nat) (l : List α), l.length ≤ n → l.Nodup → (∀ a ∈ l, ∀ b ∈ l, a ≠ b → ok a b = ok' a b) → drs ok l = drs ok' l
  | _, [], _, _, _ => by simp [drs_nil]
  | 0, _ :: _, h, _, _ => by simp at h
  | n + 1, a :: rest, hl, hn, h => by
    rw [drs_cons, drs_cons]
    apply flatMap_ext
    intro p hp
    have h1 := picks_len hp
    have h2 := picks_mem hp
    rw [List.nodup_cons] at hn
    rw [h a (by simp) p.1 (by simp [h2.1]) (fun e => hn.1 (e ▸ h2.1)), drs_congr n p.2 (by simp at hl; omega) (nodup_picks hn.2 hp).1 fun x hx y hy => h x (by simp [h2.2 x hx]) y (by simp [h2.2 y hy])]

/-- How many. -/
def cntL (ok : α → α → Bool) (l : List α) : Nat := (drs ok l).length
theorem cntL_nil : cntL ok [] = 1 := by simp [cntL, drs_nil]
theorem cntL_cons (a : α) (rest : List α) : cntL ok (a :: rest) = ((picks rest).map fun p => if ok a p.1 = true then cntL ok p.2 else 0).sum := by
  unfold cntL
  rw [drs_cons, List.length_flatMap]
  congr 1
  apply List.map_congr_left
  intro p _
  split <;> simp
theorem sum_filter {l : List α} {f : α → Nat} {q : α → Bool} : (l.map fun b => if q b = true then f b else 0).sum = ((l.filter q).map f).sum := by
  induction l with
  | nil => rfl
  | cons a l ih =>
    simp only [List.map_cons, List.sum_cons, List.filter_cons, ih]
    split <;> simp
theorem cntL_nodup [DecidableEq α] (a : α) {rest : List α} (h : rest.Nodup) : cntL ok (a :: rest) = ((rest.filter (ok a)).map fun b => cntL ok (rest.filter fun x => !(decide (x = b)))).sum := by
  rw [cntL_cons, picks_nodup h, List.map_map]
  exact sum_filter
theorem sum_le {l : List α} {f : α → Nat} {B : Nat} (h : ∀ x ∈ l, f x ≤ B) : (l.map f).sum ≤ l.length * B := by
  induction l with
  | nil => simp
  | cons a l ih =>
    have := ih fun x hx => h x (by simp [hx])
    have h2 := h a (by simp)
    simp only [List.map_cons, List.sum_cons, List.length_cons, Nat.add_mul]
    omega
theorem cntL_le : ∀ (k : Nat) (l : List α), l.length ≤ 2 * k → l.length ≤ 17 → cntL ok l ≤ 16 ^ k
  | k, [], _, _ => by rw [cntL_nil]; exact Nat.pow_pos (by decide)
  | 0, a :: rest, h, _ => by simp at h
  | k + 1, a :: rest, h, h2 => by
    rw [cntL_cons]
    refine Nat.le_trans (sum_le (B := 16 ^ k) fun p hp => ?_) ?_
    · split
      · have := picks_len hp
        exact cntL_le k p.2 (by simp at h; omega) (by simp at h2; omega)
      · exact Nat.zero_le _
    · rw [picks_length, Nat.pow_succ, Nat.mul_comm]
      exact Nat.mul_le_mul_left _ (by simpa using h2)
end
end Go.Idl
namespace Go.Idl
set_option linter.all false
set_option maxHeartbeats 4000000
set_option maxRecDepth 40000

section
variable {α : Type} [DecidableEq α] {ok : α → α → Bool}
/-- The others. -/
def wo (b : α) (l : List α) : List α := l.filter fun x => !(decide (x = b))
/-- The draws in which a meets one of J. -/
def dJ (ok : α → α → Bool) (a : α) (rest J : List α) : List (List (α × α)) := J.flatMap fun b => (drs ok (wo b rest)).map ((a, b) :: ·)
theorem dJ_nil (a : α) (rest : List α) : dJ ok a rest [] = [] := rfl
theorem dJ_cons (a : α) (rest : List α) (b : α) (J : List α) : dJ ok a rest (b :: J) = (drs ok (wo b rest)).map ((a, b) :: ·) ++ dJ ok a rest J := rfl
theorem dJ_append (a : α) (rest : List α) (J K : List α) : dJ ok a rest (J ++ K) = dJ ok a rest J ++ dJ ok a rest K := by simp [dJ]
theorem flat_filter {γ δ : Type} {l : List γ} {f : γ → List δ} {q : γ → Bool} : (l.flatMap fun b => if q b = true then f b else []) = (l.filter q).flatMap f := by
  induction l with
  | nil => rfl
  | cons a l ih =>
    simp only [List.flatMap_cons, List.filter_cons, ih]
    split <;> simp
theorem drs_nodup (a : α) {rest : List α} (h : rest.Nodup) : drs ok (a :: rest) = dJ ok a rest (rest.filter (ok a)) := by
  rw [drs_cons, picks_nodup h, List.flatMap_map]
  exact flat_filter
theorem dJ_length (a : α) (rest J : List α) : (dJ ok a rest J).length = (J.map fun b => cntL ok (wo b rest)).sum := by
  simp [dJ, List.length_flatMap, cntL, Function.comp_def]
theorem drs_len : ∀ (n : Nat) (l : List α), l.length ≤ n → ∀ d ∈ drs ok l, 2 * d.length = l.length
  | _, [], _, d, hd => by rw [drs_nil] at hd; simp at hd; simp [hd]
  | 0, _ :: _, h, _, _ => by simp at h
  | n + 1, a :: rest, h, d, hd => by
    rw [drs_cons, List.mem_flatMap] at hd
    obtain ⟨p, hp, hd⟩ := hd
    have h1 := picks_len hp
    split at hd
    · obtain ⟨d', hd', rfl⟩ := List.mem_map.1 hd
      have := drs_len n p.2 (by simp at h; omega) d' hd'
      simp only [List.length_cons]; omega
    · cases hd

/-- The place of one in a list. -/
def ix {γ : Type} [DecidableEq γ] : List γ → γ → Option Nat
  | [], _ => none
  | x :: l, d => if x = d then some 0 else (ix l d).map (· + 1)
variable {γ : Type} [DecidableEq γ]
theorem ix_append (l m : List γ) (d : γ) : ix (l ++ m) d = match ix l d with | some i => some i | none => (ix m d).map (· + l.length) := by
  induction l with
  | nil => simp [ix]
  | cons x l ih =>
    simp only [List.cons_append, ix]
    split
    · rfl
    · rw [ih]
      cases ix l d with
      | some i => rfl
      | none =>
        simp only [Option.map_none, Option.map_map]
        congr 1
theorem ix_none {l : List γ} {d : γ} : ix l d = none ↔ d ∉ l := by
  induction l with
  | nil => simp [ix]
  | cons x l ih =>
    simp only [ix, List.mem_cons]
    split
    · rename_i h; simp [h]
    · rename_i h; rw [Option.map_eq_none_iff, ih]; simp [Ne.symm h]
theorem ix_some {l : List γ} {d : γ} {i : Nat} (h : ix l d = some i) : l[i]? = some d ∧ ∀ j, j < i → l[j]? ≠ some d := by
  induction l generalizing i with
  | nil => cases h
  | cons x l ih =>
    simp only [ix] at h
    split at h
    · rename_i h1; cases h; simp [h1]
    · rename_i h1
      cases hi : ix l d with
      | none => rw [hi] at h; cases h
      | some k =>
        rw [hi] at h; cases h
        have := ih hi
        refine ⟨by simpa using this.1, fun j hj => ?_⟩
        have hj : j < k + 1 := hj
        cases j with
        | zero => simpa using h1
        | succ j => simpa using this.2 j (by omega)
theorem ix_map {δ : Type} [DecidableEq δ] {f : γ → δ} (hf : ∀ x y, f x = f y → x = y) (l : List γ) (d : γ) : ix (l.map f) (f d) = ix l d := by
  induction l with
  | nil => rfl
  | cons x l ih =>
    simp only [List.map_cons, ix, ih]
    by_cases h : x = d
    · rw [if_pos h, if_pos (by rw [h])]
    · rw [if_neg h, if_neg fun e => h (hf _ _ e)]
theorem ix_get {l : List γ} (h : l.Nodup) {i : Nat} (hi : i < l.length) : ix l l[i] = some i := by
  cases hx : ix l l[i] with
  | none => exact absurd (List.getElem_mem hi) (ix_none.1 hx)
  | some k =>
    obtain ⟨h1, h2⟩ := ix_some hx
    obtain ⟨h3, h4⟩ := List.getElem?_eq_some_iff.1 h1
    have hp := List.pairwise_iff_getElem.1 h
    rcases Nat.lt_trichotomy i k with e | e | e
    · exact absurd (List.getElem?_eq_getElem hi) (h2 i e)
    · rw [e]
    · exact absurd h4 (hp k i h3 hi e)
theorem ix_dJ {a : α} {rest : List α} : ∀ {J : List α} {x y : α} {d : List (α × α)}, (x ≠ a ∨ y ∉ J) → ix (dJ ok a rest J) ((x, y) :: d) = none
  | [], _, _, _, _ => rfl
  | b :: J, x, y, d, h => by
    rw [dJ_cons, ix_append]
    have h1 : ix ((drs ok (wo b rest)).map ((a, b) :: ·)) ((x, y) :: d) = none := by
      rw [ix_none]
      intro hm
      obtain ⟨d', _, e⟩ := List.mem_map.1 hm
      simp only [List.cons.injEq, Prod.mk.injEq] at e
      rcases h with h | h
      · exact h e.1.1.symm
      · exact h (by simp [e.1.2])
    rw [h1, ix_dJ (h.imp_right fun h hm => h (by simp [hm]))]
    rfl
theorem ix_dJ_at {a b : α} {rest J K : List α} {d : List (α × α)} (hb : b ∉ J) : ix (dJ ok a rest (J ++ b :: K)) ((a, b) :: d) = match ix (drs ok (wo b rest)) d with | some i => some (i + (dJ ok a rest J).length) | none => ix (dJ ok a rest K) ((a, b) :: d) |>.map (· + ((drs ok (wo b rest)).length + (dJ ok a rest J).length)) := by
  rw [dJ_append, ix_append, ix_dJ (.inr hb), dJ_cons, ix_append, ix_map (f := ((a, b) :: ·)) (fun x y e => (List.cons.inj e).2)]
  cases ix (drs ok (wo b rest)) d with
  | some i => rfl
  | none =>
    simp only [Option.map_map, List.length_map]
    congr 1; funext i; simp only [Function.comp]; omega
end
end Go.Idl
namespace Go.Idl
set_option linter.all false
set_option maxHeartbeats 4000000
set_option maxRecDepth 40000

section
variable {α : Type} [DecidableEq α] {ok : α → α → Bool}
theorem wo_nodup {b : α} {l : List α} (h : l.Nodup) : (wo b l).Nodup := h.filter _
theorem mem_wo {b x : α} {l : List α} : x ∈ wo b l ↔ x ∈ l ∧ x ≠ b := by simp [wo]
theorem wo_comm (a b : α) (l : List α) : wo a (wo b l) = wo b (wo a l) := by
  unfold wo; rw [List.filter_filter, List.filter_filter]; congr 1; funext x; rw [Bool.and_comm]
theorem wo_not {b : α} {l : List α} (h : b ∉ l) : wo b l = l := by
  unfold wo; rw [List.filter_eq_self]; intro x hx; simp; exact fun e => h (e ▸ hx)
theorem wo_cons_ne {a b : α} {l : List α} (h : a ≠ b) : wo b (a :: l) = a :: wo b l := by
  unfold wo; rw [List.filter_cons]; simp [h]
theorem wo_cons_eq {b : α} {l : List α} : wo b (b :: l) = wo b l := by
  unfold wo; rw [List.filter_cons]; simp
theorem wo_length {b : α} : ∀ {l : List α}, l.Nodup → b ∈ l → (wo b l).length + 1 = l.length
  | [], _, h => by cases h
  | a :: l, hn, h => by
    rw [List.nodup_cons] at hn
    by_cases e : a = b
    · subst e; rw [wo_cons_eq, wo_not hn.1]; rfl
    · rw [wo_cons_ne e, List.length_cons, List.length_cons, wo_length hn.2 ((List.mem_cons.1 h).resolve_left (fun e2 => e e2.symm))]
theorem mem_drs {a : α} {rest : List α} (h : rest.Nodup) {d : List (α × α)} : d ∈ drs ok (a :: rest) ↔ ∃ b d', d = (a, b) :: d' ∧ b ∈ rest ∧ ok a b = true ∧ d' ∈ drs ok (wo b rest) := by
  rw [drs_nodup a h]
  simp only [dJ, List.mem_flatMap, List.mem_filter, List.mem_map]
  constructor
  · rintro ⟨b, ⟨h1, h2⟩, d', h3, rfl⟩; exact ⟨b, d', rfl, h1, h2, h3⟩
  · rintro ⟨b, d', rfl, h1, h2, h3⟩; exact ⟨b, ⟨h1, h2⟩, d', h3, rfl⟩
theorem drs_nodupL : ∀ (n : Nat) (l : List α), l.length ≤ n → l.Nodup → (drs ok l).Nodup
  | _, [], _, _ => by rw [drs_nil]; simp
  | n + 1, a :: rest, hn, h => by
    rw [List.nodup_cons] at h
    rw [drs_nodup a h.2]
    unfold dJ
    have hJ : (rest.filter (ok a)).Nodup := h.2.filter _
    have hsub : ∀ b ∈ rest.filter (ok a), b ∈ rest := fun b hb => (List.mem_filter.1 hb).1
    generalize rest.filter (ok a) = J at hJ hsub
    induction J with
    | nil => simp
    | cons b J ih =>
      rw [List.nodup_cons] at hJ
      rw [List.flatMap_cons, List.nodup_append]
      refine ⟨?_, ih hJ.2 fun x hx => hsub x (List.mem_cons_of_mem _ hx), ?_⟩
      · have := drs_nodupL n (wo b rest) (by have := wo_length h.2 (hsub b (List.mem_cons_self ..)); simp at hn; omega) (wo_nodup h.2)
        rw [List.Nodup, List.pairwise_map]; exact this.imp fun hxy e => hxy (by simpa using e)
      · intro d hd e he heq
        subst heq
        obtain ⟨d1, _, rfl⟩ := List.mem_map.1 hd
        obtain ⟨c, hc, hd2⟩ := List.mem_flatMap.1 he
        obtain ⟨d2, _, e2⟩ := List.mem_map.1 hd2
        simp at e2
        exact hJ.1 (e2.1 ▸ hc)

/-- (n - 1) · (n - 3) · .. -/
def df : Nat → Nat
  | 0 => 1
  | 1 => 0
  | n + 2 => (n + 1) * df n
theorem sum_const {β : Type} {l : List β} {f : β → Nat} {c : Nat} (h : ∀ x ∈ l, f x = c) : (l.map f).sum = l.length * c := by
  induction l with
  | nil => simp
  | cons a l ih =>
    rw [List.map_cons, List.sum_cons, ih fun x hx => h x (List.mem_cons_of_mem _ hx), h a (List.mem_cons_self ..), List.length_cons, Nat.succ_mul]
    omega
theorem cnt_le_df : ∀ (n : Nat) (l : List α), l.length = n → l.Nodup → cntL ok l ≤ df n
  | 0, l, hl, _ => by rw [List.eq_nil_of_length_eq_zero hl, cntL_nil]; exact Nat.le_refl _
  | 1, l, hl, h => by
    match l, hl with
    | [a], _ => rw [cntL_nodup a (by simp)]; simp
  | n + 2, l, hl, h => by
    match l, hl with
    | a :: rest, hl =>
      rw [List.nodup_cons] at h
      simp at hl
      rw [cntL_nodup a h.2]
      refine Nat.le_trans (sum_le (B := df n) fun b hb => ?_) ?_
      · have hb' := (List.mem_filter.1 hb).1
        exact cnt_le_df n (wo b rest) (by have := wo_length h.2 hb'; omega) (wo_nodup h.2)
      · have : (rest.filter (ok a)).length ≤ n + 1 := by rw [← hl]; exact List.length_filter_le _ _
        exact Nat.mul_le_mul_right _ this
theorem cnt_full : ∀ (n : Nat) (l : List α), l.length = n → l.Nodup → (∀ a ∈ l, ∀ b ∈ l, a ≠ b → ok a b = true) → cntL ok l = df n
  | 0, l, hl, _, _ => by rw [List.eq_nil_of_length_eq_zero hl, cntL_nil]; rfl
  | 1, l, hl, h, _ => by
    match l, hl with
    | [a], _ => rw [cntL_nodup a (by simp)]; simp [df]
  | n + 2, l, hl, h, hf => by
    match l, hl with
    | a :: rest, hl =>
      rw [List.nodup_cons] at h
      simp at hl
      have hfil : rest.filter (ok a) = rest := by
        rw [List.filter_eq_self]; intro b hb
        exact hf a (List.mem_cons_self ..) b (List.mem_cons_of_mem _ hb) fun e => h.1 (e ▸ hb)
      rw [cntL_nodup a h.2, hfil, sum_const (c := df n)]
      · rw [hl]; rfl
      · intro b hb
        exact cnt_full n (wo b rest) (by have := wo_length h.2 hb; omega) (wo_nodup h.2) fun x hx y hy hxy =>
          hf x (List.mem_cons_of_mem _ (mem_wo.1 hx).1) y (List.mem_cons_of_mem _ (mem_wo.1 hy).1) hxy

/-! ### in which order -/
/-- The first place where they differ: whose second comes first. -/
def befR (teams : List α) : List (α × α) → List (α × α) → Prop
  | p :: a, q :: b => (p = q ∧ befR teams a b) ∨ (p.1 = q.1 ∧ ∃ l1 l2, teams = l1 ++ p.2 :: l2 ∧ q.2 ∈ l2)
  | _, _ => False
theorem befR_sub {teams rest : List α} (hs : rest.Sublist teams) : ∀ {a b : List (α × α)}, befR rest a b → befR teams a b
  | p :: a, q :: b, h => by
    rcases h with ⟨h1, h2⟩ | ⟨h1, l1, l2, h2, h3⟩
    · exact .inl ⟨h1, befR_sub hs h2⟩
    · subst h2
      obtain ⟨m1, m2, rfl, e1, e2⟩ := List.append_sublist_iff.1 hs
      obtain ⟨m3, m4, rfl, e3, e4⟩ := List.cons_sublist_iff.1 e2 |> fun ⟨x, y, h1, h2, h3⟩ => (⟨x, y, h1, h2, h3⟩ : ∃ x y, m2 = x ++ y ∧ p.2 ∈ x ∧ l2.Sublist y)
      obtain ⟨n1, n2, rfl⟩ := List.append_of_mem e3
      exact .inr ⟨h1, m1 ++ n1, n2 ++ m4, by simp, List.mem_append_right _ (e4.subset h3)⟩
  | [], _, h => by simp [befR] at h
  | _ :: _, [], h => by simp [befR] at h
theorem drs_sorted : ∀ (n : Nat) (l : List α), l.length ≤ n → l.Nodup → (drs ok l).Pairwise (befR l)
  | _, [], _, _ => by rw [drs_nil]; simp
  | n + 1, a :: rest, hn, h => by
    rw [List.nodup_cons] at h
    rw [drs_nodup a h.2]
    have hJ : (rest.filter (ok a)).Sublist rest := List.filter_sublist
    generalize rest.filter (ok a) = J at hJ
    unfold dJ
    have key : ∀ J : List α, J.Sublist rest → (J.flatMap fun b => (drs ok (wo b rest)).map ((a, b) :: ·)).Pairwise (befR (a :: rest)) := by
      intro J
      induction J with
      | nil => intro _; simp
      | cons b J ih =>
        intro hJ
        have hb : b ∈ rest := hJ.subset (List.mem_cons_self ..)
        rw [List.flatMap_cons, List.pairwise_append]
        refine ⟨?_, ih (List.Sublist.trans (List.sublist_cons_self _ _) hJ), ?_⟩
        · rw [List.pairwise_map]
          have := drs_sorted n (wo b rest) (by have := wo_length h.2 hb; simp at hn; omega) (wo_nodup h.2)
          refine this.imp fun hxy => ?_
          exact .inl ⟨rfl, befR_sub (List.Sublist.trans List.filter_sublist (List.sublist_cons_self _ _)) hxy⟩
        · intro d hd e he
          obtain ⟨d1, _, rfl⟩ := List.mem_map.1 hd
          obtain ⟨c, hc, he2⟩ := List.mem_flatMap.1 he
          obtain ⟨e1, _, rfl⟩ := List.mem_map.1 he2
          obtain ⟨x, y, e3, e4, e5⟩ := List.cons_sublist_iff.1 hJ
          obtain ⟨n1, n2, rfl⟩ := List.append_of_mem e4
          exact .inr ⟨rfl, a :: n1, n2 ++ y, by rw [e3]; simp, List.mem_append_right _ (e5.subset hc)⟩
    exact key J hJ

/-! ### one pair more or less -/
def okW (ok : α → α → Bool) (i k : α) (a b : α) : Bool := ok a b && !(decide (a = i ∧ b = k) || decide (a = k ∧ b = i))
theorem okW_not {i k : α} {l : List α} (h : i ∉ l ∨ k ∉ l) (hn : l.Nodup) : drs (okW ok i k) l = drs ok l := by
  refine drs_congr l.length l (Nat.le_refl _) hn fun a ha b hb _ => ?_
  unfold okW
  have h1 : ¬ (a = i ∧ b = k) := by rintro ⟨rfl, rfl⟩; exact h.elim (fun h => h ha) fun h => h hb
  have h2 : ¬ (a = k ∧ b = i) := by rintro ⟨rfl, rfl⟩; exact h.elim (fun h => h hb) fun h => h ha
  simp [h1, h2]
theorem drs_okW {i k : α} : ∀ (n : Nat) (l : List α), l.length ≤ n → l.Nodup → ∀ d ∈ drs (okW ok i k) l, d ∈ drs ok l
  | _, [], _, _, d, hd => by rw [drs_nil] at hd ⊢; exact hd
  | n + 1, a :: rest, hn, h, d, hd => by
    rw [List.nodup_cons] at h
    obtain ⟨b, d', rfl, hb, hab, hd'⟩ := (mem_drs h.2).1 hd
    refine (mem_drs h.2).2 ⟨b, d', rfl, hb, ?_, drs_okW n (wo b rest) (by have := wo_length h.2 hb; simp at hn; omega) (wo_nodup h.2) d' hd'⟩
    unfold okW at hab
    simp only [Bool.and_eq_true] at hab
    exact hab.1
theorem cntL_cons' (a : α) {rest : List α} (h : rest.Nodup) : cntL ok (a :: rest) = (rest.map fun b => if ok a b = true then cntL ok (wo b rest) else 0).sum := by
  rw [cntL_nodup a h, sum_filter]; rfl
theorem sum_split {l : List α} {f g h : α → Nat} (e : ∀ x ∈ l, f x = g x + h x) : (l.map f).sum = (l.map g).sum + (l.map h).sum := by
  induction l with
  | nil => rfl
  | cons a l ih =>
    simp only [List.map_cons, List.sum_cons]
    rw [ih fun x hx => e x (List.mem_cons_of_mem _ hx), e a (List.mem_cons_self ..)]
    omega
theorem sum_one {l : List α} (hn : l.Nodup) {k : α} (hk : k ∈ l) {f : α → Nat} (h : ∀ x ∈ l, x ≠ k → f x = 0) : (l.map f).sum = f k := by
  induction l with
  | nil => cases hk
  | cons a l ih =>
    rw [List.nodup_cons] at hn
    rw [List.map_cons, List.sum_cons]
    by_cases e : a = k
    · subst e
      have : (l.map f).sum = l.length * 0 := sum_const fun x hx => h x (List.mem_cons_of_mem _ hx) fun e => hn.1 (e ▸ hx)
      rw [this]; omega
    · rw [h a (List.mem_cons_self ..) e, ih hn.2 ((List.mem_cons.1 hk).resolve_left fun e2 => e e2.symm) fun x hx hxk => h x (List.mem_cons_of_mem _ hx) hxk]; omega
theorem sum_wo {l : List α} {i : α} {f : α → Nat} (h : f i = 0) : (l.map f).sum = ((wo i l).map f).sum := by
  induction l with
  | nil => rfl
  | cons a l ih =>
    by_cases e : a = i
    · subst e; rw [wo_cons_eq, List.map_cons, List.sum_cons, h, ih]; omega
    · rw [wo_cons_ne e, List.map_cons, List.sum_cons, List.map_cons, List.sum_cons, ih]
theorem fewer {i k : α} (hik : i ≠ k) (sym : ok i k = ok k i) : ∀ (n : Nat) (l : List α), l.length ≤ n → l.Nodup → i ∈ l → k ∈ l →
    cntL ok l = cntL (okW ok i k) l + if ok i k = true then cntL ok (wo i (wo k l)) else 0
  | 0, [], _, _, hi, _ => by cases hi
  | 0, _ :: _, hl, _, _, _ => by simp at hl
  | n + 1, [], _, _, hi, _ => by cases hi
  | n + 1, a :: rest, hn, h, hi, hk => by
    rw [List.nodup_cons] at h
    have first : ∀ (i k : α), i ≠ k → i ∉ rest → k ∈ rest → cntL ok (i :: rest) = cntL (okW ok i k) (i :: rest) + if ok i k = true then cntL ok (wo k rest) else 0 := by
      intro i k hik hi hk
      have hX := sum_one h.2 hk (f := fun b => if b = k then (if ok i k = true then cntL ok (wo k rest) else 0) else 0) (fun x _ hx => by simp [hx])
      rw [if_pos rfl] at hX
      rw [cntL_cons' i h.2, cntL_cons' i h.2, ← hX]
      refine sum_split fun b hb => ?_
      by_cases e : b = k
      · subst e
        have : okW ok i b i b = false := by simp [okW]
        simp [this]
      · have h1 : okW ok i k i b = ok i b := by simp [okW, e, hik]
        have h2 : cntL (okW ok i k) (wo b rest) = cntL ok (wo b rest) := by
          unfold cntL; rw [okW_not (.inl fun hc => hi (mem_wo.1 hc).1) (wo_nodup h.2)]
        rw [h1, h2, if_neg e]; rfl
    by_cases hai : a = i
    · subst hai
      have hk' : k ∈ rest := (List.mem_cons.1 hk).resolve_left fun e => hik e.symm
      rw [first a k hik h.1 hk', wo_cons_ne hik, wo_cons_eq, wo_not (fun hc => h.1 (mem_wo.1 hc).1)]
    · by_cases hak : a = k
      · subst hak
        have hi' : i ∈ rest := (List.mem_cons.1 hi).resolve_left fun e => hik e
        have hsw : okW ok i a = okW ok a i := by funext x y; simp only [okW]; rw [Bool.or_comm]
        rw [first a i (fun e => hik e.symm) h.1 hi', hsw, sym, wo_cons_eq, wo_not (b := a) h.1]
      · have hi' : i ∈ rest := (List.mem_cons.1 hi).resolve_left fun e => hai e.symm
        have hk' : k ∈ rest := (List.mem_cons.1 hk).resolve_left fun e => hak e.symm
        have hwn := wo_nodup (b := i) (wo_nodup (b := k) h.2)
        have hR : (if ok i k = true then cntL ok (wo i (wo k (a :: rest))) else 0) = (rest.map fun b => if b = i ∨ b = k then 0 else if ok a b = true then (if ok i k = true then cntL ok (wo i (wo k (wo b rest))) else 0) else 0).sum := by
          rw [sum_wo (i := k) (by simp), sum_wo (i := i) (by simp), wo_cons_ne hak, wo_cons_ne hai, cntL_cons' a hwn]
          have hL : ∀ b ∈ wo i (wo k rest), (if b = i ∨ b = k then 0 else if ok a b = true then (if ok i k = true then cntL ok (wo i (wo k (wo b rest))) else 0) else 0) = if ok i k = true then (if ok a b = true then cntL ok (wo b (wo i (wo k rest))) else 0) else 0 := by
            intro b hb
            obtain ⟨h1, h2⟩ := mem_wo.1 hb
            have h3 := (mem_wo.1 h1).2
            rw [if_neg (by simp [h2, h3]), wo_comm b i, wo_comm b k]
            split <;> split <;> rfl
          rw [List.map_congr_left hL]
          split
          · rfl
          · exact (sum_const (c := 0) fun _ _ => rfl).symm
        rw [hR, cntL_cons' a h.2, cntL_cons' a h.2]
        refine sum_split fun b hb => ?_
        have h1 : okW ok i k a b = ok a b := by simp [okW, hai, hak]
        rw [h1]
        by_cases e : b = i ∨ b = k
        · have h2 : cntL (okW ok i k) (wo b rest) = cntL ok (wo b rest) := by
            unfold cntL; rw [okW_not (e.imp (fun e hc => (mem_wo.1 hc).2 e.symm) fun e hc => (mem_wo.1 hc).2 e.symm) (wo_nodup h.2)]
          rw [h2, if_pos e]; rfl
        · have e1 : i ∈ wo b rest := mem_wo.2 ⟨hi', fun e2 => e (.inl e2.symm)⟩
          have e2 : k ∈ wo b rest := mem_wo.2 ⟨hk', fun e2 => e (.inr e2.symm)⟩
          rw [if_neg e]
          by_cases hab : ok a b = true
          · rw [if_pos hab, if_pos hab, if_pos hab]
            exact fewer hik sym n (wo b rest) (by have := wo_length h.2 hb; simp at hn; omega) (wo_nodup h.2) e1 e2
          · rw [if_neg hab, if_neg hab, if_neg hab]
end
end Go.Idl
namespace Go.Idl
set_option linter.all false
open Go.Proofs
set_option maxHeartbeats 4000000
set_option maxRecDepth 40000

def ints (l : List Int) : List (List IV) := mp (fun x => [.int .i64 x]) l
@[simp] theorem ints_length (l : List Int) : (ints l).length = l.length := mp_length
@[simp] theorem ints_getElem (l : List Int) (i : Nat) (h : i < (ints l).length) : (ints l)[i] = [.int .i64 (l[i]'(by simpa using h))] := by simp [ints, mp]
theorem ints_snoc {l : List Int} {x : Int} : ints (l ++ [x]) = ints l ++ [[.int .i64 x]] := mp_snoc
theorem ints_append {l m : List Int} : ints (l ++ m) = ints l ++ ints m := mp_append
@[go_sem] theorem ints_nil : ints [] = [] := rfl
@[go_sem] theorem ScR_ints {l : List Int} : ScR (ints l) = True := eq_true (mp_sc (by simp [scal]))
@[go_sem] theorem ClR_ints {l : List Int} : ClR (ints l) = True := eq_true (ScR.cl (mp_sc (by simp [scal])))
@[go_sem] theorem BlR_ints {n : Nat} {l : List Int} : BlR n (ints l) = True := eq_true (ScR.bl (mp_sc (by simp [scal])))
theorem ints_rows {l : List Int} : ∀ r ∈ ints l, r.length = 1 := mp_rows (by simp)
theorem ints_one {l : List Int} : ∀ a ∈ ints l, a.length = 1 ∧ ∀ x ∈ a, IV.one x = true := rows_one (mp_sc (by simp [scal])) ints_rows
def prs (l : List (Int × Int)) : List (List IV) := mp (fun p => [.int .i64 p.1, .int .i64 p.2]) l
@[simp] theorem prs_length (l : List (Int × Int)) : (prs l).length = l.length := mp_length
@[simp] theorem prs_getElem (l : List (Int × Int)) (i : Nat) (h : i < (prs l).length) : (prs l)[i] = [.int .i64 (l[i]'(by simpa using h)).1, .int .i64 (l[i]'(by simpa using h)).2] := by simp [prs, mp]
theorem prs_snoc {l : List (Int × Int)} {x : Int × Int} : prs (l ++ [x]) = prs l ++ [[.int .i64 x.1, .int .i64 x.2]] := mp_snoc
theorem prs_append {l m : List (Int × Int)} : prs (l ++ m) = prs l ++ prs m := mp_append
@[go_sem] theorem prs_nil : prs [] = [] := rfl
@[go_sem] theorem ScR_prs {l : List (Int × Int)} : ScR (prs l) = True := eq_true (mp_sc (by simp [scal]))
@[go_sem] theorem ClR_prs {l : List (Int × Int)} : ClR (prs l) = True := eq_true (ScR.cl (mp_sc (by simp [scal])))
@[go_sem] theorem BlR_prs {n : Nat} {l : List (Int × Int)} : BlR n (prs l) = True := eq_true (ScR.bl (mp_sc (by simp [scal])))
theorem prs_rows {l : List (Int × Int)} : ∀ r ∈ prs l, r.length = 2 := mp_rows (by simp)
theorem prs_one {l : List (Int × Int)} : ∀ a ∈ prs l, a.length = 2 ∧ ∀ x ∈ a, IV.one x = true := rows_one (mp_sc (by simp [scal])) prs_rows

/-- The table that finds a bit. -/
def tabL : List Nat := [0, 1, 28, 2, 29, 14, 24, 3, 30, 22, 20, 15, 25, 17, 4, 8, 31, 27, 13, 23, 21, 19, 16, 7, 26, 12, 18, 6, 11, 5, 10, 9]
def tabR : List IV := tabL.map fun n => .int .u8 (n : Nat)
def tabv : IV := .fptr 32 [tabR] 0 0
def glT : List (Nat × IV) := [(0, tabv)]
theorem tabR_cl : ∀ c ∈ tabR, Cl c := by
  intro c hc
  obtain ⟨n, _, rfl⟩ := List.mem_map.1 hc
  exact .int _ _
theorem tabv_cl : Cl tabv := .fptr _ _ _ _ fun i row j c h1 h2 => by
  cases i with
  | zero => simp only [List.getElem?_cons_zero, Option.some.injEq] at h1; subst h1; exact tabR_cl c (List.mem_of_getElem? h2)
  | succ i => simp at h1
theorem glT_cl : glCl glT := ⟨tabv_cl, trivial⟩
@[go_sem] theorem glT_clT : glCl glT = True := eq_true glT_cl
@[go_sem] theorem glT_get : eget glT 0 = some (.fptr 32 [tabR] 0 0) := rfl
@[go_sem] theorem glT_bl {n : Nat} : EnBl n glT = True := eq_true (by unfold glT; rw [EnBl_cons]; exact ⟨tabv_cl.bl, by rw [EnBl_nil]; trivial⟩)
theorem IFun.gl_of {own : Bool} {P : Program} {f : FuncId} {args : List IV} {V : IV → Prop} {gl : List (Nat × IV)} (h : IFun own P [] f args V) : IFun own P gl f args V :=
  ⟨h.1, fun μ F w vs h1 h2 _ => h.2 μ F w vs h1 h2 fun g c e => by simp [eget] at e⟩
/-- A function of this chapter. -/
abbrev F36 (f : FuncId) (args : List IV) (V : IV → Prop) : Prop := IFun true Tryd.prog glT f args V
theorem F36.call {f : FuncId} {args args' : List IV} {σ : Heap} {V : IV → Prop} {K : IV → Heap → Prop} (h : F36 f args' V) (ha : okL true 4 σ args ∧ nzL 4 (frzL 4 σ args) args') (hK : ∀ v, V v → K v σ) : ICalls Tryd.prog glT f args σ K :=
  IFun.call h (nzL_frs (okL_frs ha.1) ha.2) (glCl_get glT_cl) hK
/-- A function of this chapter that may hand back what came in. -/
abbrev O36 (f : FuncId) (args : List IV) (V : IV → Prop) : Prop := IFun false Tryd.prog glT f args V
theorem O36.call {f : FuncId} {args : List IV} {σ : Heap} {V : IV → Prop} {K : IV → Heap → Prop} (h : O36 f args V) (ha : ∀ c ∈ args, Cl c) (hK : ∀ v, V v → K v σ) : ICalls Tryd.prog glT f args σ K :=
  IFun.callC h (fun _ _ e => ha _ (List.mem_of_getElem? e)) (glCl_get glT_cl) hK
end Go.Idl
