/-
  Chapter 28: the types.
-/
import Derived.Test.YtdnkleclccjffaaProg
import Derived.Test.YtdnkleclccjffaaIdlPartG
import Derived.KernelRfl
namespace Go.Idl
set_option linter.all false
open Go.Proofs
@[go_sem] theorem t28_1_h : hasP Try.prog 1 = true := by decide +kernel
@[go_sem] theorem t28_1_s : sizeP Try.prog 1 = 1 := by decide +kernel
@[go_sem] theorem t28_1_a : aggP Try.prog 1 = false := by decide +kernel
@[go_sem] theorem t28_1_z : zeroP Try.prog 1 = some [.nilf] := _root_.id (by kernel_rfl)
@[go_sem] theorem t28_1_o : zeroOK Try.prog 1 = true := by decide +kernel
@[go_sem] theorem t28_1_i : zeroI Try.prog 1 = some (.nilf) := _root_.id (by kernel_rfl)
@[go_sem] theorem t28_1_y : (((Try.prog.info? 1).map (·.bytes)).getD 0 ≤ 256) = True := eq_true (by decide +kernel)
@[go_sem] theorem t28_1_b : (bytesP Try.prog 1 ≤ 1024) = True := eq_true (by decide +kernel)
@[go_sem] theorem t28_2_h : hasP Try.prog 2 = true := by decide +kernel
@[go_sem] theorem t28_2_s : sizeP Try.prog 2 = 1 := by decide +kernel
@[go_sem] theorem t28_2_a : aggP Try.prog 2 = false := by decide +kernel
@[go_sem] theorem t28_2_z : zeroP Try.prog 2 = some [.int .i64 0] := _root_.id (by kernel_rfl)
@[go_sem] theorem t28_2_o : zeroOK Try.prog 2 = true := by decide +kernel
@[go_sem] theorem t28_2_i : zeroI Try.prog 2 = some (.int .i64 0) := _root_.id (by kernel_rfl)
@[go_sem] theorem t28_2_y : (((Try.prog.info? 2).map (·.bytes)).getD 0 ≤ 256) = True := eq_true (by decide +kernel)
@[go_sem] theorem t28_2_b : (bytesP Try.prog 2 ≤ 1024) = True := eq_true (by decide +kernel)
@[go_sem] theorem t28_2_k : keyK Try.prog 2 = some [.int .i64] := key_of (by decide +kernel)
@[go_sem] theorem t28_3_h : hasP Try.prog 3 = true := by decide +kernel
@[go_sem] theorem t28_3_s : sizeP Try.prog 3 = 1 := by decide +kernel
@[go_sem] theorem t28_3_a : aggP Try.prog 3 = false := by decide +kernel
@[go_sem] theorem t28_3_z : zeroP Try.prog 3 = some [.int .i64 0] := _root_.id (by kernel_rfl)
@[go_sem] theorem t28_3_o : zeroOK Try.prog 3 = true := by decide +kernel
@[go_sem] theorem t28_3_i : zeroI Try.prog 3 = some (.int .i64 0) := _root_.id (by kernel_rfl)
@[go_sem] theorem t28_3_y : (((Try.prog.info? 3).map (·.bytes)).getD 0 ≤ 256) = True := eq_true (by decide +kernel)
@[go_sem] theorem t28_3_b : (bytesP Try.prog 3 ≤ 1024) = True := eq_true (by decide +kernel)
@[go_sem] theorem t28_3_k : keyK Try.prog 3 = some [.int .i64] := key_of (by decide +kernel)
@[go_sem] theorem t28_4_h : hasP Try.prog 4 = true := by decide +kernel
@[go_sem] theorem t28_4_s : sizeP Try.prog 4 = 1 := by decide +kernel
@[go_sem] theorem t28_4_a : aggP Try.prog 4 = false := by decide +kernel
@[go_sem] theorem t28_4_z : zeroP Try.prog 4 = some [.bool false] := _root_.id (by kernel_rfl)
@[go_sem] theorem t28_4_o : zeroOK Try.prog 4 = true := by decide +kernel
@[go_sem] theorem t28_4_i : zeroI Try.prog 4 = some (.bool false) := _root_.id (by kernel_rfl)
@[go_sem] theorem t28_4_y : (((Try.prog.info? 4).map (·.bytes)).getD 0 ≤ 256) = True := eq_true (by decide +kernel)
@[go_sem] theorem t28_4_b : (bytesP Try.prog 4 ≤ 1024) = True := eq_true (by decide +kernel)
@[go_sem] theorem t28_4_k : keyK Try.prog 4 = some [.bool] := key_of (by decide +kernel)
@[go_sem] theorem t28_5_h : hasP Try.prog 5 = true := by decide +kernel
@[go_sem] theorem t28_5_s : sizeP Try.prog 5 = 1 := by decide +kernel
@[go_sem] theorem t28_5_a : aggP Try.prog 5 = false := by decide +kernel
@[go_sem] theorem t28_5_z : zeroP Try.prog 5 = some [.int .u8 0] := _root_.id (by kernel_rfl)
@[go_sem] theorem t28_5_o : zeroOK Try.prog 5 = true := by decide +kernel
@[go_sem] theorem t28_5_i : zeroI Try.prog 5 = some (.int .u8 0) := _root_.id (by kernel_rfl)
@[go_sem] theorem t28_5_y : (((Try.prog.info? 5).map (·.bytes)).getD 0 ≤ 256) = True := eq_true (by decide +kernel)
@[go_sem] theorem t28_5_b : (bytesP Try.prog 5 ≤ 1024) = True := eq_true (by decide +kernel)
@[go_sem] theorem t28_5_k : keyK Try.prog 5 = some [.int .u8] := key_of (by decide +kernel)
@[go_sem] theorem t28_6_h : hasP Try.prog 6 = true := by decide +kernel
@[go_sem] theorem t28_6_s : sizeP Try.prog 6 = 1 := by decide +kernel
@[go_sem] theorem t28_6_a : aggP Try.prog 6 = false := by decide +kernel
@[go_sem] theorem t28_6_z : zeroP Try.prog 6 = some [.int .u8 0] := _root_.id (by kernel_rfl)
@[go_sem] theorem t28_6_o : zeroOK Try.prog 6 = true := by decide +kernel
@[go_sem] theorem t28_6_i : zeroI Try.prog 6 = some (.int .u8 0) := _root_.id (by kernel_rfl)
@[go_sem] theorem t28_6_y : (((Try.prog.info? 6).map (·.bytes)).getD 0 ≤ 256) = True := eq_true (by decide +kernel)
@[go_sem] theorem t28_6_b : (bytesP Try.prog 6 ≤ 1024) = True := eq_true (by decide +kernel)
@[go_sem] theorem t28_6_k : keyK Try.prog 6 = some [.int .u8] := key_of (by decide +kernel)
@[go_sem] theorem t28_7_h : hasP Try.prog 7 = true := by decide +kernel
@[go_sem] theorem t28_7_s : sizeP Try.prog 7 = 4 := by decide +kernel
@[go_sem] theorem t28_7_a : aggP Try.prog 7 = true := by decide +kernel
@[go_sem] theorem t28_7_z : zeroP Try.prog 7 = some [.int .i64 0, .int .i64 0, .bool false, .int .u8 0] := _root_.id (by kernel_rfl)
@[go_sem] theorem t28_7_o : zeroOK Try.prog 7 = true := by decide +kernel
@[go_sem] theorem t28_7_i : zeroI Try.prog 7 = some (.agg [.int .i64 0, .int .i64 0, .bool false, .int .u8 0]) := _root_.id (by kernel_rfl)
@[go_sem] theorem t28_7_y : (((Try.prog.info? 7).map (·.bytes)).getD 0 ≤ 256) = True := eq_true (by decide +kernel)
@[go_sem] theorem t28_7_b : (bytesP Try.prog 7 ≤ 1024) = True := eq_true (by decide +kernel)
@[go_sem] theorem t28_7_f : flatP Try.prog 7 = some [.int .i64, .int .i64, .bool, .int .u8] := flat_of (by decide +kernel)
@[go_sem] theorem t28_7_k : keyK Try.prog 7 = some [.int .i64, .int .i64, .bool, .int .u8] := key_of (by decide +kernel)
@[go_sem] theorem t28_8_h : hasP Try.prog 8 = true := by decide +kernel
@[go_sem] theorem t28_8_s : sizeP Try.prog 8 = 4 := by decide +kernel
@[go_sem] theorem t28_8_a : aggP Try.prog 8 = true := by decide +kernel
@[go_sem] theorem t28_8_z : zeroP Try.prog 8 = some [.int .i64 0, .int .i64 0, .bool false, .int .u8 0] := _root_.id (by kernel_rfl)
@[go_sem] theorem t28_8_o : zeroOK Try.prog 8 = true := by decide +kernel
@[go_sem] theorem t28_8_i : zeroI Try.prog 8 = some (.agg [.int .i64 0, .int .i64 0, .bool false, .int .u8 0]) := _root_.id (by kernel_rfl)
@[go_sem] theorem t28_8_y : (((Try.prog.info? 8).map (·.bytes)).getD 0 ≤ 256) = True := eq_true (by decide +kernel)
@[go_sem] theorem t28_8_b : (bytesP Try.prog 8 ≤ 1024) = True := eq_true (by decide +kernel)
@[go_sem] theorem t28_8_f : flatP Try.prog 8 = some [.int .i64, .int .i64, .bool, .int .u8] := flat_of (by decide +kernel)
@[go_sem] theorem t28_8_k : keyK Try.prog 8 = some [.int .i64, .int .i64, .bool, .int .u8] := key_of (by decide +kernel)
@[go_sem] theorem t28_9_h : hasP Try.prog 9 = true := by decide +kernel
@[go_sem] theorem t28_9_s : sizeP Try.prog 9 = 1 := by decide +kernel
@[go_sem] theorem t28_9_a : aggP Try.prog 9 = false := by decide +kernel
@[go_sem] theorem t28_9_z : zeroP Try.prog 9 = some [.str ByteArray.empty] := _root_.id (by kernel_rfl)
@[go_sem] theorem t28_9_o : zeroOK Try.prog 9 = true := by decide +kernel
@[go_sem] theorem t28_9_i : zeroI Try.prog 9 = some (.str ByteArray.empty) := _root_.id (by kernel_rfl)
@[go_sem] theorem t28_9_y : (((Try.prog.info? 9).map (·.bytes)).getD 0 ≤ 256) = True := eq_true (by decide +kernel)
@[go_sem] theorem t28_9_b : (bytesP Try.prog 9 ≤ 1024) = True := eq_true (by decide +kernel)
@[go_sem] theorem t28_9_k : keyK Try.prog 9 = some [.string] := key_of (by decide +kernel)
@[go_sem] theorem t28_10_h : hasP Try.prog 10 = true := by decide +kernel
@[go_sem] theorem t28_10_s : sizeP Try.prog 10 = 1 := by decide +kernel
@[go_sem] theorem t28_10_a : aggP Try.prog 10 = false := by decide +kernel
@[go_sem] theorem t28_10_z : zeroP Try.prog 10 = some [.str ByteArray.empty] := _root_.id (by kernel_rfl)
@[go_sem] theorem t28_10_o : zeroOK Try.prog 10 = true := by decide +kernel
@[go_sem] theorem t28_10_i : zeroI Try.prog 10 = some (.str ByteArray.empty) := _root_.id (by kernel_rfl)
@[go_sem] theorem t28_10_y : (((Try.prog.info? 10).map (·.bytes)).getD 0 ≤ 256) = True := eq_true (by decide +kernel)
@[go_sem] theorem t28_10_b : (bytesP Try.prog 10 ≤ 1024) = True := eq_true (by decide +kernel)
@[go_sem] theorem t28_10_k : keyK Try.prog 10 = some [.string] := key_of (by decide +kernel)
@[go_sem] theorem t28_11_h : hasP Try.prog 11 = true := by decide +kernel
@[go_sem] theorem t28_11_s : sizeP Try.prog 11 = 1 := by decide +kernel
@[go_sem] theorem t28_11_a : aggP Try.prog 11 = false := by decide +kernel
@[go_sem] theorem t28_11_z : zeroP Try.prog 11 = some [.str ByteArray.empty] := _root_.id (by kernel_rfl)
@[go_sem] theorem t28_11_o : zeroOK Try.prog 11 = true := by decide +kernel
@[go_sem] theorem t28_11_i : zeroI Try.prog 11 = some (.str ByteArray.empty) := _root_.id (by kernel_rfl)
@[go_sem] theorem t28_11_y : (((Try.prog.info? 11).map (·.bytes)).getD 0 ≤ 256) = True := eq_true (by decide +kernel)
@[go_sem] theorem t28_11_b : (bytesP Try.prog 11 ≤ 1024) = True := eq_true (by decide +kernel)
@[go_sem] theorem t28_11_k : keyK Try.prog 11 = some [.string] := key_of (by decide +kernel)
@[go_sem] theorem t28_12_h : hasP Try.prog 12 = true := by decide +kernel
@[go_sem] theorem t28_12_s : sizeP Try.prog 12 = 1 := by decide +kernel
@[go_sem] theorem t28_12_a : aggP Try.prog 12 = false := by decide +kernel
@[go_sem] theorem t28_12_z : zeroP Try.prog 12 = some [.int .u64 0] := _root_.id (by kernel_rfl)
@[go_sem] theorem t28_12_o : zeroOK Try.prog 12 = true := by decide +kernel
@[go_sem] theorem t28_12_i : zeroI Try.prog 12 = some (.int .u64 0) := _root_.id (by kernel_rfl)
@[go_sem] theorem t28_12_y : (((Try.prog.info? 12).map (·.bytes)).getD 0 ≤ 256) = True := eq_true (by decide +kernel)
@[go_sem] theorem t28_12_b : (bytesP Try.prog 12 ≤ 1024) = True := eq_true (by decide +kernel)
@[go_sem] theorem t28_12_k : keyK Try.prog 12 = some [.int .u64] := key_of (by decide +kernel)
@[go_sem] theorem t28_13_h : hasP Try.prog 13 = true := by decide +kernel
@[go_sem] theorem t28_13_s : sizeP Try.prog 13 = 2 := by decide +kernel
@[go_sem] theorem t28_13_a : aggP Try.prog 13 = true := by decide +kernel
@[go_sem] theorem t28_13_z : zeroP Try.prog 13 = some [.str ByteArray.empty, .int .u64 0] := _root_.id (by kernel_rfl)
@[go_sem] theorem t28_13_o : zeroOK Try.prog 13 = true := by decide +kernel
@[go_sem] theorem t28_13_i : zeroI Try.prog 13 = some (.agg [.str ByteArray.empty, .int .u64 0]) := _root_.id (by kernel_rfl)
@[go_sem] theorem t28_13_y : (((Try.prog.info? 13).map (·.bytes)).getD 0 ≤ 256) = True := eq_true (by decide +kernel)
@[go_sem] theorem t28_13_b : (bytesP Try.prog 13 ≤ 1024) = True := eq_true (by decide +kernel)
@[go_sem] theorem t28_14_h : hasP Try.prog 14 = true := by decide +kernel
@[go_sem] theorem t28_14_s : sizeP Try.prog 14 = 2 := by decide +kernel
@[go_sem] theorem t28_14_a : aggP Try.prog 14 = true := by decide +kernel
@[go_sem] theorem t28_14_z : zeroP Try.prog 14 = some [.str ByteArray.empty, .int .u64 0] := _root_.id (by kernel_rfl)
@[go_sem] theorem t28_14_o : zeroOK Try.prog 14 = true := by decide +kernel
@[go_sem] theorem t28_14_i : zeroI Try.prog 14 = some (.agg [.str ByteArray.empty, .int .u64 0]) := _root_.id (by kernel_rfl)
@[go_sem] theorem t28_14_y : (((Try.prog.info? 14).map (·.bytes)).getD 0 ≤ 256) = True := eq_true (by decide +kernel)
@[go_sem] theorem t28_14_b : (bytesP Try.prog 14 ≤ 1024) = True := eq_true (by decide +kernel)
@[go_sem] theorem t28_15_h : hasP Try.prog 15 = true := by decide +kernel
@[go_sem] theorem t28_15_s : sizeP Try.prog 15 = 1 := by decide +kernel
@[go_sem] theorem t28_15_a : aggP Try.prog 15 = false := by decide +kernel
@[go_sem] theorem t28_15_z : zeroP Try.prog 15 = some [.nilp] := _root_.id (by kernel_rfl)
@[go_sem] theorem t28_15_o : zeroOK Try.prog 15 = true := by decide +kernel
@[go_sem] theorem t28_15_i : zeroI Try.prog 15 = some (.nilp) := _root_.id (by kernel_rfl)
@[go_sem] theorem t28_15_y : (((Try.prog.info? 15).map (·.bytes)).getD 0 ≤ 256) = True := eq_true (by decide +kernel)
@[go_sem] theorem t28_15_b : (bytesP Try.prog 15 ≤ 1024) = True := eq_true (by decide +kernel)
@[go_sem] theorem t28_16_h : hasP Try.prog 16 = true := by decide +kernel
@[go_sem] theorem t28_16_s : sizeP Try.prog 16 = 1 := by decide +kernel
@[go_sem] theorem t28_16_a : aggP Try.prog 16 = false := by decide +kernel
@[go_sem] theorem t28_16_z : zeroP Try.prog 16 = some [.nilp] := _root_.id (by kernel_rfl)
@[go_sem] theorem t28_16_o : zeroOK Try.prog 16 = true := by decide +kernel
@[go_sem] theorem t28_16_i : zeroI Try.prog 16 = some (.nilp) := _root_.id (by kernel_rfl)
@[go_sem] theorem t28_16_y : (((Try.prog.info? 16).map (·.bytes)).getD 0 ≤ 256) = True := eq_true (by decide +kernel)
@[go_sem] theorem t28_16_b : (bytesP Try.prog 16 ≤ 1024) = True := eq_true (by decide +kernel)
@[go_sem] theorem t28_17_h : hasP Try.prog 17 = true := by decide +kernel
@[go_sem] theorem t28_17_s : sizeP Try.prog 17 = 1 := by decide +kernel
@[go_sem] theorem t28_17_a : aggP Try.prog 17 = false := by decide +kernel
@[go_sem] theorem t28_17_z : zeroP Try.prog 17 = some [.nilp] := _root_.id (by kernel_rfl)
@[go_sem] theorem t28_17_o : zeroOK Try.prog 17 = true := by decide +kernel
@[go_sem] theorem t28_17_i : zeroI Try.prog 17 = some (.nilp) := _root_.id (by kernel_rfl)
@[go_sem] theorem t28_17_y : (((Try.prog.info? 17).map (·.bytes)).getD 0 ≤ 256) = True := eq_true (by decide +kernel)
@[go_sem] theorem t28_17_b : (bytesP Try.prog 17 ≤ 1024) = True := eq_true (by decide +kernel)
@[go_sem] theorem t28_18_h : hasP Try.prog 18 = true := by decide +kernel
@[go_sem] theorem t28_18_s : sizeP Try.prog 18 = 1 := by decide +kernel
@[go_sem] theorem t28_18_a : aggP Try.prog 18 = true := by decide +kernel
@[go_sem] theorem t28_18_z : zeroP Try.prog 18 = some [.nilp] := _root_.id (by kernel_rfl)
@[go_sem] theorem t28_18_o : zeroOK Try.prog 18 = true := by decide +kernel
@[go_sem] theorem t28_18_i : zeroI Try.prog 18 = some (.agg [.nilp]) := _root_.id (by kernel_rfl)
@[go_sem] theorem t28_18_y : (((Try.prog.info? 18).map (·.bytes)).getD 0 ≤ 256) = True := eq_true (by decide +kernel)
@[go_sem] theorem t28_18_b : (bytesP Try.prog 18 ≤ 1024) = True := eq_true (by decide +kernel)
@[go_sem] theorem t28_19_h : hasP Try.prog 19 = true := by decide +kernel
@[go_sem] theorem t28_19_s : sizeP Try.prog 19 = 1 := by decide +kernel
@[go_sem] theorem t28_19_a : aggP Try.prog 19 = true := by decide +kernel
@[go_sem] theorem t28_19_z : zeroP Try.prog 19 = some [.nilp] := _root_.id (by kernel_rfl)
@[go_sem] theorem t28_19_o : zeroOK Try.prog 19 = true := by decide +kernel
@[go_sem] theorem t28_19_i : zeroI Try.prog 19 = some (.agg [.nilp]) := _root_.id (by kernel_rfl)
@[go_sem] theorem t28_19_y : (((Try.prog.info? 19).map (·.bytes)).getD 0 ≤ 256) = True := eq_true (by decide +kernel)
@[go_sem] theorem t28_19_b : (bytesP Try.prog 19 ≤ 1024) = True := eq_true (by decide +kernel)
@[go_sem] theorem t28_21_h : hasP Try.prog 21 = true := by decide +kernel
@[go_sem] theorem t28_21_s : sizeP Try.prog 21 = 1 := by decide +kernel
@[go_sem] theorem t28_21_a : aggP Try.prog 21 = false := by decide +kernel
@[go_sem] theorem t28_21_z : zeroP Try.prog 21 = some [.int .i32 0] := _root_.id (by kernel_rfl)
@[go_sem] theorem t28_21_o : zeroOK Try.prog 21 = true := by decide +kernel
@[go_sem] theorem t28_21_i : zeroI Try.prog 21 = some (.int .i32 0) := _root_.id (by kernel_rfl)
@[go_sem] theorem t28_21_y : (((Try.prog.info? 21).map (·.bytes)).getD 0 ≤ 256) = True := eq_true (by decide +kernel)
@[go_sem] theorem t28_21_b : (bytesP Try.prog 21 ≤ 1024) = True := eq_true (by decide +kernel)
@[go_sem] theorem t28_21_k : keyK Try.prog 21 = some [.int .i32] := key_of (by decide +kernel)
@[go_sem] theorem t28_22_h : hasP Try.prog 22 = true := by decide +kernel
@[go_sem] theorem t28_22_s : sizeP Try.prog 22 = 1 := by decide +kernel
@[go_sem] theorem t28_22_a : aggP Try.prog 22 = false := by decide +kernel
@[go_sem] theorem t28_22_z : zeroP Try.prog 22 = some [.nils] := _root_.id (by kernel_rfl)
@[go_sem] theorem t28_22_o : zeroOK Try.prog 22 = true := by decide +kernel
@[go_sem] theorem t28_22_i : zeroI Try.prog 22 = some (.nils) := _root_.id (by kernel_rfl)
@[go_sem] theorem t28_22_y : (((Try.prog.info? 22).map (·.bytes)).getD 0 ≤ 256) = True := eq_true (by decide +kernel)
@[go_sem] theorem t28_22_b : (bytesP Try.prog 22 ≤ 1024) = True := eq_true (by decide +kernel)
@[go_sem] theorem t28_23_h : hasP Try.prog 23 = true := by decide +kernel
@[go_sem] theorem t28_23_s : sizeP Try.prog 23 = 6 := by decide +kernel
@[go_sem] theorem t28_23_a : aggP Try.prog 23 = true := by decide +kernel
@[go_sem] theorem t28_23_z : zeroP Try.prog 23 = some [.int .i64 0, .int .i64 0, .int .i64 0, .int .i64 0, .int .i64 0, .nils] := _root_.id (by kernel_rfl)
@[go_sem] theorem t28_23_o : zeroOK Try.prog 23 = true := by decide +kernel
@[go_sem] theorem t28_23_i : zeroI Try.prog 23 = some (.agg [.int .i64 0, .int .i64 0, .int .i64 0, .int .i64 0, .int .i64 0, .nils]) := _root_.id (by kernel_rfl)
@[go_sem] theorem t28_23_y : (((Try.prog.info? 23).map (·.bytes)).getD 0 ≤ 256) = True := eq_true (by decide +kernel)
@[go_sem] theorem t28_23_b : (bytesP Try.prog 23 ≤ 1024) = True := eq_true (by decide +kernel)
@[go_sem] theorem t28_24_h : hasP Try.prog 24 = true := by decide +kernel
@[go_sem] theorem t28_24_s : sizeP Try.prog 24 = 6 := by decide +kernel
@[go_sem] theorem t28_24_a : aggP Try.prog 24 = true := by decide +kernel
@[go_sem] theorem t28_24_z : zeroP Try.prog 24 = some [.int .i64 0, .int .i64 0, .int .i64 0, .int .i64 0, .int .i64 0, .nils] := _root_.id (by kernel_rfl)
@[go_sem] theorem t28_24_o : zeroOK Try.prog 24 = true := by decide +kernel
@[go_sem] theorem t28_24_i : zeroI Try.prog 24 = some (.agg [.int .i64 0, .int .i64 0, .int .i64 0, .int .i64 0, .int .i64 0, .nils]) := _root_.id (by kernel_rfl)
@[go_sem] theorem t28_24_y : (((Try.prog.info? 24).map (·.bytes)).getD 0 ≤ 256) = True := eq_true (by decide +kernel)
@[go_sem] theorem t28_24_b : (bytesP Try.prog 24 ≤ 1024) = True := eq_true (by decide +kernel)
@[go_sem] theorem t28_25_h : hasP Try.prog 25 = true := by decide +kernel
@[go_sem] theorem t28_25_s : sizeP Try.prog 25 = 7 := by decide +kernel
@[go_sem] theorem t28_25_a : aggP Try.prog 25 = true := by decide +kernel
@[go_sem] theorem t28_25_z : zeroP Try.prog 25 = some [.int .i64 0, .int .i64 0, .int .i64 0, .int .i64 0, .int .i64 0, .nils, .int .i64 0] := _root_.id (by kernel_rfl)
@[go_sem] theorem t28_25_o : zeroOK Try.prog 25 = true := by decide +kernel
@[go_sem] theorem t28_25_i : zeroI Try.prog 25 = some (.agg [.int .i64 0, .int .i64 0, .int .i64 0, .int .i64 0, .int .i64 0, .nils, .int .i64 0]) := _root_.id (by kernel_rfl)
@[go_sem] theorem t28_25_y : (((Try.prog.info? 25).map (·.bytes)).getD 0 ≤ 256) = True := eq_true (by decide +kernel)
@[go_sem] theorem t28_25_b : (bytesP Try.prog 25 ≤ 1024) = True := eq_true (by decide +kernel)
@[go_sem] theorem t28_26_h : hasP Try.prog 26 = true := by decide +kernel
@[go_sem] theorem t28_26_s : sizeP Try.prog 26 = 7 := by decide +kernel
@[go_sem] theorem t28_26_a : aggP Try.prog 26 = true := by decide +kernel
@[go_sem] theorem t28_26_z : zeroP Try.prog 26 = some [.int .i64 0, .int .i64 0, .int .i64 0, .int .i64 0, .int .i64 0, .nils, .int .i64 0] := _root_.id (by kernel_rfl)
@[go_sem] theorem t28_26_o : zeroOK Try.prog 26 = true := by decide +kernel
@[go_sem] theorem t28_26_i : zeroI Try.prog 26 = some (.agg [.int .i64 0, .int .i64 0, .int .i64 0, .int .i64 0, .int .i64 0, .nils, .int .i64 0]) := _root_.id (by kernel_rfl)
@[go_sem] theorem t28_26_y : (((Try.prog.info? 26).map (·.bytes)).getD 0 ≤ 256) = True := eq_true (by decide +kernel)
@[go_sem] theorem t28_26_b : (bytesP Try.prog 26 ≤ 1024) = True := eq_true (by decide +kernel)
@[go_sem] theorem t28_27_h : hasP Try.prog 27 = true := by decide +kernel
@[go_sem] theorem t28_27_s : sizeP Try.prog 27 = 1 := by decide +kernel
@[go_sem] theorem t28_27_a : aggP Try.prog 27 = false := by decide +kernel
@[go_sem] theorem t28_27_z : zeroP Try.prog 27 = some [.nilf] := _root_.id (by kernel_rfl)
@[go_sem] theorem t28_27_o : zeroOK Try.prog 27 = true := by decide +kernel
@[go_sem] theorem t28_27_i : zeroI Try.prog 27 = some (.nilf) := _root_.id (by kernel_rfl)
@[go_sem] theorem t28_27_y : (((Try.prog.info? 27).map (·.bytes)).getD 0 ≤ 256) = True := eq_true (by decide +kernel)
@[go_sem] theorem t28_27_b : (bytesP Try.prog 27 ≤ 1024) = True := eq_true (by decide +kernel)
@[go_sem] theorem t28_28_h : hasP Try.prog 28 = true := by decide +kernel
@[go_sem] theorem t28_28_s : sizeP Try.prog 28 = 1 := by decide +kernel
@[go_sem] theorem t28_28_a : aggP Try.prog 28 = false := by decide +kernel
@[go_sem] theorem t28_28_z : zeroP Try.prog 28 = some [.nilf] := _root_.id (by kernel_rfl)
@[go_sem] theorem t28_28_o : zeroOK Try.prog 28 = true := by decide +kernel
@[go_sem] theorem t28_28_i : zeroI Try.prog 28 = some (.nilf) := _root_.id (by kernel_rfl)
@[go_sem] theorem t28_28_y : (((Try.prog.info? 28).map (·.bytes)).getD 0 ≤ 256) = True := eq_true (by decide +kernel)
@[go_sem] theorem t28_28_b : (bytesP Try.prog 28 ≤ 1024) = True := eq_true (by decide +kernel)
@[go_sem] theorem t28_29_h : hasP Try.prog 29 = true := by decide +kernel
@[go_sem] theorem t28_29_s : sizeP Try.prog 29 = 5 := by decide +kernel
@[go_sem] theorem t28_29_a : aggP Try.prog 29 = true := by decide +kernel
@[go_sem] theorem t28_29_z : zeroP Try.prog 29 = some [.int .i64 0, .int .i64 0, .int .i64 0, .int .i64 0, .int .i64 0] := _root_.id (by kernel_rfl)
@[go_sem] theorem t28_29_o : zeroOK Try.prog 29 = true := by decide +kernel
@[go_sem] theorem t28_29_i : zeroI Try.prog 29 = some (.agg [.int .i64 0, .int .i64 0, .int .i64 0, .int .i64 0, .int .i64 0]) := _root_.id (by kernel_rfl)
@[go_sem] theorem t28_29_y : (((Try.prog.info? 29).map (·.bytes)).getD 0 ≤ 256) = True := eq_true (by decide +kernel)
@[go_sem] theorem t28_29_b : (bytesP Try.prog 29 ≤ 1024) = True := eq_true (by decide +kernel)
@[go_sem] theorem t28_29_f : flatP Try.prog 29 = some [.int .i64, .int .i64, .int .i64, .int .i64, .int .i64] := flat_of (by decide +kernel)
@[go_sem] theorem t28_29_k : keyK Try.prog 29 = some [.int .i64, .int .i64, .int .i64, .int .i64, .int .i64] := key_of (by decide +kernel)
@[go_sem] theorem t28_30_h : hasP Try.prog 30 = true := by decide +kernel
@[go_sem] theorem t28_30_s : sizeP Try.prog 30 = 5 := by decide +kernel
@[go_sem] theorem t28_30_a : aggP Try.prog 30 = true := by decide +kernel
@[go_sem] theorem t28_30_z : zeroP Try.prog 30 = some [.int .i64 0, .int .i64 0, .int .i64 0, .int .i64 0, .int .i64 0] := _root_.id (by kernel_rfl)
@[go_sem] theorem t28_30_o : zeroOK Try.prog 30 = true := by decide +kernel
@[go_sem] theorem t28_30_i : zeroI Try.prog 30 = some (.agg [.int .i64 0, .int .i64 0, .int .i64 0, .int .i64 0, .int .i64 0]) := _root_.id (by kernel_rfl)
@[go_sem] theorem t28_30_y : (((Try.prog.info? 30).map (·.bytes)).getD 0 ≤ 256) = True := eq_true (by decide +kernel)
@[go_sem] theorem t28_30_b : (bytesP Try.prog 30 ≤ 1024) = True := eq_true (by decide +kernel)
@[go_sem] theorem t28_30_f : flatP Try.prog 30 = some [.int .i64, .int .i64, .int .i64, .int .i64, .int .i64] := flat_of (by decide +kernel)
@[go_sem] theorem t28_30_k : keyK Try.prog 30 = some [.int .i64, .int .i64, .int .i64, .int .i64, .int .i64] := key_of (by decide +kernel)
@[go_sem] theorem t28_31_h : hasP Try.prog 31 = true := by decide +kernel
@[go_sem] theorem t28_31_s : sizeP Try.prog 31 = 1 := by decide +kernel
@[go_sem] theorem t28_31_a : aggP Try.prog 31 = false := by decide +kernel
@[go_sem] theorem t28_31_z : zeroP Try.prog 31 = some [.int .i64 0] := _root_.id (by kernel_rfl)
@[go_sem] theorem t28_31_o : zeroOK Try.prog 31 = true := by decide +kernel
@[go_sem] theorem t28_31_i : zeroI Try.prog 31 = some (.int .i64 0) := _root_.id (by kernel_rfl)
@[go_sem] theorem t28_31_y : (((Try.prog.info? 31).map (·.bytes)).getD 0 ≤ 256) = True := eq_true (by decide +kernel)
@[go_sem] theorem t28_31_b : (bytesP Try.prog 31 ≤ 1024) = True := eq_true (by decide +kernel)
@[go_sem] theorem t28_31_k : keyK Try.prog 31 = some [.int .i64] := key_of (by decide +kernel)
@[go_sem] theorem t28_33_h : hasP Try.prog 33 = true := by decide +kernel
@[go_sem] theorem t28_33_s : sizeP Try.prog 33 = 1 := by decide +kernel
@[go_sem] theorem t28_33_a : aggP Try.prog 33 = false := by decide +kernel
@[go_sem] theorem t28_33_z : zeroP Try.prog 33 = some [.nilf] := _root_.id (by kernel_rfl)
@[go_sem] theorem t28_33_o : zeroOK Try.prog 33 = true := by decide +kernel
@[go_sem] theorem t28_33_i : zeroI Try.prog 33 = some (.nilf) := _root_.id (by kernel_rfl)
@[go_sem] theorem t28_33_y : (((Try.prog.info? 33).map (·.bytes)).getD 0 ≤ 256) = True := eq_true (by decide +kernel)
@[go_sem] theorem t28_33_b : (bytesP Try.prog 33 ≤ 1024) = True := eq_true (by decide +kernel)
@[go_sem] theorem t28_34_h : hasP Try.prog 34 = true := by decide +kernel
@[go_sem] theorem t28_34_s : sizeP Try.prog 34 = 1 := by decide +kernel
@[go_sem] theorem t28_34_a : aggP Try.prog 34 = false := by decide +kernel
@[go_sem] theorem t28_34_z : zeroP Try.prog 34 = some [.nils] := _root_.id (by kernel_rfl)
@[go_sem] theorem t28_34_o : zeroOK Try.prog 34 = true := by decide +kernel
@[go_sem] theorem t28_34_i : zeroI Try.prog 34 = some (.nils) := _root_.id (by kernel_rfl)
@[go_sem] theorem t28_34_y : (((Try.prog.info? 34).map (·.bytes)).getD 0 ≤ 256) = True := eq_true (by decide +kernel)
@[go_sem] theorem t28_34_b : (bytesP Try.prog 34 ≤ 1024) = True := eq_true (by decide +kernel)
@[go_sem] theorem t28_35_h : hasP Try.prog 35 = true := by decide +kernel
@[go_sem] theorem t28_35_s : sizeP Try.prog 35 = 1 := by decide +kernel
@[go_sem] theorem t28_35_a : aggP Try.prog 35 = false := by decide +kernel
@[go_sem] theorem t28_35_z : zeroP Try.prog 35 = some [.nilf] := _root_.id (by kernel_rfl)
@[go_sem] theorem t28_35_o : zeroOK Try.prog 35 = true := by decide +kernel
@[go_sem] theorem t28_35_i : zeroI Try.prog 35 = some (.nilf) := _root_.id (by kernel_rfl)
@[go_sem] theorem t28_35_y : (((Try.prog.info? 35).map (·.bytes)).getD 0 ≤ 256) = True := eq_true (by decide +kernel)
@[go_sem] theorem t28_35_b : (bytesP Try.prog 35 ≤ 1024) = True := eq_true (by decide +kernel)
@[go_sem] theorem t28_36_h : hasP Try.prog 36 = true := by decide +kernel
@[go_sem] theorem t28_36_s : sizeP Try.prog 36 = 1 := by decide +kernel
@[go_sem] theorem t28_36_a : aggP Try.prog 36 = false := by decide +kernel
@[go_sem] theorem t28_36_z : zeroP Try.prog 36 = some [.nilf] := _root_.id (by kernel_rfl)
@[go_sem] theorem t28_36_o : zeroOK Try.prog 36 = true := by decide +kernel
@[go_sem] theorem t28_36_i : zeroI Try.prog 36 = some (.nilf) := _root_.id (by kernel_rfl)
@[go_sem] theorem t28_36_y : (((Try.prog.info? 36).map (·.bytes)).getD 0 ≤ 256) = True := eq_true (by decide +kernel)
@[go_sem] theorem t28_36_b : (bytesP Try.prog 36 ≤ 1024) = True := eq_true (by decide +kernel)
@[go_sem] theorem t28_37_h : hasP Try.prog 37 = true := by decide +kernel
@[go_sem] theorem t28_37_s : sizeP Try.prog 37 = 1 := by decide +kernel
@[go_sem] theorem t28_37_a : aggP Try.prog 37 = false := by decide +kernel
@[go_sem] theorem t28_37_z : zeroP Try.prog 37 = some [.nilf] := _root_.id (by kernel_rfl)
@[go_sem] theorem t28_37_o : zeroOK Try.prog 37 = true := by decide +kernel
@[go_sem] theorem t28_37_i : zeroI Try.prog 37 = some (.nilf) := _root_.id (by kernel_rfl)
@[go_sem] theorem t28_37_y : (((Try.prog.info? 37).map (·.bytes)).getD 0 ≤ 256) = True := eq_true (by decide +kernel)
@[go_sem] theorem t28_37_b : (bytesP Try.prog 37 ≤ 1024) = True := eq_true (by decide +kernel)
@[go_sem] theorem t28_39_h : hasP Try.prog 39 = true := by decide +kernel
@[go_sem] theorem t28_39_s : sizeP Try.prog 39 = 1 := by decide +kernel
@[go_sem] theorem t28_39_a : aggP Try.prog 39 = false := by decide +kernel
@[go_sem] theorem t28_39_z : zeroP Try.prog 39 = some [.nilf] := _root_.id (by kernel_rfl)
@[go_sem] theorem t28_39_o : zeroOK Try.prog 39 = true := by decide +kernel
@[go_sem] theorem t28_39_i : zeroI Try.prog 39 = some (.nilf) := _root_.id (by kernel_rfl)
@[go_sem] theorem t28_39_y : (((Try.prog.info? 39).map (·.bytes)).getD 0 ≤ 256) = True := eq_true (by decide +kernel)
@[go_sem] theorem t28_39_b : (bytesP Try.prog 39 ≤ 1024) = True := eq_true (by decide +kernel)
@[go_sem] theorem t28_41_h : hasP Try.prog 41 = true := by decide +kernel
@[go_sem] theorem t28_41_s : sizeP Try.prog 41 = 1 := by decide +kernel
@[go_sem] theorem t28_41_a : aggP Try.prog 41 = false := by decide +kernel
@[go_sem] theorem t28_41_z : zeroP Try.prog 41 = some [.nilf] := _root_.id (by kernel_rfl)
@[go_sem] theorem t28_41_o : zeroOK Try.prog 41 = true := by decide +kernel
@[go_sem] theorem t28_41_i : zeroI Try.prog 41 = some (.nilf) := _root_.id (by kernel_rfl)
@[go_sem] theorem t28_41_y : (((Try.prog.info? 41).map (·.bytes)).getD 0 ≤ 256) = True := eq_true (by decide +kernel)
@[go_sem] theorem t28_41_b : (bytesP Try.prog 41 ≤ 1024) = True := eq_true (by decide +kernel)
@[go_sem] theorem t28_42_h : hasP Try.prog 42 = true := by decide +kernel
@[go_sem] theorem t28_42_s : sizeP Try.prog 42 = 1 := by decide +kernel
@[go_sem] theorem t28_42_a : aggP Try.prog 42 = false := by decide +kernel
@[go_sem] theorem t28_42_z : zeroP Try.prog 42 = some [.nilf] := _root_.id (by kernel_rfl)
@[go_sem] theorem t28_42_o : zeroOK Try.prog 42 = true := by decide +kernel
@[go_sem] theorem t28_42_i : zeroI Try.prog 42 = some (.nilf) := _root_.id (by kernel_rfl)
@[go_sem] theorem t28_42_y : (((Try.prog.info? 42).map (·.bytes)).getD 0 ≤ 256) = True := eq_true (by decide +kernel)
@[go_sem] theorem t28_42_b : (bytesP Try.prog 42 ≤ 1024) = True := eq_true (by decide +kernel)
@[go_sem] theorem t28_43_h : hasP Try.prog 43 = true := by decide +kernel
@[go_sem] theorem t28_43_s : sizeP Try.prog 43 = 1 := by decide +kernel
@[go_sem] theorem t28_43_a : aggP Try.prog 43 = false := by decide +kernel
@[go_sem] theorem t28_43_z : zeroP Try.prog 43 = some [.nilp] := _root_.id (by kernel_rfl)
@[go_sem] theorem t28_43_o : zeroOK Try.prog 43 = true := by decide +kernel
@[go_sem] theorem t28_43_i : zeroI Try.prog 43 = some (.nilp) := _root_.id (by kernel_rfl)
@[go_sem] theorem t28_43_y : (((Try.prog.info? 43).map (·.bytes)).getD 0 ≤ 256) = True := eq_true (by decide +kernel)
@[go_sem] theorem t28_43_b : (bytesP Try.prog 43 ≤ 1024) = True := eq_true (by decide +kernel)
@[go_sem] theorem t28_44_h : hasP Try.prog 44 = true := by decide +kernel
@[go_sem] theorem t28_44_s : sizeP Try.prog 44 = 1 := by decide +kernel
@[go_sem] theorem t28_44_a : aggP Try.prog 44 = false := by decide +kernel
@[go_sem] theorem t28_44_z : zeroP Try.prog 44 = some [.nilf] := _root_.id (by kernel_rfl)
@[go_sem] theorem t28_44_o : zeroOK Try.prog 44 = true := by decide +kernel
@[go_sem] theorem t28_44_i : zeroI Try.prog 44 = some (.nilf) := _root_.id (by kernel_rfl)
@[go_sem] theorem t28_44_y : (((Try.prog.info? 44).map (·.bytes)).getD 0 ≤ 256) = True := eq_true (by decide +kernel)
@[go_sem] theorem t28_44_b : (bytesP Try.prog 44 ≤ 1024) = True := eq_true (by decide +kernel)
@[go_sem] theorem t28_45_h : hasP Try.prog 45 = true := by decide +kernel
@[go_sem] theorem t28_45_s : sizeP Try.prog 45 = 1 := by decide +kernel
@[go_sem] theorem t28_45_a : aggP Try.prog 45 = false := by decide +kernel
@[go_sem] theorem t28_45_z : zeroP Try.prog 45 = some [.nils] := _root_.id (by kernel_rfl)
@[go_sem] theorem t28_45_o : zeroOK Try.prog 45 = true := by decide +kernel
@[go_sem] theorem t28_45_i : zeroI Try.prog 45 = some (.nils) := _root_.id (by kernel_rfl)
@[go_sem] theorem t28_45_y : (((Try.prog.info? 45).map (·.bytes)).getD 0 ≤ 256) = True := eq_true (by decide +kernel)
@[go_sem] theorem t28_45_b : (bytesP Try.prog 45 ≤ 1024) = True := eq_true (by decide +kernel)
@[go_sem] theorem t28_47_h : hasP Try.prog 47 = true := by decide +kernel
@[go_sem] theorem t28_47_s : sizeP Try.prog 47 = 1 := by decide +kernel
@[go_sem] theorem t28_47_a : aggP Try.prog 47 = false := by decide +kernel
@[go_sem] theorem t28_47_z : zeroP Try.prog 47 = some [.nilf] := _root_.id (by kernel_rfl)
@[go_sem] theorem t28_47_o : zeroOK Try.prog 47 = true := by decide +kernel
@[go_sem] theorem t28_47_i : zeroI Try.prog 47 = some (.nilf) := _root_.id (by kernel_rfl)
@[go_sem] theorem t28_47_y : (((Try.prog.info? 47).map (·.bytes)).getD 0 ≤ 256) = True := eq_true (by decide +kernel)
@[go_sem] theorem t28_47_b : (bytesP Try.prog 47 ≤ 1024) = True := eq_true (by decide +kernel)
@[go_sem] theorem t28_49_h : hasP Try.prog 49 = true := by decide +kernel
@[go_sem] theorem t28_49_s : sizeP Try.prog 49 = 1 := by decide +kernel
@[go_sem] theorem t28_49_a : aggP Try.prog 49 = false := by decide +kernel
@[go_sem] theorem t28_49_z : zeroP Try.prog 49 = some [.nilf] := _root_.id (by kernel_rfl)
@[go_sem] theorem t28_49_o : zeroOK Try.prog 49 = true := by decide +kernel
@[go_sem] theorem t28_49_i : zeroI Try.prog 49 = some (.nilf) := _root_.id (by kernel_rfl)
@[go_sem] theorem t28_49_y : (((Try.prog.info? 49).map (·.bytes)).getD 0 ≤ 256) = True := eq_true (by decide +kernel)
@[go_sem] theorem t28_49_b : (bytesP Try.prog 49 ≤ 1024) = True := eq_true (by decide +kernel)
@[go_sem] theorem t28_50_h : hasP Try.prog 50 = true := by decide +kernel
@[go_sem] theorem t28_50_s : sizeP Try.prog 50 = 1 := by decide +kernel
@[go_sem] theorem t28_50_a : aggP Try.prog 50 = false := by decide +kernel
@[go_sem] theorem t28_50_z : zeroP Try.prog 50 = some [.nilp] := _root_.id (by kernel_rfl)
@[go_sem] theorem t28_50_o : zeroOK Try.prog 50 = true := by decide +kernel
@[go_sem] theorem t28_50_i : zeroI Try.prog 50 = some (.nilp) := _root_.id (by kernel_rfl)
@[go_sem] theorem t28_50_y : (((Try.prog.info? 50).map (·.bytes)).getD 0 ≤ 256) = True := eq_true (by decide +kernel)
@[go_sem] theorem t28_50_b : (bytesP Try.prog 50 ≤ 1024) = True := eq_true (by decide +kernel)
@[go_sem] theorem t28_51_h : hasP Try.prog 51 = true := by decide +kernel
@[go_sem] theorem t28_51_s : sizeP Try.prog 51 = 1 := by decide +kernel
@[go_sem] theorem t28_51_a : aggP Try.prog 51 = false := by decide +kernel
@[go_sem] theorem t28_51_z : zeroP Try.prog 51 = some [.nilf] := _root_.id (by kernel_rfl)
@[go_sem] theorem t28_51_o : zeroOK Try.prog 51 = true := by decide +kernel
@[go_sem] theorem t28_51_i : zeroI Try.prog 51 = some (.nilf) := _root_.id (by kernel_rfl)
@[go_sem] theorem t28_51_y : (((Try.prog.info? 51).map (·.bytes)).getD 0 ≤ 256) = True := eq_true (by decide +kernel)
@[go_sem] theorem t28_51_b : (bytesP Try.prog 51 ≤ 1024) = True := eq_true (by decide +kernel)
@[go_sem] theorem t28_52_h : hasP Try.prog 52 = true := by decide +kernel
@[go_sem] theorem t28_52_s : sizeP Try.prog 52 = 4 := by decide +kernel
@[go_sem] theorem t28_52_a : aggP Try.prog 52 = true := by decide +kernel
@[go_sem] theorem t28_52_z : zeroP Try.prog 52 = some [.int .u8 0, .int .i64 0, .int .i64 0, .int .i64 0] := _root_.id (by kernel_rfl)
@[go_sem] theorem t28_52_o : zeroOK Try.prog 52 = true := by decide +kernel
@[go_sem] theorem t28_52_i : zeroI Try.prog 52 = some (.agg [.int .u8 0, .int .i64 0, .int .i64 0, .int .i64 0]) := _root_.id (by kernel_rfl)
@[go_sem] theorem t28_52_y : (((Try.prog.info? 52).map (·.bytes)).getD 0 ≤ 256) = True := eq_true (by decide +kernel)
@[go_sem] theorem t28_52_b : (bytesP Try.prog 52 ≤ 1024) = True := eq_true (by decide +kernel)
@[go_sem] theorem t28_52_f : flatP Try.prog 52 = some [.int .u8, .int .i64, .int .i64, .int .i64] := flat_of (by decide +kernel)
@[go_sem] theorem t28_52_k : keyK Try.prog 52 = some [.int .u8, .int .i64, .int .i64, .int .i64] := key_of (by decide +kernel)
@[go_sem] theorem t28_53_h : hasP Try.prog 53 = true := by decide +kernel
@[go_sem] theorem t28_53_s : sizeP Try.prog 53 = 4 := by decide +kernel
@[go_sem] theorem t28_53_a : aggP Try.prog 53 = true := by decide +kernel
@[go_sem] theorem t28_53_z : zeroP Try.prog 53 = some [.int .u8 0, .int .i64 0, .int .i64 0, .int .i64 0] := _root_.id (by kernel_rfl)
@[go_sem] theorem t28_53_o : zeroOK Try.prog 53 = true := by decide +kernel
@[go_sem] theorem t28_53_i : zeroI Try.prog 53 = some (.agg [.int .u8 0, .int .i64 0, .int .i64 0, .int .i64 0]) := _root_.id (by kernel_rfl)
@[go_sem] theorem t28_53_y : (((Try.prog.info? 53).map (·.bytes)).getD 0 ≤ 256) = True := eq_true (by decide +kernel)
@[go_sem] theorem t28_53_b : (bytesP Try.prog 53 ≤ 1024) = True := eq_true (by decide +kernel)
@[go_sem] theorem t28_53_f : flatP Try.prog 53 = some [.int .u8, .int .i64, .int .i64, .int .i64] := flat_of (by decide +kernel)
@[go_sem] theorem t28_53_k : keyK Try.prog 53 = some [.int .u8, .int .i64, .int .i64, .int .i64] := key_of (by decide +kernel)
@[go_sem] theorem t28_54_h : hasP Try.prog 54 = true := by decide +kernel
@[go_sem] theorem t28_54_s : sizeP Try.prog 54 = 1 := by decide +kernel
@[go_sem] theorem t28_54_a : aggP Try.prog 54 = false := by decide +kernel
@[go_sem] theorem t28_54_z : zeroP Try.prog 54 = some [.nilf] := _root_.id (by kernel_rfl)
@[go_sem] theorem t28_54_o : zeroOK Try.prog 54 = true := by decide +kernel
@[go_sem] theorem t28_54_i : zeroI Try.prog 54 = some (.nilf) := _root_.id (by kernel_rfl)
@[go_sem] theorem t28_54_y : (((Try.prog.info? 54).map (·.bytes)).getD 0 ≤ 256) = True := eq_true (by decide +kernel)
@[go_sem] theorem t28_54_b : (bytesP Try.prog 54 ≤ 1024) = True := eq_true (by decide +kernel)
@[go_sem] theorem t28_55_h : hasP Try.prog 55 = true := by decide +kernel
@[go_sem] theorem t28_55_s : sizeP Try.prog 55 = 1 := by decide +kernel
@[go_sem] theorem t28_55_a : aggP Try.prog 55 = false := by decide +kernel
@[go_sem] theorem t28_55_z : zeroP Try.prog 55 = some [.nilf] := _root_.id (by kernel_rfl)
@[go_sem] theorem t28_55_o : zeroOK Try.prog 55 = true := by decide +kernel
@[go_sem] theorem t28_55_i : zeroI Try.prog 55 = some (.nilf) := _root_.id (by kernel_rfl)
@[go_sem] theorem t28_55_y : (((Try.prog.info? 55).map (·.bytes)).getD 0 ≤ 256) = True := eq_true (by decide +kernel)
@[go_sem] theorem t28_55_b : (bytesP Try.prog 55 ≤ 1024) = True := eq_true (by decide +kernel)
@[go_sem] theorem t28_56_h : hasP Try.prog 56 = true := by decide +kernel
@[go_sem] theorem t28_56_s : sizeP Try.prog 56 = 1 := by decide +kernel
@[go_sem] theorem t28_56_a : aggP Try.prog 56 = false := by decide +kernel
@[go_sem] theorem t28_56_z : zeroP Try.prog 56 = some [.nils] := _root_.id (by kernel_rfl)
@[go_sem] theorem t28_56_o : zeroOK Try.prog 56 = true := by decide +kernel
@[go_sem] theorem t28_56_i : zeroI Try.prog 56 = some (.nils) := _root_.id (by kernel_rfl)
@[go_sem] theorem t28_56_y : (((Try.prog.info? 56).map (·.bytes)).getD 0 ≤ 256) = True := eq_true (by decide +kernel)
@[go_sem] theorem t28_56_b : (bytesP Try.prog 56 ≤ 1024) = True := eq_true (by decide +kernel)
@[go_sem] theorem t28_57_h : hasP Try.prog 57 = true := by decide +kernel
@[go_sem] theorem t28_57_s : sizeP Try.prog 57 = 1 := by decide +kernel
@[go_sem] theorem t28_57_a : aggP Try.prog 57 = false := by decide +kernel
@[go_sem] theorem t28_57_z : zeroP Try.prog 57 = some [.nilf] := _root_.id (by kernel_rfl)
@[go_sem] theorem t28_57_o : zeroOK Try.prog 57 = true := by decide +kernel
@[go_sem] theorem t28_57_i : zeroI Try.prog 57 = some (.nilf) := _root_.id (by kernel_rfl)
@[go_sem] theorem t28_57_y : (((Try.prog.info? 57).map (·.bytes)).getD 0 ≤ 256) = True := eq_true (by decide +kernel)
@[go_sem] theorem t28_57_b : (bytesP Try.prog 57 ≤ 1024) = True := eq_true (by decide +kernel)
@[go_sem] theorem t28_58_h : hasP Try.prog 58 = true := by decide +kernel
@[go_sem] theorem t28_58_s : sizeP Try.prog 58 = 1 := by decide +kernel
@[go_sem] theorem t28_58_a : aggP Try.prog 58 = false := by decide +kernel
@[go_sem] theorem t28_58_z : zeroP Try.prog 58 = some [.nilf] := _root_.id (by kernel_rfl)
@[go_sem] theorem t28_58_o : zeroOK Try.prog 58 = true := by decide +kernel
@[go_sem] theorem t28_58_i : zeroI Try.prog 58 = some (.nilf) := _root_.id (by kernel_rfl)
@[go_sem] theorem t28_58_y : (((Try.prog.info? 58).map (·.bytes)).getD 0 ≤ 256) = True := eq_true (by decide +kernel)
@[go_sem] theorem t28_58_b : (bytesP Try.prog 58 ≤ 1024) = True := eq_true (by decide +kernel)
@[go_sem] theorem t28_59_h : hasP Try.prog 59 = true := by decide +kernel
@[go_sem] theorem t28_59_s : sizeP Try.prog 59 = 1 := by decide +kernel
@[go_sem] theorem t28_59_a : aggP Try.prog 59 = false := by decide +kernel
@[go_sem] theorem t28_59_z : zeroP Try.prog 59 = some [.nilf] := _root_.id (by kernel_rfl)
@[go_sem] theorem t28_59_o : zeroOK Try.prog 59 = true := by decide +kernel
@[go_sem] theorem t28_59_i : zeroI Try.prog 59 = some (.nilf) := _root_.id (by kernel_rfl)
@[go_sem] theorem t28_59_y : (((Try.prog.info? 59).map (·.bytes)).getD 0 ≤ 256) = True := eq_true (by decide +kernel)
@[go_sem] theorem t28_59_b : (bytesP Try.prog 59 ≤ 1024) = True := eq_true (by decide +kernel)
@[go_sem] theorem t28_60_h : hasP Try.prog 60 = true := by decide +kernel
@[go_sem] theorem t28_60_s : sizeP Try.prog 60 = 1 := by decide +kernel
@[go_sem] theorem t28_60_a : aggP Try.prog 60 = false := by decide +kernel
@[go_sem] theorem t28_60_z : zeroP Try.prog 60 = some [.nilf] := _root_.id (by kernel_rfl)
@[go_sem] theorem t28_60_o : zeroOK Try.prog 60 = true := by decide +kernel
@[go_sem] theorem t28_60_i : zeroI Try.prog 60 = some (.nilf) := _root_.id (by kernel_rfl)
@[go_sem] theorem t28_60_y : (((Try.prog.info? 60).map (·.bytes)).getD 0 ≤ 256) = True := eq_true (by decide +kernel)
@[go_sem] theorem t28_60_b : (bytesP Try.prog 60 ≤ 1024) = True := eq_true (by decide +kernel)
@[go_sem] theorem t28_61_h : hasP Try.prog 61 = true := by decide +kernel
@[go_sem] theorem t28_61_s : sizeP Try.prog 61 = 1 := by decide +kernel
@[go_sem] theorem t28_61_a : aggP Try.prog 61 = false := by decide +kernel
@[go_sem] theorem t28_61_z : zeroP Try.prog 61 = some [.nilf] := _root_.id (by kernel_rfl)
@[go_sem] theorem t28_61_o : zeroOK Try.prog 61 = true := by decide +kernel
@[go_sem] theorem t28_61_i : zeroI Try.prog 61 = some (.nilf) := _root_.id (by kernel_rfl)
@[go_sem] theorem t28_61_y : (((Try.prog.info? 61).map (·.bytes)).getD 0 ≤ 256) = True := eq_true (by decide +kernel)
@[go_sem] theorem t28_61_b : (bytesP Try.prog 61 ≤ 1024) = True := eq_true (by decide +kernel)
@[go_sem] theorem t28_62_h : hasP Try.prog 62 = true := by decide +kernel
@[go_sem] theorem t28_62_s : sizeP Try.prog 62 = 1 := by decide +kernel
@[go_sem] theorem t28_62_a : aggP Try.prog 62 = false := by decide +kernel
@[go_sem] theorem t28_62_z : zeroP Try.prog 62 = some [.nilf] := _root_.id (by kernel_rfl)
@[go_sem] theorem t28_62_o : zeroOK Try.prog 62 = true := by decide +kernel
@[go_sem] theorem t28_62_i : zeroI Try.prog 62 = some (.nilf) := _root_.id (by kernel_rfl)
@[go_sem] theorem t28_62_y : (((Try.prog.info? 62).map (·.bytes)).getD 0 ≤ 256) = True := eq_true (by decide +kernel)
@[go_sem] theorem t28_62_b : (bytesP Try.prog 62 ≤ 1024) = True := eq_true (by decide +kernel)
@[go_sem] theorem t28_63_h : hasP Try.prog 63 = true := by decide +kernel
@[go_sem] theorem t28_63_s : sizeP Try.prog 63 = 1 := by decide +kernel
@[go_sem] theorem t28_63_a : aggP Try.prog 63 = false := by decide +kernel
@[go_sem] theorem t28_63_z : zeroP Try.prog 63 = some [.nilf] := _root_.id (by kernel_rfl)
@[go_sem] theorem t28_63_o : zeroOK Try.prog 63 = true := by decide +kernel
@[go_sem] theorem t28_63_i : zeroI Try.prog 63 = some (.nilf) := _root_.id (by kernel_rfl)
@[go_sem] theorem t28_63_y : (((Try.prog.info? 63).map (·.bytes)).getD 0 ≤ 256) = True := eq_true (by decide +kernel)
@[go_sem] theorem t28_63_b : (bytesP Try.prog 63 ≤ 1024) = True := eq_true (by decide +kernel)
@[go_sem] theorem t28_64_h : hasP Try.prog 64 = true := by decide +kernel
@[go_sem] theorem t28_64_s : sizeP Try.prog 64 = 1 := by decide +kernel
@[go_sem] theorem t28_64_a : aggP Try.prog 64 = false := by decide +kernel
@[go_sem] theorem t28_64_z : zeroP Try.prog 64 = some [.nils] := _root_.id (by kernel_rfl)
@[go_sem] theorem t28_64_o : zeroOK Try.prog 64 = true := by decide +kernel
@[go_sem] theorem t28_64_i : zeroI Try.prog 64 = some (.nils) := _root_.id (by kernel_rfl)
@[go_sem] theorem t28_64_y : (((Try.prog.info? 64).map (·.bytes)).getD 0 ≤ 256) = True := eq_true (by decide +kernel)
@[go_sem] theorem t28_64_b : (bytesP Try.prog 64 ≤ 1024) = True := eq_true (by decide +kernel)
@[go_sem] theorem t28_65_h : hasP Try.prog 65 = true := by decide +kernel
@[go_sem] theorem t28_65_s : sizeP Try.prog 65 = 1 := by decide +kernel
@[go_sem] theorem t28_65_a : aggP Try.prog 65 = false := by decide +kernel
@[go_sem] theorem t28_65_z : zeroP Try.prog 65 = some [.nilf] := _root_.id (by kernel_rfl)
@[go_sem] theorem t28_65_o : zeroOK Try.prog 65 = true := by decide +kernel
@[go_sem] theorem t28_65_i : zeroI Try.prog 65 = some (.nilf) := _root_.id (by kernel_rfl)
@[go_sem] theorem t28_65_y : (((Try.prog.info? 65).map (·.bytes)).getD 0 ≤ 256) = True := eq_true (by decide +kernel)
@[go_sem] theorem t28_65_b : (bytesP Try.prog 65 ≤ 1024) = True := eq_true (by decide +kernel)
@[go_sem] theorem t28_66_h : hasP Try.prog 66 = true := by decide +kernel
@[go_sem] theorem t28_66_s : sizeP Try.prog 66 = 1 := by decide +kernel
@[go_sem] theorem t28_66_a : aggP Try.prog 66 = false := by decide +kernel
@[go_sem] theorem t28_66_z : zeroP Try.prog 66 = some [.nilf] := _root_.id (by kernel_rfl)
@[go_sem] theorem t28_66_o : zeroOK Try.prog 66 = true := by decide +kernel
@[go_sem] theorem t28_66_i : zeroI Try.prog 66 = some (.nilf) := _root_.id (by kernel_rfl)
@[go_sem] theorem t28_66_y : (((Try.prog.info? 66).map (·.bytes)).getD 0 ≤ 256) = True := eq_true (by decide +kernel)
@[go_sem] theorem t28_66_b : (bytesP Try.prog 66 ≤ 1024) = True := eq_true (by decide +kernel)
@[go_sem] theorem t28_67_h : hasP Try.prog 67 = true := by decide +kernel
@[go_sem] theorem t28_67_s : sizeP Try.prog 67 = 1 := by decide +kernel
@[go_sem] theorem t28_67_a : aggP Try.prog 67 = false := by decide +kernel
@[go_sem] theorem t28_67_z : zeroP Try.prog 67 = some [.nils] := _root_.id (by kernel_rfl)
@[go_sem] theorem t28_67_o : zeroOK Try.prog 67 = true := by decide +kernel
@[go_sem] theorem t28_67_i : zeroI Try.prog 67 = some (.nils) := _root_.id (by kernel_rfl)
@[go_sem] theorem t28_67_y : (((Try.prog.info? 67).map (·.bytes)).getD 0 ≤ 256) = True := eq_true (by decide +kernel)
@[go_sem] theorem t28_67_b : (bytesP Try.prog 67 ≤ 1024) = True := eq_true (by decide +kernel)
@[go_sem] theorem t28_69_h : hasP Try.prog 69 = true := by decide +kernel
@[go_sem] theorem t28_69_s : sizeP Try.prog 69 = 1 := by decide +kernel
@[go_sem] theorem t28_69_a : aggP Try.prog 69 = false := by decide +kernel
@[go_sem] theorem t28_69_z : zeroP Try.prog 69 = some [.nilf] := _root_.id (by kernel_rfl)
@[go_sem] theorem t28_69_o : zeroOK Try.prog 69 = true := by decide +kernel
@[go_sem] theorem t28_69_i : zeroI Try.prog 69 = some (.nilf) := _root_.id (by kernel_rfl)
@[go_sem] theorem t28_69_y : (((Try.prog.info? 69).map (·.bytes)).getD 0 ≤ 256) = True := eq_true (by decide +kernel)
@[go_sem] theorem t28_69_b : (bytesP Try.prog 69 ≤ 1024) = True := eq_true (by decide +kernel)
@[go_sem] theorem t28_71_h : hasP Try.prog 71 = true := by decide +kernel
@[go_sem] theorem t28_71_s : sizeP Try.prog 71 = 1 := by decide +kernel
@[go_sem] theorem t28_71_a : aggP Try.prog 71 = false := by decide +kernel
@[go_sem] theorem t28_71_z : zeroP Try.prog 71 = some [.nilf] := _root_.id (by kernel_rfl)
@[go_sem] theorem t28_71_o : zeroOK Try.prog 71 = true := by decide +kernel
@[go_sem] theorem t28_71_i : zeroI Try.prog 71 = some (.nilf) := _root_.id (by kernel_rfl)
@[go_sem] theorem t28_71_y : (((Try.prog.info? 71).map (·.bytes)).getD 0 ≤ 256) = True := eq_true (by decide +kernel)
@[go_sem] theorem t28_71_b : (bytesP Try.prog 71 ≤ 1024) = True := eq_true (by decide +kernel)
@[go_sem] theorem t28_73_h : hasP Try.prog 73 = true := by decide +kernel
@[go_sem] theorem t28_73_s : sizeP Try.prog 73 = 1 := by decide +kernel
@[go_sem] theorem t28_73_a : aggP Try.prog 73 = false := by decide +kernel
@[go_sem] theorem t28_73_z : zeroP Try.prog 73 = some [.nilf] := _root_.id (by kernel_rfl)
@[go_sem] theorem t28_73_o : zeroOK Try.prog 73 = true := by decide +kernel
@[go_sem] theorem t28_73_i : zeroI Try.prog 73 = some (.nilf) := _root_.id (by kernel_rfl)
@[go_sem] theorem t28_73_y : (((Try.prog.info? 73).map (·.bytes)).getD 0 ≤ 256) = True := eq_true (by decide +kernel)
@[go_sem] theorem t28_73_b : (bytesP Try.prog 73 ≤ 1024) = True := eq_true (by decide +kernel)
@[go_sem] theorem t28_74_h : hasP Try.prog 74 = true := by decide +kernel
@[go_sem] theorem t28_74_s : sizeP Try.prog 74 = 1 := by decide +kernel
@[go_sem] theorem t28_74_a : aggP Try.prog 74 = false := by decide +kernel
@[go_sem] theorem t28_74_z : zeroP Try.prog 74 = some [.nilf] := _root_.id (by kernel_rfl)
@[go_sem] theorem t28_74_o : zeroOK Try.prog 74 = true := by decide +kernel
@[go_sem] theorem t28_74_i : zeroI Try.prog 74 = some (.nilf) := _root_.id (by kernel_rfl)
@[go_sem] theorem t28_74_y : (((Try.prog.info? 74).map (·.bytes)).getD 0 ≤ 256) = True := eq_true (by decide +kernel)
@[go_sem] theorem t28_74_b : (bytesP Try.prog 74 ≤ 1024) = True := eq_true (by decide +kernel)
@[go_sem] theorem t28_75_h : hasP Try.prog 75 = true := by decide +kernel
@[go_sem] theorem t28_75_s : sizeP Try.prog 75 = 1 := by decide +kernel
@[go_sem] theorem t28_75_a : aggP Try.prog 75 = false := by decide +kernel
@[go_sem] theorem t28_75_z : zeroP Try.prog 75 = some [.nilf] := _root_.id (by kernel_rfl)
@[go_sem] theorem t28_75_o : zeroOK Try.prog 75 = true := by decide +kernel
@[go_sem] theorem t28_75_i : zeroI Try.prog 75 = some (.nilf) := _root_.id (by kernel_rfl)
@[go_sem] theorem t28_75_y : (((Try.prog.info? 75).map (·.bytes)).getD 0 ≤ 256) = True := eq_true (by decide +kernel)
@[go_sem] theorem t28_75_b : (bytesP Try.prog 75 ≤ 1024) = True := eq_true (by decide +kernel)
@[go_sem] theorem t28_76_h : hasP Try.prog 76 = true := by decide +kernel
@[go_sem] theorem t28_76_s : sizeP Try.prog 76 = 4 := by decide +kernel
@[go_sem] theorem t28_76_a : aggP Try.prog 76 = true := by decide +kernel
@[go_sem] theorem t28_76_z : zeroP Try.prog 76 = some [.int .i64 0, .int .i64 0, .int .i64 0, .int .i64 0] := _root_.id (by kernel_rfl)
@[go_sem] theorem t28_76_o : zeroOK Try.prog 76 = true := by decide +kernel
@[go_sem] theorem t28_76_i : zeroI Try.prog 76 = some (.agg [.int .i64 0, .int .i64 0, .int .i64 0, .int .i64 0]) := _root_.id (by kernel_rfl)
@[go_sem] theorem t28_76_y : (((Try.prog.info? 76).map (·.bytes)).getD 0 ≤ 256) = True := eq_true (by decide +kernel)
@[go_sem] theorem t28_76_b : (bytesP Try.prog 76 ≤ 1024) = True := eq_true (by decide +kernel)
@[go_sem] theorem t28_76_f : flatP Try.prog 76 = some [.int .i64, .int .i64, .int .i64, .int .i64] := flat_of (by decide +kernel)
@[go_sem] theorem t28_76_k : keyK Try.prog 76 = some [.int .i64, .int .i64, .int .i64, .int .i64] := key_of (by decide +kernel)
@[go_sem] theorem t28_77_h : hasP Try.prog 77 = true := by decide +kernel
@[go_sem] theorem t28_77_s : sizeP Try.prog 77 = 4 := by decide +kernel
@[go_sem] theorem t28_77_a : aggP Try.prog 77 = true := by decide +kernel
@[go_sem] theorem t28_77_z : zeroP Try.prog 77 = some [.int .i64 0, .int .i64 0, .int .i64 0, .int .i64 0] := _root_.id (by kernel_rfl)
@[go_sem] theorem t28_77_o : zeroOK Try.prog 77 = true := by decide +kernel
@[go_sem] theorem t28_77_i : zeroI Try.prog 77 = some (.agg [.int .i64 0, .int .i64 0, .int .i64 0, .int .i64 0]) := _root_.id (by kernel_rfl)
@[go_sem] theorem t28_77_y : (((Try.prog.info? 77).map (·.bytes)).getD 0 ≤ 256) = True := eq_true (by decide +kernel)
@[go_sem] theorem t28_77_b : (bytesP Try.prog 77 ≤ 1024) = True := eq_true (by decide +kernel)
@[go_sem] theorem t28_77_f : flatP Try.prog 77 = some [.int .i64, .int .i64, .int .i64, .int .i64] := flat_of (by decide +kernel)
@[go_sem] theorem t28_77_k : keyK Try.prog 77 = some [.int .i64, .int .i64, .int .i64, .int .i64] := key_of (by decide +kernel)
@[go_sem] theorem t28_78_h : hasP Try.prog 78 = true := by decide +kernel
@[go_sem] theorem t28_78_s : sizeP Try.prog 78 = 1 := by decide +kernel
@[go_sem] theorem t28_78_a : aggP Try.prog 78 = false := by decide +kernel
@[go_sem] theorem t28_78_z : zeroP Try.prog 78 = some [.nilf] := _root_.id (by kernel_rfl)
@[go_sem] theorem t28_78_o : zeroOK Try.prog 78 = true := by decide +kernel
@[go_sem] theorem t28_78_i : zeroI Try.prog 78 = some (.nilf) := _root_.id (by kernel_rfl)
@[go_sem] theorem t28_78_y : (((Try.prog.info? 78).map (·.bytes)).getD 0 ≤ 256) = True := eq_true (by decide +kernel)
@[go_sem] theorem t28_78_b : (bytesP Try.prog 78 ≤ 1024) = True := eq_true (by decide +kernel)
@[go_sem] theorem t28_79_h : hasP Try.prog 79 = true := by decide +kernel
@[go_sem] theorem t28_79_s : sizeP Try.prog 79 = 1 := by decide +kernel
@[go_sem] theorem t28_79_a : aggP Try.prog 79 = false := by decide +kernel
@[go_sem] theorem t28_79_z : zeroP Try.prog 79 = some [.nilf] := _root_.id (by kernel_rfl)
@[go_sem] theorem t28_79_o : zeroOK Try.prog 79 = true := by decide +kernel
@[go_sem] theorem t28_79_i : zeroI Try.prog 79 = some (.nilf) := _root_.id (by kernel_rfl)
@[go_sem] theorem t28_79_y : (((Try.prog.info? 79).map (·.bytes)).getD 0 ≤ 256) = True := eq_true (by decide +kernel)
@[go_sem] theorem t28_79_b : (bytesP Try.prog 79 ≤ 1024) = True := eq_true (by decide +kernel)
@[go_sem] theorem t28_80_h : hasP Try.prog 80 = true := by decide +kernel
@[go_sem] theorem t28_80_s : sizeP Try.prog 80 = 1 := by decide +kernel
@[go_sem] theorem t28_80_a : aggP Try.prog 80 = false := by decide +kernel
@[go_sem] theorem t28_80_z : zeroP Try.prog 80 = some [.nilf] := _root_.id (by kernel_rfl)
@[go_sem] theorem t28_80_o : zeroOK Try.prog 80 = true := by decide +kernel
@[go_sem] theorem t28_80_i : zeroI Try.prog 80 = some (.nilf) := _root_.id (by kernel_rfl)
@[go_sem] theorem t28_80_y : (((Try.prog.info? 80).map (·.bytes)).getD 0 ≤ 256) = True := eq_true (by decide +kernel)
@[go_sem] theorem t28_80_b : (bytesP Try.prog 80 ≤ 1024) = True := eq_true (by decide +kernel)
@[go_sem] theorem t28_81_h : hasP Try.prog 81 = true := by decide +kernel
@[go_sem] theorem t28_81_s : sizeP Try.prog 81 = 1 := by decide +kernel
@[go_sem] theorem t28_81_a : aggP Try.prog 81 = false := by decide +kernel
@[go_sem] theorem t28_81_z : zeroP Try.prog 81 = some [.nilf] := _root_.id (by kernel_rfl)
@[go_sem] theorem t28_81_o : zeroOK Try.prog 81 = true := by decide +kernel
@[go_sem] theorem t28_81_i : zeroI Try.prog 81 = some (.nilf) := _root_.id (by kernel_rfl)
@[go_sem] theorem t28_81_y : (((Try.prog.info? 81).map (·.bytes)).getD 0 ≤ 256) = True := eq_true (by decide +kernel)
@[go_sem] theorem t28_81_b : (bytesP Try.prog 81 ≤ 1024) = True := eq_true (by decide +kernel)
@[go_sem] theorem t28_82_h : hasP Try.prog 82 = true := by decide +kernel
@[go_sem] theorem t28_82_s : sizeP Try.prog 82 = 5 := by decide +kernel
@[go_sem] theorem t28_82_a : aggP Try.prog 82 = true := by decide +kernel
@[go_sem] theorem t28_82_z : zeroP Try.prog 82 = some [.bool false, .int .i64 0, .int .i64 0, .nilf, .nilf] := _root_.id (by kernel_rfl)
@[go_sem] theorem t28_82_o : zeroOK Try.prog 82 = true := by decide +kernel
@[go_sem] theorem t28_82_i : zeroI Try.prog 82 = some (.agg [.bool false, .int .i64 0, .int .i64 0, .nilf, .nilf]) := _root_.id (by kernel_rfl)
@[go_sem] theorem t28_82_y : (((Try.prog.info? 82).map (·.bytes)).getD 0 ≤ 256) = True := eq_true (by decide +kernel)
@[go_sem] theorem t28_82_b : (bytesP Try.prog 82 ≤ 1024) = True := eq_true (by decide +kernel)
@[go_sem] theorem t28_83_h : hasP Try.prog 83 = true := by decide +kernel
@[go_sem] theorem t28_83_s : sizeP Try.prog 83 = 5 := by decide +kernel
@[go_sem] theorem t28_83_a : aggP Try.prog 83 = true := by decide +kernel
@[go_sem] theorem t28_83_z : zeroP Try.prog 83 = some [.bool false, .int .i64 0, .int .i64 0, .nilf, .nilf] := _root_.id (by kernel_rfl)
@[go_sem] theorem t28_83_o : zeroOK Try.prog 83 = true := by decide +kernel
@[go_sem] theorem t28_83_i : zeroI Try.prog 83 = some (.agg [.bool false, .int .i64 0, .int .i64 0, .nilf, .nilf]) := _root_.id (by kernel_rfl)
@[go_sem] theorem t28_83_y : (((Try.prog.info? 83).map (·.bytes)).getD 0 ≤ 256) = True := eq_true (by decide +kernel)
@[go_sem] theorem t28_83_b : (bytesP Try.prog 83 ≤ 1024) = True := eq_true (by decide +kernel)
@[go_sem] theorem t28_85_h : hasP Try.prog 85 = true := by decide +kernel
@[go_sem] theorem t28_85_s : sizeP Try.prog 85 = 1 := by decide +kernel
@[go_sem] theorem t28_85_a : aggP Try.prog 85 = false := by decide +kernel
@[go_sem] theorem t28_85_z : zeroP Try.prog 85 = some [.nilf] := _root_.id (by kernel_rfl)
@[go_sem] theorem t28_85_o : zeroOK Try.prog 85 = true := by decide +kernel
@[go_sem] theorem t28_85_i : zeroI Try.prog 85 = some (.nilf) := _root_.id (by kernel_rfl)
@[go_sem] theorem t28_85_y : (((Try.prog.info? 85).map (·.bytes)).getD 0 ≤ 256) = True := eq_true (by decide +kernel)
@[go_sem] theorem t28_85_b : (bytesP Try.prog 85 ≤ 1024) = True := eq_true (by decide +kernel)
@[go_sem] theorem t28_86_h : hasP Try.prog 86 = true := by decide +kernel
@[go_sem] theorem t28_86_s : sizeP Try.prog 86 = 1 := by decide +kernel
@[go_sem] theorem t28_86_a : aggP Try.prog 86 = false := by decide +kernel
@[go_sem] theorem t28_86_z : zeroP Try.prog 86 = some [.nilf] := _root_.id (by kernel_rfl)
@[go_sem] theorem t28_86_o : zeroOK Try.prog 86 = true := by decide +kernel
@[go_sem] theorem t28_86_i : zeroI Try.prog 86 = some (.nilf) := _root_.id (by kernel_rfl)
@[go_sem] theorem t28_86_y : (((Try.prog.info? 86).map (·.bytes)).getD 0 ≤ 256) = True := eq_true (by decide +kernel)
@[go_sem] theorem t28_86_b : (bytesP Try.prog 86 ≤ 1024) = True := eq_true (by decide +kernel)
@[go_sem] theorem t28_87_h : hasP Try.prog 87 = true := by decide +kernel
@[go_sem] theorem t28_87_s : sizeP Try.prog 87 = 1 := by decide +kernel
@[go_sem] theorem t28_87_a : aggP Try.prog 87 = false := by decide +kernel
@[go_sem] theorem t28_87_z : zeroP Try.prog 87 = some [.nilf] := _root_.id (by kernel_rfl)
@[go_sem] theorem t28_87_o : zeroOK Try.prog 87 = true := by decide +kernel
@[go_sem] theorem t28_87_i : zeroI Try.prog 87 = some (.nilf) := _root_.id (by kernel_rfl)
@[go_sem] theorem t28_87_y : (((Try.prog.info? 87).map (·.bytes)).getD 0 ≤ 256) = True := eq_true (by decide +kernel)
@[go_sem] theorem t28_87_b : (bytesP Try.prog 87 ≤ 1024) = True := eq_true (by decide +kernel)
@[go_sem] theorem t28_88_h : hasP Try.prog 88 = true := by decide +kernel
@[go_sem] theorem t28_88_s : sizeP Try.prog 88 = 1 := by decide +kernel
@[go_sem] theorem t28_88_a : aggP Try.prog 88 = false := by decide +kernel
@[go_sem] theorem t28_88_z : zeroP Try.prog 88 = some [.nilf] := _root_.id (by kernel_rfl)
@[go_sem] theorem t28_88_o : zeroOK Try.prog 88 = true := by decide +kernel
@[go_sem] theorem t28_88_i : zeroI Try.prog 88 = some (.nilf) := _root_.id (by kernel_rfl)
@[go_sem] theorem t28_88_y : (((Try.prog.info? 88).map (·.bytes)).getD 0 ≤ 256) = True := eq_true (by decide +kernel)
@[go_sem] theorem t28_88_b : (bytesP Try.prog 88 ≤ 1024) = True := eq_true (by decide +kernel)
@[go_sem] theorem t28_89_h : hasP Try.prog 89 = true := by decide +kernel
@[go_sem] theorem t28_89_s : sizeP Try.prog 89 = 1 := by decide +kernel
@[go_sem] theorem t28_89_a : aggP Try.prog 89 = false := by decide +kernel
@[go_sem] theorem t28_89_z : zeroP Try.prog 89 = some [.nilf] := _root_.id (by kernel_rfl)
@[go_sem] theorem t28_89_o : zeroOK Try.prog 89 = true := by decide +kernel
@[go_sem] theorem t28_89_i : zeroI Try.prog 89 = some (.nilf) := _root_.id (by kernel_rfl)
@[go_sem] theorem t28_89_y : (((Try.prog.info? 89).map (·.bytes)).getD 0 ≤ 256) = True := eq_true (by decide +kernel)
@[go_sem] theorem t28_89_b : (bytesP Try.prog 89 ≤ 1024) = True := eq_true (by decide +kernel)
@[go_sem] theorem t28_91_h : hasP Try.prog 91 = true := by decide +kernel
@[go_sem] theorem t28_91_s : sizeP Try.prog 91 = 1 := by decide +kernel
@[go_sem] theorem t28_91_a : aggP Try.prog 91 = false := by decide +kernel
@[go_sem] theorem t28_91_z : zeroP Try.prog 91 = some [.nilf] := _root_.id (by kernel_rfl)
@[go_sem] theorem t28_91_o : zeroOK Try.prog 91 = true := by decide +kernel
@[go_sem] theorem t28_91_i : zeroI Try.prog 91 = some (.nilf) := _root_.id (by kernel_rfl)
@[go_sem] theorem t28_91_y : (((Try.prog.info? 91).map (·.bytes)).getD 0 ≤ 256) = True := eq_true (by decide +kernel)
@[go_sem] theorem t28_91_b : (bytesP Try.prog 91 ≤ 1024) = True := eq_true (by decide +kernel)
@[go_sem] theorem t28_92_h : hasP Try.prog 92 = true := by decide +kernel
@[go_sem] theorem t28_92_s : sizeP Try.prog 92 = 1 := by decide +kernel
@[go_sem] theorem t28_92_a : aggP Try.prog 92 = false := by decide +kernel
@[go_sem] theorem t28_92_z : zeroP Try.prog 92 = some [.nilf] := _root_.id (by kernel_rfl)
@[go_sem] theorem t28_92_o : zeroOK Try.prog 92 = true := by decide +kernel
@[go_sem] theorem t28_92_i : zeroI Try.prog 92 = some (.nilf) := _root_.id (by kernel_rfl)
@[go_sem] theorem t28_92_y : (((Try.prog.info? 92).map (·.bytes)).getD 0 ≤ 256) = True := eq_true (by decide +kernel)
@[go_sem] theorem t28_92_b : (bytesP Try.prog 92 ≤ 1024) = True := eq_true (by decide +kernel)
@[go_sem] theorem t28_93_h : hasP Try.prog 93 = true := by decide +kernel
@[go_sem] theorem t28_93_s : sizeP Try.prog 93 = 1 := by decide +kernel
@[go_sem] theorem t28_93_a : aggP Try.prog 93 = false := by decide +kernel
@[go_sem] theorem t28_93_z : zeroP Try.prog 93 = some [.nilm] := _root_.id (by kernel_rfl)
@[go_sem] theorem t28_93_o : zeroOK Try.prog 93 = true := by decide +kernel
@[go_sem] theorem t28_93_i : zeroI Try.prog 93 = some (.nilm) := _root_.id (by kernel_rfl)
@[go_sem] theorem t28_93_y : (((Try.prog.info? 93).map (·.bytes)).getD 0 ≤ 256) = True := eq_true (by decide +kernel)
@[go_sem] theorem t28_93_b : (bytesP Try.prog 93 ≤ 1024) = True := eq_true (by decide +kernel)
@[go_sem] theorem t28_94_h : hasP Try.prog 94 = true := by decide +kernel
@[go_sem] theorem t28_94_s : sizeP Try.prog 94 = 1 := by decide +kernel
@[go_sem] theorem t28_94_a : aggP Try.prog 94 = false := by decide +kernel
@[go_sem] theorem t28_94_z : zeroP Try.prog 94 = some [.nilf] := _root_.id (by kernel_rfl)
@[go_sem] theorem t28_94_o : zeroOK Try.prog 94 = true := by decide +kernel
@[go_sem] theorem t28_94_i : zeroI Try.prog 94 = some (.nilf) := _root_.id (by kernel_rfl)
@[go_sem] theorem t28_94_y : (((Try.prog.info? 94).map (·.bytes)).getD 0 ≤ 256) = True := eq_true (by decide +kernel)
@[go_sem] theorem t28_94_b : (bytesP Try.prog 94 ≤ 1024) = True := eq_true (by decide +kernel)
@[go_sem] theorem t28_95_h : hasP Try.prog 95 = true := by decide +kernel
@[go_sem] theorem t28_95_s : sizeP Try.prog 95 = 1 := by decide +kernel
@[go_sem] theorem t28_95_a : aggP Try.prog 95 = false := by decide +kernel
@[go_sem] theorem t28_95_z : zeroP Try.prog 95 = some [.nilp] := _root_.id (by kernel_rfl)
@[go_sem] theorem t28_95_o : zeroOK Try.prog 95 = true := by decide +kernel
@[go_sem] theorem t28_95_i : zeroI Try.prog 95 = some (.nilp) := _root_.id (by kernel_rfl)
@[go_sem] theorem t28_95_y : (((Try.prog.info? 95).map (·.bytes)).getD 0 ≤ 256) = True := eq_true (by decide +kernel)
@[go_sem] theorem t28_95_b : (bytesP Try.prog 95 ≤ 1024) = True := eq_true (by decide +kernel)
@[go_sem] theorem t28_96_h : hasP Try.prog 96 = true := by decide +kernel
@[go_sem] theorem t28_96_s : sizeP Try.prog 96 = 1 := by decide +kernel
@[go_sem] theorem t28_96_a : aggP Try.prog 96 = false := by decide +kernel
@[go_sem] theorem t28_96_z : zeroP Try.prog 96 = some [.nilm] := _root_.id (by kernel_rfl)
@[go_sem] theorem t28_96_o : zeroOK Try.prog 96 = true := by decide +kernel
@[go_sem] theorem t28_96_i : zeroI Try.prog 96 = some (.nilm) := _root_.id (by kernel_rfl)
@[go_sem] theorem t28_96_y : (((Try.prog.info? 96).map (·.bytes)).getD 0 ≤ 256) = True := eq_true (by decide +kernel)
@[go_sem] theorem t28_96_b : (bytesP Try.prog 96 ≤ 1024) = True := eq_true (by decide +kernel)
@[go_sem] theorem t28_97_h : hasP Try.prog 97 = true := by decide +kernel
@[go_sem] theorem t28_97_s : sizeP Try.prog 97 = 2 := by decide +kernel
@[go_sem] theorem t28_97_a : aggP Try.prog 97 = true := by decide +kernel
@[go_sem] theorem t28_97_z : zeroP Try.prog 97 = some [.int .i64 0, .nilm] := _root_.id (by kernel_rfl)
@[go_sem] theorem t28_97_o : zeroOK Try.prog 97 = true := by decide +kernel
@[go_sem] theorem t28_97_i : zeroI Try.prog 97 = some (.agg [.int .i64 0, .nilm]) := _root_.id (by kernel_rfl)
@[go_sem] theorem t28_97_y : (((Try.prog.info? 97).map (·.bytes)).getD 0 ≤ 256) = True := eq_true (by decide +kernel)
@[go_sem] theorem t28_97_b : (bytesP Try.prog 97 ≤ 1024) = True := eq_true (by decide +kernel)
@[go_sem] theorem t28_98_h : hasP Try.prog 98 = true := by decide +kernel
@[go_sem] theorem t28_98_s : sizeP Try.prog 98 = 2 := by decide +kernel
@[go_sem] theorem t28_98_a : aggP Try.prog 98 = true := by decide +kernel
@[go_sem] theorem t28_98_z : zeroP Try.prog 98 = some [.int .i64 0, .nilm] := _root_.id (by kernel_rfl)
@[go_sem] theorem t28_98_o : zeroOK Try.prog 98 = true := by decide +kernel
@[go_sem] theorem t28_98_i : zeroI Try.prog 98 = some (.agg [.int .i64 0, .nilm]) := _root_.id (by kernel_rfl)
@[go_sem] theorem t28_98_y : (((Try.prog.info? 98).map (·.bytes)).getD 0 ≤ 256) = True := eq_true (by decide +kernel)
@[go_sem] theorem t28_98_b : (bytesP Try.prog 98 ≤ 1024) = True := eq_true (by decide +kernel)
@[go_sem] theorem t28_99_h : hasP Try.prog 99 = true := by decide +kernel
@[go_sem] theorem t28_99_s : sizeP Try.prog 99 = 1 := by decide +kernel
@[go_sem] theorem t28_99_a : aggP Try.prog 99 = false := by decide +kernel
@[go_sem] theorem t28_99_z : zeroP Try.prog 99 = some [.nilf] := _root_.id (by kernel_rfl)
@[go_sem] theorem t28_99_o : zeroOK Try.prog 99 = true := by decide +kernel
@[go_sem] theorem t28_99_i : zeroI Try.prog 99 = some (.nilf) := _root_.id (by kernel_rfl)
@[go_sem] theorem t28_99_y : (((Try.prog.info? 99).map (·.bytes)).getD 0 ≤ 256) = True := eq_true (by decide +kernel)
@[go_sem] theorem t28_99_b : (bytesP Try.prog 99 ≤ 1024) = True := eq_true (by decide +kernel)
@[go_sem] theorem t28_100_h : hasP Try.prog 100 = true := by decide +kernel
@[go_sem] theorem t28_100_s : sizeP Try.prog 100 = 1 := by decide +kernel
@[go_sem] theorem t28_100_a : aggP Try.prog 100 = false := by decide +kernel
@[go_sem] theorem t28_100_z : zeroP Try.prog 100 = some [.nilf] := _root_.id (by kernel_rfl)
@[go_sem] theorem t28_100_o : zeroOK Try.prog 100 = true := by decide +kernel
@[go_sem] theorem t28_100_i : zeroI Try.prog 100 = some (.nilf) := _root_.id (by kernel_rfl)
@[go_sem] theorem t28_100_y : (((Try.prog.info? 100).map (·.bytes)).getD 0 ≤ 256) = True := eq_true (by decide +kernel)
@[go_sem] theorem t28_100_b : (bytesP Try.prog 100 ≤ 1024) = True := eq_true (by decide +kernel)
@[go_sem] theorem t28_101_h : hasP Try.prog 101 = true := by decide +kernel
@[go_sem] theorem t28_101_s : sizeP Try.prog 101 = 6 := by decide +kernel
@[go_sem] theorem t28_101_a : aggP Try.prog 101 = true := by decide +kernel
@[go_sem] theorem t28_101_z : zeroP Try.prog 101 = some [.nilf, .nilf, .nilf, .nilf, .nilf, .nilf] := _root_.id (by kernel_rfl)
@[go_sem] theorem t28_101_o : zeroOK Try.prog 101 = true := by decide +kernel
@[go_sem] theorem t28_101_i : zeroI Try.prog 101 = some (.agg [.nilf, .nilf, .nilf, .nilf, .nilf, .nilf]) := _root_.id (by kernel_rfl)
@[go_sem] theorem t28_101_y : (((Try.prog.info? 101).map (·.bytes)).getD 0 ≤ 256) = True := eq_true (by decide +kernel)
@[go_sem] theorem t28_101_b : (bytesP Try.prog 101 ≤ 1024) = True := eq_true (by decide +kernel)
@[go_sem] theorem t28_102_h : hasP Try.prog 102 = true := by decide +kernel
@[go_sem] theorem t28_102_s : sizeP Try.prog 102 = 1 := by decide +kernel
@[go_sem] theorem t28_102_a : aggP Try.prog 102 = false := by decide +kernel
@[go_sem] theorem t28_102_z : zeroP Try.prog 102 = some [.nilf] := _root_.id (by kernel_rfl)
@[go_sem] theorem t28_102_o : zeroOK Try.prog 102 = true := by decide +kernel
@[go_sem] theorem t28_102_i : zeroI Try.prog 102 = some (.nilf) := _root_.id (by kernel_rfl)
@[go_sem] theorem t28_102_y : (((Try.prog.info? 102).map (·.bytes)).getD 0 ≤ 256) = True := eq_true (by decide +kernel)
@[go_sem] theorem t28_102_b : (bytesP Try.prog 102 ≤ 1024) = True := eq_true (by decide +kernel)
@[go_sem] theorem t28_103_h : hasP Try.prog 103 = true := by decide +kernel
@[go_sem] theorem t28_103_s : sizeP Try.prog 103 = 1 := by decide +kernel
@[go_sem] theorem t28_103_a : aggP Try.prog 103 = false := by decide +kernel
@[go_sem] theorem t28_103_z : zeroP Try.prog 103 = some [.nils] := _root_.id (by kernel_rfl)
@[go_sem] theorem t28_103_o : zeroOK Try.prog 103 = true := by decide +kernel
@[go_sem] theorem t28_103_i : zeroI Try.prog 103 = some (.nils) := _root_.id (by kernel_rfl)
@[go_sem] theorem t28_103_y : (((Try.prog.info? 103).map (·.bytes)).getD 0 ≤ 256) = True := eq_true (by decide +kernel)
@[go_sem] theorem t28_103_b : (bytesP Try.prog 103 ≤ 1024) = True := eq_true (by decide +kernel)
@[go_sem] theorem t28_104_h : hasP Try.prog 104 = true := by decide +kernel
@[go_sem] theorem t28_104_s : sizeP Try.prog 104 = 1 := by decide +kernel
@[go_sem] theorem t28_104_a : aggP Try.prog 104 = false := by decide +kernel
@[go_sem] theorem t28_104_z : zeroP Try.prog 104 = some [.nilf] := _root_.id (by kernel_rfl)
@[go_sem] theorem t28_104_o : zeroOK Try.prog 104 = true := by decide +kernel
@[go_sem] theorem t28_104_i : zeroI Try.prog 104 = some (.nilf) := _root_.id (by kernel_rfl)
@[go_sem] theorem t28_104_y : (((Try.prog.info? 104).map (·.bytes)).getD 0 ≤ 256) = True := eq_true (by decide +kernel)
@[go_sem] theorem t28_104_b : (bytesP Try.prog 104 ≤ 1024) = True := eq_true (by decide +kernel)
@[go_sem] theorem t28_105_h : hasP Try.prog 105 = true := by decide +kernel
@[go_sem] theorem t28_105_s : sizeP Try.prog 105 = 1 := by decide +kernel
@[go_sem] theorem t28_105_a : aggP Try.prog 105 = false := by decide +kernel
@[go_sem] theorem t28_105_z : zeroP Try.prog 105 = some [.nilf] := _root_.id (by kernel_rfl)
@[go_sem] theorem t28_105_o : zeroOK Try.prog 105 = true := by decide +kernel
@[go_sem] theorem t28_105_i : zeroI Try.prog 105 = some (.nilf) := _root_.id (by kernel_rfl)
@[go_sem] theorem t28_105_y : (((Try.prog.info? 105).map (·.bytes)).getD 0 ≤ 256) = True := eq_true (by decide +kernel)
@[go_sem] theorem t28_105_b : (bytesP Try.prog 105 ≤ 1024) = True := eq_true (by decide +kernel)
@[go_sem] theorem t28_106_h : hasP Try.prog 106 = true := by decide +kernel
@[go_sem] theorem t28_106_s : sizeP Try.prog 106 = 2 := by decide +kernel
@[go_sem] theorem t28_106_a : aggP Try.prog 106 = true := by decide +kernel
@[go_sem] theorem t28_106_z : zeroP Try.prog 106 = some [.int .i64 0, .int .i64 0] := _root_.id (by kernel_rfl)
@[go_sem] theorem t28_106_o : zeroOK Try.prog 106 = true := by decide +kernel
@[go_sem] theorem t28_106_i : zeroI Try.prog 106 = some (.agg [.int .i64 0, .int .i64 0]) := _root_.id (by kernel_rfl)
@[go_sem] theorem t28_106_y : (((Try.prog.info? 106).map (·.bytes)).getD 0 ≤ 256) = True := eq_true (by decide +kernel)
@[go_sem] theorem t28_106_b : (bytesP Try.prog 106 ≤ 1024) = True := eq_true (by decide +kernel)
@[go_sem] theorem t28_106_f : flatP Try.prog 106 = some [.int .i64, .int .i64] := flat_of (by decide +kernel)
@[go_sem] theorem t28_106_k : keyK Try.prog 106 = some [.int .i64, .int .i64] := key_of (by decide +kernel)
@[go_sem] theorem t28_107_h : hasP Try.prog 107 = true := by decide +kernel
@[go_sem] theorem t28_107_s : sizeP Try.prog 107 = 1 := by decide +kernel
@[go_sem] theorem t28_107_a : aggP Try.prog 107 = false := by decide +kernel
@[go_sem] theorem t28_107_z : zeroP Try.prog 107 = some [.nilf] := _root_.id (by kernel_rfl)
@[go_sem] theorem t28_107_o : zeroOK Try.prog 107 = true := by decide +kernel
@[go_sem] theorem t28_107_i : zeroI Try.prog 107 = some (.nilf) := _root_.id (by kernel_rfl)
@[go_sem] theorem t28_107_y : (((Try.prog.info? 107).map (·.bytes)).getD 0 ≤ 256) = True := eq_true (by decide +kernel)
@[go_sem] theorem t28_107_b : (bytesP Try.prog 107 ≤ 1024) = True := eq_true (by decide +kernel)
@[go_sem] theorem t28_108_h : hasP Try.prog 108 = true := by decide +kernel
@[go_sem] theorem t28_108_s : sizeP Try.prog 108 = 1 := by decide +kernel
@[go_sem] theorem t28_108_a : aggP Try.prog 108 = false := by decide +kernel
@[go_sem] theorem t28_108_z : zeroP Try.prog 108 = some [.nilf] := _root_.id (by kernel_rfl)
@[go_sem] theorem t28_108_o : zeroOK Try.prog 108 = true := by decide +kernel
@[go_sem] theorem t28_108_i : zeroI Try.prog 108 = some (.nilf) := _root_.id (by kernel_rfl)
@[go_sem] theorem t28_108_y : (((Try.prog.info? 108).map (·.bytes)).getD 0 ≤ 256) = True := eq_true (by decide +kernel)
@[go_sem] theorem t28_108_b : (bytesP Try.prog 108 ≤ 1024) = True := eq_true (by decide +kernel)
@[go_sem] theorem t28_109_h : hasP Try.prog 109 = true := by decide +kernel
@[go_sem] theorem t28_109_s : sizeP Try.prog 109 = 1 := by decide +kernel
@[go_sem] theorem t28_109_a : aggP Try.prog 109 = false := by decide +kernel
@[go_sem] theorem t28_109_z : zeroP Try.prog 109 = some [.nilf] := _root_.id (by kernel_rfl)
@[go_sem] theorem t28_109_o : zeroOK Try.prog 109 = true := by decide +kernel
@[go_sem] theorem t28_109_i : zeroI Try.prog 109 = some (.nilf) := _root_.id (by kernel_rfl)
@[go_sem] theorem t28_109_y : (((Try.prog.info? 109).map (·.bytes)).getD 0 ≤ 256) = True := eq_true (by decide +kernel)
@[go_sem] theorem t28_109_b : (bytesP Try.prog 109 ≤ 1024) = True := eq_true (by decide +kernel)
@[go_sem] theorem t28_110_h : hasP Try.prog 110 = true := by decide +kernel
@[go_sem] theorem t28_110_s : sizeP Try.prog 110 = 1 := by decide +kernel
@[go_sem] theorem t28_110_a : aggP Try.prog 110 = false := by decide +kernel
@[go_sem] theorem t28_110_z : zeroP Try.prog 110 = some [.nilf] := _root_.id (by kernel_rfl)
@[go_sem] theorem t28_110_o : zeroOK Try.prog 110 = true := by decide +kernel
@[go_sem] theorem t28_110_i : zeroI Try.prog 110 = some (.nilf) := _root_.id (by kernel_rfl)
@[go_sem] theorem t28_110_y : (((Try.prog.info? 110).map (·.bytes)).getD 0 ≤ 256) = True := eq_true (by decide +kernel)
@[go_sem] theorem t28_110_b : (bytesP Try.prog 110 ≤ 1024) = True := eq_true (by decide +kernel)
@[go_sem] theorem t28_111_h : hasP Try.prog 111 = true := by decide +kernel
@[go_sem] theorem t28_111_s : sizeP Try.prog 111 = 1 := by decide +kernel
@[go_sem] theorem t28_111_a : aggP Try.prog 111 = false := by decide +kernel
@[go_sem] theorem t28_111_z : zeroP Try.prog 111 = some [.nilf] := _root_.id (by kernel_rfl)
@[go_sem] theorem t28_111_o : zeroOK Try.prog 111 = true := by decide +kernel
@[go_sem] theorem t28_111_i : zeroI Try.prog 111 = some (.nilf) := _root_.id (by kernel_rfl)
@[go_sem] theorem t28_111_y : (((Try.prog.info? 111).map (·.bytes)).getD 0 ≤ 256) = True := eq_true (by decide +kernel)
@[go_sem] theorem t28_111_b : (bytesP Try.prog 111 ≤ 1024) = True := eq_true (by decide +kernel)
@[go_sem] theorem t28_112_h : hasP Try.prog 112 = true := by decide +kernel
@[go_sem] theorem t28_112_s : sizeP Try.prog 112 = 1 := by decide +kernel
@[go_sem] theorem t28_112_a : aggP Try.prog 112 = false := by decide +kernel
@[go_sem] theorem t28_112_z : zeroP Try.prog 112 = some [.nilf] := _root_.id (by kernel_rfl)
@[go_sem] theorem t28_112_o : zeroOK Try.prog 112 = true := by decide +kernel
@[go_sem] theorem t28_112_i : zeroI Try.prog 112 = some (.nilf) := _root_.id (by kernel_rfl)
@[go_sem] theorem t28_112_y : (((Try.prog.info? 112).map (·.bytes)).getD 0 ≤ 256) = True := eq_true (by decide +kernel)
@[go_sem] theorem t28_112_b : (bytesP Try.prog 112 ≤ 1024) = True := eq_true (by decide +kernel)
@[go_sem] theorem t28_113_h : hasP Try.prog 113 = true := by decide +kernel
@[go_sem] theorem t28_113_s : sizeP Try.prog 113 = 1 := by decide +kernel
@[go_sem] theorem t28_113_a : aggP Try.prog 113 = false := by decide +kernel
@[go_sem] theorem t28_113_z : zeroP Try.prog 113 = some [.nilf] := _root_.id (by kernel_rfl)
@[go_sem] theorem t28_113_o : zeroOK Try.prog 113 = true := by decide +kernel
@[go_sem] theorem t28_113_i : zeroI Try.prog 113 = some (.nilf) := _root_.id (by kernel_rfl)
@[go_sem] theorem t28_113_y : (((Try.prog.info? 113).map (·.bytes)).getD 0 ≤ 256) = True := eq_true (by decide +kernel)
@[go_sem] theorem t28_113_b : (bytesP Try.prog 113 ≤ 1024) = True := eq_true (by decide +kernel)
@[go_sem] theorem t28_114_h : hasP Try.prog 114 = true := by decide +kernel
@[go_sem] theorem t28_114_s : sizeP Try.prog 114 = 20 := by decide +kernel
@[go_sem] theorem t28_114_a : aggP Try.prog 114 = true := by decide +kernel
@[go_sem] theorem t28_114_z : zeroP Try.prog 114 = some [.bool false, .int .i64 0, .int .i64 0, .nilf, .nilf, .bool false, .int .i64 0, .int .i64 0, .nilf, .nilf, .bool false, .int .i64 0, .int .i64 0, .nilf, .nilf, .bool false, .int .i64 0, .int .i64 0, .nilf, .nilf] := _root_.id (by kernel_rfl)
@[go_sem] theorem t28_114_o : zeroOK Try.prog 114 = true := by decide +kernel
@[go_sem] theorem t28_114_i : zeroI Try.prog 114 = some (.agg [.bool false, .int .i64 0, .int .i64 0, .nilf, .nilf, .bool false, .int .i64 0, .int .i64 0, .nilf, .nilf, .bool false, .int .i64 0, .int .i64 0, .nilf, .nilf, .bool false, .int .i64 0, .int .i64 0, .nilf, .nilf]) := _root_.id (by kernel_rfl)
@[go_sem] theorem t28_114_b : (bytesP Try.prog 114 ≤ 1024) = True := eq_true (by decide +kernel)
@[go_sem] theorem t28_115_h : hasP Try.prog 115 = true := by decide +kernel
@[go_sem] theorem t28_115_s : sizeP Try.prog 115 = 1 := by decide +kernel
@[go_sem] theorem t28_115_a : aggP Try.prog 115 = false := by decide +kernel
@[go_sem] theorem t28_115_z : zeroP Try.prog 115 = some [.nilf] := _root_.id (by kernel_rfl)
@[go_sem] theorem t28_115_o : zeroOK Try.prog 115 = true := by decide +kernel
@[go_sem] theorem t28_115_i : zeroI Try.prog 115 = some (.nilf) := _root_.id (by kernel_rfl)
@[go_sem] theorem t28_115_y : (((Try.prog.info? 115).map (·.bytes)).getD 0 ≤ 256) = True := eq_true (by decide +kernel)
@[go_sem] theorem t28_115_b : (bytesP Try.prog 115 ≤ 1024) = True := eq_true (by decide +kernel)
@[go_sem] theorem t28_116_h : hasP Try.prog 116 = true := by decide +kernel
@[go_sem] theorem t28_116_s : sizeP Try.prog 116 = 1 := by decide +kernel
@[go_sem] theorem t28_116_a : aggP Try.prog 116 = false := by decide +kernel
@[go_sem] theorem t28_116_z : zeroP Try.prog 116 = some [.nilf] := _root_.id (by kernel_rfl)
@[go_sem] theorem t28_116_o : zeroOK Try.prog 116 = true := by decide +kernel
@[go_sem] theorem t28_116_i : zeroI Try.prog 116 = some (.nilf) := _root_.id (by kernel_rfl)
@[go_sem] theorem t28_116_y : (((Try.prog.info? 116).map (·.bytes)).getD 0 ≤ 256) = True := eq_true (by decide +kernel)
@[go_sem] theorem t28_116_b : (bytesP Try.prog 116 ≤ 1024) = True := eq_true (by decide +kernel)
@[go_sem] theorem t28_117_h : hasP Try.prog 117 = true := by decide +kernel
@[go_sem] theorem t28_117_s : sizeP Try.prog 117 = 1 := by decide +kernel
@[go_sem] theorem t28_117_a : aggP Try.prog 117 = false := by decide +kernel
@[go_sem] theorem t28_117_z : zeroP Try.prog 117 = some [.nilf] := _root_.id (by kernel_rfl)
@[go_sem] theorem t28_117_o : zeroOK Try.prog 117 = true := by decide +kernel
@[go_sem] theorem t28_117_i : zeroI Try.prog 117 = some (.nilf) := _root_.id (by kernel_rfl)
@[go_sem] theorem t28_117_y : (((Try.prog.info? 117).map (·.bytes)).getD 0 ≤ 256) = True := eq_true (by decide +kernel)
@[go_sem] theorem t28_117_b : (bytesP Try.prog 117 ≤ 1024) = True := eq_true (by decide +kernel)
@[go_sem] theorem t28_118_h : hasP Try.prog 118 = true := by decide +kernel
@[go_sem] theorem t28_118_s : sizeP Try.prog 118 = 1 := by decide +kernel
@[go_sem] theorem t28_118_a : aggP Try.prog 118 = false := by decide +kernel
@[go_sem] theorem t28_118_z : zeroP Try.prog 118 = some [.nils] := _root_.id (by kernel_rfl)
@[go_sem] theorem t28_118_o : zeroOK Try.prog 118 = true := by decide +kernel
@[go_sem] theorem t28_118_i : zeroI Try.prog 118 = some (.nils) := _root_.id (by kernel_rfl)
@[go_sem] theorem t28_118_y : (((Try.prog.info? 118).map (·.bytes)).getD 0 ≤ 256) = True := eq_true (by decide +kernel)
@[go_sem] theorem t28_118_b : (bytesP Try.prog 118 ≤ 1024) = True := eq_true (by decide +kernel)
@[go_sem] theorem t28_120_h : hasP Try.prog 120 = true := by decide +kernel
@[go_sem] theorem t28_120_s : sizeP Try.prog 120 = 1 := by decide +kernel
@[go_sem] theorem t28_120_a : aggP Try.prog 120 = false := by decide +kernel
@[go_sem] theorem t28_120_z : zeroP Try.prog 120 = some [.nilf] := _root_.id (by kernel_rfl)
@[go_sem] theorem t28_120_o : zeroOK Try.prog 120 = true := by decide +kernel
@[go_sem] theorem t28_120_i : zeroI Try.prog 120 = some (.nilf) := _root_.id (by kernel_rfl)
@[go_sem] theorem t28_120_y : (((Try.prog.info? 120).map (·.bytes)).getD 0 ≤ 256) = True := eq_true (by decide +kernel)
@[go_sem] theorem t28_120_b : (bytesP Try.prog 120 ≤ 1024) = True := eq_true (by decide +kernel)
@[go_sem] theorem t28_121_h : hasP Try.prog 121 = true := by decide +kernel
@[go_sem] theorem t28_121_s : sizeP Try.prog 121 = 1 := by decide +kernel
@[go_sem] theorem t28_121_a : aggP Try.prog 121 = false := by decide +kernel
@[go_sem] theorem t28_121_z : zeroP Try.prog 121 = some [.nilf] := _root_.id (by kernel_rfl)
@[go_sem] theorem t28_121_o : zeroOK Try.prog 121 = true := by decide +kernel
@[go_sem] theorem t28_121_i : zeroI Try.prog 121 = some (.nilf) := _root_.id (by kernel_rfl)
@[go_sem] theorem t28_121_y : (((Try.prog.info? 121).map (·.bytes)).getD 0 ≤ 256) = True := eq_true (by decide +kernel)
@[go_sem] theorem t28_121_b : (bytesP Try.prog 121 ≤ 1024) = True := eq_true (by decide +kernel)
@[go_sem] theorem t28_122_h : hasP Try.prog 122 = true := by decide +kernel
@[go_sem] theorem t28_122_s : sizeP Try.prog 122 = 3 := by decide +kernel
@[go_sem] theorem t28_122_a : aggP Try.prog 122 = true := by decide +kernel
@[go_sem] theorem t28_122_z : zeroP Try.prog 122 = some [.int .u8 0, .int .i64 0, .int .i64 0] := _root_.id (by kernel_rfl)
@[go_sem] theorem t28_122_o : zeroOK Try.prog 122 = true := by decide +kernel
@[go_sem] theorem t28_122_i : zeroI Try.prog 122 = some (.agg [.int .u8 0, .int .i64 0, .int .i64 0]) := _root_.id (by kernel_rfl)
@[go_sem] theorem t28_122_y : (((Try.prog.info? 122).map (·.bytes)).getD 0 ≤ 256) = True := eq_true (by decide +kernel)
@[go_sem] theorem t28_122_b : (bytesP Try.prog 122 ≤ 1024) = True := eq_true (by decide +kernel)
@[go_sem] theorem t28_122_f : flatP Try.prog 122 = some [.int .u8, .int .i64, .int .i64] := flat_of (by decide +kernel)
@[go_sem] theorem t28_122_k : keyK Try.prog 122 = some [.int .u8, .int .i64, .int .i64] := key_of (by decide +kernel)
@[go_sem] theorem t28_123_h : hasP Try.prog 123 = true := by decide +kernel
@[go_sem] theorem t28_123_s : sizeP Try.prog 123 = 3 := by decide +kernel
@[go_sem] theorem t28_123_a : aggP Try.prog 123 = true := by decide +kernel
@[go_sem] theorem t28_123_z : zeroP Try.prog 123 = some [.int .u8 0, .int .i64 0, .int .i64 0] := _root_.id (by kernel_rfl)
@[go_sem] theorem t28_123_o : zeroOK Try.prog 123 = true := by decide +kernel
@[go_sem] theorem t28_123_i : zeroI Try.prog 123 = some (.agg [.int .u8 0, .int .i64 0, .int .i64 0]) := _root_.id (by kernel_rfl)
@[go_sem] theorem t28_123_y : (((Try.prog.info? 123).map (·.bytes)).getD 0 ≤ 256) = True := eq_true (by decide +kernel)
@[go_sem] theorem t28_123_b : (bytesP Try.prog 123 ≤ 1024) = True := eq_true (by decide +kernel)
@[go_sem] theorem t28_123_f : flatP Try.prog 123 = some [.int .u8, .int .i64, .int .i64] := flat_of (by decide +kernel)
@[go_sem] theorem t28_123_k : keyK Try.prog 123 = some [.int .u8, .int .i64, .int .i64] := key_of (by decide +kernel)
@[go_sem] theorem t28_124_h : hasP Try.prog 124 = true := by decide +kernel
@[go_sem] theorem t28_124_s : sizeP Try.prog 124 = 2 := by decide +kernel
@[go_sem] theorem t28_124_a : aggP Try.prog 124 = true := by decide +kernel
@[go_sem] theorem t28_124_z : zeroP Try.prog 124 = some [.int .i64 0, .int .i64 0] := _root_.id (by kernel_rfl)
@[go_sem] theorem t28_124_o : zeroOK Try.prog 124 = true := by decide +kernel
@[go_sem] theorem t28_124_i : zeroI Try.prog 124 = some (.agg [.int .i64 0, .int .i64 0]) := _root_.id (by kernel_rfl)
@[go_sem] theorem t28_124_y : (((Try.prog.info? 124).map (·.bytes)).getD 0 ≤ 256) = True := eq_true (by decide +kernel)
@[go_sem] theorem t28_124_b : (bytesP Try.prog 124 ≤ 1024) = True := eq_true (by decide +kernel)
@[go_sem] theorem t28_124_f : flatP Try.prog 124 = some [.int .i64, .int .i64] := flat_of (by decide +kernel)
@[go_sem] theorem t28_124_k : keyK Try.prog 124 = some [.int .i64, .int .i64] := key_of (by decide +kernel)
@[go_sem] theorem t28_125_h : hasP Try.prog 125 = true := by decide +kernel
@[go_sem] theorem t28_125_s : sizeP Try.prog 125 = 2 := by decide +kernel
@[go_sem] theorem t28_125_a : aggP Try.prog 125 = true := by decide +kernel
@[go_sem] theorem t28_125_z : zeroP Try.prog 125 = some [.int .i64 0, .int .i64 0] := _root_.id (by kernel_rfl)
@[go_sem] theorem t28_125_o : zeroOK Try.prog 125 = true := by decide +kernel
@[go_sem] theorem t28_125_i : zeroI Try.prog 125 = some (.agg [.int .i64 0, .int .i64 0]) := _root_.id (by kernel_rfl)
@[go_sem] theorem t28_125_y : (((Try.prog.info? 125).map (·.bytes)).getD 0 ≤ 256) = True := eq_true (by decide +kernel)
@[go_sem] theorem t28_125_b : (bytesP Try.prog 125 ≤ 1024) = True := eq_true (by decide +kernel)
@[go_sem] theorem t28_125_f : flatP Try.prog 125 = some [.int .i64, .int .i64] := flat_of (by decide +kernel)
@[go_sem] theorem t28_125_k : keyK Try.prog 125 = some [.int .i64, .int .i64] := key_of (by decide +kernel)
@[go_sem] theorem t28_127_h : hasP Try.prog 127 = true := by decide +kernel
@[go_sem] theorem t28_127_s : sizeP Try.prog 127 = 1 := by decide +kernel
@[go_sem] theorem t28_127_a : aggP Try.prog 127 = false := by decide +kernel
@[go_sem] theorem t28_127_z : zeroP Try.prog 127 = some [.nilf] := _root_.id (by kernel_rfl)
@[go_sem] theorem t28_127_o : zeroOK Try.prog 127 = true := by decide +kernel
@[go_sem] theorem t28_127_i : zeroI Try.prog 127 = some (.nilf) := _root_.id (by kernel_rfl)
@[go_sem] theorem t28_127_y : (((Try.prog.info? 127).map (·.bytes)).getD 0 ≤ 256) = True := eq_true (by decide +kernel)
@[go_sem] theorem t28_127_b : (bytesP Try.prog 127 ≤ 1024) = True := eq_true (by decide +kernel)
@[go_sem] theorem t28_128_h : hasP Try.prog 128 = true := by decide +kernel
@[go_sem] theorem t28_128_s : sizeP Try.prog 128 = 1 := by decide +kernel
@[go_sem] theorem t28_128_a : aggP Try.prog 128 = false := by decide +kernel
@[go_sem] theorem t28_128_z : zeroP Try.prog 128 = some [.nilf] := _root_.id (by kernel_rfl)
@[go_sem] theorem t28_128_o : zeroOK Try.prog 128 = true := by decide +kernel
@[go_sem] theorem t28_128_i : zeroI Try.prog 128 = some (.nilf) := _root_.id (by kernel_rfl)
@[go_sem] theorem t28_128_y : (((Try.prog.info? 128).map (·.bytes)).getD 0 ≤ 256) = True := eq_true (by decide +kernel)
@[go_sem] theorem t28_128_b : (bytesP Try.prog 128 ≤ 1024) = True := eq_true (by decide +kernel)
@[go_sem] theorem t28_129_h : hasP Try.prog 129 = true := by decide +kernel
@[go_sem] theorem t28_129_s : sizeP Try.prog 129 = 1 := by decide +kernel
@[go_sem] theorem t28_129_a : aggP Try.prog 129 = false := by decide +kernel
@[go_sem] theorem t28_129_z : zeroP Try.prog 129 = some [.nilf] := _root_.id (by kernel_rfl)
@[go_sem] theorem t28_129_o : zeroOK Try.prog 129 = true := by decide +kernel
@[go_sem] theorem t28_129_i : zeroI Try.prog 129 = some (.nilf) := _root_.id (by kernel_rfl)
@[go_sem] theorem t28_129_y : (((Try.prog.info? 129).map (·.bytes)).getD 0 ≤ 256) = True := eq_true (by decide +kernel)
@[go_sem] theorem t28_129_b : (bytesP Try.prog 129 ≤ 1024) = True := eq_true (by decide +kernel)
@[go_sem] theorem t28_130_h : hasP Try.prog 130 = true := by decide +kernel
@[go_sem] theorem t28_130_s : sizeP Try.prog 130 = 1 := by decide +kernel
@[go_sem] theorem t28_130_a : aggP Try.prog 130 = false := by decide +kernel
@[go_sem] theorem t28_130_z : zeroP Try.prog 130 = some [.nilf] := _root_.id (by kernel_rfl)
@[go_sem] theorem t28_130_o : zeroOK Try.prog 130 = true := by decide +kernel
@[go_sem] theorem t28_130_i : zeroI Try.prog 130 = some (.nilf) := _root_.id (by kernel_rfl)
@[go_sem] theorem t28_130_y : (((Try.prog.info? 130).map (·.bytes)).getD 0 ≤ 256) = True := eq_true (by decide +kernel)
@[go_sem] theorem t28_130_b : (bytesP Try.prog 130 ≤ 1024) = True := eq_true (by decide +kernel)
@[go_sem] theorem t28_131_h : hasP Try.prog 131 = true := by decide +kernel
@[go_sem] theorem t28_131_s : sizeP Try.prog 131 = 1 := by decide +kernel
@[go_sem] theorem t28_131_a : aggP Try.prog 131 = false := by decide +kernel
@[go_sem] theorem t28_131_z : zeroP Try.prog 131 = some [.nilf] := _root_.id (by kernel_rfl)
@[go_sem] theorem t28_131_o : zeroOK Try.prog 131 = true := by decide +kernel
@[go_sem] theorem t28_131_i : zeroI Try.prog 131 = some (.nilf) := _root_.id (by kernel_rfl)
@[go_sem] theorem t28_131_y : (((Try.prog.info? 131).map (·.bytes)).getD 0 ≤ 256) = True := eq_true (by decide +kernel)
@[go_sem] theorem t28_131_b : (bytesP Try.prog 131 ≤ 1024) = True := eq_true (by decide +kernel)
@[go_sem] theorem t28_132_h : hasP Try.prog 132 = true := by decide +kernel
@[go_sem] theorem t28_132_s : sizeP Try.prog 132 = 1 := by decide +kernel
@[go_sem] theorem t28_132_a : aggP Try.prog 132 = false := by decide +kernel
@[go_sem] theorem t28_132_z : zeroP Try.prog 132 = some [.nilf] := _root_.id (by kernel_rfl)
@[go_sem] theorem t28_132_o : zeroOK Try.prog 132 = true := by decide +kernel
@[go_sem] theorem t28_132_i : zeroI Try.prog 132 = some (.nilf) := _root_.id (by kernel_rfl)
@[go_sem] theorem t28_132_y : (((Try.prog.info? 132).map (·.bytes)).getD 0 ≤ 256) = True := eq_true (by decide +kernel)
@[go_sem] theorem t28_132_b : (bytesP Try.prog 132 ≤ 1024) = True := eq_true (by decide +kernel)
@[go_sem] theorem t28_133_h : hasP Try.prog 133 = true := by decide +kernel
@[go_sem] theorem t28_133_s : sizeP Try.prog 133 = 1 := by decide +kernel
@[go_sem] theorem t28_133_a : aggP Try.prog 133 = false := by decide +kernel
@[go_sem] theorem t28_133_z : zeroP Try.prog 133 = some [.nilf] := _root_.id (by kernel_rfl)
@[go_sem] theorem t28_133_o : zeroOK Try.prog 133 = true := by decide +kernel
@[go_sem] theorem t28_133_i : zeroI Try.prog 133 = some (.nilf) := _root_.id (by kernel_rfl)
@[go_sem] theorem t28_133_y : (((Try.prog.info? 133).map (·.bytes)).getD 0 ≤ 256) = True := eq_true (by decide +kernel)
@[go_sem] theorem t28_133_b : (bytesP Try.prog 133 ≤ 1024) = True := eq_true (by decide +kernel)
@[go_sem] theorem t28_134_h : hasP Try.prog 134 = true := by decide +kernel
@[go_sem] theorem t28_134_s : sizeP Try.prog 134 = 1 := by decide +kernel
@[go_sem] theorem t28_134_a : aggP Try.prog 134 = false := by decide +kernel
@[go_sem] theorem t28_134_z : zeroP Try.prog 134 = some [.int .u64 0] := _root_.id (by kernel_rfl)
@[go_sem] theorem t28_134_o : zeroOK Try.prog 134 = true := by decide +kernel
@[go_sem] theorem t28_134_i : zeroI Try.prog 134 = some (.int .u64 0) := _root_.id (by kernel_rfl)
@[go_sem] theorem t28_134_y : (((Try.prog.info? 134).map (·.bytes)).getD 0 ≤ 256) = True := eq_true (by decide +kernel)
@[go_sem] theorem t28_134_b : (bytesP Try.prog 134 ≤ 1024) = True := eq_true (by decide +kernel)
@[go_sem] theorem t28_134_k : keyK Try.prog 134 = some [.int .u64] := key_of (by decide +kernel)
@[go_sem] theorem t28_135_h : hasP Try.prog 135 = true := by decide +kernel
@[go_sem] theorem t28_135_s : sizeP Try.prog 135 = 1 := by decide +kernel
@[go_sem] theorem t28_135_a : aggP Try.prog 135 = false := by decide +kernel
@[go_sem] theorem t28_135_z : zeroP Try.prog 135 = some [.nilf] := _root_.id (by kernel_rfl)
@[go_sem] theorem t28_135_o : zeroOK Try.prog 135 = true := by decide +kernel
@[go_sem] theorem t28_135_i : zeroI Try.prog 135 = some (.nilf) := _root_.id (by kernel_rfl)
@[go_sem] theorem t28_135_y : (((Try.prog.info? 135).map (·.bytes)).getD 0 ≤ 256) = True := eq_true (by decide +kernel)
@[go_sem] theorem t28_135_b : (bytesP Try.prog 135 ≤ 1024) = True := eq_true (by decide +kernel)
@[go_sem] theorem t28_136_h : hasP Try.prog 136 = true := by decide +kernel
@[go_sem] theorem t28_136_s : sizeP Try.prog 136 = 4 := by decide +kernel
@[go_sem] theorem t28_136_a : aggP Try.prog 136 = true := by decide +kernel
@[go_sem] theorem t28_136_z : zeroP Try.prog 136 = some [.int .i64 0, .int .i64 0, .int .i64 0, .bool false] := _root_.id (by kernel_rfl)
@[go_sem] theorem t28_136_o : zeroOK Try.prog 136 = true := by decide +kernel
@[go_sem] theorem t28_136_i : zeroI Try.prog 136 = some (.agg [.int .i64 0, .int .i64 0, .int .i64 0, .bool false]) := _root_.id (by kernel_rfl)
@[go_sem] theorem t28_136_y : (((Try.prog.info? 136).map (·.bytes)).getD 0 ≤ 256) = True := eq_true (by decide +kernel)
@[go_sem] theorem t28_136_b : (bytesP Try.prog 136 ≤ 1024) = True := eq_true (by decide +kernel)
@[go_sem] theorem t28_136_f : flatP Try.prog 136 = some [.int .i64, .int .i64, .int .i64, .bool] := flat_of (by decide +kernel)
@[go_sem] theorem t28_136_k : keyK Try.prog 136 = some [.int .i64, .int .i64, .int .i64, .bool] := key_of (by decide +kernel)
@[go_sem] theorem t28_137_h : hasP Try.prog 137 = true := by decide +kernel
@[go_sem] theorem t28_137_s : sizeP Try.prog 137 = 4 := by decide +kernel
@[go_sem] theorem t28_137_a : aggP Try.prog 137 = true := by decide +kernel
@[go_sem] theorem t28_137_z : zeroP Try.prog 137 = some [.int .i64 0, .int .i64 0, .int .i64 0, .bool false] := _root_.id (by kernel_rfl)
@[go_sem] theorem t28_137_o : zeroOK Try.prog 137 = true := by decide +kernel
@[go_sem] theorem t28_137_i : zeroI Try.prog 137 = some (.agg [.int .i64 0, .int .i64 0, .int .i64 0, .bool false]) := _root_.id (by kernel_rfl)
@[go_sem] theorem t28_137_y : (((Try.prog.info? 137).map (·.bytes)).getD 0 ≤ 256) = True := eq_true (by decide +kernel)
@[go_sem] theorem t28_137_b : (bytesP Try.prog 137 ≤ 1024) = True := eq_true (by decide +kernel)
@[go_sem] theorem t28_137_f : flatP Try.prog 137 = some [.int .i64, .int .i64, .int .i64, .bool] := flat_of (by decide +kernel)
@[go_sem] theorem t28_137_k : keyK Try.prog 137 = some [.int .i64, .int .i64, .int .i64, .bool] := key_of (by decide +kernel)
@[go_sem] theorem t28_139_h : hasP Try.prog 139 = true := by decide +kernel
@[go_sem] theorem t28_139_s : sizeP Try.prog 139 = 1 := by decide +kernel
@[go_sem] theorem t28_139_a : aggP Try.prog 139 = false := by decide +kernel
@[go_sem] theorem t28_139_z : zeroP Try.prog 139 = some [.nilf] := _root_.id (by kernel_rfl)
@[go_sem] theorem t28_139_o : zeroOK Try.prog 139 = true := by decide +kernel
@[go_sem] theorem t28_139_i : zeroI Try.prog 139 = some (.nilf) := _root_.id (by kernel_rfl)
@[go_sem] theorem t28_139_y : (((Try.prog.info? 139).map (·.bytes)).getD 0 ≤ 256) = True := eq_true (by decide +kernel)
@[go_sem] theorem t28_139_b : (bytesP Try.prog 139 ≤ 1024) = True := eq_true (by decide +kernel)
@[go_sem] theorem t28_141_h : hasP Try.prog 141 = true := by decide +kernel
@[go_sem] theorem t28_141_s : sizeP Try.prog 141 = 1 := by decide +kernel
@[go_sem] theorem t28_141_a : aggP Try.prog 141 = false := by decide +kernel
@[go_sem] theorem t28_141_z : zeroP Try.prog 141 = some [.nilf] := _root_.id (by kernel_rfl)
@[go_sem] theorem t28_141_o : zeroOK Try.prog 141 = true := by decide +kernel
@[go_sem] theorem t28_141_i : zeroI Try.prog 141 = some (.nilf) := _root_.id (by kernel_rfl)
@[go_sem] theorem t28_141_y : (((Try.prog.info? 141).map (·.bytes)).getD 0 ≤ 256) = True := eq_true (by decide +kernel)
@[go_sem] theorem t28_141_b : (bytesP Try.prog 141 ≤ 1024) = True := eq_true (by decide +kernel)
@[go_sem] theorem t28_142_h : hasP Try.prog 142 = true := by decide +kernel
@[go_sem] theorem t28_142_s : sizeP Try.prog 142 = 1 := by decide +kernel
@[go_sem] theorem t28_142_a : aggP Try.prog 142 = false := by decide +kernel
@[go_sem] theorem t28_142_z : zeroP Try.prog 142 = some [.nilf] := _root_.id (by kernel_rfl)
@[go_sem] theorem t28_142_o : zeroOK Try.prog 142 = true := by decide +kernel
@[go_sem] theorem t28_142_i : zeroI Try.prog 142 = some (.nilf) := _root_.id (by kernel_rfl)
@[go_sem] theorem t28_142_y : (((Try.prog.info? 142).map (·.bytes)).getD 0 ≤ 256) = True := eq_true (by decide +kernel)
@[go_sem] theorem t28_142_b : (bytesP Try.prog 142 ≤ 1024) = True := eq_true (by decide +kernel)
@[go_sem] theorem t28_143_h : hasP Try.prog 143 = true := by decide +kernel
@[go_sem] theorem t28_143_s : sizeP Try.prog 143 = 1 := by decide +kernel
@[go_sem] theorem t28_143_a : aggP Try.prog 143 = false := by decide +kernel
@[go_sem] theorem t28_143_z : zeroP Try.prog 143 = some [.nilf] := _root_.id (by kernel_rfl)
@[go_sem] theorem t28_143_o : zeroOK Try.prog 143 = true := by decide +kernel
@[go_sem] theorem t28_143_i : zeroI Try.prog 143 = some (.nilf) := _root_.id (by kernel_rfl)
@[go_sem] theorem t28_143_y : (((Try.prog.info? 143).map (·.bytes)).getD 0 ≤ 256) = True := eq_true (by decide +kernel)
@[go_sem] theorem t28_143_b : (bytesP Try.prog 143 ≤ 1024) = True := eq_true (by decide +kernel)
@[go_sem] theorem t28_144_h : hasP Try.prog 144 = true := by decide +kernel
@[go_sem] theorem t28_144_s : sizeP Try.prog 144 = 1 := by decide +kernel
@[go_sem] theorem t28_144_a : aggP Try.prog 144 = false := by decide +kernel
@[go_sem] theorem t28_144_z : zeroP Try.prog 144 = some [.nilf] := _root_.id (by kernel_rfl)
@[go_sem] theorem t28_144_o : zeroOK Try.prog 144 = true := by decide +kernel
@[go_sem] theorem t28_144_i : zeroI Try.prog 144 = some (.nilf) := _root_.id (by kernel_rfl)
@[go_sem] theorem t28_144_y : (((Try.prog.info? 144).map (·.bytes)).getD 0 ≤ 256) = True := eq_true (by decide +kernel)
@[go_sem] theorem t28_144_b : (bytesP Try.prog 144 ≤ 1024) = True := eq_true (by decide +kernel)
@[go_sem] theorem t28_145_h : hasP Try.prog 145 = true := by decide +kernel
@[go_sem] theorem t28_145_s : sizeP Try.prog 145 = 1 := by decide +kernel
@[go_sem] theorem t28_145_a : aggP Try.prog 145 = false := by decide +kernel
@[go_sem] theorem t28_145_z : zeroP Try.prog 145 = some [.nilf] := _root_.id (by kernel_rfl)
@[go_sem] theorem t28_145_o : zeroOK Try.prog 145 = true := by decide +kernel
@[go_sem] theorem t28_145_i : zeroI Try.prog 145 = some (.nilf) := _root_.id (by kernel_rfl)
@[go_sem] theorem t28_145_y : (((Try.prog.info? 145).map (·.bytes)).getD 0 ≤ 256) = True := eq_true (by decide +kernel)
@[go_sem] theorem t28_145_b : (bytesP Try.prog 145 ≤ 1024) = True := eq_true (by decide +kernel)
@[go_sem] theorem t28_146_h : hasP Try.prog 146 = true := by decide +kernel
@[go_sem] theorem t28_146_s : sizeP Try.prog 146 = 1 := by decide +kernel
@[go_sem] theorem t28_146_a : aggP Try.prog 146 = false := by decide +kernel
@[go_sem] theorem t28_146_z : zeroP Try.prog 146 = some [.nilf] := _root_.id (by kernel_rfl)
@[go_sem] theorem t28_146_o : zeroOK Try.prog 146 = true := by decide +kernel
@[go_sem] theorem t28_146_i : zeroI Try.prog 146 = some (.nilf) := _root_.id (by kernel_rfl)
@[go_sem] theorem t28_146_y : (((Try.prog.info? 146).map (·.bytes)).getD 0 ≤ 256) = True := eq_true (by decide +kernel)
@[go_sem] theorem t28_146_b : (bytesP Try.prog 146 ≤ 1024) = True := eq_true (by decide +kernel)
@[go_sem] theorem t28_147_h : hasP Try.prog 147 = true := by decide +kernel
@[go_sem] theorem t28_147_s : sizeP Try.prog 147 = 1 := by decide +kernel
@[go_sem] theorem t28_147_a : aggP Try.prog 147 = false := by decide +kernel
@[go_sem] theorem t28_147_z : zeroP Try.prog 147 = some [.nilf] := _root_.id (by kernel_rfl)
@[go_sem] theorem t28_147_o : zeroOK Try.prog 147 = true := by decide +kernel
@[go_sem] theorem t28_147_i : zeroI Try.prog 147 = some (.nilf) := _root_.id (by kernel_rfl)
@[go_sem] theorem t28_147_y : (((Try.prog.info? 147).map (·.bytes)).getD 0 ≤ 256) = True := eq_true (by decide +kernel)
@[go_sem] theorem t28_147_b : (bytesP Try.prog 147 ≤ 1024) = True := eq_true (by decide +kernel)
@[go_sem] theorem t28_148_h : hasP Try.prog 148 = true := by decide +kernel
@[go_sem] theorem t28_148_s : sizeP Try.prog 148 = 1 := by decide +kernel
@[go_sem] theorem t28_148_a : aggP Try.prog 148 = false := by decide +kernel
@[go_sem] theorem t28_148_z : zeroP Try.prog 148 = some [.nilf] := _root_.id (by kernel_rfl)
@[go_sem] theorem t28_148_o : zeroOK Try.prog 148 = true := by decide +kernel
@[go_sem] theorem t28_148_i : zeroI Try.prog 148 = some (.nilf) := _root_.id (by kernel_rfl)
@[go_sem] theorem t28_148_y : (((Try.prog.info? 148).map (·.bytes)).getD 0 ≤ 256) = True := eq_true (by decide +kernel)
@[go_sem] theorem t28_148_b : (bytesP Try.prog 148 ≤ 1024) = True := eq_true (by decide +kernel)
@[go_sem] theorem t28_149_h : hasP Try.prog 149 = true := by decide +kernel
@[go_sem] theorem t28_149_s : sizeP Try.prog 149 = 1 := by decide +kernel
@[go_sem] theorem t28_149_a : aggP Try.prog 149 = false := by decide +kernel
@[go_sem] theorem t28_149_z : zeroP Try.prog 149 = some [.int .i64 0] := _root_.id (by kernel_rfl)
@[go_sem] theorem t28_149_o : zeroOK Try.prog 149 = true := by decide +kernel
@[go_sem] theorem t28_149_i : zeroI Try.prog 149 = some (.int .i64 0) := _root_.id (by kernel_rfl)
@[go_sem] theorem t28_149_y : (((Try.prog.info? 149).map (·.bytes)).getD 0 ≤ 256) = True := eq_true (by decide +kernel)
@[go_sem] theorem t28_149_b : (bytesP Try.prog 149 ≤ 1024) = True := eq_true (by decide +kernel)
@[go_sem] theorem t28_149_k : keyK Try.prog 149 = some [.int .i64] := key_of (by decide +kernel)
@[go_sem] theorem t28_151_h : hasP Try.prog 151 = true := by decide +kernel
@[go_sem] theorem t28_151_s : sizeP Try.prog 151 = 1 := by decide +kernel
@[go_sem] theorem t28_151_a : aggP Try.prog 151 = false := by decide +kernel
@[go_sem] theorem t28_151_z : zeroP Try.prog 151 = some [.nilf] := _root_.id (by kernel_rfl)
@[go_sem] theorem t28_151_o : zeroOK Try.prog 151 = true := by decide +kernel
@[go_sem] theorem t28_151_i : zeroI Try.prog 151 = some (.nilf) := _root_.id (by kernel_rfl)
@[go_sem] theorem t28_151_y : (((Try.prog.info? 151).map (·.bytes)).getD 0 ≤ 256) = True := eq_true (by decide +kernel)
@[go_sem] theorem t28_151_b : (bytesP Try.prog 151 ≤ 1024) = True := eq_true (by decide +kernel)
@[go_sem] theorem t28_152_h : hasP Try.prog 152 = true := by decide +kernel
@[go_sem] theorem t28_152_s : sizeP Try.prog 152 = 1 := by decide +kernel
@[go_sem] theorem t28_152_a : aggP Try.prog 152 = false := by decide +kernel
@[go_sem] theorem t28_152_z : zeroP Try.prog 152 = some [.nilf] := _root_.id (by kernel_rfl)
@[go_sem] theorem t28_152_o : zeroOK Try.prog 152 = true := by decide +kernel
@[go_sem] theorem t28_152_i : zeroI Try.prog 152 = some (.nilf) := _root_.id (by kernel_rfl)
@[go_sem] theorem t28_152_y : (((Try.prog.info? 152).map (·.bytes)).getD 0 ≤ 256) = True := eq_true (by decide +kernel)
@[go_sem] theorem t28_152_b : (bytesP Try.prog 152 ≤ 1024) = True := eq_true (by decide +kernel)
@[go_sem] theorem t28_153_h : hasP Try.prog 153 = true := by decide +kernel
@[go_sem] theorem t28_153_s : sizeP Try.prog 153 = 1 := by decide +kernel
@[go_sem] theorem t28_153_a : aggP Try.prog 153 = false := by decide +kernel
@[go_sem] theorem t28_153_z : zeroP Try.prog 153 = some [.nilf] := _root_.id (by kernel_rfl)
@[go_sem] theorem t28_153_o : zeroOK Try.prog 153 = true := by decide +kernel
@[go_sem] theorem t28_153_i : zeroI Try.prog 153 = some (.nilf) := _root_.id (by kernel_rfl)
@[go_sem] theorem t28_153_y : (((Try.prog.info? 153).map (·.bytes)).getD 0 ≤ 256) = True := eq_true (by decide +kernel)
@[go_sem] theorem t28_153_b : (bytesP Try.prog 153 ≤ 1024) = True := eq_true (by decide +kernel)
@[go_sem] theorem t28_154_h : hasP Try.prog 154 = true := by decide +kernel
@[go_sem] theorem t28_154_s : sizeP Try.prog 154 = 1 := by decide +kernel
@[go_sem] theorem t28_154_a : aggP Try.prog 154 = false := by decide +kernel
@[go_sem] theorem t28_154_z : zeroP Try.prog 154 = some [.nilf] := _root_.id (by kernel_rfl)
@[go_sem] theorem t28_154_o : zeroOK Try.prog 154 = true := by decide +kernel
@[go_sem] theorem t28_154_i : zeroI Try.prog 154 = some (.nilf) := _root_.id (by kernel_rfl)
@[go_sem] theorem t28_154_y : (((Try.prog.info? 154).map (·.bytes)).getD 0 ≤ 256) = True := eq_true (by decide +kernel)
@[go_sem] theorem t28_154_b : (bytesP Try.prog 154 ≤ 1024) = True := eq_true (by decide +kernel)
@[go_sem] theorem t28_155_h : hasP Try.prog 155 = true := by decide +kernel
@[go_sem] theorem t28_155_s : sizeP Try.prog 155 = 1 := by decide +kernel
@[go_sem] theorem t28_155_a : aggP Try.prog 155 = false := by decide +kernel
@[go_sem] theorem t28_155_z : zeroP Try.prog 155 = some [.nilf] := _root_.id (by kernel_rfl)
@[go_sem] theorem t28_155_o : zeroOK Try.prog 155 = true := by decide +kernel
@[go_sem] theorem t28_155_i : zeroI Try.prog 155 = some (.nilf) := _root_.id (by kernel_rfl)
@[go_sem] theorem t28_155_y : (((Try.prog.info? 155).map (·.bytes)).getD 0 ≤ 256) = True := eq_true (by decide +kernel)
@[go_sem] theorem t28_155_b : (bytesP Try.prog 155 ≤ 1024) = True := eq_true (by decide +kernel)
@[go_sem] theorem t28_156_h : hasP Try.prog 156 = true := by decide +kernel
@[go_sem] theorem t28_156_s : sizeP Try.prog 156 = 1 := by decide +kernel
@[go_sem] theorem t28_156_a : aggP Try.prog 156 = false := by decide +kernel
@[go_sem] theorem t28_156_z : zeroP Try.prog 156 = some [.int .u32 0] := _root_.id (by kernel_rfl)
@[go_sem] theorem t28_156_o : zeroOK Try.prog 156 = true := by decide +kernel
@[go_sem] theorem t28_156_i : zeroI Try.prog 156 = some (.int .u32 0) := _root_.id (by kernel_rfl)
@[go_sem] theorem t28_156_y : (((Try.prog.info? 156).map (·.bytes)).getD 0 ≤ 256) = True := eq_true (by decide +kernel)
@[go_sem] theorem t28_156_b : (bytesP Try.prog 156 ≤ 1024) = True := eq_true (by decide +kernel)
@[go_sem] theorem t28_156_k : keyK Try.prog 156 = some [.int .u32] := key_of (by decide +kernel)
@[go_sem] theorem t28_157_h : hasP Try.prog 157 = true := by decide +kernel
@[go_sem] theorem t28_157_s : sizeP Try.prog 157 = 1 := by decide +kernel
@[go_sem] theorem t28_157_a : aggP Try.prog 157 = false := by decide +kernel
@[go_sem] theorem t28_157_z : zeroP Try.prog 157 = some [.nilf] := _root_.id (by kernel_rfl)
@[go_sem] theorem t28_157_o : zeroOK Try.prog 157 = true := by decide +kernel
@[go_sem] theorem t28_157_i : zeroI Try.prog 157 = some (.nilf) := _root_.id (by kernel_rfl)
@[go_sem] theorem t28_157_y : (((Try.prog.info? 157).map (·.bytes)).getD 0 ≤ 256) = True := eq_true (by decide +kernel)
@[go_sem] theorem t28_157_b : (bytesP Try.prog 157 ≤ 1024) = True := eq_true (by decide +kernel)
@[go_sem] theorem t28_158_h : hasP Try.prog 158 = true := by decide +kernel
@[go_sem] theorem t28_158_s : sizeP Try.prog 158 = 1 := by decide +kernel
@[go_sem] theorem t28_158_a : aggP Try.prog 158 = false := by decide +kernel
@[go_sem] theorem t28_158_z : zeroP Try.prog 158 = some [.int .u64 0] := _root_.id (by kernel_rfl)
@[go_sem] theorem t28_158_o : zeroOK Try.prog 158 = true := by decide +kernel
@[go_sem] theorem t28_158_i : zeroI Try.prog 158 = some (.int .u64 0) := _root_.id (by kernel_rfl)
@[go_sem] theorem t28_158_y : (((Try.prog.info? 158).map (·.bytes)).getD 0 ≤ 256) = True := eq_true (by decide +kernel)
@[go_sem] theorem t28_158_b : (bytesP Try.prog 158 ≤ 1024) = True := eq_true (by decide +kernel)
@[go_sem] theorem t28_158_k : keyK Try.prog 158 = some [.int .u64] := key_of (by decide +kernel)
@[go_sem] theorem t28_159_h : hasP Try.prog 159 = true := by decide +kernel
@[go_sem] theorem t28_159_s : sizeP Try.prog 159 = 1 := by decide +kernel
@[go_sem] theorem t28_159_a : aggP Try.prog 159 = false := by decide +kernel
@[go_sem] theorem t28_159_z : zeroP Try.prog 159 = some [.nilf] := _root_.id (by kernel_rfl)
@[go_sem] theorem t28_159_o : zeroOK Try.prog 159 = true := by decide +kernel
@[go_sem] theorem t28_159_i : zeroI Try.prog 159 = some (.nilf) := _root_.id (by kernel_rfl)
@[go_sem] theorem t28_159_y : (((Try.prog.info? 159).map (·.bytes)).getD 0 ≤ 256) = True := eq_true (by decide +kernel)
@[go_sem] theorem t28_159_b : (bytesP Try.prog 159 ≤ 1024) = True := eq_true (by decide +kernel)
@[go_sem] theorem t28_160_h : hasP Try.prog 160 = true := by decide +kernel
@[go_sem] theorem t28_160_s : sizeP Try.prog 160 = 1 := by decide +kernel
@[go_sem] theorem t28_160_a : aggP Try.prog 160 = false := by decide +kernel
@[go_sem] theorem t28_160_z : zeroP Try.prog 160 = some [.nilf] := _root_.id (by kernel_rfl)
@[go_sem] theorem t28_160_o : zeroOK Try.prog 160 = true := by decide +kernel
@[go_sem] theorem t28_160_i : zeroI Try.prog 160 = some (.nilf) := _root_.id (by kernel_rfl)
@[go_sem] theorem t28_160_y : (((Try.prog.info? 160).map (·.bytes)).getD 0 ≤ 256) = True := eq_true (by decide +kernel)
@[go_sem] theorem t28_160_b : (bytesP Try.prog 160 ≤ 1024) = True := eq_true (by decide +kernel)
@[go_sem] theorem t28_161_h : hasP Try.prog 161 = true := by decide +kernel
@[go_sem] theorem t28_161_s : sizeP Try.prog 161 = 1 := by decide +kernel
@[go_sem] theorem t28_161_a : aggP Try.prog 161 = false := by decide +kernel
@[go_sem] theorem t28_161_z : zeroP Try.prog 161 = some [.nilm] := _root_.id (by kernel_rfl)
@[go_sem] theorem t28_161_o : zeroOK Try.prog 161 = true := by decide +kernel
@[go_sem] theorem t28_161_i : zeroI Try.prog 161 = some (.nilm) := _root_.id (by kernel_rfl)
@[go_sem] theorem t28_161_y : (((Try.prog.info? 161).map (·.bytes)).getD 0 ≤ 256) = True := eq_true (by decide +kernel)
@[go_sem] theorem t28_161_b : (bytesP Try.prog 161 ≤ 1024) = True := eq_true (by decide +kernel)
@[go_sem] theorem t28_162_h : hasP Try.prog 162 = true := by decide +kernel
@[go_sem] theorem t28_162_s : sizeP Try.prog 162 = 1 := by decide +kernel
@[go_sem] theorem t28_162_a : aggP Try.prog 162 = false := by decide +kernel
@[go_sem] theorem t28_162_z : zeroP Try.prog 162 = some [.int .u64 0] := _root_.id (by kernel_rfl)
@[go_sem] theorem t28_162_o : zeroOK Try.prog 162 = true := by decide +kernel
@[go_sem] theorem t28_162_i : zeroI Try.prog 162 = some (.int .u64 0) := _root_.id (by kernel_rfl)
@[go_sem] theorem t28_162_y : (((Try.prog.info? 162).map (·.bytes)).getD 0 ≤ 256) = True := eq_true (by decide +kernel)
@[go_sem] theorem t28_162_b : (bytesP Try.prog 162 ≤ 1024) = True := eq_true (by decide +kernel)
@[go_sem] theorem t28_162_k : keyK Try.prog 162 = some [.int .u64] := key_of (by decide +kernel)
@[go_sem] theorem t28_163_h : hasP Try.prog 163 = true := by decide +kernel
@[go_sem] theorem t28_163_s : sizeP Try.prog 163 = 1 := by decide +kernel
@[go_sem] theorem t28_163_a : aggP Try.prog 163 = false := by decide +kernel
@[go_sem] theorem t28_163_z : zeroP Try.prog 163 = some [.nilf] := _root_.id (by kernel_rfl)
@[go_sem] theorem t28_163_o : zeroOK Try.prog 163 = true := by decide +kernel
@[go_sem] theorem t28_163_i : zeroI Try.prog 163 = some (.nilf) := _root_.id (by kernel_rfl)
@[go_sem] theorem t28_163_y : (((Try.prog.info? 163).map (·.bytes)).getD 0 ≤ 256) = True := eq_true (by decide +kernel)
@[go_sem] theorem t28_163_b : (bytesP Try.prog 163 ≤ 1024) = True := eq_true (by decide +kernel)
@[go_sem] theorem t28_164_h : hasP Try.prog 164 = true := by decide +kernel
@[go_sem] theorem t28_164_s : sizeP Try.prog 164 = 1 := by decide +kernel
@[go_sem] theorem t28_164_a : aggP Try.prog 164 = false := by decide +kernel
@[go_sem] theorem t28_164_z : zeroP Try.prog 164 = some [.nilf] := _root_.id (by kernel_rfl)
@[go_sem] theorem t28_164_o : zeroOK Try.prog 164 = true := by decide +kernel
@[go_sem] theorem t28_164_i : zeroI Try.prog 164 = some (.nilf) := _root_.id (by kernel_rfl)
@[go_sem] theorem t28_164_y : (((Try.prog.info? 164).map (·.bytes)).getD 0 ≤ 256) = True := eq_true (by decide +kernel)
@[go_sem] theorem t28_164_b : (bytesP Try.prog 164 ≤ 1024) = True := eq_true (by decide +kernel)
@[go_sem] theorem t28_165_h : hasP Try.prog 165 = true := by decide +kernel
@[go_sem] theorem t28_165_s : sizeP Try.prog 165 = 1 := by decide +kernel
@[go_sem] theorem t28_165_a : aggP Try.prog 165 = false := by decide +kernel
@[go_sem] theorem t28_165_z : zeroP Try.prog 165 = some [.nilf] := _root_.id (by kernel_rfl)
@[go_sem] theorem t28_165_o : zeroOK Try.prog 165 = true := by decide +kernel
@[go_sem] theorem t28_165_i : zeroI Try.prog 165 = some (.nilf) := _root_.id (by kernel_rfl)
@[go_sem] theorem t28_165_y : (((Try.prog.info? 165).map (·.bytes)).getD 0 ≤ 256) = True := eq_true (by decide +kernel)
@[go_sem] theorem t28_165_b : (bytesP Try.prog 165 ≤ 1024) = True := eq_true (by decide +kernel)
@[go_sem] theorem t28_166_h : hasP Try.prog 166 = true := by decide +kernel
@[go_sem] theorem t28_166_s : sizeP Try.prog 166 = 1 := by decide +kernel
@[go_sem] theorem t28_166_a : aggP Try.prog 166 = false := by decide +kernel
@[go_sem] theorem t28_166_z : zeroP Try.prog 166 = some [.nilp] := _root_.id (by kernel_rfl)
@[go_sem] theorem t28_166_o : zeroOK Try.prog 166 = true := by decide +kernel
@[go_sem] theorem t28_166_i : zeroI Try.prog 166 = some (.nilp) := _root_.id (by kernel_rfl)
@[go_sem] theorem t28_166_y : (((Try.prog.info? 166).map (·.bytes)).getD 0 ≤ 256) = True := eq_true (by decide +kernel)
@[go_sem] theorem t28_166_b : (bytesP Try.prog 166 ≤ 1024) = True := eq_true (by decide +kernel)
@[go_sem] theorem t28_167_h : hasP Try.prog 167 = true := by decide +kernel
@[go_sem] theorem t28_167_s : sizeP Try.prog 167 = 1 := by decide +kernel
@[go_sem] theorem t28_167_a : aggP Try.prog 167 = false := by decide +kernel
@[go_sem] theorem t28_167_z : zeroP Try.prog 167 = some [.nilf] := _root_.id (by kernel_rfl)
@[go_sem] theorem t28_167_o : zeroOK Try.prog 167 = true := by decide +kernel
@[go_sem] theorem t28_167_i : zeroI Try.prog 167 = some (.nilf) := _root_.id (by kernel_rfl)
@[go_sem] theorem t28_167_y : (((Try.prog.info? 167).map (·.bytes)).getD 0 ≤ 256) = True := eq_true (by decide +kernel)
@[go_sem] theorem t28_167_b : (bytesP Try.prog 167 ≤ 1024) = True := eq_true (by decide +kernel)
@[go_sem] theorem t28_168_h : hasP Try.prog 168 = true := by decide +kernel
@[go_sem] theorem t28_168_s : sizeP Try.prog 168 = 1 := by decide +kernel
@[go_sem] theorem t28_168_a : aggP Try.prog 168 = false := by decide +kernel
@[go_sem] theorem t28_168_z : zeroP Try.prog 168 = some [.nilp] := _root_.id (by kernel_rfl)
@[go_sem] theorem t28_168_o : zeroOK Try.prog 168 = true := by decide +kernel
@[go_sem] theorem t28_168_i : zeroI Try.prog 168 = some (.nilp) := _root_.id (by kernel_rfl)
@[go_sem] theorem t28_168_y : (((Try.prog.info? 168).map (·.bytes)).getD 0 ≤ 256) = True := eq_true (by decide +kernel)
@[go_sem] theorem t28_168_b : (bytesP Try.prog 168 ≤ 1024) = True := eq_true (by decide +kernel)
@[go_sem] theorem t28_169_h : hasP Try.prog 169 = true := by decide +kernel
@[go_sem] theorem t28_169_s : sizeP Try.prog 169 = 1 := by decide +kernel
@[go_sem] theorem t28_169_a : aggP Try.prog 169 = false := by decide +kernel
@[go_sem] theorem t28_169_z : zeroP Try.prog 169 = some [.nilf] := _root_.id (by kernel_rfl)
@[go_sem] theorem t28_169_o : zeroOK Try.prog 169 = true := by decide +kernel
@[go_sem] theorem t28_169_i : zeroI Try.prog 169 = some (.nilf) := _root_.id (by kernel_rfl)
@[go_sem] theorem t28_169_y : (((Try.prog.info? 169).map (·.bytes)).getD 0 ≤ 256) = True := eq_true (by decide +kernel)
@[go_sem] theorem t28_169_b : (bytesP Try.prog 169 ≤ 1024) = True := eq_true (by decide +kernel)
@[go_sem] theorem t28_170_h : hasP Try.prog 170 = true := by decide +kernel
@[go_sem] theorem t28_170_s : sizeP Try.prog 170 = 1 := by decide +kernel
@[go_sem] theorem t28_170_a : aggP Try.prog 170 = false := by decide +kernel
@[go_sem] theorem t28_170_z : zeroP Try.prog 170 = some [.nilf] := _root_.id (by kernel_rfl)
@[go_sem] theorem t28_170_o : zeroOK Try.prog 170 = true := by decide +kernel
@[go_sem] theorem t28_170_i : zeroI Try.prog 170 = some (.nilf) := _root_.id (by kernel_rfl)
@[go_sem] theorem t28_170_y : (((Try.prog.info? 170).map (·.bytes)).getD 0 ≤ 256) = True := eq_true (by decide +kernel)
@[go_sem] theorem t28_170_b : (bytesP Try.prog 170 ≤ 1024) = True := eq_true (by decide +kernel)
@[go_sem] theorem t28_171_h : hasP Try.prog 171 = true := by decide +kernel
@[go_sem] theorem t28_171_s : sizeP Try.prog 171 = 4 := by decide +kernel
@[go_sem] theorem t28_171_a : aggP Try.prog 171 = true := by decide +kernel
@[go_sem] theorem t28_171_z : zeroP Try.prog 171 = some [.nilp, .nilp, .nilp, .str ByteArray.empty] := _root_.id (by kernel_rfl)
@[go_sem] theorem t28_171_o : zeroOK Try.prog 171 = true := by decide +kernel
@[go_sem] theorem t28_171_i : zeroI Try.prog 171 = some (.agg [.nilp, .nilp, .nilp, .str ByteArray.empty]) := _root_.id (by kernel_rfl)
@[go_sem] theorem t28_171_y : (((Try.prog.info? 171).map (·.bytes)).getD 0 ≤ 256) = True := eq_true (by decide +kernel)
@[go_sem] theorem t28_171_b : (bytesP Try.prog 171 ≤ 1024) = True := eq_true (by decide +kernel)
@[go_sem] theorem t28_172_h : hasP Try.prog 172 = true := by decide +kernel
@[go_sem] theorem t28_172_s : sizeP Try.prog 172 = 4 := by decide +kernel
@[go_sem] theorem t28_172_a : aggP Try.prog 172 = true := by decide +kernel
@[go_sem] theorem t28_172_z : zeroP Try.prog 172 = some [.nilp, .nilp, .nilp, .str ByteArray.empty] := _root_.id (by kernel_rfl)
@[go_sem] theorem t28_172_o : zeroOK Try.prog 172 = true := by decide +kernel
@[go_sem] theorem t28_172_i : zeroI Try.prog 172 = some (.agg [.nilp, .nilp, .nilp, .str ByteArray.empty]) := _root_.id (by kernel_rfl)
@[go_sem] theorem t28_172_y : (((Try.prog.info? 172).map (·.bytes)).getD 0 ≤ 256) = True := eq_true (by decide +kernel)
@[go_sem] theorem t28_172_b : (bytesP Try.prog 172 ≤ 1024) = True := eq_true (by decide +kernel)
@[go_sem] theorem t28_173_h : hasP Try.prog 173 = true := by decide +kernel
@[go_sem] theorem t28_173_s : sizeP Try.prog 173 = 0 := by decide +kernel
@[go_sem] theorem t28_173_a : aggP Try.prog 173 = true := by decide +kernel
@[go_sem] theorem t28_174_h : hasP Try.prog 174 = true := by decide +kernel
@[go_sem] theorem t28_174_s : sizeP Try.prog 174 = 0 := by decide +kernel
@[go_sem] theorem t28_174_a : aggP Try.prog 174 = true := by decide +kernel
@[go_sem] theorem t28_175_h : hasP Try.prog 175 = true := by decide +kernel
@[go_sem] theorem t28_175_s : sizeP Try.prog 175 = 0 := by decide +kernel
@[go_sem] theorem t28_175_a : aggP Try.prog 175 = true := by decide +kernel
@[go_sem] theorem t28_176_h : hasP Try.prog 176 = true := by decide +kernel
@[go_sem] theorem t28_176_s : sizeP Try.prog 176 = 1 := by decide +kernel
@[go_sem] theorem t28_176_a : aggP Try.prog 176 = false := by decide +kernel
@[go_sem] theorem t28_176_z : zeroP Try.prog 176 = some [.nilf] := _root_.id (by kernel_rfl)
@[go_sem] theorem t28_176_o : zeroOK Try.prog 176 = true := by decide +kernel
@[go_sem] theorem t28_176_i : zeroI Try.prog 176 = some (.nilf) := _root_.id (by kernel_rfl)
@[go_sem] theorem t28_176_y : (((Try.prog.info? 176).map (·.bytes)).getD 0 ≤ 256) = True := eq_true (by decide +kernel)
@[go_sem] theorem t28_176_b : (bytesP Try.prog 176 ≤ 1024) = True := eq_true (by decide +kernel)
@[go_sem] theorem t28_177_h : hasP Try.prog 177 = true := by decide +kernel
@[go_sem] theorem t28_177_s : sizeP Try.prog 177 = 1 := by decide +kernel
@[go_sem] theorem t28_177_a : aggP Try.prog 177 = false := by decide +kernel
@[go_sem] theorem t28_177_z : zeroP Try.prog 177 = some [.int .u8 0] := _root_.id (by kernel_rfl)
@[go_sem] theorem t28_177_o : zeroOK Try.prog 177 = true := by decide +kernel
@[go_sem] theorem t28_177_i : zeroI Try.prog 177 = some (.int .u8 0) := _root_.id (by kernel_rfl)
@[go_sem] theorem t28_177_y : (((Try.prog.info? 177).map (·.bytes)).getD 0 ≤ 256) = True := eq_true (by decide +kernel)
@[go_sem] theorem t28_177_b : (bytesP Try.prog 177 ≤ 1024) = True := eq_true (by decide +kernel)
@[go_sem] theorem t28_177_k : keyK Try.prog 177 = some [.int .u8] := key_of (by decide +kernel)
@[go_sem] theorem t28_178_h : hasP Try.prog 178 = true := by decide +kernel
@[go_sem] theorem t28_178_s : sizeP Try.prog 178 = 1 := by decide +kernel
@[go_sem] theorem t28_178_a : aggP Try.prog 178 = false := by decide +kernel
@[go_sem] theorem t28_178_z : zeroP Try.prog 178 = some [.int .u8 0] := _root_.id (by kernel_rfl)
@[go_sem] theorem t28_178_o : zeroOK Try.prog 178 = true := by decide +kernel
@[go_sem] theorem t28_178_i : zeroI Try.prog 178 = some (.int .u8 0) := _root_.id (by kernel_rfl)
@[go_sem] theorem t28_178_y : (((Try.prog.info? 178).map (·.bytes)).getD 0 ≤ 256) = True := eq_true (by decide +kernel)
@[go_sem] theorem t28_178_b : (bytesP Try.prog 178 ≤ 1024) = True := eq_true (by decide +kernel)
@[go_sem] theorem t28_178_k : keyK Try.prog 178 = some [.int .u8] := key_of (by decide +kernel)
@[go_sem] theorem t28_179_h : hasP Try.prog 179 = true := by decide +kernel
@[go_sem] theorem t28_179_s : sizeP Try.prog 179 = 1 := by decide +kernel
@[go_sem] theorem t28_179_a : aggP Try.prog 179 = false := by decide +kernel
@[go_sem] theorem t28_179_z : zeroP Try.prog 179 = some [.nilf] := _root_.id (by kernel_rfl)
@[go_sem] theorem t28_179_o : zeroOK Try.prog 179 = true := by decide +kernel
@[go_sem] theorem t28_179_i : zeroI Try.prog 179 = some (.nilf) := _root_.id (by kernel_rfl)
@[go_sem] theorem t28_179_y : (((Try.prog.info? 179).map (·.bytes)).getD 0 ≤ 256) = True := eq_true (by decide +kernel)
@[go_sem] theorem t28_179_b : (bytesP Try.prog 179 ≤ 1024) = True := eq_true (by decide +kernel)
@[go_sem] theorem t28_180_h : hasP Try.prog 180 = true := by decide +kernel
@[go_sem] theorem t28_180_s : sizeP Try.prog 180 = 1 := by decide +kernel
@[go_sem] theorem t28_180_a : aggP Try.prog 180 = false := by decide +kernel
@[go_sem] theorem t28_180_z : zeroP Try.prog 180 = some [.nilp] := _root_.id (by kernel_rfl)
@[go_sem] theorem t28_180_o : zeroOK Try.prog 180 = true := by decide +kernel
@[go_sem] theorem t28_180_i : zeroI Try.prog 180 = some (.nilp) := _root_.id (by kernel_rfl)
@[go_sem] theorem t28_180_y : (((Try.prog.info? 180).map (·.bytes)).getD 0 ≤ 256) = True := eq_true (by decide +kernel)
@[go_sem] theorem t28_180_b : (bytesP Try.prog 180 ≤ 1024) = True := eq_true (by decide +kernel)
@[go_sem] theorem t28_181_h : hasP Try.prog 181 = true := by decide +kernel
@[go_sem] theorem t28_181_s : sizeP Try.prog 181 = 1 := by decide +kernel
@[go_sem] theorem t28_181_a : aggP Try.prog 181 = false := by decide +kernel
@[go_sem] theorem t28_181_z : zeroP Try.prog 181 = some [.int .i32 0] := _root_.id (by kernel_rfl)
@[go_sem] theorem t28_181_o : zeroOK Try.prog 181 = true := by decide +kernel
@[go_sem] theorem t28_181_i : zeroI Try.prog 181 = some (.int .i32 0) := _root_.id (by kernel_rfl)
@[go_sem] theorem t28_181_y : (((Try.prog.info? 181).map (·.bytes)).getD 0 ≤ 256) = True := eq_true (by decide +kernel)
@[go_sem] theorem t28_181_b : (bytesP Try.prog 181 ≤ 1024) = True := eq_true (by decide +kernel)
@[go_sem] theorem t28_181_k : keyK Try.prog 181 = some [.int .i32] := key_of (by decide +kernel)
@[go_sem] theorem t28_182_h : hasP Try.prog 182 = true := by decide +kernel
@[go_sem] theorem t28_182_s : sizeP Try.prog 182 = 1 := by decide +kernel
@[go_sem] theorem t28_182_a : aggP Try.prog 182 = false := by decide +kernel
@[go_sem] theorem t28_182_z : zeroP Try.prog 182 = some [.int .i32 0] := _root_.id (by kernel_rfl)
@[go_sem] theorem t28_182_o : zeroOK Try.prog 182 = true := by decide +kernel
@[go_sem] theorem t28_182_i : zeroI Try.prog 182 = some (.int .i32 0) := _root_.id (by kernel_rfl)
@[go_sem] theorem t28_182_y : (((Try.prog.info? 182).map (·.bytes)).getD 0 ≤ 256) = True := eq_true (by decide +kernel)
@[go_sem] theorem t28_182_b : (bytesP Try.prog 182 ≤ 1024) = True := eq_true (by decide +kernel)
@[go_sem] theorem t28_182_k : keyK Try.prog 182 = some [.int .i32] := key_of (by decide +kernel)
@[go_sem] theorem t28_183_h : hasP Try.prog 183 = true := by decide +kernel
@[go_sem] theorem t28_183_s : sizeP Try.prog 183 = 11 := by decide +kernel
@[go_sem] theorem t28_183_a : aggP Try.prog 183 = true := by decide +kernel
@[go_sem] theorem t28_183_z : zeroP Try.prog 183 = some [.int .u64 0, .int .u64 0, .int .u32 0, .int .u8 0, .int .u8 0, .int .u8 0, .int .u8 0, .nilf, .nilp, .int .i32 0, .int .i32 0] := _root_.id (by kernel_rfl)
@[go_sem] theorem t28_183_o : zeroOK Try.prog 183 = true := by decide +kernel
@[go_sem] theorem t28_183_i : zeroI Try.prog 183 = some (.agg [.int .u64 0, .int .u64 0, .int .u32 0, .int .u8 0, .int .u8 0, .int .u8 0, .int .u8 0, .nilf, .nilp, .int .i32 0, .int .i32 0]) := _root_.id (by kernel_rfl)
@[go_sem] theorem t28_183_y : (((Try.prog.info? 183).map (·.bytes)).getD 0 ≤ 256) = True := eq_true (by decide +kernel)
@[go_sem] theorem t28_183_b : (bytesP Try.prog 183 ≤ 1024) = True := eq_true (by decide +kernel)
@[go_sem] theorem t28_184_h : hasP Try.prog 184 = true := by decide +kernel
@[go_sem] theorem t28_184_s : sizeP Try.prog 184 = 11 := by decide +kernel
@[go_sem] theorem t28_184_a : aggP Try.prog 184 = true := by decide +kernel
@[go_sem] theorem t28_184_z : zeroP Try.prog 184 = some [.int .u64 0, .int .u64 0, .int .u32 0, .int .u8 0, .int .u8 0, .int .u8 0, .int .u8 0, .nilf, .nilp, .int .i32 0, .int .i32 0] := _root_.id (by kernel_rfl)
@[go_sem] theorem t28_184_o : zeroOK Try.prog 184 = true := by decide +kernel
@[go_sem] theorem t28_184_i : zeroI Try.prog 184 = some (.agg [.int .u64 0, .int .u64 0, .int .u32 0, .int .u8 0, .int .u8 0, .int .u8 0, .int .u8 0, .nilf, .nilp, .int .i32 0, .int .i32 0]) := _root_.id (by kernel_rfl)
@[go_sem] theorem t28_184_y : (((Try.prog.info? 184).map (·.bytes)).getD 0 ≤ 256) = True := eq_true (by decide +kernel)
@[go_sem] theorem t28_184_b : (bytesP Try.prog 184 ≤ 1024) = True := eq_true (by decide +kernel)
end Go.Idl
