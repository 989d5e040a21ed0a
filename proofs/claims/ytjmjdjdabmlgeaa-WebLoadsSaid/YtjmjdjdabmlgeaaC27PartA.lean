/-
  Chapter 27: the types.
-/
import Derived.Test.YtjmjdjdabmlgeaaProg
import Derived.Test.YtjmjdjdabmlgeaaIdlPartG
import Derived.KernelRfl
namespace Go.Idl
set_option linter.all false
open Go.Proofs
@[go_sem] theorem t27_1_h : hasP Try.prog 1 = true := by decide +kernel
@[go_sem] theorem t27_1_s : sizeP Try.prog 1 = 1 := by decide +kernel
@[go_sem] theorem t27_1_a : aggP Try.prog 1 = false := by decide +kernel
@[go_sem] theorem t27_1_z : zeroP Try.prog 1 = some [.nilf] := _root_.id (by kernel_rfl)
@[go_sem] theorem t27_1_o : zeroOK Try.prog 1 = true := by decide +kernel
@[go_sem] theorem t27_1_i : zeroI Try.prog 1 = some (.nilf) := _root_.id (by kernel_rfl)
@[go_sem] theorem t27_1_y : (((Try.prog.info? 1).map (·.bytes)).getD 0 ≤ 256) = True := eq_true (by decide +kernel)
@[go_sem] theorem t27_1_b : (bytesP Try.prog 1 ≤ 1024) = True := eq_true (by decide +kernel)
@[go_sem] theorem t27_2_h : hasP Try.prog 2 = true := by decide +kernel
@[go_sem] theorem t27_2_s : sizeP Try.prog 2 = 1 := by decide +kernel
@[go_sem] theorem t27_2_a : aggP Try.prog 2 = false := by decide +kernel
@[go_sem] theorem t27_2_z : zeroP Try.prog 2 = some [.int .i64 0] := _root_.id (by kernel_rfl)
@[go_sem] theorem t27_2_o : zeroOK Try.prog 2 = true := by decide +kernel
@[go_sem] theorem t27_2_i : zeroI Try.prog 2 = some (.int .i64 0) := _root_.id (by kernel_rfl)
@[go_sem] theorem t27_2_y : (((Try.prog.info? 2).map (·.bytes)).getD 0 ≤ 256) = True := eq_true (by decide +kernel)
@[go_sem] theorem t27_2_b : (bytesP Try.prog 2 ≤ 1024) = True := eq_true (by decide +kernel)
@[go_sem] theorem t27_2_k : keyK Try.prog 2 = some [.int .i64] := key_of (by decide +kernel)
@[go_sem] theorem t27_3_h : hasP Try.prog 3 = true := by decide +kernel
@[go_sem] theorem t27_3_s : sizeP Try.prog 3 = 1 := by decide +kernel
@[go_sem] theorem t27_3_a : aggP Try.prog 3 = false := by decide +kernel
@[go_sem] theorem t27_3_z : zeroP Try.prog 3 = some [.int .i64 0] := _root_.id (by kernel_rfl)
@[go_sem] theorem t27_3_o : zeroOK Try.prog 3 = true := by decide +kernel
@[go_sem] theorem t27_3_i : zeroI Try.prog 3 = some (.int .i64 0) := _root_.id (by kernel_rfl)
@[go_sem] theorem t27_3_y : (((Try.prog.info? 3).map (·.bytes)).getD 0 ≤ 256) = True := eq_true (by decide +kernel)
@[go_sem] theorem t27_3_b : (bytesP Try.prog 3 ≤ 1024) = True := eq_true (by decide +kernel)
@[go_sem] theorem t27_3_k : keyK Try.prog 3 = some [.int .i64] := key_of (by decide +kernel)
@[go_sem] theorem t27_4_h : hasP Try.prog 4 = true := by decide +kernel
@[go_sem] theorem t27_4_s : sizeP Try.prog 4 = 1 := by decide +kernel
@[go_sem] theorem t27_4_a : aggP Try.prog 4 = false := by decide +kernel
@[go_sem] theorem t27_4_z : zeroP Try.prog 4 = some [.bool false] := _root_.id (by kernel_rfl)
@[go_sem] theorem t27_4_o : zeroOK Try.prog 4 = true := by decide +kernel
@[go_sem] theorem t27_4_i : zeroI Try.prog 4 = some (.bool false) := _root_.id (by kernel_rfl)
@[go_sem] theorem t27_4_y : (((Try.prog.info? 4).map (·.bytes)).getD 0 ≤ 256) = True := eq_true (by decide +kernel)
@[go_sem] theorem t27_4_b : (bytesP Try.prog 4 ≤ 1024) = True := eq_true (by decide +kernel)
@[go_sem] theorem t27_4_k : keyK Try.prog 4 = some [.bool] := key_of (by decide +kernel)
@[go_sem] theorem t27_5_h : hasP Try.prog 5 = true := by decide +kernel
@[go_sem] theorem t27_5_s : sizeP Try.prog 5 = 1 := by decide +kernel
@[go_sem] theorem t27_5_a : aggP Try.prog 5 = false := by decide +kernel
@[go_sem] theorem t27_5_z : zeroP Try.prog 5 = some [.int .u8 0] := _root_.id (by kernel_rfl)
@[go_sem] theorem t27_5_o : zeroOK Try.prog 5 = true := by decide +kernel
@[go_sem] theorem t27_5_i : zeroI Try.prog 5 = some (.int .u8 0) := _root_.id (by kernel_rfl)
@[go_sem] theorem t27_5_y : (((Try.prog.info? 5).map (·.bytes)).getD 0 ≤ 256) = True := eq_true (by decide +kernel)
@[go_sem] theorem t27_5_b : (bytesP Try.prog 5 ≤ 1024) = True := eq_true (by decide +kernel)
@[go_sem] theorem t27_5_k : keyK Try.prog 5 = some [.int .u8] := key_of (by decide +kernel)
@[go_sem] theorem t27_6_h : hasP Try.prog 6 = true := by decide +kernel
@[go_sem] theorem t27_6_s : sizeP Try.prog 6 = 1 := by decide +kernel
@[go_sem] theorem t27_6_a : aggP Try.prog 6 = false := by decide +kernel
@[go_sem] theorem t27_6_z : zeroP Try.prog 6 = some [.int .u8 0] := _root_.id (by kernel_rfl)
@[go_sem] theorem t27_6_o : zeroOK Try.prog 6 = true := by decide +kernel
@[go_sem] theorem t27_6_i : zeroI Try.prog 6 = some (.int .u8 0) := _root_.id (by kernel_rfl)
@[go_sem] theorem t27_6_y : (((Try.prog.info? 6).map (·.bytes)).getD 0 ≤ 256) = True := eq_true (by decide +kernel)
@[go_sem] theorem t27_6_b : (bytesP Try.prog 6 ≤ 1024) = True := eq_true (by decide +kernel)
@[go_sem] theorem t27_6_k : keyK Try.prog 6 = some [.int .u8] := key_of (by decide +kernel)
@[go_sem] theorem t27_7_h : hasP Try.prog 7 = true := by decide +kernel
@[go_sem] theorem t27_7_s : sizeP Try.prog 7 = 4 := by decide +kernel
@[go_sem] theorem t27_7_a : aggP Try.prog 7 = true := by decide +kernel
@[go_sem] theorem t27_7_z : zeroP Try.prog 7 = some [.int .i64 0, .int .i64 0, .bool false, .int .u8 0] := _root_.id (by kernel_rfl)
@[go_sem] theorem t27_7_o : zeroOK Try.prog 7 = true := by decide +kernel
@[go_sem] theorem t27_7_i : zeroI Try.prog 7 = some (.agg [.int .i64 0, .int .i64 0, .bool false, .int .u8 0]) := _root_.id (by kernel_rfl)
@[go_sem] theorem t27_7_y : (((Try.prog.info? 7).map (·.bytes)).getD 0 ≤ 256) = True := eq_true (by decide +kernel)
@[go_sem] theorem t27_7_b : (bytesP Try.prog 7 ≤ 1024) = True := eq_true (by decide +kernel)
@[go_sem] theorem t27_7_f : flatP Try.prog 7 = some [.int .i64, .int .i64, .bool, .int .u8] := flat_of (by decide +kernel)
@[go_sem] theorem t27_7_k : keyK Try.prog 7 = some [.int .i64, .int .i64, .bool, .int .u8] := key_of (by decide +kernel)
@[go_sem] theorem t27_8_h : hasP Try.prog 8 = true := by decide +kernel
@[go_sem] theorem t27_8_s : sizeP Try.prog 8 = 4 := by decide +kernel
@[go_sem] theorem t27_8_a : aggP Try.prog 8 = true := by decide +kernel
@[go_sem] theorem t27_8_z : zeroP Try.prog 8 = some [.int .i64 0, .int .i64 0, .bool false, .int .u8 0] := _root_.id (by kernel_rfl)
@[go_sem] theorem t27_8_o : zeroOK Try.prog 8 = true := by decide +kernel
@[go_sem] theorem t27_8_i : zeroI Try.prog 8 = some (.agg [.int .i64 0, .int .i64 0, .bool false, .int .u8 0]) := _root_.id (by kernel_rfl)
@[go_sem] theorem t27_8_y : (((Try.prog.info? 8).map (·.bytes)).getD 0 ≤ 256) = True := eq_true (by decide +kernel)
@[go_sem] theorem t27_8_b : (bytesP Try.prog 8 ≤ 1024) = True := eq_true (by decide +kernel)
@[go_sem] theorem t27_8_f : flatP Try.prog 8 = some [.int .i64, .int .i64, .bool, .int .u8] := flat_of (by decide +kernel)
@[go_sem] theorem t27_8_k : keyK Try.prog 8 = some [.int .i64, .int .i64, .bool, .int .u8] := key_of (by decide +kernel)
@[go_sem] theorem t27_9_h : hasP Try.prog 9 = true := by decide +kernel
@[go_sem] theorem t27_9_s : sizeP Try.prog 9 = 1 := by decide +kernel
@[go_sem] theorem t27_9_a : aggP Try.prog 9 = false := by decide +kernel
@[go_sem] theorem t27_9_z : zeroP Try.prog 9 = some [.str ByteArray.empty] := _root_.id (by kernel_rfl)
@[go_sem] theorem t27_9_o : zeroOK Try.prog 9 = true := by decide +kernel
@[go_sem] theorem t27_9_i : zeroI Try.prog 9 = some (.str ByteArray.empty) := _root_.id (by kernel_rfl)
@[go_sem] theorem t27_9_y : (((Try.prog.info? 9).map (·.bytes)).getD 0 ≤ 256) = True := eq_true (by decide +kernel)
@[go_sem] theorem t27_9_b : (bytesP Try.prog 9 ≤ 1024) = True := eq_true (by decide +kernel)
@[go_sem] theorem t27_9_k : keyK Try.prog 9 = some [.string] := key_of (by decide +kernel)
@[go_sem] theorem t27_10_h : hasP Try.prog 10 = true := by decide +kernel
@[go_sem] theorem t27_10_s : sizeP Try.prog 10 = 1 := by decide +kernel
@[go_sem] theorem t27_10_a : aggP Try.prog 10 = false := by decide +kernel
@[go_sem] theorem t27_10_z : zeroP Try.prog 10 = some [.str ByteArray.empty] := _root_.id (by kernel_rfl)
@[go_sem] theorem t27_10_o : zeroOK Try.prog 10 = true := by decide +kernel
@[go_sem] theorem t27_10_i : zeroI Try.prog 10 = some (.str ByteArray.empty) := _root_.id (by kernel_rfl)
@[go_sem] theorem t27_10_y : (((Try.prog.info? 10).map (·.bytes)).getD 0 ≤ 256) = True := eq_true (by decide +kernel)
@[go_sem] theorem t27_10_b : (bytesP Try.prog 10 ≤ 1024) = True := eq_true (by decide +kernel)
@[go_sem] theorem t27_10_k : keyK Try.prog 10 = some [.string] := key_of (by decide +kernel)
@[go_sem] theorem t27_11_h : hasP Try.prog 11 = true := by decide +kernel
@[go_sem] theorem t27_11_s : sizeP Try.prog 11 = 1 := by decide +kernel
@[go_sem] theorem t27_11_a : aggP Try.prog 11 = false := by decide +kernel
@[go_sem] theorem t27_11_z : zeroP Try.prog 11 = some [.str ByteArray.empty] := _root_.id (by kernel_rfl)
@[go_sem] theorem t27_11_o : zeroOK Try.prog 11 = true := by decide +kernel
@[go_sem] theorem t27_11_i : zeroI Try.prog 11 = some (.str ByteArray.empty) := _root_.id (by kernel_rfl)
@[go_sem] theorem t27_11_y : (((Try.prog.info? 11).map (·.bytes)).getD 0 ≤ 256) = True := eq_true (by decide +kernel)
@[go_sem] theorem t27_11_b : (bytesP Try.prog 11 ≤ 1024) = True := eq_true (by decide +kernel)
@[go_sem] theorem t27_11_k : keyK Try.prog 11 = some [.string] := key_of (by decide +kernel)
@[go_sem] theorem t27_12_h : hasP Try.prog 12 = true := by decide +kernel
@[go_sem] theorem t27_12_s : sizeP Try.prog 12 = 1 := by decide +kernel
@[go_sem] theorem t27_12_a : aggP Try.prog 12 = false := by decide +kernel
@[go_sem] theorem t27_12_z : zeroP Try.prog 12 = some [.int .u64 0] := _root_.id (by kernel_rfl)
@[go_sem] theorem t27_12_o : zeroOK Try.prog 12 = true := by decide +kernel
@[go_sem] theorem t27_12_i : zeroI Try.prog 12 = some (.int .u64 0) := _root_.id (by kernel_rfl)
@[go_sem] theorem t27_12_y : (((Try.prog.info? 12).map (·.bytes)).getD 0 ≤ 256) = True := eq_true (by decide +kernel)
@[go_sem] theorem t27_12_b : (bytesP Try.prog 12 ≤ 1024) = True := eq_true (by decide +kernel)
@[go_sem] theorem t27_12_k : keyK Try.prog 12 = some [.int .u64] := key_of (by decide +kernel)
@[go_sem] theorem t27_13_h : hasP Try.prog 13 = true := by decide +kernel
@[go_sem] theorem t27_13_s : sizeP Try.prog 13 = 2 := by decide +kernel
@[go_sem] theorem t27_13_a : aggP Try.prog 13 = true := by decide +kernel
@[go_sem] theorem t27_13_z : zeroP Try.prog 13 = some [.str ByteArray.empty, .int .u64 0] := _root_.id (by kernel_rfl)
@[go_sem] theorem t27_13_o : zeroOK Try.prog 13 = true := by decide +kernel
@[go_sem] theorem t27_13_i : zeroI Try.prog 13 = some (.agg [.str ByteArray.empty, .int .u64 0]) := _root_.id (by kernel_rfl)
@[go_sem] theorem t27_13_y : (((Try.prog.info? 13).map (·.bytes)).getD 0 ≤ 256) = True := eq_true (by decide +kernel)
@[go_sem] theorem t27_13_b : (bytesP Try.prog 13 ≤ 1024) = True := eq_true (by decide +kernel)
@[go_sem] theorem t27_14_h : hasP Try.prog 14 = true := by decide +kernel
@[go_sem] theorem t27_14_s : sizeP Try.prog 14 = 2 := by decide +kernel
@[go_sem] theorem t27_14_a : aggP Try.prog 14 = true := by decide +kernel
@[go_sem] theorem t27_14_z : zeroP Try.prog 14 = some [.str ByteArray.empty, .int .u64 0] := _root_.id (by kernel_rfl)
@[go_sem] theorem t27_14_o : zeroOK Try.prog 14 = true := by decide +kernel
@[go_sem] theorem t27_14_i : zeroI Try.prog 14 = some (.agg [.str ByteArray.empty, .int .u64 0]) := _root_.id (by kernel_rfl)
@[go_sem] theorem t27_14_y : (((Try.prog.info? 14).map (·.bytes)).getD 0 ≤ 256) = True := eq_true (by decide +kernel)
@[go_sem] theorem t27_14_b : (bytesP Try.prog 14 ≤ 1024) = True := eq_true (by decide +kernel)
@[go_sem] theorem t27_15_h : hasP Try.prog 15 = true := by decide +kernel
@[go_sem] theorem t27_15_s : sizeP Try.prog 15 = 1 := by decide +kernel
@[go_sem] theorem t27_15_a : aggP Try.prog 15 = false := by decide +kernel
@[go_sem] theorem t27_15_z : zeroP Try.prog 15 = some [.nilp] := _root_.id (by kernel_rfl)
@[go_sem] theorem t27_15_o : zeroOK Try.prog 15 = true := by decide +kernel
@[go_sem] theorem t27_15_i : zeroI Try.prog 15 = some (.nilp) := _root_.id (by kernel_rfl)
@[go_sem] theorem t27_15_y : (((Try.prog.info? 15).map (·.bytes)).getD 0 ≤ 256) = True := eq_true (by decide +kernel)
@[go_sem] theorem t27_15_b : (bytesP Try.prog 15 ≤ 1024) = True := eq_true (by decide +kernel)
@[go_sem] theorem t27_16_h : hasP Try.prog 16 = true := by decide +kernel
@[go_sem] theorem t27_16_s : sizeP Try.prog 16 = 1 := by decide +kernel
@[go_sem] theorem t27_16_a : aggP Try.prog 16 = false := by decide +kernel
@[go_sem] theorem t27_16_z : zeroP Try.prog 16 = some [.nilp] := _root_.id (by kernel_rfl)
@[go_sem] theorem t27_16_o : zeroOK Try.prog 16 = true := by decide +kernel
@[go_sem] theorem t27_16_i : zeroI Try.prog 16 = some (.nilp) := _root_.id (by kernel_rfl)
@[go_sem] theorem t27_16_y : (((Try.prog.info? 16).map (·.bytes)).getD 0 ≤ 256) = True := eq_true (by decide +kernel)
@[go_sem] theorem t27_16_b : (bytesP Try.prog 16 ≤ 1024) = True := eq_true (by decide +kernel)
@[go_sem] theorem t27_17_h : hasP Try.prog 17 = true := by decide +kernel
@[go_sem] theorem t27_17_s : sizeP Try.prog 17 = 1 := by decide +kernel
@[go_sem] theorem t27_17_a : aggP Try.prog 17 = false := by decide +kernel
@[go_sem] theorem t27_17_z : zeroP Try.prog 17 = some [.nilp] := _root_.id (by kernel_rfl)
@[go_sem] theorem t27_17_o : zeroOK Try.prog 17 = true := by decide +kernel
@[go_sem] theorem t27_17_i : zeroI Try.prog 17 = some (.nilp) := _root_.id (by kernel_rfl)
@[go_sem] theorem t27_17_y : (((Try.prog.info? 17).map (·.bytes)).getD 0 ≤ 256) = True := eq_true (by decide +kernel)
@[go_sem] theorem t27_17_b : (bytesP Try.prog 17 ≤ 1024) = True := eq_true (by decide +kernel)
@[go_sem] theorem t27_18_h : hasP Try.prog 18 = true := by decide +kernel
@[go_sem] theorem t27_18_s : sizeP Try.prog 18 = 1 := by decide +kernel
@[go_sem] theorem t27_18_a : aggP Try.prog 18 = true := by decide +kernel
@[go_sem] theorem t27_18_z : zeroP Try.prog 18 = some [.nilp] := _root_.id (by kernel_rfl)
@[go_sem] theorem t27_18_o : zeroOK Try.prog 18 = true := by decide +kernel
@[go_sem] theorem t27_18_i : zeroI Try.prog 18 = some (.agg [.nilp]) := _root_.id (by kernel_rfl)
@[go_sem] theorem t27_18_y : (((Try.prog.info? 18).map (·.bytes)).getD 0 ≤ 256) = True := eq_true (by decide +kernel)
@[go_sem] theorem t27_18_b : (bytesP Try.prog 18 ≤ 1024) = True := eq_true (by decide +kernel)
@[go_sem] theorem t27_19_h : hasP Try.prog 19 = true := by decide +kernel
@[go_sem] theorem t27_19_s : sizeP Try.prog 19 = 1 := by decide +kernel
@[go_sem] theorem t27_19_a : aggP Try.prog 19 = true := by decide +kernel
@[go_sem] theorem t27_19_z : zeroP Try.prog 19 = some [.nilp] := _root_.id (by kernel_rfl)
@[go_sem] theorem t27_19_o : zeroOK Try.prog 19 = true := by decide +kernel
@[go_sem] theorem t27_19_i : zeroI Try.prog 19 = some (.agg [.nilp]) := _root_.id (by kernel_rfl)
@[go_sem] theorem t27_19_y : (((Try.prog.info? 19).map (·.bytes)).getD 0 ≤ 256) = True := eq_true (by decide +kernel)
@[go_sem] theorem t27_19_b : (bytesP Try.prog 19 ≤ 1024) = True := eq_true (by decide +kernel)
@[go_sem] theorem t27_21_h : hasP Try.prog 21 = true := by decide +kernel
@[go_sem] theorem t27_21_s : sizeP Try.prog 21 = 1 := by decide +kernel
@[go_sem] theorem t27_21_a : aggP Try.prog 21 = false := by decide +kernel
@[go_sem] theorem t27_21_z : zeroP Try.prog 21 = some [.int .i32 0] := _root_.id (by kernel_rfl)
@[go_sem] theorem t27_21_o : zeroOK Try.prog 21 = true := by decide +kernel
@[go_sem] theorem t27_21_i : zeroI Try.prog 21 = some (.int .i32 0) := _root_.id (by kernel_rfl)
@[go_sem] theorem t27_21_y : (((Try.prog.info? 21).map (·.bytes)).getD 0 ≤ 256) = True := eq_true (by decide +kernel)
@[go_sem] theorem t27_21_b : (bytesP Try.prog 21 ≤ 1024) = True := eq_true (by decide +kernel)
@[go_sem] theorem t27_21_k : keyK Try.prog 21 = some [.int .i32] := key_of (by decide +kernel)
@[go_sem] theorem t27_22_h : hasP Try.prog 22 = true := by decide +kernel
@[go_sem] theorem t27_22_s : sizeP Try.prog 22 = 1 := by decide +kernel
@[go_sem] theorem t27_22_a : aggP Try.prog 22 = false := by decide +kernel
@[go_sem] theorem t27_22_z : zeroP Try.prog 22 = some [.nilf] := _root_.id (by kernel_rfl)
@[go_sem] theorem t27_22_o : zeroOK Try.prog 22 = true := by decide +kernel
@[go_sem] theorem t27_22_i : zeroI Try.prog 22 = some (.nilf) := _root_.id (by kernel_rfl)
@[go_sem] theorem t27_22_y : (((Try.prog.info? 22).map (·.bytes)).getD 0 ≤ 256) = True := eq_true (by decide +kernel)
@[go_sem] theorem t27_22_b : (bytesP Try.prog 22 ≤ 1024) = True := eq_true (by decide +kernel)
@[go_sem] theorem t27_23_h : hasP Try.prog 23 = true := by decide +kernel
@[go_sem] theorem t27_23_s : sizeP Try.prog 23 = 1 := by decide +kernel
@[go_sem] theorem t27_23_a : aggP Try.prog 23 = false := by decide +kernel
@[go_sem] theorem t27_23_z : zeroP Try.prog 23 = some [.nilf] := _root_.id (by kernel_rfl)
@[go_sem] theorem t27_23_o : zeroOK Try.prog 23 = true := by decide +kernel
@[go_sem] theorem t27_23_i : zeroI Try.prog 23 = some (.nilf) := _root_.id (by kernel_rfl)
@[go_sem] theorem t27_23_y : (((Try.prog.info? 23).map (·.bytes)).getD 0 ≤ 256) = True := eq_true (by decide +kernel)
@[go_sem] theorem t27_23_b : (bytesP Try.prog 23 ≤ 1024) = True := eq_true (by decide +kernel)
@[go_sem] theorem t27_24_h : hasP Try.prog 24 = true := by decide +kernel
@[go_sem] theorem t27_24_s : sizeP Try.prog 24 = 1 := by decide +kernel
@[go_sem] theorem t27_24_a : aggP Try.prog 24 = false := by decide +kernel
@[go_sem] theorem t27_24_z : zeroP Try.prog 24 = some [.nils] := _root_.id (by kernel_rfl)
@[go_sem] theorem t27_24_o : zeroOK Try.prog 24 = true := by decide +kernel
@[go_sem] theorem t27_24_i : zeroI Try.prog 24 = some (.nils) := _root_.id (by kernel_rfl)
@[go_sem] theorem t27_24_y : (((Try.prog.info? 24).map (·.bytes)).getD 0 ≤ 256) = True := eq_true (by decide +kernel)
@[go_sem] theorem t27_24_b : (bytesP Try.prog 24 ≤ 1024) = True := eq_true (by decide +kernel)
@[go_sem] theorem t27_25_h : hasP Try.prog 25 = true := by decide +kernel
@[go_sem] theorem t27_25_s : sizeP Try.prog 25 = 6 := by decide +kernel
@[go_sem] theorem t27_25_a : aggP Try.prog 25 = true := by decide +kernel
@[go_sem] theorem t27_25_z : zeroP Try.prog 25 = some [.int .i64 0, .int .i64 0, .int .i64 0, .int .i64 0, .int .i64 0, .nils] := _root_.id (by kernel_rfl)
@[go_sem] theorem t27_25_o : zeroOK Try.prog 25 = true := by decide +kernel
@[go_sem] theorem t27_25_i : zeroI Try.prog 25 = some (.agg [.int .i64 0, .int .i64 0, .int .i64 0, .int .i64 0, .int .i64 0, .nils]) := _root_.id (by kernel_rfl)
@[go_sem] theorem t27_25_y : (((Try.prog.info? 25).map (·.bytes)).getD 0 ≤ 256) = True := eq_true (by decide +kernel)
@[go_sem] theorem t27_25_b : (bytesP Try.prog 25 ≤ 1024) = True := eq_true (by decide +kernel)
@[go_sem] theorem t27_26_h : hasP Try.prog 26 = true := by decide +kernel
@[go_sem] theorem t27_26_s : sizeP Try.prog 26 = 6 := by decide +kernel
@[go_sem] theorem t27_26_a : aggP Try.prog 26 = true := by decide +kernel
@[go_sem] theorem t27_26_z : zeroP Try.prog 26 = some [.int .i64 0, .int .i64 0, .int .i64 0, .int .i64 0, .int .i64 0, .nils] := _root_.id (by kernel_rfl)
@[go_sem] theorem t27_26_o : zeroOK Try.prog 26 = true := by decide +kernel
@[go_sem] theorem t27_26_i : zeroI Try.prog 26 = some (.agg [.int .i64 0, .int .i64 0, .int .i64 0, .int .i64 0, .int .i64 0, .nils]) := _root_.id (by kernel_rfl)
@[go_sem] theorem t27_26_y : (((Try.prog.info? 26).map (·.bytes)).getD 0 ≤ 256) = True := eq_true (by decide +kernel)
@[go_sem] theorem t27_26_b : (bytesP Try.prog 26 ≤ 1024) = True := eq_true (by decide +kernel)
@[go_sem] theorem t27_27_h : hasP Try.prog 27 = true := by decide +kernel
@[go_sem] theorem t27_27_s : sizeP Try.prog 27 = 1 := by decide +kernel
@[go_sem] theorem t27_27_a : aggP Try.prog 27 = false := by decide +kernel
@[go_sem] theorem t27_27_z : zeroP Try.prog 27 = some [.nilf] := _root_.id (by kernel_rfl)
@[go_sem] theorem t27_27_o : zeroOK Try.prog 27 = true := by decide +kernel
@[go_sem] theorem t27_27_i : zeroI Try.prog 27 = some (.nilf) := _root_.id (by kernel_rfl)
@[go_sem] theorem t27_27_y : (((Try.prog.info? 27).map (·.bytes)).getD 0 ≤ 256) = True := eq_true (by decide +kernel)
@[go_sem] theorem t27_27_b : (bytesP Try.prog 27 ≤ 1024) = True := eq_true (by decide +kernel)
@[go_sem] theorem t27_28_h : hasP Try.prog 28 = true := by decide +kernel
@[go_sem] theorem t27_28_s : sizeP Try.prog 28 = 1 := by decide +kernel
@[go_sem] theorem t27_28_a : aggP Try.prog 28 = false := by decide +kernel
@[go_sem] theorem t27_28_z : zeroP Try.prog 28 = some [.nils] := _root_.id (by kernel_rfl)
@[go_sem] theorem t27_28_o : zeroOK Try.prog 28 = true := by decide +kernel
@[go_sem] theorem t27_28_i : zeroI Try.prog 28 = some (.nils) := _root_.id (by kernel_rfl)
@[go_sem] theorem t27_28_y : (((Try.prog.info? 28).map (·.bytes)).getD 0 ≤ 256) = True := eq_true (by decide +kernel)
@[go_sem] theorem t27_28_b : (bytesP Try.prog 28 ≤ 1024) = True := eq_true (by decide +kernel)
@[go_sem] theorem t27_30_h : hasP Try.prog 30 = true := by decide +kernel
@[go_sem] theorem t27_30_s : sizeP Try.prog 30 = 1 := by decide +kernel
@[go_sem] theorem t27_30_a : aggP Try.prog 30 = false := by decide +kernel
@[go_sem] theorem t27_30_z : zeroP Try.prog 30 = some [.nilf] := _root_.id (by kernel_rfl)
@[go_sem] theorem t27_30_o : zeroOK Try.prog 30 = true := by decide +kernel
@[go_sem] theorem t27_30_i : zeroI Try.prog 30 = some (.nilf) := _root_.id (by kernel_rfl)
@[go_sem] theorem t27_30_y : (((Try.prog.info? 30).map (·.bytes)).getD 0 ≤ 256) = True := eq_true (by decide +kernel)
@[go_sem] theorem t27_30_b : (bytesP Try.prog 30 ≤ 1024) = True := eq_true (by decide +kernel)
@[go_sem] theorem t27_31_h : hasP Try.prog 31 = true := by decide +kernel
@[go_sem] theorem t27_31_s : sizeP Try.prog 31 = 5 := by decide +kernel
@[go_sem] theorem t27_31_a : aggP Try.prog 31 = true := by decide +kernel
@[go_sem] theorem t27_31_z : zeroP Try.prog 31 = some [.int .i64 0, .int .i64 0, .int .i64 0, .int .i64 0, .int .i64 0] := _root_.id (by kernel_rfl)
@[go_sem] theorem t27_31_o : zeroOK Try.prog 31 = true := by decide +kernel
@[go_sem] theorem t27_31_i : zeroI Try.prog 31 = some (.agg [.int .i64 0, .int .i64 0, .int .i64 0, .int .i64 0, .int .i64 0]) := _root_.id (by kernel_rfl)
@[go_sem] theorem t27_31_y : (((Try.prog.info? 31).map (·.bytes)).getD 0 ≤ 256) = True := eq_true (by decide +kernel)
@[go_sem] theorem t27_31_b : (bytesP Try.prog 31 ≤ 1024) = True := eq_true (by decide +kernel)
@[go_sem] theorem t27_31_f : flatP Try.prog 31 = some [.int .i64, .int .i64, .int .i64, .int .i64, .int .i64] := flat_of (by decide +kernel)
@[go_sem] theorem t27_31_k : keyK Try.prog 31 = some [.int .i64, .int .i64, .int .i64, .int .i64, .int .i64] := key_of (by decide +kernel)
@[go_sem] theorem t27_32_h : hasP Try.prog 32 = true := by decide +kernel
@[go_sem] theorem t27_32_s : sizeP Try.prog 32 = 5 := by decide +kernel
@[go_sem] theorem t27_32_a : aggP Try.prog 32 = true := by decide +kernel
@[go_sem] theorem t27_32_z : zeroP Try.prog 32 = some [.int .i64 0, .int .i64 0, .int .i64 0, .int .i64 0, .int .i64 0] := _root_.id (by kernel_rfl)
@[go_sem] theorem t27_32_o : zeroOK Try.prog 32 = true := by decide +kernel
@[go_sem] theorem t27_32_i : zeroI Try.prog 32 = some (.agg [.int .i64 0, .int .i64 0, .int .i64 0, .int .i64 0, .int .i64 0]) := _root_.id (by kernel_rfl)
@[go_sem] theorem t27_32_y : (((Try.prog.info? 32).map (·.bytes)).getD 0 ≤ 256) = True := eq_true (by decide +kernel)
@[go_sem] theorem t27_32_b : (bytesP Try.prog 32 ≤ 1024) = True := eq_true (by decide +kernel)
@[go_sem] theorem t27_32_f : flatP Try.prog 32 = some [.int .i64, .int .i64, .int .i64, .int .i64, .int .i64] := flat_of (by decide +kernel)
@[go_sem] theorem t27_32_k : keyK Try.prog 32 = some [.int .i64, .int .i64, .int .i64, .int .i64, .int .i64] := key_of (by decide +kernel)
@[go_sem] theorem t27_34_h : hasP Try.prog 34 = true := by decide +kernel
@[go_sem] theorem t27_34_s : sizeP Try.prog 34 = 1 := by decide +kernel
@[go_sem] theorem t27_34_a : aggP Try.prog 34 = false := by decide +kernel
@[go_sem] theorem t27_34_z : zeroP Try.prog 34 = some [.nilf] := _root_.id (by kernel_rfl)
@[go_sem] theorem t27_34_o : zeroOK Try.prog 34 = true := by decide +kernel
@[go_sem] theorem t27_34_i : zeroI Try.prog 34 = some (.nilf) := _root_.id (by kernel_rfl)
@[go_sem] theorem t27_34_y : (((Try.prog.info? 34).map (·.bytes)).getD 0 ≤ 256) = True := eq_true (by decide +kernel)
@[go_sem] theorem t27_34_b : (bytesP Try.prog 34 ≤ 1024) = True := eq_true (by decide +kernel)
@[go_sem] theorem t27_35_h : hasP Try.prog 35 = true := by decide +kernel
@[go_sem] theorem t27_35_s : sizeP Try.prog 35 = 1 := by decide +kernel
@[go_sem] theorem t27_35_a : aggP Try.prog 35 = false := by decide +kernel
@[go_sem] theorem t27_35_z : zeroP Try.prog 35 = some [.nilf] := _root_.id (by kernel_rfl)
@[go_sem] theorem t27_35_o : zeroOK Try.prog 35 = true := by decide +kernel
@[go_sem] theorem t27_35_i : zeroI Try.prog 35 = some (.nilf) := _root_.id (by kernel_rfl)
@[go_sem] theorem t27_35_y : (((Try.prog.info? 35).map (·.bytes)).getD 0 ≤ 256) = True := eq_true (by decide +kernel)
@[go_sem] theorem t27_35_b : (bytesP Try.prog 35 ≤ 1024) = True := eq_true (by decide +kernel)
@[go_sem] theorem t27_36_h : hasP Try.prog 36 = true := by decide +kernel
@[go_sem] theorem t27_36_s : sizeP Try.prog 36 = 1 := by decide +kernel
@[go_sem] theorem t27_36_a : aggP Try.prog 36 = false := by decide +kernel
@[go_sem] theorem t27_36_z : zeroP Try.prog 36 = some [.nilf] := _root_.id (by kernel_rfl)
@[go_sem] theorem t27_36_o : zeroOK Try.prog 36 = true := by decide +kernel
@[go_sem] theorem t27_36_i : zeroI Try.prog 36 = some (.nilf) := _root_.id (by kernel_rfl)
@[go_sem] theorem t27_36_y : (((Try.prog.info? 36).map (·.bytes)).getD 0 ≤ 256) = True := eq_true (by decide +kernel)
@[go_sem] theorem t27_36_b : (bytesP Try.prog 36 ≤ 1024) = True := eq_true (by decide +kernel)
@[go_sem] theorem t27_37_h : hasP Try.prog 37 = true := by decide +kernel
@[go_sem] theorem t27_37_s : sizeP Try.prog 37 = 1 := by decide +kernel
@[go_sem] theorem t27_37_a : aggP Try.prog 37 = false := by decide +kernel
@[go_sem] theorem t27_37_z : zeroP Try.prog 37 = some [.nilf] := _root_.id (by kernel_rfl)
@[go_sem] theorem t27_37_o : zeroOK Try.prog 37 = true := by decide +kernel
@[go_sem] theorem t27_37_i : zeroI Try.prog 37 = some (.nilf) := _root_.id (by kernel_rfl)
@[go_sem] theorem t27_37_y : (((Try.prog.info? 37).map (·.bytes)).getD 0 ≤ 256) = True := eq_true (by decide +kernel)
@[go_sem] theorem t27_37_b : (bytesP Try.prog 37 ≤ 1024) = True := eq_true (by decide +kernel)
@[go_sem] theorem t27_38_h : hasP Try.prog 38 = true := by decide +kernel
@[go_sem] theorem t27_38_s : sizeP Try.prog 38 = 1 := by decide +kernel
@[go_sem] theorem t27_38_a : aggP Try.prog 38 = false := by decide +kernel
@[go_sem] theorem t27_38_z : zeroP Try.prog 38 = some [.int .i64 0] := _root_.id (by kernel_rfl)
@[go_sem] theorem t27_38_o : zeroOK Try.prog 38 = true := by decide +kernel
@[go_sem] theorem t27_38_i : zeroI Try.prog 38 = some (.int .i64 0) := _root_.id (by kernel_rfl)
@[go_sem] theorem t27_38_y : (((Try.prog.info? 38).map (·.bytes)).getD 0 ≤ 256) = True := eq_true (by decide +kernel)
@[go_sem] theorem t27_38_b : (bytesP Try.prog 38 ≤ 1024) = True := eq_true (by decide +kernel)
@[go_sem] theorem t27_38_k : keyK Try.prog 38 = some [.int .i64] := key_of (by decide +kernel)
@[go_sem] theorem t27_40_h : hasP Try.prog 40 = true := by decide +kernel
@[go_sem] theorem t27_40_s : sizeP Try.prog 40 = 1 := by decide +kernel
@[go_sem] theorem t27_40_a : aggP Try.prog 40 = false := by decide +kernel
@[go_sem] theorem t27_40_z : zeroP Try.prog 40 = some [.nilf] := _root_.id (by kernel_rfl)
@[go_sem] theorem t27_40_o : zeroOK Try.prog 40 = true := by decide +kernel
@[go_sem] theorem t27_40_i : zeroI Try.prog 40 = some (.nilf) := _root_.id (by kernel_rfl)
@[go_sem] theorem t27_40_y : (((Try.prog.info? 40).map (·.bytes)).getD 0 ≤ 256) = True := eq_true (by decide +kernel)
@[go_sem] theorem t27_40_b : (bytesP Try.prog 40 ≤ 1024) = True := eq_true (by decide +kernel)
@[go_sem] theorem t27_41_h : hasP Try.prog 41 = true := by decide +kernel
@[go_sem] theorem t27_41_s : sizeP Try.prog 41 = 1 := by decide +kernel
@[go_sem] theorem t27_41_a : aggP Try.prog 41 = false := by decide +kernel
@[go_sem] theorem t27_41_z : zeroP Try.prog 41 = some [.nilf] := _root_.id (by kernel_rfl)
@[go_sem] theorem t27_41_o : zeroOK Try.prog 41 = true := by decide +kernel
@[go_sem] theorem t27_41_i : zeroI Try.prog 41 = some (.nilf) := _root_.id (by kernel_rfl)
@[go_sem] theorem t27_41_y : (((Try.prog.info? 41).map (·.bytes)).getD 0 ≤ 256) = True := eq_true (by decide +kernel)
@[go_sem] theorem t27_41_b : (bytesP Try.prog 41 ≤ 1024) = True := eq_true (by decide +kernel)
@[go_sem] theorem t27_42_h : hasP Try.prog 42 = true := by decide +kernel
@[go_sem] theorem t27_42_s : sizeP Try.prog 42 = 1 := by decide +kernel
@[go_sem] theorem t27_42_a : aggP Try.prog 42 = false := by decide +kernel
@[go_sem] theorem t27_42_z : zeroP Try.prog 42 = some [.nilf] := _root_.id (by kernel_rfl)
@[go_sem] theorem t27_42_o : zeroOK Try.prog 42 = true := by decide +kernel
@[go_sem] theorem t27_42_i : zeroI Try.prog 42 = some (.nilf) := _root_.id (by kernel_rfl)
@[go_sem] theorem t27_42_y : (((Try.prog.info? 42).map (·.bytes)).getD 0 ≤ 256) = True := eq_true (by decide +kernel)
@[go_sem] theorem t27_42_b : (bytesP Try.prog 42 ≤ 1024) = True := eq_true (by decide +kernel)
@[go_sem] theorem t27_44_h : hasP Try.prog 44 = true := by decide +kernel
@[go_sem] theorem t27_44_s : sizeP Try.prog 44 = 1 := by decide +kernel
@[go_sem] theorem t27_44_a : aggP Try.prog 44 = false := by decide +kernel
@[go_sem] theorem t27_44_z : zeroP Try.prog 44 = some [.nilf] := _root_.id (by kernel_rfl)
@[go_sem] theorem t27_44_o : zeroOK Try.prog 44 = true := by decide +kernel
@[go_sem] theorem t27_44_i : zeroI Try.prog 44 = some (.nilf) := _root_.id (by kernel_rfl)
@[go_sem] theorem t27_44_y : (((Try.prog.info? 44).map (·.bytes)).getD 0 ≤ 256) = True := eq_true (by decide +kernel)
@[go_sem] theorem t27_44_b : (bytesP Try.prog 44 ≤ 1024) = True := eq_true (by decide +kernel)
@[go_sem] theorem t27_45_h : hasP Try.prog 45 = true := by decide +kernel
@[go_sem] theorem t27_45_s : sizeP Try.prog 45 = 4 := by decide +kernel
@[go_sem] theorem t27_45_a : aggP Try.prog 45 = true := by decide +kernel
@[go_sem] theorem t27_45_z : zeroP Try.prog 45 = some [.int .i64 0, .int .i64 0, .int .u8 0, .int .i64 0] := _root_.id (by kernel_rfl)
@[go_sem] theorem t27_45_o : zeroOK Try.prog 45 = true := by decide +kernel
@[go_sem] theorem t27_45_i : zeroI Try.prog 45 = some (.agg [.int .i64 0, .int .i64 0, .int .u8 0, .int .i64 0]) := _root_.id (by kernel_rfl)
@[go_sem] theorem t27_45_y : (((Try.prog.info? 45).map (·.bytes)).getD 0 ≤ 256) = True := eq_true (by decide +kernel)
@[go_sem] theorem t27_45_b : (bytesP Try.prog 45 ≤ 1024) = True := eq_true (by decide +kernel)
@[go_sem] theorem t27_45_f : flatP Try.prog 45 = some [.int .i64, .int .i64, .int .u8, .int .i64] := flat_of (by decide +kernel)
@[go_sem] theorem t27_45_k : keyK Try.prog 45 = some [.int .i64, .int .i64, .int .u8, .int .i64] := key_of (by decide +kernel)
@[go_sem] theorem t27_46_h : hasP Try.prog 46 = true := by decide +kernel
@[go_sem] theorem t27_46_s : sizeP Try.prog 46 = 1 := by decide +kernel
@[go_sem] theorem t27_46_a : aggP Try.prog 46 = false := by decide +kernel
@[go_sem] theorem t27_46_z : zeroP Try.prog 46 = some [.nils] := _root_.id (by kernel_rfl)
@[go_sem] theorem t27_46_o : zeroOK Try.prog 46 = true := by decide +kernel
@[go_sem] theorem t27_46_i : zeroI Try.prog 46 = some (.nils) := _root_.id (by kernel_rfl)
@[go_sem] theorem t27_46_y : (((Try.prog.info? 46).map (·.bytes)).getD 0 ≤ 256) = True := eq_true (by decide +kernel)
@[go_sem] theorem t27_46_b : (bytesP Try.prog 46 ≤ 1024) = True := eq_true (by decide +kernel)
@[go_sem] theorem t27_47_h : hasP Try.prog 47 = true := by decide +kernel
@[go_sem] theorem t27_47_s : sizeP Try.prog 47 = 1 := by decide +kernel
@[go_sem] theorem t27_47_a : aggP Try.prog 47 = false := by decide +kernel
@[go_sem] theorem t27_47_z : zeroP Try.prog 47 = some [.nilf] := _root_.id (by kernel_rfl)
@[go_sem] theorem t27_47_o : zeroOK Try.prog 47 = true := by decide +kernel
@[go_sem] theorem t27_47_i : zeroI Try.prog 47 = some (.nilf) := _root_.id (by kernel_rfl)
@[go_sem] theorem t27_47_y : (((Try.prog.info? 47).map (·.bytes)).getD 0 ≤ 256) = True := eq_true (by decide +kernel)
@[go_sem] theorem t27_47_b : (bytesP Try.prog 47 ≤ 1024) = True := eq_true (by decide +kernel)
@[go_sem] theorem t27_48_h : hasP Try.prog 48 = true := by decide +kernel
@[go_sem] theorem t27_48_s : sizeP Try.prog 48 = 1 := by decide +kernel
@[go_sem] theorem t27_48_a : aggP Try.prog 48 = false := by decide +kernel
@[go_sem] theorem t27_48_z : zeroP Try.prog 48 = some [.nilf] := _root_.id (by kernel_rfl)
@[go_sem] theorem t27_48_o : zeroOK Try.prog 48 = true := by decide +kernel
@[go_sem] theorem t27_48_i : zeroI Try.prog 48 = some (.nilf) := _root_.id (by kernel_rfl)
@[go_sem] theorem t27_48_y : (((Try.prog.info? 48).map (·.bytes)).getD 0 ≤ 256) = True := eq_true (by decide +kernel)
@[go_sem] theorem t27_48_b : (bytesP Try.prog 48 ≤ 1024) = True := eq_true (by decide +kernel)
@[go_sem] theorem t27_49_h : hasP Try.prog 49 = true := by decide +kernel
@[go_sem] theorem t27_49_s : sizeP Try.prog 49 = 1 := by decide +kernel
@[go_sem] theorem t27_49_a : aggP Try.prog 49 = false := by decide +kernel
@[go_sem] theorem t27_49_z : zeroP Try.prog 49 = some [.nils] := _root_.id (by kernel_rfl)
@[go_sem] theorem t27_49_o : zeroOK Try.prog 49 = true := by decide +kernel
@[go_sem] theorem t27_49_i : zeroI Try.prog 49 = some (.nils) := _root_.id (by kernel_rfl)
@[go_sem] theorem t27_49_y : (((Try.prog.info? 49).map (·.bytes)).getD 0 ≤ 256) = True := eq_true (by decide +kernel)
@[go_sem] theorem t27_49_b : (bytesP Try.prog 49 ≤ 1024) = True := eq_true (by decide +kernel)
@[go_sem] theorem t27_50_h : hasP Try.prog 50 = true := by decide +kernel
@[go_sem] theorem t27_50_s : sizeP Try.prog 50 = 1 := by decide +kernel
@[go_sem] theorem t27_50_a : aggP Try.prog 50 = false := by decide +kernel
@[go_sem] theorem t27_50_z : zeroP Try.prog 50 = some [.nilf] := _root_.id (by kernel_rfl)
@[go_sem] theorem t27_50_o : zeroOK Try.prog 50 = true := by decide +kernel
@[go_sem] theorem t27_50_i : zeroI Try.prog 50 = some (.nilf) := _root_.id (by kernel_rfl)
@[go_sem] theorem t27_50_y : (((Try.prog.info? 50).map (·.bytes)).getD 0 ≤ 256) = True := eq_true (by decide +kernel)
@[go_sem] theorem t27_50_b : (bytesP Try.prog 50 ≤ 1024) = True := eq_true (by decide +kernel)
@[go_sem] theorem t27_51_h : hasP Try.prog 51 = true := by decide +kernel
@[go_sem] theorem t27_51_s : sizeP Try.prog 51 = 1 := by decide +kernel
@[go_sem] theorem t27_51_a : aggP Try.prog 51 = false := by decide +kernel
@[go_sem] theorem t27_51_z : zeroP Try.prog 51 = some [.nilf] := _root_.id (by kernel_rfl)
@[go_sem] theorem t27_51_o : zeroOK Try.prog 51 = true := by decide +kernel
@[go_sem] theorem t27_51_i : zeroI Try.prog 51 = some (.nilf) := _root_.id (by kernel_rfl)
@[go_sem] theorem t27_51_y : (((Try.prog.info? 51).map (·.bytes)).getD 0 ≤ 256) = True := eq_true (by decide +kernel)
@[go_sem] theorem t27_51_b : (bytesP Try.prog 51 ≤ 1024) = True := eq_true (by decide +kernel)
@[go_sem] theorem t27_52_h : hasP Try.prog 52 = true := by decide +kernel
@[go_sem] theorem t27_52_s : sizeP Try.prog 52 = 1 := by decide +kernel
@[go_sem] theorem t27_52_a : aggP Try.prog 52 = false := by decide +kernel
@[go_sem] theorem t27_52_z : zeroP Try.prog 52 = some [.nilf] := _root_.id (by kernel_rfl)
@[go_sem] theorem t27_52_o : zeroOK Try.prog 52 = true := by decide +kernel
@[go_sem] theorem t27_52_i : zeroI Try.prog 52 = some (.nilf) := _root_.id (by kernel_rfl)
@[go_sem] theorem t27_52_y : (((Try.prog.info? 52).map (·.bytes)).getD 0 ≤ 256) = True := eq_true (by decide +kernel)
@[go_sem] theorem t27_52_b : (bytesP Try.prog 52 ≤ 1024) = True := eq_true (by decide +kernel)
@[go_sem] theorem t27_53_h : hasP Try.prog 53 = true := by decide +kernel
@[go_sem] theorem t27_53_s : sizeP Try.prog 53 = 1 := by decide +kernel
@[go_sem] theorem t27_53_a : aggP Try.prog 53 = false := by decide +kernel
@[go_sem] theorem t27_53_z : zeroP Try.prog 53 = some [.nilf] := _root_.id (by kernel_rfl)
@[go_sem] theorem t27_53_o : zeroOK Try.prog 53 = true := by decide +kernel
@[go_sem] theorem t27_53_i : zeroI Try.prog 53 = some (.nilf) := _root_.id (by kernel_rfl)
@[go_sem] theorem t27_53_y : (((Try.prog.info? 53).map (·.bytes)).getD 0 ≤ 256) = True := eq_true (by decide +kernel)
@[go_sem] theorem t27_53_b : (bytesP Try.prog 53 ≤ 1024) = True := eq_true (by decide +kernel)
@[go_sem] theorem t27_54_h : hasP Try.prog 54 = true := by decide +kernel
@[go_sem] theorem t27_54_s : sizeP Try.prog 54 = 2 := by decide +kernel
@[go_sem] theorem t27_54_a : aggP Try.prog 54 = true := by decide +kernel
@[go_sem] theorem t27_54_z : zeroP Try.prog 54 = some [.int .i64 0, .int .i64 0] := _root_.id (by kernel_rfl)
@[go_sem] theorem t27_54_o : zeroOK Try.prog 54 = true := by decide +kernel
@[go_sem] theorem t27_54_i : zeroI Try.prog 54 = some (.agg [.int .i64 0, .int .i64 0]) := _root_.id (by kernel_rfl)
@[go_sem] theorem t27_54_y : (((Try.prog.info? 54).map (·.bytes)).getD 0 ≤ 256) = True := eq_true (by decide +kernel)
@[go_sem] theorem t27_54_b : (bytesP Try.prog 54 ≤ 1024) = True := eq_true (by decide +kernel)
@[go_sem] theorem t27_54_f : flatP Try.prog 54 = some [.int .i64, .int .i64] := flat_of (by decide +kernel)
@[go_sem] theorem t27_54_k : keyK Try.prog 54 = some [.int .i64, .int .i64] := key_of (by decide +kernel)
@[go_sem] theorem t27_55_h : hasP Try.prog 55 = true := by decide +kernel
@[go_sem] theorem t27_55_s : sizeP Try.prog 55 = 1 := by decide +kernel
@[go_sem] theorem t27_55_a : aggP Try.prog 55 = false := by decide +kernel
@[go_sem] theorem t27_55_z : zeroP Try.prog 55 = some [.nilf] := _root_.id (by kernel_rfl)
@[go_sem] theorem t27_55_o : zeroOK Try.prog 55 = true := by decide +kernel
@[go_sem] theorem t27_55_i : zeroI Try.prog 55 = some (.nilf) := _root_.id (by kernel_rfl)
@[go_sem] theorem t27_55_y : (((Try.prog.info? 55).map (·.bytes)).getD 0 ≤ 256) = True := eq_true (by decide +kernel)
@[go_sem] theorem t27_55_b : (bytesP Try.prog 55 ≤ 1024) = True := eq_true (by decide +kernel)
@[go_sem] theorem t27_57_h : hasP Try.prog 57 = true := by decide +kernel
@[go_sem] theorem t27_57_s : sizeP Try.prog 57 = 1 := by decide +kernel
@[go_sem] theorem t27_57_a : aggP Try.prog 57 = false := by decide +kernel
@[go_sem] theorem t27_57_z : zeroP Try.prog 57 = some [.nilf] := _root_.id (by kernel_rfl)
@[go_sem] theorem t27_57_o : zeroOK Try.prog 57 = true := by decide +kernel
@[go_sem] theorem t27_57_i : zeroI Try.prog 57 = some (.nilf) := _root_.id (by kernel_rfl)
@[go_sem] theorem t27_57_y : (((Try.prog.info? 57).map (·.bytes)).getD 0 ≤ 256) = True := eq_true (by decide +kernel)
@[go_sem] theorem t27_57_b : (bytesP Try.prog 57 ≤ 1024) = True := eq_true (by decide +kernel)
@[go_sem] theorem t27_58_h : hasP Try.prog 58 = true := by decide +kernel
@[go_sem] theorem t27_58_s : sizeP Try.prog 58 = 1 := by decide +kernel
@[go_sem] theorem t27_58_a : aggP Try.prog 58 = false := by decide +kernel
@[go_sem] theorem t27_58_z : zeroP Try.prog 58 = some [.nilf] := _root_.id (by kernel_rfl)
@[go_sem] theorem t27_58_o : zeroOK Try.prog 58 = true := by decide +kernel
@[go_sem] theorem t27_58_i : zeroI Try.prog 58 = some (.nilf) := _root_.id (by kernel_rfl)
@[go_sem] theorem t27_58_y : (((Try.prog.info? 58).map (·.bytes)).getD 0 ≤ 256) = True := eq_true (by decide +kernel)
@[go_sem] theorem t27_58_b : (bytesP Try.prog 58 ≤ 1024) = True := eq_true (by decide +kernel)
@[go_sem] theorem t27_59_h : hasP Try.prog 59 = true := by decide +kernel
@[go_sem] theorem t27_59_s : sizeP Try.prog 59 = 1 := by decide +kernel
@[go_sem] theorem t27_59_a : aggP Try.prog 59 = false := by decide +kernel
@[go_sem] theorem t27_59_z : zeroP Try.prog 59 = some [.nilf] := _root_.id (by kernel_rfl)
@[go_sem] theorem t27_59_o : zeroOK Try.prog 59 = true := by decide +kernel
@[go_sem] theorem t27_59_i : zeroI Try.prog 59 = some (.nilf) := _root_.id (by kernel_rfl)
@[go_sem] theorem t27_59_y : (((Try.prog.info? 59).map (·.bytes)).getD 0 ≤ 256) = True := eq_true (by decide +kernel)
@[go_sem] theorem t27_59_b : (bytesP Try.prog 59 ≤ 1024) = True := eq_true (by decide +kernel)
@[go_sem] theorem t27_60_h : hasP Try.prog 60 = true := by decide +kernel
@[go_sem] theorem t27_60_s : sizeP Try.prog 60 = 1 := by decide +kernel
@[go_sem] theorem t27_60_a : aggP Try.prog 60 = false := by decide +kernel
@[go_sem] theorem t27_60_z : zeroP Try.prog 60 = some [.nilf] := _root_.id (by kernel_rfl)
@[go_sem] theorem t27_60_o : zeroOK Try.prog 60 = true := by decide +kernel
@[go_sem] theorem t27_60_i : zeroI Try.prog 60 = some (.nilf) := _root_.id (by kernel_rfl)
@[go_sem] theorem t27_60_y : (((Try.prog.info? 60).map (·.bytes)).getD 0 ≤ 256) = True := eq_true (by decide +kernel)
@[go_sem] theorem t27_60_b : (bytesP Try.prog 60 ≤ 1024) = True := eq_true (by decide +kernel)
@[go_sem] theorem t27_61_h : hasP Try.prog 61 = true := by decide +kernel
@[go_sem] theorem t27_61_s : sizeP Try.prog 61 = 1 := by decide +kernel
@[go_sem] theorem t27_61_a : aggP Try.prog 61 = false := by decide +kernel
@[go_sem] theorem t27_61_z : zeroP Try.prog 61 = some [.nils] := _root_.id (by kernel_rfl)
@[go_sem] theorem t27_61_o : zeroOK Try.prog 61 = true := by decide +kernel
@[go_sem] theorem t27_61_i : zeroI Try.prog 61 = some (.nils) := _root_.id (by kernel_rfl)
@[go_sem] theorem t27_61_y : (((Try.prog.info? 61).map (·.bytes)).getD 0 ≤ 256) = True := eq_true (by decide +kernel)
@[go_sem] theorem t27_61_b : (bytesP Try.prog 61 ≤ 1024) = True := eq_true (by decide +kernel)
@[go_sem] theorem t27_62_h : hasP Try.prog 62 = true := by decide +kernel
@[go_sem] theorem t27_62_s : sizeP Try.prog 62 = 1 := by decide +kernel
@[go_sem] theorem t27_62_a : aggP Try.prog 62 = false := by decide +kernel
@[go_sem] theorem t27_62_z : zeroP Try.prog 62 = some [.nilf] := _root_.id (by kernel_rfl)
@[go_sem] theorem t27_62_o : zeroOK Try.prog 62 = true := by decide +kernel
@[go_sem] theorem t27_62_i : zeroI Try.prog 62 = some (.nilf) := _root_.id (by kernel_rfl)
@[go_sem] theorem t27_62_y : (((Try.prog.info? 62).map (·.bytes)).getD 0 ≤ 256) = True := eq_true (by decide +kernel)
@[go_sem] theorem t27_62_b : (bytesP Try.prog 62 ≤ 1024) = True := eq_true (by decide +kernel)
@[go_sem] theorem t27_63_h : hasP Try.prog 63 = true := by decide +kernel
@[go_sem] theorem t27_63_s : sizeP Try.prog 63 = 1 := by decide +kernel
@[go_sem] theorem t27_63_a : aggP Try.prog 63 = false := by decide +kernel
@[go_sem] theorem t27_63_z : zeroP Try.prog 63 = some [.nilf] := _root_.id (by kernel_rfl)
@[go_sem] theorem t27_63_o : zeroOK Try.prog 63 = true := by decide +kernel
@[go_sem] theorem t27_63_i : zeroI Try.prog 63 = some (.nilf) := _root_.id (by kernel_rfl)
@[go_sem] theorem t27_63_y : (((Try.prog.info? 63).map (·.bytes)).getD 0 ≤ 256) = True := eq_true (by decide +kernel)
@[go_sem] theorem t27_63_b : (bytesP Try.prog 63 ≤ 1024) = True := eq_true (by decide +kernel)
@[go_sem] theorem t27_64_h : hasP Try.prog 64 = true := by decide +kernel
@[go_sem] theorem t27_64_s : sizeP Try.prog 64 = 1 := by decide +kernel
@[go_sem] theorem t27_64_a : aggP Try.prog 64 = false := by decide +kernel
@[go_sem] theorem t27_64_z : zeroP Try.prog 64 = some [.nils] := _root_.id (by kernel_rfl)
@[go_sem] theorem t27_64_o : zeroOK Try.prog 64 = true := by decide +kernel
@[go_sem] theorem t27_64_i : zeroI Try.prog 64 = some (.nils) := _root_.id (by kernel_rfl)
@[go_sem] theorem t27_64_y : (((Try.prog.info? 64).map (·.bytes)).getD 0 ≤ 256) = True := eq_true (by decide +kernel)
@[go_sem] theorem t27_64_b : (bytesP Try.prog 64 ≤ 1024) = True := eq_true (by decide +kernel)
@[go_sem] theorem t27_65_h : hasP Try.prog 65 = true := by decide +kernel
@[go_sem] theorem t27_65_s : sizeP Try.prog 65 = 1 := by decide +kernel
@[go_sem] theorem t27_65_a : aggP Try.prog 65 = false := by decide +kernel
@[go_sem] theorem t27_65_z : zeroP Try.prog 65 = some [.nilm] := _root_.id (by kernel_rfl)
@[go_sem] theorem t27_65_o : zeroOK Try.prog 65 = true := by decide +kernel
@[go_sem] theorem t27_65_i : zeroI Try.prog 65 = some (.nilm) := _root_.id (by kernel_rfl)
@[go_sem] theorem t27_65_y : (((Try.prog.info? 65).map (·.bytes)).getD 0 ≤ 256) = True := eq_true (by decide +kernel)
@[go_sem] theorem t27_65_b : (bytesP Try.prog 65 ≤ 1024) = True := eq_true (by decide +kernel)
@[go_sem] theorem t27_66_h : hasP Try.prog 66 = true := by decide +kernel
@[go_sem] theorem t27_66_s : sizeP Try.prog 66 = 1 := by decide +kernel
@[go_sem] theorem t27_66_a : aggP Try.prog 66 = false := by decide +kernel
@[go_sem] theorem t27_66_z : zeroP Try.prog 66 = some [.nilf] := _root_.id (by kernel_rfl)
@[go_sem] theorem t27_66_o : zeroOK Try.prog 66 = true := by decide +kernel
@[go_sem] theorem t27_66_i : zeroI Try.prog 66 = some (.nilf) := _root_.id (by kernel_rfl)
@[go_sem] theorem t27_66_y : (((Try.prog.info? 66).map (·.bytes)).getD 0 ≤ 256) = True := eq_true (by decide +kernel)
@[go_sem] theorem t27_66_b : (bytesP Try.prog 66 ≤ 1024) = True := eq_true (by decide +kernel)
@[go_sem] theorem t27_67_h : hasP Try.prog 67 = true := by decide +kernel
@[go_sem] theorem t27_67_s : sizeP Try.prog 67 = 4 := by decide +kernel
@[go_sem] theorem t27_67_a : aggP Try.prog 67 = true := by decide +kernel
@[go_sem] theorem t27_67_z : zeroP Try.prog 67 = some [.int .i64 0, .int .i64 0, .int .i64 0, .bool false] := _root_.id (by kernel_rfl)
@[go_sem] theorem t27_67_o : zeroOK Try.prog 67 = true := by decide +kernel
@[go_sem] theorem t27_67_i : zeroI Try.prog 67 = some (.agg [.int .i64 0, .int .i64 0, .int .i64 0, .bool false]) := _root_.id (by kernel_rfl)
@[go_sem] theorem t27_67_y : (((Try.prog.info? 67).map (·.bytes)).getD 0 ≤ 256) = True := eq_true (by decide +kernel)
@[go_sem] theorem t27_67_b : (bytesP Try.prog 67 ≤ 1024) = True := eq_true (by decide +kernel)
@[go_sem] theorem t27_67_f : flatP Try.prog 67 = some [.int .i64, .int .i64, .int .i64, .bool] := flat_of (by decide +kernel)
@[go_sem] theorem t27_67_k : keyK Try.prog 67 = some [.int .i64, .int .i64, .int .i64, .bool] := key_of (by decide +kernel)
@[go_sem] theorem t27_68_h : hasP Try.prog 68 = true := by decide +kernel
@[go_sem] theorem t27_68_s : sizeP Try.prog 68 = 4 := by decide +kernel
@[go_sem] theorem t27_68_a : aggP Try.prog 68 = true := by decide +kernel
@[go_sem] theorem t27_68_z : zeroP Try.prog 68 = some [.int .i64 0, .int .i64 0, .int .i64 0, .bool false] := _root_.id (by kernel_rfl)
@[go_sem] theorem t27_68_o : zeroOK Try.prog 68 = true := by decide +kernel
@[go_sem] theorem t27_68_i : zeroI Try.prog 68 = some (.agg [.int .i64 0, .int .i64 0, .int .i64 0, .bool false]) := _root_.id (by kernel_rfl)
@[go_sem] theorem t27_68_y : (((Try.prog.info? 68).map (·.bytes)).getD 0 ≤ 256) = True := eq_true (by decide +kernel)
@[go_sem] theorem t27_68_b : (bytesP Try.prog 68 ≤ 1024) = True := eq_true (by decide +kernel)
@[go_sem] theorem t27_68_f : flatP Try.prog 68 = some [.int .i64, .int .i64, .int .i64, .bool] := flat_of (by decide +kernel)
@[go_sem] theorem t27_68_k : keyK Try.prog 68 = some [.int .i64, .int .i64, .int .i64, .bool] := key_of (by decide +kernel)
@[go_sem] theorem t27_70_h : hasP Try.prog 70 = true := by decide +kernel
@[go_sem] theorem t27_70_s : sizeP Try.prog 70 = 1 := by decide +kernel
@[go_sem] theorem t27_70_a : aggP Try.prog 70 = false := by decide +kernel
@[go_sem] theorem t27_70_z : zeroP Try.prog 70 = some [.nilf] := _root_.id (by kernel_rfl)
@[go_sem] theorem t27_70_o : zeroOK Try.prog 70 = true := by decide +kernel
@[go_sem] theorem t27_70_i : zeroI Try.prog 70 = some (.nilf) := _root_.id (by kernel_rfl)
@[go_sem] theorem t27_70_y : (((Try.prog.info? 70).map (·.bytes)).getD 0 ≤ 256) = True := eq_true (by decide +kernel)
@[go_sem] theorem t27_70_b : (bytesP Try.prog 70 ≤ 1024) = True := eq_true (by decide +kernel)
@[go_sem] theorem t27_71_h : hasP Try.prog 71 = true := by decide +kernel
@[go_sem] theorem t27_71_s : sizeP Try.prog 71 = 1 := by decide +kernel
@[go_sem] theorem t27_71_a : aggP Try.prog 71 = false := by decide +kernel
@[go_sem] theorem t27_71_z : zeroP Try.prog 71 = some [.nilf] := _root_.id (by kernel_rfl)
@[go_sem] theorem t27_71_o : zeroOK Try.prog 71 = true := by decide +kernel
@[go_sem] theorem t27_71_i : zeroI Try.prog 71 = some (.nilf) := _root_.id (by kernel_rfl)
@[go_sem] theorem t27_71_y : (((Try.prog.info? 71).map (·.bytes)).getD 0 ≤ 256) = True := eq_true (by decide +kernel)
@[go_sem] theorem t27_71_b : (bytesP Try.prog 71 ≤ 1024) = True := eq_true (by decide +kernel)
@[go_sem] theorem t27_72_h : hasP Try.prog 72 = true := by decide +kernel
@[go_sem] theorem t27_72_s : sizeP Try.prog 72 = 1 := by decide +kernel
@[go_sem] theorem t27_72_a : aggP Try.prog 72 = false := by decide +kernel
@[go_sem] theorem t27_72_z : zeroP Try.prog 72 = some [.nilm] := _root_.id (by kernel_rfl)
@[go_sem] theorem t27_72_o : zeroOK Try.prog 72 = true := by decide +kernel
@[go_sem] theorem t27_72_i : zeroI Try.prog 72 = some (.nilm) := _root_.id (by kernel_rfl)
@[go_sem] theorem t27_72_y : (((Try.prog.info? 72).map (·.bytes)).getD 0 ≤ 256) = True := eq_true (by decide +kernel)
@[go_sem] theorem t27_72_b : (bytesP Try.prog 72 ≤ 1024) = True := eq_true (by decide +kernel)
@[go_sem] theorem t27_73_h : hasP Try.prog 73 = true := by decide +kernel
@[go_sem] theorem t27_73_s : sizeP Try.prog 73 = 1 := by decide +kernel
@[go_sem] theorem t27_73_a : aggP Try.prog 73 = false := by decide +kernel
@[go_sem] theorem t27_73_z : zeroP Try.prog 73 = some [.nilf] := _root_.id (by kernel_rfl)
@[go_sem] theorem t27_73_o : zeroOK Try.prog 73 = true := by decide +kernel
@[go_sem] theorem t27_73_i : zeroI Try.prog 73 = some (.nilf) := _root_.id (by kernel_rfl)
@[go_sem] theorem t27_73_y : (((Try.prog.info? 73).map (·.bytes)).getD 0 ≤ 256) = True := eq_true (by decide +kernel)
@[go_sem] theorem t27_73_b : (bytesP Try.prog 73 ≤ 1024) = True := eq_true (by decide +kernel)
@[go_sem] theorem t27_74_h : hasP Try.prog 74 = true := by decide +kernel
@[go_sem] theorem t27_74_s : sizeP Try.prog 74 = 1 := by decide +kernel
@[go_sem] theorem t27_74_a : aggP Try.prog 74 = false := by decide +kernel
@[go_sem] theorem t27_74_z : zeroP Try.prog 74 = some [.nilf] := _root_.id (by kernel_rfl)
@[go_sem] theorem t27_74_o : zeroOK Try.prog 74 = true := by decide +kernel
@[go_sem] theorem t27_74_i : zeroI Try.prog 74 = some (.nilf) := _root_.id (by kernel_rfl)
@[go_sem] theorem t27_74_y : (((Try.prog.info? 74).map (·.bytes)).getD 0 ≤ 256) = True := eq_true (by decide +kernel)
@[go_sem] theorem t27_74_b : (bytesP Try.prog 74 ≤ 1024) = True := eq_true (by decide +kernel)
@[go_sem] theorem t27_75_h : hasP Try.prog 75 = true := by decide +kernel
@[go_sem] theorem t27_75_s : sizeP Try.prog 75 = 1 := by decide +kernel
@[go_sem] theorem t27_75_a : aggP Try.prog 75 = false := by decide +kernel
@[go_sem] theorem t27_75_z : zeroP Try.prog 75 = some [.nilf] := _root_.id (by kernel_rfl)
@[go_sem] theorem t27_75_o : zeroOK Try.prog 75 = true := by decide +kernel
@[go_sem] theorem t27_75_i : zeroI Try.prog 75 = some (.nilf) := _root_.id (by kernel_rfl)
@[go_sem] theorem t27_75_y : (((Try.prog.info? 75).map (·.bytes)).getD 0 ≤ 256) = True := eq_true (by decide +kernel)
@[go_sem] theorem t27_75_b : (bytesP Try.prog 75 ≤ 1024) = True := eq_true (by decide +kernel)
@[go_sem] theorem t27_76_h : hasP Try.prog 76 = true := by decide +kernel
@[go_sem] theorem t27_76_s : sizeP Try.prog 76 = 1 := by decide +kernel
@[go_sem] theorem t27_76_a : aggP Try.prog 76 = false := by decide +kernel
@[go_sem] theorem t27_76_z : zeroP Try.prog 76 = some [.nilf] := _root_.id (by kernel_rfl)
@[go_sem] theorem t27_76_o : zeroOK Try.prog 76 = true := by decide +kernel
@[go_sem] theorem t27_76_i : zeroI Try.prog 76 = some (.nilf) := _root_.id (by kernel_rfl)
@[go_sem] theorem t27_76_y : (((Try.prog.info? 76).map (·.bytes)).getD 0 ≤ 256) = True := eq_true (by decide +kernel)
@[go_sem] theorem t27_76_b : (bytesP Try.prog 76 ≤ 1024) = True := eq_true (by decide +kernel)
@[go_sem] theorem t27_77_h : hasP Try.prog 77 = true := by decide +kernel
@[go_sem] theorem t27_77_s : sizeP Try.prog 77 = 1 := by decide +kernel
@[go_sem] theorem t27_77_a : aggP Try.prog 77 = false := by decide +kernel
@[go_sem] theorem t27_77_z : zeroP Try.prog 77 = some [.nilf] := _root_.id (by kernel_rfl)
@[go_sem] theorem t27_77_o : zeroOK Try.prog 77 = true := by decide +kernel
@[go_sem] theorem t27_77_i : zeroI Try.prog 77 = some (.nilf) := _root_.id (by kernel_rfl)
@[go_sem] theorem t27_77_y : (((Try.prog.info? 77).map (·.bytes)).getD 0 ≤ 256) = True := eq_true (by decide +kernel)
@[go_sem] theorem t27_77_b : (bytesP Try.prog 77 ≤ 1024) = True := eq_true (by decide +kernel)
@[go_sem] theorem t27_78_h : hasP Try.prog 78 = true := by decide +kernel
@[go_sem] theorem t27_78_s : sizeP Try.prog 78 = 1 := by decide +kernel
@[go_sem] theorem t27_78_a : aggP Try.prog 78 = false := by decide +kernel
@[go_sem] theorem t27_78_z : zeroP Try.prog 78 = some [.nilf] := _root_.id (by kernel_rfl)
@[go_sem] theorem t27_78_o : zeroOK Try.prog 78 = true := by decide +kernel
@[go_sem] theorem t27_78_i : zeroI Try.prog 78 = some (.nilf) := _root_.id (by kernel_rfl)
@[go_sem] theorem t27_78_y : (((Try.prog.info? 78).map (·.bytes)).getD 0 ≤ 256) = True := eq_true (by decide +kernel)
@[go_sem] theorem t27_78_b : (bytesP Try.prog 78 ≤ 1024) = True := eq_true (by decide +kernel)
@[go_sem] theorem t27_79_h : hasP Try.prog 79 = true := by decide +kernel
@[go_sem] theorem t27_79_s : sizeP Try.prog 79 = 1 := by decide +kernel
@[go_sem] theorem t27_79_a : aggP Try.prog 79 = false := by decide +kernel
@[go_sem] theorem t27_79_z : zeroP Try.prog 79 = some [.nilm] := _root_.id (by kernel_rfl)
@[go_sem] theorem t27_79_o : zeroOK Try.prog 79 = true := by decide +kernel
@[go_sem] theorem t27_79_i : zeroI Try.prog 79 = some (.nilm) := _root_.id (by kernel_rfl)
@[go_sem] theorem t27_79_y : (((Try.prog.info? 79).map (·.bytes)).getD 0 ≤ 256) = True := eq_true (by decide +kernel)
@[go_sem] theorem t27_79_b : (bytesP Try.prog 79 ≤ 1024) = True := eq_true (by decide +kernel)
@[go_sem] theorem t27_80_h : hasP Try.prog 80 = true := by decide +kernel
@[go_sem] theorem t27_80_s : sizeP Try.prog 80 = 1 := by decide +kernel
@[go_sem] theorem t27_80_a : aggP Try.prog 80 = false := by decide +kernel
@[go_sem] theorem t27_80_z : zeroP Try.prog 80 = some [.nilf] := _root_.id (by kernel_rfl)
@[go_sem] theorem t27_80_o : zeroOK Try.prog 80 = true := by decide +kernel
@[go_sem] theorem t27_80_i : zeroI Try.prog 80 = some (.nilf) := _root_.id (by kernel_rfl)
@[go_sem] theorem t27_80_y : (((Try.prog.info? 80).map (·.bytes)).getD 0 ≤ 256) = True := eq_true (by decide +kernel)
@[go_sem] theorem t27_80_b : (bytesP Try.prog 80 ≤ 1024) = True := eq_true (by decide +kernel)
@[go_sem] theorem t27_81_h : hasP Try.prog 81 = true := by decide +kernel
@[go_sem] theorem t27_81_s : sizeP Try.prog 81 = 1 := by decide +kernel
@[go_sem] theorem t27_81_a : aggP Try.prog 81 = false := by decide +kernel
@[go_sem] theorem t27_81_z : zeroP Try.prog 81 = some [.nilf] := _root_.id (by kernel_rfl)
@[go_sem] theorem t27_81_o : zeroOK Try.prog 81 = true := by decide +kernel
@[go_sem] theorem t27_81_i : zeroI Try.prog 81 = some (.nilf) := _root_.id (by kernel_rfl)
@[go_sem] theorem t27_81_y : (((Try.prog.info? 81).map (·.bytes)).getD 0 ≤ 256) = True := eq_true (by decide +kernel)
@[go_sem] theorem t27_81_b : (bytesP Try.prog 81 ≤ 1024) = True := eq_true (by decide +kernel)
@[go_sem] theorem t27_82_h : hasP Try.prog 82 = true := by decide +kernel
@[go_sem] theorem t27_82_s : sizeP Try.prog 82 = 1 := by decide +kernel
@[go_sem] theorem t27_82_a : aggP Try.prog 82 = false := by decide +kernel
@[go_sem] theorem t27_82_z : zeroP Try.prog 82 = some [.nilf] := _root_.id (by kernel_rfl)
@[go_sem] theorem t27_82_o : zeroOK Try.prog 82 = true := by decide +kernel
@[go_sem] theorem t27_82_i : zeroI Try.prog 82 = some (.nilf) := _root_.id (by kernel_rfl)
@[go_sem] theorem t27_82_y : (((Try.prog.info? 82).map (·.bytes)).getD 0 ≤ 256) = True := eq_true (by decide +kernel)
@[go_sem] theorem t27_82_b : (bytesP Try.prog 82 ≤ 1024) = True := eq_true (by decide +kernel)
@[go_sem] theorem t27_83_h : hasP Try.prog 83 = true := by decide +kernel
@[go_sem] theorem t27_83_s : sizeP Try.prog 83 = 1 := by decide +kernel
@[go_sem] theorem t27_83_a : aggP Try.prog 83 = false := by decide +kernel
@[go_sem] theorem t27_83_z : zeroP Try.prog 83 = some [.nilf] := _root_.id (by kernel_rfl)
@[go_sem] theorem t27_83_o : zeroOK Try.prog 83 = true := by decide +kernel
@[go_sem] theorem t27_83_i : zeroI Try.prog 83 = some (.nilf) := _root_.id (by kernel_rfl)
@[go_sem] theorem t27_83_y : (((Try.prog.info? 83).map (·.bytes)).getD 0 ≤ 256) = True := eq_true (by decide +kernel)
@[go_sem] theorem t27_83_b : (bytesP Try.prog 83 ≤ 1024) = True := eq_true (by decide +kernel)
@[go_sem] theorem t27_84_h : hasP Try.prog 84 = true := by decide +kernel
@[go_sem] theorem t27_84_s : sizeP Try.prog 84 = 1 := by decide +kernel
@[go_sem] theorem t27_84_a : aggP Try.prog 84 = false := by decide +kernel
@[go_sem] theorem t27_84_z : zeroP Try.prog 84 = some [.nilf] := _root_.id (by kernel_rfl)
@[go_sem] theorem t27_84_o : zeroOK Try.prog 84 = true := by decide +kernel
@[go_sem] theorem t27_84_i : zeroI Try.prog 84 = some (.nilf) := _root_.id (by kernel_rfl)
@[go_sem] theorem t27_84_y : (((Try.prog.info? 84).map (·.bytes)).getD 0 ≤ 256) = True := eq_true (by decide +kernel)
@[go_sem] theorem t27_84_b : (bytesP Try.prog 84 ≤ 1024) = True := eq_true (by decide +kernel)
@[go_sem] theorem t27_85_h : hasP Try.prog 85 = true := by decide +kernel
@[go_sem] theorem t27_85_s : sizeP Try.prog 85 = 1 := by decide +kernel
@[go_sem] theorem t27_85_a : aggP Try.prog 85 = false := by decide +kernel
@[go_sem] theorem t27_85_z : zeroP Try.prog 85 = some [.nilf] := _root_.id (by kernel_rfl)
@[go_sem] theorem t27_85_o : zeroOK Try.prog 85 = true := by decide +kernel
@[go_sem] theorem t27_85_i : zeroI Try.prog 85 = some (.nilf) := _root_.id (by kernel_rfl)
@[go_sem] theorem t27_85_y : (((Try.prog.info? 85).map (·.bytes)).getD 0 ≤ 256) = True := eq_true (by decide +kernel)
@[go_sem] theorem t27_85_b : (bytesP Try.prog 85 ≤ 1024) = True := eq_true (by decide +kernel)
@[go_sem] theorem t27_86_h : hasP Try.prog 86 = true := by decide +kernel
@[go_sem] theorem t27_86_s : sizeP Try.prog 86 = 1 := by decide +kernel
@[go_sem] theorem t27_86_a : aggP Try.prog 86 = false := by decide +kernel
@[go_sem] theorem t27_86_z : zeroP Try.prog 86 = some [.nilf] := _root_.id (by kernel_rfl)
@[go_sem] theorem t27_86_o : zeroOK Try.prog 86 = true := by decide +kernel
@[go_sem] theorem t27_86_i : zeroI Try.prog 86 = some (.nilf) := _root_.id (by kernel_rfl)
@[go_sem] theorem t27_86_y : (((Try.prog.info? 86).map (·.bytes)).getD 0 ≤ 256) = True := eq_true (by decide +kernel)
@[go_sem] theorem t27_86_b : (bytesP Try.prog 86 ≤ 1024) = True := eq_true (by decide +kernel)
@[go_sem] theorem t27_87_h : hasP Try.prog 87 = true := by decide +kernel
@[go_sem] theorem t27_87_s : sizeP Try.prog 87 = 1 := by decide +kernel
@[go_sem] theorem t27_87_a : aggP Try.prog 87 = false := by decide +kernel
@[go_sem] theorem t27_87_z : zeroP Try.prog 87 = some [.nilf] := _root_.id (by kernel_rfl)
@[go_sem] theorem t27_87_o : zeroOK Try.prog 87 = true := by decide +kernel
@[go_sem] theorem t27_87_i : zeroI Try.prog 87 = some (.nilf) := _root_.id (by kernel_rfl)
@[go_sem] theorem t27_87_y : (((Try.prog.info? 87).map (·.bytes)).getD 0 ≤ 256) = True := eq_true (by decide +kernel)
@[go_sem] theorem t27_87_b : (bytesP Try.prog 87 ≤ 1024) = True := eq_true (by decide +kernel)
@[go_sem] theorem t27_88_h : hasP Try.prog 88 = true := by decide +kernel
@[go_sem] theorem t27_88_s : sizeP Try.prog 88 = 1 := by decide +kernel
@[go_sem] theorem t27_88_a : aggP Try.prog 88 = false := by decide +kernel
@[go_sem] theorem t27_88_z : zeroP Try.prog 88 = some [.nilf] := _root_.id (by kernel_rfl)
@[go_sem] theorem t27_88_o : zeroOK Try.prog 88 = true := by decide +kernel
@[go_sem] theorem t27_88_i : zeroI Try.prog 88 = some (.nilf) := _root_.id (by kernel_rfl)
@[go_sem] theorem t27_88_y : (((Try.prog.info? 88).map (·.bytes)).getD 0 ≤ 256) = True := eq_true (by decide +kernel)
@[go_sem] theorem t27_88_b : (bytesP Try.prog 88 ≤ 1024) = True := eq_true (by decide +kernel)
@[go_sem] theorem t27_89_h : hasP Try.prog 89 = true := by decide +kernel
@[go_sem] theorem t27_89_s : sizeP Try.prog 89 = 1 := by decide +kernel
@[go_sem] theorem t27_89_a : aggP Try.prog 89 = false := by decide +kernel
@[go_sem] theorem t27_89_z : zeroP Try.prog 89 = some [.nilm] := _root_.id (by kernel_rfl)
@[go_sem] theorem t27_89_o : zeroOK Try.prog 89 = true := by decide +kernel
@[go_sem] theorem t27_89_i : zeroI Try.prog 89 = some (.nilm) := _root_.id (by kernel_rfl)
@[go_sem] theorem t27_89_y : (((Try.prog.info? 89).map (·.bytes)).getD 0 ≤ 256) = True := eq_true (by decide +kernel)
@[go_sem] theorem t27_89_b : (bytesP Try.prog 89 ≤ 1024) = True := eq_true (by decide +kernel)
@[go_sem] theorem t27_90_h : hasP Try.prog 90 = true := by decide +kernel
@[go_sem] theorem t27_90_s : sizeP Try.prog 90 = 1 := by decide +kernel
@[go_sem] theorem t27_90_a : aggP Try.prog 90 = false := by decide +kernel
@[go_sem] theorem t27_90_z : zeroP Try.prog 90 = some [.nilf] := _root_.id (by kernel_rfl)
@[go_sem] theorem t27_90_o : zeroOK Try.prog 90 = true := by decide +kernel
@[go_sem] theorem t27_90_i : zeroI Try.prog 90 = some (.nilf) := _root_.id (by kernel_rfl)
@[go_sem] theorem t27_90_y : (((Try.prog.info? 90).map (·.bytes)).getD 0 ≤ 256) = True := eq_true (by decide +kernel)
@[go_sem] theorem t27_90_b : (bytesP Try.prog 90 ≤ 1024) = True := eq_true (by decide +kernel)
@[go_sem] theorem t27_91_h : hasP Try.prog 91 = true := by decide +kernel
@[go_sem] theorem t27_91_s : sizeP Try.prog 91 = 1 := by decide +kernel
@[go_sem] theorem t27_91_a : aggP Try.prog 91 = false := by decide +kernel
@[go_sem] theorem t27_91_z : zeroP Try.prog 91 = some [.nilf] := _root_.id (by kernel_rfl)
@[go_sem] theorem t27_91_o : zeroOK Try.prog 91 = true := by decide +kernel
@[go_sem] theorem t27_91_i : zeroI Try.prog 91 = some (.nilf) := _root_.id (by kernel_rfl)
@[go_sem] theorem t27_91_y : (((Try.prog.info? 91).map (·.bytes)).getD 0 ≤ 256) = True := eq_true (by decide +kernel)
@[go_sem] theorem t27_91_b : (bytesP Try.prog 91 ≤ 1024) = True := eq_true (by decide +kernel)
@[go_sem] theorem t27_92_h : hasP Try.prog 92 = true := by decide +kernel
@[go_sem] theorem t27_92_s : sizeP Try.prog 92 = 1 := by decide +kernel
@[go_sem] theorem t27_92_a : aggP Try.prog 92 = false := by decide +kernel
@[go_sem] theorem t27_92_z : zeroP Try.prog 92 = some [.nilf] := _root_.id (by kernel_rfl)
@[go_sem] theorem t27_92_o : zeroOK Try.prog 92 = true := by decide +kernel
@[go_sem] theorem t27_92_i : zeroI Try.prog 92 = some (.nilf) := _root_.id (by kernel_rfl)
@[go_sem] theorem t27_92_y : (((Try.prog.info? 92).map (·.bytes)).getD 0 ≤ 256) = True := eq_true (by decide +kernel)
@[go_sem] theorem t27_92_b : (bytesP Try.prog 92 ≤ 1024) = True := eq_true (by decide +kernel)
@[go_sem] theorem t27_93_h : hasP Try.prog 93 = true := by decide +kernel
@[go_sem] theorem t27_93_s : sizeP Try.prog 93 = 1 := by decide +kernel
@[go_sem] theorem t27_93_a : aggP Try.prog 93 = false := by decide +kernel
@[go_sem] theorem t27_93_z : zeroP Try.prog 93 = some [.int .u64 0] := _root_.id (by kernel_rfl)
@[go_sem] theorem t27_93_o : zeroOK Try.prog 93 = true := by decide +kernel
@[go_sem] theorem t27_93_i : zeroI Try.prog 93 = some (.int .u64 0) := _root_.id (by kernel_rfl)
@[go_sem] theorem t27_93_y : (((Try.prog.info? 93).map (·.bytes)).getD 0 ≤ 256) = True := eq_true (by decide +kernel)
@[go_sem] theorem t27_93_b : (bytesP Try.prog 93 ≤ 1024) = True := eq_true (by decide +kernel)
@[go_sem] theorem t27_93_k : keyK Try.prog 93 = some [.int .u64] := key_of (by decide +kernel)
@[go_sem] theorem t27_94_h : hasP Try.prog 94 = true := by decide +kernel
@[go_sem] theorem t27_94_s : sizeP Try.prog 94 = 1 := by decide +kernel
@[go_sem] theorem t27_94_a : aggP Try.prog 94 = false := by decide +kernel
@[go_sem] theorem t27_94_z : zeroP Try.prog 94 = some [.nilf] := _root_.id (by kernel_rfl)
@[go_sem] theorem t27_94_o : zeroOK Try.prog 94 = true := by decide +kernel
@[go_sem] theorem t27_94_i : zeroI Try.prog 94 = some (.nilf) := _root_.id (by kernel_rfl)
@[go_sem] theorem t27_94_y : (((Try.prog.info? 94).map (·.bytes)).getD 0 ≤ 256) = True := eq_true (by decide +kernel)
@[go_sem] theorem t27_94_b : (bytesP Try.prog 94 ≤ 1024) = True := eq_true (by decide +kernel)
@[go_sem] theorem t27_95_h : hasP Try.prog 95 = true := by decide +kernel
@[go_sem] theorem t27_95_s : sizeP Try.prog 95 = 1 := by decide +kernel
@[go_sem] theorem t27_95_a : aggP Try.prog 95 = false := by decide +kernel
@[go_sem] theorem t27_95_z : zeroP Try.prog 95 = some [.nilf] := _root_.id (by kernel_rfl)
@[go_sem] theorem t27_95_o : zeroOK Try.prog 95 = true := by decide +kernel
@[go_sem] theorem t27_95_i : zeroI Try.prog 95 = some (.nilf) := _root_.id (by kernel_rfl)
@[go_sem] theorem t27_95_y : (((Try.prog.info? 95).map (·.bytes)).getD 0 ≤ 256) = True := eq_true (by decide +kernel)
@[go_sem] theorem t27_95_b : (bytesP Try.prog 95 ≤ 1024) = True := eq_true (by decide +kernel)
@[go_sem] theorem t27_96_h : hasP Try.prog 96 = true := by decide +kernel
@[go_sem] theorem t27_96_s : sizeP Try.prog 96 = 1 := by decide +kernel
@[go_sem] theorem t27_96_a : aggP Try.prog 96 = false := by decide +kernel
@[go_sem] theorem t27_96_z : zeroP Try.prog 96 = some [.nilf] := _root_.id (by kernel_rfl)
@[go_sem] theorem t27_96_o : zeroOK Try.prog 96 = true := by decide +kernel
@[go_sem] theorem t27_96_i : zeroI Try.prog 96 = some (.nilf) := _root_.id (by kernel_rfl)
@[go_sem] theorem t27_96_y : (((Try.prog.info? 96).map (·.bytes)).getD 0 ≤ 256) = True := eq_true (by decide +kernel)
@[go_sem] theorem t27_96_b : (bytesP Try.prog 96 ≤ 1024) = True := eq_true (by decide +kernel)
@[go_sem] theorem t27_97_h : hasP Try.prog 97 = true := by decide +kernel
@[go_sem] theorem t27_97_s : sizeP Try.prog 97 = 1 := by decide +kernel
@[go_sem] theorem t27_97_a : aggP Try.prog 97 = false := by decide +kernel
@[go_sem] theorem t27_97_z : zeroP Try.prog 97 = some [.nilf] := _root_.id (by kernel_rfl)
@[go_sem] theorem t27_97_o : zeroOK Try.prog 97 = true := by decide +kernel
@[go_sem] theorem t27_97_i : zeroI Try.prog 97 = some (.nilf) := _root_.id (by kernel_rfl)
@[go_sem] theorem t27_97_y : (((Try.prog.info? 97).map (·.bytes)).getD 0 ≤ 256) = True := eq_true (by decide +kernel)
@[go_sem] theorem t27_97_b : (bytesP Try.prog 97 ≤ 1024) = True := eq_true (by decide +kernel)
@[go_sem] theorem t27_98_h : hasP Try.prog 98 = true := by decide +kernel
@[go_sem] theorem t27_98_s : sizeP Try.prog 98 = 1 := by decide +kernel
@[go_sem] theorem t27_98_a : aggP Try.prog 98 = false := by decide +kernel
@[go_sem] theorem t27_98_z : zeroP Try.prog 98 = some [.int .i64 0] := _root_.id (by kernel_rfl)
@[go_sem] theorem t27_98_o : zeroOK Try.prog 98 = true := by decide +kernel
@[go_sem] theorem t27_98_i : zeroI Try.prog 98 = some (.int .i64 0) := _root_.id (by kernel_rfl)
@[go_sem] theorem t27_98_y : (((Try.prog.info? 98).map (·.bytes)).getD 0 ≤ 256) = True := eq_true (by decide +kernel)
@[go_sem] theorem t27_98_b : (bytesP Try.prog 98 ≤ 1024) = True := eq_true (by decide +kernel)
@[go_sem] theorem t27_98_k : keyK Try.prog 98 = some [.int .i64] := key_of (by decide +kernel)
@[go_sem] theorem t27_100_h : hasP Try.prog 100 = true := by decide +kernel
@[go_sem] theorem t27_100_s : sizeP Try.prog 100 = 1 := by decide +kernel
@[go_sem] theorem t27_100_a : aggP Try.prog 100 = false := by decide +kernel
@[go_sem] theorem t27_100_z : zeroP Try.prog 100 = some [.nilf] := _root_.id (by kernel_rfl)
@[go_sem] theorem t27_100_o : zeroOK Try.prog 100 = true := by decide +kernel
@[go_sem] theorem t27_100_i : zeroI Try.prog 100 = some (.nilf) := _root_.id (by kernel_rfl)
@[go_sem] theorem t27_100_y : (((Try.prog.info? 100).map (·.bytes)).getD 0 ≤ 256) = True := eq_true (by decide +kernel)
@[go_sem] theorem t27_100_b : (bytesP Try.prog 100 ≤ 1024) = True := eq_true (by decide +kernel)
@[go_sem] theorem t27_101_h : hasP Try.prog 101 = true := by decide +kernel
@[go_sem] theorem t27_101_s : sizeP Try.prog 101 = 1 := by decide +kernel
@[go_sem] theorem t27_101_a : aggP Try.prog 101 = false := by decide +kernel
@[go_sem] theorem t27_101_z : zeroP Try.prog 101 = some [.nilf] := _root_.id (by kernel_rfl)
@[go_sem] theorem t27_101_o : zeroOK Try.prog 101 = true := by decide +kernel
@[go_sem] theorem t27_101_i : zeroI Try.prog 101 = some (.nilf) := _root_.id (by kernel_rfl)
@[go_sem] theorem t27_101_y : (((Try.prog.info? 101).map (·.bytes)).getD 0 ≤ 256) = True := eq_true (by decide +kernel)
@[go_sem] theorem t27_101_b : (bytesP Try.prog 101 ≤ 1024) = True := eq_true (by decide +kernel)
@[go_sem] theorem t27_102_h : hasP Try.prog 102 = true := by decide +kernel
@[go_sem] theorem t27_102_s : sizeP Try.prog 102 = 1 := by decide +kernel
@[go_sem] theorem t27_102_a : aggP Try.prog 102 = false := by decide +kernel
@[go_sem] theorem t27_102_z : zeroP Try.prog 102 = some [.nilf] := _root_.id (by kernel_rfl)
@[go_sem] theorem t27_102_o : zeroOK Try.prog 102 = true := by decide +kernel
@[go_sem] theorem t27_102_i : zeroI Try.prog 102 = some (.nilf) := _root_.id (by kernel_rfl)
@[go_sem] theorem t27_102_y : (((Try.prog.info? 102).map (·.bytes)).getD 0 ≤ 256) = True := eq_true (by decide +kernel)
@[go_sem] theorem t27_102_b : (bytesP Try.prog 102 ≤ 1024) = True := eq_true (by decide +kernel)
@[go_sem] theorem t27_104_h : hasP Try.prog 104 = true := by decide +kernel
@[go_sem] theorem t27_104_s : sizeP Try.prog 104 = 1 := by decide +kernel
@[go_sem] theorem t27_104_a : aggP Try.prog 104 = false := by decide +kernel
@[go_sem] theorem t27_104_z : zeroP Try.prog 104 = some [.nilf] := _root_.id (by kernel_rfl)
@[go_sem] theorem t27_104_o : zeroOK Try.prog 104 = true := by decide +kernel
@[go_sem] theorem t27_104_i : zeroI Try.prog 104 = some (.nilf) := _root_.id (by kernel_rfl)
@[go_sem] theorem t27_104_y : (((Try.prog.info? 104).map (·.bytes)).getD 0 ≤ 256) = True := eq_true (by decide +kernel)
@[go_sem] theorem t27_104_b : (bytesP Try.prog 104 ≤ 1024) = True := eq_true (by decide +kernel)
@[go_sem] theorem t27_105_h : hasP Try.prog 105 = true := by decide +kernel
@[go_sem] theorem t27_105_s : sizeP Try.prog 105 = 1 := by decide +kernel
@[go_sem] theorem t27_105_a : aggP Try.prog 105 = false := by decide +kernel
@[go_sem] theorem t27_105_z : zeroP Try.prog 105 = some [.nilf] := _root_.id (by kernel_rfl)
@[go_sem] theorem t27_105_o : zeroOK Try.prog 105 = true := by decide +kernel
@[go_sem] theorem t27_105_i : zeroI Try.prog 105 = some (.nilf) := _root_.id (by kernel_rfl)
@[go_sem] theorem t27_105_y : (((Try.prog.info? 105).map (·.bytes)).getD 0 ≤ 256) = True := eq_true (by decide +kernel)
@[go_sem] theorem t27_105_b : (bytesP Try.prog 105 ≤ 1024) = True := eq_true (by decide +kernel)
@[go_sem] theorem t27_106_h : hasP Try.prog 106 = true := by decide +kernel
@[go_sem] theorem t27_106_s : sizeP Try.prog 106 = 1 := by decide +kernel
@[go_sem] theorem t27_106_a : aggP Try.prog 106 = false := by decide +kernel
@[go_sem] theorem t27_106_z : zeroP Try.prog 106 = some [.int .u32 0] := _root_.id (by kernel_rfl)
@[go_sem] theorem t27_106_o : zeroOK Try.prog 106 = true := by decide +kernel
@[go_sem] theorem t27_106_i : zeroI Try.prog 106 = some (.int .u32 0) := _root_.id (by kernel_rfl)
@[go_sem] theorem t27_106_y : (((Try.prog.info? 106).map (·.bytes)).getD 0 ≤ 256) = True := eq_true (by decide +kernel)
@[go_sem] theorem t27_106_b : (bytesP Try.prog 106 ≤ 1024) = True := eq_true (by decide +kernel)
@[go_sem] theorem t27_106_k : keyK Try.prog 106 = some [.int .u32] := key_of (by decide +kernel)
@[go_sem] theorem t27_107_h : hasP Try.prog 107 = true := by decide +kernel
@[go_sem] theorem t27_107_s : sizeP Try.prog 107 = 1 := by decide +kernel
@[go_sem] theorem t27_107_a : aggP Try.prog 107 = false := by decide +kernel
@[go_sem] theorem t27_107_z : zeroP Try.prog 107 = some [.nilf] := _root_.id (by kernel_rfl)
@[go_sem] theorem t27_107_o : zeroOK Try.prog 107 = true := by decide +kernel
@[go_sem] theorem t27_107_i : zeroI Try.prog 107 = some (.nilf) := _root_.id (by kernel_rfl)
@[go_sem] theorem t27_107_y : (((Try.prog.info? 107).map (·.bytes)).getD 0 ≤ 256) = True := eq_true (by decide +kernel)
@[go_sem] theorem t27_107_b : (bytesP Try.prog 107 ≤ 1024) = True := eq_true (by decide +kernel)
@[go_sem] theorem t27_108_h : hasP Try.prog 108 = true := by decide +kernel
@[go_sem] theorem t27_108_s : sizeP Try.prog 108 = 1 := by decide +kernel
@[go_sem] theorem t27_108_a : aggP Try.prog 108 = false := by decide +kernel
@[go_sem] theorem t27_108_z : zeroP Try.prog 108 = some [.int .u64 0] := _root_.id (by kernel_rfl)
@[go_sem] theorem t27_108_o : zeroOK Try.prog 108 = true := by decide +kernel
@[go_sem] theorem t27_108_i : zeroI Try.prog 108 = some (.int .u64 0) := _root_.id (by kernel_rfl)
@[go_sem] theorem t27_108_y : (((Try.prog.info? 108).map (·.bytes)).getD 0 ≤ 256) = True := eq_true (by decide +kernel)
@[go_sem] theorem t27_108_b : (bytesP Try.prog 108 ≤ 1024) = True := eq_true (by decide +kernel)
@[go_sem] theorem t27_108_k : keyK Try.prog 108 = some [.int .u64] := key_of (by decide +kernel)
@[go_sem] theorem t27_109_h : hasP Try.prog 109 = true := by decide +kernel
@[go_sem] theorem t27_109_s : sizeP Try.prog 109 = 1 := by decide +kernel
@[go_sem] theorem t27_109_a : aggP Try.prog 109 = false := by decide +kernel
@[go_sem] theorem t27_109_z : zeroP Try.prog 109 = some [.nilf] := _root_.id (by kernel_rfl)
@[go_sem] theorem t27_109_o : zeroOK Try.prog 109 = true := by decide +kernel
@[go_sem] theorem t27_109_i : zeroI Try.prog 109 = some (.nilf) := _root_.id (by kernel_rfl)
@[go_sem] theorem t27_109_y : (((Try.prog.info? 109).map (·.bytes)).getD 0 ≤ 256) = True := eq_true (by decide +kernel)
@[go_sem] theorem t27_109_b : (bytesP Try.prog 109 ≤ 1024) = True := eq_true (by decide +kernel)
@[go_sem] theorem t27_110_h : hasP Try.prog 110 = true := by decide +kernel
@[go_sem] theorem t27_110_s : sizeP Try.prog 110 = 1 := by decide +kernel
@[go_sem] theorem t27_110_a : aggP Try.prog 110 = false := by decide +kernel
@[go_sem] theorem t27_110_z : zeroP Try.prog 110 = some [.nilf] := _root_.id (by kernel_rfl)
@[go_sem] theorem t27_110_o : zeroOK Try.prog 110 = true := by decide +kernel
@[go_sem] theorem t27_110_i : zeroI Try.prog 110 = some (.nilf) := _root_.id (by kernel_rfl)
@[go_sem] theorem t27_110_y : (((Try.prog.info? 110).map (·.bytes)).getD 0 ≤ 256) = True := eq_true (by decide +kernel)
@[go_sem] theorem t27_110_b : (bytesP Try.prog 110 ≤ 1024) = True := eq_true (by decide +kernel)
@[go_sem] theorem t27_111_h : hasP Try.prog 111 = true := by decide +kernel
@[go_sem] theorem t27_111_s : sizeP Try.prog 111 = 1 := by decide +kernel
@[go_sem] theorem t27_111_a : aggP Try.prog 111 = false := by decide +kernel
@[go_sem] theorem t27_111_z : zeroP Try.prog 111 = some [.nilf] := _root_.id (by kernel_rfl)
@[go_sem] theorem t27_111_o : zeroOK Try.prog 111 = true := by decide +kernel
@[go_sem] theorem t27_111_i : zeroI Try.prog 111 = some (.nilf) := _root_.id (by kernel_rfl)
@[go_sem] theorem t27_111_y : (((Try.prog.info? 111).map (·.bytes)).getD 0 ≤ 256) = True := eq_true (by decide +kernel)
@[go_sem] theorem t27_111_b : (bytesP Try.prog 111 ≤ 1024) = True := eq_true (by decide +kernel)
@[go_sem] theorem t27_112_h : hasP Try.prog 112 = true := by decide +kernel
@[go_sem] theorem t27_112_s : sizeP Try.prog 112 = 1 := by decide +kernel
@[go_sem] theorem t27_112_a : aggP Try.prog 112 = false := by decide +kernel
@[go_sem] theorem t27_112_z : zeroP Try.prog 112 = some [.nilf] := _root_.id (by kernel_rfl)
@[go_sem] theorem t27_112_o : zeroOK Try.prog 112 = true := by decide +kernel
@[go_sem] theorem t27_112_i : zeroI Try.prog 112 = some (.nilf) := _root_.id (by kernel_rfl)
@[go_sem] theorem t27_112_y : (((Try.prog.info? 112).map (·.bytes)).getD 0 ≤ 256) = True := eq_true (by decide +kernel)
@[go_sem] theorem t27_112_b : (bytesP Try.prog 112 ≤ 1024) = True := eq_true (by decide +kernel)
@[go_sem] theorem t27_113_h : hasP Try.prog 113 = true := by decide +kernel
@[go_sem] theorem t27_113_s : sizeP Try.prog 113 = 1 := by decide +kernel
@[go_sem] theorem t27_113_a : aggP Try.prog 113 = false := by decide +kernel
@[go_sem] theorem t27_113_z : zeroP Try.prog 113 = some [.nilf] := _root_.id (by kernel_rfl)
@[go_sem] theorem t27_113_o : zeroOK Try.prog 113 = true := by decide +kernel
@[go_sem] theorem t27_113_i : zeroI Try.prog 113 = some (.nilf) := _root_.id (by kernel_rfl)
@[go_sem] theorem t27_113_y : (((Try.prog.info? 113).map (·.bytes)).getD 0 ≤ 256) = True := eq_true (by decide +kernel)
@[go_sem] theorem t27_113_b : (bytesP Try.prog 113 ≤ 1024) = True := eq_true (by decide +kernel)
@[go_sem] theorem t27_114_h : hasP Try.prog 114 = true := by decide +kernel
@[go_sem] theorem t27_114_s : sizeP Try.prog 114 = 1 := by decide +kernel
@[go_sem] theorem t27_114_a : aggP Try.prog 114 = false := by decide +kernel
@[go_sem] theorem t27_114_z : zeroP Try.prog 114 = some [.int .u64 0] := _root_.id (by kernel_rfl)
@[go_sem] theorem t27_114_o : zeroOK Try.prog 114 = true := by decide +kernel
@[go_sem] theorem t27_114_i : zeroI Try.prog 114 = some (.int .u64 0) := _root_.id (by kernel_rfl)
@[go_sem] theorem t27_114_y : (((Try.prog.info? 114).map (·.bytes)).getD 0 ≤ 256) = True := eq_true (by decide +kernel)
@[go_sem] theorem t27_114_b : (bytesP Try.prog 114 ≤ 1024) = True := eq_true (by decide +kernel)
@[go_sem] theorem t27_114_k : keyK Try.prog 114 = some [.int .u64] := key_of (by decide +kernel)
@[go_sem] theorem t27_115_h : hasP Try.prog 115 = true := by decide +kernel
@[go_sem] theorem t27_115_s : sizeP Try.prog 115 = 1 := by decide +kernel
@[go_sem] theorem t27_115_a : aggP Try.prog 115 = false := by decide +kernel
@[go_sem] theorem t27_115_z : zeroP Try.prog 115 = some [.nilf] := _root_.id (by kernel_rfl)
@[go_sem] theorem t27_115_o : zeroOK Try.prog 115 = true := by decide +kernel
@[go_sem] theorem t27_115_i : zeroI Try.prog 115 = some (.nilf) := _root_.id (by kernel_rfl)
@[go_sem] theorem t27_115_y : (((Try.prog.info? 115).map (·.bytes)).getD 0 ≤ 256) = True := eq_true (by decide +kernel)
@[go_sem] theorem t27_115_b : (bytesP Try.prog 115 ≤ 1024) = True := eq_true (by decide +kernel)
@[go_sem] theorem t27_116_h : hasP Try.prog 116 = true := by decide +kernel
@[go_sem] theorem t27_116_s : sizeP Try.prog 116 = 1 := by decide +kernel
@[go_sem] theorem t27_116_a : aggP Try.prog 116 = false := by decide +kernel
@[go_sem] theorem t27_116_z : zeroP Try.prog 116 = some [.nilf] := _root_.id (by kernel_rfl)
@[go_sem] theorem t27_116_o : zeroOK Try.prog 116 = true := by decide +kernel
@[go_sem] theorem t27_116_i : zeroI Try.prog 116 = some (.nilf) := _root_.id (by kernel_rfl)
@[go_sem] theorem t27_116_y : (((Try.prog.info? 116).map (·.bytes)).getD 0 ≤ 256) = True := eq_true (by decide +kernel)
@[go_sem] theorem t27_116_b : (bytesP Try.prog 116 ≤ 1024) = True := eq_true (by decide +kernel)
@[go_sem] theorem t27_117_h : hasP Try.prog 117 = true := by decide +kernel
@[go_sem] theorem t27_117_s : sizeP Try.prog 117 = 1 := by decide +kernel
@[go_sem] theorem t27_117_a : aggP Try.prog 117 = false := by decide +kernel
@[go_sem] theorem t27_117_z : zeroP Try.prog 117 = some [.nilf] := _root_.id (by kernel_rfl)
@[go_sem] theorem t27_117_o : zeroOK Try.prog 117 = true := by decide +kernel
@[go_sem] theorem t27_117_i : zeroI Try.prog 117 = some (.nilf) := _root_.id (by kernel_rfl)
@[go_sem] theorem t27_117_y : (((Try.prog.info? 117).map (·.bytes)).getD 0 ≤ 256) = True := eq_true (by decide +kernel)
@[go_sem] theorem t27_117_b : (bytesP Try.prog 117 ≤ 1024) = True := eq_true (by decide +kernel)
@[go_sem] theorem t27_118_h : hasP Try.prog 118 = true := by decide +kernel
@[go_sem] theorem t27_118_s : sizeP Try.prog 118 = 1 := by decide +kernel
@[go_sem] theorem t27_118_a : aggP Try.prog 118 = false := by decide +kernel
@[go_sem] theorem t27_118_z : zeroP Try.prog 118 = some [.nilp] := _root_.id (by kernel_rfl)
@[go_sem] theorem t27_118_o : zeroOK Try.prog 118 = true := by decide +kernel
@[go_sem] theorem t27_118_i : zeroI Try.prog 118 = some (.nilp) := _root_.id (by kernel_rfl)
@[go_sem] theorem t27_118_y : (((Try.prog.info? 118).map (·.bytes)).getD 0 ≤ 256) = True := eq_true (by decide +kernel)
@[go_sem] theorem t27_118_b : (bytesP Try.prog 118 ≤ 1024) = True := eq_true (by decide +kernel)
@[go_sem] theorem t27_119_h : hasP Try.prog 119 = true := by decide +kernel
@[go_sem] theorem t27_119_s : sizeP Try.prog 119 = 1 := by decide +kernel
@[go_sem] theorem t27_119_a : aggP Try.prog 119 = false := by decide +kernel
@[go_sem] theorem t27_119_z : zeroP Try.prog 119 = some [.nilf] := _root_.id (by kernel_rfl)
@[go_sem] theorem t27_119_o : zeroOK Try.prog 119 = true := by decide +kernel
@[go_sem] theorem t27_119_i : zeroI Try.prog 119 = some (.nilf) := _root_.id (by kernel_rfl)
@[go_sem] theorem t27_119_y : (((Try.prog.info? 119).map (·.bytes)).getD 0 ≤ 256) = True := eq_true (by decide +kernel)
@[go_sem] theorem t27_119_b : (bytesP Try.prog 119 ≤ 1024) = True := eq_true (by decide +kernel)
@[go_sem] theorem t27_120_h : hasP Try.prog 120 = true := by decide +kernel
@[go_sem] theorem t27_120_s : sizeP Try.prog 120 = 1 := by decide +kernel
@[go_sem] theorem t27_120_a : aggP Try.prog 120 = false := by decide +kernel
@[go_sem] theorem t27_120_z : zeroP Try.prog 120 = some [.nilf] := _root_.id (by kernel_rfl)
@[go_sem] theorem t27_120_o : zeroOK Try.prog 120 = true := by decide +kernel
@[go_sem] theorem t27_120_i : zeroI Try.prog 120 = some (.nilf) := _root_.id (by kernel_rfl)
@[go_sem] theorem t27_120_y : (((Try.prog.info? 120).map (·.bytes)).getD 0 ≤ 256) = True := eq_true (by decide +kernel)
@[go_sem] theorem t27_120_b : (bytesP Try.prog 120 ≤ 1024) = True := eq_true (by decide +kernel)
@[go_sem] theorem t27_121_h : hasP Try.prog 121 = true := by decide +kernel
@[go_sem] theorem t27_121_s : sizeP Try.prog 121 = 1 := by decide +kernel
@[go_sem] theorem t27_121_a : aggP Try.prog 121 = false := by decide +kernel
@[go_sem] theorem t27_121_z : zeroP Try.prog 121 = some [.nilf] := _root_.id (by kernel_rfl)
@[go_sem] theorem t27_121_o : zeroOK Try.prog 121 = true := by decide +kernel
@[go_sem] theorem t27_121_i : zeroI Try.prog 121 = some (.nilf) := _root_.id (by kernel_rfl)
@[go_sem] theorem t27_121_y : (((Try.prog.info? 121).map (·.bytes)).getD 0 ≤ 256) = True := eq_true (by decide +kernel)
@[go_sem] theorem t27_121_b : (bytesP Try.prog 121 ≤ 1024) = True := eq_true (by decide +kernel)
@[go_sem] theorem t27_122_h : hasP Try.prog 122 = true := by decide +kernel
@[go_sem] theorem t27_122_s : sizeP Try.prog 122 = 1 := by decide +kernel
@[go_sem] theorem t27_122_a : aggP Try.prog 122 = false := by decide +kernel
@[go_sem] theorem t27_122_z : zeroP Try.prog 122 = some [.nilp] := _root_.id (by kernel_rfl)
@[go_sem] theorem t27_122_o : zeroOK Try.prog 122 = true := by decide +kernel
@[go_sem] theorem t27_122_i : zeroI Try.prog 122 = some (.nilp) := _root_.id (by kernel_rfl)
@[go_sem] theorem t27_122_y : (((Try.prog.info? 122).map (·.bytes)).getD 0 ≤ 256) = True := eq_true (by decide +kernel)
@[go_sem] theorem t27_122_b : (bytesP Try.prog 122 ≤ 1024) = True := eq_true (by decide +kernel)
@[go_sem] theorem t27_123_h : hasP Try.prog 123 = true := by decide +kernel
@[go_sem] theorem t27_123_s : sizeP Try.prog 123 = 1 := by decide +kernel
@[go_sem] theorem t27_123_a : aggP Try.prog 123 = false := by decide +kernel
@[go_sem] theorem t27_123_z : zeroP Try.prog 123 = some [.nilf] := _root_.id (by kernel_rfl)
@[go_sem] theorem t27_123_o : zeroOK Try.prog 123 = true := by decide +kernel
@[go_sem] theorem t27_123_i : zeroI Try.prog 123 = some (.nilf) := _root_.id (by kernel_rfl)
@[go_sem] theorem t27_123_y : (((Try.prog.info? 123).map (·.bytes)).getD 0 ≤ 256) = True := eq_true (by decide +kernel)
@[go_sem] theorem t27_123_b : (bytesP Try.prog 123 ≤ 1024) = True := eq_true (by decide +kernel)
@[go_sem] theorem t27_124_h : hasP Try.prog 124 = true := by decide +kernel
@[go_sem] theorem t27_124_s : sizeP Try.prog 124 = 1 := by decide +kernel
@[go_sem] theorem t27_124_a : aggP Try.prog 124 = false := by decide +kernel
@[go_sem] theorem t27_124_z : zeroP Try.prog 124 = some [.nilf] := _root_.id (by kernel_rfl)
@[go_sem] theorem t27_124_o : zeroOK Try.prog 124 = true := by decide +kernel
@[go_sem] theorem t27_124_i : zeroI Try.prog 124 = some (.nilf) := _root_.id (by kernel_rfl)
@[go_sem] theorem t27_124_y : (((Try.prog.info? 124).map (·.bytes)).getD 0 ≤ 256) = True := eq_true (by decide +kernel)
@[go_sem] theorem t27_124_b : (bytesP Try.prog 124 ≤ 1024) = True := eq_true (by decide +kernel)
@[go_sem] theorem t27_125_h : hasP Try.prog 125 = true := by decide +kernel
@[go_sem] theorem t27_125_s : sizeP Try.prog 125 = 1 := by decide +kernel
@[go_sem] theorem t27_125_a : aggP Try.prog 125 = false := by decide +kernel
@[go_sem] theorem t27_125_z : zeroP Try.prog 125 = some [.nilf] := _root_.id (by kernel_rfl)
@[go_sem] theorem t27_125_o : zeroOK Try.prog 125 = true := by decide +kernel
@[go_sem] theorem t27_125_i : zeroI Try.prog 125 = some (.nilf) := _root_.id (by kernel_rfl)
@[go_sem] theorem t27_125_y : (((Try.prog.info? 125).map (·.bytes)).getD 0 ≤ 256) = True := eq_true (by decide +kernel)
@[go_sem] theorem t27_125_b : (bytesP Try.prog 125 ≤ 1024) = True := eq_true (by decide +kernel)
@[go_sem] theorem t27_126_h : hasP Try.prog 126 = true := by decide +kernel
@[go_sem] theorem t27_126_s : sizeP Try.prog 126 = 4 := by decide +kernel
@[go_sem] theorem t27_126_a : aggP Try.prog 126 = true := by decide +kernel
@[go_sem] theorem t27_126_z : zeroP Try.prog 126 = some [.nilp, .nilp, .nilp, .str ByteArray.empty] := _root_.id (by kernel_rfl)
@[go_sem] theorem t27_126_o : zeroOK Try.prog 126 = true := by decide +kernel
@[go_sem] theorem t27_126_i : zeroI Try.prog 126 = some (.agg [.nilp, .nilp, .nilp, .str ByteArray.empty]) := _root_.id (by kernel_rfl)
@[go_sem] theorem t27_126_y : (((Try.prog.info? 126).map (·.bytes)).getD 0 ≤ 256) = True := eq_true (by decide +kernel)
@[go_sem] theorem t27_126_b : (bytesP Try.prog 126 ≤ 1024) = True := eq_true (by decide +kernel)
@[go_sem] theorem t27_127_h : hasP Try.prog 127 = true := by decide +kernel
@[go_sem] theorem t27_127_s : sizeP Try.prog 127 = 4 := by decide +kernel
@[go_sem] theorem t27_127_a : aggP Try.prog 127 = true := by decide +kernel
@[go_sem] theorem t27_127_z : zeroP Try.prog 127 = some [.nilp, .nilp, .nilp, .str ByteArray.empty] := _root_.id (by kernel_rfl)
@[go_sem] theorem t27_127_o : zeroOK Try.prog 127 = true := by decide +kernel
@[go_sem] theorem t27_127_i : zeroI Try.prog 127 = some (.agg [.nilp, .nilp, .nilp, .str ByteArray.empty]) := _root_.id (by kernel_rfl)
@[go_sem] theorem t27_127_y : (((Try.prog.info? 127).map (·.bytes)).getD 0 ≤ 256) = True := eq_true (by decide +kernel)
@[go_sem] theorem t27_127_b : (bytesP Try.prog 127 ≤ 1024) = True := eq_true (by decide +kernel)
@[go_sem] theorem t27_128_h : hasP Try.prog 128 = true := by decide +kernel
@[go_sem] theorem t27_128_s : sizeP Try.prog 128 = 0 := by decide +kernel
@[go_sem] theorem t27_128_a : aggP Try.prog 128 = true := by decide +kernel
@[go_sem] theorem t27_129_h : hasP Try.prog 129 = true := by decide +kernel
@[go_sem] theorem t27_129_s : sizeP Try.prog 129 = 0 := by decide +kernel
@[go_sem] theorem t27_129_a : aggP Try.prog 129 = true := by decide +kernel
@[go_sem] theorem t27_130_h : hasP Try.prog 130 = true := by decide +kernel
@[go_sem] theorem t27_130_s : sizeP Try.prog 130 = 0 := by decide +kernel
@[go_sem] theorem t27_130_a : aggP Try.prog 130 = true := by decide +kernel
@[go_sem] theorem t27_131_h : hasP Try.prog 131 = true := by decide +kernel
@[go_sem] theorem t27_131_s : sizeP Try.prog 131 = 1 := by decide +kernel
@[go_sem] theorem t27_131_a : aggP Try.prog 131 = false := by decide +kernel
@[go_sem] theorem t27_131_z : zeroP Try.prog 131 = some [.nilf] := _root_.id (by kernel_rfl)
@[go_sem] theorem t27_131_o : zeroOK Try.prog 131 = true := by decide +kernel
@[go_sem] theorem t27_131_i : zeroI Try.prog 131 = some (.nilf) := _root_.id (by kernel_rfl)
@[go_sem] theorem t27_131_y : (((Try.prog.info? 131).map (·.bytes)).getD 0 ≤ 256) = True := eq_true (by decide +kernel)
@[go_sem] theorem t27_131_b : (bytesP Try.prog 131 ≤ 1024) = True := eq_true (by decide +kernel)
@[go_sem] theorem t27_132_h : hasP Try.prog 132 = true := by decide +kernel
@[go_sem] theorem t27_132_s : sizeP Try.prog 132 = 1 := by decide +kernel
@[go_sem] theorem t27_132_a : aggP Try.prog 132 = false := by decide +kernel
@[go_sem] theorem t27_132_z : zeroP Try.prog 132 = some [.int .u8 0] := _root_.id (by kernel_rfl)
@[go_sem] theorem t27_132_o : zeroOK Try.prog 132 = true := by decide +kernel
@[go_sem] theorem t27_132_i : zeroI Try.prog 132 = some (.int .u8 0) := _root_.id (by kernel_rfl)
@[go_sem] theorem t27_132_y : (((Try.prog.info? 132).map (·.bytes)).getD 0 ≤ 256) = True := eq_true (by decide +kernel)
@[go_sem] theorem t27_132_b : (bytesP Try.prog 132 ≤ 1024) = True := eq_true (by decide +kernel)
@[go_sem] theorem t27_132_k : keyK Try.prog 132 = some [.int .u8] := key_of (by decide +kernel)
@[go_sem] theorem t27_133_h : hasP Try.prog 133 = true := by decide +kernel
@[go_sem] theorem t27_133_s : sizeP Try.prog 133 = 1 := by decide +kernel
@[go_sem] theorem t27_133_a : aggP Try.prog 133 = false := by decide +kernel
@[go_sem] theorem t27_133_z : zeroP Try.prog 133 = some [.int .u8 0] := _root_.id (by kernel_rfl)
@[go_sem] theorem t27_133_o : zeroOK Try.prog 133 = true := by decide +kernel
@[go_sem] theorem t27_133_i : zeroI Try.prog 133 = some (.int .u8 0) := _root_.id (by kernel_rfl)
@[go_sem] theorem t27_133_y : (((Try.prog.info? 133).map (·.bytes)).getD 0 ≤ 256) = True := eq_true (by decide +kernel)
@[go_sem] theorem t27_133_b : (bytesP Try.prog 133 ≤ 1024) = True := eq_true (by decide +kernel)
@[go_sem] theorem t27_133_k : keyK Try.prog 133 = some [.int .u8] := key_of (by decide +kernel)
@[go_sem] theorem t27_134_h : hasP Try.prog 134 = true := by decide +kernel
@[go_sem] theorem t27_134_s : sizeP Try.prog 134 = 1 := by decide +kernel
@[go_sem] theorem t27_134_a : aggP Try.prog 134 = false := by decide +kernel
@[go_sem] theorem t27_134_z : zeroP Try.prog 134 = some [.nilf] := _root_.id (by kernel_rfl)
@[go_sem] theorem t27_134_o : zeroOK Try.prog 134 = true := by decide +kernel
@[go_sem] theorem t27_134_i : zeroI Try.prog 134 = some (.nilf) := _root_.id (by kernel_rfl)
@[go_sem] theorem t27_134_y : (((Try.prog.info? 134).map (·.bytes)).getD 0 ≤ 256) = True := eq_true (by decide +kernel)
@[go_sem] theorem t27_134_b : (bytesP Try.prog 134 ≤ 1024) = True := eq_true (by decide +kernel)
@[go_sem] theorem t27_135_h : hasP Try.prog 135 = true := by decide +kernel
@[go_sem] theorem t27_135_s : sizeP Try.prog 135 = 1 := by decide +kernel
@[go_sem] theorem t27_135_a : aggP Try.prog 135 = false := by decide +kernel
@[go_sem] theorem t27_135_z : zeroP Try.prog 135 = some [.nilp] := _root_.id (by kernel_rfl)
@[go_sem] theorem t27_135_o : zeroOK Try.prog 135 = true := by decide +kernel
@[go_sem] theorem t27_135_i : zeroI Try.prog 135 = some (.nilp) := _root_.id (by kernel_rfl)
@[go_sem] theorem t27_135_y : (((Try.prog.info? 135).map (·.bytes)).getD 0 ≤ 256) = True := eq_true (by decide +kernel)
@[go_sem] theorem t27_135_b : (bytesP Try.prog 135 ≤ 1024) = True := eq_true (by decide +kernel)
@[go_sem] theorem t27_136_h : hasP Try.prog 136 = true := by decide +kernel
@[go_sem] theorem t27_136_s : sizeP Try.prog 136 = 1 := by decide +kernel
@[go_sem] theorem t27_136_a : aggP Try.prog 136 = false := by decide +kernel
@[go_sem] theorem t27_136_z : zeroP Try.prog 136 = some [.int .i32 0] := _root_.id (by kernel_rfl)
@[go_sem] theorem t27_136_o : zeroOK Try.prog 136 = true := by decide +kernel
@[go_sem] theorem t27_136_i : zeroI Try.prog 136 = some (.int .i32 0) := _root_.id (by kernel_rfl)
@[go_sem] theorem t27_136_y : (((Try.prog.info? 136).map (·.bytes)).getD 0 ≤ 256) = True := eq_true (by decide +kernel)
@[go_sem] theorem t27_136_b : (bytesP Try.prog 136 ≤ 1024) = True := eq_true (by decide +kernel)
@[go_sem] theorem t27_136_k : keyK Try.prog 136 = some [.int .i32] := key_of (by decide +kernel)
@[go_sem] theorem t27_137_h : hasP Try.prog 137 = true := by decide +kernel
@[go_sem] theorem t27_137_s : sizeP Try.prog 137 = 1 := by decide +kernel
@[go_sem] theorem t27_137_a : aggP Try.prog 137 = false := by decide +kernel
@[go_sem] theorem t27_137_z : zeroP Try.prog 137 = some [.int .i32 0] := _root_.id (by kernel_rfl)
@[go_sem] theorem t27_137_o : zeroOK Try.prog 137 = true := by decide +kernel
@[go_sem] theorem t27_137_i : zeroI Try.prog 137 = some (.int .i32 0) := _root_.id (by kernel_rfl)
@[go_sem] theorem t27_137_y : (((Try.prog.info? 137).map (·.bytes)).getD 0 ≤ 256) = True := eq_true (by decide +kernel)
@[go_sem] theorem t27_137_b : (bytesP Try.prog 137 ≤ 1024) = True := eq_true (by decide +kernel)
@[go_sem] theorem t27_137_k : keyK Try.prog 137 = some [.int .i32] := key_of (by decide +kernel)
@[go_sem] theorem t27_138_h : hasP Try.prog 138 = true := by decide +kernel
@[go_sem] theorem t27_138_s : sizeP Try.prog 138 = 11 := by decide +kernel
@[go_sem] theorem t27_138_a : aggP Try.prog 138 = true := by decide +kernel
@[go_sem] theorem t27_138_z : zeroP Try.prog 138 = some [.int .u64 0, .int .u64 0, .int .u32 0, .int .u8 0, .int .u8 0, .int .u8 0, .int .u8 0, .nilf, .nilp, .int .i32 0, .int .i32 0] := _root_.id (by kernel_rfl)
@[go_sem] theorem t27_138_o : zeroOK Try.prog 138 = true := by decide +kernel
@[go_sem] theorem t27_138_i : zeroI Try.prog 138 = some (.agg [.int .u64 0, .int .u64 0, .int .u32 0, .int .u8 0, .int .u8 0, .int .u8 0, .int .u8 0, .nilf, .nilp, .int .i32 0, .int .i32 0]) := _root_.id (by kernel_rfl)
@[go_sem] theorem t27_138_y : (((Try.prog.info? 138).map (·.bytes)).getD 0 ≤ 256) = True := eq_true (by decide +kernel)
@[go_sem] theorem t27_138_b : (bytesP Try.prog 138 ≤ 1024) = True := eq_true (by decide +kernel)
@[go_sem] theorem t27_139_h : hasP Try.prog 139 = true := by decide +kernel
@[go_sem] theorem t27_139_s : sizeP Try.prog 139 = 11 := by decide +kernel
@[go_sem] theorem t27_139_a : aggP Try.prog 139 = true := by decide +kernel
@[go_sem] theorem t27_139_z : zeroP Try.prog 139 = some [.int .u64 0, .int .u64 0, .int .u32 0, .int .u8 0, .int .u8 0, .int .u8 0, .int .u8 0, .nilf, .nilp, .int .i32 0, .int .i32 0] := _root_.id (by kernel_rfl)
@[go_sem] theorem t27_139_o : zeroOK Try.prog 139 = true := by decide +kernel
@[go_sem] theorem t27_139_i : zeroI Try.prog 139 = some (.agg [.int .u64 0, .int .u64 0, .int .u32 0, .int .u8 0, .int .u8 0, .int .u8 0, .int .u8 0, .nilf, .nilp, .int .i32 0, .int .i32 0]) := _root_.id (by kernel_rfl)
@[go_sem] theorem t27_139_y : (((Try.prog.info? 139).map (·.bytes)).getD 0 ≤ 256) = True := eq_true (by decide +kernel)
@[go_sem] theorem t27_139_b : (bytesP Try.prog 139 ≤ 1024) = True := eq_true (by decide +kernel)
end Go.Idl
