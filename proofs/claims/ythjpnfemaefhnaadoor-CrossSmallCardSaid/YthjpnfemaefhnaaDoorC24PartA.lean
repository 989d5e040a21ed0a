/-
  Chapter 24: the types; the list of differences.
-/
import Derived.Test.YthjpnfemaefhnaaDoorProg
import Derived.Test.YthjpnfemaefhnaaDoorIdlPartG
import Derived.KernelRfl
namespace Go.Idl
set_option linter.all false
open Go.Proofs
@[go_sem] theorem t241_h : hasP Tryd.prog 1 = true := by decide +kernel
@[go_sem] theorem t241_s : sizeP Tryd.prog 1 = 1 := by decide +kernel
@[go_sem] theorem t241_a : aggP Tryd.prog 1 = false := by decide +kernel
@[go_sem] theorem t241_z : zeroP Tryd.prog 1 = some [.nilf] := _root_.id (by kernel_rfl)
@[go_sem] theorem t241_o : zeroOK Tryd.prog 1 = true := by decide +kernel
@[go_sem] theorem t241_i : zeroI Tryd.prog 1 = some (.nilf) := _root_.id (by kernel_rfl)
@[go_sem] theorem t241_y : (((Tryd.prog.info? 1).map (·.bytes)).getD 0 ≤ 256) = True := eq_true (by decide +kernel)
@[go_sem] theorem t241_b : (bytesP Tryd.prog 1 ≤ 1024) = True := eq_true (by decide +kernel)
@[go_sem] theorem t242_h : hasP Tryd.prog 2 = true := by decide +kernel
@[go_sem] theorem t242_s : sizeP Tryd.prog 2 = 1 := by decide +kernel
@[go_sem] theorem t242_a : aggP Tryd.prog 2 = false := by decide +kernel
@[go_sem] theorem t242_z : zeroP Tryd.prog 2 = some [.int .i64 0] := _root_.id (by kernel_rfl)
@[go_sem] theorem t242_o : zeroOK Tryd.prog 2 = true := by decide +kernel
@[go_sem] theorem t242_i : zeroI Tryd.prog 2 = some (.int .i64 0) := _root_.id (by kernel_rfl)
@[go_sem] theorem t242_y : (((Tryd.prog.info? 2).map (·.bytes)).getD 0 ≤ 256) = True := eq_true (by decide +kernel)
@[go_sem] theorem t242_b : (bytesP Tryd.prog 2 ≤ 1024) = True := eq_true (by decide +kernel)
@[go_sem] theorem t242_k : keyK Tryd.prog 2 = some [.int .i64] := key_of (by decide +kernel)
@[go_sem] theorem t243_h : hasP Tryd.prog 3 = true := by decide +kernel
@[go_sem] theorem t243_s : sizeP Tryd.prog 3 = 1 := by decide +kernel
@[go_sem] theorem t243_a : aggP Tryd.prog 3 = false := by decide +kernel
@[go_sem] theorem t243_z : zeroP Tryd.prog 3 = some [.int .i64 0] := _root_.id (by kernel_rfl)
@[go_sem] theorem t243_o : zeroOK Tryd.prog 3 = true := by decide +kernel
@[go_sem] theorem t243_i : zeroI Tryd.prog 3 = some (.int .i64 0) := _root_.id (by kernel_rfl)
@[go_sem] theorem t243_y : (((Tryd.prog.info? 3).map (·.bytes)).getD 0 ≤ 256) = True := eq_true (by decide +kernel)
@[go_sem] theorem t243_b : (bytesP Tryd.prog 3 ≤ 1024) = True := eq_true (by decide +kernel)
@[go_sem] theorem t243_k : keyK Tryd.prog 3 = some [.int .i64] := key_of (by decide +kernel)
@[go_sem] theorem t244_h : hasP Tryd.prog 4 = true := by decide +kernel
@[go_sem] theorem t244_s : sizeP Tryd.prog 4 = 1 := by decide +kernel
@[go_sem] theorem t244_a : aggP Tryd.prog 4 = false := by decide +kernel
@[go_sem] theorem t244_z : zeroP Tryd.prog 4 = some [.bool false] := _root_.id (by kernel_rfl)
@[go_sem] theorem t244_o : zeroOK Tryd.prog 4 = true := by decide +kernel
@[go_sem] theorem t244_i : zeroI Tryd.prog 4 = some (.bool false) := _root_.id (by kernel_rfl)
@[go_sem] theorem t244_y : (((Tryd.prog.info? 4).map (·.bytes)).getD 0 ≤ 256) = True := eq_true (by decide +kernel)
@[go_sem] theorem t244_b : (bytesP Tryd.prog 4 ≤ 1024) = True := eq_true (by decide +kernel)
@[go_sem] theorem t244_k : keyK Tryd.prog 4 = some [.bool] := key_of (by decide +kernel)
@[go_sem] theorem t245_h : hasP Tryd.prog 5 = true := by decide +kernel
@[go_sem] theorem t245_s : sizeP Tryd.prog 5 = 1 := by decide +kernel
@[go_sem] theorem t245_a : aggP Tryd.prog 5 = false := by decide +kernel
@[go_sem] theorem t245_z : zeroP Tryd.prog 5 = some [.int .u8 0] := _root_.id (by kernel_rfl)
@[go_sem] theorem t245_o : zeroOK Tryd.prog 5 = true := by decide +kernel
@[go_sem] theorem t245_i : zeroI Tryd.prog 5 = some (.int .u8 0) := _root_.id (by kernel_rfl)
@[go_sem] theorem t245_y : (((Tryd.prog.info? 5).map (·.bytes)).getD 0 ≤ 256) = True := eq_true (by decide +kernel)
@[go_sem] theorem t245_b : (bytesP Tryd.prog 5 ≤ 1024) = True := eq_true (by decide +kernel)
@[go_sem] theorem t245_k : keyK Tryd.prog 5 = some [.int .u8] := key_of (by decide +kernel)
@[go_sem] theorem t246_h : hasP Tryd.prog 6 = true := by decide +kernel
@[go_sem] theorem t246_s : sizeP Tryd.prog 6 = 1 := by decide +kernel
@[go_sem] theorem t246_a : aggP Tryd.prog 6 = false := by decide +kernel
@[go_sem] theorem t246_z : zeroP Tryd.prog 6 = some [.int .u8 0] := _root_.id (by kernel_rfl)
@[go_sem] theorem t246_o : zeroOK Tryd.prog 6 = true := by decide +kernel
@[go_sem] theorem t246_i : zeroI Tryd.prog 6 = some (.int .u8 0) := _root_.id (by kernel_rfl)
@[go_sem] theorem t246_y : (((Tryd.prog.info? 6).map (·.bytes)).getD 0 ≤ 256) = True := eq_true (by decide +kernel)
@[go_sem] theorem t246_b : (bytesP Tryd.prog 6 ≤ 1024) = True := eq_true (by decide +kernel)
@[go_sem] theorem t246_k : keyK Tryd.prog 6 = some [.int .u8] := key_of (by decide +kernel)
@[go_sem] theorem t247_h : hasP Tryd.prog 7 = true := by decide +kernel
@[go_sem] theorem t247_s : sizeP Tryd.prog 7 = 4 := by decide +kernel
@[go_sem] theorem t247_a : aggP Tryd.prog 7 = true := by decide +kernel
@[go_sem] theorem t247_z : zeroP Tryd.prog 7 = some [.int .i64 0, .int .i64 0, .bool false, .int .u8 0] := _root_.id (by kernel_rfl)
@[go_sem] theorem t247_o : zeroOK Tryd.prog 7 = true := by decide +kernel
@[go_sem] theorem t247_i : zeroI Tryd.prog 7 = some (.agg [.int .i64 0, .int .i64 0, .bool false, .int .u8 0]) := _root_.id (by kernel_rfl)
@[go_sem] theorem t247_y : (((Tryd.prog.info? 7).map (·.bytes)).getD 0 ≤ 256) = True := eq_true (by decide +kernel)
@[go_sem] theorem t247_b : (bytesP Tryd.prog 7 ≤ 1024) = True := eq_true (by decide +kernel)
@[go_sem] theorem t247_f : flatP Tryd.prog 7 = some [.int .i64, .int .i64, .bool, .int .u8] := flat_of (by decide +kernel)
@[go_sem] theorem t247_k : keyK Tryd.prog 7 = some [.int .i64, .int .i64, .bool, .int .u8] := key_of (by decide +kernel)
@[go_sem] theorem t248_h : hasP Tryd.prog 8 = true := by decide +kernel
@[go_sem] theorem t248_s : sizeP Tryd.prog 8 = 4 := by decide +kernel
@[go_sem] theorem t248_a : aggP Tryd.prog 8 = true := by decide +kernel
@[go_sem] theorem t248_z : zeroP Tryd.prog 8 = some [.int .i64 0, .int .i64 0, .bool false, .int .u8 0] := _root_.id (by kernel_rfl)
@[go_sem] theorem t248_o : zeroOK Tryd.prog 8 = true := by decide +kernel
@[go_sem] theorem t248_i : zeroI Tryd.prog 8 = some (.agg [.int .i64 0, .int .i64 0, .bool false, .int .u8 0]) := _root_.id (by kernel_rfl)
@[go_sem] theorem t248_y : (((Tryd.prog.info? 8).map (·.bytes)).getD 0 ≤ 256) = True := eq_true (by decide +kernel)
@[go_sem] theorem t248_b : (bytesP Tryd.prog 8 ≤ 1024) = True := eq_true (by decide +kernel)
@[go_sem] theorem t248_f : flatP Tryd.prog 8 = some [.int .i64, .int .i64, .bool, .int .u8] := flat_of (by decide +kernel)
@[go_sem] theorem t248_k : keyK Tryd.prog 8 = some [.int .i64, .int .i64, .bool, .int .u8] := key_of (by decide +kernel)
@[go_sem] theorem t249_h : hasP Tryd.prog 9 = true := by decide +kernel
@[go_sem] theorem t249_s : sizeP Tryd.prog 9 = 1 := by decide +kernel
@[go_sem] theorem t249_a : aggP Tryd.prog 9 = false := by decide +kernel
@[go_sem] theorem t249_z : zeroP Tryd.prog 9 = some [.str ByteArray.empty] := _root_.id (by kernel_rfl)
@[go_sem] theorem t249_o : zeroOK Tryd.prog 9 = true := by decide +kernel
@[go_sem] theorem t249_i : zeroI Tryd.prog 9 = some (.str ByteArray.empty) := _root_.id (by kernel_rfl)
@[go_sem] theorem t249_y : (((Tryd.prog.info? 9).map (·.bytes)).getD 0 ≤ 256) = True := eq_true (by decide +kernel)
@[go_sem] theorem t249_b : (bytesP Tryd.prog 9 ≤ 1024) = True := eq_true (by decide +kernel)
@[go_sem] theorem t249_k : keyK Tryd.prog 9 = some [.string] := key_of (by decide +kernel)
@[go_sem] theorem t2410_h : hasP Tryd.prog 10 = true := by decide +kernel
@[go_sem] theorem t2410_s : sizeP Tryd.prog 10 = 1 := by decide +kernel
@[go_sem] theorem t2410_a : aggP Tryd.prog 10 = false := by decide +kernel
@[go_sem] theorem t2410_z : zeroP Tryd.prog 10 = some [.str ByteArray.empty] := _root_.id (by kernel_rfl)
@[go_sem] theorem t2410_o : zeroOK Tryd.prog 10 = true := by decide +kernel
@[go_sem] theorem t2410_i : zeroI Tryd.prog 10 = some (.str ByteArray.empty) := _root_.id (by kernel_rfl)
@[go_sem] theorem t2410_y : (((Tryd.prog.info? 10).map (·.bytes)).getD 0 ≤ 256) = True := eq_true (by decide +kernel)
@[go_sem] theorem t2410_b : (bytesP Tryd.prog 10 ≤ 1024) = True := eq_true (by decide +kernel)
@[go_sem] theorem t2410_k : keyK Tryd.prog 10 = some [.string] := key_of (by decide +kernel)
@[go_sem] theorem t2411_h : hasP Tryd.prog 11 = true := by decide +kernel
@[go_sem] theorem t2411_s : sizeP Tryd.prog 11 = 1 := by decide +kernel
@[go_sem] theorem t2411_a : aggP Tryd.prog 11 = false := by decide +kernel
@[go_sem] theorem t2411_z : zeroP Tryd.prog 11 = some [.str ByteArray.empty] := _root_.id (by kernel_rfl)
@[go_sem] theorem t2411_o : zeroOK Tryd.prog 11 = true := by decide +kernel
@[go_sem] theorem t2411_i : zeroI Tryd.prog 11 = some (.str ByteArray.empty) := _root_.id (by kernel_rfl)
@[go_sem] theorem t2411_y : (((Tryd.prog.info? 11).map (·.bytes)).getD 0 ≤ 256) = True := eq_true (by decide +kernel)
@[go_sem] theorem t2411_b : (bytesP Tryd.prog 11 ≤ 1024) = True := eq_true (by decide +kernel)
@[go_sem] theorem t2411_k : keyK Tryd.prog 11 = some [.string] := key_of (by decide +kernel)
@[go_sem] theorem t2412_h : hasP Tryd.prog 12 = true := by decide +kernel
@[go_sem] theorem t2412_s : sizeP Tryd.prog 12 = 1 := by decide +kernel
@[go_sem] theorem t2412_a : aggP Tryd.prog 12 = false := by decide +kernel
@[go_sem] theorem t2412_z : zeroP Tryd.prog 12 = some [.int .u64 0] := _root_.id (by kernel_rfl)
@[go_sem] theorem t2412_o : zeroOK Tryd.prog 12 = true := by decide +kernel
@[go_sem] theorem t2412_i : zeroI Tryd.prog 12 = some (.int .u64 0) := _root_.id (by kernel_rfl)
@[go_sem] theorem t2412_y : (((Tryd.prog.info? 12).map (·.bytes)).getD 0 ≤ 256) = True := eq_true (by decide +kernel)
@[go_sem] theorem t2412_b : (bytesP Tryd.prog 12 ≤ 1024) = True := eq_true (by decide +kernel)
@[go_sem] theorem t2412_k : keyK Tryd.prog 12 = some [.int .u64] := key_of (by decide +kernel)
@[go_sem] theorem t2413_h : hasP Tryd.prog 13 = true := by decide +kernel
@[go_sem] theorem t2413_s : sizeP Tryd.prog 13 = 2 := by decide +kernel
@[go_sem] theorem t2413_a : aggP Tryd.prog 13 = true := by decide +kernel
@[go_sem] theorem t2413_z : zeroP Tryd.prog 13 = some [.str ByteArray.empty, .int .u64 0] := _root_.id (by kernel_rfl)
@[go_sem] theorem t2413_o : zeroOK Tryd.prog 13 = true := by decide +kernel
@[go_sem] theorem t2413_i : zeroI Tryd.prog 13 = some (.agg [.str ByteArray.empty, .int .u64 0]) := _root_.id (by kernel_rfl)
@[go_sem] theorem t2413_y : (((Tryd.prog.info? 13).map (·.bytes)).getD 0 ≤ 256) = True := eq_true (by decide +kernel)
@[go_sem] theorem t2413_b : (bytesP Tryd.prog 13 ≤ 1024) = True := eq_true (by decide +kernel)
@[go_sem] theorem t2414_h : hasP Tryd.prog 14 = true := by decide +kernel
@[go_sem] theorem t2414_s : sizeP Tryd.prog 14 = 2 := by decide +kernel
@[go_sem] theorem t2414_a : aggP Tryd.prog 14 = true := by decide +kernel
@[go_sem] theorem t2414_z : zeroP Tryd.prog 14 = some [.str ByteArray.empty, .int .u64 0] := _root_.id (by kernel_rfl)
@[go_sem] theorem t2414_o : zeroOK Tryd.prog 14 = true := by decide +kernel
@[go_sem] theorem t2414_i : zeroI Tryd.prog 14 = some (.agg [.str ByteArray.empty, .int .u64 0]) := _root_.id (by kernel_rfl)
@[go_sem] theorem t2414_y : (((Tryd.prog.info? 14).map (·.bytes)).getD 0 ≤ 256) = True := eq_true (by decide +kernel)
@[go_sem] theorem t2414_b : (bytesP Tryd.prog 14 ≤ 1024) = True := eq_true (by decide +kernel)
@[go_sem] theorem t2415_h : hasP Tryd.prog 15 = true := by decide +kernel
@[go_sem] theorem t2415_s : sizeP Tryd.prog 15 = 1 := by decide +kernel
@[go_sem] theorem t2415_a : aggP Tryd.prog 15 = false := by decide +kernel
@[go_sem] theorem t2415_z : zeroP Tryd.prog 15 = some [.nilp] := _root_.id (by kernel_rfl)
@[go_sem] theorem t2415_o : zeroOK Tryd.prog 15 = true := by decide +kernel
@[go_sem] theorem t2415_i : zeroI Tryd.prog 15 = some (.nilp) := _root_.id (by kernel_rfl)
@[go_sem] theorem t2415_y : (((Tryd.prog.info? 15).map (·.bytes)).getD 0 ≤ 256) = True := eq_true (by decide +kernel)
@[go_sem] theorem t2415_b : (bytesP Tryd.prog 15 ≤ 1024) = True := eq_true (by decide +kernel)
@[go_sem] theorem t2416_h : hasP Tryd.prog 16 = true := by decide +kernel
@[go_sem] theorem t2416_s : sizeP Tryd.prog 16 = 1 := by decide +kernel
@[go_sem] theorem t2416_a : aggP Tryd.prog 16 = false := by decide +kernel
@[go_sem] theorem t2416_z : zeroP Tryd.prog 16 = some [.nilp] := _root_.id (by kernel_rfl)
@[go_sem] theorem t2416_o : zeroOK Tryd.prog 16 = true := by decide +kernel
@[go_sem] theorem t2416_i : zeroI Tryd.prog 16 = some (.nilp) := _root_.id (by kernel_rfl)
@[go_sem] theorem t2416_y : (((Tryd.prog.info? 16).map (·.bytes)).getD 0 ≤ 256) = True := eq_true (by decide +kernel)
@[go_sem] theorem t2416_b : (bytesP Tryd.prog 16 ≤ 1024) = True := eq_true (by decide +kernel)
@[go_sem] theorem t2417_h : hasP Tryd.prog 17 = true := by decide +kernel
@[go_sem] theorem t2417_s : sizeP Tryd.prog 17 = 1 := by decide +kernel
@[go_sem] theorem t2417_a : aggP Tryd.prog 17 = false := by decide +kernel
@[go_sem] theorem t2417_z : zeroP Tryd.prog 17 = some [.nilp] := _root_.id (by kernel_rfl)
@[go_sem] theorem t2417_o : zeroOK Tryd.prog 17 = true := by decide +kernel
@[go_sem] theorem t2417_i : zeroI Tryd.prog 17 = some (.nilp) := _root_.id (by kernel_rfl)
@[go_sem] theorem t2417_y : (((Tryd.prog.info? 17).map (·.bytes)).getD 0 ≤ 256) = True := eq_true (by decide +kernel)
@[go_sem] theorem t2417_b : (bytesP Tryd.prog 17 ≤ 1024) = True := eq_true (by decide +kernel)
@[go_sem] theorem t2418_h : hasP Tryd.prog 18 = true := by decide +kernel
@[go_sem] theorem t2418_s : sizeP Tryd.prog 18 = 1 := by decide +kernel
@[go_sem] theorem t2418_a : aggP Tryd.prog 18 = true := by decide +kernel
@[go_sem] theorem t2418_z : zeroP Tryd.prog 18 = some [.nilp] := _root_.id (by kernel_rfl)
@[go_sem] theorem t2418_o : zeroOK Tryd.prog 18 = true := by decide +kernel
@[go_sem] theorem t2418_i : zeroI Tryd.prog 18 = some (.agg [.nilp]) := _root_.id (by kernel_rfl)
@[go_sem] theorem t2418_y : (((Tryd.prog.info? 18).map (·.bytes)).getD 0 ≤ 256) = True := eq_true (by decide +kernel)
@[go_sem] theorem t2418_b : (bytesP Tryd.prog 18 ≤ 1024) = True := eq_true (by decide +kernel)
@[go_sem] theorem t2419_h : hasP Tryd.prog 19 = true := by decide +kernel
@[go_sem] theorem t2419_s : sizeP Tryd.prog 19 = 1 := by decide +kernel
@[go_sem] theorem t2419_a : aggP Tryd.prog 19 = true := by decide +kernel
@[go_sem] theorem t2419_z : zeroP Tryd.prog 19 = some [.nilp] := _root_.id (by kernel_rfl)
@[go_sem] theorem t2419_o : zeroOK Tryd.prog 19 = true := by decide +kernel
@[go_sem] theorem t2419_i : zeroI Tryd.prog 19 = some (.agg [.nilp]) := _root_.id (by kernel_rfl)
@[go_sem] theorem t2419_y : (((Tryd.prog.info? 19).map (·.bytes)).getD 0 ≤ 256) = True := eq_true (by decide +kernel)
@[go_sem] theorem t2419_b : (bytesP Tryd.prog 19 ≤ 1024) = True := eq_true (by decide +kernel)
@[go_sem] theorem t2421_h : hasP Tryd.prog 21 = true := by decide +kernel
@[go_sem] theorem t2421_s : sizeP Tryd.prog 21 = 1 := by decide +kernel
@[go_sem] theorem t2421_a : aggP Tryd.prog 21 = false := by decide +kernel
@[go_sem] theorem t2421_z : zeroP Tryd.prog 21 = some [.int .i32 0] := _root_.id (by kernel_rfl)
@[go_sem] theorem t2421_o : zeroOK Tryd.prog 21 = true := by decide +kernel
@[go_sem] theorem t2421_i : zeroI Tryd.prog 21 = some (.int .i32 0) := _root_.id (by kernel_rfl)
@[go_sem] theorem t2421_y : (((Tryd.prog.info? 21).map (·.bytes)).getD 0 ≤ 256) = True := eq_true (by decide +kernel)
@[go_sem] theorem t2421_b : (bytesP Tryd.prog 21 ≤ 1024) = True := eq_true (by decide +kernel)
@[go_sem] theorem t2421_k : keyK Tryd.prog 21 = some [.int .i32] := key_of (by decide +kernel)
@[go_sem] theorem t2422_h : hasP Tryd.prog 22 = true := by decide +kernel
@[go_sem] theorem t2422_s : sizeP Tryd.prog 22 = 1 := by decide +kernel
@[go_sem] theorem t2422_a : aggP Tryd.prog 22 = false := by decide +kernel
@[go_sem] theorem t2422_z : zeroP Tryd.prog 22 = some [.nils] := _root_.id (by kernel_rfl)
@[go_sem] theorem t2422_o : zeroOK Tryd.prog 22 = true := by decide +kernel
@[go_sem] theorem t2422_i : zeroI Tryd.prog 22 = some (.nils) := _root_.id (by kernel_rfl)
@[go_sem] theorem t2422_y : (((Tryd.prog.info? 22).map (·.bytes)).getD 0 ≤ 256) = True := eq_true (by decide +kernel)
@[go_sem] theorem t2422_b : (bytesP Tryd.prog 22 ≤ 1024) = True := eq_true (by decide +kernel)
@[go_sem] theorem t2423_h : hasP Tryd.prog 23 = true := by decide +kernel
@[go_sem] theorem t2423_s : sizeP Tryd.prog 23 = 1 := by decide +kernel
@[go_sem] theorem t2423_a : aggP Tryd.prog 23 = false := by decide +kernel
@[go_sem] theorem t2423_z : zeroP Tryd.prog 23 = some [.nilf] := _root_.id (by kernel_rfl)
@[go_sem] theorem t2423_o : zeroOK Tryd.prog 23 = true := by decide +kernel
@[go_sem] theorem t2423_i : zeroI Tryd.prog 23 = some (.nilf) := _root_.id (by kernel_rfl)
@[go_sem] theorem t2423_y : (((Tryd.prog.info? 23).map (·.bytes)).getD 0 ≤ 256) = True := eq_true (by decide +kernel)
@[go_sem] theorem t2423_b : (bytesP Tryd.prog 23 ≤ 1024) = True := eq_true (by decide +kernel)
@[go_sem] theorem t2424_h : hasP Tryd.prog 24 = true := by decide +kernel
@[go_sem] theorem t2424_s : sizeP Tryd.prog 24 = 1 := by decide +kernel
@[go_sem] theorem t2424_a : aggP Tryd.prog 24 = false := by decide +kernel
@[go_sem] theorem t2424_z : zeroP Tryd.prog 24 = some [.nilf] := _root_.id (by kernel_rfl)
@[go_sem] theorem t2424_o : zeroOK Tryd.prog 24 = true := by decide +kernel
@[go_sem] theorem t2424_i : zeroI Tryd.prog 24 = some (.nilf) := _root_.id (by kernel_rfl)
@[go_sem] theorem t2424_y : (((Tryd.prog.info? 24).map (·.bytes)).getD 0 ≤ 256) = True := eq_true (by decide +kernel)
@[go_sem] theorem t2424_b : (bytesP Tryd.prog 24 ≤ 1024) = True := eq_true (by decide +kernel)
@[go_sem] theorem t2425_h : hasP Tryd.prog 25 = true := by decide +kernel
@[go_sem] theorem t2425_s : sizeP Tryd.prog 25 = 1 := by decide +kernel
@[go_sem] theorem t2425_a : aggP Tryd.prog 25 = false := by decide +kernel
@[go_sem] theorem t2425_z : zeroP Tryd.prog 25 = some [.nils] := _root_.id (by kernel_rfl)
@[go_sem] theorem t2425_o : zeroOK Tryd.prog 25 = true := by decide +kernel
@[go_sem] theorem t2425_i : zeroI Tryd.prog 25 = some (.nils) := _root_.id (by kernel_rfl)
@[go_sem] theorem t2425_y : (((Tryd.prog.info? 25).map (·.bytes)).getD 0 ≤ 256) = True := eq_true (by decide +kernel)
@[go_sem] theorem t2425_b : (bytesP Tryd.prog 25 ≤ 1024) = True := eq_true (by decide +kernel)
@[go_sem] theorem t2426_h : hasP Tryd.prog 26 = true := by decide +kernel
@[go_sem] theorem t2426_s : sizeP Tryd.prog 26 = 1 := by decide +kernel
@[go_sem] theorem t2426_a : aggP Tryd.prog 26 = false := by decide +kernel
@[go_sem] theorem t2426_z : zeroP Tryd.prog 26 = some [.nilf] := _root_.id (by kernel_rfl)
@[go_sem] theorem t2426_o : zeroOK Tryd.prog 26 = true := by decide +kernel
@[go_sem] theorem t2426_i : zeroI Tryd.prog 26 = some (.nilf) := _root_.id (by kernel_rfl)
@[go_sem] theorem t2426_y : (((Tryd.prog.info? 26).map (·.bytes)).getD 0 ≤ 256) = True := eq_true (by decide +kernel)
@[go_sem] theorem t2426_b : (bytesP Tryd.prog 26 ≤ 1024) = True := eq_true (by decide +kernel)
@[go_sem] theorem t2427_h : hasP Tryd.prog 27 = true := by decide +kernel
@[go_sem] theorem t2427_s : sizeP Tryd.prog 27 = 1 := by decide +kernel
@[go_sem] theorem t2427_a : aggP Tryd.prog 27 = false := by decide +kernel
@[go_sem] theorem t2427_z : zeroP Tryd.prog 27 = some [.nils] := _root_.id (by kernel_rfl)
@[go_sem] theorem t2427_o : zeroOK Tryd.prog 27 = true := by decide +kernel
@[go_sem] theorem t2427_i : zeroI Tryd.prog 27 = some (.nils) := _root_.id (by kernel_rfl)
@[go_sem] theorem t2427_y : (((Tryd.prog.info? 27).map (·.bytes)).getD 0 ≤ 256) = True := eq_true (by decide +kernel)
@[go_sem] theorem t2427_b : (bytesP Tryd.prog 27 ≤ 1024) = True := eq_true (by decide +kernel)
@[go_sem] theorem t2428_h : hasP Tryd.prog 28 = true := by decide +kernel
@[go_sem] theorem t2428_s : sizeP Tryd.prog 28 = 1 := by decide +kernel
@[go_sem] theorem t2428_a : aggP Tryd.prog 28 = false := by decide +kernel
@[go_sem] theorem t2428_z : zeroP Tryd.prog 28 = some [.int .i64 0] := _root_.id (by kernel_rfl)
@[go_sem] theorem t2428_o : zeroOK Tryd.prog 28 = true := by decide +kernel
@[go_sem] theorem t2428_i : zeroI Tryd.prog 28 = some (.int .i64 0) := _root_.id (by kernel_rfl)
@[go_sem] theorem t2428_y : (((Tryd.prog.info? 28).map (·.bytes)).getD 0 ≤ 256) = True := eq_true (by decide +kernel)
@[go_sem] theorem t2428_b : (bytesP Tryd.prog 28 ≤ 1024) = True := eq_true (by decide +kernel)
@[go_sem] theorem t2428_k : keyK Tryd.prog 28 = some [.int .i64] := key_of (by decide +kernel)
@[go_sem] theorem t2430_h : hasP Tryd.prog 30 = true := by decide +kernel
@[go_sem] theorem t2430_s : sizeP Tryd.prog 30 = 1 := by decide +kernel
@[go_sem] theorem t2430_a : aggP Tryd.prog 30 = false := by decide +kernel
@[go_sem] theorem t2430_z : zeroP Tryd.prog 30 = some [.nilf] := _root_.id (by kernel_rfl)
@[go_sem] theorem t2430_o : zeroOK Tryd.prog 30 = true := by decide +kernel
@[go_sem] theorem t2430_i : zeroI Tryd.prog 30 = some (.nilf) := _root_.id (by kernel_rfl)
@[go_sem] theorem t2430_y : (((Tryd.prog.info? 30).map (·.bytes)).getD 0 ≤ 256) = True := eq_true (by decide +kernel)
@[go_sem] theorem t2430_b : (bytesP Tryd.prog 30 ≤ 1024) = True := eq_true (by decide +kernel)
@[go_sem] theorem t2432_h : hasP Tryd.prog 32 = true := by decide +kernel
@[go_sem] theorem t2432_s : sizeP Tryd.prog 32 = 1 := by decide +kernel
@[go_sem] theorem t2432_a : aggP Tryd.prog 32 = false := by decide +kernel
@[go_sem] theorem t2432_z : zeroP Tryd.prog 32 = some [.nilf] := _root_.id (by kernel_rfl)
@[go_sem] theorem t2432_o : zeroOK Tryd.prog 32 = true := by decide +kernel
@[go_sem] theorem t2432_i : zeroI Tryd.prog 32 = some (.nilf) := _root_.id (by kernel_rfl)
@[go_sem] theorem t2432_y : (((Tryd.prog.info? 32).map (·.bytes)).getD 0 ≤ 256) = True := eq_true (by decide +kernel)
@[go_sem] theorem t2432_b : (bytesP Tryd.prog 32 ≤ 1024) = True := eq_true (by decide +kernel)
@[go_sem] theorem t2434_h : hasP Tryd.prog 34 = true := by decide +kernel
@[go_sem] theorem t2434_s : sizeP Tryd.prog 34 = 1 := by decide +kernel
@[go_sem] theorem t2434_a : aggP Tryd.prog 34 = false := by decide +kernel
@[go_sem] theorem t2434_z : zeroP Tryd.prog 34 = some [.nilf] := _root_.id (by kernel_rfl)
@[go_sem] theorem t2434_o : zeroOK Tryd.prog 34 = true := by decide +kernel
@[go_sem] theorem t2434_i : zeroI Tryd.prog 34 = some (.nilf) := _root_.id (by kernel_rfl)
@[go_sem] theorem t2434_y : (((Tryd.prog.info? 34).map (·.bytes)).getD 0 ≤ 256) = True := eq_true (by decide +kernel)
@[go_sem] theorem t2434_b : (bytesP Tryd.prog 34 ≤ 1024) = True := eq_true (by decide +kernel)
@[go_sem] theorem t2435_h : hasP Tryd.prog 35 = true := by decide +kernel
@[go_sem] theorem t2435_s : sizeP Tryd.prog 35 = 2 := by decide +kernel
@[go_sem] theorem t2435_a : aggP Tryd.prog 35 = true := by decide +kernel
@[go_sem] theorem t2435_z : zeroP Tryd.prog 35 = some [.int .i64 0, .int .i64 0] := _root_.id (by kernel_rfl)
@[go_sem] theorem t2435_o : zeroOK Tryd.prog 35 = true := by decide +kernel
@[go_sem] theorem t2435_i : zeroI Tryd.prog 35 = some (.agg [.int .i64 0, .int .i64 0]) := _root_.id (by kernel_rfl)
@[go_sem] theorem t2435_y : (((Tryd.prog.info? 35).map (·.bytes)).getD 0 ≤ 256) = True := eq_true (by decide +kernel)
@[go_sem] theorem t2435_b : (bytesP Tryd.prog 35 ≤ 1024) = True := eq_true (by decide +kernel)
@[go_sem] theorem t2435_f : flatP Tryd.prog 35 = some [.int .i64, .int .i64] := flat_of (by decide +kernel)
@[go_sem] theorem t2435_k : keyK Tryd.prog 35 = some [.int .i64, .int .i64] := key_of (by decide +kernel)
@[go_sem] theorem t2436_h : hasP Tryd.prog 36 = true := by decide +kernel
@[go_sem] theorem t2436_s : sizeP Tryd.prog 36 = 2 := by decide +kernel
@[go_sem] theorem t2436_a : aggP Tryd.prog 36 = true := by decide +kernel
@[go_sem] theorem t2436_z : zeroP Tryd.prog 36 = some [.int .i64 0, .int .i64 0] := _root_.id (by kernel_rfl)
@[go_sem] theorem t2436_o : zeroOK Tryd.prog 36 = true := by decide +kernel
@[go_sem] theorem t2436_i : zeroI Tryd.prog 36 = some (.agg [.int .i64 0, .int .i64 0]) := _root_.id (by kernel_rfl)
@[go_sem] theorem t2436_y : (((Tryd.prog.info? 36).map (·.bytes)).getD 0 ≤ 256) = True := eq_true (by decide +kernel)
@[go_sem] theorem t2436_b : (bytesP Tryd.prog 36 ≤ 1024) = True := eq_true (by decide +kernel)
@[go_sem] theorem t2436_f : flatP Tryd.prog 36 = some [.int .i64, .int .i64] := flat_of (by decide +kernel)
@[go_sem] theorem t2436_k : keyK Tryd.prog 36 = some [.int .i64, .int .i64] := key_of (by decide +kernel)
@[go_sem] theorem t2437_h : hasP Tryd.prog 37 = true := by decide +kernel
@[go_sem] theorem t2437_s : sizeP Tryd.prog 37 = 1 := by decide +kernel
@[go_sem] theorem t2437_a : aggP Tryd.prog 37 = false := by decide +kernel
@[go_sem] theorem t2437_z : zeroP Tryd.prog 37 = some [.nilf] := _root_.id (by kernel_rfl)
@[go_sem] theorem t2437_o : zeroOK Tryd.prog 37 = true := by decide +kernel
@[go_sem] theorem t2437_i : zeroI Tryd.prog 37 = some (.nilf) := _root_.id (by kernel_rfl)
@[go_sem] theorem t2437_y : (((Tryd.prog.info? 37).map (·.bytes)).getD 0 ≤ 256) = True := eq_true (by decide +kernel)
@[go_sem] theorem t2437_b : (bytesP Tryd.prog 37 ≤ 1024) = True := eq_true (by decide +kernel)
@[go_sem] theorem t2438_h : hasP Tryd.prog 38 = true := by decide +kernel
@[go_sem] theorem t2438_s : sizeP Tryd.prog 38 = 2 := by decide +kernel
@[go_sem] theorem t2438_a : aggP Tryd.prog 38 = true := by decide +kernel
@[go_sem] theorem t2438_z : zeroP Tryd.prog 38 = some [.nils, .int .i64 0] := _root_.id (by kernel_rfl)
@[go_sem] theorem t2438_o : zeroOK Tryd.prog 38 = true := by decide +kernel
@[go_sem] theorem t2438_i : zeroI Tryd.prog 38 = some (.agg [.nils, .int .i64 0]) := _root_.id (by kernel_rfl)
@[go_sem] theorem t2438_y : (((Tryd.prog.info? 38).map (·.bytes)).getD 0 ≤ 256) = True := eq_true (by decide +kernel)
@[go_sem] theorem t2438_b : (bytesP Tryd.prog 38 ≤ 1024) = True := eq_true (by decide +kernel)
@[go_sem] theorem t2439_h : hasP Tryd.prog 39 = true := by decide +kernel
@[go_sem] theorem t2439_s : sizeP Tryd.prog 39 = 1 := by decide +kernel
@[go_sem] theorem t2439_a : aggP Tryd.prog 39 = false := by decide +kernel
@[go_sem] theorem t2439_z : zeroP Tryd.prog 39 = some [.nils] := _root_.id (by kernel_rfl)
@[go_sem] theorem t2439_o : zeroOK Tryd.prog 39 = true := by decide +kernel
@[go_sem] theorem t2439_i : zeroI Tryd.prog 39 = some (.nils) := _root_.id (by kernel_rfl)
@[go_sem] theorem t2439_y : (((Tryd.prog.info? 39).map (·.bytes)).getD 0 ≤ 256) = True := eq_true (by decide +kernel)
@[go_sem] theorem t2439_b : (bytesP Tryd.prog 39 ≤ 1024) = True := eq_true (by decide +kernel)
@[go_sem] theorem t2440_h : hasP Tryd.prog 40 = true := by decide +kernel
@[go_sem] theorem t2440_s : sizeP Tryd.prog 40 = 1 := by decide +kernel
@[go_sem] theorem t2440_a : aggP Tryd.prog 40 = false := by decide +kernel
@[go_sem] theorem t2440_z : zeroP Tryd.prog 40 = some [.nilf] := _root_.id (by kernel_rfl)
@[go_sem] theorem t2440_o : zeroOK Tryd.prog 40 = true := by decide +kernel
@[go_sem] theorem t2440_i : zeroI Tryd.prog 40 = some (.nilf) := _root_.id (by kernel_rfl)
@[go_sem] theorem t2440_y : (((Tryd.prog.info? 40).map (·.bytes)).getD 0 ≤ 256) = True := eq_true (by decide +kernel)
@[go_sem] theorem t2440_b : (bytesP Tryd.prog 40 ≤ 1024) = True := eq_true (by decide +kernel)
@[go_sem] theorem t2441_h : hasP Tryd.prog 41 = true := by decide +kernel
@[go_sem] theorem t2441_s : sizeP Tryd.prog 41 = 1 := by decide +kernel
@[go_sem] theorem t2441_a : aggP Tryd.prog 41 = false := by decide +kernel
@[go_sem] theorem t2441_z : zeroP Tryd.prog 41 = some [.nilf] := _root_.id (by kernel_rfl)
@[go_sem] theorem t2441_o : zeroOK Tryd.prog 41 = true := by decide +kernel
@[go_sem] theorem t2441_i : zeroI Tryd.prog 41 = some (.nilf) := _root_.id (by kernel_rfl)
@[go_sem] theorem t2441_y : (((Tryd.prog.info? 41).map (·.bytes)).getD 0 ≤ 256) = True := eq_true (by decide +kernel)
@[go_sem] theorem t2441_b : (bytesP Tryd.prog 41 ≤ 1024) = True := eq_true (by decide +kernel)
@[go_sem] theorem t2443_h : hasP Tryd.prog 43 = true := by decide +kernel
@[go_sem] theorem t2443_s : sizeP Tryd.prog 43 = 1 := by decide +kernel
@[go_sem] theorem t2443_a : aggP Tryd.prog 43 = false := by decide +kernel
@[go_sem] theorem t2443_z : zeroP Tryd.prog 43 = some [.nilf] := _root_.id (by kernel_rfl)
@[go_sem] theorem t2443_o : zeroOK Tryd.prog 43 = true := by decide +kernel
@[go_sem] theorem t2443_i : zeroI Tryd.prog 43 = some (.nilf) := _root_.id (by kernel_rfl)
@[go_sem] theorem t2443_y : (((Tryd.prog.info? 43).map (·.bytes)).getD 0 ≤ 256) = True := eq_true (by decide +kernel)
@[go_sem] theorem t2443_b : (bytesP Tryd.prog 43 ≤ 1024) = True := eq_true (by decide +kernel)
@[go_sem] theorem t2444_h : hasP Tryd.prog 44 = true := by decide +kernel
@[go_sem] theorem t2444_s : sizeP Tryd.prog 44 = 1 := by decide +kernel
@[go_sem] theorem t2444_a : aggP Tryd.prog 44 = false := by decide +kernel
@[go_sem] theorem t2444_z : zeroP Tryd.prog 44 = some [.nilf] := _root_.id (by kernel_rfl)
@[go_sem] theorem t2444_o : zeroOK Tryd.prog 44 = true := by decide +kernel
@[go_sem] theorem t2444_i : zeroI Tryd.prog 44 = some (.nilf) := _root_.id (by kernel_rfl)
@[go_sem] theorem t2444_y : (((Tryd.prog.info? 44).map (·.bytes)).getD 0 ≤ 256) = True := eq_true (by decide +kernel)
@[go_sem] theorem t2444_b : (bytesP Tryd.prog 44 ≤ 1024) = True := eq_true (by decide +kernel)
@[go_sem] theorem t2445_h : hasP Tryd.prog 45 = true := by decide +kernel
@[go_sem] theorem t2445_s : sizeP Tryd.prog 45 = 1 := by decide +kernel
@[go_sem] theorem t2445_a : aggP Tryd.prog 45 = false := by decide +kernel
@[go_sem] theorem t2445_z : zeroP Tryd.prog 45 = some [.nilf] := _root_.id (by kernel_rfl)
@[go_sem] theorem t2445_o : zeroOK Tryd.prog 45 = true := by decide +kernel
@[go_sem] theorem t2445_i : zeroI Tryd.prog 45 = some (.nilf) := _root_.id (by kernel_rfl)
@[go_sem] theorem t2445_y : (((Tryd.prog.info? 45).map (·.bytes)).getD 0 ≤ 256) = True := eq_true (by decide +kernel)
@[go_sem] theorem t2445_b : (bytesP Tryd.prog 45 ≤ 1024) = True := eq_true (by decide +kernel)
@[go_sem] theorem t2446_h : hasP Tryd.prog 46 = true := by decide +kernel
@[go_sem] theorem t2446_s : sizeP Tryd.prog 46 = 1 := by decide +kernel
@[go_sem] theorem t2446_a : aggP Tryd.prog 46 = false := by decide +kernel
@[go_sem] theorem t2446_z : zeroP Tryd.prog 46 = some [.nilf] := _root_.id (by kernel_rfl)
@[go_sem] theorem t2446_o : zeroOK Tryd.prog 46 = true := by decide +kernel
@[go_sem] theorem t2446_i : zeroI Tryd.prog 46 = some (.nilf) := _root_.id (by kernel_rfl)
@[go_sem] theorem t2446_y : (((Tryd.prog.info? 46).map (·.bytes)).getD 0 ≤ 256) = True := eq_true (by decide +kernel)
@[go_sem] theorem t2446_b : (bytesP Tryd.prog 46 ≤ 1024) = True := eq_true (by decide +kernel)
@[go_sem] theorem t2448_h : hasP Tryd.prog 48 = true := by decide +kernel
@[go_sem] theorem t2448_s : sizeP Tryd.prog 48 = 1 := by decide +kernel
@[go_sem] theorem t2448_a : aggP Tryd.prog 48 = false := by decide +kernel
@[go_sem] theorem t2448_z : zeroP Tryd.prog 48 = some [.nilf] := _root_.id (by kernel_rfl)
@[go_sem] theorem t2448_o : zeroOK Tryd.prog 48 = true := by decide +kernel
@[go_sem] theorem t2448_i : zeroI Tryd.prog 48 = some (.nilf) := _root_.id (by kernel_rfl)
@[go_sem] theorem t2448_y : (((Tryd.prog.info? 48).map (·.bytes)).getD 0 ≤ 256) = True := eq_true (by decide +kernel)
@[go_sem] theorem t2448_b : (bytesP Tryd.prog 48 ≤ 1024) = True := eq_true (by decide +kernel)
@[go_sem] theorem t2449_h : hasP Tryd.prog 49 = true := by decide +kernel
@[go_sem] theorem t2449_s : sizeP Tryd.prog 49 = 1 := by decide +kernel
@[go_sem] theorem t2449_a : aggP Tryd.prog 49 = false := by decide +kernel
@[go_sem] theorem t2449_z : zeroP Tryd.prog 49 = some [.nilf] := _root_.id (by kernel_rfl)
@[go_sem] theorem t2449_o : zeroOK Tryd.prog 49 = true := by decide +kernel
@[go_sem] theorem t2449_i : zeroI Tryd.prog 49 = some (.nilf) := _root_.id (by kernel_rfl)
@[go_sem] theorem t2449_y : (((Tryd.prog.info? 49).map (·.bytes)).getD 0 ≤ 256) = True := eq_true (by decide +kernel)
@[go_sem] theorem t2449_b : (bytesP Tryd.prog 49 ≤ 1024) = True := eq_true (by decide +kernel)
@[go_sem] theorem t2451_h : hasP Tryd.prog 51 = true := by decide +kernel
@[go_sem] theorem t2451_s : sizeP Tryd.prog 51 = 1 := by decide +kernel
@[go_sem] theorem t2451_a : aggP Tryd.prog 51 = false := by decide +kernel
@[go_sem] theorem t2451_z : zeroP Tryd.prog 51 = some [.nilf] := _root_.id (by kernel_rfl)
@[go_sem] theorem t2451_o : zeroOK Tryd.prog 51 = true := by decide +kernel
@[go_sem] theorem t2451_i : zeroI Tryd.prog 51 = some (.nilf) := _root_.id (by kernel_rfl)
@[go_sem] theorem t2451_y : (((Tryd.prog.info? 51).map (·.bytes)).getD 0 ≤ 256) = True := eq_true (by decide +kernel)
@[go_sem] theorem t2451_b : (bytesP Tryd.prog 51 ≤ 1024) = True := eq_true (by decide +kernel)
@[go_sem] theorem t2453_h : hasP Tryd.prog 53 = true := by decide +kernel
@[go_sem] theorem t2453_s : sizeP Tryd.prog 53 = 1 := by decide +kernel
@[go_sem] theorem t2453_a : aggP Tryd.prog 53 = false := by decide +kernel
@[go_sem] theorem t2453_z : zeroP Tryd.prog 53 = some [.nilf] := _root_.id (by kernel_rfl)
@[go_sem] theorem t2453_o : zeroOK Tryd.prog 53 = true := by decide +kernel
@[go_sem] theorem t2453_i : zeroI Tryd.prog 53 = some (.nilf) := _root_.id (by kernel_rfl)
@[go_sem] theorem t2453_y : (((Tryd.prog.info? 53).map (·.bytes)).getD 0 ≤ 256) = True := eq_true (by decide +kernel)
@[go_sem] theorem t2453_b : (bytesP Tryd.prog 53 ≤ 1024) = True := eq_true (by decide +kernel)
@[go_sem] theorem t2454_h : hasP Tryd.prog 54 = true := by decide +kernel
@[go_sem] theorem t2454_s : sizeP Tryd.prog 54 = 1 := by decide +kernel
@[go_sem] theorem t2454_a : aggP Tryd.prog 54 = false := by decide +kernel
@[go_sem] theorem t2454_z : zeroP Tryd.prog 54 = some [.nilf] := _root_.id (by kernel_rfl)
@[go_sem] theorem t2454_o : zeroOK Tryd.prog 54 = true := by decide +kernel
@[go_sem] theorem t2454_i : zeroI Tryd.prog 54 = some (.nilf) := _root_.id (by kernel_rfl)
@[go_sem] theorem t2454_y : (((Tryd.prog.info? 54).map (·.bytes)).getD 0 ≤ 256) = True := eq_true (by decide +kernel)
@[go_sem] theorem t2454_b : (bytesP Tryd.prog 54 ≤ 1024) = True := eq_true (by decide +kernel)
@[go_sem] theorem t2455_h : hasP Tryd.prog 55 = true := by decide +kernel
@[go_sem] theorem t2455_s : sizeP Tryd.prog 55 = 2 := by decide +kernel
@[go_sem] theorem t2455_a : aggP Tryd.prog 55 = true := by decide +kernel
@[go_sem] theorem t2455_z : zeroP Tryd.prog 55 = some [.nils, .int .i64 0] := _root_.id (by kernel_rfl)
@[go_sem] theorem t2455_o : zeroOK Tryd.prog 55 = true := by decide +kernel
@[go_sem] theorem t2455_i : zeroI Tryd.prog 55 = some (.agg [.nils, .int .i64 0]) := _root_.id (by kernel_rfl)
@[go_sem] theorem t2455_y : (((Tryd.prog.info? 55).map (·.bytes)).getD 0 ≤ 256) = True := eq_true (by decide +kernel)
@[go_sem] theorem t2455_b : (bytesP Tryd.prog 55 ≤ 1024) = True := eq_true (by decide +kernel)
@[go_sem] theorem t2456_h : hasP Tryd.prog 56 = true := by decide +kernel
@[go_sem] theorem t2456_s : sizeP Tryd.prog 56 = 1 := by decide +kernel
@[go_sem] theorem t2456_a : aggP Tryd.prog 56 = false := by decide +kernel
@[go_sem] theorem t2456_z : zeroP Tryd.prog 56 = some [.nils] := _root_.id (by kernel_rfl)
@[go_sem] theorem t2456_o : zeroOK Tryd.prog 56 = true := by decide +kernel
@[go_sem] theorem t2456_i : zeroI Tryd.prog 56 = some (.nils) := _root_.id (by kernel_rfl)
@[go_sem] theorem t2456_y : (((Tryd.prog.info? 56).map (·.bytes)).getD 0 ≤ 256) = True := eq_true (by decide +kernel)
@[go_sem] theorem t2456_b : (bytesP Tryd.prog 56 ≤ 1024) = True := eq_true (by decide +kernel)
@[go_sem] theorem t2457_h : hasP Tryd.prog 57 = true := by decide +kernel
@[go_sem] theorem t2457_s : sizeP Tryd.prog 57 = 1 := by decide +kernel
@[go_sem] theorem t2457_a : aggP Tryd.prog 57 = false := by decide +kernel
@[go_sem] theorem t2457_z : zeroP Tryd.prog 57 = some [.int .i16 0] := _root_.id (by kernel_rfl)
@[go_sem] theorem t2457_o : zeroOK Tryd.prog 57 = true := by decide +kernel
@[go_sem] theorem t2457_i : zeroI Tryd.prog 57 = some (.int .i16 0) := _root_.id (by kernel_rfl)
@[go_sem] theorem t2457_y : (((Tryd.prog.info? 57).map (·.bytes)).getD 0 ≤ 256) = True := eq_true (by decide +kernel)
@[go_sem] theorem t2457_b : (bytesP Tryd.prog 57 ≤ 1024) = True := eq_true (by decide +kernel)
@[go_sem] theorem t2457_k : keyK Tryd.prog 57 = some [.int .i16] := key_of (by decide +kernel)
@[go_sem] theorem t2458_h : hasP Tryd.prog 58 = true := by decide +kernel
@[go_sem] theorem t2458_s : sizeP Tryd.prog 58 = 1 := by decide +kernel
@[go_sem] theorem t2458_a : aggP Tryd.prog 58 = false := by decide +kernel
@[go_sem] theorem t2458_z : zeroP Tryd.prog 58 = some [.nilf] := _root_.id (by kernel_rfl)
@[go_sem] theorem t2458_o : zeroOK Tryd.prog 58 = true := by decide +kernel
@[go_sem] theorem t2458_i : zeroI Tryd.prog 58 = some (.nilf) := _root_.id (by kernel_rfl)
@[go_sem] theorem t2458_y : (((Tryd.prog.info? 58).map (·.bytes)).getD 0 ≤ 256) = True := eq_true (by decide +kernel)
@[go_sem] theorem t2458_b : (bytesP Tryd.prog 58 ≤ 1024) = True := eq_true (by decide +kernel)
@[go_sem] theorem t2459_h : hasP Tryd.prog 59 = true := by decide +kernel
@[go_sem] theorem t2459_s : sizeP Tryd.prog 59 = 1 := by decide +kernel
@[go_sem] theorem t2459_a : aggP Tryd.prog 59 = false := by decide +kernel
@[go_sem] theorem t2459_z : zeroP Tryd.prog 59 = some [.nilf] := _root_.id (by kernel_rfl)
@[go_sem] theorem t2459_o : zeroOK Tryd.prog 59 = true := by decide +kernel
@[go_sem] theorem t2459_i : zeroI Tryd.prog 59 = some (.nilf) := _root_.id (by kernel_rfl)
@[go_sem] theorem t2459_y : (((Tryd.prog.info? 59).map (·.bytes)).getD 0 ≤ 256) = True := eq_true (by decide +kernel)
@[go_sem] theorem t2459_b : (bytesP Tryd.prog 59 ≤ 1024) = True := eq_true (by decide +kernel)
@[go_sem] theorem t2461_h : hasP Tryd.prog 61 = true := by decide +kernel
@[go_sem] theorem t2461_s : sizeP Tryd.prog 61 = 1 := by decide +kernel
@[go_sem] theorem t2461_a : aggP Tryd.prog 61 = false := by decide +kernel
@[go_sem] theorem t2461_z : zeroP Tryd.prog 61 = some [.nilf] := _root_.id (by kernel_rfl)
@[go_sem] theorem t2461_o : zeroOK Tryd.prog 61 = true := by decide +kernel
@[go_sem] theorem t2461_i : zeroI Tryd.prog 61 = some (.nilf) := _root_.id (by kernel_rfl)
@[go_sem] theorem t2461_y : (((Tryd.prog.info? 61).map (·.bytes)).getD 0 ≤ 256) = True := eq_true (by decide +kernel)
@[go_sem] theorem t2461_b : (bytesP Tryd.prog 61 ≤ 1024) = True := eq_true (by decide +kernel)
@[go_sem] theorem t2462_h : hasP Tryd.prog 62 = true := by decide +kernel
@[go_sem] theorem t2462_s : sizeP Tryd.prog 62 = 1 := by decide +kernel
@[go_sem] theorem t2462_a : aggP Tryd.prog 62 = false := by decide +kernel
@[go_sem] theorem t2462_z : zeroP Tryd.prog 62 = some [.nilf] := _root_.id (by kernel_rfl)
@[go_sem] theorem t2462_o : zeroOK Tryd.prog 62 = true := by decide +kernel
@[go_sem] theorem t2462_i : zeroI Tryd.prog 62 = some (.nilf) := _root_.id (by kernel_rfl)
@[go_sem] theorem t2462_y : (((Tryd.prog.info? 62).map (·.bytes)).getD 0 ≤ 256) = True := eq_true (by decide +kernel)
@[go_sem] theorem t2462_b : (bytesP Tryd.prog 62 ≤ 1024) = True := eq_true (by decide +kernel)
@[go_sem] theorem t2463_h : hasP Tryd.prog 63 = true := by decide +kernel
@[go_sem] theorem t2463_s : sizeP Tryd.prog 63 = 1 := by decide +kernel
@[go_sem] theorem t2463_a : aggP Tryd.prog 63 = false := by decide +kernel
@[go_sem] theorem t2463_z : zeroP Tryd.prog 63 = some [.nilf] := _root_.id (by kernel_rfl)
@[go_sem] theorem t2463_o : zeroOK Tryd.prog 63 = true := by decide +kernel
@[go_sem] theorem t2463_i : zeroI Tryd.prog 63 = some (.nilf) := _root_.id (by kernel_rfl)
@[go_sem] theorem t2463_y : (((Tryd.prog.info? 63).map (·.bytes)).getD 0 ≤ 256) = True := eq_true (by decide +kernel)
@[go_sem] theorem t2463_b : (bytesP Tryd.prog 63 ≤ 1024) = True := eq_true (by decide +kernel)
@[go_sem] theorem t2464_h : hasP Tryd.prog 64 = true := by decide +kernel
@[go_sem] theorem t2464_s : sizeP Tryd.prog 64 = 1 := by decide +kernel
@[go_sem] theorem t2464_a : aggP Tryd.prog 64 = false := by decide +kernel
@[go_sem] theorem t2464_z : zeroP Tryd.prog 64 = some [.nilf] := _root_.id (by kernel_rfl)
@[go_sem] theorem t2464_o : zeroOK Tryd.prog 64 = true := by decide +kernel
@[go_sem] theorem t2464_i : zeroI Tryd.prog 64 = some (.nilf) := _root_.id (by kernel_rfl)
@[go_sem] theorem t2464_y : (((Tryd.prog.info? 64).map (·.bytes)).getD 0 ≤ 256) = True := eq_true (by decide +kernel)
@[go_sem] theorem t2464_b : (bytesP Tryd.prog 64 ≤ 1024) = True := eq_true (by decide +kernel)
@[go_sem] theorem t2465_h : hasP Tryd.prog 65 = true := by decide +kernel
@[go_sem] theorem t2465_s : sizeP Tryd.prog 65 = 1 := by decide +kernel
@[go_sem] theorem t2465_a : aggP Tryd.prog 65 = false := by decide +kernel
@[go_sem] theorem t2465_z : zeroP Tryd.prog 65 = some [.nilf] := _root_.id (by kernel_rfl)
@[go_sem] theorem t2465_o : zeroOK Tryd.prog 65 = true := by decide +kernel
@[go_sem] theorem t2465_i : zeroI Tryd.prog 65 = some (.nilf) := _root_.id (by kernel_rfl)
@[go_sem] theorem t2465_y : (((Tryd.prog.info? 65).map (·.bytes)).getD 0 ≤ 256) = True := eq_true (by decide +kernel)
@[go_sem] theorem t2465_b : (bytesP Tryd.prog 65 ≤ 1024) = True := eq_true (by decide +kernel)
@[go_sem] theorem t2466_h : hasP Tryd.prog 66 = true := by decide +kernel
@[go_sem] theorem t2466_s : sizeP Tryd.prog 66 = 1 := by decide +kernel
@[go_sem] theorem t2466_a : aggP Tryd.prog 66 = false := by decide +kernel
@[go_sem] theorem t2466_z : zeroP Tryd.prog 66 = some [.nilf] := _root_.id (by kernel_rfl)
@[go_sem] theorem t2466_o : zeroOK Tryd.prog 66 = true := by decide +kernel
@[go_sem] theorem t2466_i : zeroI Tryd.prog 66 = some (.nilf) := _root_.id (by kernel_rfl)
@[go_sem] theorem t2466_y : (((Tryd.prog.info? 66).map (·.bytes)).getD 0 ≤ 256) = True := eq_true (by decide +kernel)
@[go_sem] theorem t2466_b : (bytesP Tryd.prog 66 ≤ 1024) = True := eq_true (by decide +kernel)
@[go_sem] theorem t2467_h : hasP Tryd.prog 67 = true := by decide +kernel
@[go_sem] theorem t2467_s : sizeP Tryd.prog 67 = 1 := by decide +kernel
@[go_sem] theorem t2467_a : aggP Tryd.prog 67 = false := by decide +kernel
@[go_sem] theorem t2467_z : zeroP Tryd.prog 67 = some [.nilf] := _root_.id (by kernel_rfl)
@[go_sem] theorem t2467_o : zeroOK Tryd.prog 67 = true := by decide +kernel
@[go_sem] theorem t2467_i : zeroI Tryd.prog 67 = some (.nilf) := _root_.id (by kernel_rfl)
@[go_sem] theorem t2467_y : (((Tryd.prog.info? 67).map (·.bytes)).getD 0 ≤ 256) = True := eq_true (by decide +kernel)
@[go_sem] theorem t2467_b : (bytesP Tryd.prog 67 ≤ 1024) = True := eq_true (by decide +kernel)
@[go_sem] theorem t2468_h : hasP Tryd.prog 68 = true := by decide +kernel
@[go_sem] theorem t2468_s : sizeP Tryd.prog 68 = 1 := by decide +kernel
@[go_sem] theorem t2468_a : aggP Tryd.prog 68 = false := by decide +kernel
@[go_sem] theorem t2468_z : zeroP Tryd.prog 68 = some [.nilf] := _root_.id (by kernel_rfl)
@[go_sem] theorem t2468_o : zeroOK Tryd.prog 68 = true := by decide +kernel
@[go_sem] theorem t2468_i : zeroI Tryd.prog 68 = some (.nilf) := _root_.id (by kernel_rfl)
@[go_sem] theorem t2468_y : (((Tryd.prog.info? 68).map (·.bytes)).getD 0 ≤ 256) = True := eq_true (by decide +kernel)
@[go_sem] theorem t2468_b : (bytesP Tryd.prog 68 ≤ 1024) = True := eq_true (by decide +kernel)
@[go_sem] theorem t2469_h : hasP Tryd.prog 69 = true := by decide +kernel
@[go_sem] theorem t2469_s : sizeP Tryd.prog 69 = 1 := by decide +kernel
@[go_sem] theorem t2469_a : aggP Tryd.prog 69 = false := by decide +kernel
@[go_sem] theorem t2469_z : zeroP Tryd.prog 69 = some [.int .u64 0] := _root_.id (by kernel_rfl)
@[go_sem] theorem t2469_o : zeroOK Tryd.prog 69 = true := by decide +kernel
@[go_sem] theorem t2469_i : zeroI Tryd.prog 69 = some (.int .u64 0) := _root_.id (by kernel_rfl)
@[go_sem] theorem t2469_y : (((Tryd.prog.info? 69).map (·.bytes)).getD 0 ≤ 256) = True := eq_true (by decide +kernel)
@[go_sem] theorem t2469_b : (bytesP Tryd.prog 69 ≤ 1024) = True := eq_true (by decide +kernel)
@[go_sem] theorem t2469_k : keyK Tryd.prog 69 = some [.int .u64] := key_of (by decide +kernel)
@[go_sem] theorem t2470_h : hasP Tryd.prog 70 = true := by decide +kernel
@[go_sem] theorem t2470_s : sizeP Tryd.prog 70 = 2 := by decide +kernel
@[go_sem] theorem t2470_a : aggP Tryd.prog 70 = true := by decide +kernel
@[go_sem] theorem t2470_z : zeroP Tryd.prog 70 = some [.int .u64 0, .int .u64 0] := _root_.id (by kernel_rfl)
@[go_sem] theorem t2470_o : zeroOK Tryd.prog 70 = true := by decide +kernel
@[go_sem] theorem t2470_i : zeroI Tryd.prog 70 = some (.agg [.int .u64 0, .int .u64 0]) := _root_.id (by kernel_rfl)
@[go_sem] theorem t2470_y : (((Tryd.prog.info? 70).map (·.bytes)).getD 0 ≤ 256) = True := eq_true (by decide +kernel)
@[go_sem] theorem t2470_b : (bytesP Tryd.prog 70 ≤ 1024) = True := eq_true (by decide +kernel)
@[go_sem] theorem t2470_f : flatP Tryd.prog 70 = some [.int .u64, .int .u64] := flat_of (by decide +kernel)
@[go_sem] theorem t2470_k : keyK Tryd.prog 70 = some [.int .u64, .int .u64] := key_of (by decide +kernel)
@[go_sem] theorem t2471_h : hasP Tryd.prog 71 = true := by decide +kernel
@[go_sem] theorem t2471_s : sizeP Tryd.prog 71 = 2 := by decide +kernel
@[go_sem] theorem t2471_a : aggP Tryd.prog 71 = true := by decide +kernel
@[go_sem] theorem t2471_z : zeroP Tryd.prog 71 = some [.int .u64 0, .int .u64 0] := _root_.id (by kernel_rfl)
@[go_sem] theorem t2471_o : zeroOK Tryd.prog 71 = true := by decide +kernel
@[go_sem] theorem t2471_i : zeroI Tryd.prog 71 = some (.agg [.int .u64 0, .int .u64 0]) := _root_.id (by kernel_rfl)
@[go_sem] theorem t2471_y : (((Tryd.prog.info? 71).map (·.bytes)).getD 0 ≤ 256) = True := eq_true (by decide +kernel)
@[go_sem] theorem t2471_b : (bytesP Tryd.prog 71 ≤ 1024) = True := eq_true (by decide +kernel)
@[go_sem] theorem t2471_f : flatP Tryd.prog 71 = some [.int .u64, .int .u64] := flat_of (by decide +kernel)
@[go_sem] theorem t2471_k : keyK Tryd.prog 71 = some [.int .u64, .int .u64] := key_of (by decide +kernel)
@[go_sem] theorem t2472_h : hasP Tryd.prog 72 = true := by decide +kernel
@[go_sem] theorem t2472_s : sizeP Tryd.prog 72 = 1 := by decide +kernel
@[go_sem] theorem t2472_a : aggP Tryd.prog 72 = false := by decide +kernel
@[go_sem] theorem t2472_z : zeroP Tryd.prog 72 = some [.nilf] := _root_.id (by kernel_rfl)
@[go_sem] theorem t2472_o : zeroOK Tryd.prog 72 = true := by decide +kernel
@[go_sem] theorem t2472_i : zeroI Tryd.prog 72 = some (.nilf) := _root_.id (by kernel_rfl)
@[go_sem] theorem t2472_y : (((Tryd.prog.info? 72).map (·.bytes)).getD 0 ≤ 256) = True := eq_true (by decide +kernel)
@[go_sem] theorem t2472_b : (bytesP Tryd.prog 72 ≤ 1024) = True := eq_true (by decide +kernel)
@[go_sem] theorem t2473_h : hasP Tryd.prog 73 = true := by decide +kernel
@[go_sem] theorem t2473_s : sizeP Tryd.prog 73 = 1 := by decide +kernel
@[go_sem] theorem t2473_a : aggP Tryd.prog 73 = false := by decide +kernel
@[go_sem] theorem t2473_z : zeroP Tryd.prog 73 = some [.nilf] := _root_.id (by kernel_rfl)
@[go_sem] theorem t2473_o : zeroOK Tryd.prog 73 = true := by decide +kernel
@[go_sem] theorem t2473_i : zeroI Tryd.prog 73 = some (.nilf) := _root_.id (by kernel_rfl)
@[go_sem] theorem t2473_y : (((Tryd.prog.info? 73).map (·.bytes)).getD 0 ≤ 256) = True := eq_true (by decide +kernel)
@[go_sem] theorem t2473_b : (bytesP Tryd.prog 73 ≤ 1024) = True := eq_true (by decide +kernel)
@[go_sem] theorem t2474_h : hasP Tryd.prog 74 = true := by decide +kernel
@[go_sem] theorem t2474_s : sizeP Tryd.prog 74 = 1 := by decide +kernel
@[go_sem] theorem t2474_a : aggP Tryd.prog 74 = false := by decide +kernel
@[go_sem] theorem t2474_z : zeroP Tryd.prog 74 = some [.nilf] := _root_.id (by kernel_rfl)
@[go_sem] theorem t2474_o : zeroOK Tryd.prog 74 = true := by decide +kernel
@[go_sem] theorem t2474_i : zeroI Tryd.prog 74 = some (.nilf) := _root_.id (by kernel_rfl)
@[go_sem] theorem t2474_y : (((Tryd.prog.info? 74).map (·.bytes)).getD 0 ≤ 256) = True := eq_true (by decide +kernel)
@[go_sem] theorem t2474_b : (bytesP Tryd.prog 74 ≤ 1024) = True := eq_true (by decide +kernel)
@[go_sem] theorem t2475_h : hasP Tryd.prog 75 = true := by decide +kernel
@[go_sem] theorem t2475_s : sizeP Tryd.prog 75 = 1 := by decide +kernel
@[go_sem] theorem t2475_a : aggP Tryd.prog 75 = false := by decide +kernel
@[go_sem] theorem t2475_z : zeroP Tryd.prog 75 = some [.nilf] := _root_.id (by kernel_rfl)
@[go_sem] theorem t2475_o : zeroOK Tryd.prog 75 = true := by decide +kernel
@[go_sem] theorem t2475_i : zeroI Tryd.prog 75 = some (.nilf) := _root_.id (by kernel_rfl)
@[go_sem] theorem t2475_y : (((Tryd.prog.info? 75).map (·.bytes)).getD 0 ≤ 256) = True := eq_true (by decide +kernel)
@[go_sem] theorem t2475_b : (bytesP Tryd.prog 75 ≤ 1024) = True := eq_true (by decide +kernel)
@[go_sem] theorem t2476_h : hasP Tryd.prog 76 = true := by decide +kernel
@[go_sem] theorem t2476_s : sizeP Tryd.prog 76 = 24 := by decide +kernel
@[go_sem] theorem t2476_a : aggP Tryd.prog 76 = true := by decide +kernel
@[go_sem] theorem t2476_z : zeroP Tryd.prog 76 = some [.int .i64 0, .int .i64 0, .int .i64 0, .int .i64 0, .int .i64 0, .int .i64 0, .int .i64 0, .int .i64 0, .int .i64 0, .int .i64 0, .int .i64 0, .int .i64 0, .int .i64 0, .int .i64 0, .int .i64 0, .int .i64 0, .int .i64 0, .int .i64 0, .int .i64 0, .int .i64 0, .int .i64 0, .int .i64 0, .int .i64 0, .int .i64 0] := _root_.id (by kernel_rfl)
@[go_sem] theorem t2476_o : zeroOK Tryd.prog 76 = true := by decide +kernel
@[go_sem] theorem t2476_i : zeroI Tryd.prog 76 = some (.agg [.int .i64 0, .int .i64 0, .int .i64 0, .int .i64 0, .int .i64 0, .int .i64 0, .int .i64 0, .int .i64 0, .int .i64 0, .int .i64 0, .int .i64 0, .int .i64 0, .int .i64 0, .int .i64 0, .int .i64 0, .int .i64 0, .int .i64 0, .int .i64 0, .int .i64 0, .int .i64 0, .int .i64 0, .int .i64 0, .int .i64 0, .int .i64 0]) := _root_.id (by kernel_rfl)
@[go_sem] theorem t2476_b : (bytesP Tryd.prog 76 ≤ 1024) = True := eq_true (by decide +kernel)
@[go_sem] theorem t2476_f : flatP Tryd.prog 76 = some [.int .i64, .int .i64, .int .i64, .int .i64, .int .i64, .int .i64, .int .i64, .int .i64, .int .i64, .int .i64, .int .i64, .int .i64, .int .i64, .int .i64, .int .i64, .int .i64, .int .i64, .int .i64, .int .i64, .int .i64, .int .i64, .int .i64, .int .i64, .int .i64] := flat_of (by decide +kernel)
@[go_sem] theorem t2476_k : keyK Tryd.prog 76 = some [.int .i64, .int .i64, .int .i64, .int .i64, .int .i64, .int .i64, .int .i64, .int .i64, .int .i64, .int .i64, .int .i64, .int .i64, .int .i64, .int .i64, .int .i64, .int .i64, .int .i64, .int .i64, .int .i64, .int .i64, .int .i64, .int .i64, .int .i64, .int .i64] := key_of (by decide +kernel)
@[go_sem] theorem t2477_h : hasP Tryd.prog 77 = true := by decide +kernel
@[go_sem] theorem t2477_s : sizeP Tryd.prog 77 = 1 := by decide +kernel
@[go_sem] theorem t2477_a : aggP Tryd.prog 77 = false := by decide +kernel
@[go_sem] theorem t2477_z : zeroP Tryd.prog 77 = some [.nilf] := _root_.id (by kernel_rfl)
@[go_sem] theorem t2477_o : zeroOK Tryd.prog 77 = true := by decide +kernel
@[go_sem] theorem t2477_i : zeroI Tryd.prog 77 = some (.nilf) := _root_.id (by kernel_rfl)
@[go_sem] theorem t2477_y : (((Tryd.prog.info? 77).map (·.bytes)).getD 0 ≤ 256) = True := eq_true (by decide +kernel)
@[go_sem] theorem t2477_b : (bytesP Tryd.prog 77 ≤ 1024) = True := eq_true (by decide +kernel)
@[go_sem] theorem t2479_h : hasP Tryd.prog 79 = true := by decide +kernel
@[go_sem] theorem t2479_s : sizeP Tryd.prog 79 = 1 := by decide +kernel
@[go_sem] theorem t2479_a : aggP Tryd.prog 79 = false := by decide +kernel
@[go_sem] theorem t2479_z : zeroP Tryd.prog 79 = some [.nilf] := _root_.id (by kernel_rfl)
@[go_sem] theorem t2479_o : zeroOK Tryd.prog 79 = true := by decide +kernel
@[go_sem] theorem t2479_i : zeroI Tryd.prog 79 = some (.nilf) := _root_.id (by kernel_rfl)
@[go_sem] theorem t2479_y : (((Tryd.prog.info? 79).map (·.bytes)).getD 0 ≤ 256) = True := eq_true (by decide +kernel)
@[go_sem] theorem t2479_b : (bytesP Tryd.prog 79 ≤ 1024) = True := eq_true (by decide +kernel)
@[go_sem] theorem t2480_h : hasP Tryd.prog 80 = true := by decide +kernel
@[go_sem] theorem t2480_s : sizeP Tryd.prog 80 = 1 := by decide +kernel
@[go_sem] theorem t2480_a : aggP Tryd.prog 80 = false := by decide +kernel
@[go_sem] theorem t2480_z : zeroP Tryd.prog 80 = some [.nilf] := _root_.id (by kernel_rfl)
@[go_sem] theorem t2480_o : zeroOK Tryd.prog 80 = true := by decide +kernel
@[go_sem] theorem t2480_i : zeroI Tryd.prog 80 = some (.nilf) := _root_.id (by kernel_rfl)
@[go_sem] theorem t2480_y : (((Tryd.prog.info? 80).map (·.bytes)).getD 0 ≤ 256) = True := eq_true (by decide +kernel)
@[go_sem] theorem t2480_b : (bytesP Tryd.prog 80 ≤ 1024) = True := eq_true (by decide +kernel)
@[go_sem] theorem t2481_h : hasP Tryd.prog 81 = true := by decide +kernel
@[go_sem] theorem t2481_s : sizeP Tryd.prog 81 = 1 := by decide +kernel
@[go_sem] theorem t2481_a : aggP Tryd.prog 81 = false := by decide +kernel
@[go_sem] theorem t2481_z : zeroP Tryd.prog 81 = some [.nilf] := _root_.id (by kernel_rfl)
@[go_sem] theorem t2481_o : zeroOK Tryd.prog 81 = true := by decide +kernel
@[go_sem] theorem t2481_i : zeroI Tryd.prog 81 = some (.nilf) := _root_.id (by kernel_rfl)
@[go_sem] theorem t2481_y : (((Tryd.prog.info? 81).map (·.bytes)).getD 0 ≤ 256) = True := eq_true (by decide +kernel)
@[go_sem] theorem t2481_b : (bytesP Tryd.prog 81 ≤ 1024) = True := eq_true (by decide +kernel)
@[go_sem] theorem t2482_h : hasP Tryd.prog 82 = true := by decide +kernel
@[go_sem] theorem t2482_s : sizeP Tryd.prog 82 = 1 := by decide +kernel
@[go_sem] theorem t2482_a : aggP Tryd.prog 82 = false := by decide +kernel
@[go_sem] theorem t2482_z : zeroP Tryd.prog 82 = some [.nilf] := _root_.id (by kernel_rfl)
@[go_sem] theorem t2482_o : zeroOK Tryd.prog 82 = true := by decide +kernel
@[go_sem] theorem t2482_i : zeroI Tryd.prog 82 = some (.nilf) := _root_.id (by kernel_rfl)
@[go_sem] theorem t2482_y : (((Tryd.prog.info? 82).map (·.bytes)).getD 0 ≤ 256) = True := eq_true (by decide +kernel)
@[go_sem] theorem t2482_b : (bytesP Tryd.prog 82 ≤ 1024) = True := eq_true (by decide +kernel)
@[go_sem] theorem t2483_h : hasP Tryd.prog 83 = true := by decide +kernel
@[go_sem] theorem t2483_s : sizeP Tryd.prog 83 = 1 := by decide +kernel
@[go_sem] theorem t2483_a : aggP Tryd.prog 83 = false := by decide +kernel
@[go_sem] theorem t2483_z : zeroP Tryd.prog 83 = some [.nilf] := _root_.id (by kernel_rfl)
@[go_sem] theorem t2483_o : zeroOK Tryd.prog 83 = true := by decide +kernel
@[go_sem] theorem t2483_i : zeroI Tryd.prog 83 = some (.nilf) := _root_.id (by kernel_rfl)
@[go_sem] theorem t2483_y : (((Tryd.prog.info? 83).map (·.bytes)).getD 0 ≤ 256) = True := eq_true (by decide +kernel)
@[go_sem] theorem t2483_b : (bytesP Tryd.prog 83 ≤ 1024) = True := eq_true (by decide +kernel)
@[go_sem] theorem t2484_h : hasP Tryd.prog 84 = true := by decide +kernel
@[go_sem] theorem t2484_s : sizeP Tryd.prog 84 = 1 := by decide +kernel
@[go_sem] theorem t2484_a : aggP Tryd.prog 84 = false := by decide +kernel
@[go_sem] theorem t2484_z : zeroP Tryd.prog 84 = some [.nilf] := _root_.id (by kernel_rfl)
@[go_sem] theorem t2484_o : zeroOK Tryd.prog 84 = true := by decide +kernel
@[go_sem] theorem t2484_i : zeroI Tryd.prog 84 = some (.nilf) := _root_.id (by kernel_rfl)
@[go_sem] theorem t2484_y : (((Tryd.prog.info? 84).map (·.bytes)).getD 0 ≤ 256) = True := eq_true (by decide +kernel)
@[go_sem] theorem t2484_b : (bytesP Tryd.prog 84 ≤ 1024) = True := eq_true (by decide +kernel)
@[go_sem] theorem t2485_h : hasP Tryd.prog 85 = true := by decide +kernel
@[go_sem] theorem t2485_s : sizeP Tryd.prog 85 = 1 := by decide +kernel
@[go_sem] theorem t2485_a : aggP Tryd.prog 85 = false := by decide +kernel
@[go_sem] theorem t2485_z : zeroP Tryd.prog 85 = some [.nilf] := _root_.id (by kernel_rfl)
@[go_sem] theorem t2485_o : zeroOK Tryd.prog 85 = true := by decide +kernel
@[go_sem] theorem t2485_i : zeroI Tryd.prog 85 = some (.nilf) := _root_.id (by kernel_rfl)
@[go_sem] theorem t2485_y : (((Tryd.prog.info? 85).map (·.bytes)).getD 0 ≤ 256) = True := eq_true (by decide +kernel)
@[go_sem] theorem t2485_b : (bytesP Tryd.prog 85 ≤ 1024) = True := eq_true (by decide +kernel)
@[go_sem] theorem t2486_h : hasP Tryd.prog 86 = true := by decide +kernel
@[go_sem] theorem t2486_s : sizeP Tryd.prog 86 = 1 := by decide +kernel
@[go_sem] theorem t2486_a : aggP Tryd.prog 86 = false := by decide +kernel
@[go_sem] theorem t2486_z : zeroP Tryd.prog 86 = some [.int .u64 0] := _root_.id (by kernel_rfl)
@[go_sem] theorem t2486_o : zeroOK Tryd.prog 86 = true := by decide +kernel
@[go_sem] theorem t2486_i : zeroI Tryd.prog 86 = some (.int .u64 0) := _root_.id (by kernel_rfl)
@[go_sem] theorem t2486_y : (((Tryd.prog.info? 86).map (·.bytes)).getD 0 ≤ 256) = True := eq_true (by decide +kernel)
@[go_sem] theorem t2486_b : (bytesP Tryd.prog 86 ≤ 1024) = True := eq_true (by decide +kernel)
@[go_sem] theorem t2486_k : keyK Tryd.prog 86 = some [.int .u64] := key_of (by decide +kernel)
@[go_sem] theorem t2488_h : hasP Tryd.prog 88 = true := by decide +kernel
@[go_sem] theorem t2488_s : sizeP Tryd.prog 88 = 1 := by decide +kernel
@[go_sem] theorem t2488_a : aggP Tryd.prog 88 = false := by decide +kernel
@[go_sem] theorem t2488_z : zeroP Tryd.prog 88 = some [.nilf] := _root_.id (by kernel_rfl)
@[go_sem] theorem t2488_o : zeroOK Tryd.prog 88 = true := by decide +kernel
@[go_sem] theorem t2488_i : zeroI Tryd.prog 88 = some (.nilf) := _root_.id (by kernel_rfl)
@[go_sem] theorem t2488_y : (((Tryd.prog.info? 88).map (·.bytes)).getD 0 ≤ 256) = True := eq_true (by decide +kernel)
@[go_sem] theorem t2488_b : (bytesP Tryd.prog 88 ≤ 1024) = True := eq_true (by decide +kernel)
@[go_sem] theorem t2489_h : hasP Tryd.prog 89 = true := by decide +kernel
@[go_sem] theorem t2489_s : sizeP Tryd.prog 89 = 1 := by decide +kernel
@[go_sem] theorem t2489_a : aggP Tryd.prog 89 = false := by decide +kernel
@[go_sem] theorem t2489_z : zeroP Tryd.prog 89 = some [.nilf] := _root_.id (by kernel_rfl)
@[go_sem] theorem t2489_o : zeroOK Tryd.prog 89 = true := by decide +kernel
@[go_sem] theorem t2489_i : zeroI Tryd.prog 89 = some (.nilf) := _root_.id (by kernel_rfl)
@[go_sem] theorem t2489_y : (((Tryd.prog.info? 89).map (·.bytes)).getD 0 ≤ 256) = True := eq_true (by decide +kernel)
@[go_sem] theorem t2489_b : (bytesP Tryd.prog 89 ≤ 1024) = True := eq_true (by decide +kernel)
@[go_sem] theorem t2490_h : hasP Tryd.prog 90 = true := by decide +kernel
@[go_sem] theorem t2490_s : sizeP Tryd.prog 90 = 1 := by decide +kernel
@[go_sem] theorem t2490_a : aggP Tryd.prog 90 = false := by decide +kernel
@[go_sem] theorem t2490_z : zeroP Tryd.prog 90 = some [.nilf] := _root_.id (by kernel_rfl)
@[go_sem] theorem t2490_o : zeroOK Tryd.prog 90 = true := by decide +kernel
@[go_sem] theorem t2490_i : zeroI Tryd.prog 90 = some (.nilf) := _root_.id (by kernel_rfl)
@[go_sem] theorem t2490_y : (((Tryd.prog.info? 90).map (·.bytes)).getD 0 ≤ 256) = True := eq_true (by decide +kernel)
@[go_sem] theorem t2490_b : (bytesP Tryd.prog 90 ≤ 1024) = True := eq_true (by decide +kernel)
@[go_sem] theorem t2491_h : hasP Tryd.prog 91 = true := by decide +kernel
@[go_sem] theorem t2491_s : sizeP Tryd.prog 91 = 1 := by decide +kernel
@[go_sem] theorem t2491_a : aggP Tryd.prog 91 = false := by decide +kernel
@[go_sem] theorem t2491_z : zeroP Tryd.prog 91 = some [.nilf] := _root_.id (by kernel_rfl)
@[go_sem] theorem t2491_o : zeroOK Tryd.prog 91 = true := by decide +kernel
@[go_sem] theorem t2491_i : zeroI Tryd.prog 91 = some (.nilf) := _root_.id (by kernel_rfl)
@[go_sem] theorem t2491_y : (((Tryd.prog.info? 91).map (·.bytes)).getD 0 ≤ 256) = True := eq_true (by decide +kernel)
@[go_sem] theorem t2491_b : (bytesP Tryd.prog 91 ≤ 1024) = True := eq_true (by decide +kernel)
@[go_sem] theorem t2492_h : hasP Tryd.prog 92 = true := by decide +kernel
@[go_sem] theorem t2492_s : sizeP Tryd.prog 92 = 1 := by decide +kernel
@[go_sem] theorem t2492_a : aggP Tryd.prog 92 = false := by decide +kernel
@[go_sem] theorem t2492_z : zeroP Tryd.prog 92 = some [.nilf] := _root_.id (by kernel_rfl)
@[go_sem] theorem t2492_o : zeroOK Tryd.prog 92 = true := by decide +kernel
@[go_sem] theorem t2492_i : zeroI Tryd.prog 92 = some (.nilf) := _root_.id (by kernel_rfl)
@[go_sem] theorem t2492_y : (((Tryd.prog.info? 92).map (·.bytes)).getD 0 ≤ 256) = True := eq_true (by decide +kernel)
@[go_sem] theorem t2492_b : (bytesP Tryd.prog 92 ≤ 1024) = True := eq_true (by decide +kernel)
@[go_sem] theorem t2493_h : hasP Tryd.prog 93 = true := by decide +kernel
@[go_sem] theorem t2493_s : sizeP Tryd.prog 93 = 1 := by decide +kernel
@[go_sem] theorem t2493_a : aggP Tryd.prog 93 = false := by decide +kernel
@[go_sem] theorem t2493_z : zeroP Tryd.prog 93 = some [.nilf] := _root_.id (by kernel_rfl)
@[go_sem] theorem t2493_o : zeroOK Tryd.prog 93 = true := by decide +kernel
@[go_sem] theorem t2493_i : zeroI Tryd.prog 93 = some (.nilf) := _root_.id (by kernel_rfl)
@[go_sem] theorem t2493_y : (((Tryd.prog.info? 93).map (·.bytes)).getD 0 ≤ 256) = True := eq_true (by decide +kernel)
@[go_sem] theorem t2493_b : (bytesP Tryd.prog 93 ≤ 1024) = True := eq_true (by decide +kernel)
@[go_sem] theorem t2494_h : hasP Tryd.prog 94 = true := by decide +kernel
@[go_sem] theorem t2494_s : sizeP Tryd.prog 94 = 1 := by decide +kernel
@[go_sem] theorem t2494_a : aggP Tryd.prog 94 = false := by decide +kernel
@[go_sem] theorem t2494_z : zeroP Tryd.prog 94 = some [.nilf] := _root_.id (by kernel_rfl)
@[go_sem] theorem t2494_o : zeroOK Tryd.prog 94 = true := by decide +kernel
@[go_sem] theorem t2494_i : zeroI Tryd.prog 94 = some (.nilf) := _root_.id (by kernel_rfl)
@[go_sem] theorem t2494_y : (((Tryd.prog.info? 94).map (·.bytes)).getD 0 ≤ 256) = True := eq_true (by decide +kernel)
@[go_sem] theorem t2494_b : (bytesP Tryd.prog 94 ≤ 1024) = True := eq_true (by decide +kernel)
@[go_sem] theorem t2495_h : hasP Tryd.prog 95 = true := by decide +kernel
@[go_sem] theorem t2495_s : sizeP Tryd.prog 95 = 1 := by decide +kernel
@[go_sem] theorem t2495_a : aggP Tryd.prog 95 = false := by decide +kernel
@[go_sem] theorem t2495_z : zeroP Tryd.prog 95 = some [.int .i64 0] := _root_.id (by kernel_rfl)
@[go_sem] theorem t2495_o : zeroOK Tryd.prog 95 = true := by decide +kernel
@[go_sem] theorem t2495_i : zeroI Tryd.prog 95 = some (.int .i64 0) := _root_.id (by kernel_rfl)
@[go_sem] theorem t2495_y : (((Tryd.prog.info? 95).map (·.bytes)).getD 0 ≤ 256) = True := eq_true (by decide +kernel)
@[go_sem] theorem t2495_b : (bytesP Tryd.prog 95 ≤ 1024) = True := eq_true (by decide +kernel)
@[go_sem] theorem t2495_k : keyK Tryd.prog 95 = some [.int .i64] := key_of (by decide +kernel)
@[go_sem] theorem t2497_h : hasP Tryd.prog 97 = true := by decide +kernel
@[go_sem] theorem t2497_s : sizeP Tryd.prog 97 = 1 := by decide +kernel
@[go_sem] theorem t2497_a : aggP Tryd.prog 97 = false := by decide +kernel
@[go_sem] theorem t2497_z : zeroP Tryd.prog 97 = some [.nilf] := _root_.id (by kernel_rfl)
@[go_sem] theorem t2497_o : zeroOK Tryd.prog 97 = true := by decide +kernel
@[go_sem] theorem t2497_i : zeroI Tryd.prog 97 = some (.nilf) := _root_.id (by kernel_rfl)
@[go_sem] theorem t2497_y : (((Tryd.prog.info? 97).map (·.bytes)).getD 0 ≤ 256) = True := eq_true (by decide +kernel)
@[go_sem] theorem t2497_b : (bytesP Tryd.prog 97 ≤ 1024) = True := eq_true (by decide +kernel)
@[go_sem] theorem t2498_h : hasP Tryd.prog 98 = true := by decide +kernel
@[go_sem] theorem t2498_s : sizeP Tryd.prog 98 = 1 := by decide +kernel
@[go_sem] theorem t2498_a : aggP Tryd.prog 98 = false := by decide +kernel
@[go_sem] theorem t2498_z : zeroP Tryd.prog 98 = some [.nilf] := _root_.id (by kernel_rfl)
@[go_sem] theorem t2498_o : zeroOK Tryd.prog 98 = true := by decide +kernel
@[go_sem] theorem t2498_i : zeroI Tryd.prog 98 = some (.nilf) := _root_.id (by kernel_rfl)
@[go_sem] theorem t2498_y : (((Tryd.prog.info? 98).map (·.bytes)).getD 0 ≤ 256) = True := eq_true (by decide +kernel)
@[go_sem] theorem t2498_b : (bytesP Tryd.prog 98 ≤ 1024) = True := eq_true (by decide +kernel)
@[go_sem] theorem t2499_h : hasP Tryd.prog 99 = true := by decide +kernel
@[go_sem] theorem t2499_s : sizeP Tryd.prog 99 = 1 := by decide +kernel
@[go_sem] theorem t2499_a : aggP Tryd.prog 99 = false := by decide +kernel
@[go_sem] theorem t2499_z : zeroP Tryd.prog 99 = some [.nilf] := _root_.id (by kernel_rfl)
@[go_sem] theorem t2499_o : zeroOK Tryd.prog 99 = true := by decide +kernel
@[go_sem] theorem t2499_i : zeroI Tryd.prog 99 = some (.nilf) := _root_.id (by kernel_rfl)
@[go_sem] theorem t2499_y : (((Tryd.prog.info? 99).map (·.bytes)).getD 0 ≤ 256) = True := eq_true (by decide +kernel)
@[go_sem] theorem t2499_b : (bytesP Tryd.prog 99 ≤ 1024) = True := eq_true (by decide +kernel)
@[go_sem] theorem t24100_h : hasP Tryd.prog 100 = true := by decide +kernel
@[go_sem] theorem t24100_s : sizeP Tryd.prog 100 = 1 := by decide +kernel
@[go_sem] theorem t24100_a : aggP Tryd.prog 100 = false := by decide +kernel
@[go_sem] theorem t24100_z : zeroP Tryd.prog 100 = some [.nilf] := _root_.id (by kernel_rfl)
@[go_sem] theorem t24100_o : zeroOK Tryd.prog 100 = true := by decide +kernel
@[go_sem] theorem t24100_i : zeroI Tryd.prog 100 = some (.nilf) := _root_.id (by kernel_rfl)
@[go_sem] theorem t24100_y : (((Tryd.prog.info? 100).map (·.bytes)).getD 0 ≤ 256) = True := eq_true (by decide +kernel)
@[go_sem] theorem t24100_b : (bytesP Tryd.prog 100 ≤ 1024) = True := eq_true (by decide +kernel)
@[go_sem] theorem t24102_h : hasP Tryd.prog 102 = true := by decide +kernel
@[go_sem] theorem t24102_s : sizeP Tryd.prog 102 = 1 := by decide +kernel
@[go_sem] theorem t24102_a : aggP Tryd.prog 102 = false := by decide +kernel
@[go_sem] theorem t24102_z : zeroP Tryd.prog 102 = some [.nilf] := _root_.id (by kernel_rfl)
@[go_sem] theorem t24102_o : zeroOK Tryd.prog 102 = true := by decide +kernel
@[go_sem] theorem t24102_i : zeroI Tryd.prog 102 = some (.nilf) := _root_.id (by kernel_rfl)
@[go_sem] theorem t24102_y : (((Tryd.prog.info? 102).map (·.bytes)).getD 0 ≤ 256) = True := eq_true (by decide +kernel)
@[go_sem] theorem t24102_b : (bytesP Tryd.prog 102 ≤ 1024) = True := eq_true (by decide +kernel)
@[go_sem] theorem t24103_h : hasP Tryd.prog 103 = true := by decide +kernel
@[go_sem] theorem t24103_s : sizeP Tryd.prog 103 = 1 := by decide +kernel
@[go_sem] theorem t24103_a : aggP Tryd.prog 103 = false := by decide +kernel
@[go_sem] theorem t24103_z : zeroP Tryd.prog 103 = some [.nilf] := _root_.id (by kernel_rfl)
@[go_sem] theorem t24103_o : zeroOK Tryd.prog 103 = true := by decide +kernel
@[go_sem] theorem t24103_i : zeroI Tryd.prog 103 = some (.nilf) := _root_.id (by kernel_rfl)
@[go_sem] theorem t24103_y : (((Tryd.prog.info? 103).map (·.bytes)).getD 0 ≤ 256) = True := eq_true (by decide +kernel)
@[go_sem] theorem t24103_b : (bytesP Tryd.prog 103 ≤ 1024) = True := eq_true (by decide +kernel)
@[go_sem] theorem t24104_h : hasP Tryd.prog 104 = true := by decide +kernel
@[go_sem] theorem t24104_s : sizeP Tryd.prog 104 = 1 := by decide +kernel
@[go_sem] theorem t24104_a : aggP Tryd.prog 104 = false := by decide +kernel
@[go_sem] theorem t24104_z : zeroP Tryd.prog 104 = some [.int .u32 0] := _root_.id (by kernel_rfl)
@[go_sem] theorem t24104_o : zeroOK Tryd.prog 104 = true := by decide +kernel
@[go_sem] theorem t24104_i : zeroI Tryd.prog 104 = some (.int .u32 0) := _root_.id (by kernel_rfl)
@[go_sem] theorem t24104_y : (((Tryd.prog.info? 104).map (·.bytes)).getD 0 ≤ 256) = True := eq_true (by decide +kernel)
@[go_sem] theorem t24104_b : (bytesP Tryd.prog 104 ≤ 1024) = True := eq_true (by decide +kernel)
@[go_sem] theorem t24104_k : keyK Tryd.prog 104 = some [.int .u32] := key_of (by decide +kernel)
@[go_sem] theorem t24105_h : hasP Tryd.prog 105 = true := by decide +kernel
@[go_sem] theorem t24105_s : sizeP Tryd.prog 105 = 1 := by decide +kernel
@[go_sem] theorem t24105_a : aggP Tryd.prog 105 = false := by decide +kernel
@[go_sem] theorem t24105_z : zeroP Tryd.prog 105 = some [.nilf] := _root_.id (by kernel_rfl)
@[go_sem] theorem t24105_o : zeroOK Tryd.prog 105 = true := by decide +kernel
@[go_sem] theorem t24105_i : zeroI Tryd.prog 105 = some (.nilf) := _root_.id (by kernel_rfl)
@[go_sem] theorem t24105_y : (((Tryd.prog.info? 105).map (·.bytes)).getD 0 ≤ 256) = True := eq_true (by decide +kernel)
@[go_sem] theorem t24105_b : (bytesP Tryd.prog 105 ≤ 1024) = True := eq_true (by decide +kernel)
@[go_sem] theorem t24106_h : hasP Tryd.prog 106 = true := by decide +kernel
@[go_sem] theorem t24106_s : sizeP Tryd.prog 106 = 1 := by decide +kernel
@[go_sem] theorem t24106_a : aggP Tryd.prog 106 = false := by decide +kernel
@[go_sem] theorem t24106_z : zeroP Tryd.prog 106 = some [.nilf] := _root_.id (by kernel_rfl)
@[go_sem] theorem t24106_o : zeroOK Tryd.prog 106 = true := by decide +kernel
@[go_sem] theorem t24106_i : zeroI Tryd.prog 106 = some (.nilf) := _root_.id (by kernel_rfl)
@[go_sem] theorem t24106_y : (((Tryd.prog.info? 106).map (·.bytes)).getD 0 ≤ 256) = True := eq_true (by decide +kernel)
@[go_sem] theorem t24106_b : (bytesP Tryd.prog 106 ≤ 1024) = True := eq_true (by decide +kernel)
@[go_sem] theorem t24108_h : hasP Tryd.prog 108 = true := by decide +kernel
@[go_sem] theorem t24108_s : sizeP Tryd.prog 108 = 1 := by decide +kernel
@[go_sem] theorem t24108_a : aggP Tryd.prog 108 = false := by decide +kernel
@[go_sem] theorem t24108_z : zeroP Tryd.prog 108 = some [.nilf] := _root_.id (by kernel_rfl)
@[go_sem] theorem t24108_o : zeroOK Tryd.prog 108 = true := by decide +kernel
@[go_sem] theorem t24108_i : zeroI Tryd.prog 108 = some (.nilf) := _root_.id (by kernel_rfl)
@[go_sem] theorem t24108_y : (((Tryd.prog.info? 108).map (·.bytes)).getD 0 ≤ 256) = True := eq_true (by decide +kernel)
@[go_sem] theorem t24108_b : (bytesP Tryd.prog 108 ≤ 1024) = True := eq_true (by decide +kernel)
@[go_sem] theorem t24109_h : hasP Tryd.prog 109 = true := by decide +kernel
@[go_sem] theorem t24109_s : sizeP Tryd.prog 109 = 1 := by decide +kernel
@[go_sem] theorem t24109_a : aggP Tryd.prog 109 = false := by decide +kernel
@[go_sem] theorem t24109_z : zeroP Tryd.prog 109 = some [.nilf] := _root_.id (by kernel_rfl)
@[go_sem] theorem t24109_o : zeroOK Tryd.prog 109 = true := by decide +kernel
@[go_sem] theorem t24109_i : zeroI Tryd.prog 109 = some (.nilf) := _root_.id (by kernel_rfl)
@[go_sem] theorem t24109_y : (((Tryd.prog.info? 109).map (·.bytes)).getD 0 ≤ 256) = True := eq_true (by decide +kernel)
@[go_sem] theorem t24109_b : (bytesP Tryd.prog 109 ≤ 1024) = True := eq_true (by decide +kernel)
@[go_sem] theorem t24111_h : hasP Tryd.prog 111 = true := by decide +kernel
@[go_sem] theorem t24111_s : sizeP Tryd.prog 111 = 1 := by decide +kernel
@[go_sem] theorem t24111_a : aggP Tryd.prog 111 = false := by decide +kernel
@[go_sem] theorem t24111_z : zeroP Tryd.prog 111 = some [.nilf] := _root_.id (by kernel_rfl)
@[go_sem] theorem t24111_o : zeroOK Tryd.prog 111 = true := by decide +kernel
@[go_sem] theorem t24111_i : zeroI Tryd.prog 111 = some (.nilf) := _root_.id (by kernel_rfl)
@[go_sem] theorem t24111_y : (((Tryd.prog.info? 111).map (·.bytes)).getD 0 ≤ 256) = True := eq_true (by decide +kernel)
@[go_sem] theorem t24111_b : (bytesP Tryd.prog 111 ≤ 1024) = True := eq_true (by decide +kernel)
@[go_sem] theorem t24112_h : hasP Tryd.prog 112 = true := by decide +kernel
@[go_sem] theorem t24112_s : sizeP Tryd.prog 112 = 1 := by decide +kernel
@[go_sem] theorem t24112_a : aggP Tryd.prog 112 = false := by decide +kernel
@[go_sem] theorem t24112_z : zeroP Tryd.prog 112 = some [.nilf] := _root_.id (by kernel_rfl)
@[go_sem] theorem t24112_o : zeroOK Tryd.prog 112 = true := by decide +kernel
@[go_sem] theorem t24112_i : zeroI Tryd.prog 112 = some (.nilf) := _root_.id (by kernel_rfl)
@[go_sem] theorem t24112_y : (((Tryd.prog.info? 112).map (·.bytes)).getD 0 ≤ 256) = True := eq_true (by decide +kernel)
@[go_sem] theorem t24112_b : (bytesP Tryd.prog 112 ≤ 1024) = True := eq_true (by decide +kernel)
@[go_sem] theorem t24113_h : hasP Tryd.prog 113 = true := by decide +kernel
@[go_sem] theorem t24113_s : sizeP Tryd.prog 113 = 1 := by decide +kernel
@[go_sem] theorem t24113_a : aggP Tryd.prog 113 = false := by decide +kernel
@[go_sem] theorem t24113_z : zeroP Tryd.prog 113 = some [.int .u64 0] := _root_.id (by kernel_rfl)
@[go_sem] theorem t24113_o : zeroOK Tryd.prog 113 = true := by decide +kernel
@[go_sem] theorem t24113_i : zeroI Tryd.prog 113 = some (.int .u64 0) := _root_.id (by kernel_rfl)
@[go_sem] theorem t24113_y : (((Tryd.prog.info? 113).map (·.bytes)).getD 0 ≤ 256) = True := eq_true (by decide +kernel)
@[go_sem] theorem t24113_b : (bytesP Tryd.prog 113 ≤ 1024) = True := eq_true (by decide +kernel)
@[go_sem] theorem t24113_k : keyK Tryd.prog 113 = some [.int .u64] := key_of (by decide +kernel)
@[go_sem] theorem t24114_h : hasP Tryd.prog 114 = true := by decide +kernel
@[go_sem] theorem t24114_s : sizeP Tryd.prog 114 = 1 := by decide +kernel
@[go_sem] theorem t24114_a : aggP Tryd.prog 114 = false := by decide +kernel
@[go_sem] theorem t24114_z : zeroP Tryd.prog 114 = some [.nilf] := _root_.id (by kernel_rfl)
@[go_sem] theorem t24114_o : zeroOK Tryd.prog 114 = true := by decide +kernel
@[go_sem] theorem t24114_i : zeroI Tryd.prog 114 = some (.nilf) := _root_.id (by kernel_rfl)
@[go_sem] theorem t24114_y : (((Tryd.prog.info? 114).map (·.bytes)).getD 0 ≤ 256) = True := eq_true (by decide +kernel)
@[go_sem] theorem t24114_b : (bytesP Tryd.prog 114 ≤ 1024) = True := eq_true (by decide +kernel)
@[go_sem] theorem t24115_h : hasP Tryd.prog 115 = true := by decide +kernel
@[go_sem] theorem t24115_s : sizeP Tryd.prog 115 = 1 := by decide +kernel
@[go_sem] theorem t24115_a : aggP Tryd.prog 115 = false := by decide +kernel
@[go_sem] theorem t24115_z : zeroP Tryd.prog 115 = some [.nilf] := _root_.id (by kernel_rfl)
@[go_sem] theorem t24115_o : zeroOK Tryd.prog 115 = true := by decide +kernel
@[go_sem] theorem t24115_i : zeroI Tryd.prog 115 = some (.nilf) := _root_.id (by kernel_rfl)
@[go_sem] theorem t24115_y : (((Tryd.prog.info? 115).map (·.bytes)).getD 0 ≤ 256) = True := eq_true (by decide +kernel)
@[go_sem] theorem t24115_b : (bytesP Tryd.prog 115 ≤ 1024) = True := eq_true (by decide +kernel)
@[go_sem] theorem t24116_h : hasP Tryd.prog 116 = true := by decide +kernel
@[go_sem] theorem t24116_s : sizeP Tryd.prog 116 = 1 := by decide +kernel
@[go_sem] theorem t24116_a : aggP Tryd.prog 116 = false := by decide +kernel
@[go_sem] theorem t24116_z : zeroP Tryd.prog 116 = some [.nilf] := _root_.id (by kernel_rfl)
@[go_sem] theorem t24116_o : zeroOK Tryd.prog 116 = true := by decide +kernel
@[go_sem] theorem t24116_i : zeroI Tryd.prog 116 = some (.nilf) := _root_.id (by kernel_rfl)
@[go_sem] theorem t24116_y : (((Tryd.prog.info? 116).map (·.bytes)).getD 0 ≤ 256) = True := eq_true (by decide +kernel)
@[go_sem] theorem t24116_b : (bytesP Tryd.prog 116 ≤ 1024) = True := eq_true (by decide +kernel)
@[go_sem] theorem t24117_h : hasP Tryd.prog 117 = true := by decide +kernel
@[go_sem] theorem t24117_s : sizeP Tryd.prog 117 = 1 := by decide +kernel
@[go_sem] theorem t24117_a : aggP Tryd.prog 117 = false := by decide +kernel
@[go_sem] theorem t24117_z : zeroP Tryd.prog 117 = some [.nilp] := _root_.id (by kernel_rfl)
@[go_sem] theorem t24117_o : zeroOK Tryd.prog 117 = true := by decide +kernel
@[go_sem] theorem t24117_i : zeroI Tryd.prog 117 = some (.nilp) := _root_.id (by kernel_rfl)
@[go_sem] theorem t24117_y : (((Tryd.prog.info? 117).map (·.bytes)).getD 0 ≤ 256) = True := eq_true (by decide +kernel)
@[go_sem] theorem t24117_b : (bytesP Tryd.prog 117 ≤ 1024) = True := eq_true (by decide +kernel)
@[go_sem] theorem t24118_h : hasP Tryd.prog 118 = true := by decide +kernel
@[go_sem] theorem t24118_s : sizeP Tryd.prog 118 = 1 := by decide +kernel
@[go_sem] theorem t24118_a : aggP Tryd.prog 118 = false := by decide +kernel
@[go_sem] theorem t24118_z : zeroP Tryd.prog 118 = some [.nilf] := _root_.id (by kernel_rfl)
@[go_sem] theorem t24118_o : zeroOK Tryd.prog 118 = true := by decide +kernel
@[go_sem] theorem t24118_i : zeroI Tryd.prog 118 = some (.nilf) := _root_.id (by kernel_rfl)
@[go_sem] theorem t24118_y : (((Tryd.prog.info? 118).map (·.bytes)).getD 0 ≤ 256) = True := eq_true (by decide +kernel)
@[go_sem] theorem t24118_b : (bytesP Tryd.prog 118 ≤ 1024) = True := eq_true (by decide +kernel)
@[go_sem] theorem t24119_h : hasP Tryd.prog 119 = true := by decide +kernel
@[go_sem] theorem t24119_s : sizeP Tryd.prog 119 = 1 := by decide +kernel
@[go_sem] theorem t24119_a : aggP Tryd.prog 119 = false := by decide +kernel
@[go_sem] theorem t24119_z : zeroP Tryd.prog 119 = some [.nilf] := _root_.id (by kernel_rfl)
@[go_sem] theorem t24119_o : zeroOK Tryd.prog 119 = true := by decide +kernel
@[go_sem] theorem t24119_i : zeroI Tryd.prog 119 = some (.nilf) := _root_.id (by kernel_rfl)
@[go_sem] theorem t24119_y : (((Tryd.prog.info? 119).map (·.bytes)).getD 0 ≤ 256) = True := eq_true (by decide +kernel)
@[go_sem] theorem t24119_b : (bytesP Tryd.prog 119 ≤ 1024) = True := eq_true (by decide +kernel)
@[go_sem] theorem t24120_h : hasP Tryd.prog 120 = true := by decide +kernel
@[go_sem] theorem t24120_s : sizeP Tryd.prog 120 = 1 := by decide +kernel
@[go_sem] theorem t24120_a : aggP Tryd.prog 120 = false := by decide +kernel
@[go_sem] theorem t24120_z : zeroP Tryd.prog 120 = some [.nilf] := _root_.id (by kernel_rfl)
@[go_sem] theorem t24120_o : zeroOK Tryd.prog 120 = true := by decide +kernel
@[go_sem] theorem t24120_i : zeroI Tryd.prog 120 = some (.nilf) := _root_.id (by kernel_rfl)
@[go_sem] theorem t24120_y : (((Tryd.prog.info? 120).map (·.bytes)).getD 0 ≤ 256) = True := eq_true (by decide +kernel)
@[go_sem] theorem t24120_b : (bytesP Tryd.prog 120 ≤ 1024) = True := eq_true (by decide +kernel)
@[go_sem] theorem t24121_h : hasP Tryd.prog 121 = true := by decide +kernel
@[go_sem] theorem t24121_s : sizeP Tryd.prog 121 = 1 := by decide +kernel
@[go_sem] theorem t24121_a : aggP Tryd.prog 121 = false := by decide +kernel
@[go_sem] theorem t24121_z : zeroP Tryd.prog 121 = some [.nilf] := _root_.id (by kernel_rfl)
@[go_sem] theorem t24121_o : zeroOK Tryd.prog 121 = true := by decide +kernel
@[go_sem] theorem t24121_i : zeroI Tryd.prog 121 = some (.nilf) := _root_.id (by kernel_rfl)
@[go_sem] theorem t24121_y : (((Tryd.prog.info? 121).map (·.bytes)).getD 0 ≤ 256) = True := eq_true (by decide +kernel)
@[go_sem] theorem t24121_b : (bytesP Tryd.prog 121 ≤ 1024) = True := eq_true (by decide +kernel)
@[go_sem] theorem t24122_h : hasP Tryd.prog 122 = true := by decide +kernel
@[go_sem] theorem t24122_s : sizeP Tryd.prog 122 = 1 := by decide +kernel
@[go_sem] theorem t24122_a : aggP Tryd.prog 122 = false := by decide +kernel
@[go_sem] theorem t24122_z : zeroP Tryd.prog 122 = some [.nilp] := _root_.id (by kernel_rfl)
@[go_sem] theorem t24122_o : zeroOK Tryd.prog 122 = true := by decide +kernel
@[go_sem] theorem t24122_i : zeroI Tryd.prog 122 = some (.nilp) := _root_.id (by kernel_rfl)
@[go_sem] theorem t24122_y : (((Tryd.prog.info? 122).map (·.bytes)).getD 0 ≤ 256) = True := eq_true (by decide +kernel)
@[go_sem] theorem t24122_b : (bytesP Tryd.prog 122 ≤ 1024) = True := eq_true (by decide +kernel)
@[go_sem] theorem t24123_h : hasP Tryd.prog 123 = true := by decide +kernel
@[go_sem] theorem t24123_s : sizeP Tryd.prog 123 = 1 := by decide +kernel
@[go_sem] theorem t24123_a : aggP Tryd.prog 123 = false := by decide +kernel
@[go_sem] theorem t24123_z : zeroP Tryd.prog 123 = some [.nilf] := _root_.id (by kernel_rfl)
@[go_sem] theorem t24123_o : zeroOK Tryd.prog 123 = true := by decide +kernel
@[go_sem] theorem t24123_i : zeroI Tryd.prog 123 = some (.nilf) := _root_.id (by kernel_rfl)
@[go_sem] theorem t24123_y : (((Tryd.prog.info? 123).map (·.bytes)).getD 0 ≤ 256) = True := eq_true (by decide +kernel)
@[go_sem] theorem t24123_b : (bytesP Tryd.prog 123 ≤ 1024) = True := eq_true (by decide +kernel)
@[go_sem] theorem t24126_h : hasP Tryd.prog 126 = true := by decide +kernel
@[go_sem] theorem t24126_s : sizeP Tryd.prog 126 = 1 := by decide +kernel
@[go_sem] theorem t24126_a : aggP Tryd.prog 126 = false := by decide +kernel
@[go_sem] theorem t24126_z : zeroP Tryd.prog 126 = some [.nilp] := _root_.id (by kernel_rfl)
@[go_sem] theorem t24126_o : zeroOK Tryd.prog 126 = true := by decide +kernel
@[go_sem] theorem t24126_i : zeroI Tryd.prog 126 = some (.nilp) := _root_.id (by kernel_rfl)
@[go_sem] theorem t24126_y : (((Tryd.prog.info? 126).map (·.bytes)).getD 0 ≤ 256) = True := eq_true (by decide +kernel)
@[go_sem] theorem t24126_b : (bytesP Tryd.prog 126 ≤ 1024) = True := eq_true (by decide +kernel)
@[go_sem] theorem t24127_h : hasP Tryd.prog 127 = true := by decide +kernel
@[go_sem] theorem t24127_s : sizeP Tryd.prog 127 = 1 := by decide +kernel
@[go_sem] theorem t24127_a : aggP Tryd.prog 127 = false := by decide +kernel
@[go_sem] theorem t24127_z : zeroP Tryd.prog 127 = some [.nilf] := _root_.id (by kernel_rfl)
@[go_sem] theorem t24127_o : zeroOK Tryd.prog 127 = true := by decide +kernel
@[go_sem] theorem t24127_i : zeroI Tryd.prog 127 = some (.nilf) := _root_.id (by kernel_rfl)
@[go_sem] theorem t24127_y : (((Tryd.prog.info? 127).map (·.bytes)).getD 0 ≤ 256) = True := eq_true (by decide +kernel)
@[go_sem] theorem t24127_b : (bytesP Tryd.prog 127 ≤ 1024) = True := eq_true (by decide +kernel)
@[go_sem] theorem t24128_h : hasP Tryd.prog 128 = true := by decide +kernel
@[go_sem] theorem t24128_s : sizeP Tryd.prog 128 = 4 := by decide +kernel
@[go_sem] theorem t24128_a : aggP Tryd.prog 128 = true := by decide +kernel
@[go_sem] theorem t24128_z : zeroP Tryd.prog 128 = some [.nilp, .nilp, .nilp, .str ByteArray.empty] := _root_.id (by kernel_rfl)
@[go_sem] theorem t24128_o : zeroOK Tryd.prog 128 = true := by decide +kernel
@[go_sem] theorem t24128_i : zeroI Tryd.prog 128 = some (.agg [.nilp, .nilp, .nilp, .str ByteArray.empty]) := _root_.id (by kernel_rfl)
@[go_sem] theorem t24128_y : (((Tryd.prog.info? 128).map (·.bytes)).getD 0 ≤ 256) = True := eq_true (by decide +kernel)
@[go_sem] theorem t24128_b : (bytesP Tryd.prog 128 ≤ 1024) = True := eq_true (by decide +kernel)
@[go_sem] theorem t24129_h : hasP Tryd.prog 129 = true := by decide +kernel
@[go_sem] theorem t24129_s : sizeP Tryd.prog 129 = 4 := by decide +kernel
@[go_sem] theorem t24129_a : aggP Tryd.prog 129 = true := by decide +kernel
@[go_sem] theorem t24129_z : zeroP Tryd.prog 129 = some [.nilp, .nilp, .nilp, .str ByteArray.empty] := _root_.id (by kernel_rfl)
@[go_sem] theorem t24129_o : zeroOK Tryd.prog 129 = true := by decide +kernel
@[go_sem] theorem t24129_i : zeroI Tryd.prog 129 = some (.agg [.nilp, .nilp, .nilp, .str ByteArray.empty]) := _root_.id (by kernel_rfl)
@[go_sem] theorem t24129_y : (((Tryd.prog.info? 129).map (·.bytes)).getD 0 ≤ 256) = True := eq_true (by decide +kernel)
@[go_sem] theorem t24129_b : (bytesP Tryd.prog 129 ≤ 1024) = True := eq_true (by decide +kernel)
@[go_sem] theorem t24130_h : hasP Tryd.prog 130 = true := by decide +kernel
@[go_sem] theorem t24130_s : sizeP Tryd.prog 130 = 0 := by decide +kernel
@[go_sem] theorem t24130_a : aggP Tryd.prog 130 = true := by decide +kernel
@[go_sem] theorem t24131_h : hasP Tryd.prog 131 = true := by decide +kernel
@[go_sem] theorem t24131_s : sizeP Tryd.prog 131 = 0 := by decide +kernel
@[go_sem] theorem t24131_a : aggP Tryd.prog 131 = true := by decide +kernel
@[go_sem] theorem t24132_h : hasP Tryd.prog 132 = true := by decide +kernel
@[go_sem] theorem t24132_s : sizeP Tryd.prog 132 = 0 := by decide +kernel
@[go_sem] theorem t24132_a : aggP Tryd.prog 132 = true := by decide +kernel
@[go_sem] theorem t24133_h : hasP Tryd.prog 133 = true := by decide +kernel
@[go_sem] theorem t24133_s : sizeP Tryd.prog 133 = 1 := by decide +kernel
@[go_sem] theorem t24133_a : aggP Tryd.prog 133 = false := by decide +kernel
@[go_sem] theorem t24133_z : zeroP Tryd.prog 133 = some [.nilf] := _root_.id (by kernel_rfl)
@[go_sem] theorem t24133_o : zeroOK Tryd.prog 133 = true := by decide +kernel
@[go_sem] theorem t24133_i : zeroI Tryd.prog 133 = some (.nilf) := _root_.id (by kernel_rfl)
@[go_sem] theorem t24133_y : (((Tryd.prog.info? 133).map (·.bytes)).getD 0 ≤ 256) = True := eq_true (by decide +kernel)
@[go_sem] theorem t24133_b : (bytesP Tryd.prog 133 ≤ 1024) = True := eq_true (by decide +kernel)
@[go_sem] theorem t24134_h : hasP Tryd.prog 134 = true := by decide +kernel
@[go_sem] theorem t24134_s : sizeP Tryd.prog 134 = 1 := by decide +kernel
@[go_sem] theorem t24134_a : aggP Tryd.prog 134 = false := by decide +kernel
@[go_sem] theorem t24134_z : zeroP Tryd.prog 134 = some [.int .u8 0] := _root_.id (by kernel_rfl)
@[go_sem] theorem t24134_o : zeroOK Tryd.prog 134 = true := by decide +kernel
@[go_sem] theorem t24134_i : zeroI Tryd.prog 134 = some (.int .u8 0) := _root_.id (by kernel_rfl)
@[go_sem] theorem t24134_y : (((Tryd.prog.info? 134).map (·.bytes)).getD 0 ≤ 256) = True := eq_true (by decide +kernel)
@[go_sem] theorem t24134_b : (bytesP Tryd.prog 134 ≤ 1024) = True := eq_true (by decide +kernel)
@[go_sem] theorem t24134_k : keyK Tryd.prog 134 = some [.int .u8] := key_of (by decide +kernel)
@[go_sem] theorem t24135_h : hasP Tryd.prog 135 = true := by decide +kernel
@[go_sem] theorem t24135_s : sizeP Tryd.prog 135 = 1 := by decide +kernel
@[go_sem] theorem t24135_a : aggP Tryd.prog 135 = false := by decide +kernel
@[go_sem] theorem t24135_z : zeroP Tryd.prog 135 = some [.int .u8 0] := _root_.id (by kernel_rfl)
@[go_sem] theorem t24135_o : zeroOK Tryd.prog 135 = true := by decide +kernel
@[go_sem] theorem t24135_i : zeroI Tryd.prog 135 = some (.int .u8 0) := _root_.id (by kernel_rfl)
@[go_sem] theorem t24135_y : (((Tryd.prog.info? 135).map (·.bytes)).getD 0 ≤ 256) = True := eq_true (by decide +kernel)
@[go_sem] theorem t24135_b : (bytesP Tryd.prog 135 ≤ 1024) = True := eq_true (by decide +kernel)
@[go_sem] theorem t24135_k : keyK Tryd.prog 135 = some [.int .u8] := key_of (by decide +kernel)
@[go_sem] theorem t24136_h : hasP Tryd.prog 136 = true := by decide +kernel
@[go_sem] theorem t24136_s : sizeP Tryd.prog 136 = 1 := by decide +kernel
@[go_sem] theorem t24136_a : aggP Tryd.prog 136 = false := by decide +kernel
@[go_sem] theorem t24136_z : zeroP Tryd.prog 136 = some [.nilf] := _root_.id (by kernel_rfl)
@[go_sem] theorem t24136_o : zeroOK Tryd.prog 136 = true := by decide +kernel
@[go_sem] theorem t24136_i : zeroI Tryd.prog 136 = some (.nilf) := _root_.id (by kernel_rfl)
@[go_sem] theorem t24136_y : (((Tryd.prog.info? 136).map (·.bytes)).getD 0 ≤ 256) = True := eq_true (by decide +kernel)
@[go_sem] theorem t24136_b : (bytesP Tryd.prog 136 ≤ 1024) = True := eq_true (by decide +kernel)
@[go_sem] theorem t24137_h : hasP Tryd.prog 137 = true := by decide +kernel
@[go_sem] theorem t24137_s : sizeP Tryd.prog 137 = 1 := by decide +kernel
@[go_sem] theorem t24137_a : aggP Tryd.prog 137 = false := by decide +kernel
@[go_sem] theorem t24137_z : zeroP Tryd.prog 137 = some [.nilp] := _root_.id (by kernel_rfl)
@[go_sem] theorem t24137_o : zeroOK Tryd.prog 137 = true := by decide +kernel
@[go_sem] theorem t24137_i : zeroI Tryd.prog 137 = some (.nilp) := _root_.id (by kernel_rfl)
@[go_sem] theorem t24137_y : (((Tryd.prog.info? 137).map (·.bytes)).getD 0 ≤ 256) = True := eq_true (by decide +kernel)
@[go_sem] theorem t24137_b : (bytesP Tryd.prog 137 ≤ 1024) = True := eq_true (by decide +kernel)
@[go_sem] theorem t24138_h : hasP Tryd.prog 138 = true := by decide +kernel
@[go_sem] theorem t24138_s : sizeP Tryd.prog 138 = 1 := by decide +kernel
@[go_sem] theorem t24138_a : aggP Tryd.prog 138 = false := by decide +kernel
@[go_sem] theorem t24138_z : zeroP Tryd.prog 138 = some [.int .i32 0] := _root_.id (by kernel_rfl)
@[go_sem] theorem t24138_o : zeroOK Tryd.prog 138 = true := by decide +kernel
@[go_sem] theorem t24138_i : zeroI Tryd.prog 138 = some (.int .i32 0) := _root_.id (by kernel_rfl)
@[go_sem] theorem t24138_y : (((Tryd.prog.info? 138).map (·.bytes)).getD 0 ≤ 256) = True := eq_true (by decide +kernel)
@[go_sem] theorem t24138_b : (bytesP Tryd.prog 138 ≤ 1024) = True := eq_true (by decide +kernel)
@[go_sem] theorem t24138_k : keyK Tryd.prog 138 = some [.int .i32] := key_of (by decide +kernel)
@[go_sem] theorem t24139_h : hasP Tryd.prog 139 = true := by decide +kernel
@[go_sem] theorem t24139_s : sizeP Tryd.prog 139 = 1 := by decide +kernel
@[go_sem] theorem t24139_a : aggP Tryd.prog 139 = false := by decide +kernel
@[go_sem] theorem t24139_z : zeroP Tryd.prog 139 = some [.int .i32 0] := _root_.id (by kernel_rfl)
@[go_sem] theorem t24139_o : zeroOK Tryd.prog 139 = true := by decide +kernel
@[go_sem] theorem t24139_i : zeroI Tryd.prog 139 = some (.int .i32 0) := _root_.id (by kernel_rfl)
@[go_sem] theorem t24139_y : (((Tryd.prog.info? 139).map (·.bytes)).getD 0 ≤ 256) = True := eq_true (by decide +kernel)
@[go_sem] theorem t24139_b : (bytesP Tryd.prog 139 ≤ 1024) = True := eq_true (by decide +kernel)
@[go_sem] theorem t24139_k : keyK Tryd.prog 139 = some [.int .i32] := key_of (by decide +kernel)
@[go_sem] theorem t24140_h : hasP Tryd.prog 140 = true := by decide +kernel
@[go_sem] theorem t24140_s : sizeP Tryd.prog 140 = 11 := by decide +kernel
@[go_sem] theorem t24140_a : aggP Tryd.prog 140 = true := by decide +kernel
@[go_sem] theorem t24140_z : zeroP Tryd.prog 140 = some [.int .u64 0, .int .u64 0, .int .u32 0, .int .u8 0, .int .u8 0, .int .u8 0, .int .u8 0, .nilf, .nilp, .int .i32 0, .int .i32 0] := _root_.id (by kernel_rfl)
@[go_sem] theorem t24140_o : zeroOK Tryd.prog 140 = true := by decide +kernel
@[go_sem] theorem t24140_i : zeroI Tryd.prog 140 = some (.agg [.int .u64 0, .int .u64 0, .int .u32 0, .int .u8 0, .int .u8 0, .int .u8 0, .int .u8 0, .nilf, .nilp, .int .i32 0, .int .i32 0]) := _root_.id (by kernel_rfl)
@[go_sem] theorem t24140_y : (((Tryd.prog.info? 140).map (·.bytes)).getD 0 ≤ 256) = True := eq_true (by decide +kernel)
@[go_sem] theorem t24140_b : (bytesP Tryd.prog 140 ≤ 1024) = True := eq_true (by decide +kernel)
@[go_sem] theorem t24141_h : hasP Tryd.prog 141 = true := by decide +kernel
@[go_sem] theorem t24141_s : sizeP Tryd.prog 141 = 11 := by decide +kernel
@[go_sem] theorem t24141_a : aggP Tryd.prog 141 = true := by decide +kernel
@[go_sem] theorem t24141_z : zeroP Tryd.prog 141 = some [.int .u64 0, .int .u64 0, .int .u32 0, .int .u8 0, .int .u8 0, .int .u8 0, .int .u8 0, .nilf, .nilp, .int .i32 0, .int .i32 0] := _root_.id (by kernel_rfl)
@[go_sem] theorem t24141_o : zeroOK Tryd.prog 141 = true := by decide +kernel
@[go_sem] theorem t24141_i : zeroI Tryd.prog 141 = some (.agg [.int .u64 0, .int .u64 0, .int .u32 0, .int .u8 0, .int .u8 0, .int .u8 0, .int .u8 0, .nilf, .nilp, .int .i32 0, .int .i32 0]) := _root_.id (by kernel_rfl)
@[go_sem] theorem t24141_y : (((Tryd.prog.info? 141).map (·.bytes)).getD 0 ≤ 256) = True := eq_true (by decide +kernel)
@[go_sem] theorem t24141_b : (bytesP Tryd.prog 141 ≤ 1024) = True := eq_true (by decide +kernel)
@[go_sem] theorem t24142_h : hasP Tryd.prog 142 = true := by decide +kernel
@[go_sem] theorem t24142_s : sizeP Tryd.prog 142 = 1 := by decide +kernel
@[go_sem] theorem t24142_a : aggP Tryd.prog 142 = true := by decide +kernel
@[go_sem] theorem t24142_z : zeroP Tryd.prog 142 = some [.str ByteArray.empty] := _root_.id (by kernel_rfl)
@[go_sem] theorem t24142_o : zeroOK Tryd.prog 142 = true := by decide +kernel
@[go_sem] theorem t24142_i : zeroI Tryd.prog 142 = some (.agg [.str ByteArray.empty]) := _root_.id (by kernel_rfl)
@[go_sem] theorem t24142_y : (((Tryd.prog.info? 142).map (·.bytes)).getD 0 ≤ 256) = True := eq_true (by decide +kernel)
@[go_sem] theorem t24142_b : (bytesP Tryd.prog 142 ≤ 1024) = True := eq_true (by decide +kernel)
@[go_sem] theorem t24143_h : hasP Tryd.prog 143 = true := by decide +kernel
@[go_sem] theorem t24143_s : sizeP Tryd.prog 143 = 1 := by decide +kernel
@[go_sem] theorem t24143_a : aggP Tryd.prog 143 = true := by decide +kernel
@[go_sem] theorem t24143_z : zeroP Tryd.prog 143 = some [.str ByteArray.empty] := _root_.id (by kernel_rfl)
@[go_sem] theorem t24143_o : zeroOK Tryd.prog 143 = true := by decide +kernel
@[go_sem] theorem t24143_i : zeroI Tryd.prog 143 = some (.agg [.str ByteArray.empty]) := _root_.id (by kernel_rfl)
@[go_sem] theorem t24143_y : (((Tryd.prog.info? 143).map (·.bytes)).getD 0 ≤ 256) = True := eq_true (by decide +kernel)
@[go_sem] theorem t24143_b : (bytesP Tryd.prog 143 ≤ 1024) = True := eq_true (by decide +kernel)
/-- imp.scale: the least differences. -/
def scaleL : List Int := [20, 50, 90, 130, 170, 220, 270, 320, 370, 430, 500, 600, 750, 900, 1100, 1300, 1500, 1750, 2000, 2250, 2500, 3000, 3500, 4000]
def scaleR : List IV := scaleL.map fun n => .int .i64 n
def scalev : IV := .fptr 24 [scaleR] 0 0
def glT : List (Nat × IV) := [(0, scalev)]
theorem scaleR_cl : ∀ c ∈ scaleR, Cl c := by
  intro c hc
  obtain ⟨n, _, rfl⟩ := List.mem_map.1 hc
  exact .int _ _
theorem scalev_cl : Cl scalev := .fptr _ _ _ _ fun i row j c h1 h2 => by
  cases i with
  | zero => simp only [List.getElem?_cons_zero, Option.some.injEq] at h1; subst h1; exact scaleR_cl c (List.mem_of_getElem? h2)
  | succ i => simp at h1
theorem glT_cl : glCl glT := ⟨scalev_cl, trivial⟩
@[go_sem] theorem glT_clT : glCl glT = True := eq_true glT_cl
@[go_sem] theorem glT_get : eget glT 0 = some (.fptr 24 [scaleR] 0 0) := rfl
@[go_sem] theorem glT_bl {n : Nat} : EnBl n glT = True := eq_true (by unfold glT; rw [EnBl_cons]; exact ⟨scalev_cl.bl, by rw [EnBl_nil]; trivial⟩)
end Go.Idl
