import Derived.Test.YteedopeniojppaaGreatDoorProg
import Derived.Test.YteedopeniojppaaGreatDoorIdlPartG
import Derived.KernelRfl
set_option linter.all false
namespace Go.Idl
open Go.Proofs
@[go_sem] theorem tte3_h : hasP Tryz.prog 3 = true := by decide +kernel
@[go_sem] theorem tte3_s : sizeP Tryz.prog 3 = 1 := by decide +kernel
@[go_sem] theorem tte3_a : aggP Tryz.prog 3 = false := by decide +kernel
@[go_sem] theorem tte3_z : zeroP Tryz.prog 3 = some [.int .i64 0] := _root_.id (by kernel_rfl)
@[go_sem] theorem tte3_o : zeroOK Tryz.prog 3 = true := by decide +kernel
@[go_sem] theorem tte3_i : zeroI Tryz.prog 3 = some (.int .i64 0) := _root_.id (by kernel_rfl)
@[go_sem] theorem tte3_y : (((Tryz.prog.info? 3).map (·.bytes)).getD 0 ≤ 256) = True := eq_true (by decide +kernel)
@[go_sem] theorem tte3_b : (bytesP Tryz.prog 3 ≤ 1024) = True := eq_true (by decide +kernel)
@[go_sem] theorem tte3_k : keyK Tryz.prog 3 = some [.int .i64] := key_of (by decide +kernel)
@[go_sem] theorem tte4_h : hasP Tryz.prog 4 = true := by decide +kernel
@[go_sem] theorem tte4_s : sizeP Tryz.prog 4 = 1 := by decide +kernel
@[go_sem] theorem tte4_a : aggP Tryz.prog 4 = false := by decide +kernel
@[go_sem] theorem tte4_i : zeroI Tryz.prog 4 = some (.bool false) := _root_.id (by kernel_rfl)
@[go_sem] theorem tte5_h : hasP Tryz.prog 5 = true := by decide +kernel
@[go_sem] theorem tte5_s : sizeP Tryz.prog 5 = 1 := by decide +kernel
@[go_sem] theorem tte5_a : aggP Tryz.prog 5 = false := by decide +kernel
@[go_sem] theorem tte23_h : hasP Tryz.prog 23 = true := by decide +kernel
@[go_sem] theorem tte23_s : sizeP Tryz.prog 23 = 1 := by decide +kernel
@[go_sem] theorem tte23_a : aggP Tryz.prog 23 = false := by decide +kernel
@[go_sem] theorem tte28_h : hasP Tryz.prog 28 = true := by decide +kernel
@[go_sem] theorem tte28_s : sizeP Tryz.prog 28 = 4 := by decide +kernel
@[go_sem] theorem tte28_a : aggP Tryz.prog 28 = true := by decide +kernel
@[go_sem] theorem tte28_z : zeroP Tryz.prog 28 = some [.int .i64 0, .int .i64 0, .int .i64 0, .nils] := _root_.id (by kernel_rfl)
@[go_sem] theorem tte30_h : hasP Tryz.prog 30 = true := by decide +kernel
@[go_sem] theorem tte30_s : sizeP Tryz.prog 30 = 1 := by decide +kernel
@[go_sem] theorem tte30_a : aggP Tryz.prog 30 = false := by decide +kernel
@[go_sem] theorem tte37_h : hasP Tryz.prog 37 = true := by decide +kernel
@[go_sem] theorem tte37_s : sizeP Tryz.prog 37 = 6 := by decide +kernel
@[go_sem] theorem tte37_a : aggP Tryz.prog 37 = true := by decide +kernel
@[go_sem] theorem tte37_z : zeroP Tryz.prog 37 = some [.int .i64 0, .int .i64 0, .int .i64 0, .int .i64 0, .int .i64 0, .bool false] := _root_.id (by kernel_rfl)
@[go_sem] theorem tte37_y : (((Tryz.prog.info? 37).map (·.bytes)).getD 0 ≤ 256) = True := eq_true (by decide +kernel)
@[go_sem] theorem tte41_h : hasP Tryz.prog 41 = true := by decide +kernel
@[go_sem] theorem tte41_s : sizeP Tryz.prog 41 = 2 := by decide +kernel
@[go_sem] theorem tte41_a : aggP Tryz.prog 41 = true := by decide +kernel
@[go_sem] theorem tte41_z : zeroP Tryz.prog 41 = some [.int .i64 0, .int .i64 0] := _root_.id (by kernel_rfl)
@[go_sem] theorem tte41_f : flatP Tryz.prog 41 = some [.int .i64, .int .i64] := flat_of (by decide +kernel)
@[go_sem] theorem tte48_h : hasP Tryz.prog 48 = true := by decide +kernel
@[go_sem] theorem tte48_s : sizeP Tryz.prog 48 = 1 := by decide +kernel
@[go_sem] theorem tte48_a : aggP Tryz.prog 48 = false := by decide +kernel
@[go_sem] theorem tte54_h : hasP Tryz.prog 54 = true := by decide +kernel
@[go_sem] theorem tte54_s : sizeP Tryz.prog 54 = 2 := by decide +kernel
@[go_sem] theorem tte54_a : aggP Tryz.prog 54 = true := by decide +kernel
@[go_sem] theorem tte54_z : zeroP Tryz.prog 54 = some [.int .i64 0, .int .i64 0] := _root_.id (by kernel_rfl)
@[go_sem] theorem tte54_o : zeroOK Tryz.prog 54 = true := by decide +kernel
@[go_sem] theorem tte54_b : (bytesP Tryz.prog 54 ≤ 1024) = True := eq_true (by decide +kernel)
@[go_sem] theorem tte54_f : flatP Tryz.prog 54 = some [.int .i64, .int .i64] := flat_of (by decide +kernel)
@[go_sem] theorem tte54_k : keyK Tryz.prog 54 = some [.int .i64, .int .i64] := key_of (by decide +kernel)
@[go_sem] theorem tte55_h : hasP Tryz.prog 55 = true := by decide +kernel
@[go_sem] theorem tte55_s : sizeP Tryz.prog 55 = 2 := by decide +kernel
@[go_sem] theorem tte55_a : aggP Tryz.prog 55 = true := by decide +kernel
@[go_sem] theorem tte55_z : zeroP Tryz.prog 55 = some [.int .i64 0, .int .i64 0] := _root_.id (by kernel_rfl)
@[go_sem] theorem tte55_i : zeroI Tryz.prog 55 = some (.agg [.int .i64 0, .int .i64 0]) := _root_.id (by kernel_rfl)
@[go_sem] theorem tte55_k : keyK Tryz.prog 55 = some [.int .i64, .int .i64] := key_of (by decide +kernel)
@[go_sem] theorem tte59_h : hasP Tryz.prog 59 = true := by decide +kernel
@[go_sem] theorem tte59_s : sizeP Tryz.prog 59 = 4 := by decide +kernel
@[go_sem] theorem tte59_a : aggP Tryz.prog 59 = true := by decide +kernel
@[go_sem] theorem tte59_z : zeroP Tryz.prog 59 = some [.int .i64 0, .int .i64 0, .int .i64 0, .int .i64 0] := _root_.id (by kernel_rfl)
@[go_sem] theorem tte59_o : zeroOK Tryz.prog 59 = true := by decide +kernel
@[go_sem] theorem tte59_b : (bytesP Tryz.prog 59 ≤ 1024) = True := eq_true (by decide +kernel)
@[go_sem] theorem tte59_k : keyK Tryz.prog 59 = some [.int .i64, .int .i64, .int .i64, .int .i64] := key_of (by decide +kernel)
@[go_sem] theorem tte60_h : hasP Tryz.prog 60 = true := by decide +kernel
@[go_sem] theorem tte60_s : sizeP Tryz.prog 60 = 1 := by decide +kernel
@[go_sem] theorem tte60_a : aggP Tryz.prog 60 = false := by decide +kernel
@[go_sem] theorem tte60_z : zeroP Tryz.prog 60 = some [.nils] := _root_.id (by kernel_rfl)
@[go_sem] theorem tte64_h : hasP Tryz.prog 64 = true := by decide +kernel
@[go_sem] theorem tte64_s : sizeP Tryz.prog 64 = 1 := by decide +kernel
@[go_sem] theorem tte64_a : aggP Tryz.prog 64 = false := by decide +kernel
@[go_sem] theorem tte69_h : hasP Tryz.prog 69 = true := by decide +kernel
@[go_sem] theorem tte69_s : sizeP Tryz.prog 69 = 4 := by decide +kernel
@[go_sem] theorem tte69_a : aggP Tryz.prog 69 = true := by decide +kernel
@[go_sem] theorem tte69_z : zeroP Tryz.prog 69 = some [.int .i64 0, .int .i64 0, .int .i64 0, .int .i64 0] := _root_.id (by kernel_rfl)
@[go_sem] theorem tte69_o : zeroOK Tryz.prog 69 = true := by decide +kernel
@[go_sem] theorem tte69_b : (bytesP Tryz.prog 69 ≤ 1024) = True := eq_true (by decide +kernel)
@[go_sem] theorem tte74_h : hasP Tryz.prog 74 = true := by decide +kernel
@[go_sem] theorem tte74_s : sizeP Tryz.prog 74 = 6 := by decide +kernel
@[go_sem] theorem tte74_a : aggP Tryz.prog 74 = true := by decide +kernel
@[go_sem] theorem tte74_z : zeroP Tryz.prog 74 = some [.int .i64 0, .int .i64 0, .int .i64 0, .int .i64 0, .int .i64 0, .int .i64 0] := _root_.id (by kernel_rfl)
@[go_sem] theorem tte74_o : zeroOK Tryz.prog 74 = true := by decide +kernel
@[go_sem] theorem tte74_b : (bytesP Tryz.prog 74 ≤ 1024) = True := eq_true (by decide +kernel)
@[go_sem] theorem tte80_h : hasP Tryz.prog 80 = true := by decide +kernel
@[go_sem] theorem tte80_s : sizeP Tryz.prog 80 = 1 := by decide +kernel
@[go_sem] theorem tte80_a : aggP Tryz.prog 80 = false := by decide +kernel
@[go_sem] theorem tte82_h : hasP Tryz.prog 82 = true := by decide +kernel
@[go_sem] theorem tte82_s : sizeP Tryz.prog 82 = 3 := by decide +kernel
@[go_sem] theorem tte82_a : aggP Tryz.prog 82 = true := by decide +kernel
@[go_sem] theorem tte82_z : zeroP Tryz.prog 82 = some [.nils, .int .i64 0, .nilm] := _root_.id (by kernel_rfl)
@[go_sem] theorem tte82_o : zeroOK Tryz.prog 82 = true := by decide +kernel
@[go_sem] theorem tte82_b : (bytesP Tryz.prog 82 ≤ 1024) = True := eq_true (by decide +kernel)
@[go_sem] theorem tte85_h : hasP Tryz.prog 85 = true := by decide +kernel
@[go_sem] theorem tte85_s : sizeP Tryz.prog 85 = 2 := by decide +kernel
@[go_sem] theorem tte85_a : aggP Tryz.prog 85 = true := by decide +kernel
@[go_sem] theorem tte85_z : zeroP Tryz.prog 85 = some [.int .i64 0, .int .i64 0] := _root_.id (by kernel_rfl)
@[go_sem] theorem tte85_o : zeroOK Tryz.prog 85 = true := by decide +kernel
@[go_sem] theorem tte85_b : (bytesP Tryz.prog 85 ≤ 1024) = True := eq_true (by decide +kernel)
@[go_sem] theorem tte100_h : hasP Tryz.prog 100 = true := by decide +kernel
@[go_sem] theorem tte100_s : sizeP Tryz.prog 100 = 1 := by decide +kernel
@[go_sem] theorem tte100_a : aggP Tryz.prog 100 = false := by decide +kernel
@[go_sem] theorem tte102_z : zeroP Tryz.prog 102 = some [.int .i64 0, .nils, .nilm] := _root_.id (by kernel_rfl)
@[go_sem] theorem tte129_h : hasP Tryz.prog 129 = true := by decide +kernel
@[go_sem] theorem tte129_s : sizeP Tryz.prog 129 = 1 := by decide +kernel
@[go_sem] theorem tte129_a : aggP Tryz.prog 129 = false := by decide +kernel
@[go_sem] theorem tte129_z : zeroP Tryz.prog 129 = some [.nilf] := _root_.id (by kernel_rfl)
@[go_sem] theorem tte147_h : hasP Tryz.prog 147 = true := by decide +kernel
@[go_sem] theorem tte147_s : sizeP Tryz.prog 147 = 1 := by decide +kernel
@[go_sem] theorem tte147_a : aggP Tryz.prog 147 = false := by decide +kernel
@[go_sem] theorem tte147_k : keyK Tryz.prog 147 = some [.int .u32] := key_of (by decide +kernel)
@[go_sem] theorem tte149_h : hasP Tryz.prog 149 = true := by decide +kernel
@[go_sem] theorem tte149_s : sizeP Tryz.prog 149 = 1 := by decide +kernel
@[go_sem] theorem tte149_a : aggP Tryz.prog 149 = false := by decide +kernel
@[go_sem] theorem tte156_h : hasP Tryz.prog 156 = true := by decide +kernel
@[go_sem] theorem tte156_s : sizeP Tryz.prog 156 = 1 := by decide +kernel
@[go_sem] theorem tte156_a : aggP Tryz.prog 156 = false := by decide +kernel
@[go_sem] theorem tte159_h : hasP Tryz.prog 159 = true := by decide +kernel
@[go_sem] theorem tte159_s : sizeP Tryz.prog 159 = 1 := by decide +kernel
@[go_sem] theorem tte159_a : aggP Tryz.prog 159 = false := by decide +kernel
@[go_sem] theorem tte159_z : zeroP Tryz.prog 159 = some [.nilf] := _root_.id (by kernel_rfl)
@[go_sem] theorem tte172_h : hasP Tryz.prog 172 = true := by decide +kernel
@[go_sem] theorem tte172_s : sizeP Tryz.prog 172 = 2 := by decide +kernel
@[go_sem] theorem tte172_a : aggP Tryz.prog 172 = true := by decide +kernel
@[go_sem] theorem tte172_z : zeroP Tryz.prog 172 = some [.int .u64 0, .int .u64 0] := _root_.id (by kernel_rfl)
@[go_sem] theorem tte177_h : hasP Tryz.prog 177 = true := by decide +kernel
@[go_sem] theorem tte177_s : sizeP Tryz.prog 177 = 24 := by decide +kernel
@[go_sem] theorem tte177_a : aggP Tryz.prog 177 = true := by decide +kernel
@[go_sem] theorem tte179_h : hasP Tryz.prog 179 = true := by decide +kernel
@[go_sem] theorem tte179_s : sizeP Tryz.prog 179 = 16 := by decide +kernel
@[go_sem] theorem tte181_z : zeroP Tryz.prog 181 = some [.nils, .int .u32 0, .int .u32 0, .int .u32 0, .int .u32 0, .int .u32 0, .int .u32 0, .int .u32 0, .int .u32 0, .int .u32 0, .int .u32 0, .int .u32 0, .int .u32 0, .int .u32 0, .int .u32 0, .int .u32 0, .int .u32 0] := _root_.id (by kernel_rfl)
@[go_sem] theorem tte182_h : hasP Tryz.prog 182 = true := by decide +kernel
@[go_sem] theorem tte182_s : sizeP Tryz.prog 182 = 1 := by decide +kernel
@[go_sem] theorem tte182_a : aggP Tryz.prog 182 = false := by decide +kernel
@[go_sem] theorem tte182_z : zeroP Tryz.prog 182 = some [.nilm] := _root_.id (by kernel_rfl)
@[go_sem] theorem tte191_z : zeroP Tryz.prog 191 = some [.bool false, .bool false, .bool false, .bool false, .bool false, .bool false, .bool false, .bool false, .bool false, .bool false, .bool false, .bool false, .bool false, .bool false, .bool false, .bool false, .bool false, .bool false, .bool false, .bool false, .bool false, .bool false, .bool false, .bool false, .bool false, .bool false, .bool false, .bool false, .bool false, .bool false, .bool false, .bool false, .bool false, .bool false, .bool false, .bool false, .bool false, .bool false, .bool false, .bool false, .bool false, .bool false, .bool false, .bool false, .bool false, .bool false, .bool false, .bool false, .bool false, .bool false, .bool false, .bool false, .bool false, .bool false, .bool false, .bool false, .bool false, .bool false, .bool false, .bool false, .bool false, .bool false, .bool false, .bool false, .bool false] := _root_.id (by kernel_rfl)
def scaleL : List Int := [20, 50, 90, 130, 170, 220, 270, 320, 370, 430, 500, 600, 750, 900, 1100, 1300, 1500, 1750, 2000, 2250, 2500, 3000, 3500, 4000]
def scaleR : List IV := scaleL.map fun n => .int .i64 n
def scalev : IV := .fptr 24 [scaleR] 0 0
def tabL : List Nat := [0, 1, 28, 2, 29, 14, 24, 3, 30, 22, 20, 15, 25, 17, 4, 8, 31, 27, 13, 23, 21, 19, 16, 7, 26, 12, 18, 6, 11, 5, 10, 9]
def tabR : List IV := tabL.map fun n => .int .u8 (n : Nat)
def tabv : IV := .fptr 32 [tabR] 0 0
def glT : List (Nat × IV) := [(0, scalev), (1, tabv)]
theorem scaleR_cl : ∀ c ∈ scaleR, Cl c := by
 intro c hc
 obtain ⟨n, _, rfl⟩ := List.mem_map.1 hc
 exact .int _ _
theorem scalev_cl : Cl scalev := .fptr _ _ _ _ fun i row j c h1 h2 => by
 cases i with
 | zero => simp only [List.getElem?_cons_zero, Option.some.injEq] at h1; subst h1; exact scaleR_cl c (List.mem_of_getElem? h2)
 | succ i => simp at h1
theorem tabR_cl : ∀ c ∈ tabR, Cl c := by
 intro c hc
 obtain ⟨n, _, rfl⟩ := List.mem_map.1 hc
 exact .int _ _
theorem tabv_cl : Cl tabv := .fptr _ _ _ _ fun i row j c h1 h2 => by
 cases i with
 | zero => simp only [List.getElem?_cons_zero, Option.some.injEq] at h1; subst h1; exact tabR_cl c (List.mem_of_getElem? h2)
 | succ i => simp at h1
theorem glT_cl : glCl glT := ⟨scalev_cl, tabv_cl, trivial⟩
@[go_sem] theorem glT_clT : glCl glT = True := eq_true glT_cl
@[go_sem] theorem glT_get : eget glT 0 = some (.fptr 24 [scaleR] 0 0) := rfl
@[go_sem] theorem glT_get1 : eget glT 1 = some (.fptr 32 [tabR] 0 0) := rfl
@[go_sem] theorem glT_bl {n : Nat} : EnBl n glT = True := eq_true (by unfold glT; rw [EnBl_cons]; exact ⟨scalev_cl.bl, by rw [EnBl_cons]; exact ⟨tabv_cl.bl, by rw [EnBl_nil]; trivial⟩⟩)
end Go.Idl
