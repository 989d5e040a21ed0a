import Derived.Test.YtamffdgopknkfaaGreatDoorProg
import Derived.Test.YtamffdgopknkfaaGreatDoorIdlPartG
import Derived.KernelRfl
set_option linter.all false
namespace Go.Idl
open Go.Proofs
@[go_sem] theorem t39_3_h : hasP Tryz.prog 3 = true := by decide +kernel
@[go_sem] theorem t39_3_s : sizeP Tryz.prog 3 = 1 := by decide +kernel
@[go_sem] theorem t39_3_a : aggP Tryz.prog 3 = false := by decide +kernel
@[go_sem] theorem t39_3_z : zeroP Tryz.prog 3 = some [.int .i64 0] := _root_.id (by kernel_rfl)
@[go_sem] theorem t39_3_o : zeroOK Tryz.prog 3 = true := by decide +kernel
@[go_sem] theorem t39_3_i : zeroI Tryz.prog 3 = some (.int .i64 0) := _root_.id (by kernel_rfl)
@[go_sem] theorem t39_3_y : (((Tryz.prog.info? 3).map (·.bytes)).getD 0 ≤ 256) = True := eq_true (by decide +kernel)
@[go_sem] theorem t39_3_b : (bytesP Tryz.prog 3 ≤ 1024) = True := eq_true (by decide +kernel)
@[go_sem] theorem t39_4_h : hasP Tryz.prog 4 = true := by decide +kernel
@[go_sem] theorem t39_4_s : sizeP Tryz.prog 4 = 1 := by decide +kernel
@[go_sem] theorem t39_4_a : aggP Tryz.prog 4 = false := by decide +kernel
@[go_sem] theorem t39_4_i : zeroI Tryz.prog 4 = some (.bool false) := _root_.id (by kernel_rfl)
@[go_sem] theorem t39_5_h : hasP Tryz.prog 5 = true := by decide +kernel
@[go_sem] theorem t39_5_s : sizeP Tryz.prog 5 = 1 := by decide +kernel
@[go_sem] theorem t39_5_a : aggP Tryz.prog 5 = false := by decide +kernel
@[go_sem] theorem t39_22_h : hasP Tryz.prog 22 = true := by decide +kernel
@[go_sem] theorem t39_22_s : sizeP Tryz.prog 22 = 1 := by decide +kernel
@[go_sem] theorem t39_22_a : aggP Tryz.prog 22 = false := by decide +kernel
@[go_sem] theorem t39_24_h : hasP Tryz.prog 24 = true := by decide +kernel
@[go_sem] theorem t39_24_s : sizeP Tryz.prog 24 = 4 := by decide +kernel
@[go_sem] theorem t39_24_a : aggP Tryz.prog 24 = true := by decide +kernel
@[go_sem] theorem t39_24_z : zeroP Tryz.prog 24 = some [.int .i64 0, .int .i64 0, .int .i64 0, .nils] := _root_.id (by kernel_rfl)
@[go_sem] theorem t39_25_h : hasP Tryz.prog 25 = true := by decide +kernel
@[go_sem] theorem t39_25_s : sizeP Tryz.prog 25 = 1 := by decide +kernel
@[go_sem] theorem t39_25_a : aggP Tryz.prog 25 = false := by decide +kernel
@[go_sem] theorem t39_27_h : hasP Tryz.prog 27 = true := by decide +kernel
@[go_sem] theorem t39_27_s : sizeP Tryz.prog 27 = 2 := by decide +kernel
@[go_sem] theorem t39_27_a : aggP Tryz.prog 27 = true := by decide +kernel
@[go_sem] theorem t39_27_z : zeroP Tryz.prog 27 = some [.int .i64 0, .int .i64 0] := _root_.id (by kernel_rfl)
@[go_sem] theorem t39_27_f : flatP Tryz.prog 27 = some [.int .i64, .int .i64] := flat_of (by decide +kernel)
@[go_sem] theorem t39_33_h : hasP Tryz.prog 33 = true := by decide +kernel
@[go_sem] theorem t39_33_s : sizeP Tryz.prog 33 = 4 := by decide +kernel
@[go_sem] theorem t39_33_a : aggP Tryz.prog 33 = true := by decide +kernel
@[go_sem] theorem t39_33_z : zeroP Tryz.prog 33 = some [.int .i64 0, .int .i64 0, .int .i64 0, .nils] := _root_.id (by kernel_rfl)
@[go_sem] theorem t39_38_h : hasP Tryz.prog 38 = true := by decide +kernel
@[go_sem] theorem t39_38_s : sizeP Tryz.prog 38 = 2 := by decide +kernel
@[go_sem] theorem t39_38_a : aggP Tryz.prog 38 = true := by decide +kernel
@[go_sem] theorem t39_38_z : zeroP Tryz.prog 38 = some [.int .i64 0, .int .i64 0] := _root_.id (by kernel_rfl)
@[go_sem] theorem t39_38_o : zeroOK Tryz.prog 38 = true := by decide +kernel
@[go_sem] theorem t39_38_b : (bytesP Tryz.prog 38 ≤ 1024) = True := eq_true (by decide +kernel)
@[go_sem] theorem t39_38_f : flatP Tryz.prog 38 = some [.int .i64, .int .i64] := flat_of (by decide +kernel)
@[go_sem] theorem t39_41_h : hasP Tryz.prog 41 = true := by decide +kernel
@[go_sem] theorem t39_41_s : sizeP Tryz.prog 41 = 4 := by decide +kernel
@[go_sem] theorem t39_41_a : aggP Tryz.prog 41 = true := by decide +kernel
@[go_sem] theorem t39_41_z : zeroP Tryz.prog 41 = some [.int .i64 0, .int .i64 0, .int .i64 0, .int .i64 0] := _root_.id (by kernel_rfl)
@[go_sem] theorem t39_41_o : zeroOK Tryz.prog 41 = true := by decide +kernel
@[go_sem] theorem t39_41_b : (bytesP Tryz.prog 41 ≤ 1024) = True := eq_true (by decide +kernel)
@[go_sem] theorem t39_41_f : flatP Tryz.prog 41 = some [.int .i64, .int .i64, .int .i64, .int .i64] := flat_of (by decide +kernel)
@[go_sem] theorem t39_41_k : keyK Tryz.prog 41 = some [.int .i64, .int .i64, .int .i64, .int .i64] := key_of (by decide +kernel)
@[go_sem] theorem t39_44_h : hasP Tryz.prog 44 = true := by decide +kernel
@[go_sem] theorem t39_44_s : sizeP Tryz.prog 44 = 1 := by decide +kernel
@[go_sem] theorem t39_44_a : aggP Tryz.prog 44 = false := by decide +kernel
@[go_sem] theorem t39_44_z : zeroP Tryz.prog 44 = some [.nilp] := _root_.id (by kernel_rfl)
@[go_sem] theorem t39_47_h : hasP Tryz.prog 47 = true := by decide +kernel
@[go_sem] theorem t39_47_s : sizeP Tryz.prog 47 = 4 := by decide +kernel
@[go_sem] theorem t39_47_a : aggP Tryz.prog 47 = true := by decide +kernel
@[go_sem] theorem t39_47_z : zeroP Tryz.prog 47 = some [.int .i64 0, .int .i64 0, .int .i64 0, .int .i64 0] := _root_.id (by kernel_rfl)
@[go_sem] theorem t39_47_o : zeroOK Tryz.prog 47 = true := by decide +kernel
@[go_sem] theorem t39_47_b : (bytesP Tryz.prog 47 ≤ 1024) = True := eq_true (by decide +kernel)
@[go_sem] theorem t39_53_h : hasP Tryz.prog 53 = true := by decide +kernel
@[go_sem] theorem t39_53_s : sizeP Tryz.prog 53 = 1 := by decide +kernel
@[go_sem] theorem t39_53_a : aggP Tryz.prog 53 = false := by decide +kernel
@[go_sem] theorem t39_66_a : aggP Tryz.prog 66 = false := by decide +kernel
@[go_sem] theorem t39_68_h : hasP Tryz.prog 68 = true := by decide +kernel
@[go_sem] theorem t39_68_s : sizeP Tryz.prog 68 = 6 := by decide +kernel
@[go_sem] theorem t39_68_a : aggP Tryz.prog 68 = true := by decide +kernel
@[go_sem] theorem t39_68_z : zeroP Tryz.prog 68 = some [.int .i64 0, .int .i64 0, .int .i64 0, .int .i64 0, .int .i64 0, .bool false] := _root_.id (by kernel_rfl)
@[go_sem] theorem t39_68_y : (((Tryz.prog.info? 68).map (·.bytes)).getD 0 ≤ 256) = True := eq_true (by decide +kernel)
@[go_sem] theorem t39_68_f : flatP Tryz.prog 68 = some [.int .i64, .int .i64, .int .i64, .int .i64, .int .i64, .bool] := flat_of (by decide +kernel)
@[go_sem] theorem t39_87_h : hasP Tryz.prog 87 = true := by decide +kernel
@[go_sem] theorem t39_87_s : sizeP Tryz.prog 87 = 6 := by decide +kernel
@[go_sem] theorem t39_87_a : aggP Tryz.prog 87 = true := by decide +kernel
@[go_sem] theorem t39_87_z : zeroP Tryz.prog 87 = some [.int .i64 0, .int .i64 0, .int .i64 0, .int .i64 0, .int .i64 0, .bool false] := _root_.id (by kernel_rfl)
@[go_sem] theorem t39_87_o : zeroOK Tryz.prog 87 = true := by decide +kernel
@[go_sem] theorem t39_87_y : (((Tryz.prog.info? 87).map (·.bytes)).getD 0 ≤ 256) = True := eq_true (by decide +kernel)
@[go_sem] theorem t39_87_b : (bytesP Tryz.prog 87 ≤ 1024) = True := eq_true (by decide +kernel)
@[go_sem] theorem t39_87_f : flatP Tryz.prog 87 = some [.int .i64, .int .i64, .int .i64, .int .i64, .int .i64, .bool] := flat_of (by decide +kernel)
@[go_sem] theorem t39_92_h : hasP Tryz.prog 92 = true := by decide +kernel
@[go_sem] theorem t39_92_s : sizeP Tryz.prog 92 = 1 := by decide +kernel
@[go_sem] theorem t39_92_a : aggP Tryz.prog 92 = false := by decide +kernel
@[go_sem] theorem t39_92_z : zeroP Tryz.prog 92 = some [.nils] := _root_.id (by kernel_rfl)
@[go_sem] theorem t39_95_h : hasP Tryz.prog 95 = true := by decide +kernel
@[go_sem] theorem t39_95_s : sizeP Tryz.prog 95 = 1 := by decide +kernel
@[go_sem] theorem t39_95_a : aggP Tryz.prog 95 = false := by decide +kernel
@[go_sem] theorem t39_97_h : hasP Tryz.prog 97 = true := by decide +kernel
@[go_sem] theorem t39_97_s : sizeP Tryz.prog 97 = 3 := by decide +kernel
@[go_sem] theorem t39_97_a : aggP Tryz.prog 97 = true := by decide +kernel
@[go_sem] theorem t39_97_z : zeroP Tryz.prog 97 = some [.nils, .int .i64 0, .nilm] := _root_.id (by kernel_rfl)
@[go_sem] theorem t39_97_o : zeroOK Tryz.prog 97 = true := by decide +kernel
@[go_sem] theorem t39_97_b : (bytesP Tryz.prog 97 ≤ 1024) = True := eq_true (by decide +kernel)
@[go_sem] theorem t39_106_h : hasP Tryz.prog 106 = true := by decide +kernel
@[go_sem] theorem t39_106_s : sizeP Tryz.prog 106 = 2 := by decide +kernel
@[go_sem] theorem t39_106_a : aggP Tryz.prog 106 = true := by decide +kernel
@[go_sem] theorem t39_106_z : zeroP Tryz.prog 106 = some [.int .i64 0, .int .i64 0] := _root_.id (by kernel_rfl)
@[go_sem] theorem t39_106_o : zeroOK Tryz.prog 106 = true := by decide +kernel
@[go_sem] theorem t39_106_b : (bytesP Tryz.prog 106 ≤ 1024) = True := eq_true (by decide +kernel)
@[go_sem] theorem t39_106_f : flatP Tryz.prog 106 = some [.int .i64, .int .i64] := flat_of (by decide +kernel)
@[go_sem] theorem t39_106_k : keyK Tryz.prog 106 = some [.int .i64, .int .i64] := key_of (by decide +kernel)
@[go_sem] theorem t39_132_h : hasP Tryz.prog 132 = true := by decide +kernel
@[go_sem] theorem t39_132_s : sizeP Tryz.prog 132 = 1 := by decide +kernel
@[go_sem] theorem t39_132_a : aggP Tryz.prog 132 = false := by decide +kernel
@[go_sem] theorem t39_153_h : hasP Tryz.prog 153 = true := by decide +kernel
@[go_sem] theorem t39_153_s : sizeP Tryz.prog 153 = 2 := by decide +kernel
@[go_sem] theorem t39_153_a : aggP Tryz.prog 153 = true := by decide +kernel
@[go_sem] theorem t39_153_z : zeroP Tryz.prog 153 = some [.int .u64 0, .int .u64 0] := _root_.id (by kernel_rfl)
@[go_sem] theorem t39_169_h : hasP Tryz.prog 169 = true := by decide +kernel
@[go_sem] theorem t39_169_s : sizeP Tryz.prog 169 = 1 := by decide +kernel
@[go_sem] theorem t39_169_a : aggP Tryz.prog 169 = false := by decide +kernel
@[go_sem] theorem t39_169_k : keyK Tryz.prog 169 = some [.int .u32] := key_of (by decide +kernel)
@[go_sem] theorem t39_171_h : hasP Tryz.prog 171 = true := by decide +kernel
@[go_sem] theorem t39_171_s : sizeP Tryz.prog 171 = 1 := by decide +kernel
@[go_sem] theorem t39_171_a : aggP Tryz.prog 171 = false := by decide +kernel
@[go_sem] theorem t39_174_h : hasP Tryz.prog 174 = true := by decide +kernel
@[go_sem] theorem t39_174_s : sizeP Tryz.prog 174 = 1 := by decide +kernel
@[go_sem] theorem t39_174_a : aggP Tryz.prog 174 = false := by decide +kernel
@[go_sem] theorem t39_174_z : zeroP Tryz.prog 174 = some [.nilf] := _root_.id (by kernel_rfl)
@[go_sem] theorem t39_188_h : hasP Tryz.prog 188 = true := by decide +kernel
@[go_sem] theorem t39_188_s : sizeP Tryz.prog 188 = 16 := by decide +kernel
@[go_sem] theorem t39_190_z : zeroP Tryz.prog 190 = some [.nils, .int .u32 0, .int .u32 0, .int .u32 0, .int .u32 0, .int .u32 0, .int .u32 0, .int .u32 0, .int .u32 0, .int .u32 0, .int .u32 0, .int .u32 0, .int .u32 0, .int .u32 0, .int .u32 0, .int .u32 0, .int .u32 0] := _root_.id (by kernel_rfl)
@[go_sem] theorem t39_191_h : hasP Tryz.prog 191 = true := by decide +kernel
@[go_sem] theorem t39_191_s : sizeP Tryz.prog 191 = 1 := by decide +kernel
@[go_sem] theorem t39_191_a : aggP Tryz.prog 191 = false := by decide +kernel
@[go_sem] theorem t39_191_z : zeroP Tryz.prog 191 = some [.nilm] := _root_.id (by kernel_rfl)
@[go_sem] theorem t39_197_z : zeroP Tryz.prog 197 = some [.bool false, .bool false, .bool false, .bool false, .bool false, .bool false, .bool false, .bool false, .bool false, .bool false, .bool false, .bool false, .bool false, .bool false, .bool false, .bool false, .bool false, .bool false, .bool false, .bool false, .bool false, .bool false, .bool false, .bool false, .bool false, .bool false, .bool false, .bool false, .bool false, .bool false, .bool false, .bool false, .bool false, .bool false, .bool false, .bool false, .bool false, .bool false, .bool false, .bool false, .bool false, .bool false, .bool false, .bool false, .bool false, .bool false, .bool false, .bool false, .bool false, .bool false, .bool false, .bool false, .bool false, .bool false, .bool false, .bool false, .bool false, .bool false, .bool false, .bool false, .bool false, .bool false, .bool false, .bool false, .bool false] := _root_.id (by kernel_rfl)
def tabL : List Nat := [0, 1, 28, 2, 29, 14, 24, 3, 30, 22, 20, 15, 25, 17, 4, 8, 31, 27, 13, 23, 21, 19, 16, 7, 26, 12, 18, 6, 11, 5, 10, 9]
def tabR : List IV := tabL.map fun n => .int .u8 (n : Nat)
def tabv : IV := .fptr 32 [tabR] 0 0
def glT : List (Nat × IV) := [(0, tabv)]
theorem tabR_cl : ∀ c ∈ tabR, Cl c := by
 intro c hc
 obtain ⟨n, _, rfl⟩ := List.mem_map.1 hc
 exact .int _ _
theorem tabv_cl : Cl tabv := .fptr _ _ _ _ fun i row j c h1 h2 => by
 cases i with
 | zero => simp only [List.getElem?_cons_zero, Option.some.injEq] at h1; subst h1; exact tabR_cl c (List.mem_of_getElem? h2)
 | succ i => simp at h1
theorem glT_cl : glCl glT := ⟨tabv_cl, trivial⟩
@[go_sem] theorem glT_clT : glCl glT = True := eq_true glT_cl
@[go_sem] theorem glT_get : eget glT 0 = some (.fptr 32 [tabR] 0 0) := rfl
@[go_sem] theorem glT_bl {n : Nat} : EnBl n glT = True := eq_true (by unfold glT; rw [EnBl_cons]; exact ⟨tabv_cl.bl, by rw [EnBl_nil]; trivial⟩)
end Go.Idl
