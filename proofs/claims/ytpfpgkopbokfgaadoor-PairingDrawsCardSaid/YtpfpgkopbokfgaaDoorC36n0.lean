/-
  Chapter 36: what the walks share.
-/
import Derived.Test.YtpfpgkopbokfgaaDoorC36nT
import Derived.Test.YtpfpgkopbokfgaaDoorC36nQ
namespace Go.Idl
set_option linter.all false
open Go.Proofs
set_option maxHeartbeats 4000000
set_option maxRecDepth 40000

def ints (l : List Int) : List (List IV) := mp (fun x => [.int .i64 x]) l
@[simp] theorem ints_length (l : List Int) : (ints l).length = l.length := mp_length
@[simp] theorem ints_getElem (l : List Int) (i : Nat) (h : i < (ints l).length) : (ints l)[i] = [.int .i64 (l[i]'(by simpa using h))] := by simp [ints, mp]
theorem ints_snoc {l : List Int} {x : Int} : ints (l ++ [x]) = ints l ++ [[.int .i64 x]] := mp_snoc
theorem ints_append {l m : List Int} : ints (l ++ m) = ints l ++ ints m := mp_append
@[go_sem] theorem ints_nil : ints [] = [] := rfl
@[go_sem] theorem ScR_ints {l : List Int} : ScR (ints l) = True := eq_true (mp_sc (by simp [scal]))
@[go_sem] theorem ClR_ints {l : List Int} : ClR (ints l) = True := eq_true (ScR.cl (mp_sc (by simp [scal])))
@[go_sem] theorem BlR_ints {n : Nat} {l : List Int} : BlR n (ints l) = True := eq_true (ScR.bl (mp_sc (by simp [scal])))
theorem ints_rows {l : List Int} : ∀ r ∈ ints l, r.length = 1 := mp_rows (by simp)
theorem ints_one {l : List Int} : ∀ a ∈ ints l, a.length = 1 ∧ ∀ x ∈ a, IV.one x = true := rows_one (mp_sc (by simp [scal])) ints_rows
def prs (l : List (Int × Int)) : List (List IV) := mp (fun p => [.int .i64 p.1, .int .i64 p.2]) l
@[simp] theorem prs_length (l : List (Int × Int)) : (prs l).length = l.length := mp_length
@[simp] theorem prs_getElem (l : List (Int × Int)) (i : Nat) (h : i < (prs l).length) : (prs l)[i] = [.int .i64 (l[i]'(by simpa using h)).1, .int .i64 (l[i]'(by simpa using h)).2] := by simp [prs, mp]
theorem prs_snoc {l : List (Int × Int)} {x : Int × Int} : prs (l ++ [x]) = prs l ++ [[.int .i64 x.1, .int .i64 x.2]] := mp_snoc
theorem prs_append {l m : List (Int × Int)} : prs (l ++ m) = prs l ++ prs m := mp_append
@[go_sem] theorem prs_nil : prs [] = [] := rfl
@[go_sem] theorem ScR_prs {l : List (Int × Int)} : ScR (prs l) = True := eq_true (mp_sc (by simp [scal]))
@[go_sem] theorem ClR_prs {l : List (Int × Int)} : ClR (prs l) = True := eq_true (ScR.cl (mp_sc (by simp [scal])))
@[go_sem] theorem BlR_prs {n : Nat} {l : List (Int × Int)} : BlR n (prs l) = True := eq_true (ScR.bl (mp_sc (by simp [scal])))
theorem prs_rows {l : List (Int × Int)} : ∀ r ∈ prs l, r.length = 2 := mp_rows (by simp)
theorem prs_one {l : List (Int × Int)} : ∀ a ∈ prs l, a.length = 2 ∧ ∀ x ∈ a, IV.one x = true := rows_one (mp_sc (by simp [scal])) prs_rows

/-- The table that finds a bit. -/
def tabL : List Nat := [0, 1, 28, 2, 29, 14, 24, 3, 30, 22, 20, 15, 25, 17, 4, 8, 31, 27, 13, 23, 21, 19, 16, 7, 26, 12, 18, 6, 11, 5, 10, 9]
def tabR : List IV := tabL.map fun n => .int .u8 (n : Nat)
def tabv : IV := .fptr 32 [tabR] 0 0
def glT : List (Nat × IV) := [(0, tabv)]
theorem tabR_cl : ∀ c ∈ tabR, Cl c := by
  intro c hc
  obtain ⟨n, _, rfl⟩ := List.mem_map.1 hc
  exact .int _ _
theorem tabv_cl : Cl tabv := .fptr _ _ _ _ fun i row j c h1 h2 => by
  cases i with
  | zero => simp only [List.getElem?_cons_zero, Option.some.injEq] at h1; subst h1; exact tabR_cl c (List.mem_of_getElem? h2)
  | succ i => simp at h1
theorem glT_cl : glCl glT := ⟨tabv_cl, trivial⟩
@[go_sem] theorem glT_clT : glCl glT = True := eq_true glT_cl
@[go_sem] theorem glT_get : eget glT 0 = some (.fptr 32 [tabR] 0 0) := rfl
@[go_sem] theorem glT_bl {n : Nat} : EnBl n glT = True := eq_true (by unfold glT; rw [EnBl_cons]; exact ⟨tabv_cl.bl, by rw [EnBl_nil]; trivial⟩)
theorem IFun.gl_of {own : Bool} {P : Program} {f : FuncId} {args : List IV} {V : IV → Prop} {gl : List (Nat × IV)} (h : IFun own P [] f args V) : IFun own P gl f args V :=
  ⟨h.1, fun μ F w vs h1 h2 _ => h.2 μ F w vs h1 h2 fun g c e => by simp [eget] at e⟩
/-- A function of this chapter. -/
abbrev F36 (f : FuncId) (args : List IV) (V : IV → Prop) : Prop := IFun true Tryd.prog glT f args V
theorem F36.call {f : FuncId} {args args' : List IV} {σ : Heap} {V : IV → Prop} {K : IV → Heap → Prop} (h : F36 f args' V) (ha : okL true 4 σ args ∧ nzL 4 (frzL 4 σ args) args') (hK : ∀ v, V v → K v σ) : ICalls Tryd.prog glT f args σ K :=
  IFun.call h (nzL_frs (okL_frs ha.1) ha.2) (glCl_get glT_cl) hK
/-- A function of this chapter that may hand back what came in. -/
abbrev O36 (f : FuncId) (args : List IV) (V : IV → Prop) : Prop := IFun false Tryd.prog glT f args V
theorem O36.call {f : FuncId} {args : List IV} {σ : Heap} {V : IV → Prop} {K : IV → Heap → Prop} (h : O36 f args V) (ha : ∀ c ∈ args, Cl c) (hK : ∀ v, V v → K v σ) : ICalls Tryd.prog glT f args σ K :=
  IFun.callC h (fun _ _ e => ha _ (List.mem_of_getElem? e)) (glCl_get glT_cl) hK
end Go.Idl
