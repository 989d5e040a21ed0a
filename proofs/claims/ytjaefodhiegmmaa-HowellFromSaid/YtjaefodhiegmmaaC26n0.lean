/-
  Chapter 26: what the walks share.
-/
import Derived.Test.YtjaefodhiegmmaaC26nT
import Derived.Test.YtjaefodhiegmmaaIdlY
namespace Go.Idl
set_option linter.all false
open Go.Proofs

def prs (l : List (Int × Int)) : List (List IV) := mp (fun p => [.int .i64 p.1, .int .i64 p.2]) l
@[simp] theorem prs_length (l : List (Int × Int)) : (prs l).length = l.length := mp_length
theorem prs_at {l : List (Int × Int)} {i : Nat} (h : i < l.length) : (prs l)[i]?.getD [] = [.int .i64 (l[i]).1, .int .i64 (l[i]).2] := mp_at h
@[simp] theorem prs_getElem (l : List (Int × Int)) (i : Nat) (h : i < (prs l).length) : (prs l)[i] = [.int .i64 (l[i]'(by simpa using h)).1, .int .i64 (l[i]'(by simpa using h)).2] := by simp [prs, mp]
theorem prs_snoc {l : List (Int × Int)} {x : Int × Int} : prs (l ++ [x]) = prs l ++ [[.int .i64 x.1, .int .i64 x.2]] := mp_snoc
theorem prs_set {l : List (Int × Int)} {i : Nat} {x : Int × Int} : prs (l.set i x) = (prs l).set i [.int .i64 x.1, .int .i64 x.2] := mp_set
@[go_sem] theorem ScR_prs {l : List (Int × Int)} : ScR (prs l) = True := eq_true (mp_sc (by simp [scal]))
@[go_sem] theorem ClR_prs {l : List (Int × Int)} : ClR (prs l) = True := eq_true (ScR.cl (mp_sc (by simp [scal])))
@[go_sem] theorem BlR_prs {n : Nat} {l : List (Int × Int)} : BlR n (prs l) = True := eq_true (ScR.bl (mp_sc (by simp [scal])))
theorem prs_rows {l : List (Int × Int)} : ∀ r ∈ prs l, r.length = 2 := mp_rows (by simp)
theorem prs_one {l : List (Int × Int)} : ∀ a ∈ prs l, a.length = 2 ∧ ∀ x ∈ a, IV.one x = true := rows_one (mp_sc (by simp [scal])) prs_rows
structure RowV where
  r : Int
  t : Int
  n : Int
  e : Int
  s : Int
  deriving DecidableEq
def RowV.c (x : RowV) : List IV := [.int .i64 x.r, .int .i64 x.t, .int .i64 x.n, .int .i64 x.e, .int .i64 x.s]
def rws (l : List RowV) : List (List IV) := mp RowV.c l
@[simp] theorem rws_length (l : List RowV) : (rws l).length = l.length := mp_length
@[simp] theorem rws_getElem (l : List RowV) (i : Nat) (h : i < (rws l).length) : (rws l)[i] = [.int .i64 (l[i]'(by simpa using h)).r, .int .i64 (l[i]'(by simpa using h)).t, .int .i64 (l[i]'(by simpa using h)).n, .int .i64 (l[i]'(by simpa using h)).e, .int .i64 (l[i]'(by simpa using h)).s] := by simp [rws, mp, RowV.c]
theorem rws_at {l : List RowV} {i : Nat} (h : i < l.length) : (rws l)[i]?.getD [] = [.int .i64 (l[i]).r, .int .i64 (l[i]).t, .int .i64 (l[i]).n, .int .i64 (l[i]).e, .int .i64 (l[i]).s] := mp_at h
theorem rws_snoc {l : List RowV} {x : RowV} : rws (l ++ [x]) = rws l ++ [[.int .i64 x.r, .int .i64 x.t, .int .i64 x.n, .int .i64 x.e, .int .i64 x.s]] := mp_snoc
@[go_sem] theorem rws_nil : rws [] = [] := rfl
@[go_sem] theorem prs_nil : prs [] = [] := rfl
@[go_sem] theorem ScR_rws {l : List RowV} : ScR (rws l) = True := eq_true (mp_sc (by simp [scal, RowV.c]))
@[go_sem] theorem ClR_rws {l : List RowV} : ClR (rws l) = True := eq_true (ScR.cl (mp_sc (by simp [scal, RowV.c])))
@[go_sem] theorem BlR_rws {n : Nat} {l : List RowV} : BlR n (rws l) = True := eq_true (ScR.bl (mp_sc (by simp [scal, RowV.c])))
theorem rws_rows {l : List RowV} : ∀ r ∈ rws l, r.length = 5 := mp_rows (by simp [RowV.c])
theorem rws_one {l : List RowV} : ∀ a ∈ rws l, a.length = 5 ∧ ∀ x ∈ a, IV.one x = true := rows_one (mp_sc (by simp [scal, RowV.c])) rws_rows
structure Mov where
  t : Int
  r : Int
  s : Int
  c : Int
  w : Int
  l : List RowV
  deriving DecidableEq
def Mov.v (m : Mov) : IV := .agg [.int .i64 m.t, .int .i64 m.r, .int .i64 m.s, .int .i64 m.c, .int .i64 m.w, .fz 5 (rws m.l)]
def Mov.zero : Mov := ⟨0, 0, 0, 0, 0, []⟩
theorem hasP44 : hasP Try.prog 44 = true := t26_44_h
theorem sizeP44 : sizeP Try.prog 44 = 2 := t26_44_s
theorem aggP44 : aggP Try.prog 44 = true := t26_44_a
theorem hasP3 : hasP Try.prog 3 = true := t26_3_h
theorem sizeP3 : sizeP Try.prog 3 = 1 := t26_3_s
theorem aggP3 : aggP Try.prog 3 = false := t26_3_a
theorem flat44 : flatP Try.prog 44 = some [.int .i64, .int .i64] := t26_44_f
theorem cl_prs {l : List (Int × Int)} {s : Nat} : Cl (.fz s (prs l)) := by simp [go_sem]
theorem fr_ib (fr : Bool) (h : Heap) (n : Int) (b : Bool) : Fr fr h (.tup [.int .i64 n, .bool b]) (.tup [.int .i64 n, .bool b]) := by
  have := frz_fr (fr := fr) 4 h (.tup [.int .i64 n, .bool b]) (by simp [go_sem])
  simpa [go_sem] using this
theorem fr_bi (fr : Bool) (h : Heap) (b : Bool) (k : IntKind) (n : Int) : Fr fr h (.tup [.bool b, .int k n]) (.tup [.bool b, .int k n]) := by
  have := frz_fr (fr := fr) 4 h (.tup [.bool b, .int k n]) (by simp [go_sem])
  simpa [go_sem] using this
end Go.Idl
