/-
  Chapter 39: the shelf's contracts at this program (written by the kit's lay-plain.mjs).
  What the walks share: rows, movements, lists of integers.
  Arguments of the laws, as they come in: rows, movements.
  Maps that count: keyed by two integers, or one.
  Lists of bytes and of short integers, as arguments.
  The shelf's functions of one integer; math/bits.Len.
  The verifier's kit: mark, SameInts.
-/
import Derived.Shelf.Lays
import Derived.Shelf.Lays2
import Derived.Test.YtamffdgopknkfaaDoorC39PartA
import Derived.Test.YtamffdgopknkfaaDoorIdlPartL
import Derived.Test.YtamffdgopknkfaaDoorIdlPartJ
import Derived.Test.YtamffdgopknkfaaDoorIdlPartH
import Derived.OpenShut
import Derived.Test.YtamffdgopknkfaaDoorIdlPartG
import Derived.Shelf.Strconv.Itoa0
namespace Go.Proofs
open Go.Shelf
def Tryd.lays129_ren : Go.Shelf.Ren := ⟨fun | 129 => 112 | n => n, fun | 53 => 125 | 3 => 3 | 4 => 4 | 46 => 162 | 5 => 5 | 9 => 9 | n => n, fun | n => n⟩
theorem Tryd.lays129 : Go.Proofs.Lays.n129 Tryd.prog Tryd.lays129_ren := {
  mixed := by kernel_rfl
  f129 := Tryd.func112.trans (congrArg some (by kernel_rfl))
  t3 := Tryd.underlying3
  a3 := Tryd.isAgg3
  z3 := Tryd.sizeOf3
  v3 := Tryd.zeroValue3
  t4 := Tryd.underlying4
  a4 := Tryd.isAgg4
  z4 := Tryd.sizeOf4
  v4 := Tryd.zeroValue4
  t5 := Tryd.underlying5
  a5 := Tryd.isAgg5
  z5 := Tryd.sizeOf5
  v5 := Tryd.zeroValue5
  t9 := Tryd.underlying9
  a9 := Tryd.isAgg9
  z9 := Tryd.sizeOf9
  v9 := Tryd.zeroValue9
  t46 := Tryd.underlying162
  a46 := Tryd.isAgg162
  z46 := Tryd.sizeOf162
  v46 := Tryd.zeroValue162
  t53 := Tryd.underlying125
  a53 := Tryd.isAgg125
  z53 := Tryd.sizeOf125
  v53 := Tryd.zeroValue125 }
end Go.Proofs
namespace Go.Idl
set_option linter.all false
open Go.Proofs
set_option maxHeartbeats 4000000
set_option maxRecDepth 40000

/-- A row: round, table, north-south, east-west, set. -/
structure Rw where
  r : Int
  t : Int
  ns : Int
  ew : Int
  s : Int
  deriving DecidableEq
def Rw.c (x : Rw) : List IV := [.int .i64 x.r, .int .i64 x.t, .int .i64 x.ns, .int .i64 x.ew, .int .i64 x.s]
def rws (l : List Rw) : List (List IV) := mp Rw.c l
@[simp] theorem rws_length (l : List Rw) : (rws l).length = l.length := mp_length
@[simp] theorem rws_getElem (l : List Rw) (i : Nat) (h : i < (rws l).length) : (rws l)[i] = [.int .i64 (l[i]'(by simpa using h)).r, .int .i64 (l[i]'(by simpa using h)).t, .int .i64 (l[i]'(by simpa using h)).ns, .int .i64 (l[i]'(by simpa using h)).ew, .int .i64 (l[i]'(by simpa using h)).s] := by simp [rws, mp, Rw.c]
@[go_sem] theorem rws_nil : rws [] = [] := rfl
@[go_sem] theorem ScR_rws {l : List Rw} : ScR (rws l) = True := eq_true (mp_sc (by simp [scal, Rw.c]))
@[go_sem] theorem ClR_rws {l : List Rw} : ClR (rws l) = True := eq_true (ScR.cl (mp_sc (by simp [scal, Rw.c])))
@[go_sem] theorem BlR_rws {n : Nat} {l : List Rw} : BlR n (rws l) = True := eq_true (ScR.bl (mp_sc (by simp [scal, Rw.c])))
def ints (l : List Int) : List (List IV) := mp (fun x => [.int .i64 x]) l
@[simp] theorem ints_length (l : List Int) : (ints l).length = l.length := mp_length
@[simp] theorem ints_getElem (l : List Int) (i : Nat) (h : i < (ints l).length) : (ints l)[i] = [.int .i64 (l[i]'(by simpa using h))] := by simp [ints, mp]
theorem ints_snoc {l : List Int} {x : Int} : ints (l ++ [x]) = ints l ++ [[.int .i64 x]] := mp_snoc
theorem ints_append {l m : List Int} : ints (l ++ m) = ints l ++ ints m := mp_append
@[go_sem] theorem ints_nil : ints [] = [] := rfl
@[go_sem] theorem ScR_ints {l : List Int} : ScR (ints l) = True := eq_true (mp_sc (by simp [scal]))
@[go_sem] theorem ClR_ints {l : List Int} : ClR (ints l) = True := eq_true (ScR.cl (mp_sc (by simp [scal])))
@[go_sem] theorem BlR_ints {n : Nat} {l : List Int} : BlR n (ints l) = True := eq_true (ScR.bl (mp_sc (by simp [scal])))
theorem ints_rows {l : List Int} : ∀ r ∈ ints l, r.length = 1 := mp_rows (by simp)
theorem ints_one {l : List Int} : ∀ a ∈ ints l, a.length = 1 ∧ ∀ x ∈ a, IV.one x = true := rows_one (mp_sc (by simp [scal])) ints_rows
theorem ints_cons {l : List Int} {x : Int} : ints (x :: l) = [.int .i64 x] :: ints l := rfl
theorem ints_take {l : List Int} {n : Nat} : ints (l.take n) = (ints l).take n := mp_take
theorem ints_drop {l : List Int} {n : Nat} : ints (l.drop n) = (ints l).drop n := mp_drop
/-- A movement; its rows. -/
structure Mv where
  tables : Int
  rounds : Int
  sets : Int
  copies : Int
  winners : Int
  rows : List Rw
  deriving DecidableEq
def Mv.v (m : Mv) : IV := .agg [.int .i64 m.tables, .int .i64 m.rounds, .int .i64 m.sets, .int .i64 m.copies, .int .i64 m.winners, .fz 5 (rws m.rows)]
def Rw.v (x : Rw) : IV := .agg [.int .i64 x.r, .int .i64 x.t, .int .i64 x.ns, .int .i64 x.ew, .int .i64 x.s]
/-- A session. -/
def sesV (m : Mv) (boards : Int) : IV := .agg [.int .i64 m.tables, .int .i64 m.rounds, .int .i64 m.sets, .int .i64 m.copies, .int .i64 m.winners, .fz 5 (rws m.rows), .int .i64 boards]
/-- A function of the program. -/
abbrev FN (f : FuncId) (args : List IV) (V : IV → Prop) : Prop := IFun true Tryd.prog glT f args V
abbrev ON (f : FuncId) (args : List IV) (V : IV → Prop) : Prop := IFun false Tryd.prog glT f args V
end Go.Idl
namespace Go.Idl
set_option linter.all false
open Go.RowKit Go.Proofs

theorem fitL_int {k : IntKind} {l : List Shp} {r : List IV} (h : fitL (.int k :: l) r) : ∃ (z : Int) (cs : List IV), r = .int k z :: cs ∧ (Lit.int k z).wf = true ∧ fitL l cs := by
  obtain ⟨c, cs, rfl, h1, h2⟩ := fitL_cons h
  obtain ⟨z, rfl, hz⟩ := fit_int h1
  exact ⟨z, cs, rfl, hz, h2⟩
def Mv.cells (m : Mv) : List IV := [.int .i64 m.tables, .int .i64 m.rounds, .int .i64 m.sets, .int .i64 m.copies, .int .i64 m.winners, .fz 5 (rws m.rows)]
end Go.Idl
namespace Go.Idl
set_option linter.all false
open Go.Proofs

def k2 (k : Int × Int) : IV := .agg [.int .i64 k.1, .int .i64 k.2]
def enP (S : List ((Int × Int) × Int)) : List (IV × IV) := enM k2 (fun v : Int => .int .i64 v) S
theorem keP (a b : Int × Int) : keq (k2 a) (k2 b) = decide (a = b) := by
  obtain ⟨a1, a2⟩ := a
  obtain ⟨b1, b2⟩ := b
  show (match ceqs [IV.int .i64 a1, IV.int .i64 a2] [IV.int .i64 b1, IV.int .i64 b2] with | some b => b | none => false) = _
  simp [ceqs, ceq, Prod.mk.injEq]
  by_cases h1 : a1 = b1 <;> by_cases h2 : a2 = b2 <;> simp [h1, h2]
theorem mget_p (a b : Int) (S : List ((Int × Int) × Int)) : mget (.agg [.int .i64 a, .int .i64 b]) (enP S) = (aget (a, b) S).map fun v => .int .i64 v := mget_en (kf := k2) keP (a, b) S
theorem mset_p (a b v : Int) (S : List ((Int × Int) × Int)) : mset (.agg [.int .i64 a, .int .i64 b]) (.int .i64 v) (enP S) = enP (aset (a, b) v S) := mset_en (kf := k2) (vf := fun v : Int => .int .i64 v) keP (a, b) v S
@[go_sem] theorem all_enP {S : List ((Int × Int) × Int)} {X : IV → Prop} : (∀ (a b : IV), (a, b) ∈ enP S → X a) ↔ ∀ p ∈ S, X (.agg [.int .i64 p.1.1, .int .i64 p.1.2]) := by
  simp only [enP, enM, List.mem_map, Prod.mk.injEq, k2]
  constructor
  · intro h p hp; exact h _ _ ⟨p, hp, rfl, rfl⟩
  · rintro h a b ⟨p, hp, rfl, rfl⟩; exact h p hp
@[go_sem] theorem bl_p {n : Nat} {S : List ((Int × Int) × Int)} : BlM n (enP S) = True := eq_true (en_bl (fun a => by simp [go_sem, k2]) (fun b => by simp [go_sem]) S)
@[go_sem] theorem enP_nil : enP [] = [] := rfl
section
variable {α : Type} [DecidableEq α]
def getC (S : List (α × Int)) (k : α) : Int := (aget k S).getD 0
@[simp] theorem getC_nil (k : α) : getC ([] : List (α × Int)) k = 0 := rfl
end
end Go.Idl
namespace Go.Idl
set_option linter.all false
open Go.RowKit Go.Proofs

def bys (k : IntKind) (l : List Int) : List (List IV) := mp (fun x => [.int k x]) l
@[simp] theorem bys_length (k : IntKind) (l : List Int) : (bys k l).length = l.length := mp_length
@[simp] theorem bys_getElem (k : IntKind) (l : List Int) (i : Nat) (h : i < (bys k l).length) : (bys k l)[i] = [.int k (l[i]'(by simpa using h))] := by simp [bys, mp]
@[go_sem] theorem bys_nil {k : IntKind} : bys k [] = [] := rfl
@[go_sem] theorem ScR_bys {k : IntKind} {l : List Int} : ScR (bys k l) = True := eq_true (mp_sc (by simp [scal]))
@[go_sem] theorem ClR_bys {k : IntKind} {l : List Int} : ClR (bys k l) = True := eq_true (ScR.cl (mp_sc (by simp [scal])))
@[go_sem] theorem BlR_bys {k : IntKind} {n : Nat} {l : List Int} : BlR n (bys k l) = True := eq_true (ScR.bl (mp_sc (by simp [scal])))
theorem bys_take {k : IntKind} {l : List Int} {n : Nat} : bys k (l.take n) = (bys k l).take n := mp_take
theorem fit_bys {k : IntKind} {c : IV} (h : (Shp.fz 1 [.int k]).fit c) : ∃ l : List Int, c = .fz 1 (bys k l) ∧ (∀ x ∈ l, (Lit.int k x).wf = true) ∧ l.length ≤ maxLen :=
  fit_list (f := fun x => [.int k x]) (fun r hr => by
    obtain ⟨a, r1, rfl, ha, h1⟩ := fitL_int hr
    obtain rfl := fitL_nil h1
    exact ⟨a, rfl, ha⟩) h
end Go.Idl
namespace Go.Idl
set_option linter.all false
open Go.Proofs
set_option maxHeartbeats 8000000
set_option maxRecDepth 40000
/-- A function of one integer that the shelf knows. -/
theorem IFun.of_calls1 {P : Program} {gl : List (Nat × IV)} {f : FuncId} {k k' : IntKind} {n m : Int} (he : ∀ (args : Array Value) (w : World), (callFunc f args).run P w = .ok (.enter f args) w)
    (h : ∀ w, Calls P f #[.int k n] w fun e w' => e = .returned (.int k' m) ∧ w' = w) : IFun true P gl f [.int k n] (fun v => v = .int k' m) := by
  refine ⟨he, fun μ F w vs hH hv hgl => ?_⟩
  obtain ⟨v, rfl⟩ : ∃ v, vs = [v] := by
    match vs, hv.1 with
    | [v], _ => exact ⟨v, rfl⟩
  have hv0 := hv.2 0 v _ rfl rfl
  cases hv0
  refine (h w).mono ?_
  rintro e w' ⟨rfl, rfl⟩
  exact ⟨_, .int k' m, [], μ, F, rfl, ⟨.int k' m, .int _ _, rfl⟩, .int _ _, hH, Ext.refl _ _ _⟩
theorem len64_fun (x : Nat) (h : x < 2 ^ 63) : FN 112 [.int .u64 (x : Int)] (fun v => v = .int .i64 (Lib.bitLen x)) :=
  IFun.of_calls1 Tryd.call112 fun w => by
    have := Any.bits_Len64 Tryd.lays129 (x : Int) w (by omega) (by omega)
    simp only [Int.toNat_natCast] at this
    exact this
theorem len_fun (x : Nat) (h : x < 2 ^ 63) : FN 89 [.int .u64 (x : Int)] (fun v => v = .int .i64 (Lib.bitLen x)) := by
  refine IFun.of_bodyZ false 3 [] Tryd.func89 rfl Tryd.call89 rfl fun R hR => ?_
  have cl := len64_fun x h
  simp [go_sem]
  refine cl.callF (by simp [go_sem]) ?_
  rintro _ rfl
  simp [go_sem]
  exact hR _ _ _ rfl (by simp [go_sem])
end Go.Idl
namespace Go.Idl
set_option linter.all false
open Go.Proofs
set_option maxHeartbeats 4000000
set_option maxRecDepth 40000

theorem mark_fun (k i : Int) (hk : 0 ≤ k ∧ k ≤ 10) (hi : 0 ≤ i ∧ i < 2 ^ 60) : FN 72 [.int .i64 k, .int .i64 i] (fun v => v = .int .i64 (1000003 * (k + 7) + i)) := by
  refine IFun.of_bodyZ false 5 [] Tryd.func72 rfl Tryd.call72 rfl fun R hR => ?_
  have w1 : IntKind.i64.wrap (k + 7) = k + 7 := wrap64 (by omega) (by omega)
  have w2 : IntKind.i64.wrap (1000003 * (k + 7)) = 1000003 * (k + 7) := wrap64 (by omega) (by omega)
  have w3 : IntKind.i64.wrap (1000003 * (k + 7) + i) = 1000003 * (k + 7) + i := wrap64 (by omega) (by omega)
  simp [go_sem, w1, w2, w3]
  exact hR _ _ _ rfl (by simp [go_sem])
theorem sameInts_fun (a b : List Int) (ha : a.length ≤ 2 ^ 62) : FN 32 [.fz 1 (ints a), .fz 1 (ints b)] (fun v => v = .bool (decide (a = b))) := by
  refine IFun.of_bodyZ false 6 [10, 14, 25] Tryd.func32 rfl Tryd.call32 rfl fun R hR => ?_
  by_cases hlen : a.length = b.length
  case neg =>
    have hI : ¬ (a.length : Int) = b.length := by omega
    have e : ¬ a = b := fun e => hlen (by rw [e])
    simp [go_sem, hlen, hI]
    exact hR _ _ _ rfl (by simp [go_sem, e])
  simp [go_sem, hlen]
  refine IWp.loopT (α := Nat) (fun i => (⟨false, 26, 6, [10, 14, 25], glT, [(0, .fz 1 (ints a)), (1, .fz 1 (ints b)), (5, .int .i64 (i : Int))], []⟩, []))
    (fun i => i ≤ a.length ∧ a.take i = b.take i) (fun i => a.length - i) 0 (by simp) (by simp [go_sem]) ?_
  rintro i ⟨hi, he⟩
  by_cases h : i < a.length
  · have h' : i < b.length := by omega
    have w1 : IntKind.i64.wrap ((i : Int) + 1) = i + 1 := wrap64 (by omega) (by omega)
    by_cases hxy : a[i] = b[i]
    · simp [go_sem, h, h', hxy, w1]
      exact ⟨by decide +kernel, i + 1, by omega, ⟨by omega, by rw [List.take_succ_eq_append_getElem h, List.take_succ_eq_append_getElem h', he, hxy]⟩, by omega⟩
    · have e : ¬ a = b := fun e => hxy (by subst e; rfl)
      simp [go_sem, h, h', hxy]
      exact ⟨by decide +kernel, hR _ _ _ rfl (by simp [go_sem, e])⟩
  · have e : a = b := by
      rw [List.take_of_length_le (by omega), List.take_of_length_le (by omega)] at he
      exact he
    have h' : ¬ i < b.length := by omega
    simp [go_sem, h, h']
    exact hR _ _ _ rfl (by simp [go_sem, e])
end Go.Idl
