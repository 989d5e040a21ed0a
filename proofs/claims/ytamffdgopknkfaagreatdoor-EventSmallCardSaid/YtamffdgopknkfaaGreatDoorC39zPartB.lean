import Derived.Shelf.Lays
import Derived.Shelf.Lays2
import Derived.Test.YtamffdgopknkfaaGreatDoorC39zPartA
import Derived.Test.YtamffdgopknkfaaGreatDoorIdlPartL
import Derived.Test.YtamffdgopknkfaaGreatDoorIdlPartJ
import Derived.Shelf.Strconv.Itoa0
set_option linter.all false
set_option maxHeartbeats 8000000
set_option maxRecDepth 40000
namespace Go.Proofs
open Go.Shelf
def Tryz.lays129_ren : Go.Shelf.Ren := ⟨fun | 129 => 107 | n => n, fun | 53 => 132 | 3 => 3 | 4 => 4 | 46 => 144 | 5 => 5 | 9 => 9 | n => n, fun | n => n⟩
theorem Tryz.lays129 : Go.Proofs.Lays.n129 Tryz.prog Tryz.lays129_ren := {
 mixed := by kernel_rfl
 f129 := Tryz.func107.trans (congrArg some (by kernel_rfl))
 t3 := Tryz.underlying3
 a3 := Tryz.isAgg3
 z3 := Tryz.sizeOf3
 v3 := Tryz.zeroValue3
 t4 := Tryz.underlying4
 a4 := Tryz.isAgg4
 z4 := Tryz.sizeOf4
 v4 := Tryz.zeroValue4
 t5 := Tryz.underlying5
 a5 := Tryz.isAgg5
 z5 := Tryz.sizeOf5
 v5 := Tryz.zeroValue5
 t9 := Tryz.underlying9
 a9 := Tryz.isAgg9
 z9 := Tryz.sizeOf9
 v9 := Tryz.zeroValue9
 t46 := Tryz.underlying144
 a46 := Tryz.isAgg144
 z46 := Tryz.sizeOf144
 v46 := Tryz.zeroValue144
 t53 := Tryz.underlying132
 a53 := Tryz.isAgg132
 z53 := Tryz.sizeOf132
 v53 := Tryz.zeroValue132 }
end Go.Proofs
namespace Go.Idl
open Go.Proofs
structure Rw where
 r : Int
 t : Int
 ns : Int
 ew : Int
 s : Int
 deriving DecidableEq
def Rw.c (x : Rw) : List IV := [.int .i64 x.r, .int .i64 x.t, .int .i64 x.ns, .int .i64 x.ew, .int .i64 x.s]
def rws (l : List Rw) : List (List IV) := mp Rw.c l
@[go_sem] theorem rws_nil : rws [] = [] := rfl
def ints (l : List Int) : List (List IV) := mp (fun x => [.int .i64 x]) l
@[simp] theorem ints_length (l : List Int) : (ints l).length = l.length := mp_length
@[simp] theorem ints_getElem (l : List Int) (i : Nat) (h : i < (ints l).length) : (ints l)[i] = [.int .i64 (l[i]'(by simpa using h))] := by simp [ints, mp]
theorem ints_snoc {l : List Int} {x : Int} : ints (l ++ [x]) = ints l ++ [[.int .i64 x]] := mp_snoc
theorem ints_append {l m : List Int} : ints (l ++ m) = ints l ++ ints m := mp_append
@[go_sem] theorem ints_nil : ints [] = [] := rfl
@[go_sem] theorem ScR_ints {l : List Int} : ScR (ints l) = True := eq_true (mp_sc (by simp [scal]))
@[go_sem] theorem ClR_ints {l : List Int} : ClR (ints l) = True := eq_true (ScR.cl (mp_sc (by simp [scal])))
@[go_sem] theorem BlR_ints {n : Nat} {l : List Int} : BlR n (ints l) = True := eq_true (ScR.bl (mp_sc (by simp [scal])))
theorem ints_rows {l : List Int} : ∀ r ∈ ints l, r.length = 1 := mp_rows (by simp)
theorem ints_one {l : List Int} : ∀ a ∈ ints l, a.length = 1 ∧ ∀ x ∈ a, IV.one x = true := rows_one (mp_sc (by simp [scal])) ints_rows
theorem ints_cons {l : List Int} {x : Int} : ints (x :: l) = [.int .i64 x] :: ints l := rfl
theorem ints_take {l : List Int} {n : Nat} : ints (l.take n) = (ints l).take n := mp_take
theorem ints_drop {l : List Int} {n : Nat} : ints (l.drop n) = (ints l).drop n := mp_drop
theorem ints_set {l : List Int} {i : Nat} {x : Int} : ints (l.set i x) = (ints l).set i [.int .i64 x] := mp_set
structure Mv where
 tables : Int
 rounds : Int
 sets : Int
 copies : Int
 winners : Int
 rows : List Rw
 deriving DecidableEq
def Mv.v (m : Mv) : IV := .agg [.int .i64 m.tables, .int .i64 m.rounds, .int .i64 m.sets, .int .i64 m.copies, .int .i64 m.winners, .fz 5 (rws m.rows)]
def Rw.v (x : Rw) : IV := .agg [.int .i64 x.r, .int .i64 x.t, .int .i64 x.ns, .int .i64 x.ew, .int .i64 x.s]
abbrev FN (f : FuncId) (args : List IV) (V : IV → Prop) : Prop := IFun true Tryz.prog glT f args V
abbrev ON (f : FuncId) (args : List IV) (V : IV → Prop) : Prop := IFun false Tryz.prog glT f args V
end Go.Idl
namespace Go.Idl
open Go.RowKit Go.Proofs
theorem fitL_int {k : IntKind} {l : List Shp} {r : List IV} (h : fitL (.int k :: l) r) : ∃ (z : Int) (cs : List IV), r = .int k z :: cs ∧ (Lit.int k z).wf = true ∧ fitL l cs := by
 obtain ⟨c, cs, rfl, h1, h2⟩ := fitL_cons h
 obtain ⟨z, rfl, hz⟩ := fit_int h1
 exact ⟨z, cs, rfl, hz, h2⟩
def Mv.cells (m : Mv) : List IV := [.int .i64 m.tables, .int .i64 m.rounds, .int .i64 m.sets, .int .i64 m.copies, .int .i64 m.winners, .fz 5 (rws m.rows)]
theorem wf64 {z : Int} (h : (Lit.int .i64 z).wf = true) : -2 ^ 63 ≤ z ∧ z < 2 ^ 63 := by
 have := bounds_i64 h; omega
end Go.Idl
namespace Go.Idl
open Go.Proofs
def k2 (k : Int × Int) : IV := .agg [.int .i64 k.1, .int .i64 k.2]
def enP (S : List ((Int × Int) × Int)) : List (IV × IV) := enM k2 (fun v : Int => .int .i64 v) S
theorem keP (a b : Int × Int) : keq (k2 a) (k2 b) = decide (a = b) := by
 obtain ⟨a1, a2⟩ := a
 obtain ⟨b1, b2⟩ := b
 show (match ceqs [IV.int .i64 a1, IV.int .i64 a2] [IV.int .i64 b1, IV.int .i64 b2] with | some b => b | none => false) = _
 simp [ceqs, ceq, Prod.mk.injEq]
 by_cases h1 : a1 = b1 <;> by_cases h2 : a2 = b2 <;> simp [h1, h2]
theorem mget_p (a b : Int) (S : List ((Int × Int) × Int)) : mget (.agg [.int .i64 a, .int .i64 b]) (enP S) = (aget (a, b) S).map fun v => .int .i64 v := mget_en (kf := k2) keP (a, b) S
theorem mset_p (a b v : Int) (S : List ((Int × Int) × Int)) : mset (.agg [.int .i64 a, .int .i64 b]) (.int .i64 v) (enP S) = enP (aset (a, b) v S) := mset_en (kf := k2) (vf := fun v : Int => .int .i64 v) keP (a, b) v S
@[go_sem] theorem all_enP {S : List ((Int × Int) × Int)} {X : IV → Prop} : (∀ (a b : IV), (a, b) ∈ enP S → X a) ↔ ∀ p ∈ S, X (.agg [.int .i64 p.1.1, .int .i64 p.1.2]) := by
 simp only [enP, enM, List.mem_map, Prod.mk.injEq, k2]
 constructor
 ·intro h p hp; exact h _ _ ⟨p, hp, rfl, rfl⟩
 ·rintro h a b ⟨p, hp, rfl, rfl⟩; exact h p hp
@[go_sem] theorem bl_p {n : Nat} {S : List ((Int × Int) × Int)} : BlM n (enP S) = True := eq_true (en_bl (fun a => by simp [go_sem, k2]) (fun b => by simp [go_sem]) S)
@[go_sem] theorem enP_nil : enP [] = [] := rfl
section
variable {α : Type} [DecidableEq α]
def getC (S : List (α × Int)) (k : α) : Int := (aget k S).getD 0
@[simp] theorem getC_nil (k : α) : getC ([] : List (α × Int)) k = 0 := rfl
end
end Go.Idl
namespace Go.Idl
open Go.Proofs
theorem IFun.of_calls1 {P : Program} {gl : List (Nat × IV)} {f : FuncId} {k k' : IntKind} {n m : Int} (he : ∀ (args : Array Value) (w : World), (callFunc f args).run P w = .ok (.enter f args) w)
  (h : ∀ w, Calls P f #[.int k n] w fun e w' => e = .returned (.int k' m) ∧ w' = w) : IFun true P gl f [.int k n] (fun v => v = .int k' m) := by
 refine ⟨he, fun μ F w vs hH hv hgl => ?_⟩
 obtain ⟨v, rfl⟩ : ∃ v, vs = [v] := by
  match vs, hv.1 with
  | [v], _ => exact ⟨v, rfl⟩
 have hv0 := hv.2 0 v _ rfl rfl
 cases hv0
 refine (h w).mono ?_
 rintro e w' ⟨rfl, rfl⟩
 exact ⟨_, .int k' m, [], μ, F, rfl, ⟨.int k' m, .int _ _, rfl⟩, .int _ _, hH, Ext.refl _ _ _⟩
theorem len64_fun (x : Nat) (h : x < 2 ^ 63) : FN 107 [.int .u64 (x : Int)] (fun v => v = .int .i64 (Lib.bitLen x)) :=
 IFun.of_calls1 Tryz.call107 fun w => by
  have := Any.bits_Len64 Tryz.lays129 (x : Int) w (by omega) (by omega)
  simp only [Int.toNat_natCast] at this
  exact this
theorem len_fun (x : Nat) (h : x < 2 ^ 63) : FN 80 [.int .u64 (x : Int)] (fun v => v = .int .i64 (Lib.bitLen x)) := by
 refine IFun.of_bodyZ false 3 [] Tryz.func80 rfl Tryz.call80 rfl fun R hR => ?_
 have cl := len64_fun x h
 simp [go_sem]
 refine cl.callF (by simp [go_sem]) ?_
 rintro _ rfl
 simp [go_sem]
 exact hR _ _ _ rfl (by simp [go_sem])
end Go.Idl
namespace Go.Idl
open Go.Proofs
theorem mark_fun (k i : Int) (hk : 0 ≤ k ∧ k ≤ 10) (hi : 0 ≤ i ∧ i < 2 ^ 60) : FN 47 [.int .i64 k, .int .i64 i] (fun v => v = .int .i64 (1000003 * (k + 7) + i)) := by
 refine IFun.of_bodyZ false 5 [] Tryz.func47 rfl Tryz.call47 rfl fun R hR => ?_
 have w1 : IntKind.i64.wrap (k + 7) = k + 7 := wrap64 (by omega) (by omega)
 have w2 : IntKind.i64.wrap (1000003 * (k + 7)) = 1000003 * (k + 7) := wrap64 (by omega) (by omega)
 have w3 : IntKind.i64.wrap (1000003 * (k + 7) + i) = 1000003 * (k + 7) + i := wrap64 (by omega) (by omega)
 simp [go_sem, w1, w2, w3]
 exact hR _ _ _ rfl (by simp [go_sem])
theorem sameInts_fun (a b : List Int) (ha : a.length ≤ 2 ^ 62) : FN 21 [.fz 1 (ints a), .fz 1 (ints b)] (fun v => v = .bool (decide (a = b))) := by
 refine IFun.of_bodyZ false 6 [10, 14, 25] Tryz.func21 rfl Tryz.call21 rfl fun R hR => ?_
 by_cases hlen : a.length = b.length
 case neg =>
  have hI : ¬ (a.length : Int) = b.length := by omega
  have e : ¬ a = b := fun e => hlen (by rw [e])
  simp [go_sem, hlen, hI]
  exact hR _ _ _ rfl (by simp [go_sem, e])
 simp [go_sem, hlen]
 refine IWp.loopT (α := Nat) (fun i => (⟨false, 26, 6, [10, 14, 25], glT, [(0, .fz 1 (ints a)), (1, .fz 1 (ints b)), (5, .int .i64 (i : Int))], []⟩, []))
  (fun i => i ≤ a.length ∧ a.take i = b.take i) (fun i => a.length - i) 0 (by simp) (by simp [go_sem]) ?_
 rintro i ⟨hi, he⟩
 by_cases h : i < a.length
 ·have h' : i < b.length := by omega
  have w1 : IntKind.i64.wrap ((i : Int) + 1) = i + 1 := wrap64 (by omega) (by omega)
  by_cases hxy : a[i] = b[i]
  ·simp [go_sem, h, h', hxy, w1]
   exact ⟨by decide +kernel, i + 1, by omega, ⟨by omega, by rw [List.take_succ_eq_append_getElem h, List.take_succ_eq_append_getElem h', he, hxy]⟩, by omega⟩
  ·have e : ¬ a = b := fun e => hxy (by subst e; rfl)
   simp [go_sem, h, h', hxy]
   exact ⟨by decide +kernel, hR _ _ _ rfl (by simp [go_sem, e])⟩
 ·have e : a = b := by
   rw [List.take_of_length_le (by omega), List.take_of_length_le (by omega)] at he
   exact he
  have h' : ¬ i < b.length := by omega
  simp [go_sem, h, h']
  exact hR _ _ _ rfl (by simp [go_sem, e])
end Go.Idl
