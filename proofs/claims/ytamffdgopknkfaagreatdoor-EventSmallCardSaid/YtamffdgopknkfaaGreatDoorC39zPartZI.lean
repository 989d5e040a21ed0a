import Derived.Test.YtamffdgopknkfaaGreatDoorC39zPartW
import Derived.Test.YtamffdgopknkfaaGreatDoorC39zPartZH
set_option linter.all false
set_option maxHeartbeats 16000000
set_option maxRecDepth 40000
namespace Go.Idl
open Go.Proofs
def mkI (i : Nat) : Int := 8000024 + i
def mksI (n : Nat) : List Int := (List.range n).map mkI
theorem mksI_succ (n : Nat) : mksI (n + 1) = mksI n ++ [mkI n] := by simp [mksI, List.range_succ]
@[simp] theorem mksI_length (n : Nat) : (mksI n).length = n := by simp [mksI]
theorem lentInts_calls (l : List Int) (hl : l.length ≤ 2 ^ 32) : ICalls Tryz.prog glT 25 [.fz 1 (ints l)] [] (fun v σ => v = .sl 0 (l.length + 12) 0 l.length (some (l.length + 12)) ∧ σ = [.rows 1 (ints (l ++ mksI 12))]) := by
 refine ICalls.forget (ICalls.of_bodyE true 5 [13] Tryz.func25 rfl Tryz.call25 rfl fun R hR => ?_)
 have w1 : IntKind.i64.wrap ((l.length : Int) + 12) = ((l.length + 12 : Nat) : Int) := by rw [wrap64 (by omega) (by omega)]; rfl
 obtain ⟨N, hN⟩ : ∃ N, l.length + 12 = N := ⟨_, rfl⟩
 rw [hN] at w1
 have hLN : l.length ≤ N := by omega
 have hsub : N - l.length = 12 := by omega
 simp [go_sem, w1, hLN, hsub]
 refine ⟨by omega, fun r hr => ints_one r hr, ?_⟩
 refine IWp.loopT (α := Nat) (fun i => (⟨true, 25, 5, [13], glT, [(0, .fz 1 (ints l)), (2, .nils), (3, .sl 0 N 0 (l.length + i) (some N)), (4, .int .i64 (i : Int))], []⟩, [.rows 1 (ints (l ++ (mksI i ++ List.replicate (12 - i) 0)))]))
  (fun i => i ≤ 12) (fun i => 12 - i) 0 (by simp) (by simp [go_sem, ints_append, mksI, ints_cons]) ?_
 intro i hi
 by_cases h : i < 12
 ·have h' : (i : Int) < 12 := by omega
  have w2 : IntKind.i64.wrap ((i : Int) + 1) = i + 1 := wrap64 (by omega) (by omega)
  have hr : l.length + i + 1 ≤ N := by omega
  have e1 : (ints (l ++ (mksI i ++ List.replicate (12 - i) 0))).take (l.length + i) = ints (l ++ mksI i) := by
   rw [← ints_take, ← List.append_assoc, List.take_append_of_le_length (by simp), List.take_of_length_le (by simp)]
  have e2 : (ints (l ++ (mksI i ++ List.replicate (12 - i) 0))).drop (l.length + i + 1) = ints (List.replicate (12 - (i + 1)) 0) := by
   rw [← ints_drop, ← List.append_assoc, List.drop_append, List.drop_of_length_le (by simp), List.nil_append, List.drop_replicate]
   congr 2; simp; try omega
  obtain ⟨L, hL⟩ : ∃ L, ints (l ++ (mksI i ++ List.replicate (12 - i) 0)) = L := ⟨_, rfl⟩
  have hLl : L.length = N := by rw [← hL]; simp; omega
  obtain ⟨J, hJ⟩ : ∃ J, l.length + i = J := ⟨_, rfl⟩
  simp only [hL, hJ] at e1 e2 hr ⊢
  simp [go_sem, h', hL, hJ]
  refine (mark_fun 1 i (by omega) (by omega)).callF (by simp [go_sem]) ?_
  rintro _ rfl
  simp [go_sem, w2, hr, hLl, e1, e2]
  refine ⟨i + 1, ⟨⟨by omega, rfl⟩, ?_⟩, by omega, by omega⟩
  rw [mksI_succ, ints_append, ints_append, ints_append, ints_append]
  simp [ints_cons, mkI, go_sem, show 12 - (i + 1) = 11 - i by omega]
 ·have : i = 12 := by omega
  subst this
  have e : (l ++ (mksI 12 ++ List.replicate (12 - 12) 0)) = l ++ mksI 12 := by simp
  have e' : N = l.length + 12 := hN.symm
  subst e'
  simp [go_sem]
  refine ⟨by omega, hR _ _ ⟨[.rows 1 (ints (l ++ mksI 12))], ?_, rfl, rfl⟩⟩
  simp [go_sem, e]
def lentI (l : List Int) : IObj := .rows 1 (ints (l ++ mksI 12))
@[go_sem] theorem lentI_take {l m : List Int} : List.take l.length (ints (l ++ m)) = ints l := by rw [← ints_take]; simp
@[go_sem] theorem lentI_cut {l m : List Int} : cutR 0 l.length (ints (l ++ m)) = ints l := by simp [cutR, lentI_take]
theorem keptInts_calls (l : List Int) (hl : l.length ≤ 2 ^ 32) : ICalls Tryz.prog glT 33 [.sl 0 (l.length + 12) 0 l.length (some (l.length + 12)), .fz 1 (ints l)] [lentI l] (fun v σ => v = .bool true ∧ σ = [lentI l]) := by
 refine ICalls.of_bodyE false 7 [11, 20, 57] Tryz.func33 rfl Tryz.call33 rfl fun R hR => ?_
 have w1 : IntKind.i64.wrap ((l.length : Int) + 12) = ((l.length + 12 : Nat) : Int) := by rw [wrap64 (by omega) (by omega)]; rfl
 obtain ⟨N, hN⟩ : ∃ N, l.length + 12 = N := ⟨_, rfl⟩
 obtain ⟨L, hL⟩ : ∃ L, ints (l ++ mksI 12) = L := ⟨_, rfl⟩
 have hLl : L.length = N := by rw [← hL]; simp; omega
 have hLN : l.length ≤ N := by omega
 have hBl : BlR 1 L := by rw [← hL]; simp [go_sem]
 rw [hN] at w1
 simp [go_sem, w1, hLN, hN, hL, hLl, lentI]
 refine IWp.loopT (α := Nat) (fun i => (⟨false, 58, 7, [11, 20, 57], glT, [(1, .fz 1 (ints l)), (5, .sl 0 N 0 N (some N)), (6, .int .i64 (i : Int))], []⟩, [.rows 1 L]))
  (fun i => i ≤ N) (fun i => N - i) 0 (by simp) (by simp [go_sem, ← hL]) ?_
 intro i hi
 by_cases h : i < N
 ·have w2 : IntKind.i64.wrap ((i : Int) + 1) = i + 1 := wrap64 (by omega) (by omega)
  have hlt : (i : Int) < N := by omega
  by_cases hx : i < l.length
  ·have hx' : (i : Int) < l.length := by omega
   have e1 : ∀ hh : i < L.length, L[i] = [.int .i64 l[i]] := fun hh => by
    subst hL; simp [List.getElem_append_left hx]
   have hx3 : ¬ l.length ≤ i := by omega
   simp [go_sem, hlt, h, hLl]
   refine Drawn.intro (fun k => .tup []) ?_
   simp [go_sem, hx, hx', hx3, hLl, h, e1, hBl, w2]
   exact ⟨by decide +kernel, i + 1, rfl, by omega, by omega⟩
  ·have hx' : ¬ (i : Int) < l.length := by omega
   have hx3 : l.length ≤ i := by omega
   obtain ⟨j, hj⟩ : ∃ j, i = l.length + j := ⟨i - l.length, by omega⟩
   have hj12 : j < 12 := by omega
   have w3 : IntKind.i64.wrap ((i : Int) - l.length) = j := by rw [wrap64 (by omega) (by omega)]; omega
   have c := mark_fun 1 (j : Int) (by omega) (by omega)
   have e1 : ∀ hh : i < L.length, L[i] = [.int .i64 (8000024 + j)] := fun hh => by
    subst hL; subst hj
    simp [List.getElem_append_right, mksI, mkI]
   simp [go_sem, hlt, h, hLl]
   refine Drawn.intro (fun k => if k = 30 then .int .i64 (8000024 + j) else .tup []) ?_
   simp [go_sem, hx, hx', hx3, hLl, h, e1, hBl, w2, w3]
   exact ⟨.inl (by simpa using c), by decide +kernel, i + 1, rfl, by omega, by omega⟩
 ·have : i = N := by omega
  subst this
  simp [go_sem, hLl]
  exact hR _ _ ⟨rfl, by simp [lentI, hL]⟩
end Go.Idl
namespace Go.Idl
open Go.Proofs
def fewB (p : Pl) (l : List Em) : Bool := decide (p.s.length ≤ 60) && decide (l.length ≤ 40) && (decide (p.t ≤ 8) || decide (16 < p.t))
theorem few39_fun (p : Pl) (l : List Em) : FN 12 [p.v, .fz 4 (ems l)] (fun v => v = .bool (fewB p l)) := by
 refine IFun.of_bodyZ false 5 [] Tryz.func12 rfl Tryz.call12 rfl fun R hR => ?_
 unfold fewB at hR
 simp only [Pl.v] at *
 by_cases c1 : p.s.length ≤ 60
 ·have c1' : (p.s.length : Int) ≤ 60 := by omega
  rw [decide_eq_true c1, Bool.true_and] at hR
  by_cases c2 : l.length ≤ 40
  ·have c2' : (l.length : Int) ≤ 40 := by omega
   rw [decide_eq_true c2, Bool.true_and] at hR
   by_cases c3 : p.t ≤ 8
   ·rw [decide_eq_true c3, Bool.true_or] at hR
    simp [go_sem, c1, c1', c2, c2', c3]
    exact hR _ _ _ rfl (by simp [go_sem])
   ·rw [decide_eq_false c3, Bool.false_or] at hR
    simp [go_sem, c1, c1', c2, c2', c3]
    exact hR _ _ _ rfl (by simp [go_sem])
  ·have c2' : ¬ (l.length : Int) ≤ 40 := by omega
   rw [decide_eq_false c2, Bool.false_and] at hR
   simp [go_sem, c1, c1', c2, c2']
   exact hR _ _ _ rfl (by simp [go_sem])
 ·have c1' : ¬ (p.s.length : Int) ≤ 60 := by omega
  rw [decide_eq_false c1, Bool.false_and, Bool.false_and] at hR
  simp [go_sem, c1, c1']
  exact hR _ _ _ rfl (by simp [go_sem])
theorem drawE_len9 {p : Pl} {l : List Em} (h : ArgE p l) (n : Int) : (drawE p l n).1.length ≤ 12 := by
 unfold drawE
 split
 ·simp
 ·split
  ·simp
  ·rename_i h1 h2
   have hc : (chkR p l).2 = 0 := by simpa using h1
   have hj : n.toNat < (rchd p l).length := by omega
   have := (rchd_er (l := l) (plB_ok (chkR_pl hc) (h.t (chkR_pl hc))).1 (j := n.toNat) (r := (rchd p l)[n.toNat]) (List.getElem?_eq_getElem hj)).2
   rw [List.getD_eq_getElem?_getD, List.getElem?_eq_getElem hj, Option.getD_some]
   simp only
   omega
theorem openE_len9 {p : Pl} {l : List Em} (h : ArgE p l) : (openE p l).1.length ≤ 12 := by
 unfold openE
 split
 ·simp
 ·split
  ·simp
  ·rename_i h1 h2
   have hc : (chkR p l).2 = 0 := by simpa using h1
   have hj : (rchd p l).length - 1 < (rchd p l).length := by omega
   have := (rchd_er (l := l) (plB_ok (chkR_pl hc) (h.t (chkR_pl hc))).1 (j := (rchd p l).length - 1) (r := (rchd p l)[(rchd p l).length - 1]) (List.getElem?_eq_getElem hj)).2
   unfold lastR
   rw [List.getD_eq_getElem?_getD, List.getElem?_eq_getElem hj, Option.getD_some]
   have h3 := List.length_filter_le (fun x => (aget x (rchd p l)[(rchd p l).length - 1].mg).isNone) (rchd p l)[(rchd p l).length - 1].draw
   unfold opnR
   simp only
   omega
theorem tableE_len9 {p : Pl} {l : List Em} (h : ArgE p l) : (tableE p l).1.length ≤ 12 := by
 unfold tableE
 split
 ·simp
 ·rename_i h1
  have hc : (chkR p l).2 = 0 := by simpa using h1
  have := (plB_ok (chkR_pl hc) (h.t (chkR_pl hc))).1.t
  simp only [tabL9_length]
  omega
theorem qualE_len9 {p : Pl} {l : List Em} (h : ArgE p l) (n : Int) : (qualE p l n).1.length ≤ 12 := by
 unfold qualE
 split
 ·simp
 ·split
  ·simp
  ·split
   ·simp
   ·rename_i h1 h2 h3
    have hc : (chkR p l).2 = 0 := by simpa using h1
    have := (plB_ok (chkR_pl hc) (h.t (chkR_pl hc))).1.t
    simp only [List.length_map, List.length_take, tabL9_length]
    omega
theorem tells39_fun (p : Pl) (l : List Em) (n : Int) : FN 9 [p.v, .fz 4 (ems l), .int .i64 n] (fun v => v = .bool true) := by
 refine IFun.of_bodyW false 41 [44, 54, 55, 56, 57, 180, 182, 183, 184, 194, 197, 198, 199, 209, 238] Tryz.func9 rfl Tryz.call9 rfl fun R hR => ?_
 have cf := few39_fun p l
 cases hf : fewB p l with
 | false =>
  rw [hf] at cf
  simp only [Pl.v] at *
  refine IWp.now ?_
  simp [go_sem]
  refine cf.callF (by simp [go_sem]) ?_
  rintro _ rfl
  simp [go_sem]
  exact hR _ _ _ rfl (by simp [go_sem])
 | true =>
 rw [hf] at cf
 have hsl : p.s.length ≤ 60 ∧ l.length ≤ 40 := by
  unfold fewB at hf
  simp only [Bool.and_eq_true, Bool.or_eq_true, decide_eq_true_eq] at hf
  omega
 have hs : p.s.length ≤ 2 ^ 32 := by omega
 have hl : l.length ≤ 2 ^ 30 := by omega
 have hA : ArgE p l := by
  unfold fewB at hf
  simp only [Bool.and_eq_true, Bool.or_eq_true, decide_eq_true_eq] at hf
  refine ⟨fun hp => ?_, hs, hl⟩
  unfold plB at hp
  simp only [Bool.and_eq_true, decide_eq_true_eq] at hp
  omega
 have hl40 : l.length ≤ 40 := by
  unfold fewB at hf
  simp only [Bool.and_eq_true, Bool.or_eq_true, decide_eq_true_eq] at hf
  omega
 have cli := lentInts_calls p.s hs
 simp only [Pl.v] at *
 refine IWp.seqI ?_
 simp [go_sem]
 refine IWp.seqI ?_
 simp [go_sem]
 refine cf.callF (by simp [go_sem]) ?_
 rintro _ rfl
 simp [go_sem]
 refine IWp.seqI ?_
 simp [go_sem]
 refine ⟨by decide +kernel, ?_⟩
 refine IWp.seqI ?_
 simp [go_sem]
 refine cli.at [] (by simp [go_sem]) ?_
 rintro _ _ ⟨rfl, rfl⟩
 simp [go_sem]
 refine IWp.seqI ?_
 simp [go_sem]
 refine ⟨⟨by omega, ems_one⟩, ?_⟩
 refine IWp.seqI ?_
 simp [go_sem]
 refine IWp.ownNilS 4 10 (by decide) (by simp [go_sem]) ?_
 simp [go_sem]
 refine IWp.seqT (α := Unit) (fun _ => (⟨false, 251, 41, [44, 54, 55, 56, 57, 180, 182, 183, 184, 194, 197, 198, 199, 209, 238], glT, [(1, .fz 4 (ems l)), (2, .int .i64 n), (3, .ptr 0 1 0 0), (7, .ptr 3 1 0 0), (8, .ptr 4 1 0 0), (9, .sl 6 l.length 0 l.length none), (10, .sl 7 l.length 0 l.length none)], []⟩, [.rows 4 [[.int .i64 p.t, .int .i64 p.r, .int .i64 p.b, .fz 1 (ints p.s)]], .dead, .dead, .rows 4 [[.int .i64 p.t, .int .i64 p.r, .int .i64 p.b, .sl 5 (p.s.length + 12) 0 p.s.length (some (p.s.length + 12))]], .rows 4 [[.int .i64 p.t, .int .i64 p.r, .int .i64 p.b, .fz 1 (ints p.s)]], .rows 1 (ints (p.s ++ mksI 12)), .rows 4 (ems l), .rows 4 (ems l)])) (fun _ => True) ?_ ?_
 ·simp [go_sem]
  refine IWp.loopT (α := Nat) (fun i => (⟨false, 251, 41, [44, 54, 55, 56, 57, 180, 182, 183, 184, 194, 197, 198, 199, 209, 238], glT, [(1, .fz 4 (ems l)), (2, .int .i64 n), (3, .ptr 0 1 0 0), (7, .ptr 3 1 0 0), (8, .ptr 4 1 0 0), (9, .sl 6 l.length 0 l.length none), (10, .sl 7 (l.take i).length 0 (l.take i).length none), (54, .fz 4 (ems l)), (55, .int .i64 l.length), (56, .int .i64 (i : Int))], []⟩, [.rows 4 [[.int .i64 p.t, .int .i64 p.r, .int .i64 p.b, .fz 1 (ints p.s)]], .dead, .dead, .rows 4 [[.int .i64 p.t, .int .i64 p.r, .int .i64 p.b, .sl 5 (p.s.length + 12) 0 p.s.length (some (p.s.length + 12))]], .rows 4 [[.int .i64 p.t, .int .i64 p.r, .int .i64 p.b, .fz 1 (ints p.s)]], .rows 1 (ints (p.s ++ mksI 12)), .rows 4 (ems l), .rows 4 (ems (l.take i))]))
   (fun i => i ≤ l.length) (fun i => l.length - i) 0 (by omega) (by simp [go_sem]) ?_
  intro i hi
  by_cases hil : i < l.length
  ·have wi : IntKind.i64.wrap ((i : Int) + 1) = i + 1 := wrap64 (by omega) (by omega)
   have hmn : min i l.length = i := by omega
   have hmn1 : min (i + 1) l.length = i + 1 := by omega
   have hsn : ems (l.take (i + 1)) = ems (l.take i) ++ [[.int .i64 l[i].r, .int .i64 l[i].a, .int .i64 l[i].b, .int .i64 l[i].m]] := by
    rw [List.take_succ_eq_append_getElem hil, ems_snoc]
   simp [go_sem, hil, wi, hmn]
   exact ⟨by omega, i + 1, ⟨⟨hmn1.symm, by omega⟩, hsn⟩, by omega, by omega⟩
  ·obtain rfl : i = l.length := by omega
   rw [List.take_length]
   simp [go_sem]
 rintro _ _
 have tke : (ems l).take l.length = ems l := List.take_of_length_le (by simp)
 have hSR : cutR 0 p.s.length (ints (p.s ++ mksI 12)) = ints p.s := lentI_cut
 refine IWp.freeze 7 4 (ems l) [(1, .fz 4 (ems l)), (2, .int .i64 n), (3, .ptr 0 1 0 0), (7, .ptr 3 1 0 0), (8, .ptr 4 1 0 0), (9, .sl 6 l.length 0 l.length none), (10, .fz 4 (ems l))] [.rows 4 [[.int .i64 p.t, .int .i64 p.r, .int .i64 p.b, .fz 1 (ints p.s)]], .dead, .dead, .rows 4 [[.int .i64 p.t, .int .i64 p.r, .int .i64 p.b, .sl 5 (p.s.length + 12) 0 p.s.length (some (p.s.length + 12))]], .rows 4 [[.int .i64 p.t, .int .i64 p.r, .int .i64 p.b, .fz 1 (ints p.s)]], .rows 1 (ints (p.s ++ mksI 12)), .rows 4 (ems l), .dead] (by simp) (by simp [go_sem]) (by simp [go_sem, tke]) (by simp [go_sem]) ?_
 have hpv : p.v = .agg [.int .i64 p.t, .int .i64 p.r, .int .i64 p.b, .fz 1 (ints p.s)] := rfl
 have k1 := Check_fun p l hA.t hA.s hA.l
 have r1 := refCheck_fun p l hA.t hA.s hA.l
 have k2 := DrawG_calls (SR := ints (p.s ++ mksI 12)) (ls := p.s.length) (cs := some (p.s.length + 12)) (LR := ems l) (ll := l.length) (cl := none) p l n hA hSR (by simp) (by simp [go_sem]) (by simp [cutR, tke]) (by simp) (by simp [go_sem])
 have r2 := refDraw39_fun p l n hA
 have k3 := Open_fun p l hA
 have r3 := refOpen39_fun p l hA
 have k4 := Table_fun p l hA
 have r4 := refTable39_fun p l hA
 have k5 := Over_fun p l hA
 have r5 := refOver39_fun p l hA
 have k6 := Qualify_fun p l n hA
 have r6 := refQual39_fun p l n hA
 have hd1 : (drawE p l n).1.length ≤ 12 := drawE_len9 hA n
 have hd2 : (openE p l).1.length ≤ 12 := openE_len9 hA
 have hd3 : (tableE p l).1.length ≤ 12 := tableE_len9 hA
 have hd4 : (qualE p l n).1.length ≤ 12 := qualE_len9 hA n
 rw [hpv] at k1 r1 r2 k3 r3 k4 r4 k5 r5 k6 r6
 generalize chkR p l = z1 at *
 generalize drawE p l n = z2 at *
 generalize openE p l = z3 at *
 generalize tableE p l = z4 at *
 generalize overE p l = z5 at *
 generalize qualE p l n = z6 at *
 simp only [plOw, drawV] at *
 refine IWp.seqI ?_
 simp [go_sem]
 refine k1.callF (by simp [go_sem]) ?_
 rintro _ rfl
 simp [go_sem]
 refine IWp.seqI ?_
 simp [go_sem]
 refine r1.callF (by simp [go_sem]) ?_
 rintro _ rfl
 simp [go_sem]
 refine IWp.seqI ?_
 simp [go_sem]
 refine k2.at [5, 6] (by simp [go_sem, tke]) ?_
 rintro _ _ ⟨rfl, rfl⟩
 simp [go_sem]
 refine IWp.seqI ?_
 simp [go_sem]
 refine r2.callM (by simp [go_sem]) ?_
 rintro _ rfl
 simp [go_sem]
 refine IWp.seqI ?_
 simp [go_sem]
 refine k3.callF (by simp [go_sem]) ?_
 rintro _ rfl
 simp [go_sem]
 refine IWp.seqI ?_
 simp [go_sem]
 refine r3.callF (by simp [go_sem]) ?_
 rintro _ rfl
 simp [go_sem]
 refine IWp.seqI ?_
 simp [go_sem]
 refine k4.callF (by simp [go_sem]) ?_
 rintro _ rfl
 simp [go_sem]
 refine IWp.seqI ?_
 simp [go_sem]
 refine r4.callM (by simp [go_sem]) ?_
 rintro _ rfl
 simp [go_sem]
 refine IWp.seqI ?_
 simp [go_sem]
 refine k5.callF (by simp [go_sem]) ?_
 rintro _ rfl
 simp [go_sem]
 refine IWp.seqI ?_
 simp [go_sem]
 refine r5.callF (by simp [go_sem]) ?_
 rintro _ rfl
 simp [go_sem]
 refine IWp.seqI ?_
 simp [go_sem]
 refine k6.callF (by simp [go_sem]) ?_
 rintro _ rfl
 simp [go_sem]
 refine IWp.seqI ?_
 simp [go_sem]
 refine r6.callF (by simp [go_sem]) ?_
 rintro _ rfl
 simp [go_sem]
 have cp2 := pairs39_fun z2.1 z2.1 (by omega) (by omega)
 have cp3 := pairs39_fun z3.1 z3.1 (by omega) (by omega)
 have cp6 := sameInts_fun z6.1 z6.1 (by omega)
 simp only [decide_true] at cp2 cp3 cp6
 refine IWp.seqI ?_
 simp [go_sem]
 refine cp2.callF (by simp [go_sem]) ?_
 rintro _ rfl
 simp [go_sem]
 refine cp3.callF (by simp [go_sem]) ?_
 rintro _ rfl
 simp [go_sem]
 refine cp6.callF (by simp [go_sem]) ?_
 rintro _ rfl
 simp [go_sem]
 refine IWp.seqT (α := Unit) (fun _ => (⟨false, 251, 41, [44, 54, 55, 56, 57, 180, 182, 183, 184, 194, 197, 198, 199, 209, 238], glT, [(1, .fz 4 (ems l)), (3, .ptr 0 1 0 0), (7, .ptr 3 1 0 0), (8, .ptr 4 1 0 0), (9, .sl 6 l.length 0 l.length none), (14, .int .i64 z1.2), (16, .int .i64 z1.2), (19, .int .i64 z2.2.2), (22, .int .i64 z2.2.2), (24, .int .i64 z3.2), (26, .int .i64 z3.2), (28, .int .i64 z4.2), (30, .int .i64 z4.2), (32, .int .i64 z5.2), (34, .int .i64 z5.2), (36, .int .i64 z6.2), (38, .int .i64 z6.2)], []⟩, [.rows 4 [[.int .i64 p.t, .int .i64 p.r, .int .i64 p.b, .fz 1 (ints p.s)]], .dead, .dead, .rows 4 [[.int .i64 p.t, .int .i64 p.r, .int .i64 p.b, .sl 5 (p.s.length + 12) 0 p.s.length (some (p.s.length + 12))]], .rows 4 [[.int .i64 p.t, .int .i64 p.r, .int .i64 p.b, .fz 1 (ints p.s)]], .rows 1 (ints (p.s ++ mksI 12)), .rows 4 (ems l), .dead])) (fun _ => True) ?_ ?_
 ·simp [go_sem]
  refine IWp.loopT (α := Nat) (fun i => (⟨false, 251, 41, [44, 54, 55, 56, 57, 180, 182, 183, 184, 194, 197, 198, 199, 209, 238], glT, [(1, .fz 4 (ems l)), (3, .ptr 0 1 0 0), (7, .ptr 3 1 0 0), (8, .ptr 4 1 0 0), (9, .sl 6 l.length 0 l.length none), (14, .int .i64 z1.2), (16, .int .i64 z1.2), (19, .int .i64 z2.2.2), (22, .int .i64 z2.2.2), (24, .int .i64 z3.2), (26, .int .i64 z3.2), (27, .fz 6 (lns z4.1)), (28, .int .i64 z4.2), (29, .fz 6 (lns z4.1)), (30, .int .i64 z4.2), (32, .int .i64 z5.2), (34, .int .i64 z5.2), (36, .int .i64 z6.2), (38, .int .i64 z6.2), (182, .int .i64 z4.1.length), (183, .int .i64 (i : Int))], []⟩, [.rows 4 [[.int .i64 p.t, .int .i64 p.r, .int .i64 p.b, .fz 1 (ints p.s)]], .dead, .dead, .rows 4 [[.int .i64 p.t, .int .i64 p.r, .int .i64 p.b, .sl 5 (p.s.length + 12) 0 p.s.length (some (p.s.length + 12))]], .rows 4 [[.int .i64 p.t, .int .i64 p.r, .int .i64 p.b, .fz 1 (ints p.s)]], .rows 1 (ints (p.s ++ mksI 12)), .rows 4 (ems l), .dead]))
   (fun i => i ≤ z4.1.length) (fun i => z4.1.length - i) 0 (by omega) (by simp [go_sem]) ?_
  intro i hi
  by_cases hil : i < z4.1.length
  ·have wi : IntKind.i64.wrap ((i : Int) + 1) = i + 1 := wrap64 (by omega) (by omega)
   simp [go_sem, hil, wi]
   refine ⟨by decide +kernel, ?_⟩
   exact ⟨i + 1, by omega, by omega, by omega⟩
  ·obtain rfl : i = z4.1.length := by omega
   simp [go_sem]
 rintro _ _
 refine IWp.seqT (α := Unit) (fun _ => (⟨false, 251, 41, [44, 54, 55, 56, 57, 180, 182, 183, 184, 194, 197, 198, 199, 209, 238], glT, [(1, .fz 4 (ems l)), (3, .ptr 0 1 0 0), (7, .ptr 3 1 0 0), (8, .ptr 4 1 0 0), (9, .sl 6 l.length 0 l.length none), (14, .int .i64 z1.2), (16, .int .i64 z1.2), (19, .int .i64 z2.2.2), (22, .int .i64 z2.2.2), (24, .int .i64 z3.2), (26, .int .i64 z3.2), (28, .int .i64 z4.2), (30, .int .i64 z4.2), (32, .int .i64 z5.2), (34, .int .i64 z5.2), (36, .int .i64 z6.2), (38, .int .i64 z6.2)], []⟩, [.rows 4 [[.int .i64 p.t, .int .i64 p.r, .int .i64 p.b, .fz 1 (ints p.s)]], .dead, .dead, .rows 4 [[.int .i64 p.t, .int .i64 p.r, .int .i64 p.b, .sl 5 (p.s.length + 12) 0 p.s.length (some (p.s.length + 12))]], .rows 4 [[.int .i64 p.t, .int .i64 p.r, .int .i64 p.b, .fz 1 (ints p.s)]], .rows 1 (ints (p.s ++ mksI 12)), .rows 4 (ems l), .dead])) (fun _ => True) ?_ ?_
 ·simp [go_sem]
  refine IWp.loopT (α := Nat) (fun i => (⟨false, 251, 41, [44, 54, 55, 56, 57, 180, 182, 183, 184, 194, 197, 198, 199, 209, 238], glT, [(1, .fz 4 (ems l)), (3, .ptr 0 1 0 0), (7, .ptr 3 1 0 0), (8, .ptr 4 1 0 0), (9, .sl 6 l.length 0 l.length none), (14, .int .i64 z1.2), (16, .int .i64 z1.2), (19, .int .i64 z2.2.2), (22, .int .i64 z2.2.2), (24, .int .i64 z3.2), (26, .int .i64 z3.2), (28, .int .i64 z4.2), (30, .int .i64 z4.2), (32, .int .i64 z5.2), (34, .int .i64 z5.2), (36, .int .i64 z6.2), (38, .int .i64 z6.2), (197, .int .i64 l.length), (198, .int .i64 (i : Int))], []⟩, [.rows 4 [[.int .i64 p.t, .int .i64 p.r, .int .i64 p.b, .fz 1 (ints p.s)]], .dead, .dead, .rows 4 [[.int .i64 p.t, .int .i64 p.r, .int .i64 p.b, .sl 5 (p.s.length + 12) 0 p.s.length (some (p.s.length + 12))]], .rows 4 [[.int .i64 p.t, .int .i64 p.r, .int .i64 p.b, .fz 1 (ints p.s)]], .rows 1 (ints (p.s ++ mksI 12)), .rows 4 (ems l), .dead]))
   (fun i => i ≤ l.length) (fun i => l.length - i) 0 (by omega) (by simp [go_sem]) ?_
  intro i hi
  by_cases hil : i < l.length
  ·have wi : IntKind.i64.wrap ((i : Int) + 1) = i + 1 := wrap64 (by omega) (by omega)
   simp [go_sem, hil, wi]
   refine ⟨by decide +kernel, ?_⟩
   exact ⟨i + 1, by omega, by omega, by omega⟩
  ·obtain rfl : i = l.length := by omega
   simp [go_sem]
 rintro _ _
 have q1 := evRight_fun p hs
 have q2 := refRight39_fun p hs
 rw [hpv] at q1 q2
 refine IWp.seqI ?_
 simp [go_sem]
 refine IWp.seqI ?_
 refine Drawn.intro (fun k => if k = 1 then .bool (plB p) else if k = 3 then .bool (plB p) else if k = 10 then .tup [.junk, .junk, .bool true] else .tup []) ?_
 simp [go_sem, q1, q2]
 refine ⟨of_eq_true ClR_ints, ?_, by decide +kernel, ?_⟩
 ·intro H hH
  have h5 : hget H 5 = some (lentI p.s) := (hH 5 (by simp [go_sem])).trans (hget_some.2 ⟨rfl, rfl⟩)
  have h6 := (hget_some.1 h5).1
  have h7 := hput_selfK h6
  rw [hput_set (List.getElem?_eq_some_iff.1 h6).1] at h7
  unfold lentI at h7
  refine (keptInts_calls p.s hs).at [5] (by simp [go_sem, h6, lentI]) ?_
  rintro _ _ ⟨rfl, rfl⟩
  simp [go_sem, lentI, h7]
 ·refine IWp.now ?_
  simp [go_sem]
  exact hR _ _ _ rfl (by simp [go_sem])
open Go.RowKit in
theorem fit_pl {cs : List IV} (h : fitL [.int .i64, .int .i64, .int .i64, .fz 1 [.int .i64]] cs) : ∃ q : Pl, cs = [.int .i64 q.t, .int .i64 q.r, .int .i64 q.b, .fz 1 (ints q.s)] := by
 obtain ⟨a, r1, rfl, _, h1⟩ := fitL_int h
 obtain ⟨b, r2, rfl, _, h2⟩ := fitL_int h1
 obtain ⟨c, r3, rfl, _, h3⟩ := fitL_int h2
 obtain ⟨d, r4, rfl, f1, h4⟩ := fitL_cons h3
 obtain rfl := fitL_nil h4
 obtain ⟨L, rfl, _, _⟩ := fit_ints f1
 exact ⟨⟨a, b, c, L⟩, rfl⟩
open Go.RowKit in
theorem fit_ems {c : IV} (h : (Shp.fz 4 [.int .i64, .int .i64, .int .i64, .int .i64]).fit c) : ∃ l : List Em, c = .fz 4 (ems l) ∧ (∀ x ∈ l, True) ∧ l.length ≤ maxLen :=
 fit_list (f := Em.c) (fun r hr => by
  obtain ⟨a, r1, rfl, _, h1⟩ := fitL_int hr
  obtain ⟨b, r2, rfl, _, h2⟩ := fitL_int h1
  obtain ⟨c, r3, rfl, _, h3⟩ := fitL_int h2
  obtain ⟨d, r4, rfl, _, h4⟩ := fitL_int h3
  obtain rfl := fitL_nil h4
  exact ⟨⟨a, b, c, d⟩, rfl, trivial⟩) h
end Go.Idl
