import Derived.Test.YtamffdgopknkfaaGreatDoorC39zPartZE
import Derived.Test.YtamffdgopknkfaaGreatDoorC39zPartX
set_option linter.all false
set_option maxHeartbeats 16000000
set_option maxRecDepth 40000
namespace Go.Idl
open Go.Proofs
def stV (p : Pl) (q : List Er × List (Int × Int) × Int × Bool) : IV := .tup [.fz 6 (lns (tabL9 p q.1)), .fz 2 (prs q.2.1), .int .i64 q.2.2.1, .bool q.2.2.2]
theorem tabL9_length9 {p : Pl} {l : List Er} : (tabL9 p l).length = p.t.toNat := by simp [tabL9]
theorem drw_C (y e : Int) : Cx fun v => .tup [v, .int .i64 y, .int .i64 e] := .tup [] [.int .i64 y, .int .i64 e] (fun v => v) (by simp) (by simp [scal]) .here
theorem set6 {α : Type} {R : List α} {A C : Nat} {a1 a2 a3 c1 c2 c3 : α} (h : ¬ A = C) : (((((R.set A a1).set C c1).set A a2).set C c2).set A a3).set C c3 = (R.set A a3).set C c3 := by
 apply List.ext_getElem?
 intro j
 simp only [List.getElem?_set, List.length_set]
 by_cases h1 : A = j
 ·subst h1
  have h2 : ¬ C = A := fun e => h e.symm
  simp [h2]
 ·by_cases h2 : C = j
  ·subst h2; simp
  ·simp [h1, h2]
theorem state39_fun (p : Pl) (l : List Em) (rd : Int) (hp : PlOK p) (hr : 0 ≤ p.r ∧ p.r ≤ 15) (hl : l.length ≤ 2 ^ 30) (hm : ∀ m ∈ l, mrB m.m = true) :
  FN 23 [p.v, .fz 4 (ems l), .int .i64 rd] (fun v => v = stV p (rst p l rd p.r.toNat 0 [])) := by
 refine IFun.of_bodyW false 36 [42, 56, 62, 73, 84, 90, 99, 118, 129, 133, 140, 154, 159, 253] Tryz.func23 rfl Tryz.call23 rfl fun R hR => ?_
 obtain ⟨n, hn⟩ : ∃ n : Nat, p.t = n := ⟨p.t.toNat, by have := hp.t; omega⟩
 have hn2 : 2 ≤ n ∧ n ≤ 12 := by have := hp.t; omega
 have hpt : p.t.toNat = n := by rw [hn]; rfl
 have fin : ∀ (r : IV) (σ : Heap) (q : List Er × List (Int × Int) × Int × Bool), rst p l rd p.r.toNat 0 [] = q → frzOK false 4 σ r ∧ nz 4 (frzV 4 σ r) (stV p q) → R r σ := fun r σ q e h => hR r σ _ rfl (by rw [e]; exact h)
 clear hR
 obtain ⟨t, rr, b, S⟩ := p
 simp only at hn hpt hr
 subst hn
 simp only [Pl.v]
 refine IWp.seqI ?_
 simp [go_sem]
 refine IWp.seqI ?_
 simp [go_sem]
 refine ⟨by omega, ?_⟩
 rw [← lnsI_zero n]
 refine IWp.seqT (α := Unit) (fun _ => (⟨false, 280, 36, [42, 56, 62, 73, 84, 90, 99, 118, 129, 133, 140, 154, 159, 253], glT, [(1, .fz 4 (ems l)), (2, .int .i64 rd), (3, .ptr 0 1 0 0), (10, .sl 1 n 0 n none)], []⟩, [.rows 4 [[.int .i64 (n : Int), .int .i64 rr, .int .i64 b, .fz 1 (ints S)]], .rows 6 (lns (lns0 n))])) (fun _ => True) ?_ ?_
 ·simp [go_sem]
  refine IWp.loopT (α := Nat) (fun i => (⟨false, 280, 36, [42, 56, 62, 73, 84, 90, 99, 118, 129, 133, 140, 154, 159, 253], glT, [(1, .fz 4 (ems l)), (2, .int .i64 rd), (3, .ptr 0 1 0 0), (10, .sl 1 n 0 n none), (11, .int .i64 (i : Int))], []⟩, [.rows 4 [[.int .i64 (n : Int), .int .i64 rr, .int .i64 b, .fz 1 (ints S)]], .rows 6 (lns (lnsI n i))]))
   (fun i => i ≤ n) (fun i => n - i) 0 (by omega) (by simp [go_sem]) ?_
  intro i hi
  by_cases h : i < n
  ·have w1 : IntKind.i64.wrap ((i : Int) + 1) = i + 1 := wrap64 (by omega) (by omega)
   have hs := lnsI_step h
   have e1 := lns_at (l := lnsI n i) (i := i) (by simpa using h)
   have e2 : (lnsI n i).getD i Ln0 = Ln0 := by
    simp [lnsI, h]; rfl
   rw [e2] at e1
   simp only [Ln.c, Ln0] at e1
   have e3 : ∀ hh, (lns (lnsI n i))[i]'hh = [.int .i64 0, .int .i64 0, .int .i64 0, .int .i64 0, .int .i64 0, .bool false] := fun hh => by
    rw [List.getElem?_eq_getElem hh, Option.getD_some] at e1; exact e1
   simp [go_sem, h, w1, e1, e3]
   exact ⟨i + 1, ⟨by omega, hs.symm⟩, by omega, by omega⟩
  ·obtain rfl : i = n := by omega
   rw [lnsI_all]
   simp [go_sem]
 rintro _ _
 obtain ⟨hS1, hS2⟩ := scB_len hp.s
 have hb := hp.b
 simp only at hS1 hS2 hb
 refine IWp.seqI ?_
 simp [go_sem]
 refine IWp.seqI ?_
 simp [go_sem]
 refine IWp.ownNilS 2 12 (by decide) (by simp [go_sem]) ?_
 refine IWp.ownNilS 1 13 (by decide) (by simp [go_sem]) ?_
 simp [go_sem]
 obtain ⟨RR, hRR⟩ : ∃ RR : Nat, rr = RR := ⟨rr.toNat, by omega⟩
 subst hRR
 simp only [Int.toNat_natCast] at fin
 obtain ⟨p, hpd⟩ : ∃ p : Pl, p = ⟨(n : Int), (RR : Int), b, S⟩ := ⟨_, rfl⟩
 rw [← hpd] at fin hp
 have hps : p.s = S := by rw [hpd]
 have hpb : p.b = b := by rw [hpd]
 have hpt2 : p.t.toNat = n := by rw [hpd]; rfl
 refine IWp.seqI ?_
 simp [go_sem]
 refine IWp.block ?_
 refine IWp.loopI (α := Nat × List Er × List Ln) (fun z => (⟨false, 280, 36, [42, 56, 62, 73, 84, 90, 99, 118, 129, 133, 140, 154, 159, 253], glT, [(1, .fz 4 (ems l)), (2, .int .i64 rd), (3, .ptr 0 1 0 0), (10, .sl 1 n 0 n none), (12, .sl 2 (metT z.2.1).length 0 (metT z.2.1).length none), (13, .sl 3 (byeT z.2.1).length 0 (byeT z.2.1).length none), (14, .int .i64 (z.1 : Int))], []⟩, [.rows 4 [[.int .i64 (n : Int), .int .i64 (RR : Int), .int .i64 b, .fz 1 (ints S)]], .rows 6 (lns z.2.2), .rows 2 (prs (metT z.2.1)), .rows 1 (ints (byeT z.2.1))]))
  (fun z => z.1 ≤ RR ∧ rst p l rd (RR - z.1) z.1 z.2.1 = rst p l rd RR 0 [] ∧ z.2.2.map zp = tabU p z.2.1 ∧ BdL (201 * z.1) z.2.2 ∧ (metT z.2.1).length ≤ 6 * z.1 ∧ (byeT z.2.1).length ≤ z.1) (fun z => RR - z.1) (0, [], lns0 n)
  ⟨by omega, rfl, by rw [lns0_zp]; unfold tabU; rw [hpt2]; rfl, BdL.zero n, by simp [metT], by simp [byeT]⟩ (by simp [go_sem, metT, byeT]) ?_
 rintro ⟨k, bf, U⟩ ⟨hk, hrst, hU, hB, hme, hby⟩
 simp only at hk hrst hU hB hme hby
 have hUl : U.length = n := by
  have := congrArg List.length hU
  rw [List.length_map, tabU_length, hpt2] at this
  exact this
 refine IWp.seq ?_
 refine IWp.block ?_
 refine IWp.seqI ?_
 simp [go_sem]
 obtain ⟨ML, hML⟩ : ∃ ML, (metT bf).length = ML := ⟨_, rfl⟩
 obtain ⟨BL, hBL⟩ : ∃ BL, (byeT bf).length = BL := ⟨_, rfl⟩
 rw [hML, hBL]
 refine IWp.seqT (α := Unit) (fun _ => (⟨false, 280, 36, [42, 56, 62, 73, 84, 90, 99, 118, 129, 133, 140, 154, 159, 253], glT, [(1, .fz 4 (ems l)), (2, .int .i64 rd), (3, .ptr 0 1 0 0), (10, .sl 1 n 0 n none), (12, .sl 2 ML 0 ML none), (13, .sl 3 BL 0 BL none), (14, .int .i64 (k : Int)), (15, .nils)], []⟩, [.rows 4 [[.int .i64 (n : Int), .int .i64 (RR : Int), .int .i64 b, .fz 1 (ints S)]], .rows 6 (lns (U.map (wpl U))), .rows 2 (prs (metT bf)), .rows 1 (ints (byeT bf))])) (fun _ => True) ?_ ?_
 ·simp [go_sem]
  refine IWp.shut fun Q hQ => ?_
  refine IWp.loopI (α := Nat) (fun i => (⟨false, 280, 36, [42, 56, 62, 73, 84, 90, 99, 118, 129, 133, 140, 154, 159, 253], glT, [(1, .fz 4 (ems l)), (2, .int .i64 rd), (3, .ptr 0 1 0 0), (10, .sl 1 n 0 n none), (12, .sl 2 ML 0 ML none), (13, .sl 3 BL 0 BL none), (14, .int .i64 (k : Int)), (15, .nils), (16, .int .i64 (i : Int))], []⟩, [.rows 4 [[.int .i64 (n : Int), .int .i64 (RR : Int), .int .i64 b, .fz 1 (ints S)]], .rows 6 (lns (wpI U i)), .rows 2 (prs (metT bf)), .rows 1 (ints (byeT bf))]))
   (fun i => i ≤ n) (fun i => n - i) 0 (by omega) (by simp [go_sem, wpI_zero]) ?_
  intro i hi
  by_cases h : i < n
  ·have hiU : i < U.length := by omega
   have w1 : IntKind.i64.wrap ((i : Int) + 1) = i + 1 := wrap64 (by omega) (by omega)
   have hst := wpI_step hiU
   have hwl : (wpI U i).length = n := by rw [wpI_length]; exact hUl
   have hwi := wpI_get hiU (by rw [hwl]; exact h)
   have hcn := wpI_cnt U i U[i]
   have hwp : wpl U U[i] = { U[i] with place := (cntB U U[i] : Int) + 1 } := rfl
   rw [← hcn] at hwp
   have hset : lns (wpI U (i + 1)) = (lns (wpI U i)).set i (wpl U U[i]).c := by rw [← hst, lns_set]
   obtain ⟨y, hy⟩ : ∃ y, U[i] = y := ⟨_, rfl⟩
   rw [hy] at hwi hwp hset
   rw [hwp] at hset
   clear hst hcn hwp
   generalize wpI U i = W at *
   have hcl : cntB W y ≤ n := by rw [← hwl]; exact List.countP_le_length
   refine IWp.seqI ?_
   simp [go_sem, h]
   refine IWp.seq ?_
   refine IWp.block ?_
   refine IWp.seqI ?_
   simp [go_sem]
   refine IWp.seqT (α := Unit) (fun _ => (⟨false, 280, 36, [42, 56, 62, 73, 84, 90, 99, 118, 129, 133, 140, 154, 159, 253], glT, [(1, .fz 4 (ems l)), (2, .int .i64 rd), (3, .ptr 0 1 0 0), (10, .sl 1 n 0 n none), (12, .sl 2 ML 0 ML none), (13, .sl 3 BL 0 BL none), (14, .int .i64 (k : Int)), (15, .nils), (16, .int .i64 (i : Int)), (17, .int .i64 ((cntB W y : Int) + 1))], []⟩, [.rows 4 [[.int .i64 (n : Int), .int .i64 (RR : Int), .int .i64 b, .fz 1 (ints S)]], .rows 6 (lns W), .rows 2 (prs (metT bf)), .rows 1 (ints (byeT bf))])) (fun _ => True) ?_ ?_
   ·simp [go_sem]
    refine IWp.loopT (α := Nat) (fun j => (⟨false, 280, 36, [42, 56, 62, 73, 84, 90, 99, 118, 129, 133, 140, 154, 159, 253], glT, [(1, .fz 4 (ems l)), (2, .int .i64 rd), (3, .ptr 0 1 0 0), (10, .sl 1 n 0 n none), (12, .sl 2 ML 0 ML none), (13, .sl 3 BL 0 BL none), (14, .int .i64 (k : Int)), (15, .nils), (16, .int .i64 (i : Int)), (17, .int .i64 ((cntB (W.take j) y : Int) + 1)), (18, .int .i64 (j : Int))], []⟩, [.rows 4 [[.int .i64 (n : Int), .int .i64 (RR : Int), .int .i64 b, .fz 1 (ints S)]], .rows 6 (lns W), .rows 2 (prs (metT bf)), .rows 1 (ints (byeT bf))]))
     (fun j => j ≤ n) (fun j => n - j) 0 (by omega) (by simp [go_sem, cntB]) ?_
    intro j hj
    by_cases hjn : j < n
    ·have w2 : IntKind.i64.wrap ((j : Int) + 1) = j + 1 := wrap64 (by omega) (by omega)
     have hjW : j < W.length := by omega
     have hiW : i < W.length := by omega
     have hsn : cntB (W.take (j + 1)) y = cntB (W.take j) y + if lnLt W[j] y then 1 else 0 := by
      unfold cntB
      rw [List.take_succ_eq_append_getElem hjW, List.countP_append]
      simp [List.countP_cons]
     have hc1 : cntB (W.take j) y ≤ j := by
      have := List.countP_le_length (p := fun z => decide (lnLt z y)) (l := W.take j)
      unfold cntB
      simp at this ⊢; omega
     have cb := before39_fun W[j] W[i]
     rw [← hwi] at hsn hc1
     obtain ⟨bb, hbb⟩ : ∃ bb : Bool, decide (lnLt W[j] W[i]) = bb := ⟨_, rfl⟩
     rw [hbb] at cb
     simp only [Ln.v] at cb
     have hsn2 : cntB (W.take (j + 1)) W[i] = cntB (W.take j) W[i] + if bb = true then 1 else 0 := by
      rw [hsn, ← hbb]; simp
     rw [← hwi]
     clear hsn hbb
     generalize cntB (W.take j) W[i] = C at *
     have w3 : IntKind.i64.wrap ((C : Int) + 1 + 1) = (C : Int) + 1 + 1 := wrap64 (by omega) (by omega)
     simp [go_sem, hjn, hwl, h]
     refine Drawn.intro (fun k => if k = 8 then .bool bb else .tup []) ?_
     simp [go_sem, hjn, hwl, h, cb]
     refine ⟨by decide +kernel, ?_⟩
     cases bb with
     | true =>
      simp only [if_true] at hsn2
      simp [go_sem, w2, w3]
      exact ⟨j + 1, ⟨by rw [hsn2]; omega, by omega⟩, by omega, by omega⟩
     | false =>
      simp only [Bool.false_eq_true, if_false] at hsn2
      simp [go_sem, w2]
      exact ⟨j + 1, ⟨by rw [hsn2]; omega, by omega⟩, by omega, by omega⟩
    ·obtain rfl : j = n := by omega
     rw [show W.take j = W from List.take_of_length_le (by omega)]
     simp [go_sem]
   ·rintro _ _
    refine IWp.now ?_
    simp [go_sem, hwl, h]
    refine IWp.now ?_
    simp [go_sem, w1]
    refine ⟨i + 1, ⟨by omega, ?_⟩, by omega, by omega⟩
    rw [hset, ← hwi]
    rfl
  ·obtain rfl : i = n := by omega
   have hall := wpI_all U
   rw [hUl] at hall
   rw [hall]
   refine IWp.now ?_
   simp [go_sem]
   rw [hQ]
   simp [go_sem]
 rintro _ _
 have hord := ord_tab hU (tabU_nodup p bf)
 rw [hUl] at hord
 have hVl : (U.map (wpl U)).length = n := by rw [List.length_map]; exact hUl
 have hVz : (U.map (wpl U)).map zp = tabU p bf := by rw [zp_wpl]; exact hU
 have hVB : BdL (201 * k) (U.map (wpl U)) := by rw [← BdL_zp, zp_wpl, BdL_zp]; exact hB
 clear hU hB hUl
 generalize U.map (wpl U) = V at *
 clear U
 refine IWp.ownNilS 6 15 (by decide) (by simp [go_sem]) ?_
 simp [go_sem]
 refine IWp.seqI ?_
 simp [go_sem]
 refine IWp.ownNilS 1 19 (by decide) (by simp [go_sem]) ?_
 simp [go_sem]
 refine IWp.seqT (α := Unit) (fun _ => (⟨false, 280, 36, [42, 56, 62, 73, 84, 90, 99, 118, 129, 133, 140, 154, 159, 253], glT, [(1, .fz 4 (ems l)), (2, .int .i64 rd), (3, .ptr 0 1 0 0), (10, .sl 1 n 0 n none), (12, .sl 2 ML 0 ML none), (13, .sl 3 BL 0 BL none), (14, .int .i64 (k : Int)), (15, .sl 4 n 0 n none), (19, .sl 5 n 0 n none)], []⟩, [.rows 4 [[.int .i64 (n : Int), .int .i64 (RR : Int), .int .i64 b, .fz 1 (ints S)]], .rows 6 (lns V), .rows 2 (prs (metT bf)), .rows 1 (ints (byeT bf)), .rows 6 (lns (tabL9 p bf)), .rows 1 (ints (ordT p bf))])) (fun _ => True) ?_ ?_
 ·obtain ⟨O, hO⟩ : ∃ O : Nat → List Ln, ∀ q, O q = (List.range q).flatMap (fun k => atP V k) := ⟨_, fun _ => rfl⟩
  have o0 : O 0 = [] := by rw [hO]; rfl
  have on : O n = tabL9 p bf := by rw [hO, hord]; rfl
  have os : ∀ q, O (q + 1) = O q ++ atP V q := fun q => by rw [hO, hO, List.range_succ, List.flatMap_append]; simp
  have ol : ∀ q, (O q).length ≤ 12 * q := fun q => by
   induction q with
   | zero => rw [o0]; simp
   | succ q ih =>
    rw [os, List.length_append]
    have := List.length_filter_le (fun x : Ln => decide (x.place = (q : Int) + 1)) V
    unfold atP
    omega
  clear hO hord
  simp [go_sem]
  refine IWp.shut fun Q hQ => ?_
  refine IWp.loopI (α := Nat) (fun q => (⟨false, 280, 36, [42, 56, 62, 73, 84, 90, 99, 118, 129, 133, 140, 154, 159, 253], glT, [(1, .fz 4 (ems l)), (2, .int .i64 rd), (3, .ptr 0 1 0 0), (10, .sl 1 n 0 n none), (12, .sl 2 ML 0 ML none), (13, .sl 3 BL 0 BL none), (14, .int .i64 (k : Int)), (15, .sl 4 (O q).length 0 (O q).length none), (19, .sl 5 (O q).length 0 (O q).length none), (20, .int .i64 ((q : Int) + 1))], []⟩, [.rows 4 [[.int .i64 (n : Int), .int .i64 (RR : Int), .int .i64 b, .fz 1 (ints S)]], .rows 6 (lns V), .rows 2 (prs (metT bf)), .rows 1 (ints (byeT bf)), .rows 6 (lns (O q)), .rows 1 (ints ((O q).map (·.team)))]))
   (fun q => q ≤ n) (fun q => n - q) 0 (by omega) (by simp [go_sem, o0]) ?_
  intro q hq
  by_cases h : q < n
  ·have w1 : IntKind.i64.wrap ((q : Int) + 1 + 1) = (q : Int) + 1 + 1 := wrap64 (by omega) (by omega)
   have hq1 : (q : Int) + 1 ≤ n := by omega
   have hos := os q
   have hol := ol q
   obtain ⟨O', hO'⟩ : ∃ O', O (q + 1) = O' := ⟨_, rfl⟩
   rw [hO'] at hos
   generalize O q = O1 at *
   refine IWp.seqI ?_
   simp [go_sem, hq1]
   refine IWp.seqT (α := Unit) (fun _ => (⟨false, 280, 36, [42, 56, 62, 73, 84, 90, 99, 118, 129, 133, 140, 154, 159, 253], glT, [(1, .fz 4 (ems l)), (2, .int .i64 rd), (3, .ptr 0 1 0 0), (10, .sl 1 n 0 n none), (12, .sl 2 ML 0 ML none), (13, .sl 3 BL 0 BL none), (14, .int .i64 (k : Int)), (15, .sl 4 O'.length 0 O'.length none), (19, .sl 5 O'.length 0 O'.length none), (20, .int .i64 ((q : Int) + 1))], []⟩, [.rows 4 [[.int .i64 (n : Int), .int .i64 (RR : Int), .int .i64 b, .fz 1 (ints S)]], .rows 6 (lns V), .rows 2 (prs (metT bf)), .rows 1 (ints (byeT bf)), .rows 6 (lns O'), .rows 1 (ints (O'.map (·.team)))])) (fun _ => True) ?_ ?_
   ·simp [go_sem]
    refine IWp.loopT (α := Nat) (fun i => (⟨false, 280, 36, [42, 56, 62, 73, 84, 90, 99, 118, 129, 133, 140, 154, 159, 253], glT, [(1, .fz 4 (ems l)), (2, .int .i64 rd), (3, .ptr 0 1 0 0), (10, .sl 1 n 0 n none), (12, .sl 2 ML 0 ML none), (13, .sl 3 BL 0 BL none), (14, .int .i64 (k : Int)), (15, .sl 4 (O1 ++ atP (V.take i) q).length 0 (O1 ++ atP (V.take i) q).length none), (19, .sl 5 (O1 ++ atP (V.take i) q).length 0 (O1 ++ atP (V.take i) q).length none), (20, .int .i64 ((q : Int) + 1)), (21, .int .i64 (i : Int))], []⟩, [.rows 4 [[.int .i64 (n : Int), .int .i64 (RR : Int), .int .i64 b, .fz 1 (ints S)]], .rows 6 (lns V), .rows 2 (prs (metT bf)), .rows 1 (ints (byeT bf)), .rows 6 (lns (O1 ++ atP (V.take i) q)), .rows 1 (ints ((O1 ++ atP (V.take i) q).map (·.team)))]))
     (fun i => i ≤ n) (fun i => n - i) 0 (by omega) (by simp [go_sem, atP]) ?_
    intro i hi
    by_cases hin : i < n
    ·have w2 : IntKind.i64.wrap ((i : Int) + 1) = i + 1 := wrap64 (by omega) (by omega)
     have hiV : i < V.length := by omega
     have hsn : O1 ++ atP (V.take (i + 1)) q = (O1 ++ atP (V.take i) q) ++ if V[i].place = (q : Int) + 1 then [V[i]] else [] := by
      unfold atP
      rw [List.take_succ_eq_append_getElem hiV, List.filter_append, List.append_assoc]
      congr 2
      rw [List.filter_cons]
      by_cases hc : V[i].place = (q : Int) + 1
      ·rw [if_pos (decide_eq_true hc), if_pos hc]; rfl
      ·rw [if_neg (by simpa using hc), if_neg hc]; rfl
     have hlen : (O1 ++ atP (V.take i) q).length ≤ 200 := by
      have := List.length_filter_le (fun x : Ln => decide (x.place = (q : Int) + 1)) (V.take i)
      rw [List.length_append]
      unfold atP
      simp at this
      omega
     generalize O1 ++ atP (V.take i) q = G at *
     by_cases hc : V[i].place = (q : Int) + 1
     ·rw [if_pos hc] at hsn
      simp [go_sem, hin, hVl, hc, w2]
      refine ⟨by omega, i + 1, ⟨⟨by rw [← List.length_append, hsn]; simp, by omega⟩, by rw [hsn, lns_snoc, hc], by rw [← List.map_append, hsn, List.map_append, List.map_cons, List.map_nil, ints_snoc]⟩, by omega, by omega⟩
     ·rw [if_neg hc, List.append_nil] at hsn
      have hc' : (V[i].place == (q : Int) + 1) = false := by rw [beq_eq_false_iff_ne]; exact hc
      simp [go_sem, hin, hVl, hc, hc', w2]
      exact ⟨i + 1, ⟨⟨by rw [← List.length_append, hsn], by omega⟩, by rw [hsn], by rw [← List.map_append, hsn]⟩, by omega, by omega⟩
    ·obtain rfl : i = n := by omega
     rw [show V.take i = V from List.take_of_length_le (by omega), ← hos]
     simp [go_sem]
   ·rintro _ _
    refine IWp.now ?_
    simp [go_sem, w1]
    exact ⟨q + 1, ⟨⟨by rw [hO'], by omega⟩, by rw [hO'], by rw [hO']⟩, by omega, by omega⟩
  ·obtain rfl : q = n := by omega
   have hq1 : ¬ (q : Int) + 1 ≤ q := by omega
   rw [on]
   refine IWp.now ?_
   simp [go_sem, hq1]
   rw [hQ]
   simp [go_sem]
   exact ⟨by rw [tabL9_length9, hpt2], rfl⟩
 rintro _ _
 clear hord
 have htl : (tabL9 p bf).length = n := by rw [tabL9_length9, hpt2]
 have hol : (ordT p bf).length = n := by unfold ordT; rw [List.length_map]; exact htl
 have cd := refDraw_fun (ordT p bf) (metT bf) (byeT bf) (by omega) (by omega) (by omega)
 refine IWp.seqI ?_
 by_cases hkR : k = RR
 ·rw [show RR - k = 0 by omega] at hrst
  have hq : rst p l rd RR 0 [] = (bf, [], 0, false) := by rw [← hrst]; rfl
  simp [go_sem, hkR]
  exact fin _ _ _ hq (by simp [go_sem, stV, htl])
 have hkI : ¬ (k : Int) = RR := by omega
 have hkb : ((k : Int) == (RR : Int)) = false := by rw [beq_eq_false_iff_ne]; exact hkI
 obtain ⟨K, hK⟩ : ∃ K, RR - k = K + 1 := ⟨RR - k - 1, by omega⟩
 obtain ⟨ZZ, hZ⟩ : ∃ Z, rst p l rd RR 0 [] = Z := ⟨_, rfl⟩
 rw [hK, hZ] at hrst
 rw [hZ] at fin
 unfold rst at hrst
 obtain ⟨⟨d, y, e⟩, hd⟩ : ∃ q, drawR (ordT p bf) (metT bf) (byeT bf) = q := ⟨_, rfl⟩
 have hok := fun (he : e = 0) => drawR_ok (met := metT bf) (byes := byeT bf) (ordT_nodup p bf) (by rw [hd]; exact he)
 rw [hd] at hrst hok cd
 simp only [drawV] at hrst hok cd
 simp [go_sem, hkI, hkb, hkR]
 refine IWp.seqI ?_
 simp [go_sem]
 refine cd.callOF (by simp [go_sem, hML, hBL, hol]) ?_
 rintro _ rfl
 refine ⟨_, 2, prs d, drw_C y e, by decide, rfl, by simp [go_sem], ?_⟩
 simp [go_sem]
 have w0 : IntKind.i64.wrap 0 = 0 := by decide
 by_cases he : e = 0
 case neg =>
  rw [if_pos (by simpa using he)] at hrst
  have heb : (e != 0) = true := by rw [bne_iff_ne]; exact he
  refine IWp.now ?_
  simp [go_sem, he, heb]
  exact fin _ _ _ hrst.symm (by simp [go_sem, stV, htl])
 subst he
 rw [if_neg (by simp)] at hrst
 have hok := hok rfl
 refine IWp.seqI ?_
 simp [go_sem]
 refine IWp.seqI ?_
 by_cases hrd : (k : Int) = rd
 ·rw [if_pos hrd] at hrst
  simp [go_sem, hrd]
  exact fin _ _ _ hrst.symm (by simp [go_sem, stV, htl])
 rw [if_neg hrd] at hrst
 have hrdb : ((k : Int) == rd) = false := by rw [beq_eq_false_iff_ne]; exact hrd
 have hdl : d.length ≤ 6 := by
  have := hok.len
  rw [hol] at this
  omega
 simp [go_sem, hrd, hrdb]
 obtain ⟨DL, hDL⟩ : ∃ DL, d.length = DL := ⟨_, rfl⟩
 rw [hDL]
 refine IWp.seqT (α := Unit) (fun _ => (⟨false, 280, 36, [42, 56, 62, 73, 84, 90, 99, 118, 129, 133, 140, 154, 159, 253], glT, [(1, .fz 4 (ems l)), (2, .int .i64 rd), (3, .ptr 0 1 0 0), (10, .sl 1 n 0 n none), (12, .sl 2 ML 0 ML none), (13, .sl 3 BL 0 BL none), (14, .int .i64 (k : Int)), (22, .sl 6 DL 0 DL none), (23, .int .i64 y)], []⟩, [.rows 4 [[.int .i64 (n : Int), .int .i64 (RR : Int), .int .i64 b, .fz 1 (ints S)]], .rows 6 (lns V), .rows 2 (prs (metT bf)), .rows 1 (ints (byeT bf)), .dead, .dead, .rows 2 (prs d)])) (fun _ => (d.all fun x => (fnd l k x).isSome) = true) ?_ ?_
 ·simp [go_sem]
  refine IWp.loopT (α := Nat) (fun i => (⟨false, 280, 36, [42, 56, 62, 73, 84, 90, 99, 118, 129, 133, 140, 154, 159, 253], glT, [(1, .fz 4 (ems l)), (2, .int .i64 rd), (3, .ptr 0 1 0 0), (10, .sl 1 n 0 n none), (12, .sl 2 ML 0 ML none), (13, .sl 3 BL 0 BL none), (14, .int .i64 (k : Int)), (15, .sl 4 n 0 n none), (22, .sl 6 DL 0 DL none), (23, .int .i64 y), (25, .int .i64 (i : Int))], []⟩, [.rows 4 [[.int .i64 (n : Int), .int .i64 (RR : Int), .int .i64 b, .fz 1 (ints S)]], .rows 6 (lns V), .rows 2 (prs (metT bf)), .rows 1 (ints (byeT bf)), .rows 6 (lns (tabL9 p bf)), .dead, .rows 2 (prs d)]))
   (fun i => i ≤ d.length ∧ ((d.take i).all fun x => (fnd l k x).isSome) = true) (fun i => d.length - i) 0 ⟨by omega, rfl⟩ (by simp [go_sem]) ?_
  rintro i ⟨hi, hall⟩
  by_cases hid : i < d.length
  ·have hidD : i < DL := by omega
   have wi : IntKind.i64.wrap ((i : Int) + 1) = i + 1 := wrap64 (by omega) (by omega)
   have cf := find39_fun l (k : Int) d[i] (by omega)
   have hsn : ((d.take (i + 1)).all fun x => (fnd l k x).isSome) = (fnd l k d[i]).isSome := by
    rw [List.take_succ_eq_append_getElem hid, List.all_append, hall]
    simp
   simp [go_sem, hid, hidD, hDL]
   refine cf.callF (by simp [go_sem]) ?_
   rintro _ rfl
   cases hf : (fnd l k d[i]).isSome with
   | true =>
    rw [hf] at hsn
    simp [go_sem, wi]
    exact ⟨i + 1, by omega, ⟨by omega, fun a b h => List.all_eq_true.1 hsn (a, b) h⟩, by omega⟩
   | false =>
    have hno : ¬ (d.all fun x => (fnd l k x).isSome) = true := by
     rw [List.all_eq_true]
     intro h
     have := h d[i] (List.getElem_mem hid)
     rw [hf] at this
     cases this
    rw [if_neg hno] at hrst
    simp [go_sem]
    exact fin _ _ _ hrst.symm (by simp [go_sem, stV, htl])
  ·obtain rfl : i = d.length := by omega
   rw [List.take_length] at hall
   simp [go_sem, hDL]
   exact fun a b h => List.all_eq_true.1 hall (a, b) h
 rintro _ hall
 rw [if_pos hall] at hrst
 obtain ⟨MG, hMG⟩ : ∃ MG : List ((Int × Int) × Int), (d.map fun x => (x, (fnd l k x).getD 0)) = MG := ⟨_, rfl⟩
 have hrd9 : rdF l k d y = ⟨d, y, MG⟩ := by unfold rdF; rw [hMG]
 rw [hrd9] at hrst
 have hMl : MG.length = DL := by rw [← hMG, List.length_map]; exact hDL
 have hMget : ∀ i (hi : i < DL) (h2 : i < d.length) (h3 : i < MG.length), MG[i] = (d[i], (fnd l k d[i]).getD 0) := fun i hi h2 h3 => by subst hMG; simp
 have hends := hok.nodup (ordT_nodup p bf)
 have hmr : ∀ x, mrB ((fnd l k x).getD 0) = true := fun x => by
  unfold fnd
  cases hf : l.find? (isM k x) with
  | none => rfl
  | some e => exact hm e (List.mem_of_find?_eq_some hf)
 refine IWp.seqT (α := Unit) (fun _ => (⟨false, 280, 36, [42, 56, 62, 73, 84, 90, 99, 118, 129, 133, 140, 154, 159, 253], glT, [(1, .fz 4 (ems l)), (2, .int .i64 rd), (3, .ptr 0 1 0 0), (10, .sl 1 n 0 n none), (12, .sl 2 ML 0 ML none), (13, .sl 3 BL 0 BL none), (14, .int .i64 (k : Int)), (22, .sl 6 DL 0 DL none), (23, .int .i64 y)], []⟩, [.rows 4 [[.int .i64 (n : Int), .int .i64 (RR : Int), .int .i64 b, .fz 1 (ints S)]], .rows 6 (lns (MG.foldl (addE S) V)), .rows 2 (prs (metT bf)), .rows 1 (ints (byeT bf)), .dead, .dead, .rows 2 (prs d)])) (fun _ => BdL (201 * k + 2 * DL) (MG.foldl (addE S) V)) ?_ ?_
 ·simp [go_sem]
  refine IWp.shut fun Q hQ => ?_
  refine IWp.loopI (α := Nat) (fun i => (⟨false, 280, 36, [42, 56, 62, 73, 84, 90, 99, 118, 129, 133, 140, 154, 159, 253], glT, [(1, .fz 4 (ems l)), (2, .int .i64 rd), (3, .ptr 0 1 0 0), (10, .sl 1 n 0 n none), (12, .sl 2 ML 0 ML none), (13, .sl 3 BL 0 BL none), (14, .int .i64 (k : Int)), (22, .sl 6 DL 0 DL none), (23, .int .i64 y), (28, .int .i64 (i : Int))], []⟩, [.rows 4 [[.int .i64 (n : Int), .int .i64 (RR : Int), .int .i64 b, .fz 1 (ints S)]], .rows 6 (lns ((MG.take i).foldl (addE S) V)), .rows 2 (prs (metT bf)), .rows 1 (ints (byeT bf)), .dead, .dead, .rows 2 (prs d)]))
   (fun i => i ≤ DL ∧ BdL (201 * k + 2 * i) ((MG.take i).foldl (addE S) V)) (fun i => DL - i) 0 ⟨by omega, hVB⟩ (by simp [go_sem]) ?_
  rintro i ⟨hi, hBi⟩
  by_cases hid : i < DL
  ·have wi : IntKind.i64.wrap ((i : Int) + 1) = i + 1 := wrap64 (by omega) (by omega)
   have hidd : i < d.length := by omega
   have hiM : i < MG.length := by omega
   have hg := hMget i hid hidd hiM
   have cf := find39_fun l (k : Int) d[i] (by omega)
   have hmi := hmr d[i]
   have hdm := hok.mem (List.getElem_mem hidd)
   rw [ordT_mem, ordT_mem] at hdm
   have hne := ends_ne hends (List.getElem_mem hidd)
   have hpt3 : p.t = n := by rw [hpd]
   rw [hpt3] at hdm
   have hsn : (MG.take (i + 1)).foldl (addE S) V = addE S ((MG.take i).foldl (addE S) V) (d[i], (fnd l k d[i]).getD 0) := by
    rw [List.take_succ_eq_append_getElem hiM, List.foldl_append, hg]; rfl
   have hLl : ((MG.take i).foldl (addE S) V).length = n := by rw [foldE_length]; exact hVl
   generalize (MG.take i).foldl (addE S) V = L at *
   obtain ⟨fo, hfo⟩ : ∃ fo : Bool, (fnd l k d[i]).isSome = fo := ⟨_, rfl⟩
   obtain ⟨m, hmm⟩ : ∃ m, (fnd l k d[i]).getD 0 = m := ⟨_, rfl⟩
   rw [hfo, hmm] at cf
   rw [hmm] at hmi hsn
   have cp := refPts_fun S m (by omega)
   unfold ptsV at cp
   rw [if_pos ⟨by rw [← hps]; exact hp.s, hmi⟩] at cp
   obtain ⟨A, hA⟩ : ∃ A : Nat, d[i].1 = (A : Int) + 1 := ⟨(d[i].1 - 1).toNat, by omega⟩
   obtain ⟨C, hC⟩ : ∃ C : Nat, d[i].2 = (C : Int) + 1 := ⟨(d[i].2 - 1).toNat, by omega⟩
   have wa : IntKind.i64.wrap ((A : Int) + 1 - 1) = A := by rw [wrap64 (by omega) (by omega)]; omega
   have wc : IntKind.i64.wrap ((C : Int) + 1 - 1) = C := by rw [wrap64 (by omega) (by omega)]; omega
   have wa' : IntKind.i64.wrap (A : Int) = A := wrap64 (by omega) (by omega)
   have wc' : IntKind.i64.wrap (C : Int) = C := wrap64 (by omega) (by omega)
   have hAC : ¬ A = C := by omega
   have hCA : ¬ C = A := by omega
   have hAn : A < n := by omega
   have hCn : C < n := by omega
   have eA : (d[i].1 - 1).toNat = A := by omega
   have eC : (d[i].2 - 1).toNat = C := by omega
   have hb1 := hBi.addA (by omega) hmi A
   have hb2 := hb1.addB (by omega) hmi C
   have hadd : addE S L (d[i], m) = upL (upL L A (addA S m)) C (addB S m) := by
    unfold addE
    simp only
    rw [eA, eC]
   rw [hadd] at hsn
   have e1 := lns_at (l := L) (i := A) (by omega)
   have f1 := lns_at (l := L) (i := C) (by omega)
   have hgY : (upL L A (addA S m)).getD C Ln0 = L.getD C Ln0 := by
    unfold upL
    rw [List.getD_eq_getElem?_getD, List.getElem?_set_ne hAC, ← List.getD_eq_getElem?_getD]
   have hV9 : lns (upL (upL L A (addA S m)) C (addB S m)) = ((lns L).set A (addA S m (L.getD A Ln0)).c).set C (addB S m (L.getD C Ln0)).c := by
    have e9 : upL (upL L A (addA S m)) C (addB S m) = (upL L A (addA S m)).set C (addB S m ((upL L A (addA S m)).getD C Ln0)) := rfl
    rw [e9, hgY, lns_set]
    unfold upL
    rw [lns_set]
   have hBx := hBi (L.getD A Ln0) (by rw [List.getD_eq_getElem?_getD, List.getElem?_eq_getElem (by omega), Option.getD_some]; exact List.getElem_mem _)
   have hBy := hBi (L.getD C Ln0) (by rw [List.getD_eq_getElem?_getD, List.getElem?_eq_getElem (by omega), Option.getD_some]; exact List.getElem_mem _)
   have hpb := pt_bd S m
   have hmb := mrB_bd hmi
   have hL9 : (lns L).length = n := by rw [lns_length]; exact hLl
   generalize lns L = RW at *
   generalize L.getD A Ln0 = X at *
   generalize L.getD C Ln0 = Y at *
   obtain ⟨x1, x2, x3, x4, x5, x6⟩ := X
   obtain ⟨y1, y2, y3, y4, y5, y6⟩ := Y
   unfold Bd1 at hBx hBy
   simp only [addA, addB, Ln.c] at e1 f1 hV9 hBx hBy
   generalize ptA S m = pA at *
   generalize ptB S m = pB at *
   have u1 : IntKind.i64.wrap (x3 + 1) = x3 + 1 := wrap64 (by omega) (by omega)
   have u2 : IntKind.i64.wrap (x4 + pA) = x4 + pA := wrap64 (by omega) (by omega)
   have u3 : IntKind.i64.wrap (x5 + m) = x5 + m := wrap64 (by omega) (by omega)
   have u4 : IntKind.i64.wrap (y3 + 1) = y3 + 1 := wrap64 (by omega) (by omega)
   have u5 : IntKind.i64.wrap (y4 + pB) = y4 + pB := wrap64 (by omega) (by omega)
   have u6 : IntKind.i64.wrap (y5 - m) = y5 - m := wrap64 (by omega) (by omega)
   clear hBx hBy hpb
   refine IWp.seqI ?_
   simp [go_sem, hid, hDL]
   refine IWp.seq ?_
   refine IWp.block ?_
   refine IWp.seqI ?_
   simp [go_sem, hid, hDL]
   refine cf.callF (by simp [go_sem]) ?_
   rintro _ rfl
   simp [go_sem]
   refine IWp.seqI ?_
   simp [go_sem]
   refine cp.callF (by simp [go_sem]) ?_
   rintro _ rfl
   simp [go_sem]
   refine IWp.seqI ?_
   simp [go_sem, hid, hDL, hA, hC, wa, wc, wa', wc']
   refine ⟨by decide +kernel, ?_⟩
   have e2 : ∀ hh, RW[A]'hh = [.int .i64 x1, .int .i64 x2, .int .i64 x3, .int .i64 x4, .int .i64 x5, .bool x6] := fun hh => by rw [List.getElem?_eq_getElem hh, Option.getD_some] at e1; exact e1
   have f2 : ∀ hh, RW[C]'hh = [.int .i64 y1, .int .i64 y2, .int .i64 y3, .int .i64 y4, .int .i64 y5, .bool y6] := fun hh => by rw [List.getElem?_eq_getElem hh, Option.getD_some] at f1; exact f1
   refine IWp.seqI ?_
   simp [go_sem, hAn, hCn, hL9, e1, f1, e2, f2, u1, hAC, hCA]
   refine IWp.seqI ?_
   simp [go_sem, hAn, hCn, hL9, e1, f1, e2, f2, u4, hAC, hCA]
   refine IWp.seqI ?_
   simp [go_sem, hAn, hCn, hL9, e1, f1, e2, f2, u2, hAC, hCA]
   refine IWp.seqI ?_
   simp [go_sem, hAn, hCn, hL9, e1, f1, e2, f2, u5, hAC, hCA]
   refine IWp.seqI ?_
   simp [go_sem, hAn, hCn, hL9, e1, f1, e2, f2, u3, hAC, hCA]
   refine IWp.now ?_
   simp [go_sem, hAn, hCn, hL9, e1, f1, e2, f2, u6, hAC, hCA]
   refine IWp.now ?_
   simp [go_sem, wi]
   refine ⟨i + 1, ⟨by omega, ?_⟩, ⟨by omega, ?_⟩, by omega⟩
   ·rw [hsn, hV9, set6 hAC]
   ·rw [hsn, show 201 * k + 2 * (i + 1) = 201 * k + 2 * i + 1 + 1 by omega]
    exact hb2
  ·obtain rfl : i = DL := by omega
   rw [show MG.take i = MG from List.take_of_length_le (by omega)] at *
   refine IWp.now ?_
   simp [go_sem, hDL]
   rw [hQ]
   simp [go_sem]
   exact hBi
 rintro _ hBM
 have hGl : (MG.foldl (addE S) V).length = n := by rw [foldE_length]; exact hVl
 have hAR : addR p V ⟨d, y, MG⟩ = addY p y (MG.foldl (addE S) V) := by unfold addR; rw [hps]
 have hUz : (addR p V ⟨d, y, MG⟩).map zp = tabU p (bf ++ [⟨d, y, MG⟩]) := by rw [tabU_snoc, addR_zp, hVz]
 have hmt : metT (bf ++ [⟨d, y, MG⟩]) = metT bf ++ d := metT_snoc _ _
 have hbt := byeT_snoc bf ⟨d, y, MG⟩
 simp only at hbt
 rw [hAR] at hUz
 have hK2 : RR - (k + 1) = K := by omega
 have hybd : 0 ≤ y ∧ y ≤ n := by
  rcases (by omega : n % 2 = 0 ∨ n % 2 = 1) with h2 | h2
  ·have := hok.ev (by rw [hol]; exact h2); omega
  ·have := (hok.od (by rw [hol]; exact h2)).1
   rw [ordT_mem] at this
   have hpt3 : p.t = n := by rw [hpd]
   omega
 unfold addY at hUz
 have w1 : IntKind.i64.wrap ((k : Int) + 1) = k + 1 := wrap64 (by omega) (by omega)
 have tkd : (prs d).take DL = prs d := List.take_of_length_le (by simp; omega)
 generalize MG.foldl (addE S) V = G at *
 refine IWp.seqI ?_
 by_cases hy : 0 < y
 ·rw [if_pos hy] at hUz hbt
  obtain ⟨A, hA⟩ : ∃ A : Nat, y = (A : Int) + 1 := ⟨(y - 1).toNat, by omega⟩
  have eA : (y - 1).toNat = A := by omega
  have wa : IntKind.i64.wrap ((A : Int) + 1 - 1) = A := by rw [wrap64 (by omega) (by omega)]; omega
  have wa' : IntKind.i64.wrap (A : Int) = A := wrap64 (by omega) (by omega)
  have hAn : A < n := by omega
  rw [eA, hpb] at hUz
  have hBn : BdL (201 * (k + 1)) (upL G A fun x => { x with points := x.points + b, bye := true }) := by
   refine (hBM.mono (k' := 201 * k + 12) (by omega)).up (by omega) fun x hx => ?_
   unfold Bd1 at *
   simp only
   omega
  have e1 := lns_at (l := G) (i := A) (by omega)
  have hBx := hBM (G.getD A Ln0) (by rw [List.getD_eq_getElem?_getD, List.getElem?_eq_getElem (by omega), Option.getD_some]; exact List.getElem_mem _)
  have hUU : lns (upL G A fun x => { x with points := x.points + b, bye := true }) = (lns G).set A ({ G.getD A Ln0 with points := (G.getD A Ln0).points + b, bye := true } : Ln).c := lns_set
  have hL9 : (lns G).length = n := by rw [lns_length]; exact hGl
  generalize hU9 : (upL G A fun x => { x with points := x.points + b, bye := true }) = U9 at *
  generalize G.getD A Ln0 = X at *
  generalize lns G = RW at *
  obtain ⟨x1, x2, x3, x4, x5, x6⟩ := X
  unfold Bd1 at hBx
  simp only [Ln.c] at e1 hUU hBx
  have e2 : ∀ hh, RW[A]'hh = [.int .i64 x1, .int .i64 x2, .int .i64 x3, .int .i64 x4, .int .i64 x5, .bool x6] := fun hh => by rw [List.getElem?_eq_getElem hh, Option.getD_some] at e1; exact e1
  have u1 : IntKind.i64.wrap (x4 + b) = x4 + b := wrap64 (by omega) (by omega)
  subst hA
  have hbt2 := hbt
  simp [go_sem, hy, wa, wa', hAn, hL9, e1, e2, u1]
  refine ⟨by decide +kernel, ⟨hBL.symm, by omega⟩, ?_⟩
  refine IWp.now ?_
  simp [go_sem, hDL, hML, tkd]
  refine ⟨⟨by omega, prs_one⟩, ?_⟩
  refine IWp.now ?_
  simp [go_sem, w1]
  refine ⟨k + 1, bf ++ [⟨d, (A : Int) + 1, MG⟩], U9, ⟨⟨by rw [hmt, List.length_append, hML, hDL], by rw [hbt2, List.length_append, hBL]; rfl, by omega⟩, hUU, by rw [hmt, prs_append], by rw [hbt2, ints_snoc]⟩, ⟨by omega, ?_, hUz, hBn, ?_, ?_⟩, by omega⟩
  ·rw [hK2, hZ]; exact hrst
  ·rw [hmt, List.length_append, hDL]; omega
  ·rw [hbt2, List.length_append]; simp; omega
 ·rw [if_neg hy] at hUz hbt
  rw [List.append_nil] at hbt
  simp [go_sem, hy]
  refine IWp.now ?_
  simp [go_sem, hDL, hML, tkd]
  refine ⟨⟨by omega, prs_one⟩, ?_⟩
  refine IWp.now ?_
  simp [go_sem, w1]
  refine ⟨k + 1, bf ++ [⟨d, y, MG⟩], G, ⟨⟨by rw [hmt, List.length_append, hML, hDL], by rw [hbt, hBL], by omega⟩, rfl, by rw [hmt, prs_append], by rw [hbt]⟩, ⟨by omega, ?_, hUz, hBM.mono (by omega), ?_, ?_⟩, by omega⟩
  ·rw [hK2, hZ]; exact hrst
  ·rw [hmt, List.length_append, hDL]; omega
  ·rw [hbt]; omega
end Go.Idl
