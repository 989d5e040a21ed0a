import Derived.Test.YtamffdgopknkfaaGreatDoorC39zPartT
set_option linter.all false
set_option maxHeartbeats 16000000
set_option maxRecDepth 40000
namespace Go.Idl
open Go.Proofs
theorem reachedG1 (p : Pl) (l : List Em) (SR LR : List (List IV)) (ls ll : Nat) (cs cl : Option Nat) (hS1 : cutR 0 ls SR = ints p.s) (hS2 : ls ≤ SR.length) (hS3 : ∀ n, BlR n SR) (hL1 : cutR 0 ll LR = ems l) (hL2 : ll ≤ LR.length) (hL3 : ∀ n, BlR n LR) (hp : PlOK p) (hpr : 1 ≤ p.r ∧ p.r ≤ 15) (hl : l.length ≤ 2 ^ 32) (lY : Nat) (O1 O2 O3 : Nat → IObj) (O0 Y : IObj) (hO : ∀ n j, 9 ≤ n → ObBl n O0 ∧ ObBl n (O1 j) ∧ ObBl n (O2 j) ∧ ObBl n (O3 j) ∧ ObBl n Y)
  (hh : O0.isHole = false ∧ Y.isHole = false ∧ ∀ j, (O1 j).isHole = false ∧ (O2 j).isHole = false ∧ (O3 j).isHole = false)
  (hY : ∀ (j : Nat) (r : Er) (τ : Heap), (rchd p l)[j]? = some r → HeBl (τ.length + 9) τ → YCalls Tryz.prog glT lY [.int .i64 (j : Int), r.v] (.rows 1 SR :: .rows 4 LR :: O0 :: O1 j :: O2 j :: .rows 4 [[.int .i64 p.t, .int .i64 p.r, .int .i64 p.b, .sl 0 SR.length 0 ls cs]] :: .rows 1 [[.sl 1 LR.length 0 ll cl]] :: O3 j :: Y :: τ) (fun v σ' => v = .bool true ∧ σ' = .rows 1 SR :: .rows 4 LR :: O0 :: O1 (j + 1) :: O2 (j + 1) :: .rows 4 [[.int .i64 p.t, .int .i64 p.r, .int .i64 p.b, .sl 0 SR.length 0 ls cs]] :: .rows 1 [[.sl 1 LR.length 0 ll cl]] :: O3 (j + 1) :: Y :: τ)) :
  ICalls Tryz.prog glT 83 [.func (.yield lY) [] [], .ptr 5 1 0 0, .ptr 6 1 0 0] [.rows 1 SR, .rows 4 LR, O0, O1 0, O2 0, .rows 4 [[.int .i64 p.t, .int .i64 p.r, .int .i64 p.b, .sl 0 SR.length 0 ls cs]], .rows 1 [[.sl 1 LR.length 0 ll cl]], O3 0, Y]
   fun _ σ' => σ' = [.rows 1 SR, .rows 4 LR, O0, O1 (rchd p l).length, O2 (rchd p l).length, .rows 4 [[.int .i64 p.t, .int .i64 p.r, .int .i64 p.b, .sl 0 SR.length 0 ls cs]], .rows 1 [[.sl 1 LR.length 0 ll cl]], O3 (rchd p l).length, Y] := by
 refine ICalls.forget (ICalls.of_bodyV false 15 [16, 17, 18, 22, 23, 24, 25, 43, 60, 69] Tryz.func83 rfl Tryz.call83 rfl fun R hR => ?_)
 have hend : ∀ (σ : Heap), fgt [.rows 1 SR, .rows 4 LR, O0, O1 (rchd p l).length, O2 (rchd p l).length, .rows 4 [[.int .i64 p.t, .int .i64 p.r, .int .i64 p.b, .sl 0 SR.length 0 ls cs]], .rows 1 [[.sl 1 LR.length 0 ll cl]], O3 (rchd p l).length, Y] σ → R (.tup []) σ := fun σ h => hR _ σ ⟨[.rows 1 SR, .rows 4 LR, O0, O1 (rchd p l).length, O2 (rchd p l).length, .rows 4 [[.int .i64 p.t, .int .i64 p.r, .int .i64 p.b, .sl 0 SR.length 0 ls cs]], .rows 1 [[.sl 1 LR.length 0 ll cl]], O3 (rchd p l).length, Y], by
  obtain ⟨a0, a1, a2, a3, a4⟩ := hO 9 (rchd p l).length (by omega)
  refine ⟨h, ?_⟩
  simp [go_sem, hS1, hS2, hS3, hL1, hL2, hL3, a0, a1, a2, a3, a4], rfl⟩
 clear hR
 refine IWp.seqI ?_
 simp [go_sem, hS1, hS2, hS3, hL1, hL2, hL3]
 refine IWp.seqI ?_
 simp [go_sem, hS1, hS2, hS3, hL1, hL2, hL3]
 refine IWp.seqI ?_
 simp [go_sem, hS1, hS2, hS3, hL1, hL2, hL3]
 refine IWp.ownNilS 3 4 (by decide) (by simp [go_sem, hS1, hS2, hS3, hL1, hL2, hL3]) ?_
 refine IWp.ownNilS 2 5 (by decide) (by simp [go_sem, hS1, hS2, hS3, hL1, hL2, hL3]) ?_
 refine IWp.ownNilS 1 6 (by decide) (by simp [go_sem, hS1, hS2, hS3, hL1, hL2, hL3]) ?_
 refine IWp.seqI ?_
 simp [go_sem, hS1, hS2, hS3, hL1, hL2, hL3]
 refine IWp.now ?_
 simp [go_sem, hS1, hS2, hS3, hL1, hL2, hL3]
 refine IWp.loopI (α := Nat) (fun j => (⟨false, 75, 15, [16, 17, 18, 22, 23, 24, 25, 43, 60, 69], glT, [(0, .func (.yield lY) [] []), (1, .ptr 5 1 0 0), (2, .ptr 6 1 0 0), (4, .sl 9 j 0 j none), (5, .sl 10 (metT ((rchd p l).take j)).length 0 (metT ((rchd p l).take j)).length none), (6, .sl 11 (byeT ((rchd p l).take j)).length 0 (byeT ((rchd p l).take j)).length none), (16, .int .i64 p.r), (17, .int .i64 (j : Int))], []⟩, [.rows 1 SR, .rows 4 LR, O0, O1 j, O2 j, .rows 4 [[.int .i64 p.t, .int .i64 p.r, .int .i64 p.b, .sl 0 SR.length 0 ls cs]], .rows 1 [[.sl 1 LR.length 0 ll cl]], O3 j, Y] ++ rchH p l j))
  (fun j => j ≤ (rchd p l).length ∧ ∀ i, i < j → ((rchd p l).getD i Er0).over = true) (fun j => (rchd p l).length - j) 0 ⟨by omega, fun i hi => by omega⟩ (by
   obtain ⟨a0, a1, a2, a3, a4⟩ := hO 12 0 (by omega)
   simp [go_sem, hS1, hS2, hS3, hL1, hL2, hL3, rchH, metT, byeT, a0, a1, a2, a3, a4]) ?_
 rintro j ⟨hj, hov⟩
 have hnx := reach_next hj hov
 have hle : (rchd p l).length ≤ p.r.toNat := reach_len p l _ _ _
 obtain ⟨hm1, hm2⟩ := metT_le (l := l) hp j hj
 unfold rchH
 refine IWp.seqI ?_
 by_cases h : (j : Int) < p.r
 ·simp [go_sem, hS1, hS2, hS3, hL1, hL2, hL3, h]
  refine IWp.seqI ?_
  simp [go_sem, hS1, hS2, hS3, hL1, hL2, hL3]
  refine IWp.seq ?_
  refine IWp.block ?_
  refine IWp.seqI ?_
  simp [go_sem, hS1, hS2, hS3, hL1, hL2, hL3]
  refine IWp.seqI ?_
  simp [go_sem, hS1, hS2, hS3, hL1, hL2, hL3]
  have hbl : ((rchd p l).take j).length = j := by simp; omega
  have hbe : ∀ r ∈ (rchd p l).take j, ErOK p r := fun r hr => rchd_erM hp r (List.mem_of_mem_take hr)
  have ct := table_fun p ((rchd p l).take j) hp (by omega) hbe
  have htl : (tabL9 p ((rchd p l).take j)).length = p.t.toNat := by simp [tabL9]
  have htt : (tabL9 p ((rchd p l).take j)).map (·.team) = ordT p ((rchd p l).take j) := rfl
  have hpt := hp.t
  refine IWp.ownNilS 1 8 (by decide) (by simp [go_sem, hS1, hS2, hS3, hL1, hL2, hL3]) ?_
  refine IWp.seqT (α := Unit) (fun _ => (⟨false, 75, 15, [16, 17, 18, 22, 23, 24, 25, 43, 60, 69], glT, [(0, .func (.yield lY) [] []), (1, .ptr 5 1 0 0), (2, .ptr 6 1 0 0), (4, .sl 9 j 0 j none), (5, .sl 10 (metT ((rchd p l).take j)).length 0 (metT ((rchd p l).take j)).length none), (6, .sl 11 (byeT ((rchd p l).take j)).length 0 (byeT ((rchd p l).take j)).length none), (7, .int .i64 (j : Int)), (8, .sl 12 p.t.toNat 0 p.t.toNat none), (16, .int .i64 p.r), (17, .int .i64 (j : Int))], []⟩,
   [.rows 1 SR, .rows 4 LR, O0, O1 j, O2 j, .rows 4 [[.int .i64 p.t, .int .i64 p.r, .int .i64 p.b, .sl 0 SR.length 0 ls cs]], .rows 1 [[.sl 1 LR.length 0 ll cl]], O3 j, Y, .rows 3 (rds ((rchd p l).take j)), .rows 2 (prs (metT ((rchd p l).take j))), .rows 1 (ints (byeT ((rchd p l).take j))), .rows 1 (ints (ordT p ((rchd p l).take j)))])) (fun _ => True) ?_ ?_
  ·generalize (rchd p l).take j = bf at *
   obtain ⟨a0, a1, a2, a3, a4⟩ := hO 13 j (by omega)
   simp only [Pl.v] at ct
   simp [go_sem, hS1, hS2, hS3, hL1, hL2, hL3]
   refine ct.callF (by simp [go_sem, hS1, hS2, hS3, hL1, hL2, hL3, hbl]) ?_
   rintro _ rfl
   simp [go_sem, hS1, hS2, hS3, hL1, hL2, hL3]
   rw [← htt]
   clear ct hbe hnx
   generalize tabL9 p bf = TB at *
   obtain ⟨n, hn⟩ : ∃ n, p.t.toNat = n := ⟨_, rfl⟩
   rw [hn] at htl ⊢
   have hn12 : n ≤ 12 := by omega
   refine IWp.loopT (α := Nat) (fun k => (⟨false, 75, 15, [16, 17, 18, 22, 23, 24, 25, 43, 60, 69], glT, [(0, .func (.yield lY) [] []), (1, .ptr 5 1 0 0), (2, .ptr 6 1 0 0), (4, .sl 9 j 0 j none), (5, .sl 10 (metT bf).length 0 (metT bf).length none), (6, .sl 11 (byeT bf).length 0 (byeT bf).length none), (7, .int .i64 (j : Int)), (8, .sl 12 k 0 k none), (16, .int .i64 p.r), (17, .int .i64 (j : Int)), (22, .fz 6 (lns TB)), (23, .int .i64 (n : Int)), (24, .int .i64 (k : Int))], []⟩,
    [.rows 1 SR, .rows 4 LR, O0, O1 j, O2 j, .rows 4 [[.int .i64 p.t, .int .i64 p.r, .int .i64 p.b, .sl 0 SR.length 0 ls cs]], .rows 1 [[.sl 1 LR.length 0 ll cl]], O3 j, Y, .rows 3 (rds bf), .rows 2 (prs (metT bf)), .rows 1 (ints (byeT bf)), .rows 1 (ints ((TB.take k).map (·.team)))]))
    (fun k => k ≤ n) (fun k => n - k) 0 (by omega) (by simp [go_sem, hS1, hS2, hS3, hL1, hL2, hL3, a0, a1, a2, a3, a4, htl]) ?_
   intro k hk
   by_cases hkn : k < n
   ·have w1 : IntKind.i64.wrap ((k : Int) + 1) = k + 1 := wrap64 (by omega) (by omega)
    have hkl : k < TB.length := by omega
    have hsn : ints ((TB.take (k + 1)).map (·.team)) = ints ((TB.take k).map (·.team)) ++ [[.int .i64 TB[k].team]] := by
     rw [List.take_succ_eq_append_getElem hkl, List.map_append, List.map_cons, List.map_nil, ints_snoc]
    have htk : (TB.take k).length = k := by simp; omega
    obtain ⟨x, hx⟩ : ∃ x, TB[k] = x := ⟨_, rfl⟩
    rw [hx] at hsn
    obtain ⟨x1, x2, x3, x4, x5, x6⟩ := x
    rw [List.map_take, List.map_take] at hsn
    simp [go_sem, hS1, hS2, hS3, hL1, hL2, hL3, hkn, hkl, hx, w1, htk, htl]
    exact ⟨⟨by omega, by omega⟩, k + 1, ⟨⟨rfl, by omega⟩, hsn, a0, a1, a2, a3, a4⟩, by omega, by omega⟩
   ·obtain rfl : k = n := by omega
    rw [show TB.take k = TB from List.take_of_length_le (by omega)]
    simp [go_sem, hS1, hS2, hS3, hL1, hL2, hL3]
    exact ⟨a0, a1, a2, a3, a4⟩
  rintro _ _
  have hol := ordT_length p ((rchd p l).take j)
  have cd := Draw_fun (ordT p ((rchd p l).take j)) (metT ((rchd p l).take j)) (byeT ((rchd p l).take j)) (by omega) (by omega) (by omega)
  unfold drawV at cd
  rw [show p.r.toNat - j = (p.r.toNat - j - 1) + 1 by omega] at hnx
  unfold reach at hnx
  simp only at hnx
  have her := draw_er (l := l) (n := (j : Int)) (bf := (rchd p l).take j) hp
  generalize hq : drawR (ordT p ((rchd p l).take j)) (metT ((rchd p l).take j)) (byeT ((rchd p l).take j)) = q at *
  obtain ⟨d, y, e⟩ := q
  simp only at cd hnx her
  have hsucc : ∀ r, (rchd p l)[j]? = some r → (rchd p l).take (j + 1) = (rchd p l).take j ++ [r] := fun r hr => by
   obtain ⟨h1, h2⟩ := List.getElem?_eq_some_iff.1 hr
   rw [List.take_succ_eq_append_getElem h1, h2]
  generalize (rchd p l).take j = bf at *
  obtain ⟨a0, a1, a2, a3, a4⟩ := hO 13 j (by omega)
  refine IWp.seqI ?_
  simp [go_sem, hS1, hS2, hS3, hL1, hL2, hL3]
  refine cd.callF (by simp [go_sem, hS1, hS2, hS3, hL1, hL2, hL3, hol]) ?_
  rintro _ rfl
  simp [go_sem, hS1, hS2, hS3, hL1, hL2, hL3]
  refine IWp.seqI ?_
  simp [go_sem, hS1, hS2, hS3, hL1, hL2, hL3]
  by_cases he : e = 0
  case neg =>
   rw [if_pos he] at hnx
   have hjl : j = (rchd p l).length := by
    have := congrArg List.length hnx
    simp at this; omega
   simp [go_sem, hS1, hS2, hS3, hL1, hL2, hL3, he]
   rw [hjl]
   exact hend _ (by simp [go_sem, hS1, hS2, hS3, hL1, hL2, hL3])
  subst he
  rw [if_neg (by simp)] at hnx
  obtain ⟨her1, her2⟩ := her rfl
  have cm := margins_fun l j d hl (by omega)
  simp [go_sem, hS1, hS2, hS3, hL1, hL2, hL3]
  refine IWp.seqI ?_
  simp [go_sem, hS1, hS2, hS3, hL1, hL2, hL3]
  refine cm.callF (by simp [go_sem, hS1, hS2, hS3, hL1, hL2, hL3]) ?_
  rintro _ rfl
  simp [go_sem, hS1, hS2, hS3, hL1, hL2, hL3]
  have hfst : ∃ r, (rchd p l)[j]? = some r ∧ r = ⟨d, y, mgs l j d⟩ := by
   split at hnx
   ·exact ⟨_, by have := congrArg List.head? hnx; rw [List.head?_drop] at this; exact this.symm, rfl⟩
   ·exact ⟨_, by have := congrArg List.head? hnx; rw [List.head?_drop] at this; exact this.symm, rfl⟩
  obtain ⟨r, hr1, rfl⟩ := hfst
  have cy := hY j _ [.rows 3 (rds bf), .rows 2 (prs (metT bf)), .rows 1 (ints (byeT bf)), .rows 1 (ints (ordT p bf)), .rows 3 [[.fz 2 (prs d), .int .i64 y, .fm (enP (mgs l j d))]]] hr1 (by simp [go_sem, hS1, hS2, hS3, hL1, hL2, hL3])
  have co := over_fun ⟨d, y, mgs l j d⟩ (by simp only; omega)
  simp only [Er.v] at cy co
  refine IWp.seq ?_
  refine IWp.seqI ?_
  simp [go_sem, hS1, hS2, hS3, hL1, hL2, hL3]
  refine cy.mono ?_
  rintro _ _ ⟨rfl, rfl⟩
  simp [go_sem, hS1, hS2, hS3, hL1, hL2, hL3]
  refine co.callF (by simp [go_sem, hS1, hS2, hS3, hL1, hL2, hL3]) ?_
  rintro _ rfl
  have hjl : j < (rchd p l).length := (List.getElem?_eq_some_iff.1 hr1).1
  cases ho : (Er.mk d y (mgs l j d)).over with
  | false =>
   rw [if_neg (by rw [ho]; simp)] at hnx
   have hjl : j + 1 = (rchd p l).length := by
    have := congrArg List.length hnx
    simp at this; omega
   simp [go_sem, hS1, hS2, hS3, hL1, hL2, hL3]
   refine IWp.now ?_
   simp [go_sem, hS1, hS2, hS3, hL1, hL2, hL3]
   rw [hjl]
   exact hend _ (by simp [go_sem, hS1, hS2, hS3, hL1, hL2, hL3])
  | true =>
  have hsn := hsucc _ hr1
  have e1 : rds ((rchd p l).take (j + 1)) = rds bf ++ [[.fz 2 (prs d), .int .i64 y, .fm (enP (mgs l j d))]] := by rw [hsn, rds_snoc]
  have e2 : prs (metT ((rchd p l).take (j + 1))) = prs (metT bf) ++ prs d := by rw [hsn, metT_snoc, prs_append]
  have e2l : (metT ((rchd p l).take (j + 1))).length = (metT bf).length + d.length := by rw [hsn, metT_snoc, List.length_append]
  have e3 : byeT ((rchd p l).take (j + 1)) = byeT bf ++ if 0 < y then [y] else [] := by rw [hsn, byeT_snoc]
  have v1 : IntKind.i64.wrap ((j : Int) + 1) = ((j + 1 : Nat) : Int) := by rw [wrap64 (by omega) (by omega)]; omega
  have hov' : ∀ i, i < j + 1 → ((rchd p l).getD i Er0).over = true := fun i hi => by
   by_cases e : i = j
   ·subst e; rw [List.getD_eq_getElem?_getD, hr1]; exact ho
   ·exact hov i (by omega)
  simp [go_sem, hS1, hS2, hS3, hL1, hL2, hL3]
  refine IWp.now ?_
  simp [go_sem, hS1, hS2, hS3, hL1, hL2, hL3]
  refine IWp.seqI ?_
  simp [go_sem, hS1, hS2, hS3, hL1, hL2, hL3, hbl]
  refine ⟨by omega, ?_⟩
  refine IWp.seqI ?_
  simp [go_sem, hS1, hS2, hS3, hL1, hL2, hL3]
  refine ⟨⟨by omega, prs_one⟩, ?_⟩
  refine IWp.seqI ?_
  simp [go_sem, hS1, hS2, hS3, hL1, hL2, hL3]
  obtain ⟨b0, b1, b2, b3, b4⟩ := hO 12 (j + 1) (by omega)
  by_cases hy : 0 < y
  ·rw [if_pos hy] at e3
   have e3' : ints (byeT ((rchd p l).take (j + 1))) = ints (byeT bf) ++ [[.int .i64 y]] := by rw [e3, ints_snoc]
   have e3l : (byeT ((rchd p l).take (j + 1))).length = (byeT bf).length + 1 := by rw [e3]; simp
   refine IWp.now ?_
   simp [go_sem, hS1, hS2, hS3, hL1, hL2, hL3, hy]
   refine ⟨by omega, ?_⟩
   refine IWp.now ?_
   simp [go_sem, hS1, hS2, hS3, hL1, hL2, hL3, v1]
   refine ⟨j + 1, ⟨⟨rfl, e2l.symm, e3l.symm, by omega⟩, ⟨.inr rfl, .inr rfl, .inr rfl, e1, e2, e3'⟩, b0, b1, b2, b3, b4⟩, ⟨by omega, fun i hi => ?_⟩, by omega⟩
   simpa using hov' i hi
  ·rw [if_neg hy, List.append_nil] at e3
   refine IWp.now ?_
   simp [go_sem, hS1, hS2, hS3, hL1, hL2, hL3, hy]
   refine IWp.now ?_
   simp [go_sem, hS1, hS2, hS3, hL1, hL2, hL3, v1]
   refine ⟨j + 1, ⟨⟨rfl, e2l.symm, by rw [e3], by omega⟩, ⟨.inr rfl, .inr rfl, .inr rfl, e1, e2, by rw [e3]⟩, b0, b1, b2, b3, b4⟩, ⟨by omega, fun i hi => ?_⟩, by omega⟩
   simpa using hov' i hi
 ·have hd : (rchd p l).drop j = [] := by
   rw [← hnx, show p.r.toNat - j = 0 by omega]; rfl
  have hjl : j = (rchd p l).length := by
   have := congrArg List.length hd
   simp at this; omega
  simp [go_sem, hS1, hS2, hS3, hL1, hL2, hL3, h]
  refine IWp.now ?_
  simp [go_sem, hS1, hS2, hS3, hL1, hL2, hL3]
  rw [hjl]
  exact hend _ (by simp [go_sem, hS1, hS2, hS3, hL1, hL2, hL3])
end Go.Idl
