import Derived.Test.YtamffdgopknkfaaGreatDoorC39zPartN
set_option linter.all false
set_option maxHeartbeats 16000000
set_option maxRecDepth 40000
namespace Go.Idl
open Go.Proofs
theorem mgs_mem {l : List Em} {n : Int} {d : List (Int × Int)} {e : (Int × Int) × Int} (h : e ∈ mgs l n d) : e.1 ∈ d ∧ mrB e.2 = true := by
 have h1 := mgs_keys (List.mem_map_of_mem (f := Prod.fst) h)
 refine ⟨h1, ?_⟩
 have h2 := mem_aget (mgs_nodup l n d) (show (e.1, e.2) ∈ mgs l n d from h)
 rw [mgs_get, if_pos h1, Option.map_eq_some_iff] at h2
 obtain ⟨m, h3, h4⟩ := h2
 have := List.find?_some h3
 simp only [isMm, Bool.and_eq_true] at this
 rw [← h4]; exact this.2
theorem draw_er {p : Pl} {l : List Em} {bf : List Er} {n : Int} (hp : PlOK p) (h : (drawR (ordT p bf) (metT bf) (byeT bf)).2.2 = 0) :
  ErOK p ⟨(drawR (ordT p bf) (metT bf) (byeT bf)).1, (drawR (ordT p bf) (metT bf) (byeT bf)).2.1, mgs l n (drawR (ordT p bf) (metT bf) (byeT bf)).1⟩ ∧ (drawR (ordT p bf) (metT bf) (byeT bf)).1.length ≤ 6 := by
 have hk := drawR_ok (ordT_nodup p bf) h
 have ht := hp.t
 generalize drawR (ordT p bf) (metT bf) (byeT bf) = q at *
 obtain ⟨d, y, e⟩ := q
 simp only at *
 have hl := hk.len
 rw [ordT_length] at hl
 have hl6 : d.length ≤ 6 := by omega
 refine ⟨⟨fun x hx => ?_, ?_, ?_⟩, hl6⟩
 ·obtain ⟨h1, h2⟩ := mgs_mem hx
  obtain ⟨h3, h4⟩ := hk.mem h1
  exact ⟨(ordT_mem p bf _).1 h3, (ordT_mem p bf _).1 h4, h2⟩
 ·simp only
  rcases (by omega : (ordT p bf).length % 2 = 0 ∨ (ordT p bf).length % 2 = 1) with h2 | h2
  ·have := hk.ev h2; omega
  ·have := (ordT_mem p bf _).1 (hk.od h2).1; omega
 ·have h1 := nodup_len (mgs_nodup l n d) (fun x hx => mgs_keys hx)
  rw [List.length_map] at h1
  simp only
  omega
theorem rchd_er {p : Pl} {l : List Em} (hp : PlOK p) {j : Nat} {r : Er} (h : (rchd p l)[j]? = some r) : ErOK p r ∧ r.draw.length ≤ 6 := by
 obtain ⟨h1, _, h3⟩ := rchd_get h
 have := draw_er (l := l) (n := (j : Int)) (bf := (rchd p l).take j) hp (by rw [h3])
 rw [h3] at this
 simp only at this
 rw [← h1] at this
 exact this
theorem rchd_erM {p : Pl} {l : List Em} (hp : PlOK p) : ∀ r ∈ rchd p l, ErOK p r := fun r hr => by
 obtain ⟨j, hj⟩ := List.mem_iff_getElem?.1 hr
 exact (rchd_er hp hj).1
theorem metT_le {p : Pl} {l : List Em} (hp : PlOK p) : ∀ j, j ≤ (rchd p l).length → (metT ((rchd p l).take j)).length ≤ 6 * j ∧ (byeT ((rchd p l).take j)).length ≤ j
 | 0, _ => by simp [metT, byeT]
 | j + 1, h => by
  have ih := metT_le (l := l) hp j (by omega)
  have hg : (rchd p l)[j]? = some ((rchd p l)[j]'(by omega)) := List.getElem?_eq_getElem _
  have := (rchd_er hp hg).2
  rw [List.take_succ_eq_append_getElem (by omega), metT_snoc, byeT_snoc]
  simp only [List.length_append]
  split <;> simp <;> omega
def reachV (p : Pl) (l : List Em) : IV := .func (.func 83) [] [.fptr 4 [[.int .i64 p.t, .int .i64 p.r, .int .i64 p.b, .fz 1 (ints p.s)]] 0 0, .fptr 1 [[.fz 4 (ems l)]] 0 0]
theorem reached_fun (p : Pl) (l : List Em) : ON 63 [p.v, .fz 4 (ems l)] (fun v => v = reachV p l) := by
 refine IFun.of_bodyZ false 5 [] Tryz.func63 rfl Tryz.call63 rfl fun R hR => ?_
 simp only [Pl.v]
 simp [go_sem]
 exact hR _ _ _ rfl (by simp [go_sem, reachV])
theorem reach_next {p : Pl} {l : List Em} {j : Nat} (hj : j ≤ (rchd p l).length) (hi : ∀ i, i < j → ((rchd p l).getD i Er0).over = true) : reach p l (p.r.toNat - j) j ((rchd p l).take j) = (rchd p l).drop j := by
 induction j with
 | zero => simp [rchd]
 | succ j ih =>
  have ih := ih (by omega) fun i hi' => hi i (by omega)
  have hlt : j < (rchd p l).length := by omega
  have hle := reach_len p l p.r.toNat 0 []
  have hle : (rchd p l).length ≤ p.r.toNat := hle
  rw [List.drop_eq_getElem_cons hlt, show p.r.toNat - j = (p.r.toNat - (j + 1)) + 1 by omega] at ih
  unfold reach at ih
  simp only at ih
  have ho := hi j (by omega)
  have hg : (rchd p l).getD j Er0 = (rchd p l)[j] := by simp [hlt]
  rw [hg] at ho
  split at ih
  ·cases ih
  ·split at ih
   ·simp only [List.cons.injEq] at ih
    rw [ih.1] at ih
    rw [List.take_succ_eq_append_getElem hlt]
    exact ih.2
   ·rename_i hno
    simp only [List.cons.injEq] at ih
    rw [ih.1] at hno
    exact absurd ho hno
def rchH (p : Pl) (l : List Em) (j : Nat) : Heap := [.rows 3 (rds ((rchd p l).take j)), .rows 2 (prs (metT ((rchd p l).take j))), .rows 1 (ints (byeT ((rchd p l).take j)))]
theorem reached1 (p : Pl) (l : List Em) (hp : PlOK p) (hpr : 1 ≤ p.r ∧ p.r ≤ 15) (hl : l.length ≤ 2 ^ 32) (lY : Nat) (O1 O2 O3 : Nat → IObj) (O0 Y : IObj) (hO : ∀ n j, 5 ≤ n → ObBl n O0 ∧ ObBl n (O1 j) ∧ ObBl n (O2 j) ∧ ObBl n (O3 j) ∧ ObBl n Y)
  (hh : O0.isHole = false ∧ Y.isHole = false ∧ ∀ j, (O1 j).isHole = false ∧ (O2 j).isHole = false ∧ (O3 j).isHole = false)
  (hY : ∀ (j : Nat) (r : Er) (τ : Heap), (rchd p l)[j]? = some r → HeBl (τ.length + 5) τ → YCalls Tryz.prog glT lY [.int .i64 (j : Int), r.v] (O0 :: O1 j :: O2 j :: O3 j :: Y :: τ) (fun v σ' => v = .bool true ∧ σ' = O0 :: O1 (j + 1) :: O2 (j + 1) :: O3 (j + 1) :: Y :: τ)) :
  ICalls Tryz.prog glT 83 [.func (.yield lY) [] [], .fptr 4 [[.int .i64 p.t, .int .i64 p.r, .int .i64 p.b, .fz 1 (ints p.s)]] 0 0, .fptr 1 [[.fz 4 (ems l)]] 0 0] [O0, O1 0, O2 0, O3 0, Y]
   fun _ σ' => σ' = [O0, O1 (rchd p l).length, O2 (rchd p l).length, O3 (rchd p l).length, Y] := by
 refine ICalls.forget (ICalls.of_bodyV false 15 [16, 17, 18, 22, 23, 24, 25, 43, 60, 69] Tryz.func83 rfl Tryz.call83 rfl fun R hR => ?_)
 have hend : ∀ (σ : Heap), fgt [O0, O1 (rchd p l).length, O2 (rchd p l).length, O3 (rchd p l).length, Y] σ → R (.tup []) σ := fun σ h => hR _ σ ⟨[O0, O1 (rchd p l).length, O2 (rchd p l).length, O3 (rchd p l).length, Y], by
  obtain ⟨a0, a1, a2, a3, a4⟩ := hO 5 (rchd p l).length (by omega)
  refine ⟨h, ?_⟩
  simp [go_sem, a0, a1, a2, a3, a4], rfl⟩
 clear hR
 refine IWp.seqI ?_
 simp [go_sem]
 refine IWp.seqI ?_
 simp [go_sem]
 refine IWp.seqI ?_
 simp [go_sem]
 refine IWp.ownNilS 3 4 (by decide) (by simp [go_sem]) ?_
 refine IWp.ownNilS 2 5 (by decide) (by simp [go_sem]) ?_
 refine IWp.ownNilS 1 6 (by decide) (by simp [go_sem]) ?_
 refine IWp.seqI ?_
 simp [go_sem]
 refine IWp.now ?_
 simp [go_sem]
 refine IWp.loopI (α := Nat) (fun j => (⟨false, 75, 15, [16, 17, 18, 22, 23, 24, 25, 43, 60, 69], glT, [(0, .func (.yield lY) [] []), (1, .fptr 4 [[.int .i64 p.t, .int .i64 p.r, .int .i64 p.b, .fz 1 (ints p.s)]] 0 0), (2, .fptr 1 [[.fz 4 (ems l)]] 0 0), (4, .sl 5 j 0 j none), (5, .sl 6 (metT ((rchd p l).take j)).length 0 (metT ((rchd p l).take j)).length none), (6, .sl 7 (byeT ((rchd p l).take j)).length 0 (byeT ((rchd p l).take j)).length none), (16, .int .i64 p.r), (17, .int .i64 (j : Int))], []⟩, [O0, O1 j, O2 j, O3 j, Y] ++ rchH p l j))
  (fun j => j ≤ (rchd p l).length ∧ ∀ i, i < j → ((rchd p l).getD i Er0).over = true) (fun j => (rchd p l).length - j) 0 ⟨by omega, fun i hi => by omega⟩ (by
   obtain ⟨a0, a1, a2, a3, a4⟩ := hO 8 0 (by omega)
   simp [go_sem, rchH, metT, byeT, a0, a1, a2, a3, a4]) ?_
 rintro j ⟨hj, hov⟩
 have hnx := reach_next hj hov
 have hle : (rchd p l).length ≤ p.r.toNat := reach_len p l _ _ _
 obtain ⟨hm1, hm2⟩ := metT_le (l := l) hp j hj
 unfold rchH
 refine IWp.seqI ?_
 by_cases h : (j : Int) < p.r
 ·simp [go_sem, h]
  refine IWp.seqI ?_
  simp [go_sem]
  refine IWp.seq ?_
  refine IWp.block ?_
  refine IWp.seqI ?_
  simp [go_sem]
  refine IWp.seqI ?_
  simp [go_sem]
  have hbl : ((rchd p l).take j).length = j := by simp; omega
  have hbe : ∀ r ∈ (rchd p l).take j, ErOK p r := fun r hr => rchd_erM hp r (List.mem_of_mem_take hr)
  have ct := table_fun p ((rchd p l).take j) hp (by omega) hbe
  have htl : (tabL9 p ((rchd p l).take j)).length = p.t.toNat := by simp [tabL9]
  have htt : (tabL9 p ((rchd p l).take j)).map (·.team) = ordT p ((rchd p l).take j) := rfl
  have hpt := hp.t
  refine IWp.ownNilS 1 8 (by decide) (by simp [go_sem]) ?_
  refine IWp.seqT (α := Unit) (fun _ => (⟨false, 75, 15, [16, 17, 18, 22, 23, 24, 25, 43, 60, 69], glT, [(0, .func (.yield lY) [] []), (1, .fptr 4 [[.int .i64 p.t, .int .i64 p.r, .int .i64 p.b, .fz 1 (ints p.s)]] 0 0), (2, .fptr 1 [[.fz 4 (ems l)]] 0 0), (4, .sl 5 j 0 j none), (5, .sl 6 (metT ((rchd p l).take j)).length 0 (metT ((rchd p l).take j)).length none), (6, .sl 7 (byeT ((rchd p l).take j)).length 0 (byeT ((rchd p l).take j)).length none), (7, .int .i64 (j : Int)), (8, .sl 8 p.t.toNat 0 p.t.toNat none), (16, .int .i64 p.r), (17, .int .i64 (j : Int))], []⟩,
   [O0, O1 j, O2 j, O3 j, Y, .rows 3 (rds ((rchd p l).take j)), .rows 2 (prs (metT ((rchd p l).take j))), .rows 1 (ints (byeT ((rchd p l).take j))), .rows 1 (ints (ordT p ((rchd p l).take j)))])) (fun _ => True) ?_ ?_
  ·generalize (rchd p l).take j = bf at *
   obtain ⟨a0, a1, a2, a3, a4⟩ := hO 9 j (by omega)
   simp only [Pl.v] at ct
   simp [go_sem]
   refine ct.callF (by simp [go_sem, hbl]) ?_
   rintro _ rfl
   simp [go_sem]
   rw [← htt]
   clear ct hbe hnx
   generalize tabL9 p bf = TB at *
   obtain ⟨n, hn⟩ : ∃ n, p.t.toNat = n := ⟨_, rfl⟩
   rw [hn] at htl ⊢
   have hn12 : n ≤ 12 := by omega
   refine IWp.loopT (α := Nat) (fun k => (⟨false, 75, 15, [16, 17, 18, 22, 23, 24, 25, 43, 60, 69], glT, [(0, .func (.yield lY) [] []), (1, .fptr 4 [[.int .i64 p.t, .int .i64 p.r, .int .i64 p.b, .fz 1 (ints p.s)]] 0 0), (2, .fptr 1 [[.fz 4 (ems l)]] 0 0), (4, .sl 5 j 0 j none), (5, .sl 6 (metT bf).length 0 (metT bf).length none), (6, .sl 7 (byeT bf).length 0 (byeT bf).length none), (7, .int .i64 (j : Int)), (8, .sl 8 k 0 k none), (16, .int .i64 p.r), (17, .int .i64 (j : Int)), (22, .fz 6 (lns TB)), (23, .int .i64 (n : Int)), (24, .int .i64 (k : Int))], []⟩,
    [O0, O1 j, O2 j, O3 j, Y, .rows 3 (rds bf), .rows 2 (prs (metT bf)), .rows 1 (ints (byeT bf)), .rows 1 (ints ((TB.take k).map (·.team)))]))
    (fun k => k ≤ n) (fun k => n - k) 0 (by omega) (by simp [go_sem, a0, a1, a2, a3, a4, htl]) ?_
   intro k hk
   by_cases hkn : k < n
   ·have w1 : IntKind.i64.wrap ((k : Int) + 1) = k + 1 := wrap64 (by omega) (by omega)
    have hkl : k < TB.length := by omega
    have hsn : ints ((TB.take (k + 1)).map (·.team)) = ints ((TB.take k).map (·.team)) ++ [[.int .i64 TB[k].team]] := by
     rw [List.take_succ_eq_append_getElem hkl, List.map_append, List.map_cons, List.map_nil, ints_snoc]
    have htk : (TB.take k).length = k := by simp; omega
    obtain ⟨x, hx⟩ : ∃ x, TB[k] = x := ⟨_, rfl⟩
    rw [hx] at hsn
    obtain ⟨x1, x2, x3, x4, x5, x6⟩ := x
    rw [List.map_take, List.map_take] at hsn
    simp [go_sem, hkn, hkl, hx, w1, htk, htl]
    exact ⟨⟨by omega, by omega⟩, k + 1, ⟨⟨rfl, by omega⟩, hsn, a0, a1, a2, a3, a4⟩, by omega, by omega⟩
   ·obtain rfl : k = n := by omega
    rw [show TB.take k = TB from List.take_of_length_le (by omega)]
    simp [go_sem]
    exact ⟨a0, a1, a2, a3, a4⟩
  rintro _ _
  have hol := ordT_length p ((rchd p l).take j)
  have cd := Draw_fun (ordT p ((rchd p l).take j)) (metT ((rchd p l).take j)) (byeT ((rchd p l).take j)) (by omega) (by omega) (by omega)
  unfold drawV at cd
  rw [show p.r.toNat - j = (p.r.toNat - j - 1) + 1 by omega] at hnx
  unfold reach at hnx
  simp only at hnx
  have her := draw_er (l := l) (n := (j : Int)) (bf := (rchd p l).take j) hp
  generalize hq : drawR (ordT p ((rchd p l).take j)) (metT ((rchd p l).take j)) (byeT ((rchd p l).take j)) = q at *
  obtain ⟨d, y, e⟩ := q
  simp only at cd hnx her
  have hsucc : ∀ r, (rchd p l)[j]? = some r → (rchd p l).take (j + 1) = (rchd p l).take j ++ [r] := fun r hr => by
   obtain ⟨h1, h2⟩ := List.getElem?_eq_some_iff.1 hr
   rw [List.take_succ_eq_append_getElem h1, h2]
  generalize (rchd p l).take j = bf at *
  obtain ⟨a0, a1, a2, a3, a4⟩ := hO 9 j (by omega)
  refine IWp.seqI ?_
  simp [go_sem]
  refine cd.callF (by simp [go_sem, hol]) ?_
  rintro _ rfl
  simp [go_sem]
  refine IWp.seqI ?_
  simp [go_sem]
  by_cases he : e = 0
  case neg =>
   rw [if_pos he] at hnx
   have hjl : j = (rchd p l).length := by
    have := congrArg List.length hnx
    simp at this; omega
   simp [go_sem, he]
   rw [hjl]
   exact hend _ (by simp [go_sem])
  subst he
  rw [if_neg (by simp)] at hnx
  obtain ⟨her1, her2⟩ := her rfl
  have cm := margins_fun l j d hl (by omega)
  simp [go_sem]
  refine IWp.seqI ?_
  simp [go_sem]
  refine cm.callF (by simp [go_sem]) ?_
  rintro _ rfl
  simp [go_sem]
  have hfst : ∃ r, (rchd p l)[j]? = some r ∧ r = ⟨d, y, mgs l j d⟩ := by
   split at hnx
   ·exact ⟨_, by have := congrArg List.head? hnx; rw [List.head?_drop] at this; exact this.symm, rfl⟩
   ·exact ⟨_, by have := congrArg List.head? hnx; rw [List.head?_drop] at this; exact this.symm, rfl⟩
  obtain ⟨r, hr1, rfl⟩ := hfst
  have cy := hY j _ [.rows 3 (rds bf), .rows 2 (prs (metT bf)), .rows 1 (ints (byeT bf)), .rows 1 (ints (ordT p bf)), .rows 3 [[.fz 2 (prs d), .int .i64 y, .fm (enP (mgs l j d))]]] hr1 (by simp [go_sem])
  have co := over_fun ⟨d, y, mgs l j d⟩ (by simp only; omega)
  simp only [Er.v] at cy co
  refine IWp.seq ?_
  refine IWp.seqI ?_
  simp [go_sem]
  refine cy.mono ?_
  rintro _ _ ⟨rfl, rfl⟩
  simp [go_sem]
  refine co.callF (by simp [go_sem]) ?_
  rintro _ rfl
  have hjl : j < (rchd p l).length := (List.getElem?_eq_some_iff.1 hr1).1
  cases ho : (Er.mk d y (mgs l j d)).over with
  | false =>
   rw [if_neg (by rw [ho]; simp)] at hnx
   have hjl : j + 1 = (rchd p l).length := by
    have := congrArg List.length hnx
    simp at this; omega
   simp [go_sem]
   refine IWp.now ?_
   simp [go_sem]
   rw [hjl]
   exact hend _ (by simp [go_sem])
  | true =>
  have hsn := hsucc _ hr1
  have e1 : rds ((rchd p l).take (j + 1)) = rds bf ++ [[.fz 2 (prs d), .int .i64 y, .fm (enP (mgs l j d))]] := by rw [hsn, rds_snoc]
  have e2 : prs (metT ((rchd p l).take (j + 1))) = prs (metT bf) ++ prs d := by rw [hsn, metT_snoc, prs_append]
  have e2l : (metT ((rchd p l).take (j + 1))).length = (metT bf).length + d.length := by rw [hsn, metT_snoc, List.length_append]
  have e3 : byeT ((rchd p l).take (j + 1)) = byeT bf ++ if 0 < y then [y] else [] := by rw [hsn, byeT_snoc]
  have v1 : IntKind.i64.wrap ((j : Int) + 1) = ((j + 1 : Nat) : Int) := by rw [wrap64 (by omega) (by omega)]; omega
  have hov' : ∀ i, i < j + 1 → ((rchd p l).getD i Er0).over = true := fun i hi => by
   by_cases e : i = j
   ·subst e; rw [List.getD_eq_getElem?_getD, hr1]; exact ho
   ·exact hov i (by omega)
  simp [go_sem]
  refine IWp.now ?_
  simp [go_sem]
  refine IWp.seqI ?_
  simp [go_sem, hbl]
  refine ⟨by omega, ?_⟩
  refine IWp.seqI ?_
  simp [go_sem]
  refine ⟨⟨by omega, prs_one⟩, ?_⟩
  refine IWp.seqI ?_
  simp [go_sem]
  obtain ⟨b0, b1, b2, b3, b4⟩ := hO 8 (j + 1) (by omega)
  by_cases hy : 0 < y
  ·rw [if_pos hy] at e3
   have e3' : ints (byeT ((rchd p l).take (j + 1))) = ints (byeT bf) ++ [[.int .i64 y]] := by rw [e3, ints_snoc]
   have e3l : (byeT ((rchd p l).take (j + 1))).length = (byeT bf).length + 1 := by rw [e3]; simp
   refine IWp.now ?_
   simp [go_sem, hy]
   refine ⟨by omega, ?_⟩
   refine IWp.now ?_
   simp [go_sem, v1]
   refine ⟨j + 1, ⟨⟨rfl, e2l.symm, e3l.symm, by omega⟩, ⟨.inr rfl, .inr rfl, .inr rfl, e1, e2, e3'⟩, b0, b1, b2, b3, b4⟩, ⟨by omega, fun i hi => ?_⟩, by omega⟩
   simpa using hov' i hi
  ·rw [if_neg hy, List.append_nil] at e3
   refine IWp.now ?_
   simp [go_sem, hy]
   refine IWp.now ?_
   simp [go_sem, v1]
   refine ⟨j + 1, ⟨⟨rfl, e2l.symm, by rw [e3], by omega⟩, ⟨.inr rfl, .inr rfl, .inr rfl, e1, e2, by rw [e3]⟩, b0, b1, b2, b3, b4⟩, ⟨by omega, fun i hi => ?_⟩, by omega⟩
   simpa using hov' i hi
 ·have hd : (rchd p l).drop j = [] := by
   rw [← hnx, show p.r.toNat - j = 0 by omega]; rfl
  have hjl : j = (rchd p l).length := by
   have := congrArg List.length hd
   simp at this; omega
  simp [go_sem, h]
  refine IWp.now ?_
  simp [go_sem]
  rw [hjl]
  exact hend _ (by simp [go_sem])
end Go.Idl
namespace Go.Idl
open Go.Proofs
def ovN (L : List Er) (j : Nat) : Nat := (L.take j).countP (·.over)
theorem ovN_succ {L : List Er} {j : Nat} {r : Er} (h : L[j]? = some r) : ovN L (j + 1) = ovN L j + if r.over = true then 1 else 0 := by
 obtain ⟨h1, h2⟩ := List.getElem?_eq_some_iff.1 h
 unfold ovN
 rw [List.take_succ_eq_append_getElem h1, List.countP_append, h2]
 simp [List.countP_cons]
theorem ovN_le {L : List Er} {j : Nat} : ovN L j ≤ j := by
 unfold ovN
 exact Nat.le_trans List.countP_le_length (by simp; omega)
theorem ovN_all {L : List Er} : ovN L L.length = L.countP (·.over) := by simp [ovN]
def rnO1 (j : Nat) : IObj := .rows 1 [[.sl 3 j 0 j none]]
def rnO2 (L : List Er) (j : Nat) : IObj := .rows 1 [[.int .i64 (ovN L j : Int)]]
def rnO3 (L : List Er) (j : Nat) : IObj := .rows 3 (rds (L.take j))
theorem rounds_fun (p : Pl) (l : List Em) (hp : PlOK p) (hpr : 1 ≤ p.r ∧ p.r ≤ 15) (hl : l.length ≤ 2 ^ 32) : ON 41 [p.v, .fz 4 (ems l)] (fun v => v = .tup [.fz 3 (rds (rchd p l)), .fz 3 (rds (ovrd (rchd p l)))]) := by
 refine IFun.of_bodyZ false 10 [12, 13, 14, 20] Tryz.func41 rfl Tryz.call41 rfl fun R hR => ?_
 have hle : (rchd p l).length ≤ p.r.toNat := reach_len p l _ _ _
 simp only [Pl.v]
 simp [go_sem]
 refine (reached_fun p l).callM (by simp [go_sem, Pl.v]) ?_
 rintro _ rfl
 simp [go_sem]
 refine IWp.ownNil 3 [(0, .agg [.int .i64 p.t, .int .i64 p.r, .int .i64 p.b, .fz 1 (ints p.s)]), (1, .fz 4 (ems l)), (2, .ptr 0 1 0 0), (4, .nils), (5, .nils), (6, .ptr 1 1 0 0), (7, .ptr 2 1 0 0), (12, reachV p l)] [.rows 4 [[.int .i64 p.t, .int .i64 p.r, .int .i64 p.b, .fz 1 (ints p.s)]], .rows 1 [[.sl 3 0 0 0 none]], .rows 1 [[.int .i64 0]]] (by decide) (by simp [go_sem]) (by simp [go_sem]) ?_
 refine IWp.rangeFunc (g := 83) (cap := [.fptr 4 [[.int .i64 p.t, .int .i64 p.r, .int .i64 p.b, .fz 1 (ints p.s)]] 0 0, .fptr 1 [[.fz 4 (ems l)]] 0 0]) (by simp [go_sem, reachV]) (by simp [go_sem, reachV]) fun lY r h1 h2 h3 h4 h5 => ?_
 obtain ⟨e, he⟩ : ∃ e : Env, e = ⟨false, 27, 10, [12, 13, 14, 20], glT, [(0, .agg [.int .i64 p.t, .int .i64 p.r, .int .i64 p.b, .fz 1 (ints p.s)]), (1, .fz 4 (ems l)), (2, .ptr 0 1 0 0), (4, .nils), (5, .nils), (6, .ptr 1 1 0 0), (7, .ptr 2 1 0 0), (12, reachV p l)], []⟩ := ⟨_, rfl⟩
 rw [← he, show e.gl = glT by rw [he]]
 have hbe : ∀ n, 5 ≤ n → ObBl n (.yrec lY r e) := fun n hn => by
  subst he
  refine ⟨?_, by simp, of_eq_true glT_bl⟩
  simp [go_sem, reachV]
  omega
 have key := reached1 p l hp hpr hl lY rnO1 (rnO2 (rchd p l)) (rnO3 (rchd p l)) (.rows 4 [[.int .i64 p.t, .int .i64 p.r, .int .i64 p.b, .fz 1 (ints p.s)]]) (.yrec lY r e)
  (fun n j hn => ⟨by simp [go_sem], by simp [go_sem, rnO1]; omega, by simp [go_sem, rnO2], by simp [go_sem, rnO3], hbe n hn⟩) ⟨rfl, rfl, fun j => ⟨rfl, rfl, rfl⟩⟩ (fun j x τ hx hτ => ?_)
 ·have hz : [IObj.rows 4 [[.int .i64 p.t, .int .i64 p.r, .int .i64 p.b, .fz 1 (ints p.s)]], .rows 1 [[.sl 3 0 0 0 none]], .rows 1 [[.int .i64 0]]] ++ [.rows 3 []] ++ [.yrec lY r e] = [.rows 4 [[.int .i64 p.t, .int .i64 p.r, .int .i64 p.b, .fz 1 (ints p.s)]], rnO1 0, rnO2 (rchd p l) 0, rnO3 (rchd p l) 0, .yrec lY r e] := by
   simp [rnO1, rnO2, rnO3, ovN, rds_nil]
  rw [hz]
  refine key.mono ?_
  rintro _ _ rfl
  have hov : ovN (rchd p l) (rchd p l).length ≤ (rchd p l).length := ovN_le
  simp [go_sem, he, h2, h1, rnO1, rnO2, rnO3]
  refine ⟨hov, by decide +kernel, ?_⟩
  refine hR _ _ _ rfl ?_
  have hovr : cutR 0 (ovN (rchd p l) (rchd p l).length) (rds (rchd p l)) = rds (ovrd (rchd p l)) := by
   rw [ovN_all]; simp [cutR, ovrd, rds_take]
  simp [go_sem, hov, hovr]
 ·refine YCalls.forget ?_
  refine YCalls.roundE 4 h1 h2 h3 h4 h5 rfl rfl ?_
  rw [he]
  have hxr := rchd_er hp hx
  have co := over_fun x (by have := hxr.2; omega)
  have hsn : rds ((rchd p l).take (j + 1)) = rds ((rchd p l).take j) ++ [[.fz 2 (prs x.draw), .int .i64 x.bye, .fm (enP x.mg)]] := by
   obtain ⟨k1, k2⟩ := List.getElem?_eq_some_iff.1 hx
   rw [List.take_succ_eq_append_getElem k1, k2, rds_snoc]
  have hjl : j < (rchd p l).length := (List.getElem?_eq_some_iff.1 hx).1
  have hjt : ((rchd p l).take j).length = j := by simp; omega
  have hov := ovN_succ hx
  have hovl : ovN (rchd p l) j ≤ j := ovN_le
  unfold rnO1 rnO2 rnO3
  rw [hsn, hov]
  generalize ovN (rchd p l) j = N at *
  obtain ⟨d, y, M⟩ := x
  simp only [Er.v] at *
  simp [go_sem, hput_at0, hput_app0, hput_app, app_get0, app_get]
  refine ⟨⟨by omega, by omega⟩, ?_⟩
  refine co.callF (by simp [go_sem]) ?_
  rintro _ rfl
  cases hxo : (Er.mk d y M).over with
  | true =>
   have v1 : IntKind.i64.wrap ((N : Int) + 1) = ((N + 1 : Nat) : Int) := by rw [wrap64 (by omega) (by omega)]; omega
   simp [go_sem, hput_at0, hput_app0, hput_app, app_get0, app_get, v1]
   refine ⟨_, ⟨?_, ?_, ?_, ?_⟩, rfl, rfl⟩
   ·simp [go_sem, fgt_append, hxo]
   ·simp
   ·simp [go_sem]
   ·rw [he] at hbe
    have := hbe (τ.length + 5) (by omega)
    simp [go_sem, hτ, this]
  | false =>
   simp [go_sem, hput_at0, hput_app0, hput_app, app_get0, app_get]
   refine ⟨_, ⟨?_, ?_, ?_, ?_⟩, rfl, rfl⟩
   ·simp [go_sem, fgt_append, hxo]
   ·simp
   ·simp [go_sem]
   ·rw [he] at hbe
    have := hbe (τ.length + 5) (by omega)
    simp [go_sem, hτ, this]
end Go.Idl
