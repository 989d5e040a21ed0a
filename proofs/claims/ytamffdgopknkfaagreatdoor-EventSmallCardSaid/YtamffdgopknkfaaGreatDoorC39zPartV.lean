import Derived.Test.YtamffdgopknkfaaGreatDoorC39zPartU
set_option linter.all false
set_option maxHeartbeats 16000000
set_option maxRecDepth 40000
namespace Go.Idl
open Go.Proofs
section
variable {SR LR : List (List IV)} {ls ll : Nat} {cs cl : Option Nat}
def plOw (p : Pl) (SR : List (List IV)) (ls : Nat) (cs : Option Nat) : List IV := [.int .i64 p.t, .int .i64 p.r, .int .i64 p.b, .sl 0 SR.length 0 ls cs]
theorem reachedG_calls (p : Pl) (hS3 : ∀ n, BlR n SR) (hL3 : ∀ n, BlR n LR) : ICalls Tryz.prog glT 63 [.agg (plOw p SR ls cs), .sl 1 LR.length 0 ll cl] [.rows 1 SR, .rows 4 LR]
  (fun v σ => v = .func (.func 83) [] [.ptr 2 1 0 0, .ptr 3 1 0 0] ∧ σ = [.rows 1 SR, .rows 4 LR, .rows 4 [plOw p SR ls cs], .rows 1 [[.sl 1 LR.length 0 ll cl]]]) := by
 refine ICalls.of_bodyE false 5 [] Tryz.func63 rfl Tryz.call63 rfl fun R hR => ?_
 unfold plOw at *
 simp [go_sem]
 exact hR _ _ ⟨rfl, rfl⟩
theorem roundsG_calls (p : Pl) (l : List Em) (hS1 : cutR 0 ls SR = ints p.s) (hS2 : ls ≤ SR.length) (hS4 : ScR SR) (hL1 : cutR 0 ll LR = ems l) (hL2 : ll ≤ LR.length) (hL4 : ScR LR) (hp : PlOK p) (hpr : 1 ≤ p.r ∧ p.r ≤ 15) (hl : l.length ≤ 2 ^ 32) :
  ICalls Tryz.prog glT 41 [.agg (plOw p SR ls cs), .sl 1 LR.length 0 ll cl] [.rows 1 SR, .rows 4 LR] (fun v σ => v = .tup [.fz 3 (rds (rchd p l)), .fz 3 (rds (ovrd (rchd p l)))] ∧ σ = [.rows 1 SR, .rows 4 LR]) := by
 refine ICalls.of_bodyI false 10 [12, 13, 14, 20] Tryz.func41 rfl Tryz.call41 rfl fun R hR => ?_
 have hle : (rchd p l).length ≤ p.r.toNat := reach_len p l _ _ _
 have hS3 : ∀ n, BlR n SR := fun n => ScR.bl hS4
 have hL3 : ∀ n, BlR n LR := fun n => ScR.bl hL4
 have hS5 : ∀ π, renLL π SR = SR := fun π => ClR.ren (ScR.cl hS4)
 have hL5 : ∀ π, renLL π LR = LR := fun π => ClR.ren (ScR.cl hL4)
 have hre := reachedG_calls (ls := ls) (ll := ll) (cs := cs) (cl := cl) p hS3 hL3
 unfold plOw at *
 simp [go_sem]
 refine hre.at [0, 1] (by simp [go_sem, hS3, hL3, hS5, hL5]) ?_
 rintro _ _ ⟨rfl, rfl⟩
 simp [go_sem, hS3, hL3, hS5, hL5]
 refine IWp.ownNil 3 [(0, .agg [.int .i64 p.t, .int .i64 p.r, .int .i64 p.b, .sl 0 SR.length 0 ls cs]), (1, .sl 1 LR.length 0 ll cl), (2, .ptr 2 1 0 0), (4, .nils), (5, .nils), (6, .ptr 3 1 0 0), (7, .ptr 4 1 0 0), (12, .func (.func 83) [] [.ptr 5 1 0 0, .ptr 6 1 0 0])]
  [.rows 1 SR, .rows 4 LR, .rows 4 [[.int .i64 p.t, .int .i64 p.r, .int .i64 p.b, .sl 0 SR.length 0 ls cs]], .rows 1 [[.sl 7 0 0 0 none]], .rows 1 [[.int .i64 0]], .rows 4 [[.int .i64 p.t, .int .i64 p.r, .int .i64 p.b, .sl 0 SR.length 0 ls cs]], .rows 1 [[.sl 1 LR.length 0 ll cl]]] (by decide) (by simp [go_sem]) (by simp [go_sem]) ?_
 refine IWp.rangeFunc (g := 83) (cap := [.ptr 5 1 0 0, .ptr 6 1 0 0]) (by simp [go_sem]) (by simp [go_sem]) fun lY r h1 h2 h3 h4 h5 => ?_
 obtain ⟨e, he⟩ : ∃ e : Env, e = ⟨false, 27, 10, [12, 13, 14, 20], glT, [(0, .agg [.int .i64 p.t, .int .i64 p.r, .int .i64 p.b, .sl 0 SR.length 0 ls cs]), (1, .sl 1 LR.length 0 ll cl), (2, .ptr 2 1 0 0), (4, .nils), (5, .nils), (6, .ptr 3 1 0 0), (7, .ptr 4 1 0 0), (12, .func (.func 83) [] [.ptr 5 1 0 0, .ptr 6 1 0 0])], []⟩ := ⟨_, rfl⟩
 rw [← he, show e.gl = glT by rw [he]]
 have hbe : ∀ n, 9 ≤ n → ObBl n (.yrec lY r e) := fun n hn => by
  subst he
  refine ⟨?_, by simp, of_eq_true glT_bl⟩
  simp [go_sem]
  omega
 have key := reachedG1 p l SR LR ls ll cs cl hS1 hS2 hS3 hL1 hL2 hL3 hp hpr hl lY (fun j => .rows 1 [[.sl 7 j 0 j none]]) (rnO2 (rchd p l)) (rnO3 (rchd p l)) (.rows 4 [[.int .i64 p.t, .int .i64 p.r, .int .i64 p.b, .sl 0 SR.length 0 ls cs]]) (.yrec lY r e)
  (fun n j hn => ⟨by simp [go_sem]; omega, by simp [go_sem]; omega, by simp [go_sem, rnO2], by simp [go_sem, rnO3], hbe n hn⟩) ⟨rfl, rfl, fun j => ⟨rfl, rfl, rfl⟩⟩ (fun j x τ hx hτ => ?_)
 ·have hz : [IObj.rows 1 SR, .rows 4 LR, .rows 4 [[.int .i64 p.t, .int .i64 p.r, .int .i64 p.b, .sl 0 SR.length 0 ls cs]], .rows 1 [[.sl 7 0 0 0 none]], .rows 1 [[.int .i64 0]], .rows 4 [[.int .i64 p.t, .int .i64 p.r, .int .i64 p.b, .sl 0 SR.length 0 ls cs]], .rows 1 [[.sl 1 LR.length 0 ll cl]]] ++ [.rows 3 []] ++ [.yrec lY r e] = [.rows 1 SR, .rows 4 LR, .rows 4 [[.int .i64 p.t, .int .i64 p.r, .int .i64 p.b, .sl 0 SR.length 0 ls cs]], .rows 1 [[.sl 7 0 0 0 none]], rnO2 (rchd p l) 0, .rows 4 [[.int .i64 p.t, .int .i64 p.r, .int .i64 p.b, .sl 0 SR.length 0 ls cs]], .rows 1 [[.sl 1 LR.length 0 ll cl]], rnO3 (rchd p l) 0, .yrec lY r e] := by
   simp [rnO2, rnO3, ovN, rds_nil]
  rw [hz]
  refine key.mono ?_
  rintro _ _ rfl
  have hov : ovN (rchd p l) (rchd p l).length ≤ (rchd p l).length := ovN_le
  simp [go_sem, he, h2, h1, rnO2, rnO3]
  refine ⟨hov, by decide +kernel, ?_⟩
  refine hR _ _ _ _ ⟨rfl, rfl⟩ ?_
  have hovr : cutR 0 (ovN (rchd p l) (rchd p l).length) (rds (rchd p l)) = rds (ovrd (rchd p l)) := by
   rw [ovN_all]; simp [cutR, ovrd, rds_take]
  simp [go_sem, hov, hovr, hS3, hL3, mask]
 ·refine YCalls.forget ?_
  refine YCalls.roundE 8 h1 h2 h3 h4 h5 rfl rfl ?_
  rw [he]
  have hxr := rchd_er hp hx
  have co := over_fun x (by have := hxr.2; omega)
  have hsn : rds ((rchd p l).take (j + 1)) = rds ((rchd p l).take j) ++ [[.fz 2 (prs x.draw), .int .i64 x.bye, .fm (enP x.mg)]] := by
   obtain ⟨k1, k2⟩ := List.getElem?_eq_some_iff.1 hx
   rw [List.take_succ_eq_append_getElem k1, k2, rds_snoc]
  have hjl : j < (rchd p l).length := (List.getElem?_eq_some_iff.1 hx).1
  have hjt : ((rchd p l).take j).length = j := by simp; omega
  have hov := ovN_succ hx
  have hovl : ovN (rchd p l) j ≤ j := ovN_le
  unfold rnO2 rnO3
  rw [hsn, hov]
  generalize ovN (rchd p l) j = N at *
  obtain ⟨d, y, M⟩ := x
  simp only [Er.v] at *
  simp [go_sem, hput_at0, hput_app0, hput_app, app_get0, app_get]
  refine ⟨⟨by omega, by omega⟩, ?_⟩
  refine co.callF (by simp [go_sem]) ?_
  rintro _ rfl
  cases hxo : (Er.mk d y M).over with
  | true =>
   have v1 : IntKind.i64.wrap ((N : Int) + 1) = ((N + 1 : Nat) : Int) := by rw [wrap64 (by omega) (by omega)]; omega
   simp [go_sem, hput_at0, hput_app0, hput_app, app_get0, app_get, v1]
   refine ⟨_, ⟨?_, ?_, ?_, ?_⟩, rfl, rfl⟩
   ·simp [go_sem, fgt_append, hxo]
   ·simp
   ·simp [go_sem]
   ·rw [he] at hbe
    have := hbe (τ.length + 9) (by omega)
    simp [go_sem, hτ, this, hS3, hL3]
  | false =>
   simp [go_sem, hput_at0, hput_app0, hput_app, app_get0, app_get]
   refine ⟨_, ⟨?_, ?_, ?_, ?_⟩, rfl, rfl⟩
   ·simp [go_sem, fgt_append, hxo]
   ·simp
   ·simp [go_sem]
   ·rw [he] at hbe
    have := hbe (τ.length + 9) (by omega)
    simp [go_sem, hτ, this, hS3, hL3]
theorem stateG_calls (p : Pl) (l : List Em) (h : ArgE p l) (hS1 : cutR 0 ls SR = ints p.s) (hS2 : ls ≤ SR.length) (hS4 : ScR SR) (hL1 : cutR 0 ll LR = ems l) (hL2 : ll ≤ LR.length) (hL4 : ScR LR) :
  ICalls Tryz.prog glT 36 [.agg (plOw p SR ls cs), .sl 1 LR.length 0 ll cl] [.rows 1 SR, .rows 4 LR] (fun v σ => v = .tup [.fz 3 (rds (stR p l).1), .fz 3 (rds (stR p l).2.1), .int .i64 (stR p l).2.2] ∧ σ = [.rows 1 SR, .rows 4 LR]) := by
 refine ICalls.of_bodyI false 11 [18] Tryz.func36 rfl Tryz.call36 rfl fun R hR => ?_
 have hS3 : ∀ n, BlR n SR := fun n => ScR.bl hS4
 have hL3 : ∀ n, BlR n LR := fun n => ScR.bl hL4
 have hS5 : ∀ π, renLL π SR = SR := fun π => ClR.ren (ScR.cl hS4)
 have hL5 : ∀ π, renLL π LR = LR := fun π => ClR.ren (ScR.cl hL4)
 have cc := Check_fun p l h.t h.s h.l
 unfold plOw at *
 simp only [Pl.v] at cc
 simp [go_sem]
 refine cc.callF (by simp [go_sem, hS1, hS2, hL1, hL2]) ?_
 rintro _ rfl
 by_cases he : (chkR p l).2 = 0
 ·obtain ⟨hp, hpr⟩ := plB_ok (chkR_pl he) (h.t (chkR_pl he))
  have cr := roundsG_calls (cs := cs) (cl := cl) p l hS1 hS2 hS4 hL1 hL2 hL4 hp hpr (by have := h.l; omega)
  rw [stR_ok he] at hR
  unfold plOw at cr
  simp [go_sem, he]
  refine cr.at [0, 1] (by simp [go_sem, hS3, hL3, hS5, hL5]) ?_
  rintro _ _ ⟨rfl, rfl⟩
  simp [go_sem, hS3, hL3, hS5, hL5]
  refine hR _ _ _ _ ⟨rfl, rfl⟩ ?_
  simp [go_sem, hS3, hL3, mask]
 ·rw [stR_er he] at hR
  simp [go_sem, he]
  refine hR _ _ _ _ ⟨rfl, rfl⟩ ?_
  simp [go_sem, hS3, hL3, mask]
theorem DrawG_calls (p : Pl) (l : List Em) (n : Int) (h : ArgE p l) (hS1 : cutR 0 ls SR = ints p.s) (hS2 : ls ≤ SR.length) (hS4 : ScR SR) (hL1 : cutR 0 ll LR = ems l) (hL2 : ll ≤ LR.length) (hL4 : ScR LR) :
  ICalls Tryz.prog glT 15 [.agg (plOw p SR ls cs), .sl 1 LR.length 0 ll cl, .int .i64 n] [.rows 1 SR, .rows 4 LR] (fun v σ => v = drawV (drawE p l n) ∧ σ = [.rows 1 SR, .rows 4 LR]) := by
 refine ICalls.of_bodyI false 12 [20, 29] Tryz.func15 rfl Tryz.call15 rfl fun R hR => ?_
 have hS3 : ∀ n, BlR n SR := fun n => ScR.bl hS4
 have hL3 : ∀ n, BlR n LR := fun n => ScR.bl hL4
 have hS5 : ∀ π, renLL π SR = SR := fun π => ClR.ren (ScR.cl hS4)
 have hL5 : ∀ π, renLL π LR = LR := fun π => ClR.ren (ScR.cl hL4)
 have cst := stateG_calls (cs := cs) (cl := cl) p l h hS1 hS2 hS4 hL1 hL2 hL4
 unfold plOw at *
 have fin : ∀ (r : IV) (σ : Heap) (q : List (Int × Int) × Int × Int), drawE p l n = q → fgt [.rows 1 SR, .rows 4 LR] σ → frzOK true 4 (mask 2 σ) r ∧ nz 4 (frzV 4 (mask 2 σ) r) (drawV q) → R r σ := fun r σ q e h1 h2 => hR r σ _ _ ⟨rfl, rfl⟩ ⟨⟨h1, rfl, by simp [go_sem, hS3, hL3]⟩, by rw [e]; exact h2⟩
 clear hR
 simp [go_sem]
 refine cst.at [0, 1] (by simp [go_sem, hS3, hL3, hS5, hL5]) ?_
 rintro _ _ ⟨rfl, rfl⟩
 simp [go_sem, hS3, hL3, hS5, hL5]
 by_cases he : (chkR p l).2 = 0
 case neg =>
  rw [stR_er he]
  simp [go_sem, he]
  exact fin _ _ ([], 0, (chkR p l).2) (by unfold drawE; rw [if_pos he]) (by simp [go_sem]) (by simp [go_sem, drawV])
 rw [stR_ok he]
 have hE : drawE p l n = if n < 0 ∨ ((rchd p l).length : Int) ≤ n then ([], 0, 6) else (((rchd p l).getD n.toNat Er0).draw, ((rchd p l).getD n.toNat Er0).bye, 0) := by unfold drawE; rw [if_neg (by simp [he])]
 generalize rchd p l = all at *
 by_cases h1 : n < 0
 ·rw [if_pos (.inl h1)] at hE
  simp [go_sem, h1]
  exact fin _ _ _ hE (by simp [go_sem]) (by simp [go_sem, drawV])
 by_cases h2 : (all.length : Int) ≤ n
 ·rw [if_pos (.inr h2)] at hE
  simp [go_sem, h1, h2]
  exact fin _ _ _ hE (by simp [go_sem]) (by simp [go_sem, drawV])
 rw [if_neg (by omega)] at hE
 obtain ⟨j, rfl⟩ : ∃ j : Nat, n = j := ⟨n.toNat, by omega⟩
 have hj : j < all.length := by omega
 rw [Int.toNat_natCast, show all.getD j Er0 = all[j] by simp [hj]] at hE
 obtain ⟨x, hx⟩ : ∃ x, all[j] = x := ⟨_, rfl⟩
 rw [hx] at hE
 obtain ⟨d, y, M⟩ := x
 simp [go_sem, h1, h2, hj, hx]
 exact ⟨by decide +kernel, fin _ _ _ hE (by simp [go_sem]) (by simp [go_sem, drawV])⟩
end
end Go.Idl
