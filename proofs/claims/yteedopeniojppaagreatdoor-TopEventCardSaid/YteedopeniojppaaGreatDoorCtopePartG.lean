import Derived.Test.YteedopeniojppaaGreatDoorCtopePartF
import Derived.Test.YteedopeniojppaaGreatDoorIdlPartK
set_option linter.all false
set_option maxHeartbeats 16000000
set_option maxRecDepth 40000
namespace Go.Idl
open Go.Proofs
def Em0 : Em := ⟨0, 0, 0, 0⟩
def Er0 : Er := ⟨[], 0, []⟩
def badM (p : Pl) (m : Em) : Prop := m.r < 0 ∨ p.r ≤ m.r ∨ mrB m.m = false
instance (p : Pl) (m : Em) : Decidable (badM p m) := by unfold badM; infer_instance
def chkP (p : Pl) (l : List Em) (all : List Er) : List Nat → List (Int × Int × Int) → Int × Int
 | [], _ => (-1, 0)
 | i :: A, se =>
  if badM p (l.getD i Em0) then ((i : Int), 390)
  else if (all.length : Int) ≤ (l.getD i Em0).r then ((i : Int), 392)
  else if ((l.getD i Em0).a, (l.getD i Em0).b) ∉ (all.getD (l.getD i Em0).r.toNat Er0).draw then ((i : Int), 390)
  else if ((l.getD i Em0).r, (l.getD i Em0).a, (l.getD i Em0).b) ∈ se then ((i : Int), 391)
  else chkP p l all A (se ++ [((l.getD i Em0).r, (l.getD i Em0).a, (l.getD i Em0).b)])
def OrdM (l : List Em) (A : List Nat) : Prop := A.Perm (List.range l.length) ∧ A.Pairwise fun a b => (l.getD a Em0).r < (l.getD b Em0).r ∨ (l.getD a Em0).r = (l.getD b Em0).r ∧ a < b
def key3 (m : Em) : Int × Int × Int := (m.r, m.a, m.b)
theorem isM_iff {n : Int} {x : Int × Int} {e : Em} : isM n x e = true ↔ key3 e = (n, x.1, x.2) := by
 obtain ⟨a, b⟩ := x
 simp [isM, key3]
theorem find_eq {l ea : List Em} {n : Int} {x : Int × Int} (h1 : ∀ e, e.r = n → (e ∈ l ↔ e ∈ ea)) (hu : ∀ e ∈ ea, ∀ e' ∈ ea, key3 e = key3 e' → e = e') (hv : ∀ e ∈ ea, mrB e.m = true) :
  (l.find? (isMm n x)).map (·.m) = fnd ea n x := by
 unfold fnd
 cases hf : ea.find? (isM n x) with
 | none =>
  have : l.find? (isMm n x) = none := by
   rw [List.find?_eq_none] at hf ⊢
   intro e he hm
   simp only [isMm, Bool.and_eq_true] at hm
   have hk := isM_iff.1 hm.1
   have hr : e.r = n := congrArg Prod.fst hk
   exact hf e ((h1 e hr).1 he) hm.1
  rw [this]
 | some e =>
  have hm := List.find?_some hf
  have hea := List.mem_of_find?_eq_some hf
  have hk := isM_iff.1 hm
  have hr : e.r = n := congrArg Prod.fst hk
  have hel := (h1 e hr).2 hea
  cases hg : l.find? (isMm n x) with
  | none =>
   exfalso
   rw [List.find?_eq_none] at hg
   exact hg e hel (by simp [isMm, hm, hv e hea])
  | some e2 =>
   have hm2 := List.find?_some hg
   have hl2 := List.mem_of_find?_eq_some hg
   simp only [isMm, Bool.and_eq_true] at hm2
   have hk2 := isM_iff.1 hm2.1
   have hr2 : e2.r = n := congrArg Prod.fst hk2
   have := hu e hea e2 ((h1 e2 hr2).1 hl2) (hk.trans hk2.symm)
   rw [this]
theorem getD_mem9 {l : List Em} {i : Nat} (h : i < l.length) : l.getD i Em0 ∈ l := by simp [h]
structure GoodM (p : Pl) (ea : List Em) : Prop where
 ok : ∀ e ∈ ea, ¬ badM p e
 uq : ∀ e ∈ ea, ∀ e' ∈ ea, key3 e = key3 e' → e = e'
theorem GoodM.mr {p : Pl} {ea : List Em} (h : GoodM p ea) : ∀ e ∈ ea, mrB e.m = true := fun e he => by
 have := h.ok e he
 unfold badM at this
 cases hb : mrB e.m with
 | true => rfl
 | false => exact absurd (.inr (.inr hb)) this
theorem GoodM.find {p : Pl} {l : List Em} (h : GoodM p l) (n : Int) (x : Int × Int) : (l.find? (isMm n x)).map (·.m) = fnd l n x := find_eq (fun _ _ => Iff.rfl) h.uq h.mr
end Go.Idl
namespace Go.Idl
open Go.Proofs
def ltM (l : List Em) (a b : Nat) : Prop := (l.getD a Em0).r < (l.getD b Em0).r ∨ (l.getD a Em0).r = (l.getD b Em0).r ∧ a < b
instance (l : List Em) (a b : Nat) : Decidable (ltM l a b) := by unfold ltM; infer_instance
theorem ltM_trans {l : List Em} {a b c : Nat} (h : ltM l a b) (h' : ltM l b c) : ltM l a c := by unfold ltM at *; omega
theorem ltM_irr {l : List Em} {a : Nat} : ¬ ltM l a a := by unfold ltM; omega
theorem ltM_total {l : List Em} {a b : Nat} (h : a ≠ b) (h' : ¬ ltM l a b) : ltM l b a := by unfold ltM at *; omega
def insM (l : List Em) (i : Nat) : List Nat → List Nat
 | [] => [i]
 | j :: A => if ltM l j i then j :: insM l i A else i :: j :: A
def ordF (l : List Em) : List Nat → List Nat
 | [] => []
 | i :: A => insM l i (ordF l A)
def ordM (l : List Em) : List Nat := ordF l (List.range l.length)
theorem insM_perm {l : List Em} (i : Nat) : ∀ A : List Nat, (insM l i A).Perm (i :: A)
 | [] => List.Perm.refl _
 | j :: A => by
  unfold insM
  split
  ·exact ((insM_perm i A).cons j).trans (List.Perm.swap i j A)
  ·exact List.Perm.refl _
theorem ordF_perm {l : List Em} : ∀ A : List Nat, (ordF l A).Perm A
 | [] => List.Perm.refl _
 | i :: A => (insM_perm i _).trans ((ordF_perm A).cons i)
theorem insM_sorted {l : List Em} {i : Nat} : ∀ {A : List Nat}, i ∉ A → A.Pairwise (ltM l) → (insM l i A).Pairwise (ltM l)
 | [], _, _ => by simp [insM]
 | j :: A, hx, h => by
  unfold insM
  rw [List.pairwise_cons] at h
  simp only [List.mem_cons, not_or] at hx
  split
  ·rename_i hy
   rw [List.pairwise_cons]
   refine ⟨fun z hz => ?_, insM_sorted hx.2 h.2⟩
   rcases List.mem_cons.1 ((insM_perm i A).mem_iff.1 hz) with rfl | hz
   ·exact hy
   ·exact h.1 z hz
  ·rename_i hy
   have hxy := ltM_total (Ne.symm hx.1) hy
   rw [List.pairwise_cons, List.pairwise_cons]
   refine ⟨fun z hz => ?_, h⟩
   rcases List.mem_cons.1 hz with rfl | hz
   ·exact hxy
   ·exact ltM_trans hxy (h.1 z hz)
theorem ordF_sorted {l : List Em} : ∀ {A : List Nat}, A.Nodup → (ordF l A).Pairwise (ltM l)
 | [], _ => List.Pairwise.nil
 | i :: A, h => by
  rw [List.nodup_cons] at h
  exact insM_sorted (fun hc => h.1 ((ordF_perm A).mem_iff.1 hc)) (ordF_sorted h.2)
theorem ordM_ok (l : List Em) : OrdM l (ordM l) := ⟨ordF_perm _, ordF_sorted List.nodup_range⟩
theorem OrdM.eq {l : List Em} {A B : List Nat} (h : OrdM l A) (h' : OrdM l B) : A = B :=
 List.Perm.eq_of_pairwise (le := ltM l) (fun a b _ _ h1 h2 => absurd (ltM_trans h1 h2) ltM_irr) h.2 h'.2 (h.1.trans h'.1.symm)
def chkR (p : Pl) (l : List Em) : Int × Int := if plB p = true then chkP p l (rchd p l) (ordM l) [] else (-1, 2)
def drawE (p : Pl) (l : List Em) (n : Int) : List (Int × Int) × Int × Int :=
 if (chkR p l).2 ≠ 0 then ([], 0, (chkR p l).2) else if n < 0 ∨ ((rchd p l).length : Int) ≤ n then ([], 0, 6) else (((rchd p l).getD n.toNat Er0).draw, ((rchd p l).getD n.toNat Er0).bye, 0)
def lastR (p : Pl) (l : List Em) : Er := (rchd p l).getD ((rchd p l).length - 1) Er0
def opnR (r : Er) : List (Int × Int) := r.draw.filter fun x => (aget x r.mg).isNone
def openE (p : Pl) (l : List Em) : List (Int × Int) × Int :=
 if (chkR p l).2 ≠ 0 then ([], (chkR p l).2) else if (rchd p l).length = 0 then ([], 0) else (opnR (lastR p l), 0)
def tableE (p : Pl) (l : List Em) : List Ln × Int := if (chkR p l).2 ≠ 0 then ([], (chkR p l).2) else (tabL9 p (ovrd (rchd p l)), 0)
def overE (p : Pl) (l : List Em) : Bool × Int := if (chkR p l).2 ≠ 0 then (false, (chkR p l).2) else (decide ((rchd p l).length = (ovrd (rchd p l)).length), 0)
def qualE (p : Pl) (l : List Em) (n : Int) : List Int × Int :=
 if (chkR p l).2 ≠ 0 then ([], (chkR p l).2) else if (rchd p l).length ≠ (ovrd (rchd p l)).length then ([], 392) else if n < 1 ∨ p.t < n then ([], 2) else (((tabL9 p (ovrd (rchd p l))).take n.toNat).map (·.team), 0)
theorem reach_get {p : Pl} {l : List Em} : ∀ (k n : Nat) (bf : List Er) (j : Nat) (r : Er), (reach p l k n bf)[j]? = some r →
  r.mg = mgs l ((n + j : Nat) : Int) r.draw ∧ (j + 1 < (reach p l k n bf).length → r.over = true) ∧ (drawR (ordT p (bf ++ (reach p l k n bf).take j)) (metT (bf ++ (reach p l k n bf).take j)) (byeT (bf ++ (reach p l k n bf).take j))) = (r.draw, r.bye, 0)
 | 0, n, bf, j, r, h => by simp [reach] at h
 | k + 1, n, bf, j, r, h => by
  unfold reach at h ⊢
  simp only at h ⊢
  by_cases he : (drawR (ordT p bf) (metT bf) (byeT bf)).2.2 ≠ 0
  ·rw [if_pos he] at h; simp at h
  rw [if_neg he] at h ⊢
  have he' : (drawR (ordT p bf) (metT bf) (byeT bf)).2.2 = 0 := by simpa using he
  generalize hq : drawR (ordT p bf) (metT bf) (byeT bf) = q at *
  obtain ⟨d, y, e⟩ := q
  simp only at *
  subst he'
  by_cases ho : (Er.mk d y (mgs l n d)).over = true
  ·rw [if_pos ho] at h ⊢
   cases j with
   | zero =>
    simp only [List.getElem?_cons_zero, Option.some.injEq] at h
    subst h
    exact ⟨rfl, fun _ => ho, by simpa using hq⟩
   | succ j =>
    simp only [List.getElem?_cons_succ] at h
    obtain ⟨h1, h2, h3⟩ := reach_get k (n + 1) _ j r h
    refine ⟨by rw [h1, show n + 1 + j = n + (j + 1) by omega], fun hl => h2 (by simpa using hl), ?_⟩
    simpa using h3
  ·rw [if_neg ho] at h ⊢
   cases j with
   | zero =>
    simp only [List.getElem?_cons_zero, Option.some.injEq] at h
    subst h
    exact ⟨rfl, fun hl => by simp at hl, by simpa using hq⟩
   | succ j => simp at h
theorem reach_len (p : Pl) (l : List Em) : ∀ (k n : Nat) (bf : List Er), (reach p l k n bf).length ≤ k
 | 0, _, _ => by simp [reach]
 | k + 1, n, bf => by
  unfold reach
  simp only
  split
  ·simp
  ·split
   ·have := reach_len p l k (n + 1) (bf ++ [⟨(drawR (ordT p bf) (metT bf) (byeT bf)).1, (drawR (ordT p bf) (metT bf) (byeT bf)).2.1, mgs l n (drawR (ordT p bf) (metT bf) (byeT bf)).1⟩])
    simp; omega
   ·simp
theorem rchd_get {p : Pl} {l : List Em} {j : Nat} {r : Er} (h : (rchd p l)[j]? = some r) : r.mg = mgs l (j : Int) r.draw ∧ (j + 1 < (rchd p l).length → r.over = true) ∧ drawR (ordT p ((rchd p l).take j)) (metT ((rchd p l).take j)) (byeT ((rchd p l).take j)) = (r.draw, r.bye, 0) := by
 have := reach_get p.r.toNat 0 [] j r h
 rw [Nat.zero_add, List.nil_append] at this
 exact this
theorem ovrd_all {L : List Er} (h : ∀ r ∈ L, r.over = true) : ovrd L = L := by
 unfold ovrd
 have : L.countP (·.over) = L.length := List.countP_eq_length.2 h
 rw [this, List.take_length]
end Go.Idl
namespace Go.Idl
open Go.Proofs
def befS (S : List Int) (i : Nat) : Int := if i = 0 then 0 else S.getD (i - 1) 0
theorem scGo_snoc {b : Int} : ∀ {S : List Int} {x : Int}, scGo b (S ++ [x]) = (scGo b S && decide ((if S = [] then b else S.getD (S.length - 1) 0) < x) && decide (x ≤ 1000000))
 | [], x => by simp [scGo]
 | y :: l, x => by
  simp only [List.cons_append, scGo]
  rw [scGo_snoc (b := y) (S := l)]
  cases l with
  | nil => simp [scGo, Bool.and_assoc]
  | cons z l => simp [Bool.and_assoc]
theorem scGo_succ {S : List Int} {i : Nat} (h : i < S.length) : scGo 0 (S.take (i + 1)) = (scGo 0 (S.take i) && decide (befS S i < S[i]) && decide (S[i] ≤ 1000000)) := by
 rw [List.take_succ_eq_append_getElem h, scGo_snoc]
 congr 3
 unfold befS
 by_cases hi : i = 0
 ·subst hi; simp
 ·have hne : S.take i ≠ [] := fun e => by have := congrArg List.length e; rw [List.length_take, Nat.min_eq_left (Nat.le_of_lt h)] at this; simp at this; omega
  rw [if_neg hne, if_neg hi]
  simp only [List.length_take, Nat.min_eq_left (Nat.le_of_lt h), eq_iff_iff]
  rw [show (S.take i).getD (i - 1) 0 = S.getD (i - 1) 0 by
   simp only [List.getD_eq_getElem?_getD, List.getElem?_take, show i - 1 < i by omega, if_true]]
theorem scGo_false {S : List Int} {i : Nat} (h : scGo 0 (S.take i) = false) : scGo 0 S = false := by
 cases hs : scGo 0 S with
 | false => rfl
 | true => rw [scGo_take hs] at h; cases h
theorem vRight_fun (S : List Int) (hl : S.length ≤ 2 ^ 32) : FN 10 [.fz 1 (ints S)] (fun v => v = .bool (scB S)) := by
 refine IFun.of_bodyZ false 6 [13, 14, 15, 16, 17, 26] Tryz.func10 rfl Tryz.call10 rfl fun R hR => ?_
 have fin : ∀ b : Bool, scB S = b → ∀ σ, frzOK false 4 σ (.bool b) ∧ nz 4 (frzV 4 σ (.bool b)) (.bool b) → R (.bool b) σ := fun b hb σ h => hR _ _ _ (by rw [hb]) h
 by_cases h1 : S.length < 1
 ·have : S = [] := List.eq_nil_of_length_eq_zero (by omega)
  subst this
  simp [go_sem]
  exact fin false (by decide) _ (by simp [go_sem])
 by_cases h2 : 50 < S.length
 ·have h2' : (50 : Int) < S.length := by omega
  have h1' : ¬ (S.length : Int) < 1 := by omega
  have h1'' : ¬ S = [] := fun e => by subst e; simp at h1
  simp [go_sem, h1', h2', h1'']
  exact fin false (by unfold scB; simp; omega) _ (by simp [go_sem])
 have h2' : ¬ (50 : Int) < S.length := by omega
 have h1' : ¬ (S.length : Int) < 1 := by omega
 have h1'' : ¬ S = [] := fun e => by subst e; simp at h1
 have hsc : scB S = scGo 0 S := by
  unfold scB
  rw [decide_eq_true (by omega), decide_eq_true (by omega)]; rfl
 simp [go_sem, h1', h2', h1'']
 refine IWp.loopT (α := Nat) (fun i => (⟨false, 29, 6, [13, 14, 15, 16, 17, 26], glT, [(3, .int .i64 (befS S i)), (14, .fz 1 (ints S)), (15, .int .i64 (S.length : Int)), (16, .int .i64 (i : Int))], []⟩, []))
  (fun i => i ≤ S.length ∧ scGo 0 (S.take i) = true) (fun i => S.length - i) 0 ⟨by omega, rfl⟩ (by simp [go_sem, befS]) ?_
 rintro i ⟨hi, hg⟩
 by_cases h : i < S.length
 ·have w1 : IntKind.i64.wrap ((i : Int) + 1) = i + 1 := wrap64 (by omega) (by omega)
  have hs := scGo_succ h
  rw [hg] at hs
  have hb : befS S (i + 1) = S[i] := by unfold befS; rw [if_neg (by omega)]; simp [h]
  generalize befS S i = B at *
  by_cases c1 : S[i] ≤ B
  ·have : scGo 0 (S.take (i + 1)) = false := by rw [hs]; simp; omega
   simp [go_sem, h, c1]
   exact fin false (by rw [hsc]; exact scGo_false this) _ (by simp [go_sem])
  ·by_cases c2 : 1000000 < S[i]
   ·have : scGo 0 (S.take (i + 1)) = false := by rw [hs]; simp; omega
    simp [go_sem, h, c1, c2]
    exact fin false (by rw [hsc]; exact scGo_false this) _ (by simp [go_sem])
   ·simp [go_sem, h, c1, c2, w1]
    refine ⟨i + 1, ⟨by rw [hb], by omega⟩, ⟨by omega, ?_⟩, by omega⟩
    rw [hs]; simp; omega
 ·obtain rfl : i = S.length := by omega
  rw [List.take_length] at hg
  simp [go_sem, h]
  exact fin true (by rw [hsc]; exact hg) _ (by simp [go_sem])
theorem points1_fun (m x : Int) (h : -1000000 ≤ m ∧ m ≤ 1000000) : FN 48 [.int .i64 x, .fptr 1 [[.int .i64 m]] 0 0] (fun v => v = .bool (decide (x ≤ max m (-m)))) := by
 refine IFun.of_bodyZ false 4 [] Tryz.func48 rfl Tryz.call48 rfl fun R hR => ?_
 have w1 : IntKind.i64.wrap (-m) = -m := wrap64 (by omega) (by omega)
 have w2 : (if m < -m then -m else m) = max m (-m) := by omega
 rw [← w2] at hR
 simp [go_sem, w1]
 exact hR _ _ _ rfl (by simp [go_sem])
theorem count_fun (S : List Int) (m : Int) (h : -1000000 ≤ m ∧ m ≤ 1000000) (hl : S.length ≤ 50) : FN 47 [.fz 1 (ints S), .func (.func 48) [] [.fptr 1 [[.int .i64 m]] 0 0]] (fun v => v = .int .i64 (cntS S m : Int)) := by
 refine IFun.of_bodyZ false 8 [8, 9, 10, 11, 16] Tryz.func47 rfl Tryz.call47 rfl fun R hR => ?_
 simp [go_sem]
 refine IWp.loopT (α := Nat) (fun i => (⟨false, 21, 8, [8, 9, 10, 11, 16], glT, [(1, .func (.func 48) [] [.fptr 1 [[.int .i64 m]] 0 0]), (5, .int .i64 (cntS (S.take i) m : Int)), (8, .fz 1 (ints S)), (9, .int .i64 (S.length : Int)), (10, .int .i64 (i : Int))], []⟩, []))
  (fun i => i ≤ S.length) (fun i => S.length - i) 0 (by omega) (by simp [go_sem, cntS]) ?_
 intro i hi
 by_cases hlt : i < S.length
 ·have w1 : IntKind.i64.wrap ((i : Int) + 1) = i + 1 := wrap64 (by omega) (by omega)
  have c1 := points1_fun m S[i] h
  have hc : cntS (S.take (i + 1)) m = cntS (S.take i) m + if S[i] ≤ max m (-m) then 1 else 0 := by
   unfold cntS
   rw [List.take_succ_eq_append_getElem hlt, List.countP_append]
   simp [List.countP_cons]
  have hb := cntS_le (S.take i) m
  simp only [List.length_take] at hb
  generalize cntS (S.take i) m = C at *
  generalize max m (-m) = M at *
  simp [go_sem, hlt]
  refine c1.callF (by simp [go_sem]) ?_
  rintro _ rfl
  by_cases hx : S[i] ≤ M
  ·rw [if_pos hx] at hc
   have w2 : IntKind.i64.wrap ((C : Int) + 1) = ((C + 1 : Nat) : Int) := by rw [wrap64 (by omega) (by omega)]; omega
   simp [go_sem, hx, w1, w2]
   exact ⟨i + 1, ⟨by rw [hc]; simp, by omega⟩, by omega, by omega⟩
  ·rw [if_neg hx] at hc
   simp [go_sem, hx, w1]
   exact ⟨i + 1, ⟨by rw [hc]; simp, by omega⟩, by omega, by omega⟩
 ·obtain rfl : i = S.length := by omega
  simp [go_sem]
  exact hR _ _ _ rfl (by simp [go_sem])
def ptsV (S : List Int) (m : Int) : IV := if scB S = true ∧ mrB m = true then .tup [.int .i64 (ptA S m), .int .i64 (ptB S m), .int .i64 0] else .tup [.int .i64 0, .int .i64 0, .int .i64 2]
theorem mrB_iff {m : Int} : mrB m = true ↔ -1000000 ≤ m ∧ m ≤ 1000000 := by simp [mrB]
theorem Points_fun (S : List Int) (m : Int) (hl : S.length ≤ 2 ^ 32) : FN 27 [.fz 1 (ints S), .int .i64 m] (fun v => v = ptsV S m) := by
 refine IFun.of_bodyW false 9 [19, 26] Tryz.func27 rfl Tryz.call27 rfl fun R hR => ?_
 have cr := vRight_fun S hl
 have w0 : IntKind.i64.wrap (-1000000) = -1000000 := by decide
 unfold ptsV at hR
 refine IWp.seqI ?_
 simp [go_sem]
 refine IWp.seqI ?_
 simp [go_sem]
 refine cr.callF (by simp [go_sem]) ?_
 rintro _ rfl
 cases hs : scB S with
 | false =>
  rw [if_neg (by simp [hs])] at hR
  simp [go_sem]
  exact hR _ _ _ rfl (by simp [go_sem])
 | true =>
 obtain ⟨hl1, hl2⟩ := scB_len hs
 by_cases h1 : m < -1000000
 ·rw [if_neg (by rw [mrB_iff]; omega)] at hR
  simp [go_sem, h1]
  exact hR _ _ _ rfl (by simp [go_sem])
 by_cases h2 : 1000000 < m
 ·rw [if_neg (by rw [mrB_iff]; omega)] at hR
  simp [go_sem, h1, h2]
  exact hR _ _ _ rfl (by simp [go_sem])
 rw [if_pos ⟨hs, mrB_iff.2 (by omega)⟩] at hR
 have cc := count_fun S m (by omega) hl2
 have hc := cntS_le S m
 unfold ptA ptB moreI at hR
 generalize cntS S m = C at *
 simp [go_sem, h1, h2]
 refine IWp.now ?_
 simp [go_sem]
 refine cc.callF (by simp [go_sem]) ?_
 rintro _ rfl
 by_cases h3 : m < 0
 ·have w1 : IntKind.i64.wrap (-(C : Int)) = -(C : Int) := wrap64 (by omega) (by omega)
  have w2 : IntKind.i64.wrap ((S.length : Int) + -(C : Int)) = (S.length : Int) + -(C : Int) := wrap64 (by omega) (by omega)
  have w3 : IntKind.i64.wrap ((S.length : Int) - -(C : Int)) = (S.length : Int) - -(C : Int) := wrap64 (by omega) (by omega)
  have w4 : IntKind.i64.wrap ((S.length : Int) + (C : Int)) = (S.length : Int) - -(C : Int) := by rw [wrap64 (by omega) (by omega)]; omega
  rw [if_pos h3] at hR
  simp [go_sem, h3, w1, w2, w3, w4]
  exact hR _ _ _ rfl (by simp [go_sem])
 ·have w2 : IntKind.i64.wrap ((S.length : Int) + (C : Int)) = (S.length : Int) + (C : Int) := wrap64 (by omega) (by omega)
  have w3 : IntKind.i64.wrap ((S.length : Int) - (C : Int)) = (S.length : Int) - (C : Int) := wrap64 (by omega) (by omega)
  rw [if_neg h3] at hR
  simp [go_sem, h3, w2, w3]
  exact hR _ _ _ rfl (by simp [go_sem])
end Go.Idl
namespace Go.Idl
open Go.Proofs
def idxP (l : List (Int × Int)) (p : Int × Int) : Int := match l.findIdx? (· == p) with | some i => i | none => -1
theorem idxP_neg {l : List (Int × Int)} {p : Int × Int} (h : p ∉ l) : idxP l p = -1 := by
 unfold idxP
 have : l.findIdx? (· == p) = none := List.findIdx?_eq_none_iff.2 fun x hx => by rw [beq_eq_false_iff_ne]; intro e; exact h (e ▸ hx)
 rw [this]
theorem idxP_at {l : List (Int × Int)} {p : Int × Int} {i : Nat} (h : i < l.length) (hi : l[i] = p) (hb : ∀ j (hj : j < l.length), j < i → l[j] ≠ p) : idxP l p = i := by
 unfold idxP
 have : l.findIdx? (· == p) = some i := by
  rw [List.findIdx?_eq_some_iff_getElem]
  exact ⟨h, by simp [hi], fun j hj => by simpa using hb j (by omega) hj⟩
 rw [this]
theorem idxP_pos {l : List (Int × Int)} {p : Int × Int} : 0 ≤ idxP l p ↔ p ∈ l := by
 constructor
 ·intro h
  apply Decidable.byContradiction
  intro hn
  rw [idxP_neg hn] at h; omega
 ·intro h
  unfold idxP
  split
  ·omega
  ·rename_i he
   rw [List.findIdx?_eq_none_iff] at he
   have := he p h
   simp at this
theorem indexPairs_fun (l : List (Int × Int)) (x y : Int) (hl : l.length ≤ 2 ^ 40) : FN 62 [.fz 2 (prs l), .agg [.int .i64 x, .int .i64 y]] (fun v => v = .int .i64 (idxP l (x, y))) := by
 refine IFun.of_bodyZ false 6 [7, 8, 9, 16] Tryz.func62 rfl Tryz.call62 rfl fun R hR => ?_
 simp [go_sem]
 refine IWp.loopT (α := Nat) (fun i => (⟨false, 19, 6, [7, 8, 9, 16], glT, [(0, .fz 2 (prs l)), (3, .ptr 0 1 0 0), (7, .int .i64 l.length), (8, .int .i64 (i : Int))], []⟩, [.rows 2 [[.int .i64 x, .int .i64 y]]]))
  (fun i => i ≤ l.length ∧ ∀ j (hj : j < l.length), j < i → l[j] ≠ (x, y)) (fun i => l.length - i) 0 (by simp) (by simp [go_sem]) ?_
 rintro i ⟨hi, hb⟩
 by_cases h : i < l.length
 ·have w1 : IntKind.i64.wrap ((i : Int) + 1) = i + 1 := wrap64 (by omega) (by omega)
  obtain ⟨q, hq⟩ : ∃ q, l[i] = q := ⟨_, rfl⟩
  obtain ⟨a, b⟩ := q
  by_cases he : x = a ∧ y = b
  ·have hx := idxP_at (p := (x, y)) h (by rw [hq, he.1, he.2]) hb
   obtain ⟨rfl, rfl⟩ := he
   simp [go_sem, h, hq]
   refine ⟨by decide +kernel, ?_⟩
   exact hR _ _ _ rfl (by simp [go_sem, hx])
  ·have he' : x = a → ¬ y = b := fun h1 h2 => he ⟨h1, h2⟩
   have he2 : (x == a && y == b) = false := by rw [← Bool.not_eq_true]; simpa using he'
   simp [go_sem, h, hq, he2, he', w1]
   exact ⟨by decide +kernel, i + 1, by simp, ⟨by omega, fun j hj h2 => by
    by_cases e : j = i
    ·subst e; rw [hq]; exact fun e2 => he ⟨(congrArg Prod.fst e2).symm, (congrArg Prod.snd e2).symm⟩
    ·exact hb j hj (by omega)⟩, by omega⟩
 ·have hx : idxP l (x, y) = -1 := idxP_neg fun hm => by
   obtain ⟨j, hj, e⟩ := List.mem_iff_getElem.1 hm
   exact hb j hj (by omega) e
  simp [go_sem, h]
  exact hR _ _ _ rfl (by simp [go_sem, hx])
theorem containsPairs_fun (l : List (Int × Int)) (x y : Int) (hl : l.length ≤ 2 ^ 40) : FN 44 [.fz 2 (prs l), .agg [.int .i64 x, .int .i64 y]] (fun v => v = .bool (decide ((x, y) ∈ l))) := by
 refine IFun.of_bodyZ false 5 [] Tryz.func44 rfl Tryz.call44 rfl fun R hR => ?_
 simp [go_sem]
 refine (indexPairs_fun l x y hl).callF (by simp [go_sem]) ?_
 rintro _ rfl
 simp [go_sem]
 refine hR _ _ _ rfl ?_
 simp [go_sem, idxP_pos]
theorem marginRight_fun (m : Int) : FN 43 [.int .i64 m] (fun v => v = .bool (mrB m)) := by
 refine IFun.of_bodyZ false 3 [] Tryz.func43 rfl Tryz.call43 rfl fun R hR => ?_
 unfold mrB at hR
 have w0 : IntKind.i64.wrap (-1000000) = -1000000 := by decide
 by_cases h : -1000000 ≤ m
 ·simp [go_sem, h]
  exact hR _ _ _ rfl (by simp [go_sem, h])
 ·simp [go_sem, h]
  exact hR _ _ _ rfl (by simp [go_sem, h])
theorem evRight_fun (p : Pl) (hl : p.s.length ≤ 2 ^ 32) : FN 5 [p.v] (fun v => v = .bool (plB p)) := by
 refine IFun.of_bodyZ false 3 [] Tryz.func5 rfl Tryz.call5 rfl fun R hR => ?_
 have cr := vRight_fun p.s hl
 have w1 : IntKind.i64.wrap (2 * (p.s.length : Int)) = 2 * (p.s.length : Int) := wrap64 (by omega) (by omega)
 obtain ⟨t, r, b, S⟩ := p
 unfold plB at hR
 simp only [Pl.v] at *
 have fin : ∀ σ (B : Bool), B = (decide (2 ≤ t) && decide (t ≤ 16) && decide (1 ≤ r) && decide (r ≤ 15) && scB S && decide (0 ≤ b) && decide (b ≤ 2 * S.length)) → R (.bool B) σ := fun σ B hB => hR _ _ _ rfl (by simp [go_sem, hB])
 clear hR
 by_cases h1 : 2 ≤ t
 case neg => simp [go_sem, h1]; exact fin _ _ (by simp [h1])
 by_cases h2 : t ≤ 16
 case neg => simp [go_sem, h1, h2]; exact fin _ _ (by simp [h2])
 by_cases h3 : 1 ≤ r
 case neg => simp [go_sem, h1, h2, h3]; exact fin _ _ (by simp [h3])
 by_cases h4 : r ≤ 15
 case neg => simp [go_sem, h1, h2, h3, h4]; exact fin _ _ (by simp [h4])
 simp [go_sem, h1, h2, h3, h4]
 refine cr.callF (by simp [go_sem]) ?_
 rintro _ rfl
 cases hs : scB S with
 | false => simp [go_sem]; exact fin _ _ (by simp [hs])
 | true =>
 by_cases h5 : 0 ≤ b
 case neg => simp [go_sem, h5]; exact fin _ _ (by simp [h5])
 simp [go_sem, h5, w1]
 exact fin _ _ (by simp [h1, h2, h3, h4, hs, h5])
theorem over_fun (r : Er) (hd : r.draw.length ≤ 2 ^ 32) : FN 46 [r.v] (fun v => v = .bool r.over) := by
 refine IFun.of_bodyZ false 3 [] Tryz.func46 rfl Tryz.call46 rfl fun R hR => ?_
 obtain ⟨d, y, S⟩ := r
 simp only [Er.v, Er.over] at *
 have hlen : (enP S).length = S.length := by simp [enP, enM]
 by_cases h : S.length = d.length
 ·simp [go_sem, hlen, h]
  exact hR _ _ _ rfl (by simp [go_sem, h])
 ·have e1 : (S.length == d.length) = false := by simpa using h
  have e2 : ((S.length : Int) == (d.length : Int)) = false := by rw [beq_eq_false_iff_ne]; omega
  have h' : ¬ (S.length : Int) = d.length := by omega
  simp [go_sem, hlen, h, h', e2]
  exact hR _ _ _ rfl (by simp [go_sem, e1])
theorem mgs_succ {l : List Em} {n : Int} {d : List (Int × Int)} {i : Nat} (h : i < l.length) : mgs (l.take (i + 1)) n d = mgStep n d (mgs (l.take i) n d) l[i] := by
 unfold mgs
 rw [List.take_succ_eq_append_getElem h, List.foldl_append]; rfl
theorem margins_fun (l : List Em) (n : Int) (d : List (Int × Int)) (hl : l.length ≤ 2 ^ 32) (hd : d.length ≤ 2 ^ 32) : FN 65 [.fz 4 (ems l), .int .i64 n, .fz 2 (prs d)] (fun v => v = .fm (enP (mgs l n d))) := by
 refine IFun.of_bodyZ false 13 [14, 15, 16, 17, 48] Tryz.func65 rfl Tryz.call65 rfl fun R hR => ?_
 simp [go_sem]
 refine IWp.loopT (α := Nat) (fun i => (⟨false, 55, 13, [14, 15, 16, 17, 48], glT, [(1, .int .i64 n), (2, .fz 2 (prs d)), (7, .map 0), (14, .fz 4 (ems l)), (15, .int .i64 l.length), (16, .int .i64 (i : Int))], []⟩, [.map (enP (mgs (l.take i) n d))]))
  (fun i => i ≤ l.length) (fun i => l.length - i) 0 (by omega) (by simp [go_sem, mgs]) ?_
 intro i hi
 by_cases h : i < l.length
 ·have w1 : IntKind.i64.wrap ((i : Int) + 1) = i + 1 := wrap64 (by omega) (by omega)
  have hs := mgs_succ (n := n) (d := d) h
  unfold mgStep at hs
  generalize mgs (l.take i) n d = S at *
  have cm := marginRight_fun l[i].m
  have cc := containsPairs_fun d l[i].a l[i].b (by omega)
  obtain ⟨q, hq⟩ : ∃ q, l[i] = q := ⟨_, rfl⟩
  rw [hq] at hs cm cc
  obtain ⟨r, a, b, m⟩ := q
  simp only at hs cm cc
  cases hg : aget (a, b) S with
  | some v =>
   rw [if_neg (by simp [hg])] at hs
   simp [go_sem, h, hq, mget_p, hg, w1]
   exact ⟨i + 1, ⟨by omega, by rw [hs]⟩, by omega, by omega⟩
  | none =>
   by_cases hr : r = n
   ·subst hr
    simp [go_sem, h, hq, mget_p, hg]
    refine cm.callF (by simp [go_sem]) ?_
    rintro _ rfl
    cases hm : mrB m with
    | false =>
     rw [if_neg (by simp [hm])] at hs
     simp [go_sem, w1]
     exact ⟨i + 1, ⟨by omega, by rw [hs]⟩, by omega, by omega⟩
    | true =>
     simp [go_sem]
     refine cc.callF (by simp [go_sem]) ?_
     rintro _ rfl
     by_cases hin : (a, b) ∈ d
     ·rw [if_pos ⟨by simp [hg], rfl, hm, hin⟩] at hs
      simp [go_sem, hin, mset_p, w1]
      exact ⟨i + 1, ⟨by omega, by rw [hs]⟩, by omega, by omega⟩
     ·rw [if_neg (by simp [hin])] at hs
      simp [go_sem, hin, w1]
      exact ⟨i + 1, ⟨by omega, by rw [hs]⟩, by omega, by omega⟩
   ·rw [if_neg (by simp [hr])] at hs
    simp [go_sem, h, hq, mget_p, hg, hr, w1]
    exact ⟨i + 1, ⟨by omega, by rw [hs]⟩, by omega, by omega⟩
 ·obtain rfl : i = l.length := by omega
  rw [List.take_length]
  simp [go_sem]
  exact hR _ _ _ rfl (by simp [go_sem])
def cmp3 (a b : Int) : Int := if a < b then -1 else if b < a then 1 else 0
theorem isNaN_fun (a : Int) : FN 51 [.int .i64 a] (fun v => v = .bool false) := by
 refine IFun.of_bodyZ false 3 [] Tryz.func51 rfl Tryz.call51 rfl fun R hR => ?_
 simp [go_sem]
 exact hR _ _ _ rfl (by simp [go_sem])
theorem compare_fun (a b : Int) : FN 31 [.int .i64 a, .int .i64 b] (fun v => v = .int .i64 (cmp3 a b)) := by
 refine IFun.of_bodyZ false 7 [11, 12, 13, 16, 19] Tryz.func31 rfl Tryz.call31 rfl fun R hR => ?_
 unfold cmp3 at hR
 simp [go_sem]
 refine (isNaN_fun a).callF (by simp [go_sem]) ?_
 rintro _ rfl
 simp [go_sem]
 refine (isNaN_fun b).callF (by simp [go_sem]) ?_
 rintro _ rfl
 by_cases h1 : a < b
 ·rw [if_pos h1] at hR
  simp [go_sem, h1]
  exact hR _ _ _ rfl (by simp [go_sem])
 ·rw [if_neg h1] at hR
  by_cases h2 : b < a
  ·rw [if_pos h2] at hR
   simp [go_sem, h1, h2]
   exact hR _ _ _ rfl (by simp [go_sem])
  ·rw [if_neg h2] at hR
   simp [go_sem, h1, h2]
   exact hR _ _ _ rfl (by simp [go_sem])
def or3 (a b c : Int) : Int := if a ≠ 0 then a else if b ≠ 0 then b else c
theorem or3_fun (a b c : Int) : FN 30 [.fz 1 [[.int .i64 a], [.int .i64 b], [.int .i64 c]]] (fun v => v = .int .i64 (or3 a b c)) := by
 refine IFun.of_bodyZ false 6 [6, 7, 8, 9, 14] Tryz.func30 rfl Tryz.call30 rfl fun R hR => ?_
 simp [go_sem]
 refine IWp.loopT (α := Nat) (fun i => (⟨false, 18, 6, [6, 7, 8, 9, 14], glT, [(3, .int .i64 0), (6, .fz 1 [[.int .i64 a], [.int .i64 b], [.int .i64 c]]), (7, .int .i64 3), (8, .int .i64 (i : Int))], []⟩, []))
  (fun i => i ≤ 3 ∧ (0 < i → a = 0) ∧ (1 < i → b = 0) ∧ (2 < i → c = 0)) (fun i => 3 - i) 0 (by simp) (by simp [go_sem]) ?_
 rintro i ⟨hi, h0, h1, h2⟩
 rcases (by omega : i = 0 ∨ i = 1 ∨ i = 2 ∨ i = 3) with rfl | rfl | rfl | rfl
 ·by_cases ha : a = 0
  ·simp [go_sem, ha]
   exact ⟨1, by decide, ⟨by omega, fun h => absurd h (by omega), fun h => absurd h (by omega)⟩, by omega⟩
  ·simp [go_sem, ha]
   exact hR _ _ _ rfl (by simp [go_sem, or3, ha])
 ·by_cases hb : b = 0
  ·simp [go_sem, hb]
   exact ⟨2, by decide, ⟨by omega, fun _ => h0 (by omega), fun h => absurd h (by omega)⟩, by omega⟩
  ·simp [go_sem, hb]
   exact hR _ _ _ rfl (by simp [go_sem, or3, hb, h0])
 ·by_cases hc : c = 0
  ·simp [go_sem, hc]
   exact ⟨3, by decide, ⟨by omega, fun _ => h0 (by omega), fun _ => h1 (by omega)⟩, by omega⟩
  ·simp [go_sem, hc]
   exact hR _ _ _ rfl (by simp [go_sem, or3, h0, h1])
 ·simp [go_sem]
  exact hR _ _ _ rfl (by simp [go_sem, or3, h0, h1, h2])
def cmpL (x y : Ln) : Int := or3 (cmp3 y.points x.points) (cmp3 y.margin x.margin) (cmp3 x.team y.team)
theorem cmpL_lt (x y : Ln) : cmpL x y < 0 ↔ lnLt x y := by
 unfold cmpL or3 cmp3 lnLt
 split <;> split <;> (try split) <;> (try split) <;> (try split) <;> (try split) <;> (try split) <;> omega
theorem table1_fun (x y : Ln) : FN 29 [x.v, y.v] (fun v => v = .int .i64 (cmpL x y)) := by
 refine IFun.of_bodyW false 5 [] Tryz.func29 rfl Tryz.call29 rfl fun R hR => ?_
 have c1 := compare_fun y.points x.points
 have c2 := compare_fun y.margin x.margin
 have c3 := compare_fun x.team y.team
 have c4 := or3_fun (cmp3 y.points x.points) (cmp3 y.margin x.margin) (cmp3 x.team y.team)
 unfold cmpL at hR
 obtain ⟨t, pl, pd, pt, mg, yb⟩ := x
 obtain ⟨t', pl', pd', pt', mg', yb'⟩ := y
 simp only [Ln.v] at *
 generalize cmp3 pt' pt = C1 at *
 generalize cmp3 mg' mg = C2 at *
 generalize cmp3 t t' = C3 at *
 refine IWp.seqI ?_
 simp [go_sem]
 refine IWp.seqI ?_
 refine Drawn.intro (fun k => if k = 4 then .int .i64 C1 else if k = 9 then .int .i64 C2 else if k = 14 then .int .i64 C3 else if k = 16 then .int .i64 (or3 C1 C2 C3) else .tup []) ?_
 simp [go_sem, c1, c2, c3, c4]
 refine ⟨by decide +kernel, ?_⟩
 refine IWp.now ?_
 simp [go_sem]
 exact hR _ _ _ rfl (by simp [go_sem])
end Go.Idl
namespace Go.Idl
open Go.Proofs
def putL (P : List Ln) (x : Ln) (R : List Ln) (j : Nat) : List Ln := P.take j ++ x :: (P.drop j ++ R)
theorem putL_length {P R : List Ln} {x : Ln} {j : Nat} : (putL P x R j).length = P.length + 1 + R.length := by
 simp [putL]; omega
theorem putL_at {P R : List Ln} {x : Ln} {j : Nat} (h : j ≤ P.length) : (putL P x R j).getD j Ln0 = x := by
 have hl : (P.take j).length = j := by simp; omega
 unfold putL
 rw [List.getD_eq_getElem?_getD, List.getElem?_append_right (by omega), hl]; simp
theorem set_two {T R : List Ln} {p x : Ln} : ((T ++ p :: x :: R).set (T.length + 1) p).set T.length x = T ++ x :: p :: R := by
 rw [List.set_append_right _ _ (by omega), show T.length + 1 - T.length = 1 by omega, List.set_append_right _ _ (Nat.le_refl _), Nat.sub_self]
 rfl
theorem putL_split {P R : List Ln} {x : Ln} {j : Nat} (h : j < P.length) : putL P x R (j + 1) = P.take j ++ P.getD j Ln0 :: x :: (P.drop (j + 1) ++ R) ∧ putL P x R j = P.take j ++ x :: P.getD j Ln0 :: (P.drop (j + 1) ++ R) := by
 have hp : P.getD j Ln0 = P[j] := by simp [h]
 unfold putL
 rw [hp]
 exact ⟨by rw [List.take_succ_eq_append_getElem h, List.append_assoc]; rfl, by rw [List.drop_eq_getElem_cons h]; rfl⟩
theorem putL_pre {P R : List Ln} {x : Ln} {j : Nat} (h : j < P.length) : (putL P x R (j + 1)).getD j Ln0 = P.getD j Ln0 := by
 have hl : (P.take j).length = j := by simp; omega
 rw [(putL_split h).1, List.getD_eq_getElem?_getD, List.getElem?_append_right (by omega), hl]; simp
theorem putL_swap {P R : List Ln} {x : Ln} {j : Nat} (h : j < P.length) : ((putL P x R (j + 1)).set (j + 1) (P.getD j Ln0)).set j x = putL P x R j := by
 have hl : (P.take j).length = j := by simp; omega
 rw [(putL_split h).1, (putL_split h).2]
 have := set_two (T := P.take j) (R := P.drop (j + 1) ++ R) (p := P.getD j Ln0) (x := x)
 rwa [hl] at this
theorem putL_end {P R : List Ln} {x : Ln} : putL P x R P.length = P ++ x :: R := by simp [putL]
def srtI (L : List Ln) (i : Nat) : List Ln := srtLn (L.take i) ++ L.drop i
theorem srtI_one {L : List Ln} (h : 0 < L.length) : srtI L 1 = L := by
 cases L with
 | nil => simp at h
 | cons x l => simp [srtI, srtLn, insLn]
theorem srtI_all {L : List Ln} : srtI L L.length = srtLn L := by simp [srtI]
theorem srtI_put {L : List Ln} {i : Nat} (h : i < L.length) : srtI L i = putL (srtLn (L.take i)) (L.getD i Ln0) (L.drop (i + 1)) i := by
 have hl : (srtLn (L.take i)).length = i := by simp; omega
 have := putL_end (P := srtLn (L.take i)) (R := L.drop (i + 1)) (x := L.getD i Ln0)
 rw [hl] at this
 rw [this, srtI, List.drop_eq_getElem_cons h]
 simp [h]
theorem nodup_take {L : List Ln} (hn : (L.map (·.team)).Nodup) (i : Nat) : ((L.take i).map (·.team)).Nodup := by
 rw [List.map_take]; exact hn.sublist (List.take_sublist _ _)
theorem srtI_stop {L : List Ln} (hn : (L.map (·.team)).Nodup) {i j : Nat} (h : i < L.length) (hj : j ≤ i) (h1 : ∀ y ∈ (srtLn (L.take i)).drop j, lnLt (L.getD i Ln0) y)
  (h2 : j = 0 ∨ ¬ lnLt (L.getD i Ln0) ((srtLn (L.take i)).getD (j - 1) Ln0)) : putL (srtLn (L.take i)) (L.getD i Ln0) (L.drop (i + 1)) j = srtI L (i + 1) := by
 have hl : (srtLn (L.take i)).length = i := by simp; omega
 have hs := srtLn_sorted (nodup_take hn i)
 have hp := srtLn_perm (L.take i)
 have hx : ∀ y ∈ srtLn (L.take i), (L.getD i Ln0).team ≠ y.team := fun y hy e => by
  have hy2 := hp.mem_iff.1 hy
  obtain ⟨q, hq, rfl⟩ := List.mem_iff_getElem.1 hy2
  simp only [List.length_take] at hq
  rw [List.getElem_take] at e
  have e1 : (L.map (·.team))[q]'(by simp; omega) = (L.map (·.team))[i]'(by simpa using h) := by
   simp only [List.getElem_map]; rw [← e]; simp [h]
  have := nodup_eq hn (by simp; omega) (by simpa using h) e1
  omega
 generalize hX : L.getD i Ln0 = x at *
 have hX' : L[i] = x := by rw [← hX]; simp [h]
 generalize hP : srtLn (L.take i) = P at *
 have hsplit : P.take j ++ P.drop j = P := List.take_append_drop j P
 have hlow : ∀ y ∈ P.take j, lnLt y x := fun y hy => by
  rcases h2 with rfl | h2
  ·simp at hy
  ·have hj0 : j - 1 < P.length ∨ j = 0 := by omega
   rcases hj0 with hj1 | rfl
   ·have hg : P.getD (j - 1) Ln0 = P[j - 1] := by simp [hj1]
    rw [hg] at h2
    have h3 := lnLt_total (hx _ (List.getElem_mem hj1)) h2
    obtain ⟨q, hq, rfl⟩ := List.mem_iff_getElem.1 hy
    rw [List.getElem_take]
    simp only [List.length_take] at hq
    by_cases e : q = j - 1
    ·subst e; exact h3
    ·exact lnLt_trans (List.pairwise_iff_getElem.1 hs q (j - 1) (by omega) hj1 (by omega)) h3
   ·simp at hy
 have hperm : (P.take j ++ x :: P.drop j).Perm (L.take (i + 1)) := by
  rw [List.take_succ_eq_append_getElem h, hX']
  refine List.perm_middle.trans ?_
  rw [hsplit]
  exact ((hp.cons x)).trans (List.perm_append_comm (l₁ := [x]))
 have hsort : (P.take j ++ x :: P.drop j).Pairwise lnLt := by
  rw [List.pairwise_append, List.pairwise_cons]
  refine ⟨hs.sublist (List.take_sublist _ _), ⟨h1, hs.sublist (List.drop_sublist _ _)⟩, fun a ha b hb => ?_⟩
  rcases List.mem_cons.1 hb with rfl | hb
  ·exact hlow a ha
  ·exact lnLt_trans (hlow a ha) (h1 b hb)
 have := srtLn_unique hperm hsort (nodup_take hn (i + 1))
 unfold putL srtI
 rw [← this]; simp
def cmpLV : IV := .func (.func 29) [] []
theorem insLines_calls (L : List Ln) (h0 : 0 < L.length) (hl : L.length ≤ 16) (hn : (L.map (·.team)).Nodup) :
  ICalls Tryz.prog glT 66 [.sl 0 L.length 0 L.length none, .int .i64 0, .int .i64 L.length, cmpLV] [.rows 6 (lns L)] fun _ σ => σ = [.rows 6 (lns (srtLn L))] := by
 refine ICalls.forget (ICalls.of_bodyE false 10 [14, 34] Tryz.func66 rfl Tryz.call66 rfl fun R hR => ?_)
 obtain ⟨n, hLn⟩ : ∃ n, L.length = n := ⟨_, rfl⟩
 have hall := srtI_all (L := L)
 rw [hLn] at h0 hl hall ⊢
 unfold cmpLV at *
 have v0 : IntKind.i64.wrap 1 = 1 := by decide
 simp [go_sem, v0]
 refine IWp.loopT (α := Nat) (fun i => (⟨false, 53, 10, [14, 34], glT, [(0, .sl 0 n 0 n none), (1, .int .i64 0), (2, .int .i64 (n : Int)), (3, cmpLV), (8, .int .i64 (i : Int))], []⟩, [.rows 6 (lns (srtI L i))]))
  (fun i => 1 ≤ i ∧ i ≤ n) (fun i => n - i) 1 ⟨by omega, by omega⟩ (by simp [go_sem, cmpLV, srtI_one (show 0 < L.length by omega)]) ?_
 rintro i ⟨hi1, hi⟩
 by_cases h : i < n
 ·have hput := srtI_put (L := L) (i := i) (by omega)
  have hstop := fun j hj => srtI_stop hn (i := i) (j := j) (by omega) hj
  have hpl : (srtLn (L.take i)).length = i := by simp; omega
  have hR0 : (L.drop (i + 1)).length = n - (i + 1) := by simp; omega
  have v1 : IntKind.i64.wrap ((i : Int) + 1) = ((i + 1 : Nat) : Int) := by rw [wrap64 (by omega) (by omega)]; omega
  rw [hput]
  generalize L.getD i Ln0 = x at *
  generalize srtLn (L.take i) = P at *
  generalize L.drop (i + 1) = T at *
  have hlen : ∀ j, (putL P x T j).length = n := fun j => by rw [putL_length]; omega
  unfold cmpLV
  simp [go_sem, h]
  refine IWp.loopI (α := Nat) (fun j => (⟨false, 53, 10, [14, 34], glT, [(0, .sl 0 n 0 n none), (1, .int .i64 0), (2, .int .i64 (n : Int)), (3, cmpLV), (8, .int .i64 (i : Int)), (9, .int .i64 (j : Int))], []⟩, [.rows 6 (lns (putL P x T j))]))
   (fun j => j ≤ i ∧ ∀ y ∈ P.drop j, lnLt x y) (fun j => j) i ⟨by omega, fun y hy => by rw [List.drop_of_length_le (by omega)] at hy; cases hy⟩ (by simp [go_sem, cmpLV]) ?_
  rintro j ⟨hj, hbig⟩
  have hB := hlen j
  cases j with
  | zero =>
   have v2 : (IntKind.i64.wrap (-1)).toNat = 0 := by decide
   have e1 := lns_at (l := putL P x T 0) (i := 0) (by omega)
   have hfin := hstop 0 (by omega) hbig (.inl rfl)
   unfold cmpLV
   refine IWp.seq ?_
   refine IWp.seqI ?_
   refine Drawn.intro (fun k => .tup []) ?_
   simp [go_sem, hB, h0, e1, v2]
   refine ⟨by decide +kernel, ?_⟩
   refine IWp.now ?_
   simp [go_sem]
   exact ⟨i + 1, ⟨v1, by rw [hfin]⟩, ⟨by omega, by omega⟩, by omega⟩
  | succ j =>
   have v2 : IntKind.i64.wrap (j : Int) = (j : Int) := wrap64 (by omega) (by omega)
   have a1 : j + 1 < n := by omega
   have a2 : j < n := by omega
   have e1 := lns_at (l := putL P x T (j + 1)) (i := j + 1) (by omega)
   have e2 := lns_at (l := putL P x T (j + 1)) (i := j) (by omega)
   rw [putL_at (by omega)] at e1
   rw [putL_pre (by omega)] at e2
   have c1 := table1_fun x (P.getD j Ln0)
   have hcl := cmpL_lt x (P.getD j Ln0)
   have hsw := putL_swap (P := P) (R := T) (x := x) (j := j) (by omega)
   have hstop' := hstop (j + 1) hj hbig
   rw [Nat.add_sub_cancel] at hstop'
   have hpj : P.getD j Ln0 = P[j]'(by omega) := by simp [show j < P.length by omega]
   have hnext : lnLt x (P.getD j Ln0) → ∀ y ∈ P.drop j, lnLt x y := fun hx y hy => by
    rw [List.drop_eq_getElem_cons (by omega)] at hy
    rcases List.mem_cons.1 hy with rfl | hy
    ·rwa [← hpj]
    ·exact hbig y hy
   clear hpj
   have q1 : ∀ hh, (lns (putL P x T (j + 1)))[j + 1]'hh = x.c := fun hh => by
    rw [lns_getElem]; have := putL_at (P := P) (R := T) (x := x) (j := j + 1) (by omega)
    rw [List.getD_eq_getElem?_getD, List.getElem?_eq_getElem (by omega), Option.getD_some] at this
    rw [this]; rfl
   have q2 : ∀ hh, (lns (putL P x T (j + 1)))[j]'hh = (P.getD j Ln0).c := fun hh => by
    rw [lns_getElem]; have := putL_pre (P := P) (R := T) (x := x) (j := j) (by omega)
    rw [List.getD_eq_getElem?_getD, List.getElem?_eq_getElem (by omega), Option.getD_some] at this
    rw [this]; rfl
   have hsw2 : ((lns (putL P x T (j + 1))).set (j + 1) (P.getD j Ln0).c).set j x.c = lns (putL P x T j) := by rw [← hsw, lns_set, lns_set]
   generalize P.getD j Ln0 = y at *
   generalize hC : cmpL x y = C at *
   generalize putL P x T (j + 1) = B at *
   obtain ⟨x1, x2, x3, x4, x5, x6⟩ := x
   obtain ⟨y1, y2, y3, y4, y5, y6⟩ := y
   simp only [Ln.c, Ln.v] at *
   unfold cmpLV
   refine IWp.seq ?_
   refine IWp.seqI ?_
   refine Drawn.intro (fun k => if k = 14 then .int .i64 C else .tup []) ?_
   simp [go_sem, hB, v2, a1, a2, e1, e2, q1, q2, c1]
   refine ⟨by omega, by decide +kernel, ?_⟩
   by_cases hx : C < 0
   ·have hI2 := hnext (hcl.1 hx)
    refine IWp.now ?_
    simp [go_sem, hx]
    refine IWp.now ?_
    simp [go_sem, hB, v2, a1, a2, e1, e2, q1, q2]
    refine ⟨by omega, by decide +kernel, j, ⟨rfl, ?_⟩, ⟨by omega, hI2⟩, by omega⟩
    exact hsw2.symm
   ·have hfin := hstop' (.inr fun hc => hx (hcl.2 hc))
    refine IWp.now ?_
    simp [go_sem, hx]
    exact ⟨i + 1, ⟨v1, by rw [hfin]⟩, ⟨by omega, by omega⟩, by omega⟩
 ·obtain rfl : i = n := by omega
  unfold cmpLV
  simp [go_sem]
  rw [hall]
  exact hR _ _ ⟨_, by simp [go_sem], rfl⟩
theorem pdqLines_calls (L : List Ln) (lim : Int) (h0 : 0 < L.length) (hl : L.length ≤ 12) (hn : (L.map (·.team)).Nodup) :
  ICalls Tryz.prog glT 49 [.sl 0 L.length 0 L.length none, .int .i64 0, .int .i64 L.length, .int .i64 lim, cmpLV] [.rows 6 (lns L)] fun _ σ => σ = [.rows 6 (lns (srtLn L))] := by
 refine ICalls.forget (ICalls.of_bodyE false 21 [25, 32, 39, 56, 75, 80, 97, 125] Tryz.func49 rfl Tryz.call49 rfl fun R hR => ?_)
 have ci := insLines_calls L h0 (by omega) hn
 generalize srtLn L = L' at *
 obtain ⟨n, hll⟩ : ∃ n, L.length = n := ⟨_, rfl⟩
 rw [hll] at h0 hl ci ⊢
 unfold cmpLV at *
 simp [go_sem]
 refine IWp.loopT (α := Unit) (fun p => (⟨false, 148, 21, [25, 32, 39, 56, 75, 80, 97, 125], glT, [(0, .sl 0 n 0 n none), (1, .int .i64 0), (2, .int .i64 (n : Int)), (3, .int .i64 lim), (4, .func (.func 29) [] []), (10, .bool true), (11, .bool true)], []⟩, [.rows 6 (lns L)]))
  (fun p => True) (fun p => 0) () trivial (by simp [go_sem]) ?_
 rintro _ _
 have z1 : IntKind.i64.wrap (n : Int) = (n : Int) := wrap64 (by omega) (by omega)
 have g1 : (n : Int) ≤ 12 := by omega
 simp [go_sem, z1, g1, hll]
 refine ci.at [0] (by simp [go_sem]) ?_
 rintro _ _ rfl
 simp [go_sem]
 exact hR _ _ ⟨_, by simp [go_sem], rfl⟩
theorem sortLines_calls (L : List Ln) (h0 : 0 < L.length) (hl : L.length ≤ 12) (hn : (L.map (·.team)).Nodup) :
  ICalls Tryz.prog glT 28 [.sl 0 L.length 0 L.length none, cmpLV] [.rows 6 (lns L)] fun _ σ => σ = [.rows 6 (lns (srtLn L))] := by
 refine ICalls.forget (ICalls.of_bodyE false 5 [] Tryz.func28 rfl Tryz.call28 rfl fun R hR => ?_)
 have cl := len_fun L.length (by omega)
 have ci := pdqLines_calls L (Lib.bitLen L.length) h0 hl hn
 generalize srtLn L = L' at *
 obtain ⟨n, hll⟩ : ∃ n, L.length = n := ⟨_, rfl⟩
 rw [hll] at h0 hl cl ci ⊢
 unfold cmpLV at *
 have z1 : IntKind.u64.wrap (n : Int) = (n : Int) := by simp [IntKind.wrap, IntKind.bits, IntKind.signed]; omega
 simp [go_sem, z1, hll]
 refine cl.callF (by simp [go_sem]) ?_
 rintro _ rfl
 simp [go_sem]
 refine ci.at [0] (by simp [go_sem]) ?_
 rintro _ _ rfl
 simp [go_sem]
 exact hR _ _ ⟨_, by simp [go_sem], rfl⟩
end Go.Idl
