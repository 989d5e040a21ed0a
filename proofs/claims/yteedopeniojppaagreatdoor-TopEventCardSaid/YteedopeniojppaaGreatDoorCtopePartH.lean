import Derived.Test.YteedopeniojppaaGreatDoorCtopePartG
set_option linter.all false
set_option maxHeartbeats 16000000
set_option maxRecDepth 40000
namespace Go.Idl
open Go.Proofs
theorem enP_get {T : List ((Int × Int) × Int)} {i : Nat} {kv : IV × IV} (h : (enP T)[i]? = some kv) : ∃ p, T[i]? = some p ∧ kv = (k2 p.1, .int .i64 p.2) := by
 unfold enP enM at h
 rw [List.getElem?_map, Option.map_eq_some_iff] at h
 obtain ⟨p, h1, h2⟩ := h
 exact ⟨p, h1, h2.symm⟩
theorem enP_erase {T : List ((Int × Int) × Int)} {i : Nat} : (enP T).eraseIdx i = enP (T.eraseIdx i) := by
 unfold enP enM
 apply List.ext_getElem?
 intro j
 rw [List.getElem?_eraseIdx, List.getElem?_map, List.getElem?_map, List.getElem?_map, List.getElem?_eraseIdx]
 split <;> rfl
theorem erase_perm {α : Type} : ∀ {T : List α} {k : Nat} (h : k < T.length), (T[k] :: T.eraseIdx k).Perm T
 | x :: T, 0, _ => List.Perm.refl _
 | x :: T, k + 1, h => by
  simp only [List.getElem_cons_succ, List.eraseIdx_cons_succ]
  exact (List.Perm.swap x _ _).trans ((erase_perm (T := T) (k := k) (by simpa using h)).cons x)
theorem enP_eq_nil {T : List ((Int × Int) × Int)} : enP T = [] ↔ T = [] := by simp [enP, enM]
def lnsI (n i : Nat) : List Ln := (List.range n).map fun k : Nat => ⟨if k < i then (k : Int) + 1 else 0, 0, 0, 0, 0, false⟩
@[simp] theorem lnsI_length (n i : Nat) : (lnsI n i).length = n := by simp [lnsI]
theorem lnsI_zero (n : Nat) : lns (lnsI n 0) = List.replicate n [.int .i64 0, .int .i64 0, .int .i64 0, .int .i64 0, .int .i64 0, .bool false] := by
 simp [lnsI, lns, mp, Ln.c, List.eq_replicate_iff]
theorem lnsI_all (n : Nat) : lnsI n n = lns0 n := by
 unfold lnsI lns0
 apply List.map_congr_left
 intro k hk
 rw [if_pos (List.mem_range.1 hk)]
theorem lnsI_step {n i : Nat} (h : i < n) : (lns (lnsI n i)).set i [.int .i64 ((i : Int) + 1), .int .i64 0, .int .i64 0, .int .i64 0, .int .i64 0, .bool false] = lns (lnsI n (i + 1)) := by
 have e : lnsI n (i + 1) = (lnsI n i).set i ⟨(i : Int) + 1, 0, 0, 0, 0, false⟩ := by
  apply List.ext_getElem
  ·simp
  ·intro k h1 h2
   rw [List.getElem_set]
   simp only [lnsI, List.getElem_map, List.getElem_range]
   by_cases hk : i = k
   ·subst hk; simp
   ·rw [if_neg hk]
    simp only [Ln.mk.injEq, and_true]
    split <;> split <;> omega
 rw [e, lns_set]; rfl
def Bd1 (k : Nat) (x : Ln) : Prop := (0 ≤ x.played ∧ x.played ≤ (k : Int)) ∧ (0 ≤ x.points ∧ x.points ≤ 200 * (k : Int)) ∧ -(1000000 * (k : Int)) ≤ x.margin ∧ x.margin ≤ 1000000 * (k : Int)
def BdL (k : Nat) (L : List Ln) : Prop := ∀ x ∈ L, Bd1 k x
theorem BdL.mono {k k' : Nat} {L : List Ln} (h : BdL k L) (hk : k ≤ k') : BdL k' L := fun x hx => by
 have := h x hx; unfold Bd1 at *; omega
theorem BdL.up {k k' : Nat} {L : List Ln} {i : Nat} {f : Ln → Ln} (h : BdL k L) (hk : k ≤ k') (hf : ∀ x, Bd1 k x → Bd1 k' (f x)) : BdL k' (upL L i f) := fun x hx => by
 obtain ⟨j, hj, rfl⟩ := List.mem_iff_getElem.1 hx
 have hg := upL_get L i f j
 rw [List.getElem?_eq_getElem hj] at hg
 have hj' : j < L.length := by simpa using hj
 by_cases e : i = j
 ·rw [if_pos e, List.getElem?_eq_getElem hj'] at hg
  simp only [Option.map_some, Option.some.injEq] at hg
  rw [hg]
  exact hf _ (h _ (List.getElem_mem hj'))
 ·rw [if_neg e, List.getElem?_eq_getElem hj'] at hg
  simp only [Option.some.injEq] at hg
  rw [hg]
  exact h.mono hk _ (List.getElem_mem hj')
theorem mrB_bd {m : Int} (h : mrB m = true) : -1000000 ≤ m ∧ m ≤ 1000000 := by simpa [mrB] using h
theorem BdL.addA {S : List Int} {k : Nat} {L : List Ln} (h : BdL k L) (hS : S.length ≤ 50) {m : Int} (hm : mrB m = true) (i : Nat) : BdL (k + 1) (upL L i (Go.Idl.addA S m)) := by
 have hm' := mrB_bd hm
 have := pt_bd S m
 refine h.up (by omega) fun x hx => ?_
 unfold Bd1 at *
 simp only [Go.Idl.addA]
 omega
theorem BdL.addB {S : List Int} {k : Nat} {L : List Ln} (h : BdL k L) (hS : S.length ≤ 50) {m : Int} (hm : mrB m = true) (i : Nat) : BdL (k + 1) (upL L i (Go.Idl.addB S m)) := by
 have hm' := mrB_bd hm
 have := pt_bd S m
 refine h.up (by omega) fun x hx => ?_
 unfold Bd1 at *
 simp only [Go.Idl.addB]
 omega
theorem BdL.zero (n : Nat) : BdL 0 (lns0 n) := fun x hx => by
 obtain ⟨i, _, rfl⟩ := List.mem_map.1 hx
 simp [Bd1]
structure ErOK (p : Pl) (r : Er) : Prop where
 e : ∀ x ∈ r.mg, (1 ≤ x.1.1 ∧ x.1.1 ≤ p.t) ∧ (1 ≤ x.1.2 ∧ x.1.2 ≤ p.t) ∧ mrB x.2 = true
 y : 0 ≤ r.bye ∧ r.bye ≤ p.t
 l : r.mg.length ≤ 100
structure PlOK (p : Pl) : Prop where
 t : 2 ≤ p.t ∧ p.t ≤ 12
 s : scB p.s = true
 b : 0 ≤ p.b ∧ p.b ≤ 2 * p.s.length
def plcI (L : List Ln) (i : Nat) : List Ln := plcLn 0 (L.take i) ++ L.drop i
theorem plcLn_append : ∀ (k : Nat) (A B : List Ln), plcLn k (A ++ B) = plcLn k A ++ plcLn (k + A.length) B
 | _, [], _ => by simp [plcLn]
 | k, x :: A, B => by simp only [List.cons_append, plcLn, plcLn_append (k + 1) A B, List.length_cons]; rw [show k + 1 + A.length = k + (A.length + 1) by omega]
theorem plcI_length {L : List Ln} {i : Nat} (h : i ≤ L.length) : (plcI L i).length = L.length := by simp [plcI]; omega
theorem plcI_at {L : List Ln} {i : Nat} (h : i < L.length) : (plcI L i).getD i Ln0 = L.getD i Ln0 := by
 unfold plcI
 have hl : (plcLn 0 (L.take i)).length = i := by simp; omega
 rw [List.getD_eq_getElem?_getD, List.getElem?_append_right (by omega), hl]
 simp
theorem plcI_step {L : List Ln} {i : Nat} (h : i < L.length) : (plcI L i).set i { L.getD i Ln0 with place := (i : Int) + 1 } = plcI L (i + 1) := by
 have hl : (plcLn 0 (L.take i)).length = i := by simp; omega
 have hL : L.getD i Ln0 = L[i] := by simp [h]
 unfold plcI
 rw [List.set_append_right _ _ (by omega), hl, Nat.sub_self, List.drop_eq_getElem_cons h, List.set_cons_zero, List.take_succ_eq_append_getElem h, plcLn_append, hL]
 simp only [List.length_take, Nat.min_eq_left (Nat.le_of_lt h), plcLn, Nat.zero_add, List.append_assoc, List.cons_append, List.nil_append]
theorem plcI_all {L : List Ln} : plcI L L.length = plcLn 0 L := by simp [plcI]
theorem table_fun (p : Pl) (l : List Er) (hp : PlOK p) (hl : l.length ≤ 100) (hr : ∀ r ∈ l, ErOK p r) : FN 16 [p.v, .fz 3 (rds l)] (fun v => v = .fz 6 (lns (tabL9 p l))) := by
 refine IFun.of_bodyW false 18 [22, 23, 24, 33, 34, 35, 36, 41, 43, 113, 135, 136, 137] Tryz.func16 rfl Tryz.call16 rfl fun R hR => ?_
 obtain ⟨n, hn⟩ : ∃ n : Nat, p.t = n := ⟨p.t.toNat, by have := hp.t; omega⟩
 have hn2 : 2 ≤ n ∧ n ≤ 12 := by have := hp.t; omega
 have hq : p = ⟨(n : Int), p.r, p.b, p.s⟩ := by rw [← hn]
 have hpt : p.t.toNat = n := by rw [hn]; rfl
 obtain ⟨t, rr, b, S⟩ := p
 simp only at hn hpt
 subst hn
 clear hq
 simp only [Pl.v]
 refine IWp.seqI ?_
 simp [go_sem]
 refine IWp.seqI ?_
 simp [go_sem]
 refine ⟨by omega, ?_⟩
 rw [← lnsI_zero n]
 refine IWp.seqT (α := Unit) (fun _ => (⟨false, 147, 18, [22, 23, 24, 33, 34, 35, 36, 41, 43, 113, 135, 136, 137], glT, [(1, .fz 3 (rds l)), (2, .ptr 0 1 0 0), (5, .sl 1 n 0 n none)], []⟩, [.rows 4 [[.int .i64 (n : Int), .int .i64 rr, .int .i64 b, .fz 1 (ints S)]], .rows 6 (lns (lns0 n))])) (fun _ => True) ?_ ?_
 ·simp [go_sem]
  refine IWp.loopT (α := Nat) (fun i => (⟨false, 147, 18, [22, 23, 24, 33, 34, 35, 36, 41, 43, 113, 135, 136, 137], glT, [(1, .fz 3 (rds l)), (2, .ptr 0 1 0 0), (5, .sl 1 n 0 n none), (22, .int .i64 n), (23, .int .i64 (i : Int))], []⟩, [.rows 4 [[.int .i64 (n : Int), .int .i64 rr, .int .i64 b, .fz 1 (ints S)]], .rows 6 (lns (lnsI n i))]))
   (fun i => i ≤ n) (fun i => n - i) 0 (by omega) (by simp [go_sem]) ?_
  intro i hi
  by_cases h : i < n
  ·have w1 : IntKind.i64.wrap ((i : Int) + 1) = i + 1 := wrap64 (by omega) (by omega)
   have hs := lnsI_step h
   have e1 := lns_at (l := lnsI n i) (i := i) (by simpa using h)
   have e2 : (lnsI n i).getD i Ln0 = Ln0 := by
    simp [lnsI, h]; rfl
   rw [e2] at e1
   simp only [Ln.c, Ln0] at e1
   have e3 : ∀ hh, (lns (lnsI n i))[i]'hh = [.int .i64 0, .int .i64 0, .int .i64 0, .int .i64 0, .int .i64 0, .bool false] := fun hh => by
    rw [List.getElem?_eq_getElem hh, Option.getD_some] at e1; exact e1
   simp [go_sem, h, w1, e1, e3]
   exact ⟨i + 1, ⟨by omega, hs.symm⟩, by omega, by omega⟩
  ·obtain rfl : i = n := by omega
   rw [lnsI_all]
   simp [go_sem]
 rintro _ _
 obtain ⟨hS1, hS2⟩ := scB_len hp.s
 have hb := hp.b
 simp only at hS1 hS2 hb
 refine IWp.seqT (α := Unit) (fun _ => (⟨false, 147, 18, [22, 23, 24, 33, 34, 35, 36, 41, 43, 113, 135, 136, 137], glT, [(5, .sl 1 n 0 n none)], []⟩, [.dead, .rows 6 (lns (tabU ⟨(n : Int), rr, b, S⟩ l))])) (fun _ => True) ?_ ?_
 ·simp [go_sem]
  refine IWp.loopI (α := Nat) (fun i => (⟨false, 147, 18, [22, 23, 24, 33, 34, 35, 36, 41, 43, 113, 135, 136, 137], glT, [(2, .ptr 0 1 0 0), (5, .sl 1 n 0 n none), (33, .fz 3 (rds l)), (34, .int .i64 l.length), (35, .int .i64 (i : Int))], []⟩, [.rows 4 [[.int .i64 (n : Int), .int .i64 rr, .int .i64 b, .fz 1 (ints S)]], .rows 6 (lns ((l.take i).foldl (addR ⟨(n : Int), rr, b, S⟩) (lns0 n)))]))
   (fun i => i ≤ l.length ∧ BdL (201 * i) ((l.take i).foldl (addR ⟨(n : Int), rr, b, S⟩) (lns0 n))) (fun i => l.length - i) 0 ⟨by omega, BdL.zero n⟩ (by simp [go_sem]) ?_
  rintro i ⟨hi, hB⟩
  by_cases h : i < l.length
  ·have w1 : IntKind.i64.wrap ((i : Int) + 1) = i + 1 := wrap64 (by omega) (by omega)
   have hok := hr _ (List.getElem_mem h)
   have hsn : (l.take (i + 1)).foldl (addR ⟨(n : Int), rr, b, S⟩) (lns0 n) = addR ⟨(n : Int), rr, b, S⟩ ((l.take i).foldl (addR ⟨(n : Int), rr, b, S⟩) (lns0 n)) l[i] := by
    rw [List.take_succ_eq_append_getElem h, List.foldl_append]; rfl
   have hLn : ((l.take i).foldl (addR ⟨(n : Int), rr, b, S⟩) (lns0 n)).length = n := by rw [foldR_length]; simp
   generalize (l.take i).foldl (addR ⟨(n : Int), rr, b, S⟩) (lns0 n) = L0 at *
   obtain ⟨r, hr9⟩ : ∃ r, l[i] = r := ⟨_, rfl⟩
   rw [hr9] at hok hsn
   obtain ⟨d, y, M⟩ := r
   obtain ⟨hok1, hok2, hok3⟩ := hok
   simp only at hok1 hok2 hok3
   refine IWp.seqI ?_
   simp [go_sem, h]
   refine IWp.seqI ?_
   simp [go_sem]
   refine IWp.seq ?_
   refine IWp.block ?_
   refine IWp.seqI ?_
   simp [go_sem, h, hr9]
   refine IWp.seqT (α := List Ln) (fun L => (⟨false, 147, 18, [22, 23, 24, 33, 34, 35, 36, 41, 43, 113, 135, 136, 137], glT, [(2, .ptr 0 1 0 0), (5, .sl 1 n 0 n none), (8, .ptr 2 1 0 0), (33, .fz 3 (rds l)), (34, .int .i64 l.length), (35, .int .i64 (i : Int))], []⟩, [.rows 4 [[.int .i64 (n : Int), .int .i64 rr, .int .i64 b, .fz 1 (ints S)]], .rows 6 (lns L), .rows 3 [[.fz 2 (prs d), .int .i64 y, .fm (enP M)]]])) (fun L => L = M.foldl (addE S) L0 ∧ BdL (201 * i + 2 * M.length) L) ?_ ?_
   ·simp [go_sem]
    refine IWp.shut fun Q hQ => ?_
    refine IWp.loopI (α := Option ((Int × Int) × Int) × List ((Int × Int) × Int) × List Ln) (fun x => (⟨false, 147, 18, [22, 23, 24, 33, 34, 35, 36, 41, 43, 113, 135, 136, 137], glT, [(2, .ptr 0 1 0 0), (5, .sl 1 n 0 n none), (8, .ptr 2 1 0 0), (33, .fz 3 (rds l)), (34, .int .i64 l.length), (35, .int .i64 (i : Int)), (41, .iter 3)], []⟩, [.rows 4 [[.int .i64 (n : Int), .int .i64 rr, .int .i64 b, .fz 1 (ints S)]], .rows 6 (lns x.2.2), .rows 3 [[.fz 2 (prs d), .int .i64 y, .fm (enP M)]], .iter none (enP M) (x.1.map fun e => (k2 e.1, .int .i64 e.2)) (enP x.2.1)]))
     (fun x => ∃ D, (D ++ x.2.1).Perm M ∧ x.2.2 = D.foldl (addE S) L0 ∧ BdL (201 * i + 2 * D.length) x.2.2) (fun x => x.2.1.length) (none, M, L0) ⟨[], List.Perm.refl _, rfl, hB⟩ (by simp [go_sem]) ?_
    rintro ⟨cur, T, L⟩ ⟨D, hD1, hD2, hD3⟩
    simp only at hD1 hD2 hD3
    refine IWp.seqI ?_
    simp [go_sem]
    refine ⟨fun h => ?_, fun k kv hkv => ?_⟩
    ·have hT := enP_eq_nil.1 h
     subst hT
     rw [List.append_nil] at hD1
     simp [go_sem]
     refine IWp.now ?_
     simp [go_sem]
     rw [hQ]
     simp [go_sem]
     exact ⟨L, rfl, by rw [hD2]; exact addE_perm S hD1 L0, by rw [← hD1.length_eq]; exact hD3⟩
    ·obtain ⟨⟨⟨a, c⟩, m⟩, hp9, rfl⟩ := enP_get hkv
     rw [enP_erase]
     have hmem := hD1.mem_iff.1 (List.mem_append_right _ (List.mem_of_getElem? hp9))
     obtain ⟨ha, hc, hm⟩ := hok1 _ hmem
     simp only at ha hc hm
     have hlt := (List.getElem?_eq_some_iff.1 hp9).1
     have hlen : (T.eraseIdx k).length < T.length := by rw [List.length_eraseIdx, if_pos hlt]; omega
     have hD1' : ((D ++ [((a, c), m)]) ++ T.eraseIdx k).Perm M := by
      refine List.Perm.trans ?_ hD1
      rw [List.append_assoc]
      refine List.Perm.append_left D ?_
      have : T[k] = ((a, c), m) := (List.getElem?_eq_some_iff.1 hp9).2
      rw [← this]
      exact (erase_perm hlt)
     have hDl : D.length + 1 ≤ M.length := by have := hD1.length_eq; simp at this; omega
     have hD2' : (D ++ [((a, c), m)]).foldl (addE S) L0 = addE S L ((a, c), m) := by rw [List.foldl_append, ← hD2]; rfl
     have hLl : L.length = n := by rw [hD2, foldE_length]; exact hLn
     clear hkv hp9 hmem hD1 hD2
     have hb1 := hD3.addA hS2 hm (a - 1).toNat
     have hb2 := hb1.addB hS2 hm (c - 1).toNat
     have wa : IntKind.i64.wrap (a - 1) = (((a - 1).toNat : Nat) : Int) := by rw [wrap64 (by omega) (by omega)]; omega
     have wc : IntKind.i64.wrap (c - 1) = (((c - 1).toNat : Nat) : Int) := by rw [wrap64 (by omega) (by omega)]; omega
     have la : (a - 1).toNat < n := by omega
     have lc : (c - 1).toNat < n := by omega
     unfold addE at hD2'
     simp only at hD2'
     generalize (a - 1).toNat = A at *
     generalize (c - 1).toNat = C at *
     have cp := Points_fun S m (by omega)
     unfold ptsV at cp
     rw [if_pos ⟨hp.s, hm⟩] at cp
     have e1 := lns_at (l := L) (i := A) (by omega)
     have e2 : ∀ hh, (lns L)[A]'hh = (L.getD A Ln0).c := fun hh => by rw [List.getElem?_eq_getElem hh, Option.getD_some] at e1; exact e1
     have hBx := hD3 (L.getD A Ln0) (by rw [List.getD_eq_getElem?_getD, List.getElem?_eq_getElem (by omega), Option.getD_some]; exact List.getElem_mem _)
     have hU : lns (upL L A (addA S m)) = (lns L).set A (addA S m (L.getD A Ln0)).c := lns_set
     have hL1 : (upL L A (addA S m)).length = n := by rw [upL_length]; exact hLl
     have f1 := lns_at (l := upL L A (addA S m)) (i := C) (by omega)
     have f2 : ∀ hh, (lns (upL L A (addA S m)))[C]'hh = ((upL L A (addA S m)).getD C Ln0).c := fun hh => by rw [List.getElem?_eq_getElem hh, Option.getD_some] at f1; exact f1
     have hBy := hb1 ((upL L A (addA S m)).getD C Ln0) (by rw [List.getD_eq_getElem?_getD, List.getElem?_eq_getElem (by omega), Option.getD_some]; exact List.getElem_mem _)
     have hV : lns (upL (upL L A (addA S m)) C (addB S m)) = (lns (upL L A (addA S m))).set C (addB S m ((upL L A (addA S m)).getD C Ln0)).c := lns_set
     have hpb := pt_bd S m
     have hmb := mrB_bd hm
     generalize upL L A (addA S m) = L1 at *
     generalize L.getD A Ln0 = X at *
     generalize L1.getD C Ln0 = Y at *
     obtain ⟨x1, x2, x3, x4, x5, x6⟩ := X
     obtain ⟨y1, y2, y3, y4, y5, y6⟩ := Y
     unfold Bd1 at hBx hBy
     simp only [addA, addB, Ln.c] at e1 e2 f1 f2 hU hV hBx hBy
     generalize ptA S m = pA at *
     generalize ptB S m = pB at *
     have u1 : IntKind.i64.wrap (x3 + 1) = x3 + 1 := wrap64 (by omega) (by omega)
     have u2 : IntKind.i64.wrap (x4 + pA) = x4 + pA := wrap64 (by omega) (by omega)
     have u3 : IntKind.i64.wrap (x5 + m) = x5 + m := wrap64 (by omega) (by omega)
     have u4 : IntKind.i64.wrap (y3 + 1) = y3 + 1 := wrap64 (by omega) (by omega)
     have u5 : IntKind.i64.wrap (y4 + pB) = y4 + pB := wrap64 (by omega) (by omega)
     have u6 : IntKind.i64.wrap (y5 - m) = y5 - m := wrap64 (by omega) (by omega)
     clear hBx hBy hpb
     simp [go_sem]
     refine IWp.seqI ?_
     simp [go_sem]
     refine IWp.block ?_
     refine IWp.seqI ?_
     simp [go_sem, k2]
     refine IWp.seqI ?_
     simp [go_sem, wa, wc, la, lc, hLl]
     refine ⟨by decide +kernel, ?_⟩
     refine IWp.seqI ?_
     simp [go_sem]
     refine cp.callF (by simp [go_sem]) ?_
     rintro _ rfl
     simp [go_sem]
     refine IWp.seqI ?_
     simp [go_sem, la, lc, hLl, e1, e2, u1, u2, u3]
     refine IWp.seqI ?_
     simp [go_sem, la, lc, hLl, e1, e2, u1, u2, u3]
     refine IWp.seqI ?_
     simp [go_sem, la, lc, hLl, e1, e2, u1, u2, u3]
     rw [← hU]
     refine IWp.seqI ?_
     simp [go_sem, la, lc, hLl, hL1, f1, f2, u4, u5, u6]
     refine IWp.seqI ?_
     simp [go_sem, la, lc, hLl, hL1, f1, f2, u4, u5, u6]
     refine IWp.now ?_
     simp [go_sem, la, lc, hLl, hL1, f1, f2, u4, u5, u6]
     rw [← hV]
     refine ⟨some ((a, c), m), T.eraseIdx k, _, ⟨⟨rfl, rfl, rfl⟩, ?_⟩, ⟨D ++ [((a, c), m)], hD1', hD2'.symm, ?_⟩, hlen⟩
     ·rintro _ _ x x1 x2 _ rfl rfl
      simp [go_sem]
     ·rw [List.length_append, show 201 * i + 2 * (D.length + [((a, c), m)].length) = 201 * i + 2 * D.length + 1 + 1 by simp; omega]
      exact hb2
   ·rintro G ⟨hG1, hG2⟩
    have hGl : G.length = n := by rw [hG1, foldE_length]; exact hLn
    rw [show addR ⟨(n : Int), rr, b, S⟩ L0 ⟨d, y, M⟩ = if 0 < y then upL (M.foldl (addE S) L0) (y - 1).toNat (fun x => { x with points := x.points + b, bye := true }) else M.foldl (addE S) L0 from rfl, ← hG1] at hsn
    have hG3 := hG2.mono (k' := 201 * i + 200) (by omega)
    clear hG1 hG2
    by_cases hy : 0 < y
    ·rw [if_pos hy] at hsn
     have wy : IntKind.i64.wrap (y - 1) = (((y - 1).toNat : Nat) : Int) := by rw [wrap64 (by omega) (by omega)]; omega
     have ly : (y - 1).toNat < n := by omega
     have hBn : BdL (201 * (i + 1)) (upL G (y - 1).toNat fun x => { x with points := x.points + b, bye := true }) := by
      refine hG3.up (by omega) fun x hx => ?_
      unfold Bd1 at *
      simp only
      omega
     generalize (y - 1).toNat = Y at *
     have e1 := lns_at (l := G) (i := Y) (by omega)
     have e2 : ∀ hh, (lns G)[Y]'hh = (G.getD Y Ln0).c := fun hh => by rw [List.getElem?_eq_getElem hh, Option.getD_some] at e1; exact e1
     have hBx := hG3 (G.getD Y Ln0) (by rw [List.getD_eq_getElem?_getD, List.getElem?_eq_getElem (by omega), Option.getD_some]; exact List.getElem_mem _)
     have hU : lns (upL G Y fun x => { x with points := x.points + b, bye := true }) = (lns G).set Y ({ G.getD Y Ln0 with points := (G.getD Y Ln0).points + b, bye := true } : Ln).c := lns_set
     generalize G.getD Y Ln0 = X at *
     obtain ⟨x1, x2, x3, x4, x5, x6⟩ := X
     unfold Bd1 at hBx
     simp only [Ln.c] at e1 e2 hU hBx
     have u1 : IntKind.i64.wrap (x4 + b) = x4 + b := wrap64 (by omega) (by omega)
     refine IWp.seqI ?_
     simp [go_sem]
     refine IWp.now ?_
     simp [go_sem, hy, wy, ly, hGl, e1, e2, u1]
     refine ⟨by decide +kernel, ?_⟩
     refine IWp.now ?_
     simp [go_sem, w1]
     exact ⟨i + 1, ⟨by omega, by rw [hsn]; exact hU⟩, ⟨by omega, by rw [hsn]; exact hBn⟩, by omega⟩
    ·rw [if_neg hy] at hsn
     refine IWp.seqI ?_
     simp [go_sem]
     refine IWp.now ?_
     simp [go_sem, hy]
     refine IWp.now ?_
     simp [go_sem, w1]
     exact ⟨i + 1, ⟨by omega, by rw [hsn]⟩, ⟨by omega, by rw [hsn]; exact hG3.mono (by omega)⟩, by omega⟩
  ·obtain rfl : i = l.length := by omega
   rw [List.take_length]
   refine IWp.seqI ?_
   simp [go_sem]
   refine IWp.now ?_
   simp [go_sem, tabU]
 ·rintro _ _
  have hn1 := tabU_nodup ⟨(n : Int), rr, b, S⟩ l
  have hn3 : (tabU ⟨(n : Int), rr, b, S⟩ l).length = n := by simp
  unfold tabL9 at hR
  generalize tabU ⟨(n : Int), rr, b, S⟩ l = U at *
  have cs := sortLines_calls U (by omega) (by omega) hn1
  have hsl := srtLn_length U
  rw [hn3] at cs hsl
  generalize srtLn U = V at *
  unfold cmpLV at cs
  refine IWp.seqI ?_
  simp [go_sem]
  refine cs.at [1] (by simp [go_sem]) ?_
  rintro _ _ rfl
  simp [go_sem]
  refine IWp.now ?_
  simp [go_sem, hn3]
  refine ⟨hsl.symm, ?_⟩
  refine IWp.loopT (α := Nat) (fun i => (⟨false, 147, 18, [22, 23, 24, 33, 34, 35, 36, 41, 43, 113, 135, 136, 137], glT, [(5, .sl 1 n 0 n none), (135, .int .i64 n), (136, .int .i64 (i : Int))], []⟩, [.dead, .rows 6 (lns (plcI V i))]))
   (fun i => i ≤ n) (fun i => n - i) 0 (by omega) (by simp [go_sem, plcI, plcLn, hsl]) ?_
  intro i hi
  by_cases h : i < n
  ·have w1 : IntKind.i64.wrap ((i : Int) + 1) = i + 1 := wrap64 (by omega) (by omega)
   have hs := plcI_step (L := V) (i := i) (by omega)
   have hl2 := plcI_length (L := V) (i := i) (by omega)
   have e1 := lns_at (l := plcI V i) (i := i) (by omega)
   rw [plcI_at (by omega)] at e1
   have e2 : ∀ hh, (lns (plcI V i))[i]'hh = (V.getD i Ln0).c := fun hh => by rw [List.getElem?_eq_getElem hh, Option.getD_some] at e1; exact e1
   have hU : lns (plcI V (i + 1)) = (lns (plcI V i)).set i ({ V.getD i Ln0 with place := (i : Int) + 1 } : Ln).c := by rw [← hs, lns_set]
   generalize V.getD i Ln0 = X at *
   generalize plcI V i = W at *
   obtain ⟨x1, x2, x3, x4, x5, x6⟩ := X
   simp only [Ln.c] at e1 e2 hU
   simp [go_sem, h, w1, e1, e2, hl2, hsl]
   exact ⟨i + 1, ⟨by omega, hU⟩, by omega, by omega⟩
  ·obtain rfl : i = n := by omega
   have hal := plcI_all (L := V)
   rw [hsl] at hal
   rw [hal]
   have hpl : (plcLn 0 V).length = i := by simp [hsl]
   simp [go_sem]
   exact hR _ _ _ rfl (by simp [go_sem, hpl, hsl])
end Go.Idl
namespace Go.Idl
open Go.Proofs
theorem mgs_mem {l : List Em} {n : Int} {d : List (Int × Int)} {e : (Int × Int) × Int} (h : e ∈ mgs l n d) : e.1 ∈ d ∧ mrB e.2 = true := by
 have h1 := mgs_keys (List.mem_map_of_mem (f := Prod.fst) h)
 refine ⟨h1, ?_⟩
 have h2 := mem_aget (mgs_nodup l n d) (show (e.1, e.2) ∈ mgs l n d from h)
 rw [mgs_get, if_pos h1, Option.map_eq_some_iff] at h2
 obtain ⟨m, h3, h4⟩ := h2
 have := List.find?_some h3
 simp only [isMm, Bool.and_eq_true] at this
 rw [← h4]; exact this.2
theorem draw_er {p : Pl} {l : List Em} {bf : List Er} {n : Int} (hp : PlOK p) (h : (drawR (ordT p bf) (metT bf) (byeT bf)).2.2 = 0) :
  ErOK p ⟨(drawR (ordT p bf) (metT bf) (byeT bf)).1, (drawR (ordT p bf) (metT bf) (byeT bf)).2.1, mgs l n (drawR (ordT p bf) (metT bf) (byeT bf)).1⟩ ∧ (drawR (ordT p bf) (metT bf) (byeT bf)).1.length ≤ 6 := by
 have hk := drawR_ok (ordT_nodup p bf) h
 have ht := hp.t
 generalize drawR (ordT p bf) (metT bf) (byeT bf) = q at *
 obtain ⟨d, y, e⟩ := q
 simp only at *
 have hl := hk.len
 rw [ordT_length] at hl
 have hl6 : d.length ≤ 6 := by omega
 refine ⟨⟨fun x hx => ?_, ?_, ?_⟩, hl6⟩
 ·obtain ⟨h1, h2⟩ := mgs_mem hx
  obtain ⟨h3, h4⟩ := hk.mem h1
  exact ⟨(ordT_mem p bf _).1 h3, (ordT_mem p bf _).1 h4, h2⟩
 ·simp only
  rcases (by omega : (ordT p bf).length % 2 = 0 ∨ (ordT p bf).length % 2 = 1) with h2 | h2
  ·have := hk.ev h2; omega
  ·have := (ordT_mem p bf _).1 (hk.od h2).1; omega
 ·have h1 := nodup_len (mgs_nodup l n d) (fun x hx => mgs_keys hx)
  rw [List.length_map] at h1
  simp only
  omega
theorem rchd_er {p : Pl} {l : List Em} (hp : PlOK p) {j : Nat} {r : Er} (h : (rchd p l)[j]? = some r) : ErOK p r ∧ r.draw.length ≤ 6 := by
 obtain ⟨h1, _, h3⟩ := rchd_get h
 have := draw_er (l := l) (n := (j : Int)) (bf := (rchd p l).take j) hp (by rw [h3])
 rw [h3] at this
 simp only at this
 rw [← h1] at this
 exact this
theorem rchd_erM {p : Pl} {l : List Em} (hp : PlOK p) : ∀ r ∈ rchd p l, ErOK p r := fun r hr => by
 obtain ⟨j, hj⟩ := List.mem_iff_getElem?.1 hr
 exact (rchd_er hp hj).1
theorem metT_le {p : Pl} {l : List Em} (hp : PlOK p) : ∀ j, j ≤ (rchd p l).length → (metT ((rchd p l).take j)).length ≤ 6 * j ∧ (byeT ((rchd p l).take j)).length ≤ j
 | 0, _ => by simp [metT, byeT]
 | j + 1, h => by
  have ih := metT_le (l := l) hp j (by omega)
  have hg : (rchd p l)[j]? = some ((rchd p l)[j]'(by omega)) := List.getElem?_eq_getElem _
  have := (rchd_er hp hg).2
  rw [List.take_succ_eq_append_getElem (by omega), metT_snoc, byeT_snoc]
  simp only [List.length_append]
  split <;> simp <;> omega
def reachV (p : Pl) (l : List Em) : IV := .func (.func 63) [] [.fptr 4 [[.int .i64 p.t, .int .i64 p.r, .int .i64 p.b, .fz 1 (ints p.s)]] 0 0, .fptr 1 [[.fz 4 (ems l)]] 0 0]
theorem reached_fun (p : Pl) (l : List Em) : ON 45 [p.v, .fz 4 (ems l)] (fun v => v = reachV p l) := by
 refine IFun.of_bodyZ false 5 [] Tryz.func45 rfl Tryz.call45 rfl fun R hR => ?_
 simp only [Pl.v]
 simp [go_sem]
 exact hR _ _ _ rfl (by simp [go_sem, reachV])
theorem reach_next {p : Pl} {l : List Em} {j : Nat} (hj : j ≤ (rchd p l).length) (hi : ∀ i, i < j → ((rchd p l).getD i Er0).over = true) : reach p l (p.r.toNat - j) j ((rchd p l).take j) = (rchd p l).drop j := by
 induction j with
 | zero => simp [rchd]
 | succ j ih =>
  have ih := ih (by omega) fun i hi' => hi i (by omega)
  have hlt : j < (rchd p l).length := by omega
  have hle := reach_len p l p.r.toNat 0 []
  have hle : (rchd p l).length ≤ p.r.toNat := hle
  rw [List.drop_eq_getElem_cons hlt, show p.r.toNat - j = (p.r.toNat - (j + 1)) + 1 by omega] at ih
  unfold reach at ih
  simp only at ih
  have ho := hi j (by omega)
  have hg : (rchd p l).getD j Er0 = (rchd p l)[j] := by simp [hlt]
  rw [hg] at ho
  split at ih
  ·cases ih
  ·split at ih
   ·simp only [List.cons.injEq] at ih
    rw [ih.1] at ih
    rw [List.take_succ_eq_append_getElem hlt]
    exact ih.2
   ·rename_i hno
    simp only [List.cons.injEq] at ih
    rw [ih.1] at hno
    exact absurd ho hno
def rchH (p : Pl) (l : List Em) (j : Nat) : Heap := [.rows 3 (rds ((rchd p l).take j)), .rows 2 (prs (metT ((rchd p l).take j))), .rows 1 (ints (byeT ((rchd p l).take j)))]
theorem reached1 (p : Pl) (l : List Em) (hp : PlOK p) (hpr : 1 ≤ p.r ∧ p.r ≤ 15) (hl : l.length ≤ 2 ^ 32) (lY : Nat) (O1 O2 O3 : Nat → IObj) (O0 Y : IObj) (hO : ∀ n j, 5 ≤ n → ObBl n O0 ∧ ObBl n (O1 j) ∧ ObBl n (O2 j) ∧ ObBl n (O3 j) ∧ ObBl n Y)
  (hh : O0.isHole = false ∧ Y.isHole = false ∧ ∀ j, (O1 j).isHole = false ∧ (O2 j).isHole = false ∧ (O3 j).isHole = false)
  (hY : ∀ (j : Nat) (r : Er) (τ : Heap), (rchd p l)[j]? = some r → HeBl (τ.length + 5) τ → YCalls Tryz.prog glT lY [.int .i64 (j : Int), r.v] (O0 :: O1 j :: O2 j :: O3 j :: Y :: τ) (fun v σ' => v = .bool true ∧ σ' = O0 :: O1 (j + 1) :: O2 (j + 1) :: O3 (j + 1) :: Y :: τ)) :
  ICalls Tryz.prog glT 63 [.func (.yield lY) [] [], .fptr 4 [[.int .i64 p.t, .int .i64 p.r, .int .i64 p.b, .fz 1 (ints p.s)]] 0 0, .fptr 1 [[.fz 4 (ems l)]] 0 0] [O0, O1 0, O2 0, O3 0, Y]
   fun _ σ' => σ' = [O0, O1 (rchd p l).length, O2 (rchd p l).length, O3 (rchd p l).length, Y] := by
 refine ICalls.forget (ICalls.of_bodyV false 15 [16, 17, 18, 22, 23, 24, 25, 43, 60, 69] Tryz.func63 rfl Tryz.call63 rfl fun R hR => ?_)
 have hend : ∀ (σ : Heap), fgt [O0, O1 (rchd p l).length, O2 (rchd p l).length, O3 (rchd p l).length, Y] σ → R (.tup []) σ := fun σ h => hR _ σ ⟨[O0, O1 (rchd p l).length, O2 (rchd p l).length, O3 (rchd p l).length, Y], by
  obtain ⟨a0, a1, a2, a3, a4⟩ := hO 5 (rchd p l).length (by omega)
  refine ⟨h, ?_⟩
  simp [go_sem, a0, a1, a2, a3, a4], rfl⟩
 clear hR
 refine IWp.seqI ?_
 simp [go_sem]
 refine IWp.seqI ?_
 simp [go_sem]
 refine IWp.seqI ?_
 simp [go_sem]
 refine IWp.ownNilS 3 4 (by decide) (by simp [go_sem]) ?_
 refine IWp.ownNilS 2 5 (by decide) (by simp [go_sem]) ?_
 refine IWp.ownNilS 1 6 (by decide) (by simp [go_sem]) ?_
 refine IWp.seqI ?_
 simp [go_sem]
 refine IWp.now ?_
 simp [go_sem]
 refine IWp.loopI (α := Nat) (fun j => (⟨false, 75, 15, [16, 17, 18, 22, 23, 24, 25, 43, 60, 69], glT, [(0, .func (.yield lY) [] []), (1, .fptr 4 [[.int .i64 p.t, .int .i64 p.r, .int .i64 p.b, .fz 1 (ints p.s)]] 0 0), (2, .fptr 1 [[.fz 4 (ems l)]] 0 0), (4, .sl 5 j 0 j none), (5, .sl 6 (metT ((rchd p l).take j)).length 0 (metT ((rchd p l).take j)).length none), (6, .sl 7 (byeT ((rchd p l).take j)).length 0 (byeT ((rchd p l).take j)).length none), (16, .int .i64 p.r), (17, .int .i64 (j : Int))], []⟩, [O0, O1 j, O2 j, O3 j, Y] ++ rchH p l j))
  (fun j => j ≤ (rchd p l).length ∧ ∀ i, i < j → ((rchd p l).getD i Er0).over = true) (fun j => (rchd p l).length - j) 0 ⟨by omega, fun i hi => by omega⟩ (by
   obtain ⟨a0, a1, a2, a3, a4⟩ := hO 8 0 (by omega)
   simp [go_sem, rchH, metT, byeT, a0, a1, a2, a3, a4]) ?_
 rintro j ⟨hj, hov⟩
 have hnx := reach_next hj hov
 have hle : (rchd p l).length ≤ p.r.toNat := reach_len p l _ _ _
 obtain ⟨hm1, hm2⟩ := metT_le (l := l) hp j hj
 unfold rchH
 refine IWp.seqI ?_
 by_cases h : (j : Int) < p.r
 ·simp [go_sem, h]
  refine IWp.seqI ?_
  simp [go_sem]
  refine IWp.seq ?_
  refine IWp.block ?_
  refine IWp.seqI ?_
  simp [go_sem]
  refine IWp.seqI ?_
  simp [go_sem]
  have hbl : ((rchd p l).take j).length = j := by simp; omega
  have hbe : ∀ r ∈ (rchd p l).take j, ErOK p r := fun r hr => rchd_erM hp r (List.mem_of_mem_take hr)
  have ct := table_fun p ((rchd p l).take j) hp (by omega) hbe
  have htl : (tabL9 p ((rchd p l).take j)).length = p.t.toNat := by simp [tabL9]
  have htt : (tabL9 p ((rchd p l).take j)).map (·.team) = ordT p ((rchd p l).take j) := rfl
  have hpt := hp.t
  refine IWp.ownNilS 1 8 (by decide) (by simp [go_sem]) ?_
  refine IWp.seqT (α := Unit) (fun _ => (⟨false, 75, 15, [16, 17, 18, 22, 23, 24, 25, 43, 60, 69], glT, [(0, .func (.yield lY) [] []), (1, .fptr 4 [[.int .i64 p.t, .int .i64 p.r, .int .i64 p.b, .fz 1 (ints p.s)]] 0 0), (2, .fptr 1 [[.fz 4 (ems l)]] 0 0), (4, .sl 5 j 0 j none), (5, .sl 6 (metT ((rchd p l).take j)).length 0 (metT ((rchd p l).take j)).length none), (6, .sl 7 (byeT ((rchd p l).take j)).length 0 (byeT ((rchd p l).take j)).length none), (7, .int .i64 (j : Int)), (8, .sl 8 p.t.toNat 0 p.t.toNat none), (16, .int .i64 p.r), (17, .int .i64 (j : Int))], []⟩,
   [O0, O1 j, O2 j, O3 j, Y, .rows 3 (rds ((rchd p l).take j)), .rows 2 (prs (metT ((rchd p l).take j))), .rows 1 (ints (byeT ((rchd p l).take j))), .rows 1 (ints (ordT p ((rchd p l).take j)))])) (fun _ => True) ?_ ?_
  ·generalize (rchd p l).take j = bf at *
   obtain ⟨a0, a1, a2, a3, a4⟩ := hO 9 j (by omega)
   simp only [Pl.v] at ct
   simp [go_sem]
   refine ct.callF (by simp [go_sem, hbl]) ?_
   rintro _ rfl
   simp [go_sem]
   rw [← htt]
   clear ct hbe hnx
   generalize tabL9 p bf = TB at *
   obtain ⟨n, hn⟩ : ∃ n, p.t.toNat = n := ⟨_, rfl⟩
   rw [hn] at htl ⊢
   have hn12 : n ≤ 12 := by omega
   refine IWp.loopT (α := Nat) (fun k => (⟨false, 75, 15, [16, 17, 18, 22, 23, 24, 25, 43, 60, 69], glT, [(0, .func (.yield lY) [] []), (1, .fptr 4 [[.int .i64 p.t, .int .i64 p.r, .int .i64 p.b, .fz 1 (ints p.s)]] 0 0), (2, .fptr 1 [[.fz 4 (ems l)]] 0 0), (4, .sl 5 j 0 j none), (5, .sl 6 (metT bf).length 0 (metT bf).length none), (6, .sl 7 (byeT bf).length 0 (byeT bf).length none), (7, .int .i64 (j : Int)), (8, .sl 8 k 0 k none), (16, .int .i64 p.r), (17, .int .i64 (j : Int)), (22, .fz 6 (lns TB)), (23, .int .i64 (n : Int)), (24, .int .i64 (k : Int))], []⟩,
    [O0, O1 j, O2 j, O3 j, Y, .rows 3 (rds bf), .rows 2 (prs (metT bf)), .rows 1 (ints (byeT bf)), .rows 1 (ints ((TB.take k).map (·.team)))]))
    (fun k => k ≤ n) (fun k => n - k) 0 (by omega) (by simp [go_sem, a0, a1, a2, a3, a4, htl]) ?_
   intro k hk
   by_cases hkn : k < n
   ·have w1 : IntKind.i64.wrap ((k : Int) + 1) = k + 1 := wrap64 (by omega) (by omega)
    have hkl : k < TB.length := by omega
    have hsn : ints ((TB.take (k + 1)).map (·.team)) = ints ((TB.take k).map (·.team)) ++ [[.int .i64 TB[k].team]] := by
     rw [List.take_succ_eq_append_getElem hkl, List.map_append, List.map_cons, List.map_nil, ints_snoc]
    have htk : (TB.take k).length = k := by simp; omega
    obtain ⟨x, hx⟩ : ∃ x, TB[k] = x := ⟨_, rfl⟩
    rw [hx] at hsn
    obtain ⟨x1, x2, x3, x4, x5, x6⟩ := x
    rw [List.map_take, List.map_take] at hsn
    simp [go_sem, hkn, hkl, hx, w1, htk, htl]
    exact ⟨⟨by omega, by omega⟩, k + 1, ⟨⟨rfl, by omega⟩, hsn, a0, a1, a2, a3, a4⟩, by omega, by omega⟩
   ·obtain rfl : k = n := by omega
    rw [show TB.take k = TB from List.take_of_length_le (by omega)]
    simp [go_sem]
    exact ⟨a0, a1, a2, a3, a4⟩
  rintro _ _
  have hol := ordT_length p ((rchd p l).take j)
  have cd := Draw_fun (ordT p ((rchd p l).take j)) (metT ((rchd p l).take j)) (byeT ((rchd p l).take j)) (by omega) (by omega) (by omega)
  unfold drawV at cd
  rw [show p.r.toNat - j = (p.r.toNat - j - 1) + 1 by omega] at hnx
  unfold reach at hnx
  simp only at hnx
  have her := draw_er (l := l) (n := (j : Int)) (bf := (rchd p l).take j) hp
  generalize hq : drawR (ordT p ((rchd p l).take j)) (metT ((rchd p l).take j)) (byeT ((rchd p l).take j)) = q at *
  obtain ⟨d, y, e⟩ := q
  simp only at cd hnx her
  have hsucc : ∀ r, (rchd p l)[j]? = some r → (rchd p l).take (j + 1) = (rchd p l).take j ++ [r] := fun r hr => by
   obtain ⟨h1, h2⟩ := List.getElem?_eq_some_iff.1 hr
   rw [List.take_succ_eq_append_getElem h1, h2]
  generalize (rchd p l).take j = bf at *
  obtain ⟨a0, a1, a2, a3, a4⟩ := hO 9 j (by omega)
  refine IWp.seqI ?_
  simp [go_sem]
  refine cd.callF (by simp [go_sem, hol]) ?_
  rintro _ rfl
  simp [go_sem]
  refine IWp.seqI ?_
  simp [go_sem]
  by_cases he : e = 0
  case neg =>
   rw [if_pos he] at hnx
   have hjl : j = (rchd p l).length := by
    have := congrArg List.length hnx
    simp at this; omega
   simp [go_sem, he]
   rw [hjl]
   exact hend _ (by simp [go_sem])
  subst he
  rw [if_neg (by simp)] at hnx
  obtain ⟨her1, her2⟩ := her rfl
  have cm := margins_fun l j d hl (by omega)
  simp [go_sem]
  refine IWp.seqI ?_
  simp [go_sem]
  refine cm.callF (by simp [go_sem]) ?_
  rintro _ rfl
  simp [go_sem]
  have hfst : ∃ r, (rchd p l)[j]? = some r ∧ r = ⟨d, y, mgs l j d⟩ := by
   split at hnx
   ·exact ⟨_, by have := congrArg List.head? hnx; rw [List.head?_drop] at this; exact this.symm, rfl⟩
   ·exact ⟨_, by have := congrArg List.head? hnx; rw [List.head?_drop] at this; exact this.symm, rfl⟩
  obtain ⟨r, hr1, rfl⟩ := hfst
  have cy := hY j _ [.rows 3 (rds bf), .rows 2 (prs (metT bf)), .rows 1 (ints (byeT bf)), .rows 1 (ints (ordT p bf)), .rows 3 [[.fz 2 (prs d), .int .i64 y, .fm (enP (mgs l j d))]]] hr1 (by simp [go_sem])
  have co := over_fun ⟨d, y, mgs l j d⟩ (by simp only; omega)
  simp only [Er.v] at cy co
  refine IWp.seq ?_
  refine IWp.seqI ?_
  simp [go_sem]
  refine cy.mono ?_
  rintro _ _ ⟨rfl, rfl⟩
  simp [go_sem]
  refine co.callF (by simp [go_sem]) ?_
  rintro _ rfl
  have hjl : j < (rchd p l).length := (List.getElem?_eq_some_iff.1 hr1).1
  cases ho : (Er.mk d y (mgs l j d)).over with
  | false =>
   rw [if_neg (by rw [ho]; simp)] at hnx
   have hjl : j + 1 = (rchd p l).length := by
    have := congrArg List.length hnx
    simp at this; omega
   simp [go_sem]
   refine IWp.now ?_
   simp [go_sem]
   rw [hjl]
   exact hend _ (by simp [go_sem])
  | true =>
  have hsn := hsucc _ hr1
  have e1 : rds ((rchd p l).take (j + 1)) = rds bf ++ [[.fz 2 (prs d), .int .i64 y, .fm (enP (mgs l j d))]] := by rw [hsn, rds_snoc]
  have e2 : prs (metT ((rchd p l).take (j + 1))) = prs (metT bf) ++ prs d := by rw [hsn, metT_snoc, prs_append]
  have e2l : (metT ((rchd p l).take (j + 1))).length = (metT bf).length + d.length := by rw [hsn, metT_snoc, List.length_append]
  have e3 : byeT ((rchd p l).take (j + 1)) = byeT bf ++ if 0 < y then [y] else [] := by rw [hsn, byeT_snoc]
  have v1 : IntKind.i64.wrap ((j : Int) + 1) = ((j + 1 : Nat) : Int) := by rw [wrap64 (by omega) (by omega)]; omega
  have hov' : ∀ i, i < j + 1 → ((rchd p l).getD i Er0).over = true := fun i hi => by
   by_cases e : i = j
   ·subst e; rw [List.getD_eq_getElem?_getD, hr1]; exact ho
   ·exact hov i (by omega)
  simp [go_sem]
  refine IWp.now ?_
  simp [go_sem]
  refine IWp.seqI ?_
  simp [go_sem, hbl]
  refine ⟨by omega, ?_⟩
  refine IWp.seqI ?_
  simp [go_sem]
  refine ⟨⟨by omega, prs_one⟩, ?_⟩
  refine IWp.seqI ?_
  simp [go_sem]
  obtain ⟨b0, b1, b2, b3, b4⟩ := hO 8 (j + 1) (by omega)
  by_cases hy : 0 < y
  ·rw [if_pos hy] at e3
   have e3' : ints (byeT ((rchd p l).take (j + 1))) = ints (byeT bf) ++ [[.int .i64 y]] := by rw [e3, ints_snoc]
   have e3l : (byeT ((rchd p l).take (j + 1))).length = (byeT bf).length + 1 := by rw [e3]; simp
   refine IWp.now ?_
   simp [go_sem, hy]
   refine ⟨by omega, ?_⟩
   refine IWp.now ?_
   simp [go_sem, v1]
   refine ⟨j + 1, ⟨⟨rfl, e2l.symm, e3l.symm, by omega⟩, ⟨.inr rfl, .inr rfl, .inr rfl, e1, e2, e3'⟩, b0, b1, b2, b3, b4⟩, ⟨by omega, fun i hi => ?_⟩, by omega⟩
   simpa using hov' i hi
  ·rw [if_neg hy, List.append_nil] at e3
   refine IWp.now ?_
   simp [go_sem, hy]
   refine IWp.now ?_
   simp [go_sem, v1]
   refine ⟨j + 1, ⟨⟨rfl, e2l.symm, by rw [e3], by omega⟩, ⟨.inr rfl, .inr rfl, .inr rfl, e1, e2, by rw [e3]⟩, b0, b1, b2, b3, b4⟩, ⟨by omega, fun i hi => ?_⟩, by omega⟩
   simpa using hov' i hi
 ·have hd : (rchd p l).drop j = [] := by
   rw [← hnx, show p.r.toNat - j = 0 by omega]; rfl
  have hjl : j = (rchd p l).length := by
   have := congrArg List.length hd
   simp at this; omega
  simp [go_sem, h]
  refine IWp.now ?_
  simp [go_sem]
  rw [hjl]
  exact hend _ (by simp [go_sem])
end Go.Idl
namespace Go.Idl
open Go.Proofs
def ovN (L : List Er) (j : Nat) : Nat := (L.take j).countP (·.over)
theorem ovN_succ {L : List Er} {j : Nat} {r : Er} (h : L[j]? = some r) : ovN L (j + 1) = ovN L j + if r.over = true then 1 else 0 := by
 obtain ⟨h1, h2⟩ := List.getElem?_eq_some_iff.1 h
 unfold ovN
 rw [List.take_succ_eq_append_getElem h1, List.countP_append, h2]
 simp [List.countP_cons]
theorem ovN_le {L : List Er} {j : Nat} : ovN L j ≤ j := by
 unfold ovN
 exact Nat.le_trans List.countP_le_length (by simp; omega)
theorem ovN_all {L : List Er} : ovN L L.length = L.countP (·.over) := by simp [ovN]
def rnO1 (j : Nat) : IObj := .rows 1 [[.sl 3 j 0 j none]]
def rnO2 (L : List Er) (j : Nat) : IObj := .rows 1 [[.int .i64 (ovN L j : Int)]]
def rnO3 (L : List Er) (j : Nat) : IObj := .rows 3 (rds (L.take j))
theorem rounds_fun (p : Pl) (l : List Em) (hp : PlOK p) (hpr : 1 ≤ p.r ∧ p.r ≤ 15) (hl : l.length ≤ 2 ^ 32) : ON 26 [p.v, .fz 4 (ems l)] (fun v => v = .tup [.fz 3 (rds (rchd p l)), .fz 3 (rds (ovrd (rchd p l)))]) := by
 refine IFun.of_bodyZ false 10 [12, 13, 14, 20] Tryz.func26 rfl Tryz.call26 rfl fun R hR => ?_
 have hle : (rchd p l).length ≤ p.r.toNat := reach_len p l _ _ _
 simp only [Pl.v]
 simp [go_sem]
 refine (reached_fun p l).callM (by simp [go_sem, Pl.v]) ?_
 rintro _ rfl
 simp [go_sem]
 refine IWp.ownNil 3 [(0, .agg [.int .i64 p.t, .int .i64 p.r, .int .i64 p.b, .fz 1 (ints p.s)]), (1, .fz 4 (ems l)), (2, .ptr 0 1 0 0), (4, .nils), (5, .nils), (6, .ptr 1 1 0 0), (7, .ptr 2 1 0 0), (12, reachV p l)] [.rows 4 [[.int .i64 p.t, .int .i64 p.r, .int .i64 p.b, .fz 1 (ints p.s)]], .rows 1 [[.sl 3 0 0 0 none]], .rows 1 [[.int .i64 0]]] (by decide) (by simp [go_sem]) (by simp [go_sem]) ?_
 refine IWp.rangeFunc (g := 63) (cap := [.fptr 4 [[.int .i64 p.t, .int .i64 p.r, .int .i64 p.b, .fz 1 (ints p.s)]] 0 0, .fptr 1 [[.fz 4 (ems l)]] 0 0]) (by simp [go_sem, reachV]) (by simp [go_sem, reachV]) fun lY r h1 h2 h3 h4 h5 => ?_
 obtain ⟨e, he⟩ : ∃ e : Env, e = ⟨false, 27, 10, [12, 13, 14, 20], glT, [(0, .agg [.int .i64 p.t, .int .i64 p.r, .int .i64 p.b, .fz 1 (ints p.s)]), (1, .fz 4 (ems l)), (2, .ptr 0 1 0 0), (4, .nils), (5, .nils), (6, .ptr 1 1 0 0), (7, .ptr 2 1 0 0), (12, reachV p l)], []⟩ := ⟨_, rfl⟩
 rw [← he, show e.gl = glT by rw [he]]
 have hbe : ∀ n, 5 ≤ n → ObBl n (.yrec lY r e) := fun n hn => by
  subst he
  refine ⟨?_, by simp, of_eq_true glT_bl⟩
  simp [go_sem, reachV]
  omega
 have key := reached1 p l hp hpr hl lY rnO1 (rnO2 (rchd p l)) (rnO3 (rchd p l)) (.rows 4 [[.int .i64 p.t, .int .i64 p.r, .int .i64 p.b, .fz 1 (ints p.s)]]) (.yrec lY r e)
  (fun n j hn => ⟨by simp [go_sem], by simp [go_sem, rnO1]; omega, by simp [go_sem, rnO2], by simp [go_sem, rnO3], hbe n hn⟩) ⟨rfl, rfl, fun j => ⟨rfl, rfl, rfl⟩⟩ (fun j x τ hx hτ => ?_)
 ·have hz : [IObj.rows 4 [[.int .i64 p.t, .int .i64 p.r, .int .i64 p.b, .fz 1 (ints p.s)]], .rows 1 [[.sl 3 0 0 0 none]], .rows 1 [[.int .i64 0]]] ++ [.rows 3 []] ++ [.yrec lY r e] = [.rows 4 [[.int .i64 p.t, .int .i64 p.r, .int .i64 p.b, .fz 1 (ints p.s)]], rnO1 0, rnO2 (rchd p l) 0, rnO3 (rchd p l) 0, .yrec lY r e] := by
   simp [rnO1, rnO2, rnO3, ovN, rds_nil]
  rw [hz]
  refine key.mono ?_
  rintro _ _ rfl
  have hov : ovN (rchd p l) (rchd p l).length ≤ (rchd p l).length := ovN_le
  simp [go_sem, he, h2, h1, rnO1, rnO2, rnO3]
  refine ⟨hov, by decide +kernel, ?_⟩
  refine hR _ _ _ rfl ?_
  have hovr : cutR 0 (ovN (rchd p l) (rchd p l).length) (rds (rchd p l)) = rds (ovrd (rchd p l)) := by
   rw [ovN_all]; simp [cutR, ovrd, rds_take]
  simp [go_sem, hov, hovr]
 ·refine YCalls.forget ?_
  refine YCalls.roundE 4 h1 h2 h3 h4 h5 rfl rfl ?_
  rw [he]
  have hxr := rchd_er hp hx
  have co := over_fun x (by have := hxr.2; omega)
  have hsn : rds ((rchd p l).take (j + 1)) = rds ((rchd p l).take j) ++ [[.fz 2 (prs x.draw), .int .i64 x.bye, .fm (enP x.mg)]] := by
   obtain ⟨k1, k2⟩ := List.getElem?_eq_some_iff.1 hx
   rw [List.take_succ_eq_append_getElem k1, k2, rds_snoc]
  have hjl : j < (rchd p l).length := (List.getElem?_eq_some_iff.1 hx).1
  have hjt : ((rchd p l).take j).length = j := by simp; omega
  have hov := ovN_succ hx
  have hovl : ovN (rchd p l) j ≤ j := ovN_le
  unfold rnO1 rnO2 rnO3
  rw [hsn, hov]
  generalize ovN (rchd p l) j = N at *
  obtain ⟨d, y, M⟩ := x
  simp only [Er.v] at *
  simp [go_sem, hput_at0, hput_app0, hput_app, app_get0, app_get]
  refine ⟨⟨by omega, by omega⟩, ?_⟩
  refine co.callF (by simp [go_sem]) ?_
  rintro _ rfl
  cases hxo : (Er.mk d y M).over with
  | true =>
   have v1 : IntKind.i64.wrap ((N : Int) + 1) = ((N + 1 : Nat) : Int) := by rw [wrap64 (by omega) (by omega)]; omega
   simp [go_sem, hput_at0, hput_app0, hput_app, app_get0, app_get, v1]
   refine ⟨_, ⟨?_, ?_, ?_, ?_⟩, rfl, rfl⟩
   ·simp [go_sem, fgt_append, hxo]
   ·simp
   ·simp [go_sem]
   ·rw [he] at hbe
    have := hbe (τ.length + 5) (by omega)
    simp [go_sem, hτ, this]
  | false =>
   simp [go_sem, hput_at0, hput_app0, hput_app, app_get0, app_get]
   refine ⟨_, ⟨?_, ?_, ?_, ?_⟩, rfl, rfl⟩
   ·simp [go_sem, fgt_append, hxo]
   ·simp
   ·simp [go_sem]
   ·rw [he] at hbe
    have := hbe (τ.length + 5) (by omega)
    simp [go_sem, hτ, this]
end Go.Idl
namespace Go.Idl
open Go.Proofs
def rK9 (l : List Em) (a : Nat) : Int := (l.getD a Em0).r
def iK9 (_ : List Em) (_ : Nat) : Int := 0
def cmpM9 (q i q' i' : Int) : Int := if cmp3 q q' = 0 then cmp3 i i' else cmp3 q q'
theorem cmpM9_lx {K1 K2 : Nat → Int} {a b : Nat} (h : b < a) : cmpM9 (K1 a) (K2 a) (K1 b) (K2 b) < 0 ↔ lx K1 K2 a b := by
 unfold cmpM9 cmp3 lx
 split <;> split <;> (try split) <;> (try split) <;> omega
theorem cmpM9_zero (q q' : Int) : cmpM9 q 0 q' 0 = cmp3 q q' := by
 unfold cmpM9
 split
 ·rename_i h; rw [h]; rfl
 ·rfl
def cmpN9 (l : List Em) (a b : Nat) : Int := cmpM9 (rK9 l a) (iK9 l a) (rK9 l b) (iK9 l b)
def lC9 (l : List Em) : IObj := .rows 1 [[.fz 4 (ems l)]]
theorem ck1_reads (l : List Em) (i j : Nat) (hi : i < l.length) (hj : j < l.length) (hl : l.length < 2 ^ 62) (c : Nat) (H : Heap) (hc : H[c]? = some (lC9 l)) :
  ICalls Tryz.prog glT 42 [.int .i64 (i : Int), .int .i64 (j : Int), .ptr c 1 0 0] H (fun v σ => v = .int .i64 (cmp3 l[i].r l[j].r) ∧ σ = H) := by
 refine ICalls.of_bodyV false 6 [] Tryz.func42 rfl Tryz.call42 rfl fun R hR => ?_
 have c1 := compare_fun l[i].r l[j].r
 generalize hC : cmp3 l[i].r l[j].r = C at *
 have lc : c < H.length := (List.getElem?_eq_some_iff.1 hc).1
 have n1 : ∀ k, (H.length + k = c) = False := fun k => eq_false (by omega)
 have n3 : ∀ k, (c = H.length + k) = False := fun k => eq_false (by omega)
 have n5 : (H.length = c) = False := eq_false (by omega)
 have n7 : (c = H.length) = False := eq_false (by omega)
 clear lc
 unfold lC9 at hc
 refine IWp.seqI ?_
 simp [go_sem]
 refine IWp.seqI ?_
 refine Drawn.intro (fun k => if k = 10 then .int .i64 C else .tup []) ?_
 simp [go_sem, hc, hi, hj, c1, n1, n3, n5, n7]
 refine ⟨by decide +kernel, ?_⟩
 refine IWp.now ?_
 simp [go_sem]
 exact hR _ _ ⟨rfl, rfl⟩
theorem ck1_ro (l : List Em) (i j : Nat) (hi : i < l.length) (hj : j < l.length) (hl : l.length < 2 ^ 62) (c : Nat) (h : Heap) (hc : h[c]? = some (lC9 l)) :
  readsOnly Tryz.prog glT 42 [.int .i64 (i : Int), .int .i64 (j : Int), .ptr c 1 0 0] h (.int .i64 (cmp3 l[i].r l[j].r)) := fun H hH => by
 have h2 := hH c (by simp [go_sem])
 rw [show hget h c = some (lC9 l) from hget_some.2 ⟨hc, rfl⟩] at h2
 exact ck1_reads l i j hi hj hl c H (hget_some.1 h2).1
def ck1V : IV := .func (.func 42) [] [.ptr 1 1 0 0]
def sortH9 (l : List Em) (A : List Nat) : Heap := [.rows 1 (nts A), lC9 l]
theorem ck1_at (l : List Em) (i j : Nat) (hi : i < l.length) (hj : j < l.length) (hl : l.length < 2 ^ 62) (h : Heap) (hb : h[1]? = some (lC9 l)) :
  readsOnly Tryz.prog glT 42 [.int .i64 (i : Int), .int .i64 (j : Int), .ptr 1 1 0 0] h (.int .i64 (cmpN9 l i j)) := by
 have := ck1_ro l i j hi hj hl 1 h hb
 rw [← cmpM9_zero] at this
 unfold cmpN9 iK9 rK9
 rw [show l.getD i Em0 = l[i] by simp [hi], show l.getD j Em0 = l[j] by simp [hj]]
 exact this
theorem insertM_calls (l : List Em) (A0 : List Nat) (lo hi : Nat) (h1 : lo < hi) (h2 : hi ≤ A0.length) (hr : ∀ x ∈ A0, x < l.length) (hl : l.length < 2 ^ 62) (hA : A0.length < 2 ^ 62) (ha : AscN A0 lo hi) :
  ICalls Tryz.prog glT 82 [.sl 0 A0.length 0 A0.length none, .int .i64 (lo : Int), .int .i64 (hi : Int), ck1V] (sortH9 l A0)
   (fun _ σ => ∃ A, SegS (rK9 l) (iK9 l) A0 lo hi A ∧ σ = sortH9 l A) := by
 refine ICalls.forget (ICalls.of_bodyE false 10 [14, 34] Tryz.func82 rfl Tryz.call82 rfl fun R hR => ?_)
 have v0 : IntKind.i64.wrap ((lo : Int) + 1) = ((lo + 1 : Nat) : Int) := by rw [wrap64 (by omega) (by omega)]; omega
 obtain ⟨n, hn⟩ : ∃ n, A0.length = n := ⟨_, rfl⟩
 rw [hn] at h2 hA ⊢
 unfold sortH9 lC9 ck1V at *
 simp [go_sem, v0]
 refine IWp.loopT (α := Nat × List Nat) (fun p => (⟨false, 53, 10, [14, 34], glT, [(0, .sl 0 n 0 n none), (1, .int .i64 (lo : Int)), (2, .int .i64 (hi : Int)), (3, ck1V), (8, .int .i64 (p.1 : Int))], []⟩, sortH9 l p.2))
  (fun p => lo + 1 ≤ p.1 ∧ p.1 ≤ hi ∧ SegS (rK9 l) (iK9 l) A0 lo p.1 p.2) (fun p => hi - p.1) (lo + 1, A0) ⟨by simp, by simp; omega, .one⟩ (by simp [go_sem, sortH9, lC9, ck1V]) ?_
 rintro ⟨i, A⟩ ⟨hi1, hi2, hS⟩
 simp only at hi1 hi2 hS
 by_cases h : i < hi
 ·have hI := hS.ins ha (by omega) h
  have v1 : IntKind.i64.wrap ((i : Int) + 1) = ((i + 1 : Nat) : Int) := by rw [wrap64 (by omega) (by omega)]; omega
  unfold sortH9 lC9 ck1V
  simp [go_sem, h]
  refine IWp.loopI (α := Nat × List Nat) (fun p => (⟨false, 53, 10, [14, 34], glT, [(0, .sl 0 n 0 n none), (1, .int .i64 (lo : Int)), (2, .int .i64 (hi : Int)), (3, ck1V), (8, .int .i64 (i : Int)), (9, .int .i64 (p.1 : Int))], []⟩, sortH9 l p.2))
   (fun p => lo ≤ p.1 ∧ p.1 ≤ i ∧ InsN (rK9 l) (iK9 l) A0 lo i p.1 p.2) (fun p => p.1) (i, A) ⟨by simp; omega, by simp, hI⟩ (by simp [go_sem, sortH9, lC9, ck1V]) ?_
  rintro ⟨j, B⟩ ⟨hj1, hj2, hJ⟩
  simp only at hj1 hj2 hJ
  have hB : B.length = n := by rw [hJ.len, hn]
  have hBr : ∀ x, x < n → B.getD x 0 < l.length := fun x hx => hr _ (hJ.perm.mem_iff.1 (by rw [show B.getD x 0 = B[x]'(by omega) by simp [show x < B.length by omega]]; exact List.getElem_mem _))
  by_cases hj0 : j = lo
  ·subst hj0
   have v2 : (IntKind.i64.wrap ((j : Int) - 1)).toNat = j - 1 := by rw [wrap64 (by omega) (by omega)]; omega
   have a1 : j < n := by omega
   have e1 := nts_at (l := B) (i := j) (by omega)
   have e2 := nts_at (l := B) (i := j - 1) (by omega)
   unfold sortH9 lC9 ck1V
   refine IWp.seq ?_
   refine IWp.seqI ?_
   refine Drawn.intro (fun k => .tup []) ?_
   simp [go_sem, hB, a1, e1, e2, v2]
   refine ⟨by decide +kernel, ?_⟩
   refine IWp.now ?_
   simp [go_sem]
   exact ⟨i + 1, B, ⟨v1, rfl⟩, ⟨by omega, by omega, hJ.low⟩, by omega⟩
  ·have v2 : IntKind.i64.wrap ((j : Int) - 1) = ((j - 1 : Nat) : Int) := by rw [wrap64 (by omega) (by omega)]; omega
   have g1 : lo < j := by omega
   have a1 : j < n := by omega
   have a2 : j - 1 < n := by omega
   have e1 := nts_at (l := B) (i := j) (by omega)
   have e2 := nts_at (l := B) (i := j - 1) (by omega)
   have q1 : B[j]'(by omega) = B.getD j 0 := by simp [show j < B.length by omega]
   have q2 : B[j - 1]'(by omega) = B.getD (j - 1) 0 := by simp [show j - 1 < B.length by omega]
   have b1 := hBr j a1
   have b2 := hBr (j - 1) a2
   have hlt := cmpM9_lx (K1 := rK9 l) (K2 := iK9 l) (hJ.big (j - 1) (by omega) (by omega) (by omega))
   have cc := fun h hb => ck1_at l (B.getD j 0) (B.getD (j - 1) 0) b1 b2 hl h hb
   unfold cmpN9 at cc
   generalize hC : cmpM9 (rK9 l (B.getD j 0)) (iK9 l (B.getD j 0)) (rK9 l (B.getD (j - 1) 0)) (iK9 l (B.getD (j - 1) 0)) = C at *
   have hstep := hJ.step g1 hj2 (by omega)
   have hstop := hJ.stop g1 hj2
   have hsw : nts (swapN B j) = ((nts B).set j [.int .i64 (B.getD (j - 1) 0 : Nat)]).set (j - 1) [.int .i64 (B.getD j 0 : Nat)] := by rw [swapN, nts_set, nts_set]
   generalize B.getD j 0 = X at *
   generalize B.getD (j - 1) 0 = Y at *
   generalize hSw : swapN B j = Sw at *
   unfold sortH9 lC9 ck1V
   refine IWp.seq ?_
   refine IWp.seqI ?_
   refine Drawn.intro (fun k => if k = 14 then .tup [.junk, .junk, .int .i64 C] else .tup []) ?_
   simp [go_sem, hB, g1, v2, a1, a2, e1, e2, q1, q2]
   refine ⟨cc _ rfl, by decide +kernel, ?_⟩
   by_cases hx : lx (rK9 l) (iK9 l) X Y
   ·have hC0 := hlt.2 hx
    have hI2 := hstep hx
    refine IWp.now ?_
    simp [go_sem, hC0]
    refine IWp.now ?_
    simp [go_sem, hB, g1, v2, a1, a2, e1, e2, q1, q2]
    refine ⟨by decide +kernel, j - 1, Sw, ⟨rfl, ?_⟩, ⟨by omega, by omega, hI2⟩, by omega⟩
    rw [hsw, List.getElem_set_ne (by omega), nts_getElem]
    rfl
   ·have hC0 : ¬ C < 0 := fun h => hx (hlt.1 h)
    have hI2 := hstop hx
    refine IWp.now ?_
    simp [go_sem, hC0]
    exact ⟨i + 1, B, ⟨v1, rfl⟩, ⟨by omega, by omega, hI2⟩, by omega⟩
 ·obtain rfl : i = hi := by omega
  unfold sortH9 lC9 ck1V
  simp [go_sem]
  exact hR _ _ ⟨_, by simp [go_sem], A, hS, rfl⟩
def idL9 (n : Nat) : List Nat := List.range n
@[simp] theorem idL9_length {n : Nat} : (idL9 n).length = n := by simp [idL9]
def OrdOf9 (l : List Em) (A : List Nat) : Prop := A.Perm (idL9 l.length) ∧ A.Pairwise (lx (rK9 l) (iK9 l))
theorem insertM_none (l : List Em) (A0 : List Nat) (lo hi : Nat) (h1 : hi ≤ lo) (hlo : lo < 2 ^ 62) :
  ICalls Tryz.prog glT 82 [.sl 0 A0.length 0 A0.length none, .int .i64 (lo : Int), .int .i64 (hi : Int), ck1V] (sortH9 l A0)
   (fun _ σ => σ = sortH9 l A0) := by
 refine ICalls.forget (ICalls.of_bodyE false 10 [14, 34] Tryz.func82 rfl Tryz.call82 rfl fun R hR => ?_)
 have v0 : IntKind.i64.wrap ((lo : Int) + 1) = ((lo + 1 : Nat) : Int) := by rw [wrap64 (by omega) (by omega)]; omega
 have g1 : ¬ lo + 1 < hi := by omega
 have g2 : ¬ (lo : Int) + 1 < hi := by omega
 unfold sortH9 lC9 ck1V at *
 simp [go_sem, v0]
 refine IWp.loopT (α := Unit) (fun p => (⟨false, 53, 10, [14, 34], glT, [(0, .sl 0 A0.length 0 A0.length none), (1, .int .i64 (lo : Int)), (2, .int .i64 (hi : Int)), (3, ck1V), (8, .int .i64 ((lo + 1 : Nat) : Int))], []⟩, sortH9 l A0))
  (fun p => True) (fun p => 0) () trivial (by simp [go_sem, sortH9, lC9, ck1V]) ?_
 rintro _ _
 unfold sortH9 lC9 ck1V
 simp [go_sem, g1, g2]
 exact hR _ _ ⟨_, by simp [go_sem], rfl⟩
end Go.Idl
namespace Go.Idl
open Go.Proofs
theorem stableCmpM_calls (l : List Em) (hl : l.length ≤ 20) :
  ICalls Tryz.prog glT 61 [.sl 0 l.length 0 l.length none, .int .i64 (l.length : Int), ck1V] (sortH9 l (idL9 l.length))
   (fun _ σ => ∃ A, OrdOf9 l A ∧ σ = sortH9 l A) := by
 refine ICalls.forget (ICalls.of_bodyV false 10 [13, 30, 35, 54] Tryz.func61 rfl Tryz.call61 rfl fun R hR => ?_)
 have ci := fun (A : List Nat) (hA : A.length = l.length) (hr : ∀ x ∈ A, x < l.length) lo hi (h1 : lo < hi) (h2 : hi ≤ l.length) h3 => insertM_calls l A lo hi h1 (by rw [hA]; exact h2) hr (by omega) (by omega) h3
 have cn := fun (A : List Nat) (lo hi : Nat) (h1 : hi ≤ lo) (h2 : lo < 2 ^ 62) => insertM_none l A lo hi h1 h2
 obtain ⟨n, hn⟩ : ∃ n, l.length = n := ⟨_, rfl⟩
 have hrg : ∀ {A : List Nat}, A.Perm (List.range n) → ∀ x ∈ A, x < n := fun hp x hx => by simpa using hp.mem_iff.1 hx
 have hord : ∀ A : List Nat, A.Perm (List.range n) → A.Pairwise (lx (rK9 l) (iK9 l)) → OrdOf9 l A := fun A h1 h2 => ⟨by rw [hn]; exact h1, h2⟩
 rw [hn] at hl ci ⊢
 unfold sortH9 lC9 ck1V at *
 refine IWp.seqI ?_
 simp [go_sem]
 refine IWp.seqI ?_
 simp [go_sem]
 refine IWp.seqT (α := Nat × List Nat) (fun p => (⟨false, 63, 10, [13, 30, 35, 54], glT, [(0, .sl 0 n 0 n none), (1, .int .i64 (n : Int)), (2, ck1V), (6, .int .i64 20), (7, .int .i64 (p.1 : Int))], []⟩, sortH9 l p.2))
  (fun p => p.1 ≤ n ∧ n < p.1 + 20 ∧ 20 ∣ p.1 ∧ Fst (rK9 l) (iK9 l) n 20 p.1 p.2) ?_ ?_
 ·simp [go_sem]
  refine IWp.loopT (α := Nat × Nat × List Nat) (fun p => (⟨false, 63, 10, [13, 30, 35, 54], glT, [(0, .sl 0 n 0 n none), (1, .int .i64 (n : Int)), (2, ck1V), (6, .int .i64 20), (7, .int .i64 (p.1 : Int)), (8, .int .i64 (p.2.1 : Int))], []⟩, sortH9 l p.2.2))
   (fun p => p.1 ≤ n ∧ p.2.1 = p.1 + 20 ∧ 20 ∣ p.1 ∧ Fst (rK9 l) (iK9 l) n 20 p.1 p.2.2) (fun p => n - p.1) (0, 20, idL9 n) ⟨by simp, by simp, Nat.dvd_zero _, .start⟩ (by simp [go_sem, sortH9, lC9, ck1V]) ?_
  rintro ⟨a, b, A⟩ ⟨hi, hb, hd, hF⟩
  simp only at hi hb hd hF
  unfold sortH9 lC9 ck1V
  by_cases h : b ≤ n
  ·have h' : (b : Int) ≤ n := by omega
   have cc := ci A hF.len (hrg hF.perm) a b (by omega) h (hF.asc h)
   have v1 : IntKind.i64.wrap ((b : Int) + 20) = ((b + 20 : Nat) : Int) := by rw [wrap64 (by omega) (by omega)]; omega
   rw [hF.len] at cc
   simp [go_sem, h, h']
   refine cc.at [0, 1] (by simp [go_sem]) ?_
   rintro _ _ ⟨B, hB, rfl⟩
   obtain ⟨c, hc⟩ : ∃ c, b + 20 = c := ⟨_, rfl⟩
   rw [hc] at v1
   simp [go_sem, v1]
   refine ⟨b, c, B, ⟨⟨rfl, rfl⟩, rfl⟩, ⟨h, hc.symm, by omega, ?_⟩, by omega⟩
   rw [hb]
   exact hF.step hd (by rw [show min (a + 20) n = b by omega]; exact hB)
  ·have h' : ¬ (b : Int) ≤ n := by omega
   simp [go_sem, h, h', sortH9, lC9, ck1V]
   exact ⟨a, A, ⟨rfl, rfl⟩, hi, by omega, hd, hF⟩
 rintro ⟨a, A⟩ ⟨hi, hb, hd, hF⟩
 simp only at hi hb hd hF
 unfold sortH9 lC9 ck1V
 refine IWp.seqT (α := List Nat) (fun A => (⟨false, 63, 10, [13, 30, 35, 54], glT, [(0, .sl 0 n 0 n none), (1, .int .i64 (n : Int)), (2, ck1V), (6, .int .i64 20)], []⟩, sortH9 l A))
  (fun A => Blks (rK9 l) (iK9 l) n 20 0 A) ?_ ?_
 ·by_cases h : a < n
  ·have cc := ci A hF.len (hrg hF.perm) a n h (Nat.le_refl _) (hF.asc (Nat.le_refl _))
   rw [hF.len] at cc
   simp [go_sem]
   refine cc.at [0, 1] (by simp [go_sem]) ?_
   rintro _ _ ⟨B, hB, rfl⟩
   simp [go_sem, sortH9, lC9, ck1V]
   exact ⟨B, rfl, (hF.step hd (by rw [show min (a + 20) n = n by omega]; exact hB)).blks (by omega)⟩
  ·have cc := cn A a n (by omega) (by omega)
   rw [hF.len] at cc
   simp [go_sem]
   refine cc.at [0, 1] (by simp [go_sem]) ?_
   rintro _ _ rfl
   simp [go_sem, sortH9, lC9, ck1V]
   exact ⟨A, rfl, hF.blks (by omega)⟩
 clear hF hd hb hi A a
 intro A hA
 unfold sortH9 lC9 ck1V
 refine IWp.block ?_
 refine IWp.loopI (α := Nat × List Nat) (fun p => (⟨false, 63, 10, [13, 30, 35, 54], glT, [(0, .sl 0 n 0 n none), (1, .int .i64 (n : Int)), (2, ck1V), (6, .int .i64 (p.1 : Int))], []⟩, sortH9 l p.2))
  (fun p => p.1 = 20 ∧ Blks (rK9 l) (iK9 l) n p.1 0 p.2) (fun p => n - p.1) (20, A) ⟨rfl, hA⟩ (by simp [go_sem, sortH9, lC9, ck1V]) ?_
 rintro ⟨s, A⟩ ⟨hs, hA⟩
 simp only at hs hA
 unfold sortH9 lC9 ck1V
 refine IWp.seqI ?_
 have h : ¬ s < n := by omega
 have h' : ¬ (s : Int) < n := by omega
 simp [go_sem, h, h']
 exact hR _ _ ⟨_, by simp [go_sem], A, hord A hA.perm (hA.all (by omega)), rfl⟩
theorem sortStableM_calls (l : List Em) (hl : l.length ≤ 20) :
  ICalls Tryz.prog glT 41 [.sl 0 l.length 0 l.length none, ck1V] (sortH9 l (idL9 l.length))
   (fun _ σ => ∃ A, OrdOf9 l A ∧ σ = sortH9 l A) := by
 refine ICalls.forget (ICalls.of_bodyE false 4 [] Tryz.func41 rfl Tryz.call41 rfl fun R hR => ?_)
 have cc := stableCmpM_calls l hl
 unfold sortH9 lC9 ck1V at *
 simp [go_sem]
 refine cc.at [0, 1] (by simp [go_sem]) ?_
 rintro _ _ ⟨A, hA, rfl⟩
 simp [go_sem]
 exact hR _ _ ⟨_, by simp [go_sem], A, hA, rfl⟩
end Go.Idl
