import Derived.Test.YtamffdgopknkfaaGreatDoorC39zPartM
set_option linter.all false
set_option maxHeartbeats 16000000
set_option maxRecDepth 40000
namespace Go.Idl
open Go.Proofs
theorem enP_get {T : List ((Int × Int) × Int)} {i : Nat} {kv : IV × IV} (h : (enP T)[i]? = some kv) : ∃ p, T[i]? = some p ∧ kv = (k2 p.1, .int .i64 p.2) := by
 unfold enP enM at h
 rw [List.getElem?_map, Option.map_eq_some_iff] at h
 obtain ⟨p, h1, h2⟩ := h
 exact ⟨p, h1, h2.symm⟩
theorem enP_erase {T : List ((Int × Int) × Int)} {i : Nat} : (enP T).eraseIdx i = enP (T.eraseIdx i) := by
 unfold enP enM
 apply List.ext_getElem?
 intro j
 rw [List.getElem?_eraseIdx, List.getElem?_map, List.getElem?_map, List.getElem?_map, List.getElem?_eraseIdx]
 split <;> rfl
theorem erase_perm {α : Type} : ∀ {T : List α} {k : Nat} (h : k < T.length), (T[k] :: T.eraseIdx k).Perm T
 | x :: T, 0, _ => List.Perm.refl _
 | x :: T, k + 1, h => by
  simp only [List.getElem_cons_succ, List.eraseIdx_cons_succ]
  exact (List.Perm.swap x _ _).trans ((erase_perm (T := T) (k := k) (by simpa using h)).cons x)
theorem enP_eq_nil {T : List ((Int × Int) × Int)} : enP T = [] ↔ T = [] := by simp [enP, enM]
def lnsI (n i : Nat) : List Ln := (List.range n).map fun k : Nat => ⟨if k < i then (k : Int) + 1 else 0, 0, 0, 0, 0, false⟩
@[simp] theorem lnsI_length (n i : Nat) : (lnsI n i).length = n := by simp [lnsI]
theorem lnsI_zero (n : Nat) : lns (lnsI n 0) = List.replicate n [.int .i64 0, .int .i64 0, .int .i64 0, .int .i64 0, .int .i64 0, .bool false] := by
 simp [lnsI, lns, mp, Ln.c, List.eq_replicate_iff]
theorem lnsI_all (n : Nat) : lnsI n n = lns0 n := by
 unfold lnsI lns0
 apply List.map_congr_left
 intro k hk
 rw [if_pos (List.mem_range.1 hk)]
theorem lnsI_step {n i : Nat} (h : i < n) : (lns (lnsI n i)).set i [.int .i64 ((i : Int) + 1), .int .i64 0, .int .i64 0, .int .i64 0, .int .i64 0, .bool false] = lns (lnsI n (i + 1)) := by
 have e : lnsI n (i + 1) = (lnsI n i).set i ⟨(i : Int) + 1, 0, 0, 0, 0, false⟩ := by
  apply List.ext_getElem
  ·simp
  ·intro k h1 h2
   rw [List.getElem_set]
   simp only [lnsI, List.getElem_map, List.getElem_range]
   by_cases hk : i = k
   ·subst hk; simp
   ·rw [if_neg hk]
    simp only [Ln.mk.injEq, and_true]
    split <;> split <;> omega
 rw [e, lns_set]; rfl
def Bd1 (k : Nat) (x : Ln) : Prop := (0 ≤ x.played ∧ x.played ≤ (k : Int)) ∧ (0 ≤ x.points ∧ x.points ≤ 200 * (k : Int)) ∧ -(1000000 * (k : Int)) ≤ x.margin ∧ x.margin ≤ 1000000 * (k : Int)
def BdL (k : Nat) (L : List Ln) : Prop := ∀ x ∈ L, Bd1 k x
theorem BdL.mono {k k' : Nat} {L : List Ln} (h : BdL k L) (hk : k ≤ k') : BdL k' L := fun x hx => by
 have := h x hx; unfold Bd1 at *; omega
theorem BdL.up {k k' : Nat} {L : List Ln} {i : Nat} {f : Ln → Ln} (h : BdL k L) (hk : k ≤ k') (hf : ∀ x, Bd1 k x → Bd1 k' (f x)) : BdL k' (upL L i f) := fun x hx => by
 obtain ⟨j, hj, rfl⟩ := List.mem_iff_getElem.1 hx
 have hg := upL_get L i f j
 rw [List.getElem?_eq_getElem hj] at hg
 have hj' : j < L.length := by simpa using hj
 by_cases e : i = j
 ·rw [if_pos e, List.getElem?_eq_getElem hj'] at hg
  simp only [Option.map_some, Option.some.injEq] at hg
  rw [hg]
  exact hf _ (h _ (List.getElem_mem hj'))
 ·rw [if_neg e, List.getElem?_eq_getElem hj'] at hg
  simp only [Option.some.injEq] at hg
  rw [hg]
  exact h.mono hk _ (List.getElem_mem hj')
theorem mrB_bd {m : Int} (h : mrB m = true) : -1000000 ≤ m ∧ m ≤ 1000000 := by simpa [mrB] using h
theorem BdL.addA {S : List Int} {k : Nat} {L : List Ln} (h : BdL k L) (hS : S.length ≤ 50) {m : Int} (hm : mrB m = true) (i : Nat) : BdL (k + 1) (upL L i (Go.Idl.addA S m)) := by
 have hm' := mrB_bd hm
 have := pt_bd S m
 refine h.up (by omega) fun x hx => ?_
 unfold Bd1 at *
 simp only [Go.Idl.addA]
 omega
theorem BdL.addB {S : List Int} {k : Nat} {L : List Ln} (h : BdL k L) (hS : S.length ≤ 50) {m : Int} (hm : mrB m = true) (i : Nat) : BdL (k + 1) (upL L i (Go.Idl.addB S m)) := by
 have hm' := mrB_bd hm
 have := pt_bd S m
 refine h.up (by omega) fun x hx => ?_
 unfold Bd1 at *
 simp only [Go.Idl.addB]
 omega
theorem BdL.zero (n : Nat) : BdL 0 (lns0 n) := fun x hx => by
 obtain ⟨i, _, rfl⟩ := List.mem_map.1 hx
 simp [Bd1]
structure ErOK (p : Pl) (r : Er) : Prop where
 e : ∀ x ∈ r.mg, (1 ≤ x.1.1 ∧ x.1.1 ≤ p.t) ∧ (1 ≤ x.1.2 ∧ x.1.2 ≤ p.t) ∧ mrB x.2 = true
 y : 0 ≤ r.bye ∧ r.bye ≤ p.t
 l : r.mg.length ≤ 100
structure PlOK (p : Pl) : Prop where
 t : 2 ≤ p.t ∧ p.t ≤ 12
 s : scB p.s = true
 b : 0 ≤ p.b ∧ p.b ≤ 2 * p.s.length
def plcI (L : List Ln) (i : Nat) : List Ln := plcLn 0 (L.take i) ++ L.drop i
theorem plcLn_append : ∀ (k : Nat) (A B : List Ln), plcLn k (A ++ B) = plcLn k A ++ plcLn (k + A.length) B
 | _, [], _ => by simp [plcLn]
 | k, x :: A, B => by simp only [List.cons_append, plcLn, plcLn_append (k + 1) A B, List.length_cons]; rw [show k + 1 + A.length = k + (A.length + 1) by omega]
theorem plcI_length {L : List Ln} {i : Nat} (h : i ≤ L.length) : (plcI L i).length = L.length := by simp [plcI]; omega
theorem plcI_at {L : List Ln} {i : Nat} (h : i < L.length) : (plcI L i).getD i Ln0 = L.getD i Ln0 := by
 unfold plcI
 have hl : (plcLn 0 (L.take i)).length = i := by simp; omega
 rw [List.getD_eq_getElem?_getD, List.getElem?_append_right (by omega), hl]
 simp
theorem plcI_step {L : List Ln} {i : Nat} (h : i < L.length) : (plcI L i).set i { L.getD i Ln0 with place := (i : Int) + 1 } = plcI L (i + 1) := by
 have hl : (plcLn 0 (L.take i)).length = i := by simp; omega
 have hL : L.getD i Ln0 = L[i] := by simp [h]
 unfold plcI
 rw [List.set_append_right _ _ (by omega), hl, Nat.sub_self, List.drop_eq_getElem_cons h, List.set_cons_zero, List.take_succ_eq_append_getElem h, plcLn_append, hL]
 simp only [List.length_take, Nat.min_eq_left (Nat.le_of_lt h), plcLn, Nat.zero_add, List.append_assoc, List.cons_append, List.nil_append]
theorem plcI_all {L : List Ln} : plcI L L.length = plcLn 0 L := by simp [plcI]
theorem table_fun (p : Pl) (l : List Er) (hp : PlOK p) (hl : l.length ≤ 100) (hr : ∀ r ∈ l, ErOK p r) : FN 37 [p.v, .fz 3 (rds l)] (fun v => v = .fz 6 (lns (tabL9 p l))) := by
 refine IFun.of_bodyW false 18 [22, 23, 24, 33, 34, 35, 36, 41, 43, 113, 135, 136, 137] Tryz.func37 rfl Tryz.call37 rfl fun R hR => ?_
 obtain ⟨n, hn⟩ : ∃ n : Nat, p.t = n := ⟨p.t.toNat, by have := hp.t; omega⟩
 have hn2 : 2 ≤ n ∧ n ≤ 12 := by have := hp.t; omega
 have hq : p = ⟨(n : Int), p.r, p.b, p.s⟩ := by rw [← hn]
 have hpt : p.t.toNat = n := by rw [hn]; rfl
 obtain ⟨t, rr, b, S⟩ := p
 simp only at hn hpt
 subst hn
 clear hq
 simp only [Pl.v]
 refine IWp.seqI ?_
 simp [go_sem]
 refine IWp.seqI ?_
 simp [go_sem]
 refine ⟨by omega, ?_⟩
 rw [← lnsI_zero n]
 refine IWp.seqT (α := Unit) (fun _ => (⟨false, 147, 18, [22, 23, 24, 33, 34, 35, 36, 41, 43, 113, 135, 136, 137], glT, [(1, .fz 3 (rds l)), (2, .ptr 0 1 0 0), (5, .sl 1 n 0 n none)], []⟩, [.rows 4 [[.int .i64 (n : Int), .int .i64 rr, .int .i64 b, .fz 1 (ints S)]], .rows 6 (lns (lns0 n))])) (fun _ => True) ?_ ?_
 ·simp [go_sem]
  refine IWp.loopT (α := Nat) (fun i => (⟨false, 147, 18, [22, 23, 24, 33, 34, 35, 36, 41, 43, 113, 135, 136, 137], glT, [(1, .fz 3 (rds l)), (2, .ptr 0 1 0 0), (5, .sl 1 n 0 n none), (22, .int .i64 n), (23, .int .i64 (i : Int))], []⟩, [.rows 4 [[.int .i64 (n : Int), .int .i64 rr, .int .i64 b, .fz 1 (ints S)]], .rows 6 (lns (lnsI n i))]))
   (fun i => i ≤ n) (fun i => n - i) 0 (by omega) (by simp [go_sem]) ?_
  intro i hi
  by_cases h : i < n
  ·have w1 : IntKind.i64.wrap ((i : Int) + 1) = i + 1 := wrap64 (by omega) (by omega)
   have hs := lnsI_step h
   have e1 := lns_at (l := lnsI n i) (i := i) (by simpa using h)
   have e2 : (lnsI n i).getD i Ln0 = Ln0 := by
    simp [lnsI, h]; rfl
   rw [e2] at e1
   simp only [Ln.c, Ln0] at e1
   have e3 : ∀ hh, (lns (lnsI n i))[i]'hh = [.int .i64 0, .int .i64 0, .int .i64 0, .int .i64 0, .int .i64 0, .bool false] := fun hh => by
    rw [List.getElem?_eq_getElem hh, Option.getD_some] at e1; exact e1
   simp [go_sem, h, w1, e1, e3]
   exact ⟨i + 1, ⟨by omega, hs.symm⟩, by omega, by omega⟩
  ·obtain rfl : i = n := by omega
   rw [lnsI_all]
   simp [go_sem]
 rintro _ _
 obtain ⟨hS1, hS2⟩ := scB_len hp.s
 have hb := hp.b
 simp only at hS1 hS2 hb
 refine IWp.seqT (α := Unit) (fun _ => (⟨false, 147, 18, [22, 23, 24, 33, 34, 35, 36, 41, 43, 113, 135, 136, 137], glT, [(5, .sl 1 n 0 n none)], []⟩, [.dead, .rows 6 (lns (tabU ⟨(n : Int), rr, b, S⟩ l))])) (fun _ => True) ?_ ?_
 ·simp [go_sem]
  refine IWp.loopI (α := Nat) (fun i => (⟨false, 147, 18, [22, 23, 24, 33, 34, 35, 36, 41, 43, 113, 135, 136, 137], glT, [(2, .ptr 0 1 0 0), (5, .sl 1 n 0 n none), (33, .fz 3 (rds l)), (34, .int .i64 l.length), (35, .int .i64 (i : Int))], []⟩, [.rows 4 [[.int .i64 (n : Int), .int .i64 rr, .int .i64 b, .fz 1 (ints S)]], .rows 6 (lns ((l.take i).foldl (addR ⟨(n : Int), rr, b, S⟩) (lns0 n)))]))
   (fun i => i ≤ l.length ∧ BdL (201 * i) ((l.take i).foldl (addR ⟨(n : Int), rr, b, S⟩) (lns0 n))) (fun i => l.length - i) 0 ⟨by omega, BdL.zero n⟩ (by simp [go_sem]) ?_
  rintro i ⟨hi, hB⟩
  by_cases h : i < l.length
  ·have w1 : IntKind.i64.wrap ((i : Int) + 1) = i + 1 := wrap64 (by omega) (by omega)
   have hok := hr _ (List.getElem_mem h)
   have hsn : (l.take (i + 1)).foldl (addR ⟨(n : Int), rr, b, S⟩) (lns0 n) = addR ⟨(n : Int), rr, b, S⟩ ((l.take i).foldl (addR ⟨(n : Int), rr, b, S⟩) (lns0 n)) l[i] := by
    rw [List.take_succ_eq_append_getElem h, List.foldl_append]; rfl
   have hLn : ((l.take i).foldl (addR ⟨(n : Int), rr, b, S⟩) (lns0 n)).length = n := by rw [foldR_length]; simp
   generalize (l.take i).foldl (addR ⟨(n : Int), rr, b, S⟩) (lns0 n) = L0 at *
   obtain ⟨r, hr9⟩ : ∃ r, l[i] = r := ⟨_, rfl⟩
   rw [hr9] at hok hsn
   obtain ⟨d, y, M⟩ := r
   obtain ⟨hok1, hok2, hok3⟩ := hok
   simp only at hok1 hok2 hok3
   refine IWp.seqI ?_
   simp [go_sem, h]
   refine IWp.seqI ?_
   simp [go_sem]
   refine IWp.seq ?_
   refine IWp.block ?_
   refine IWp.seqI ?_
   simp [go_sem, h, hr9]
   refine IWp.seqT (α := List Ln) (fun L => (⟨false, 147, 18, [22, 23, 24, 33, 34, 35, 36, 41, 43, 113, 135, 136, 137], glT, [(2, .ptr 0 1 0 0), (5, .sl 1 n 0 n none), (8, .ptr 2 1 0 0), (33, .fz 3 (rds l)), (34, .int .i64 l.length), (35, .int .i64 (i : Int))], []⟩, [.rows 4 [[.int .i64 (n : Int), .int .i64 rr, .int .i64 b, .fz 1 (ints S)]], .rows 6 (lns L), .rows 3 [[.fz 2 (prs d), .int .i64 y, .fm (enP M)]]])) (fun L => L = M.foldl (addE S) L0 ∧ BdL (201 * i + 2 * M.length) L) ?_ ?_
   ·simp [go_sem]
    refine IWp.shut fun Q hQ => ?_
    refine IWp.loopI (α := Option ((Int × Int) × Int) × List ((Int × Int) × Int) × List Ln) (fun x => (⟨false, 147, 18, [22, 23, 24, 33, 34, 35, 36, 41, 43, 113, 135, 136, 137], glT, [(2, .ptr 0 1 0 0), (5, .sl 1 n 0 n none), (8, .ptr 2 1 0 0), (33, .fz 3 (rds l)), (34, .int .i64 l.length), (35, .int .i64 (i : Int)), (41, .iter 3)], []⟩, [.rows 4 [[.int .i64 (n : Int), .int .i64 rr, .int .i64 b, .fz 1 (ints S)]], .rows 6 (lns x.2.2), .rows 3 [[.fz 2 (prs d), .int .i64 y, .fm (enP M)]], .iter none (enP M) (x.1.map fun e => (k2 e.1, .int .i64 e.2)) (enP x.2.1)]))
     (fun x => ∃ D, (D ++ x.2.1).Perm M ∧ x.2.2 = D.foldl (addE S) L0 ∧ BdL (201 * i + 2 * D.length) x.2.2) (fun x => x.2.1.length) (none, M, L0) ⟨[], List.Perm.refl _, rfl, hB⟩ (by simp [go_sem]) ?_
    rintro ⟨cur, T, L⟩ ⟨D, hD1, hD2, hD3⟩
    simp only at hD1 hD2 hD3
    refine IWp.seqI ?_
    simp [go_sem]
    refine ⟨fun h => ?_, fun k kv hkv => ?_⟩
    ·have hT := enP_eq_nil.1 h
     subst hT
     rw [List.append_nil] at hD1
     simp [go_sem]
     refine IWp.now ?_
     simp [go_sem]
     rw [hQ]
     simp [go_sem]
     exact ⟨L, rfl, by rw [hD2]; exact addE_perm S hD1 L0, by rw [← hD1.length_eq]; exact hD3⟩
    ·obtain ⟨⟨⟨a, c⟩, m⟩, hp9, rfl⟩ := enP_get hkv
     rw [enP_erase]
     have hmem := hD1.mem_iff.1 (List.mem_append_right _ (List.mem_of_getElem? hp9))
     obtain ⟨ha, hc, hm⟩ := hok1 _ hmem
     simp only at ha hc hm
     have hlt := (List.getElem?_eq_some_iff.1 hp9).1
     have hlen : (T.eraseIdx k).length < T.length := by rw [List.length_eraseIdx, if_pos hlt]; omega
     have hD1' : ((D ++ [((a, c), m)]) ++ T.eraseIdx k).Perm M := by
      refine List.Perm.trans ?_ hD1
      rw [List.append_assoc]
      refine List.Perm.append_left D ?_
      have : T[k] = ((a, c), m) := (List.getElem?_eq_some_iff.1 hp9).2
      rw [← this]
      exact (erase_perm hlt)
     have hDl : D.length + 1 ≤ M.length := by have := hD1.length_eq; simp at this; omega
     have hD2' : (D ++ [((a, c), m)]).foldl (addE S) L0 = addE S L ((a, c), m) := by rw [List.foldl_append, ← hD2]; rfl
     have hLl : L.length = n := by rw [hD2, foldE_length]; exact hLn
     clear hkv hp9 hmem hD1 hD2
     have hb1 := hD3.addA hS2 hm (a - 1).toNat
     have hb2 := hb1.addB hS2 hm (c - 1).toNat
     have wa : IntKind.i64.wrap (a - 1) = (((a - 1).toNat : Nat) : Int) := by rw [wrap64 (by omega) (by omega)]; omega
     have wc : IntKind.i64.wrap (c - 1) = (((c - 1).toNat : Nat) : Int) := by rw [wrap64 (by omega) (by omega)]; omega
     have la : (a - 1).toNat < n := by omega
     have lc : (c - 1).toNat < n := by omega
     unfold addE at hD2'
     simp only at hD2'
     generalize (a - 1).toNat = A at *
     generalize (c - 1).toNat = C at *
     have cp := Points_fun S m (by omega)
     unfold ptsV at cp
     rw [if_pos ⟨hp.s, hm⟩] at cp
     have e1 := lns_at (l := L) (i := A) (by omega)
     have e2 : ∀ hh, (lns L)[A]'hh = (L.getD A Ln0).c := fun hh => by rw [List.getElem?_eq_getElem hh, Option.getD_some] at e1; exact e1
     have hBx := hD3 (L.getD A Ln0) (by rw [List.getD_eq_getElem?_getD, List.getElem?_eq_getElem (by omega), Option.getD_some]; exact List.getElem_mem _)
     have hU : lns (upL L A (addA S m)) = (lns L).set A (addA S m (L.getD A Ln0)).c := lns_set
     have hL1 : (upL L A (addA S m)).length = n := by rw [upL_length]; exact hLl
     have f1 := lns_at (l := upL L A (addA S m)) (i := C) (by omega)
     have f2 : ∀ hh, (lns (upL L A (addA S m)))[C]'hh = ((upL L A (addA S m)).getD C Ln0).c := fun hh => by rw [List.getElem?_eq_getElem hh, Option.getD_some] at f1; exact f1
     have hBy := hb1 ((upL L A (addA S m)).getD C Ln0) (by rw [List.getD_eq_getElem?_getD, List.getElem?_eq_getElem (by omega), Option.getD_some]; exact List.getElem_mem _)
     have hV : lns (upL (upL L A (addA S m)) C (addB S m)) = (lns (upL L A (addA S m))).set C (addB S m ((upL L A (addA S m)).getD C Ln0)).c := lns_set
     have hpb := pt_bd S m
     have hmb := mrB_bd hm
     generalize upL L A (addA S m) = L1 at *
     generalize L.getD A Ln0 = X at *
     generalize L1.getD C Ln0 = Y at *
     obtain ⟨x1, x2, x3, x4, x5, x6⟩ := X
     obtain ⟨y1, y2, y3, y4, y5, y6⟩ := Y
     unfold Bd1 at hBx hBy
     simp only [addA, addB, Ln.c] at e1 e2 f1 f2 hU hV hBx hBy
     generalize ptA S m = pA at *
     generalize ptB S m = pB at *
     have u1 : IntKind.i64.wrap (x3 + 1) = x3 + 1 := wrap64 (by omega) (by omega)
     have u2 : IntKind.i64.wrap (x4 + pA) = x4 + pA := wrap64 (by omega) (by omega)
     have u3 : IntKind.i64.wrap (x5 + m) = x5 + m := wrap64 (by omega) (by omega)
     have u4 : IntKind.i64.wrap (y3 + 1) = y3 + 1 := wrap64 (by omega) (by omega)
     have u5 : IntKind.i64.wrap (y4 + pB) = y4 + pB := wrap64 (by omega) (by omega)
     have u6 : IntKind.i64.wrap (y5 - m) = y5 - m := wrap64 (by omega) (by omega)
     clear hBx hBy hpb
     simp [go_sem]
     refine IWp.seqI ?_
     simp [go_sem]
     refine IWp.block ?_
     refine IWp.seqI ?_
     simp [go_sem, k2]
     refine IWp.seqI ?_
     simp [go_sem, wa, wc, la, lc, hLl]
     refine ⟨by decide +kernel, ?_⟩
     refine IWp.seqI ?_
     simp [go_sem]
     refine cp.callF (by simp [go_sem]) ?_
     rintro _ rfl
     simp [go_sem]
     refine IWp.seqI ?_
     simp [go_sem, la, lc, hLl, e1, e2, u1, u2, u3]
     refine IWp.seqI ?_
     simp [go_sem, la, lc, hLl, e1, e2, u1, u2, u3]
     refine IWp.seqI ?_
     simp [go_sem, la, lc, hLl, e1, e2, u1, u2, u3]
     rw [← hU]
     refine IWp.seqI ?_
     simp [go_sem, la, lc, hLl, hL1, f1, f2, u4, u5, u6]
     refine IWp.seqI ?_
     simp [go_sem, la, lc, hLl, hL1, f1, f2, u4, u5, u6]
     refine IWp.now ?_
     simp [go_sem, la, lc, hLl, hL1, f1, f2, u4, u5, u6]
     rw [← hV]
     refine ⟨some ((a, c), m), T.eraseIdx k, _, ⟨⟨rfl, rfl, rfl⟩, ?_⟩, ⟨D ++ [((a, c), m)], hD1', hD2'.symm, ?_⟩, hlen⟩
     ·rintro _ _ x x1 x2 _ rfl rfl
      simp [go_sem]
     ·rw [List.length_append, show 201 * i + 2 * (D.length + [((a, c), m)].length) = 201 * i + 2 * D.length + 1 + 1 by simp; omega]
      exact hb2
   ·rintro G ⟨hG1, hG2⟩
    have hGl : G.length = n := by rw [hG1, foldE_length]; exact hLn
    rw [show addR ⟨(n : Int), rr, b, S⟩ L0 ⟨d, y, M⟩ = if 0 < y then upL (M.foldl (addE S) L0) (y - 1).toNat (fun x => { x with points := x.points + b, bye := true }) else M.foldl (addE S) L0 from rfl, ← hG1] at hsn
    have hG3 := hG2.mono (k' := 201 * i + 200) (by omega)
    clear hG1 hG2
    by_cases hy : 0 < y
    ·rw [if_pos hy] at hsn
     have wy : IntKind.i64.wrap (y - 1) = (((y - 1).toNat : Nat) : Int) := by rw [wrap64 (by omega) (by omega)]; omega
     have ly : (y - 1).toNat < n := by omega
     have hBn : BdL (201 * (i + 1)) (upL G (y - 1).toNat fun x => { x with points := x.points + b, bye := true }) := by
      refine hG3.up (by omega) fun x hx => ?_
      unfold Bd1 at *
      simp only
      omega
     generalize (y - 1).toNat = Y at *
     have e1 := lns_at (l := G) (i := Y) (by omega)
     have e2 : ∀ hh, (lns G)[Y]'hh = (G.getD Y Ln0).c := fun hh => by rw [List.getElem?_eq_getElem hh, Option.getD_some] at e1; exact e1
     have hBx := hG3 (G.getD Y Ln0) (by rw [List.getD_eq_getElem?_getD, List.getElem?_eq_getElem (by omega), Option.getD_some]; exact List.getElem_mem _)
     have hU : lns (upL G Y fun x => { x with points := x.points + b, bye := true }) = (lns G).set Y ({ G.getD Y Ln0 with points := (G.getD Y Ln0).points + b, bye := true } : Ln).c := lns_set
     generalize G.getD Y Ln0 = X at *
     obtain ⟨x1, x2, x3, x4, x5, x6⟩ := X
     unfold Bd1 at hBx
     simp only [Ln.c] at e1 e2 hU hBx
     have u1 : IntKind.i64.wrap (x4 + b) = x4 + b := wrap64 (by omega) (by omega)
     refine IWp.seqI ?_
     simp [go_sem]
     refine IWp.now ?_
     simp [go_sem, hy, wy, ly, hGl, e1, e2, u1]
     refine ⟨by decide +kernel, ?_⟩
     refine IWp.now ?_
     simp [go_sem, w1]
     exact ⟨i + 1, ⟨by omega, by rw [hsn]; exact hU⟩, ⟨by omega, by rw [hsn]; exact hBn⟩, by omega⟩
    ·rw [if_neg hy] at hsn
     refine IWp.seqI ?_
     simp [go_sem]
     refine IWp.now ?_
     simp [go_sem, hy]
     refine IWp.now ?_
     simp [go_sem, w1]
     exact ⟨i + 1, ⟨by omega, by rw [hsn]⟩, ⟨by omega, by rw [hsn]; exact hG3.mono (by omega)⟩, by omega⟩
  ·obtain rfl : i = l.length := by omega
   rw [List.take_length]
   refine IWp.seqI ?_
   simp [go_sem]
   refine IWp.now ?_
   simp [go_sem, tabU]
 ·rintro _ _
  have hn1 := tabU_nodup ⟨(n : Int), rr, b, S⟩ l
  have hn3 : (tabU ⟨(n : Int), rr, b, S⟩ l).length = n := by simp
  unfold tabL9 at hR
  generalize tabU ⟨(n : Int), rr, b, S⟩ l = U at *
  have cs := sortLines_calls U (by omega) (by omega) hn1
  have hsl := srtLn_length U
  rw [hn3] at cs hsl
  generalize srtLn U = V at *
  unfold cmpLV at cs
  refine IWp.seqI ?_
  simp [go_sem]
  refine cs.at [1] (by simp [go_sem]) ?_
  rintro _ _ rfl
  simp [go_sem]
  refine IWp.now ?_
  simp [go_sem, hn3]
  refine ⟨hsl.symm, ?_⟩
  refine IWp.loopT (α := Nat) (fun i => (⟨false, 147, 18, [22, 23, 24, 33, 34, 35, 36, 41, 43, 113, 135, 136, 137], glT, [(5, .sl 1 n 0 n none), (135, .int .i64 n), (136, .int .i64 (i : Int))], []⟩, [.dead, .rows 6 (lns (plcI V i))]))
   (fun i => i ≤ n) (fun i => n - i) 0 (by omega) (by simp [go_sem, plcI, plcLn, hsl]) ?_
  intro i hi
  by_cases h : i < n
  ·have w1 : IntKind.i64.wrap ((i : Int) + 1) = i + 1 := wrap64 (by omega) (by omega)
   have hs := plcI_step (L := V) (i := i) (by omega)
   have hl2 := plcI_length (L := V) (i := i) (by omega)
   have e1 := lns_at (l := plcI V i) (i := i) (by omega)
   rw [plcI_at (by omega)] at e1
   have e2 : ∀ hh, (lns (plcI V i))[i]'hh = (V.getD i Ln0).c := fun hh => by rw [List.getElem?_eq_getElem hh, Option.getD_some] at e1; exact e1
   have hU : lns (plcI V (i + 1)) = (lns (plcI V i)).set i ({ V.getD i Ln0 with place := (i : Int) + 1 } : Ln).c := by rw [← hs, lns_set]
   generalize V.getD i Ln0 = X at *
   generalize plcI V i = W at *
   obtain ⟨x1, x2, x3, x4, x5, x6⟩ := X
   simp only [Ln.c] at e1 e2 hU
   simp [go_sem, h, w1, e1, e2, hl2, hsl]
   exact ⟨i + 1, ⟨by omega, hU⟩, by omega, by omega⟩
  ·obtain rfl : i = n := by omega
   have hal := plcI_all (L := V)
   rw [hsl] at hal
   rw [hal]
   have hpl : (plcLn 0 V).length = i := by simp [hsl]
   simp [go_sem]
   exact hR _ _ _ rfl (by simp [go_sem, hpl, hsl])
end Go.Idl
