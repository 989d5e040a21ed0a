import Derived.Test.YtamffdgopknkfaaGreatDoorC39zPartF
set_option linter.all false
set_option maxHeartbeats 8000000
set_option maxRecDepth 40000
namespace Go.Idl
open Go.Proofs
def scGo : Int → List Int → Bool
 | _, [] => true
 | b, x :: l => decide (b < x) && decide (x ≤ 1000000) && scGo x l
def scB (S : List Int) : Bool := decide (1 ≤ S.length) && decide (S.length ≤ 50) && scGo 0 S
def cntS (S : List Int) (m : Int) : Nat := S.countP fun x => decide (x ≤ max m (-m))
def moreI (S : List Int) (m : Int) : Int := if m < 0 then -(cntS S m : Int) else cntS S m
def ptA (S : List Int) (m : Int) : Int := (S.length : Int) + moreI S m
def ptB (S : List Int) (m : Int) : Int := (S.length : Int) - moreI S m
def mrB (m : Int) : Bool := decide (-1000000 ≤ m) && decide (m ≤ 1000000)
theorem cntS_le (S : List Int) (m : Int) : cntS S m ≤ S.length := List.countP_le_length
theorem pt_bd (S : List Int) (m : Int) : (0 ≤ ptA S m ∧ ptA S m ≤ 2 * S.length) ∧ 0 ≤ ptB S m ∧ ptB S m ≤ 2 * S.length := by
 have := cntS_le S m
 unfold ptA ptB moreI; split <;> omega
theorem scB_len {S : List Int} (h : scB S = true) : 1 ≤ S.length ∧ S.length ≤ 50 := by
 unfold scB at h
 simp only [Bool.and_eq_true, decide_eq_true_eq] at h
 exact ⟨h.1.1, h.1.2⟩
theorem scGo_take {b : Int} : ∀ {S : List Int} {i : Nat}, scGo b S = true → scGo b (S.take i) = true
 | [], i, _ => by simp [scGo]
 | x :: l, 0, _ => rfl
 | x :: l, i + 1, h => by
  simp only [scGo, List.take_succ_cons, Bool.and_eq_true] at h ⊢
  exact ⟨h.1, scGo_take h.2⟩
end Go.Idl
namespace Go.Idl
open Go.Proofs
structure Pl where
 t : Int
 r : Int
 b : Int
 s : List Int
 deriving DecidableEq
def Pl.c (p : Pl) : List IV := [.int .i64 p.t, .int .i64 p.r, .int .i64 p.b, .fz 1 (ints p.s)]
def Pl.v (p : Pl) : IV := .agg [.int .i64 p.t, .int .i64 p.r, .int .i64 p.b, .fz 1 (ints p.s)]
structure Em where
 r : Int
 a : Int
 b : Int
 m : Int
 deriving DecidableEq
def Em.c (x : Em) : List IV := [.int .i64 x.r, .int .i64 x.a, .int .i64 x.b, .int .i64 x.m]
def Em.v (x : Em) : IV := .agg [.int .i64 x.r, .int .i64 x.a, .int .i64 x.b, .int .i64 x.m]
def ems (l : List Em) : List (List IV) := mp Em.c l
@[simp] theorem ems_length (l : List Em) : (ems l).length = l.length := mp_length
@[simp] theorem ems_getElem (l : List Em) (i : Nat) (h : i < (ems l).length) : (ems l)[i] = [.int .i64 (l[i]'(by simpa using h)).r, .int .i64 (l[i]'(by simpa using h)).a, .int .i64 (l[i]'(by simpa using h)).b, .int .i64 (l[i]'(by simpa using h)).m] := by simp [ems, mp, Em.c]
theorem ems_snoc {l : List Em} {x : Em} : ems (l ++ [x]) = ems l ++ [[.int .i64 x.r, .int .i64 x.a, .int .i64 x.b, .int .i64 x.m]] := mp_snoc
@[go_sem] theorem ems_nil : ems [] = [] := rfl
@[go_sem] theorem ScR_ems {l : List Em} : ScR (ems l) = True := eq_true (mp_sc (by simp [scal, Em.c]))
@[go_sem] theorem ClR_ems {l : List Em} : ClR (ems l) = True := eq_true (ScR.cl (mp_sc (by simp [scal, Em.c])))
@[go_sem] theorem BlR_ems {n : Nat} {l : List Em} : BlR n (ems l) = True := eq_true (ScR.bl (mp_sc (by simp [scal, Em.c])))
theorem ems_rows {l : List Em} : ∀ r ∈ ems l, r.length = 4 := mp_rows (by simp [Em.c])
theorem ems_one {l : List Em} : ∀ a ∈ ems l, a.length = 4 ∧ ∀ x ∈ a, IV.one x = true := rows_one (mp_sc (by simp [scal, Em.c])) ems_rows
structure Ln where
 team : Int
 place : Int
 played : Int
 points : Int
 margin : Int
 bye : Bool
 deriving DecidableEq
def Ln.c (x : Ln) : List IV := [.int .i64 x.team, .int .i64 x.place, .int .i64 x.played, .int .i64 x.points, .int .i64 x.margin, .bool x.bye]
def Ln.v (x : Ln) : IV := .agg [.int .i64 x.team, .int .i64 x.place, .int .i64 x.played, .int .i64 x.points, .int .i64 x.margin, .bool x.bye]
def lns (l : List Ln) : List (List IV) := mp Ln.c l
@[simp] theorem lns_length (l : List Ln) : (lns l).length = l.length := mp_length
@[simp] theorem lns_getElem (l : List Ln) (i : Nat) (h : i < (lns l).length) : (lns l)[i] = [.int .i64 (l[i]'(by simpa using h)).team, .int .i64 (l[i]'(by simpa using h)).place, .int .i64 (l[i]'(by simpa using h)).played, .int .i64 (l[i]'(by simpa using h)).points, .int .i64 (l[i]'(by simpa using h)).margin, .bool (l[i]'(by simpa using h)).bye] := by simp [lns, mp, Ln.c]
theorem lns_snoc {l : List Ln} {x : Ln} : lns (l ++ [x]) = lns l ++ [[.int .i64 x.team, .int .i64 x.place, .int .i64 x.played, .int .i64 x.points, .int .i64 x.margin, .bool x.bye]] := mp_snoc
@[go_sem] theorem lns_nil : lns [] = [] := rfl
@[go_sem] theorem ScR_lns {l : List Ln} : ScR (lns l) = True := eq_true (mp_sc (by simp [scal, Ln.c]))
@[go_sem] theorem ClR_lns {l : List Ln} : ClR (lns l) = True := eq_true (ScR.cl (mp_sc (by simp [scal, Ln.c])))
@[go_sem] theorem BlR_lns {n : Nat} {l : List Ln} : BlR n (lns l) = True := eq_true (ScR.bl (mp_sc (by simp [scal, Ln.c])))
theorem lns_set {l : List Ln} {i : Nat} {x : Ln} : lns (l.set i x) = (lns l).set i x.c := mp_set
theorem lns_take {l : List Ln} {n : Nat} : lns (l.take n) = (lns l).take n := mp_take
def Ln0 : Ln := ⟨0, 0, 0, 0, 0, false⟩
theorem lns_at {l : List Ln} {i : Nat} (h : i < l.length) : (lns l)[i]?.getD [] = (l.getD i Ln0).c := by
 rw [List.getElem?_eq_getElem (by simpa using h), Option.getD_some, lns_getElem]
 simp [h, Ln.c]
structure Er where
 draw : List (Int × Int)
 bye : Int
 mg : List ((Int × Int) × Int)
 deriving DecidableEq
def Er.over (r : Er) : Bool := r.mg.length == r.draw.length
def Er.c (r : Er) : List IV := [.fz 2 (prs r.draw), .int .i64 r.bye, .fm (enP r.mg)]
def Er.v (r : Er) : IV := .agg [.fz 2 (prs r.draw), .int .i64 r.bye, .fm (enP r.mg)]
def rds (l : List Er) : List (List IV) := mp Er.c l
@[simp] theorem rds_length (l : List Er) : (rds l).length = l.length := mp_length
@[simp] theorem rds_getElem (l : List Er) (i : Nat) (h : i < (rds l).length) : (rds l)[i] = [.fz 2 (prs (l[i]'(by simpa using h)).draw), .int .i64 (l[i]'(by simpa using h)).bye, .fm (enP (l[i]'(by simpa using h)).mg)] := by simp [rds, mp, Er.c]
theorem rds_snoc {l : List Er} {x : Er} : rds (l ++ [x]) = rds l ++ [[.fz 2 (prs x.draw), .int .i64 x.bye, .fm (enP x.mg)]] := mp_snoc
@[go_sem] theorem rds_nil : rds [] = [] := rfl
theorem rds_take {l : List Er} {n : Nat} : rds (l.take n) = (rds l).take n := mp_take
theorem rds_cell {l : List Er} : ∀ row ∈ rds l, ∀ c ∈ row, (∃ d, c = .fz 2 (prs d)) ∨ (∃ n, c = .int .i64 n) ∨ ∃ S, c = .fm (enP S) := by
 intro row hr c hc
 simp only [rds, mp, List.mem_map] at hr
 obtain ⟨r, _, rfl⟩ := hr
 simp only [Er.c, List.mem_cons, List.not_mem_nil, or_false] at hc
 rcases hc with rfl | rfl | rfl
 ·exact .inl ⟨_, rfl⟩
 ·exact .inr (.inl ⟨_, rfl⟩)
 ·exact .inr (.inr ⟨_, rfl⟩)
@[go_sem] theorem ClR_rds {l : List Er} : ClR (rds l) = True := eq_true fun row hr c hc => by rcases rds_cell row hr c hc with ⟨_, rfl⟩ | ⟨_, rfl⟩ | ⟨_, rfl⟩ <;> simp [go_sem]
@[go_sem] theorem BlR_rds {n : Nat} {l : List Er} : BlR n (rds l) = True := eq_true fun row hr c hc => by rcases rds_cell row hr c hc with ⟨_, rfl⟩ | ⟨_, rfl⟩ | ⟨_, rfl⟩ <;> simp [go_sem]
@[go_sem] theorem okR_rds {d : Nat} {h : Heap} {l : List Er} : okR true d h (rds l) = True := eq_true (by
 simp only [okR]
 intro row hr c hc
 rcases rds_cell row hr c hc with ⟨_, rfl⟩ | ⟨_, rfl⟩ | ⟨_, rfl⟩ <;> simp [go_sem])
@[go_sem] theorem frzR_rds {d : Nat} {h : Heap} {l : List Er} : frzR d h (rds l) = rds l := by
 simp only [frzR]
 conv => rhs; rw [← List.map_id (rds l)]
 apply List.map_congr_left
 intro row hr
 conv => rhs; rw [show id row = row from rfl, ← List.map_id row]
 apply List.map_congr_left
 intro c hc
 rcases rds_cell row hr c hc with ⟨_, rfl⟩ | ⟨_, rfl⟩ | ⟨_, rfl⟩ <;> simp [go_sem]
@[go_sem] theorem fltM_enP {S : List ((Int × Int) × Int)} : fltM (enP S) = true := by
 simp [fltM, enP, enM, flt, flt1, k2]
def mgStep (n : Int) (d : List (Int × Int)) (S : List ((Int × Int) × Int)) (x : Em) : List ((Int × Int) × Int) :=
 if (aget (x.a, x.b) S).isSome = false ∧ x.r = n ∧ mrB x.m = true ∧ (x.a, x.b) ∈ d then aset (x.a, x.b) x.m S else S
def mgs (l : List Em) (n : Int) (d : List (Int × Int)) : List ((Int × Int) × Int) := l.foldl (mgStep n d) []
def addA (S : List Int) (m : Int) (x : Ln) : Ln := { x with played := x.played + 1, points := x.points + ptA S m, margin := x.margin + m }
def addB (S : List Int) (m : Int) (x : Ln) : Ln := { x with played := x.played + 1, points := x.points + ptB S m, margin := x.margin - m }
def upL (L : List Ln) (i : Nat) (f : Ln → Ln) : List Ln := L.set i (f (L.getD i Ln0))
@[simp] theorem upL_length (L : List Ln) (i : Nat) (f : Ln → Ln) : (upL L i f).length = L.length := by simp [upL]
def addE (S : List Int) (L : List Ln) (e : (Int × Int) × Int) : List Ln := upL (upL L (e.1.1 - 1).toNat (addA S e.2)) (e.1.2 - 1).toNat (addB S e.2)
@[simp] theorem addE_length (S : List Int) (L : List Ln) (e : (Int × Int) × Int) : (addE S L e).length = L.length := by simp [addE]
def addY (p : Pl) (y : Int) (L : List Ln) : List Ln := if 0 < y then upL L (y - 1).toNat fun x => { x with points := x.points + p.b, bye := true } else L
@[simp] theorem addY_length (p : Pl) (y : Int) (L : List Ln) : (addY p y L).length = L.length := by unfold addY; split <;> simp
def addR (p : Pl) (L : List Ln) (r : Er) : List Ln := addY p r.bye (r.mg.foldl (addE p.s) L)
def lns0 (n : Nat) : List Ln := (List.range n).map fun i : Nat => ⟨(i : Int) + 1, 0, 0, 0, 0, false⟩
@[simp] theorem lns0_length (n : Nat) : (lns0 n).length = n := by simp [lns0]
def tabU (p : Pl) (l : List Er) : List Ln := l.foldl (addR p) (lns0 p.t.toNat)
def lnLt (x y : Ln) : Prop := y.points < x.points ∨ y.points = x.points ∧ (y.margin < x.margin ∨ y.margin = x.margin ∧ x.team < y.team)
instance (x y : Ln) : Decidable (lnLt x y) := by unfold lnLt; infer_instance
def insLn (x : Ln) : List Ln → List Ln
 | [] => [x]
 | y :: l => if lnLt y x then y :: insLn x l else x :: y :: l
def srtLn : List Ln → List Ln
 | [] => []
 | x :: l => insLn x (srtLn l)
def plcLn : Nat → List Ln → List Ln
 | _, [] => []
 | k, x :: l => { x with place := (k : Int) + 1 } :: plcLn (k + 1) l
def tabL9 (p : Pl) (l : List Er) : List Ln := plcLn 0 (srtLn (tabU p l))
def ordT (p : Pl) (l : List Er) : List Int := (tabL9 p l).map (·.team)
def metT (l : List Er) : List (Int × Int) := l.flatMap (·.draw)
def byeT (l : List Er) : List Int := l.flatMap fun r => if 0 < r.bye then [r.bye] else []
def reach (p : Pl) (l : List Em) : Nat → Nat → List Er → List Er
 | 0, _, _ => []
 | k + 1, n, bf =>
  let q := drawR (ordT p bf) (metT bf) (byeT bf)
  if q.2.2 ≠ 0 then [] else
  let r : Er := ⟨q.1, q.2.1, mgs l n q.1⟩
  if r.over = true then r :: reach p l k (n + 1) (bf ++ [r]) else [r]
def rchd (p : Pl) (l : List Em) : List Er := reach p l p.r.toNat 0 []
def ovrd (l : List Er) : List Er := l.take (l.countP (·.over))
def plB (p : Pl) : Bool := decide (2 ≤ p.t) && decide (p.t ≤ 16) && decide (1 ≤ p.r) && decide (p.r ≤ 15) && scB p.s && decide (0 ≤ p.b) && decide (p.b ≤ 2 * p.s.length)
end Go.Idl
namespace Go.Idl
open Go.Proofs
theorem lnLt_trans {x y z : Ln} (h : lnLt x y) (h' : lnLt y z) : lnLt x z := by unfold lnLt at *; omega
theorem lnLt_irr {x : Ln} : ¬ lnLt x x := by unfold lnLt; omega
theorem lnLt_total {x y : Ln} (h : x.team ≠ y.team) (h' : ¬ lnLt x y) : lnLt y x := by unfold lnLt at *; omega
theorem insLn_perm (x : Ln) : ∀ L : List Ln, (insLn x L).Perm (x :: L)
 | [] => List.Perm.refl _
 | y :: l => by
  unfold insLn
  split
  ·exact ((insLn_perm x l).cons y).trans (List.Perm.swap x y l)
  ·exact List.Perm.refl _
theorem srtLn_perm : ∀ L : List Ln, (srtLn L).Perm L
 | [] => List.Perm.refl _
 | x :: l => (insLn_perm x _).trans ((srtLn_perm l).cons x)
@[simp] theorem srtLn_length (L : List Ln) : (srtLn L).length = L.length := (srtLn_perm L).length_eq
theorem insLn_sorted {x : Ln} : ∀ {L : List Ln}, (∀ y ∈ L, x.team ≠ y.team) → L.Pairwise lnLt → (insLn x L).Pairwise lnLt
 | [], _, _ => by simp [insLn]
 | y :: l, hx, h => by
  unfold insLn
  rw [List.pairwise_cons] at h
  split
  ·rename_i hy
   rw [List.pairwise_cons]
   refine ⟨fun z hz => ?_, insLn_sorted (fun z hz => hx z (List.mem_cons_of_mem _ hz)) h.2⟩
   rcases List.mem_cons.1 ((insLn_perm x l).mem_iff.1 hz) with rfl | hz
   ·exact hy
   ·exact h.1 z hz
  ·rename_i hy
   have hxy := lnLt_total (Ne.symm (hx y (List.mem_cons_self ..))) hy
   rw [List.pairwise_cons, List.pairwise_cons]
   refine ⟨fun z hz => ?_, h⟩
   rcases List.mem_cons.1 hz with rfl | hz
   ·exact hxy
   ·exact lnLt_trans hxy (h.1 z hz)
theorem srtLn_sorted : ∀ {L : List Ln}, (L.map (·.team)).Nodup → (srtLn L).Pairwise lnLt
 | [], _ => List.Pairwise.nil
 | x :: l, h => by
  simp only [List.map_cons, List.nodup_cons] at h
  refine insLn_sorted (fun y hy e => h.1 ?_) (srtLn_sorted h.2)
  rw [e]
  exact List.mem_map_of_mem ((srtLn_perm l).mem_iff.1 hy)
theorem srtLn_unique {A L : List Ln} (hp : A.Perm L) (h : A.Pairwise lnLt) (hn : (L.map (·.team)).Nodup) : A = srtLn L :=
 List.Perm.eq_of_pairwise (fun a b _ _ h1 h2 => absurd (lnLt_trans h1 h2) lnLt_irr) h (srtLn_sorted hn) (hp.trans (srtLn_perm L).symm)
@[simp] theorem plcLn_length : ∀ (k : Nat) (L : List Ln), (plcLn k L).length = L.length
 | _, [] => rfl
 | k, x :: l => by simp [plcLn, plcLn_length]
theorem plcLn_get : ∀ (k : Nat) (L : List Ln) (i : Nat) (h : i < (plcLn k L).length), (plcLn k L)[i] = { L[i]'(by simpa using h) with place := (k : Int) + i + 1 }
 | _, [], i, h => by simp [plcLn] at h
 | k, x :: l, 0, h => by simp [plcLn]
 | k, x :: l, i + 1, h => by
  simp only [plcLn, List.getElem_cons_succ]
  rw [plcLn_get (k + 1) l i]
  simp only [Ln.mk.injEq, and_true, true_and]
  omega
theorem plcLn_teams : ∀ (k : Nat) (L : List Ln), (plcLn k L).map (·.team) = L.map (·.team)
 | _, [] => rfl
 | k, x :: l => by simp [plcLn, plcLn_teams]
theorem upL_get (L : List Ln) (i : Nat) (f : Ln → Ln) (j : Nat) : (upL L i f)[j]? = if i = j then (L[j]?).map f else L[j]? := by
 unfold upL
 rw [List.getElem?_set]
 by_cases h : i = j
 ·subst h
  rw [if_pos rfl, if_pos rfl]
  by_cases hl : i < L.length
  ·simp [hl]
  ·simp [hl]
 ·rw [if_neg h, if_neg h]
theorem upL_comm {L : List Ln} {i j : Nat} {f g : Ln → Ln} (h : ∀ x, f (g x) = g (f x)) : upL (upL L i f) j g = upL (upL L j g) i f := by
 apply List.ext_getElem?
 intro k
 simp only [upL_get]
 by_cases h1 : i = k <;> by_cases h2 : j = k <;> simp only [h1, h2, if_true, if_false]
 cases L[k]? <;> simp [h]
theorem addAA (S : List Int) (m m' : Int) (x : Ln) : addA S m (addA S m' x) = addA S m' (addA S m x) := by simp only [addA, Ln.mk.injEq, true_and, and_true]; omega
theorem addAB (S : List Int) (m m' : Int) (x : Ln) : addA S m (addB S m' x) = addB S m' (addA S m x) := by simp only [addA, addB, Ln.mk.injEq, true_and, and_true]; omega
theorem addBB (S : List Int) (m m' : Int) (x : Ln) : addB S m (addB S m' x) = addB S m' (addB S m x) := by simp only [addB, Ln.mk.injEq, true_and, and_true]; omega
theorem addE_comm (S : List Int) (L : List Ln) (e f : (Int × Int) × Int) : addE S (addE S L e) f = addE S (addE S L f) e := by
 unfold addE
 rw [upL_comm (i := (e.1.2 - 1).toNat) (j := (f.1.1 - 1).toNat) (fun x => (addAB S _ _ x).symm), upL_comm (i := (e.1.2 - 1).toNat) (j := (f.1.2 - 1).toNat) (fun x => addBB S _ _ x), upL_comm (i := (e.1.1 - 1).toNat) (j := (f.1.1 - 1).toNat) (fun x => addAA S _ _ x),
  upL_comm (i := (e.1.1 - 1).toNat) (j := (f.1.2 - 1).toNat) (fun x => addAB S _ _ x)]
theorem addE_perm (S : List Int) {A B : List ((Int × Int) × Int)} (h : A.Perm B) (L : List Ln) : A.foldl (addE S) L = B.foldl (addE S) L :=
 h.foldl_eq' (fun x _ y _ z => addE_comm S z x y) L
theorem foldE_length (S : List Int) : ∀ (A : List ((Int × Int) × Int)) (L : List Ln), (A.foldl (addE S) L).length = L.length
 | [], _ => rfl
 | e :: A, L => by rw [List.foldl_cons, foldE_length S A]; simp
@[simp] theorem addR_length (p : Pl) (L : List Ln) (r : Er) : (addR p L r).length = L.length := by simp [addR, foldE_length]
theorem foldR_length (p : Pl) : ∀ (A : List Er) (L : List Ln), (A.foldl (addR p) L).length = L.length
 | [], _ => rfl
 | e :: A, L => by rw [List.foldl_cons, foldR_length p A]; simp
@[simp] theorem tabU_length (p : Pl) (l : List Er) : (tabU p l).length = p.t.toNat := by simp [tabU, foldR_length]
theorem upL_team {L : List Ln} {i : Nat} {f : Ln → Ln} (h : ∀ x, (f x).team = x.team) : (upL L i f).map (·.team) = L.map (·.team) := by
 apply List.ext_getElem?
 intro k
 simp only [List.getElem?_map, upL_get]
 split
 ·cases L[k]? <;> simp [h]
 ·rfl
theorem addE_team (S : List Int) (L : List Ln) (e : (Int × Int) × Int) : (addE S L e).map (·.team) = L.map (·.team) := by
 unfold addE; rw [upL_team (f := addB S e.2) fun _ => rfl, upL_team (f := addA S e.2) fun _ => rfl]
theorem foldE_team (S : List Int) : ∀ (A : List ((Int × Int) × Int)) (L : List Ln), (A.foldl (addE S) L).map (·.team) = L.map (·.team)
 | [], _ => rfl
 | e :: A, L => by rw [List.foldl_cons, foldE_team S A, addE_team]
theorem addR_team (p : Pl) (L : List Ln) (r : Er) : (addR p L r).map (·.team) = L.map (·.team) := by
 unfold addR addY
 split
 ·rw [upL_team (f := fun x : Ln => { x with points := x.points + p.b, bye := true }) fun _ => rfl, foldE_team]
 ·rw [foldE_team]
theorem foldR_team (p : Pl) : ∀ (A : List Er) (L : List Ln), (A.foldl (addR p) L).map (·.team) = L.map (·.team)
 | [], _ => rfl
 | e :: A, L => by rw [List.foldl_cons, foldR_team p A, addR_team]
theorem lns0_team (n : Nat) : (lns0 n).map (·.team) = (List.range n).map fun i : Nat => (i : Int) + 1 := by simp [lns0]
theorem tabU_team (p : Pl) (l : List Er) : (tabU p l).map (·.team) = (List.range p.t.toNat).map fun i : Nat => (i : Int) + 1 := by rw [tabU, foldR_team, lns0_team]
theorem range1_nodup (n : Nat) : ((List.range n).map fun i : Nat => (i : Int) + 1).Nodup := by
 rw [List.Nodup, List.pairwise_map]
 exact List.nodup_range.imp fun h e => h (by omega)
theorem tabU_nodup (p : Pl) (l : List Er) : ((tabU p l).map (·.team)).Nodup := by rw [tabU_team]; exact range1_nodup _
theorem ordT_perm (p : Pl) (l : List Er) : (ordT p l).Perm ((List.range p.t.toNat).map fun i : Nat => (i : Int) + 1) := by
 unfold ordT tabL9
 rw [plcLn_teams, ← tabU_team p l]
 exact (srtLn_perm _).map _
theorem ordT_nodup (p : Pl) (l : List Er) : (ordT p l).Nodup := (ordT_perm p l).nodup_iff.2 (range1_nodup _)
@[simp] theorem ordT_length (p : Pl) (l : List Er) : (ordT p l).length = p.t.toNat := by rw [(ordT_perm p l).length_eq]; simp
theorem ordT_mem (p : Pl) (l : List Er) (x : Int) : x ∈ ordT p l ↔ 1 ≤ x ∧ x ≤ p.t := by
 rw [(ordT_perm p l).mem_iff]
 simp only [List.mem_map, List.mem_range]
 constructor
 ·rintro ⟨i, h, rfl⟩; omega
 ·intro h; exact ⟨(x - 1).toNat, by omega, by omega⟩
theorem aset_keys {α β : Type} [DecidableEq α] (a : α) (b : β) : ∀ (S : List (α × β)), (aget a S).isSome = false → aset a b S = S ++ [(a, b)]
 | [], _ => rfl
 | (k, v) :: S, h => by
  simp only [aget, aset] at h ⊢
  split
  ·rename_i e; rw [if_pos e] at h; simp at h
  ·rename_i e; rw [if_neg e] at h; rw [aset_keys a b S h]; rfl
theorem aget_none {α β : Type} [DecidableEq α] {a : α} : ∀ {S : List (α × β)}, (aget a S).isSome = false ↔ a ∉ S.map (·.1)
 | [] => by simp [aget]
 | (k, v) :: S => by
  simp only [aget, List.map_cons, List.mem_cons, not_or]
  split
  ·rename_i e; simp [e]
  ·rename_i e; rw [aget_none]; exact ⟨fun h => ⟨e, h⟩, fun h => h.2⟩
theorem mem_aget {α β : Type} [DecidableEq α] {a : α} {b : β} : ∀ {S : List (α × β)}, (S.map (·.1)).Nodup → (a, b) ∈ S → aget a S = some b
 | (k, v) :: S, hn, h => by
  simp only [List.map_cons, List.nodup_cons] at hn
  simp only [aget]
  rcases List.mem_cons.1 h with h | h
  ·cases h; rw [if_pos rfl]
  ·rw [if_neg, mem_aget hn.2 h]
   intro e
   exact hn.1 (List.mem_map.2 ⟨(a, b), h, e⟩)
def isM (n : Int) (x : Int × Int) (e : Em) : Bool := decide (e.r = n) && decide ((e.a, e.b) = x)
def isMm (n : Int) (x : Int × Int) (e : Em) : Bool := isM n x e && mrB e.m
theorem mgStep_keys {n : Int} {d : List (Int × Int)} {S : List ((Int × Int) × Int)} (e : Em) (h1 : (S.map (·.1)).Nodup) (h2 : ∀ k ∈ S.map (·.1), k ∈ d) :
  ((mgStep n d S e).map (·.1)).Nodup ∧ ∀ k ∈ (mgStep n d S e).map (·.1), k ∈ d := by
 unfold mgStep
 split
 ·rename_i h
  rw [aset_keys _ _ _ h.1, List.map_append]
  have hn := aget_none.1 h.1
  refine ⟨?_, fun k hk => ?_⟩
  ·rw [List.nodup_append]
   refine ⟨h1, by simp, fun a ha b hb e => hn ?_⟩
   simp only [List.map_cons, List.map_nil, List.mem_singleton] at hb
   rw [← hb, ← e]; exact ha
  ·rcases List.mem_append.1 hk with hk | hk
   ·exact h2 k hk
   ·simp only [List.map_cons, List.map_nil, List.mem_singleton] at hk
    rw [hk]; exact h.2.2.2
 ·exact ⟨h1, h2⟩
theorem mgFold_keys {n : Int} {d : List (Int × Int)} : ∀ (l : List Em) (S : List ((Int × Int) × Int)), (S.map (·.1)).Nodup → (∀ k ∈ S.map (·.1), k ∈ d) →
  ((l.foldl (mgStep n d) S).map (·.1)).Nodup ∧ ∀ k ∈ (l.foldl (mgStep n d) S).map (·.1), k ∈ d
 | [], S, h1, h2 => ⟨h1, h2⟩
 | e :: l, S, h1, h2 => by
  obtain ⟨k1, k2⟩ := mgStep_keys (n := n) e h1 h2
  exact mgFold_keys l _ k1 k2
theorem mgs_nodup (l : List Em) (n : Int) (d : List (Int × Int)) : ((mgs l n d).map (·.1)).Nodup := (mgFold_keys l [] (by simp) (by simp)).1
theorem mgs_keys {l : List Em} {n : Int} {d : List (Int × Int)} {k : Int × Int} (h : k ∈ (mgs l n d).map (·.1)) : k ∈ d := (mgFold_keys l [] (by simp) (by simp)).2 k h
theorem mgStep_get {n : Int} {d : List (Int × Int)} (S : List ((Int × Int) × Int)) (e : Em) (x : Int × Int) :
  aget x (mgStep n d S e) = match aget x S with | some v => some v | none => if isMm n x e = true ∧ x ∈ d then some e.m else none := by
 unfold mgStep
 split
 ·rename_i h
  rw [aget_aset]
  by_cases hx : x = (e.a, e.b)
  ·subst hx
   have hn : aget (e.a, e.b) S = none := by have := h.1; cases hq : aget (e.a, e.b) S with | none => rfl | some v => rw [hq] at this; simp at this
   rw [if_pos rfl, hn]
   simp only
   rw [if_pos ⟨by simp [isMm, isM, h.2.1, h.2.2.1], h.2.2.2⟩]
  ·rw [if_neg hx]
   cases hq : aget x S with
   | some v => rfl
   | none =>
    simp only
    rw [if_neg]
    rintro ⟨h1, _⟩
    simp only [isMm, isM, Bool.and_eq_true, decide_eq_true_eq] at h1
    exact hx h1.1.2.symm
 ·rename_i h
  cases hq : aget x S with
  | some v => rfl
  | none =>
   simp only
   rw [if_neg]
   rintro ⟨h1, h2⟩
   simp only [isMm, isM, Bool.and_eq_true, decide_eq_true_eq] at h1
   obtain ⟨⟨h3, rfl⟩, h4⟩ := h1
   exact h ⟨by rw [hq]; rfl, h3, h4, h2⟩
theorem mgFold_get {n : Int} {d : List (Int × Int)} : ∀ (l : List Em) (S : List ((Int × Int) × Int)) (x : Int × Int),
  aget x (l.foldl (mgStep n d) S) = match aget x S with | some v => some v | none => if x ∈ d then (l.find? (isMm n x)).map (·.m) else none
 | [], S, x => by cases h : aget x S <;> simp [h]
 | e :: l, S, x => by
  rw [List.foldl_cons, mgFold_get l, mgStep_get]
  cases h : aget x S with
  | some v => rfl
  | none =>
   simp only [List.find?_cons]
   by_cases hx : x ∈ d
   ·cases hm : isMm n x e with
    | true => simp [hx]
    | false => simp [hx]
   ·simp [hx]
theorem mgs_get (l : List Em) (n : Int) (d : List (Int × Int)) (x : Int × Int) : aget x (mgs l n d) = if x ∈ d then (l.find? (isMm n x)).map (·.m) else none := mgFold_get l [] x
end Go.Idl
