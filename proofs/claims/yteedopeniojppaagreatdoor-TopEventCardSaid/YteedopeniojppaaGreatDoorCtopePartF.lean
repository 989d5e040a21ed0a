import Derived.Test.YteedopeniojppaaGreatDoorCtopePartE
set_option linter.all false
set_option maxHeartbeats 8000000
set_option maxRecDepth 40000
namespace Go.Idl
open Go.Proofs
structure Pl where
 t : Int
 r : Int
 b : Int
 s : List Int
 deriving DecidableEq
def Pl.c (p : Pl) : List IV := [.int .i64 p.t, .int .i64 p.r, .int .i64 p.b, .fz 1 (ints p.s)]
def Pl.v (p : Pl) : IV := .agg [.int .i64 p.t, .int .i64 p.r, .int .i64 p.b, .fz 1 (ints p.s)]
structure Em where
 r : Int
 a : Int
 b : Int
 m : Int
 deriving DecidableEq
def Em.c (x : Em) : List IV := [.int .i64 x.r, .int .i64 x.a, .int .i64 x.b, .int .i64 x.m]
def Em.v (x : Em) : IV := .agg [.int .i64 x.r, .int .i64 x.a, .int .i64 x.b, .int .i64 x.m]
def ems (l : List Em) : List (List IV) := mp Em.c l
@[simp] theorem ems_length (l : List Em) : (ems l).length = l.length := mp_length
@[simp] theorem ems_getElem (l : List Em) (i : Nat) (h : i < (ems l).length) : (ems l)[i] = [.int .i64 (l[i]'(by simpa using h)).r, .int .i64 (l[i]'(by simpa using h)).a, .int .i64 (l[i]'(by simpa using h)).b, .int .i64 (l[i]'(by simpa using h)).m] := by simp [ems, mp, Em.c]
@[go_sem] theorem ems_nil : ems [] = [] := rfl
@[go_sem] theorem ClR_ems {l : List Em} : ClR (ems l) = True := eq_true (ScR.cl (mp_sc (by simp [scal, Em.c])))
@[go_sem] theorem BlR_ems {n : Nat} {l : List Em} : BlR n (ems l) = True := eq_true (ScR.bl (mp_sc (by simp [scal, Em.c])))
theorem ems_rows {l : List Em} : ∀ r ∈ ems l, r.length = 4 := mp_rows (by simp [Em.c])
theorem ems_one {l : List Em} : ∀ a ∈ ems l, a.length = 4 ∧ ∀ x ∈ a, IV.one x = true := rows_one (mp_sc (by simp [scal, Em.c])) ems_rows
structure Ln where
 team : Int
 place : Int
 played : Int
 points : Int
 margin : Int
 bye : Bool
 deriving DecidableEq
def Ln.c (x : Ln) : List IV := [.int .i64 x.team, .int .i64 x.place, .int .i64 x.played, .int .i64 x.points, .int .i64 x.margin, .bool x.bye]
def Ln.v (x : Ln) : IV := .agg [.int .i64 x.team, .int .i64 x.place, .int .i64 x.played, .int .i64 x.points, .int .i64 x.margin, .bool x.bye]
def lns (l : List Ln) : List (List IV) := mp Ln.c l
@[simp] theorem lns_length (l : List Ln) : (lns l).length = l.length := mp_length
@[simp] theorem lns_getElem (l : List Ln) (i : Nat) (h : i < (lns l).length) : (lns l)[i] = [.int .i64 (l[i]'(by simpa using h)).team, .int .i64 (l[i]'(by simpa using h)).place, .int .i64 (l[i]'(by simpa using h)).played, .int .i64 (l[i]'(by simpa using h)).points, .int .i64 (l[i]'(by simpa using h)).margin, .bool (l[i]'(by simpa using h)).bye] := by simp [lns, mp, Ln.c]
@[go_sem] theorem lns_nil : lns [] = [] := rfl
@[go_sem] theorem ScR_lns {l : List Ln} : ScR (lns l) = True := eq_true (mp_sc (by simp [scal, Ln.c]))
@[go_sem] theorem ClR_lns {l : List Ln} : ClR (lns l) = True := eq_true (ScR.cl (mp_sc (by simp [scal, Ln.c])))
@[go_sem] theorem BlR_lns {n : Nat} {l : List Ln} : BlR n (lns l) = True := eq_true (ScR.bl (mp_sc (by simp [scal, Ln.c])))
theorem lns_set {l : List Ln} {i : Nat} {x : Ln} : lns (l.set i x) = (lns l).set i x.c := mp_set
theorem lns_take {l : List Ln} {n : Nat} : lns (l.take n) = (lns l).take n := mp_take
def Ln0 : Ln := ⟨0, 0, 0, 0, 0, false⟩
theorem lns_at {l : List Ln} {i : Nat} (h : i < l.length) : (lns l)[i]?.getD [] = (l.getD i Ln0).c := by
 rw [List.getElem?_eq_getElem (by simpa using h), Option.getD_some, lns_getElem]
 simp [h, Ln.c]
structure Er where
 draw : List (Int × Int)
 bye : Int
 mg : List ((Int × Int) × Int)
 deriving DecidableEq
def Er.over (r : Er) : Bool := r.mg.length == r.draw.length
def Er.c (r : Er) : List IV := [.fz 2 (prs r.draw), .int .i64 r.bye, .fm (enP r.mg)]
def Er.v (r : Er) : IV := .agg [.fz 2 (prs r.draw), .int .i64 r.bye, .fm (enP r.mg)]
def rds (l : List Er) : List (List IV) := mp Er.c l
@[simp] theorem rds_length (l : List Er) : (rds l).length = l.length := mp_length
@[simp] theorem rds_getElem (l : List Er) (i : Nat) (h : i < (rds l).length) : (rds l)[i] = [.fz 2 (prs (l[i]'(by simpa using h)).draw), .int .i64 (l[i]'(by simpa using h)).bye, .fm (enP (l[i]'(by simpa using h)).mg)] := by simp [rds, mp, Er.c]
theorem rds_snoc {l : List Er} {x : Er} : rds (l ++ [x]) = rds l ++ [[.fz 2 (prs x.draw), .int .i64 x.bye, .fm (enP x.mg)]] := mp_snoc
@[go_sem] theorem rds_nil : rds [] = [] := rfl
theorem rds_take {l : List Er} {n : Nat} : rds (l.take n) = (rds l).take n := mp_take
theorem rds_cell {l : List Er} : ∀ row ∈ rds l, ∀ c ∈ row, (∃ d, c = .fz 2 (prs d)) ∨ (∃ n, c = .int .i64 n) ∨ ∃ S, c = .fm (enP S) := by
 intro row hr c hc
 simp only [rds, mp, List.mem_map] at hr
 obtain ⟨r, _, rfl⟩ := hr
 simp only [Er.c, List.mem_cons, List.not_mem_nil, or_false] at hc
 rcases hc with rfl | rfl | rfl
 ·exact .inl ⟨_, rfl⟩
 ·exact .inr (.inl ⟨_, rfl⟩)
 ·exact .inr (.inr ⟨_, rfl⟩)
@[go_sem] theorem ClR_rds {l : List Er} : ClR (rds l) = True := eq_true fun row hr c hc => by rcases rds_cell row hr c hc with ⟨_, rfl⟩ | ⟨_, rfl⟩ | ⟨_, rfl⟩ <;> simp [go_sem]
@[go_sem] theorem BlR_rds {n : Nat} {l : List Er} : BlR n (rds l) = True := eq_true fun row hr c hc => by rcases rds_cell row hr c hc with ⟨_, rfl⟩ | ⟨_, rfl⟩ | ⟨_, rfl⟩ <;> simp [go_sem]
@[go_sem] theorem okR_rds {d : Nat} {h : Heap} {l : List Er} : okR true d h (rds l) = True := eq_true (by
 simp only [okR]
 intro row hr c hc
 rcases rds_cell row hr c hc with ⟨_, rfl⟩ | ⟨_, rfl⟩ | ⟨_, rfl⟩ <;> simp [go_sem])
@[go_sem] theorem frzR_rds {d : Nat} {h : Heap} {l : List Er} : frzR d h (rds l) = rds l := by
 simp only [frzR]
 conv => rhs; rw [← List.map_id (rds l)]
 apply List.map_congr_left
 intro row hr
 conv => rhs; rw [show id row = row from rfl, ← List.map_id row]
 apply List.map_congr_left
 intro c hc
 rcases rds_cell row hr c hc with ⟨_, rfl⟩ | ⟨_, rfl⟩ | ⟨_, rfl⟩ <;> simp [go_sem]
@[go_sem] theorem fltM_enP {S : List ((Int × Int) × Int)} : fltM (enP S) = true := by
 simp [fltM, enP, enM, flt, flt1, k2]
def mgStep (n : Int) (d : List (Int × Int)) (S : List ((Int × Int) × Int)) (x : Em) : List ((Int × Int) × Int) :=
 if (aget (x.a, x.b) S).isSome = false ∧ x.r = n ∧ mrB x.m = true ∧ (x.a, x.b) ∈ d then aset (x.a, x.b) x.m S else S
def mgs (l : List Em) (n : Int) (d : List (Int × Int)) : List ((Int × Int) × Int) := l.foldl (mgStep n d) []
def addA (S : List Int) (m : Int) (x : Ln) : Ln := { x with played := x.played + 1, points := x.points + ptA S m, margin := x.margin + m }
def addB (S : List Int) (m : Int) (x : Ln) : Ln := { x with played := x.played + 1, points := x.points + ptB S m, margin := x.margin - m }
def upL (L : List Ln) (i : Nat) (f : Ln → Ln) : List Ln := L.set i (f (L.getD i Ln0))
@[simp] theorem upL_length (L : List Ln) (i : Nat) (f : Ln → Ln) : (upL L i f).length = L.length := by simp [upL]
def addE (S : List Int) (L : List Ln) (e : (Int × Int) × Int) : List Ln := upL (upL L (e.1.1 - 1).toNat (addA S e.2)) (e.1.2 - 1).toNat (addB S e.2)
@[simp] theorem addE_length (S : List Int) (L : List Ln) (e : (Int × Int) × Int) : (addE S L e).length = L.length := by simp [addE]
def addY (p : Pl) (y : Int) (L : List Ln) : List Ln := if 0 < y then upL L (y - 1).toNat fun x => { x with points := x.points + p.b, bye := true } else L
@[simp] theorem addY_length (p : Pl) (y : Int) (L : List Ln) : (addY p y L).length = L.length := by unfold addY; split <;> simp
def addR (p : Pl) (L : List Ln) (r : Er) : List Ln := addY p r.bye (r.mg.foldl (addE p.s) L)
def lns0 (n : Nat) : List Ln := (List.range n).map fun i : Nat => ⟨(i : Int) + 1, 0, 0, 0, 0, false⟩
@[simp] theorem lns0_length (n : Nat) : (lns0 n).length = n := by simp [lns0]
def tabU (p : Pl) (l : List Er) : List Ln := l.foldl (addR p) (lns0 p.t.toNat)
def lnLt (x y : Ln) : Prop := y.points < x.points ∨ y.points = x.points ∧ (y.margin < x.margin ∨ y.margin = x.margin ∧ x.team < y.team)
instance (x y : Ln) : Decidable (lnLt x y) := by unfold lnLt; infer_instance
def insLn (x : Ln) : List Ln → List Ln
 | [] => [x]
 | y :: l => if lnLt y x then y :: insLn x l else x :: y :: l
def srtLn : List Ln → List Ln
 | [] => []
 | x :: l => insLn x (srtLn l)
def plcLn : Nat → List Ln → List Ln
 | _, [] => []
 | k, x :: l => { x with place := (k : Int) + 1 } :: plcLn (k + 1) l
def tabL9 (p : Pl) (l : List Er) : List Ln := plcLn 0 (srtLn (tabU p l))
def ordT (p : Pl) (l : List Er) : List Int := (tabL9 p l).map (·.team)
def metT (l : List Er) : List (Int × Int) := l.flatMap (·.draw)
def byeT (l : List Er) : List Int := l.flatMap fun r => if 0 < r.bye then [r.bye] else []
def reach (p : Pl) (l : List Em) : Nat → Nat → List Er → List Er
 | 0, _, _ => []
 | k + 1, n, bf =>
  let q := drawR (ordT p bf) (metT bf) (byeT bf)
  if q.2.2 ≠ 0 then [] else
  let r : Er := ⟨q.1, q.2.1, mgs l n q.1⟩
  if r.over = true then r :: reach p l k (n + 1) (bf ++ [r]) else [r]
def rchd (p : Pl) (l : List Em) : List Er := reach p l p.r.toNat 0 []
def ovrd (l : List Er) : List Er := l.take (l.countP (·.over))
def plB (p : Pl) : Bool := decide (2 ≤ p.t) && decide (p.t ≤ 16) && decide (1 ≤ p.r) && decide (p.r ≤ 15) && scB p.s && decide (0 ≤ p.b) && decide (p.b ≤ 2 * p.s.length)
end Go.Idl
namespace Go.Idl
open Go.Proofs
theorem lnLt_trans {x y z : Ln} (h : lnLt x y) (h' : lnLt y z) : lnLt x z := by unfold lnLt at *; omega
theorem lnLt_irr {x : Ln} : ¬ lnLt x x := by unfold lnLt; omega
theorem lnLt_total {x y : Ln} (h : x.team ≠ y.team) (h' : ¬ lnLt x y) : lnLt y x := by unfold lnLt at *; omega
theorem insLn_perm (x : Ln) : ∀ L : List Ln, (insLn x L).Perm (x :: L)
 | [] => List.Perm.refl _
 | y :: l => by
  unfold insLn
  split
  ·exact ((insLn_perm x l).cons y).trans (List.Perm.swap x y l)
  ·exact List.Perm.refl _
theorem srtLn_perm : ∀ L : List Ln, (srtLn L).Perm L
 | [] => List.Perm.refl _
 | x :: l => (insLn_perm x _).trans ((srtLn_perm l).cons x)
@[simp] theorem srtLn_length (L : List Ln) : (srtLn L).length = L.length := (srtLn_perm L).length_eq
theorem insLn_sorted {x : Ln} : ∀ {L : List Ln}, (∀ y ∈ L, x.team ≠ y.team) → L.Pairwise lnLt → (insLn x L).Pairwise lnLt
 | [], _, _ => by simp [insLn]
 | y :: l, hx, h => by
  unfold insLn
  rw [List.pairwise_cons] at h
  split
  ·rename_i hy
   rw [List.pairwise_cons]
   refine ⟨fun z hz => ?_, insLn_sorted (fun z hz => hx z (List.mem_cons_of_mem _ hz)) h.2⟩
   rcases List.mem_cons.1 ((insLn_perm x l).mem_iff.1 hz) with rfl | hz
   ·exact hy
   ·exact h.1 z hz
  ·rename_i hy
   have hxy := lnLt_total (Ne.symm (hx y (List.mem_cons_self ..))) hy
   rw [List.pairwise_cons, List.pairwise_cons]
   refine ⟨fun z hz => ?_, h⟩
   rcases List.mem_cons.1 hz with rfl | hz
   ·exact hxy
   ·exact lnLt_trans hxy (h.1 z hz)
theorem srtLn_sorted : ∀ {L : List Ln}, (L.map (·.team)).Nodup → (srtLn L).Pairwise lnLt
 | [], _ => List.Pairwise.nil
 | x :: l, h => by
  simp only [List.map_cons, List.nodup_cons] at h
  refine insLn_sorted (fun y hy e => h.1 ?_) (srtLn_sorted h.2)
  rw [e]
  exact List.mem_map_of_mem ((srtLn_perm l).mem_iff.1 hy)
theorem srtLn_unique {A L : List Ln} (hp : A.Perm L) (h : A.Pairwise lnLt) (hn : (L.map (·.team)).Nodup) : A = srtLn L :=
 List.Perm.eq_of_pairwise (fun a b _ _ h1 h2 => absurd (lnLt_trans h1 h2) lnLt_irr) h (srtLn_sorted hn) (hp.trans (srtLn_perm L).symm)
@[simp] theorem plcLn_length : ∀ (k : Nat) (L : List Ln), (plcLn k L).length = L.length
 | _, [] => rfl
 | k, x :: l => by simp [plcLn, plcLn_length]
theorem plcLn_get : ∀ (k : Nat) (L : List Ln) (i : Nat) (h : i < (plcLn k L).length), (plcLn k L)[i] = { L[i]'(by simpa using h) with place := (k : Int) + i + 1 }
 | _, [], i, h => by simp [plcLn] at h
 | k, x :: l, 0, h => by simp [plcLn]
 | k, x :: l, i + 1, h => by
  simp only [plcLn, List.getElem_cons_succ]
  rw [plcLn_get (k + 1) l i]
  simp only [Ln.mk.injEq, and_true, true_and]
  omega
theorem plcLn_teams : ∀ (k : Nat) (L : List Ln), (plcLn k L).map (·.team) = L.map (·.team)
 | _, [] => rfl
 | k, x :: l => by simp [plcLn, plcLn_teams]
theorem upL_get (L : List Ln) (i : Nat) (f : Ln → Ln) (j : Nat) : (upL L i f)[j]? = if i = j then (L[j]?).map f else L[j]? := by
 unfold upL
 rw [List.getElem?_set]
 by_cases h : i = j
 ·subst h
  rw [if_pos rfl, if_pos rfl]
  by_cases hl : i < L.length
  ·simp [hl]
  ·simp [hl]
 ·rw [if_neg h, if_neg h]
theorem upL_comm {L : List Ln} {i j : Nat} {f g : Ln → Ln} (h : ∀ x, f (g x) = g (f x)) : upL (upL L i f) j g = upL (upL L j g) i f := by
 apply List.ext_getElem?
 intro k
 simp only [upL_get]
 by_cases h1 : i = k <;> by_cases h2 : j = k <;> simp only [h1, h2, if_true, if_false]
 cases L[k]? <;> simp [h]
theorem addAA (S : List Int) (m m' : Int) (x : Ln) : addA S m (addA S m' x) = addA S m' (addA S m x) := by simp only [addA, Ln.mk.injEq, true_and, and_true]; omega
theorem addAB (S : List Int) (m m' : Int) (x : Ln) : addA S m (addB S m' x) = addB S m' (addA S m x) := by simp only [addA, addB, Ln.mk.injEq, true_and, and_true]; omega
theorem addBB (S : List Int) (m m' : Int) (x : Ln) : addB S m (addB S m' x) = addB S m' (addB S m x) := by simp only [addB, Ln.mk.injEq, true_and, and_true]; omega
theorem addE_comm (S : List Int) (L : List Ln) (e f : (Int × Int) × Int) : addE S (addE S L e) f = addE S (addE S L f) e := by
 unfold addE
 rw [upL_comm (i := (e.1.2 - 1).toNat) (j := (f.1.1 - 1).toNat) (fun x => (addAB S _ _ x).symm), upL_comm (i := (e.1.2 - 1).toNat) (j := (f.1.2 - 1).toNat) (fun x => addBB S _ _ x), upL_comm (i := (e.1.1 - 1).toNat) (j := (f.1.1 - 1).toNat) (fun x => addAA S _ _ x),
  upL_comm (i := (e.1.1 - 1).toNat) (j := (f.1.2 - 1).toNat) (fun x => addAB S _ _ x)]
theorem addE_perm (S : List Int) {A B : List ((Int × Int) × Int)} (h : A.Perm B) (L : List Ln) : A.foldl (addE S) L = B.foldl (addE S) L :=
 h.foldl_eq' (fun x _ y _ z => addE_comm S z x y) L
theorem foldE_length (S : List Int) : ∀ (A : List ((Int × Int) × Int)) (L : List Ln), (A.foldl (addE S) L).length = L.length
 | [], _ => rfl
 | e :: A, L => by rw [List.foldl_cons, foldE_length S A]; simp
@[simp] theorem addR_length (p : Pl) (L : List Ln) (r : Er) : (addR p L r).length = L.length := by simp [addR, foldE_length]
theorem foldR_length (p : Pl) : ∀ (A : List Er) (L : List Ln), (A.foldl (addR p) L).length = L.length
 | [], _ => rfl
 | e :: A, L => by rw [List.foldl_cons, foldR_length p A]; simp
@[simp] theorem tabU_length (p : Pl) (l : List Er) : (tabU p l).length = p.t.toNat := by simp [tabU, foldR_length]
theorem upL_team {L : List Ln} {i : Nat} {f : Ln → Ln} (h : ∀ x, (f x).team = x.team) : (upL L i f).map (·.team) = L.map (·.team) := by
 apply List.ext_getElem?
 intro k
 simp only [List.getElem?_map, upL_get]
 split
 ·cases L[k]? <;> simp [h]
 ·rfl
theorem addE_team (S : List Int) (L : List Ln) (e : (Int × Int) × Int) : (addE S L e).map (·.team) = L.map (·.team) := by
 unfold addE; rw [upL_team (f := addB S e.2) fun _ => rfl, upL_team (f := addA S e.2) fun _ => rfl]
theorem foldE_team (S : List Int) : ∀ (A : List ((Int × Int) × Int)) (L : List Ln), (A.foldl (addE S) L).map (·.team) = L.map (·.team)
 | [], _ => rfl
 | e :: A, L => by rw [List.foldl_cons, foldE_team S A, addE_team]
theorem addR_team (p : Pl) (L : List Ln) (r : Er) : (addR p L r).map (·.team) = L.map (·.team) := by
 unfold addR addY
 split
 ·rw [upL_team (f := fun x : Ln => { x with points := x.points + p.b, bye := true }) fun _ => rfl, foldE_team]
 ·rw [foldE_team]
theorem foldR_team (p : Pl) : ∀ (A : List Er) (L : List Ln), (A.foldl (addR p) L).map (·.team) = L.map (·.team)
 | [], _ => rfl
 | e :: A, L => by rw [List.foldl_cons, foldR_team p A, addR_team]
theorem lns0_team (n : Nat) : (lns0 n).map (·.team) = (List.range n).map fun i : Nat => (i : Int) + 1 := by simp [lns0]
theorem tabU_team (p : Pl) (l : List Er) : (tabU p l).map (·.team) = (List.range p.t.toNat).map fun i : Nat => (i : Int) + 1 := by rw [tabU, foldR_team, lns0_team]
theorem range1_nodup (n : Nat) : ((List.range n).map fun i : Nat => (i : Int) + 1).Nodup := by
 rw [List.Nodup, List.pairwise_map]
 exact List.nodup_range.imp fun h e => h (by omega)
theorem tabU_nodup (p : Pl) (l : List Er) : ((tabU p l).map (·.team)).Nodup := by rw [tabU_team]; exact range1_nodup _
theorem ordT_perm (p : Pl) (l : List Er) : (ordT p l).Perm ((List.range p.t.toNat).map fun i : Nat => (i : Int) + 1) := by
 unfold ordT tabL9
 rw [plcLn_teams, ← tabU_team p l]
 exact (srtLn_perm _).map _
theorem ordT_nodup (p : Pl) (l : List Er) : (ordT p l).Nodup := (ordT_perm p l).nodup_iff.2 (range1_nodup _)
@[simp] theorem ordT_length (p : Pl) (l : List Er) : (ordT p l).length = p.t.toNat := by rw [(ordT_perm p l).length_eq]; simp
theorem ordT_mem (p : Pl) (l : List Er) (x : Int) : x ∈ ordT p l ↔ 1 ≤ x ∧ x ≤ p.t := by
 rw [(ordT_perm p l).mem_iff]
 simp only [List.mem_map, List.mem_range]
 constructor
 ·rintro ⟨i, h, rfl⟩; omega
 ·intro h; exact ⟨(x - 1).toNat, by omega, by omega⟩
theorem aset_keys {α β : Type} [DecidableEq α] (a : α) (b : β) : ∀ (S : List (α × β)), (aget a S).isSome = false → aset a b S = S ++ [(a, b)]
 | [], _ => rfl
 | (k, v) :: S, h => by
  simp only [aget, aset] at h ⊢
  split
  ·rename_i e; rw [if_pos e] at h; simp at h
  ·rename_i e; rw [if_neg e] at h; rw [aset_keys a b S h]; rfl
theorem aget_none {α β : Type} [DecidableEq α] {a : α} : ∀ {S : List (α × β)}, (aget a S).isSome = false ↔ a ∉ S.map (·.1)
 | [] => by simp [aget]
 | (k, v) :: S => by
  simp only [aget, List.map_cons, List.mem_cons, not_or]
  split
  ·rename_i e; simp [e]
  ·rename_i e; rw [aget_none]; exact ⟨fun h => ⟨e, h⟩, fun h => h.2⟩
theorem aget_mem {α β : Type} [DecidableEq α] {a : α} {b : β} : ∀ {S : List (α × β)}, aget a S = some b → (a, b) ∈ S
 | (k, v) :: S, h => by
  simp only [aget] at h
  split at h
  ·rename_i e; cases h; subst e; exact List.mem_cons_self ..
  ·exact List.mem_cons_of_mem _ (aget_mem h)
theorem mem_aget {α β : Type} [DecidableEq α] {a : α} {b : β} : ∀ {S : List (α × β)}, (S.map (·.1)).Nodup → (a, b) ∈ S → aget a S = some b
 | (k, v) :: S, hn, h => by
  simp only [List.map_cons, List.nodup_cons] at hn
  simp only [aget]
  rcases List.mem_cons.1 h with h | h
  ·cases h; rw [if_pos rfl]
  ·rw [if_neg, mem_aget hn.2 h]
   intro e
   exact hn.1 (List.mem_map.2 ⟨(a, b), h, e⟩)
def isM (n : Int) (x : Int × Int) (e : Em) : Bool := decide (e.r = n) && decide ((e.a, e.b) = x)
def isMm (n : Int) (x : Int × Int) (e : Em) : Bool := isM n x e && mrB e.m
theorem mgStep_keys {n : Int} {d : List (Int × Int)} {S : List ((Int × Int) × Int)} (e : Em) (h1 : (S.map (·.1)).Nodup) (h2 : ∀ k ∈ S.map (·.1), k ∈ d) :
  ((mgStep n d S e).map (·.1)).Nodup ∧ ∀ k ∈ (mgStep n d S e).map (·.1), k ∈ d := by
 unfold mgStep
 split
 ·rename_i h
  rw [aset_keys _ _ _ h.1, List.map_append]
  have hn := aget_none.1 h.1
  refine ⟨?_, fun k hk => ?_⟩
  ·rw [List.nodup_append]
   refine ⟨h1, by simp, fun a ha b hb e => hn ?_⟩
   simp only [List.map_cons, List.map_nil, List.mem_singleton] at hb
   rw [← hb, ← e]; exact ha
  ·rcases List.mem_append.1 hk with hk | hk
   ·exact h2 k hk
   ·simp only [List.map_cons, List.map_nil, List.mem_singleton] at hk
    rw [hk]; exact h.2.2.2
 ·exact ⟨h1, h2⟩
theorem mgFold_keys {n : Int} {d : List (Int × Int)} : ∀ (l : List Em) (S : List ((Int × Int) × Int)), (S.map (·.1)).Nodup → (∀ k ∈ S.map (·.1), k ∈ d) →
  ((l.foldl (mgStep n d) S).map (·.1)).Nodup ∧ ∀ k ∈ (l.foldl (mgStep n d) S).map (·.1), k ∈ d
 | [], S, h1, h2 => ⟨h1, h2⟩
 | e :: l, S, h1, h2 => by
  obtain ⟨k1, k2⟩ := mgStep_keys (n := n) e h1 h2
  exact mgFold_keys l _ k1 k2
theorem mgs_nodup (l : List Em) (n : Int) (d : List (Int × Int)) : ((mgs l n d).map (·.1)).Nodup := (mgFold_keys l [] (by simp) (by simp)).1
theorem mgs_keys {l : List Em} {n : Int} {d : List (Int × Int)} {k : Int × Int} (h : k ∈ (mgs l n d).map (·.1)) : k ∈ d := (mgFold_keys l [] (by simp) (by simp)).2 k h
theorem mgStep_get {n : Int} {d : List (Int × Int)} (S : List ((Int × Int) × Int)) (e : Em) (x : Int × Int) :
  aget x (mgStep n d S e) = match aget x S with | some v => some v | none => if isMm n x e = true ∧ x ∈ d then some e.m else none := by
 unfold mgStep
 split
 ·rename_i h
  rw [aget_aset]
  by_cases hx : x = (e.a, e.b)
  ·subst hx
   have hn : aget (e.a, e.b) S = none := by have := h.1; cases hq : aget (e.a, e.b) S with | none => rfl | some v => rw [hq] at this; simp at this
   rw [if_pos rfl, hn]
   simp only
   rw [if_pos ⟨by simp [isMm, isM, h.2.1, h.2.2.1], h.2.2.2⟩]
  ·rw [if_neg hx]
   cases hq : aget x S with
   | some v => rfl
   | none =>
    simp only
    rw [if_neg]
    rintro ⟨h1, _⟩
    simp only [isMm, isM, Bool.and_eq_true, decide_eq_true_eq] at h1
    exact hx h1.1.2.symm
 ·rename_i h
  cases hq : aget x S with
  | some v => rfl
  | none =>
   simp only
   rw [if_neg]
   rintro ⟨h1, h2⟩
   simp only [isMm, isM, Bool.and_eq_true, decide_eq_true_eq] at h1
   obtain ⟨⟨h3, rfl⟩, h4⟩ := h1
   exact h ⟨by rw [hq]; rfl, h3, h4, h2⟩
theorem mgFold_get {n : Int} {d : List (Int × Int)} : ∀ (l : List Em) (S : List ((Int × Int) × Int)) (x : Int × Int),
  aget x (l.foldl (mgStep n d) S) = match aget x S with | some v => some v | none => if x ∈ d then (l.find? (isMm n x)).map (·.m) else none
 | [], S, x => by cases h : aget x S <;> simp [h]
 | e :: l, S, x => by
  rw [List.foldl_cons, mgFold_get l, mgStep_get]
  cases h : aget x S with
  | some v => rfl
  | none =>
   simp only [List.find?_cons]
   by_cases hx : x ∈ d
   ·cases hm : isMm n x e with
    | true => simp [hx]
    | false => simp [hx]
   ·simp [hx]
theorem mgs_get (l : List Em) (n : Int) (d : List (Int × Int)) (x : Int × Int) : aget x (mgs l n d) = if x ∈ d then (l.find? (isMm n x)).map (·.m) else none := mgFold_get l [] x
end Go.Idl
namespace Go.Idl
section
variable {α : Type} [DecidableEq α] {ok : α → α → Bool}
theorem wo_nodup {b : α} {l : List α} (h : l.Nodup) : (wo b l).Nodup := h.filter _
theorem wo_not {b : α} {l : List α} (h : b ∉ l) : wo b l = l := by
 unfold wo; rw [List.filter_eq_self]; intro x hx; simp; exact fun e => h (e ▸ hx)
theorem wo_cons_ne {a b : α} {l : List α} (h : a ≠ b) : wo b (a :: l) = a :: wo b l := by
 unfold wo; rw [List.filter_cons]; simp [h]
theorem wo_cons_eq {b : α} {l : List α} : wo b (b :: l) = wo b l := by
 unfold wo; rw [List.filter_cons]; simp
theorem wo_length {b : α} : ∀ {l : List α}, l.Nodup → b ∈ l → (wo b l).length + 1 = l.length
 | [], _, h => by cases h
 | a :: l, hn, h => by
  rw [List.nodup_cons] at hn
  by_cases e : a = b
  ·subst e; rw [wo_cons_eq, wo_not hn.1]; rfl
  ·rw [wo_cons_ne e, List.length_cons, List.length_cons, wo_length hn.2 ((List.mem_cons.1 h).resolve_left (fun e2 => e e2.symm))]
theorem mem_drs {a : α} {rest : List α} (h : rest.Nodup) {d : List (α × α)} : d ∈ drs ok (a :: rest) ↔ ∃ b d', d = (a, b) :: d' ∧ b ∈ rest ∧ ok a b = true ∧ d' ∈ drs ok (wo b rest) := by
 rw [drs_nodup a h]
 simp only [dJ, List.mem_flatMap, List.mem_filter, List.mem_map]
 constructor
 ·rintro ⟨b, ⟨h1, h2⟩, d', h3, rfl⟩; exact ⟨b, d', rfl, h1, h2, h3⟩
 ·rintro ⟨b, d', rfl, h1, h2, h3⟩; exact ⟨b, ⟨h1, h2⟩, d', h3, rfl⟩
end
end Go.Idl
namespace Go.Idl
open Go.Proofs
def smM (g : Nat → Nat) (m : Nat) : Bool := decide (0 < cntM g m)
def enB (S : List (Nat × Bool)) : List (IV × IV) := enM (fun k : Nat => .int .u32 (k : Int)) (fun v : Bool => .bool v) S
def MemoB (g : Nat → Nat) (S : List (Nat × Bool)) : Prop := ∀ m v, aget m S = some v → v = smM g m
def smH (teams : List Int) (g : Nat → Nat) (S : List (Nat × Bool)) : Heap :=
 [.rows 1 [[.fptr 17 [tbR teams g] 0 0]], .map (enB S), .rows 1 [[.map 1]], .rows 1 [[.func (.func 100) [] [.ptr 2 1 0 0, .ptr 0 1 0 0, .ptr 3 1 0 0]]]]
def smF : IV := .func (.func 100) [] [.ptr 2 1 0 0, .ptr 0 1 0 0, .ptr 3 1 0 0]
theorem drawn_calls (teams : List Int) (g : Nat → Nat) : ICalls Tryz.prog glT 85 [.fptr 17 [tbR teams g] 0 0] [] (fun v σ => v = smF ∧ σ = smH teams g [(0, true)]) := by
 refine ICalls.of_bodyE false 5 [] Tryz.func85 rfl Tryz.call85 rfl fun R hR => ?_
 simp [go_sem]
 exact hR _ _ ⟨rfl, rfl⟩
theorem mget_b (m : Nat) (S : List (Nat × Bool)) : mget (.int .u32 (m : Int)) (enB S) = (aget m S).map fun v : Bool => .bool v := mget_en (kf := fun k : Nat => .int .u32 (k : Int)) ku32 m S
theorem mset_b (m : Nat) (v : Bool) (S : List (Nat × Bool)) : mset (.int .u32 (m : Int)) (.bool v) (enB S) = enB (aset m v S) := mset_en (kf := fun k : Nat => .int .u32 (k : Int)) (vf := fun v : Bool => .bool v) ku32 m v S
theorem ok_b (S : List (Nat × Bool)) : ∀ e ∈ enB S, keyOK Tryz.prog 147 [.int .u32] e.1 = true := en_ok (fun a => by simp [go_sem, keyOK]) S
@[go_sem] theorem bl_b {n : Nat} {S : List (Nat × Bool)} : BlM n (enB S) = True := eq_true (en_bl (fun a => by simp [go_sem]) (fun b => by simp [go_sem]) S)
theorem sum_pos {α : Type} {l : List α} {f : α → Nat} : decide (0 < (l.map f).sum) = l.any fun x => decide (0 < f x) := by
 induction l with
 | nil => rfl
 | cons a l ih =>
  rw [List.map_cons, List.sum_cons, List.any_cons, ← ih]
  by_cases h : 0 < f a
  ·simp [h]; omega
  ·have : f a = 0 := by omega
   simp [this]
theorem smM_rec {g : Nat → Nat} {m : Nat} (h0 : m ≠ 0) (h : m < 2 ^ 32) : smM g m = (bitsL ((m &&& (m - 1)) &&& g (tz m))).any fun b => smM g (anb (m &&& (m - 1)) (2 ^ b)) := by
 unfold smM
 rw [cntM_rec h0 h, sum_pos]
theorem smM_zero (g : Nat → Nat) : smM g 0 = true := by unfold smM; rw [cntM_zero]; rfl
theorem some_calls (teams : List Int) (g : Nat → Nat) (hn : teams.length ≤ 16) (hg : ∀ i, i < 16 → g i < 2 ^ 32) : ∀ (m : Nat), m < 2 ^ 16 → ∀ (S : List (Nat × Bool)) (τ : Heap), MemoB g S → aget 0 S = some true → HeBl (τ.length + 4) τ →
  ICalls Tryz.prog glT 100 [.int .u32 (m : Int), .ptr 2 1 0 0, .ptr 0 1 0 0, .ptr 3 1 0 0] (smH teams g S ++ τ) (fun v σ' => v = .bool (smM g m) ∧ ∃ S', (MemoB g S' ∧ aget 0 S' = some true) ∧ σ' = smH teams g S' ++ τ) := by
 intro m
 induction m using Nat.strongRecOn with
 | _ m ih =>
  intro hm S τ hS hS0 hτ
  refine ICalls.of_bodyE false 12 [18, 38] Tryz.func100 rfl Tryz.call100 rfl fun R hR => ?_
  have hok : ∀ (S : List (Nat × Bool)) (a b : IV), (a, b) ∈ enB S → keyOK Tryz.prog 147 [.int .u32] a = true := fun S a b h => ok_b S (a, b) h
  cases hk : aget m S with
  | some v =>
   have := hS m v hk
   simp [go_sem, smH, mget_b, hk]
   exact ⟨fun a b h => by simpa [go_sem] using hok S a b h, hR _ _ ⟨by rw [this], S, ⟨hS, hS0⟩, rfl⟩⟩
  | none =>
   have hm0 : m ≠ 0 := fun e => by subst e; rw [hS0] at hk; cases hk
   have hm32 : m < 2 ^ 32 := by omega
   have hrec := smM_rec (g := g) hm0 hm32
   have hrl : m &&& (m - 1) < m := Nat.lt_of_le_of_lt Nat.and_le_right (by omega)
   have htz := (tz_spec hm0 hm32)
   have htz16 : tz m < 16 := lt_of_bit hm htz.2.1
   simp [go_sem, smH, mget_b, hk]
   refine ⟨fun a b h => by simpa [go_sem] using hok S a b h, ?_⟩
   refine (split_fun m hm0 hm32).callF (by simp [go_sem]) ?_
   rintro _ rfl
   generalize tz m = a at *
   generalize m &&& (m - 1) = r at *
   have hr32 : r < 2 ^ 32 := by omega
   have ha := hg a htz16
   have e1 := u32_and hr32 ha
   obtain ⟨o0, ho0⟩ : ∃ o, r &&& g a = o := ⟨_, rfl⟩
   have ho32 : o0 < 2 ^ 32 := by rw [← ho0]; exact and_lt hr32
   rw [ho0] at e1 hrec
   simp [go_sem, tbR_at htz16, tbR_get htz16, e1]
   refine ⟨by omega, by omega, ?_⟩
   refine IWp.loopT (α := Nat × Bool × List (Nat × Bool)) (fun x => (⟨false, 55, 12, [18, 38], glT, [(0, .int .u32 (m : Int)), (1, .ptr 2 1 0 0), (3, .ptr 3 1 0 0), (9, .int .u32 (r : Int)), (10, .bool x.2.1), (11, .int .u32 (x.1 : Int))], []⟩, smH teams g x.2.2 ++ τ))
    (fun x => x.1 < 2 ^ 32 ∧ (x.2.1 || (bitsL x.1).any fun b => smM g (anb r (2 ^ b))) = smM g m ∧ MemoB g x.2.2 ∧ aget 0 x.2.2 = some true) (fun x => x.1) (o0, false, S) ⟨ho32, by simp [hrec], hS, hS0⟩ (by simp [go_sem, smH, hτ]) ?_
   rintro ⟨o, acc, S1⟩ ⟨ho, hsum, hS1, hS10⟩
   simp only at ho hsum hS1 hS10
   have fin : acc = smM g m → ∀ m' v, aget m' (aset m acc S1) = some v → v = smM g m' := fun e m' v hv => by
    rw [aget_aset] at hv
    split at hv
    ·rename_i e2; subst e2; rw [← Option.some.inj hv]; exact e
    ·exact hS1 m' v hv
   have fin0 : aget 0 (aset m acc S1) = some true := by rw [aget_aset, if_neg (fun e => hm0 e.symm)]; exact hS10
   by_cases h0 : o = 0
   ·subst h0
    rw [bitsL_zero, List.any_nil, Bool.or_false] at hsum
    simp [go_sem, smH]
    rw [mset_b]
    exact ⟨fun a b h => by simpa [go_sem] using hok S1 a b h, hR _ _ ⟨by rw [hsum], aset m acc S1, ⟨fin hsum, fin0⟩, rfl⟩⟩
   ·cases hacc : acc with
    | true =>
     rw [hacc, Bool.true_or] at hsum
     rw [hacc] at fin fin0
     simp [go_sem, smH, h0]
     rw [mset_b]
     exact ⟨fun a b h => by simpa [go_sem] using hok S1 a b h, hR _ _ ⟨by rw [hsum], aset m true S1, ⟨fin hsum, fin0⟩, rfl⟩⟩
    | false =>
     rw [hacc, Bool.false_or] at hsum
     have n1 := u32_neg h0 ho
     have n1' : IntKind.u32.wrap (-(o : Int)) = ((2 ^ 32 - o : Nat) : Int) := by rw [← n1]; simp
     obtain ⟨K, hK⟩ : ∃ K, 2 ^ 32 - o = K := ⟨_, rfl⟩
     have n2 := u32_and ho (b := K) (by omega)
     rw [← hK, low_bit h0 ho] at n2
     rw [hK] at n1 n1' n2
     have n3 := u32_pred h0 ho
     obtain ⟨L, hL⟩ : ∃ L, o - 1 = L := ⟨_, rfl⟩
     have n4 := u32_and ho (b := L) (by omega)
     have hcl := bitsL_clear h0 ho
     rw [hL] at n3 hcl
     have hlt : o &&& L < o := Nat.lt_of_le_of_lt Nat.and_le_right (by omega)
     obtain ⟨o2, ho2⟩ : ∃ o2, o &&& L = o2 := ⟨_, rfl⟩
     rw [ho2] at n4 hcl hlt
     rw [hcl, List.any_cons] at hsum
     have n5 : bitsOf .andNot .u32 (r : Int) ((2 ^ tz o : Nat) : Int) = ((anb r (2 ^ tz o) : Nat) : Int) := u32_andNot
     obtain ⟨P2, hP2⟩ : ∃ P2, 2 ^ tz o = P2 := ⟨_, rfl⟩
     rw [hP2] at n2 n5 hsum
     obtain ⟨q, hq⟩ : ∃ q, anb r P2 = q := ⟨_, rfl⟩
     rw [hq] at n5 hsum
     have hqm : q < m := by rw [← hq, ← hP2]; exact Nat.lt_of_le_of_lt (anb_le hr32) hrl
     simp [go_sem, smH, h0, n1, n1', n2, n5]
     refine (ih q hqm (by omega) S1 τ hS1 hS10 hτ).mono ?_
     rintro _ _ ⟨rfl, S2, ⟨hS2, hS20⟩, rfl⟩
     simp [go_sem, smH, n3, n4]
     cases hs : smM g q with
     | false => exact ⟨o2, .inl ⟨S2, ⟨⟨rfl, rfl⟩, rfl, hτ⟩, ⟨by omega, by simpa [hs] using hsum, hS2, hS20⟩, hlt⟩⟩
     | true => exact ⟨o2, .inr ⟨S2, ⟨⟨rfl, rfl⟩, rfl, hτ⟩, ⟨by omega, by simpa [hs] using hsum, hS2, hS20⟩, hlt⟩⟩
theorem cnt_head {g : Nat → Nat} {m : Nat} : smM g m = ((drs (okG g) (bitsL m)).head?).isSome := by
 unfold smM cntM cntL
 cases drs (okG g) (bitsL m) <;> simp
theorem memB0 {g : Nat → Nat} : MemoB g [(0, true)] := by
 intro m v h
 simp only [aget] at h
 split at h
 ·rename_i e; subst e; rw [smM_zero]; exact (Option.some.inj h).symm
 ·cases h
theorem first_calls (teams : List Int) (g : Nat → Nat) (hn : teams.length ≤ 16) (hg : ∀ i, i < 16 → g i < 2 ^ 32) (m : Nat) (hm : m < 2 ^ teams.length) (S : List (Nat × Bool)) (hS : MemoB g S) (hS0 : aget 0 S = some true) :
  ICalls Tryz.prog glT 86 [.fptr 17 [tbR teams g] 0 0, .int .u32 (m : Int), smF] (smH teams g S) (fun v σ' => ∃ S', (MemoB g S' ∧ aget 0 S' = some true) ∧
   (((drs (okG g) (bitsL m)).head? = none ∧ v = .tup [.nils, .bool false] ∧ σ' = smH teams g S') ∨
    ∃ D, (drs (okG g) (bitsL m)).head? = some D ∧ v = .tup [.sl 4 D.length 0 D.length none, .bool true] ∧ σ' = smH teams g S' ++ [.rows 2 (prs (asT teams D))])) := by
 refine ICalls.of_bodyE false 12 [15, 17, 32, 45] Tryz.func86 rfl Tryz.call86 rfl fun R hR => ?_
 have hp16 : 2 ^ teams.length ≤ 2 ^ 16 := Nat.pow_le_pow_right (by decide) hn
 simp [go_sem, smF, smH]
 refine (some_calls teams g hn hg m (by omega) S [] hS hS0 (by simp [go_sem])).mono ?_
 rintro _ _ ⟨rfl, S', ⟨hS', hS0'⟩, rfl⟩
 have hh := cnt_head (g := g) (m := m)
 cases hD : (drs (okG g) (bitsL m)).head? with
 | none =>
  rw [hD] at hh
  simp [go_sem, smH, hh]
  exact hR _ _ ⟨S', ⟨hS', hS0'⟩, .inl ⟨hD, rfl, rfl⟩⟩
 | some D =>
  rw [hD] at hh
  simp [go_sem, smH, hh]
  refine IWp.ownNilS 2 8 (by decide) (by simp [go_sem]) ?_
  simp only [go_sem]
  have hDl : D.length ≤ 16 := by
   have h2 := drs_len _ _ (Nat.le_refl _) D (List.mem_of_mem_head? hD)
   have h3 := bits_len (m := m) (n := 16) (by omega) (by decide)
   omega
  refine IWp.loopT (α := Nat × List (Nat × Nat) × List (Nat × Bool)) (fun x => (⟨false, 66, 12, [15, 17, 32, 45], glT, [(0, .fptr 17 [tbR teams g] 0 0), (1, .int .u32 (x.1 : Int)), (2, smF), (8, .sl 4 x.2.1.length 0 x.2.1.length none)], []⟩, smH teams g x.2.2 ++ [.rows 2 (prs (asT teams x.2.1))]))
   (fun x => x.1 < 2 ^ teams.length ∧ (∃ rest, (drs (okG g) (bitsL x.1)).head? = some rest ∧ x.2.1 ++ rest = D) ∧ (MemoB g x.2.2 ∧ aget 0 x.2.2 = some true)) (fun x => x.1) (m, [], S') ⟨hm, ⟨D, hD, rfl⟩, hS', hS0'⟩ (by simp [go_sem, smH, smF, asT]) ?_
  clear hh
  rintro ⟨m, acc, S⟩ ⟨hmn, ⟨rest, hrest, hacc⟩, hS, hS0⟩
  simp only at hmn hrest hacc hS hS0
  by_cases hm0 : m = 0
  ·subst hm0
   rw [bitsL_zero, drs_nil] at hrest
   have : rest = [] := by simpa using hrest.symm
   rw [this, List.append_nil] at hacc
   subst hacc
   simp [go_sem, smH]
   exact hR _ _ ⟨S, ⟨hS, hS0⟩, .inr ⟨acc, by assumption, rfl, rfl⟩⟩
  ·have hm32 : m < 2 ^ 32 := by omega
   have hrl : m &&& (m - 1) < m := Nat.lt_of_le_of_lt Nat.and_le_right (by omega)
   have htz := (tz_spec hm0 hm32)
   have htzn := lt_of_bit hmn htz.2.1
   have htz16 : tz m < 16 := by omega
   rw [bitsL_clear hm0 hm32] at hrest
   have hrnd := bitsL_nodup (m &&& (m - 1))
   rw [drs_nodup _ hrnd] at hrest
   simp [go_sem, smH, hm0]
   refine (split_fun m hm0 hm32).callF (by simp [go_sem]) ?_
   rintro _ rfl
   generalize tz m = a at *
   generalize m &&& (m - 1) = r at *
   have hr32 : r < 2 ^ 32 := by omega
   have ha := hg a htz16
   have e1 := u32_and hr32 ha
   have hb1 : (bitsL r).filter (okG g a) = bitsL (r &&& g a) := by rw [bitsL_and]; rfl
   rw [hb1] at hrest
   have hole : r &&& g a ≤ r := Nat.and_le_left
   obtain ⟨o0, ho0⟩ : ∃ o, r &&& g a = o := ⟨_, rfl⟩
   rw [ho0] at e1 hrest hole
   simp [go_sem, tbR_at htz16, tbR_get htz16, e1]
   refine ⟨by omega, by omega, ?_⟩
   refine IWp.loopT (α := Nat × List (Nat × Bool)) (fun x => (⟨false, 66, 12, [15, 17, 32, 45], glT, [(0, .fptr 17 [tbR teams g] 0 0), (2, smF), (8, .sl 4 acc.length 0 acc.length none), (9, .int .i64 (a : Int)), (10, .int .u32 (r : Int)), (11, .int .u32 (x.1 : Int))], []⟩, smH teams g x.2 ++ [.rows 2 (prs (asT teams acc))]))
    (fun x => x.1 < 2 ^ teams.length ∧ (∃ rest, (dJ (okG g) a (bitsL r) (bitsL x.1)).head? = some rest ∧ acc ++ rest = D) ∧ (MemoB g x.2 ∧ aget 0 x.2 = some true)) (fun x => x.1) (o0, S) ⟨by omega, ⟨rest, hrest, hacc⟩, hS, hS0⟩ (by simp [go_sem, smH, smF]) ?_
   clear hrest hacc hS hS0 rest
   rintro ⟨o, S1⟩ ⟨hon, ⟨rest, hrest, hacc⟩, hS1, hS10⟩
   simp only at hon hrest hacc hS1 hS10
   have ho32 : o < 2 ^ 32 := by omega
   by_cases h0 : o = 0
   ·subst h0
    rw [bitsL_zero, dJ_nil] at hrest
    simp at hrest
   ·have n1 := u32_neg h0 ho32
    have n1' : IntKind.u32.wrap (-(o : Int)) = ((2 ^ 32 - o : Nat) : Int) := by rw [← n1]; simp
    obtain ⟨K2, hK2⟩ : ∃ K, 2 ^ 32 - o = K := ⟨_, rfl⟩
    have n2 := u32_and ho32 (b := K2) (by omega)
    rw [← hK2, low_bit h0 ho32] at n2
    rw [hK2] at n1 n1' n2
    have n3 := u32_pred h0 ho32
    obtain ⟨L, hL⟩ : ∃ L, o - 1 = L := ⟨_, rfl⟩
    have n4 := u32_and ho32 (b := L) (by omega)
    have hcl := bitsL_clear h0 ho32
    rw [hL] at n3 hcl
    have hlt : o &&& L < o := Nat.lt_of_le_of_lt Nat.and_le_right (by omega)
    obtain ⟨o2, ho2⟩ : ∃ o2, o &&& L = o2 := ⟨_, rfl⟩
    rw [ho2] at n4 hcl hlt
    rw [hcl, dJ_cons] at hrest
    have n5 : bitsOf .andNot .u32 (r : Int) ((2 ^ tz o : Nat) : Int) = ((anb r (2 ^ tz o) : Nat) : Int) := u32_andNot
    have hbn := lt_of_bit hon (tz_spec h0 ho32).2.1
    have tzc := tz_fun o h0 ho32
    have hbq := bitsL_wo (r := r) (b := tz o) hr32
    obtain ⟨b, hb⟩ : ∃ b, tz o = b := ⟨_, rfl⟩
    rw [hb] at n2 n5 hrest hbn tzc hbq
    obtain ⟨P2, hP2⟩ : ∃ P2, 2 ^ b = P2 := ⟨_, rfl⟩
    have hqr : anb r (2 ^ b) ≤ r := anb_le hr32
    rw [hP2] at n2 n5 hbq hqr
    obtain ⟨q, hq⟩ : ∃ q, anb r P2 = q := ⟨_, rfl⟩
    rw [hq] at n5 hbq hqr
    rw [← hbq] at hrest
    have hcq := cnt_head (g := g) (m := q)
    have hal : acc.length ≤ 16 := by rw [← hacc] at hDl; simp at hDl; omega
    simp [go_sem, smH, smF, h0, n1, n1', n2, n5]
    refine (some_calls teams g hn hg q (by omega) S1 [.rows 2 (prs (asT teams acc))] hS1 hS10 (by simp [go_sem])).mono ?_
    rintro _ _ ⟨rfl, S2, ⟨hS2, hS20⟩, rfl⟩
    cases hs : smM g q with
    | true =>
     rw [hs] at hcq
     obtain ⟨rest', hr1⟩ := Option.isSome_iff_exists.1 hcq.symm
     have hr2 : rest = (a, b) :: rest' := by
      rw [List.head?_append, List.head?_map, hr1] at hrest
      simpa using hrest.symm
     simp [go_sem, smH]
     refine Drawn.intro (fun j => if j = 13 then .int .i64 (b : Int) else .tup []) ?_
     have ta : teams.getD a 0 = teams[a] := by simp [htzn]
     have tb : teams.getD b 0 = teams[b] := by simp [hbn]
     simp [go_sem, tzc, htzn, hbn, tbR]
     refine ⟨by omega, by decide +kernel, q, acc ++ [(a, b)], S2, ⟨⟨rfl, by simp⟩, rfl, ?_⟩, ⟨by omega, ⟨rest', hr1, ?_⟩, hS2, hS20⟩, by omega⟩
     ·rw [asT_snoc, prs_snoc, ta, tb]
     ·rw [← hacc, hr2]; simp
    | false =>
     rw [hs] at hcq
     have hnil : drs (okG g) (bitsL q) = [] := by
      cases hd : drs (okG g) (bitsL q) with
      | nil => rfl
      | cons x l => rw [hd] at hcq; simp at hcq
     rw [hnil, List.map_nil, List.nil_append] at hrest
     simp [go_sem, smH, n3, n4]
     exact ⟨o2, S2, ⟨rfl, rfl⟩, ⟨by omega, ⟨rest, hrest, hacc⟩, hS2, hS20⟩, hlt⟩
end Go.Idl
namespace Go.Idl
open Go.Proofs
theorem fst_head {met : List (Int × Int)} {l : List Int} : (drT met l).head? = if fstB met l = true then some (fstD met l) else none := by
 unfold fstB fstD
 cases drT met l <;> simp
theorem head_asT {teams : List Int} {met : List (Int × Int)} {g : Nat → Nat} (hn : teams.length ≤ 16) (ho : OpenOK teams met g) {m : Nat} (hm : m < 2 ^ teams.length) :
  (drT met ((bitsL m).map fun i => teams.getD i 0)).head? = ((drs (okG g) (bitsL m)).head?).map (asT teams) := by
 have hp16 : 2 ^ teams.length ≤ 2 ^ 16 := Nat.pow_le_pow_right (by decide) hn
 rw [drs_teams hn ho (bitsL_nodup m) (fun i hi => lt_of_bit hm (bitsL_mem.1 hi).2), List.head?_map]
theorem bits_full_map {teams : List Int} (hn : teams.length ≤ 16) : ((bitsL (2 ^ teams.length - 1)).map fun i => teams.getD i 0) = teams := by
 rw [bitsL_full (by omega), teams_range]
theorem bits_wo_map {teams : List Int} (hn : teams.length ≤ 16) {i : Nat} (hi : i < teams.length) : ((bitsL (anb (2 ^ teams.length - 1) (2 ^ i))).map fun i => teams.getD i 0) = teams.eraseIdx i := by
 have hp16 : 2 ^ teams.length ≤ 2 ^ 16 := Nat.pow_le_pow_right (by decide) hn
 rw [bitsL_wo (by omega), bitsL_full (by omega), ← restZ_all teams i hi]
 rfl
theorem fstD_len {met : List (Int × Int)} {teams : List Int} : (fstD met teams).length ≤ teams.length := by
 unfold fstD
 cases hd : drT met teams with
 | nil => simp
 | cons d r =>
  have := drs_len (ok := okT met) _ teams (Nat.le_refl _) d (by rw [show drs (okT met) teams = drT met teams from rfl, hd]; simp)
  simp only [List.headD_cons]; omega
theorem Draw_fun (teams : List Int) (met : List (Int × Int)) (byes : List Int) (hl : teams.length ≤ 2 ^ 32) (hm : met.length ≤ 2 ^ 32) (hb : byes.length ≤ 2 ^ 32) : FN 64 [.fz 1 (ints teams), .fz 2 (prs met), .fz 1 (ints byes)] (fun v => v = drawV (drawR teams met byes)) := by
 refine IFun.of_bodyZ false 17 [24, 31, 41, 47, 56, 68] Tryz.func64 rfl Tryz.call64 rfl fun R hR => ?_
 have fin : ∀ (r : IV) (σ : Heap) (q : List (Int × Int) × Int × Int), drawR teams met byes = q → frzOK false 4 σ r ∧ nz 4 (frzV 4 σ r) (drawV q) → R r σ := fun r σ q e h => hR r σ _ rfl (by rw [e]; exact h)
 simp [go_sem]
 refine (set_fun teams met hl hm).callM (by simp [go_sem]) ?_
 rintro v (⟨hr, rfl⟩ | ⟨hr, hn, rfl⟩ | ⟨hr, hn, g, ho, rfl⟩)
 ·have he : errN teams met true = 2 := by unfold errN; rw [if_pos hr]
  simp [go_sem]
  exact fin _ _ ([], 0, 2) (by unfold drawR; rw [he]; rfl) (by simp [go_sem, drawV])
 ·have he : errN teams met true = 5 := by unfold errN; rw [if_neg (by simp [hr]), if_pos hn]
  simp [go_sem]
  exact fin _ _ ([], 0, 5) (by unfold drawR; rw [he]; rfl) (by simp [go_sem, drawV])
 have he : errN teams met true = 0 := by unfold errN; rw [if_neg (by simp [hr]), if_neg (by omega), if_neg (by simp)]
 have hp : 2 ^ teams.length - 1 < 2 ^ teams.length := by have : 0 < 2 ^ teams.length := Nat.pow_pos (by decide); omega
 have hp16 : 2 ^ teams.length ≤ 2 ^ 16 := Nat.pow_le_pow_right (by decide) hn
 have hgb : ∀ i, i < 16 → g i < 2 ^ 32 := fun i hi => (ho i hi).1
 have hH := head_asT hn ho hp
 rw [bits_full_map hn, fst_head] at hH
 have hW : ∀ i, i < teams.length → _ := fun i hi => head_asT (m := anb (2 ^ teams.length - 1) (2 ^ i)) hn ho (Nat.lt_of_le_of_lt (anb_le (by omega)) hp)
 have hWm := fun i hi => bits_wo_map hn (i := i) hi
 have hWl : ∀ i, anb (2 ^ teams.length - 1) (2 ^ i) < 2 ^ teams.length := fun i => Nat.lt_of_le_of_lt (anb_le (by omega)) hp
 have allc := all_c teams g hn
 simp [go_sem]
 refine (drawn_calls teams g).mono ?_
 rintro _ _ ⟨rfl, rfl⟩
 generalize 2 ^ teams.length - 1 = M at *
 by_cases hpr : teams.length % 2 = 0
 ·have hp' : (teams.length : Int).tmod 2 = 0 := by rw [Int.tmod_eq_emod_of_nonneg (by omega)]; omega
  simp [go_sem, smF, smH, hp']
  refine allc.callF (by simp [go_sem]) ?_
  rintro _ rfl
  simp [go_sem]
  refine (first_calls teams g hn hgb M hp [(0, true)] memB0 rfl).mono ?_
  rintro _ _ ⟨S', ⟨hS', hS0'⟩, (⟨hd, rfl, rfl⟩ | ⟨D, hd, rfl, rfl⟩)⟩
  ·rw [hd] at hH
   have hf : fstB met teams = false := by
    cases h : fstB met teams with
    | false => rfl
    | true => rw [h] at hH; simp at hH
   simp [go_sem, smH]
   exact fin _ _ ([], 0, 6) (by unfold drawR; rw [if_neg (by simp [he]), if_pos hpr, if_neg (by simp [hf])]) (by simp [go_sem, drawV])
  ·rw [hd] at hH
   have hf : fstB met teams = true ∧ fstD met teams = asT teams D := by
    cases h : fstB met teams with
    | false => rw [h] at hH; simp at hH
    | true => rw [h] at hH; simpa using hH
   have hDl := fstD_len (met := met) (teams := teams)
   rw [hf.2, asT_length] at hDl
   simp [go_sem, smH]
   exact fin _ _ (fstD met teams, 0, 0) (by unfold drawR; rw [if_neg (by simp [he]), if_pos hpr, if_pos hf.1]) (by simp [go_sem, drawV, hf.2])
 have hp' : ¬ (teams.length : Int).tmod 2 = 0 := by rw [Int.tmod_eq_emod_of_nonneg (by omega)]; omega
 have hres : drawR teams met byes = byeGo teams met byes teams.length := by unfold drawR; rw [if_neg (by simp [he]), if_neg hpr]
 have w0 : IntKind.i64.wrap ((teams.length : Int) - 1) = (teams.length : Int) - 1 := wrap64 (by omega) (by omega)
 simp [go_sem, smF, smH, hp', w0]
 refine IWp.loopT (α := Nat × List (Nat × Bool)) (fun x => (⟨false, 74, 17, [24, 31, 41, 47, 56, 68], glT, [(0, .fz 1 (ints teams)), (2, .fz 1 (ints byes)), (9, .fptr 17 [tbR teams g] 0 0), (11, smF), (14, .int .i64 ((x.1 : Int) - 1))], []⟩, smH teams g x.2))
  (fun x => x.1 ≤ teams.length ∧ byeGo teams met byes teams.length = byeGo teams met byes x.1 ∧ MemoB g x.2 ∧ aget 0 x.2 = some true) (fun x => x.1) (teams.length, [(0, true)]) ⟨Nat.le_refl _, rfl, memB0, rfl⟩ (by simp [go_sem, smH, smF]) ?_
 rintro ⟨i, S⟩ ⟨hi, hgo, hS, hS0⟩
 simp only at hi hgo hS hS0
 cases i with
 | zero =>
  simp [go_sem, smH, smF]
  exact fin _ _ ([], 0, 6) (by rw [hres, hgo]; rfl) (by simp [go_sem, drawV])
 | succ i =>
  have hil : i < teams.length := by omega
  have hti : teams.getD i 0 = teams[i] := by simp [hil]
  have ei : ((i + 1 : Nat) : Int) - 1 = i := by omega
  simp only [ei]
  rw [byeGo, hti] at hgo
  have w1 : IntKind.i64.wrap ((i : Int) - 1) = (i : Int) - 1 := wrap64 (by omega) (by omega)
  have hWi := hW i hil
  rw [hWm i hil, fst_head] at hWi
  simp [go_sem, smH, smF, hil]
  refine (place_fun byes teams[i] hb).callF (by simp [go_sem]) ?_
  rintro _ rfl
  cases hix : ix byes teams[i] with
  | some b =>
   have hmem : teams[i] ∈ byes := by
    apply Decidable.byContradiction; intro hc
    rw [ix_none.2 hc] at hix; cases hix
   have hpl : plc byes teams[i] = (b : Int) := by rw [plc, hix]
   rw [if_pos hmem] at hgo
   simp [go_sem, hpl, w1]
   exact ⟨i, S, ⟨rfl, rfl⟩, ⟨by omega, hgo, hS, hS0⟩, by omega⟩
  | none =>
   have hmem : ¬ teams[i] ∈ byes := ix_none.1 hix
   have hpl : plc byes teams[i] = -1 := by rw [plc, hix]
   rw [if_neg hmem] at hgo
   have hi16 : i < 16 := by omega
   have e1 := shl32 (i := i) (by omega)
   have e2 : bitsOf .andNot .u32 (M : Int) (IntKind.u32.wrap (2 ^ min i 32)) = ((anb M (2 ^ i) : Nat) : Int) := by
    rw [min32 (by omega), e1, u32_andNot]
   have hWl' := hWl i
   obtain ⟨A, hA⟩ : ∃ A, anb M (2 ^ i) = A := ⟨_, rfl⟩
   rw [hA] at hWi e2 hWl'
   simp [go_sem, hpl]
   refine Drawn.oneC 7 (fun k => if k = 2 then .int .u32 (M : Int) else .tup []) (fun _ => .tup []) _ rfl rfl (by decide +kernel) fun k hk => ?_
   simp [go_sem, allc, e2]
   refine hk _ _ ?_
   clear hk k
   refine ⟨_, _, rfl, by simp [go_sem], ?_⟩
   simp [go_sem]
   refine (first_calls teams g hn hgb A hWl' S hS hS0).mono ?_
   rintro _ _ ⟨S', ⟨hS', hS0'⟩, (⟨hd, rfl, rfl⟩ | ⟨D, hd, rfl, rfl⟩)⟩
   ·rw [hd] at hWi
    have hf : fstB met (teams.eraseIdx i) = false := by
     cases h : fstB met (teams.eraseIdx i) with
     | false => rfl
     | true => rw [h] at hWi; simp at hWi
    rw [if_neg (by simp [hf])] at hgo
    simp [go_sem, smH, w1]
    exact ⟨i, S', ⟨rfl, rfl⟩, ⟨by omega, hgo, hS', hS0'⟩, by omega⟩
   ·rw [hd] at hWi
    have hf : fstB met (teams.eraseIdx i) = true ∧ fstD met (teams.eraseIdx i) = asT teams D := by
     cases h : fstB met (teams.eraseIdx i) with
     | false => rw [h] at hWi; simp at hWi
     | true => rw [h] at hWi; simpa using hWi
    rw [if_pos hf.1] at hgo
    simp [go_sem, smH, hil]
    exact ⟨by decide +kernel, fin _ _ (fstD met (teams.eraseIdx i), teams[i], 0) (by rw [hres, hgo]) (by simp [go_sem, drawV, hf.2])⟩
end Go.Idl
namespace Go.Idl
open Go.Proofs
theorem wo_erase : ∀ {ts : List Int} {j : Nat} (_ : ts.Nodup) (hj : j < ts.length), wo ts[j] ts = ts.eraseIdx j
 | [], _, _, hj => by simp at hj
 | x :: ts, 0, hn, _ => by
  rw [List.nodup_cons] at hn
  simp only [List.getElem_cons_zero, List.eraseIdx_zero, List.tail_cons]; rw [wo_cons_eq, wo_not hn.1]
 | x :: ts, j + 1, hn, hj => by
  rw [List.nodup_cons] at hn
  have hj' : j < ts.length := by simpa using hj
  simp only [List.getElem_cons_succ, List.eraseIdx_cons_succ]
  rw [wo_cons_ne (fun e => hn.1 (by rw [e]; exact List.getElem_mem hj')), wo_erase hn.2 hj']
theorem byeGo_spec {teams : List Int} {met : List (Int × Int)} {byes : List Int} : ∀ i, i ≤ teams.length →
  (byeGo teams met byes i = ([], 0, 6) ∧ ∀ j, j < i → teams.getD j 0 ∉ byes → fstB met (teams.eraseIdx j) = false) ∨ ∃ j, j < i ∧ teams.getD j 0 ∉ byes ∧ fstB met (teams.eraseIdx j) = true ∧ byeGo teams met byes i = (fstD met (teams.eraseIdx j), teams.getD j 0, 0)
 | 0, _ => .inl ⟨rfl, fun j hj => by omega⟩
 | i + 1, hi => by
  have ih := byeGo_spec (teams := teams) (met := met) (byes := byes) i (by omega)
  rw [byeGo]
  by_cases hb : teams.getD i 0 ∈ byes
  ·rw [if_pos hb]
   rcases ih with ⟨h1, h2⟩ | ⟨j, h1, h2⟩
   ·refine .inl ⟨h1, fun j hj hjb => ?_⟩
    rcases Nat.lt_succ_iff_lt_or_eq.1 hj with h | rfl
    ·exact h2 j h hjb
    ·exact absurd hb hjb
   ·exact .inr ⟨j, by omega, h2⟩
  ·rw [if_neg hb]
   by_cases hf : fstB met (teams.eraseIdx i) = true
   ·rw [if_pos hf]; exact .inr ⟨i, by omega, hb, hf, rfl⟩
   ·rw [if_neg hf]
    rcases ih with ⟨h1, h2⟩ | ⟨j, h1, h2⟩
    ·refine .inl ⟨h1, fun j hj hjb => ?_⟩
     rcases Nat.lt_succ_iff_lt_or_eq.1 hj with h | rfl
     ·exact h2 j h hjb
     ·simpa using hf
    ·exact .inr ⟨j, by omega, h2⟩
theorem fst_mem {met : List (Int × Int)} {l : List Int} (h : fstB met l = true) : fstD met l ∈ drT met l := by
 have := fst_head (met := met) (l := l)
 rw [if_pos h] at this
 exact List.mem_of_mem_head? this
def endsP (d : List (Int × Int)) : List Int := d.flatMap fun p => [p.1, p.2]
theorem wo_perm {b : Int} : ∀ {l : List Int}, l.Nodup → b ∈ l → (b :: wo b l).Perm l
 | a :: l, hn, h => by
  rw [List.nodup_cons] at hn
  by_cases e : a = b
  ·subst e
   rw [wo_cons_eq, wo_not hn.1]
  ·rw [wo_cons_ne e]
   have hb : b ∈ l := (List.mem_cons.1 h).resolve_left fun e2 => e e2.symm
   exact (List.Perm.swap a b _).trans ((wo_perm hn.2 hb).cons a)
theorem drs_ends {ok : Int → Int → Bool} : ∀ (n : Nat) (l : List Int), l.length ≤ n → l.Nodup → ∀ d ∈ drs ok l, (endsP d).Perm l ∧ ∀ p ∈ d, ok p.1 p.2 = true
 | _, [], _, _, d, hd => by
  rw [drs_nil] at hd
  have : d = [] := by simpa using hd
  subst this
  exact ⟨List.Perm.refl _, by simp⟩
 | n + 1, a :: rest, hn, h, d, hd => by
  rw [List.nodup_cons] at h
  obtain ⟨b, d', rfl, hb, hok, hd'⟩ := (mem_drs h.2).1 hd
  obtain ⟨k1, k2⟩ := drs_ends n (wo b rest) (by have := wo_length h.2 hb; simp at hn; omega) (wo_nodup h.2) d' hd'
  refine ⟨?_, fun p hp => ?_⟩
  ·simp only [endsP, List.flatMap_cons, List.cons_append, List.nil_append]
   exact ((k1.cons b).trans (wo_perm h.2 hb)).cons a
  ·rcases List.mem_cons.1 hp with rfl | hp
   ·exact hok
   ·exact k2 p hp
theorem getD_len {l : List Int} {i : Nat} (h : i < l.length) : l.getD i 0 = l[i] := by simp [h]
structure DrawOK (teams : List Int) (met : List (Int × Int)) (byes : List Int) (d : List (Int × Int)) (y : Int) : Prop where
 perm : (endsP d ++ if teams.length % 2 = 1 then [y] else []).Perm teams
 fresh : ∀ p ∈ d, metB met p.1 p.2 = false
 ev : teams.length % 2 = 0 → y = 0
 od : teams.length % 2 = 1 → y ∈ teams ∧ y ∉ byes
theorem drawR_ok {teams : List Int} {met : List (Int × Int)} {byes : List Int} (hn : teams.Nodup) (h : (drawR teams met byes).2.2 = 0) : DrawOK teams met byes (drawR teams met byes).1 (drawR teams met byes).2.1 := by
 unfold drawR at h ⊢
 split at h
 ·rename_i he; exact absurd h he
 rename_i he
 rw [if_neg he]
 rcases (by omega : teams.length % 2 = 0 ∨ teams.length % 2 = 1) with h2 | h2
 ·rw [if_pos h2] at h ⊢
  by_cases hf : fstB met teams = true
  ·rw [if_pos hf] at h ⊢
   obtain ⟨k1, k2⟩ := drs_ends (ok := okT met) teams.length teams (Nat.le_refl _) hn _ (fst_mem hf)
   refine ⟨by rw [if_neg (by omega), List.append_nil]; exact k1, fun p hp => ?_, fun _ => rfl, fun e => by omega⟩
   have := k2 p hp; simpa [okT] using this
  ·rw [if_neg hf] at h; simp at h
 ·rw [if_neg (by omega)] at h ⊢
  rcases byeGo_spec (teams := teams) (met := met) (byes := byes) teams.length (Nat.le_refl _) with ⟨g1, g2⟩ | ⟨j, hj, g1, g2, g3⟩
  ·rw [g1] at h; simp at h
  ·rw [getD_len hj] at g1 g3
   rw [g3]
   obtain ⟨k1, k2⟩ := drs_ends (ok := okT met) _ (teams.eraseIdx j) (Nat.le_refl _) (hn.sublist (List.eraseIdx_sublist _ _)) _ (fst_mem g2)
   refine ⟨?_, fun p hp => ?_, fun e => by omega, fun _ => ⟨List.getElem_mem hj, g1⟩⟩
   ·rw [if_pos h2]
    refine List.perm_append_comm.trans ?_
    refine (k1.cons _).trans ?_
    rw [← wo_erase hn hj]
    exact wo_perm hn (List.getElem_mem hj)
   ·have := k2 p hp; simpa [okT] using this
theorem endsP_nodup {d : List (Int × Int)} (h : (endsP d).Nodup) : d.Nodup ∧ (d.map (·.1)).Nodup := by
 induction d with
 | nil => simp
 | cons p d ih =>
  simp only [endsP, List.flatMap_cons, List.cons_append, List.nil_append, List.nodup_cons, List.mem_cons, not_or] at h
  obtain ⟨k1, k2⟩ := ih h.2.2
  have hp : p.1 ∉ d.map (·.1) := fun hc => by
   obtain ⟨q, hq, e⟩ := List.mem_map.1 hc
   exact h.1.2 (List.mem_flatMap.2 ⟨q, hq, by simp [e]⟩)
  refine ⟨List.nodup_cons.2 ⟨fun hc => hp (List.mem_map_of_mem hc), k1⟩, ?_⟩
  rw [List.map_cons, List.nodup_cons]
  exact ⟨hp, k2⟩
theorem endsP_length (d : List (Int × Int)) : (endsP d).length = 2 * d.length := by
 induction d with
 | nil => rfl
 | cons p d ih => simp only [endsP, List.flatMap_cons, List.length_append, List.length_cons, List.length_nil] at ih ⊢; omega
theorem mem_endsP {d : List (Int × Int)} {p : Int × Int} (h : p ∈ d) : p.1 ∈ endsP d ∧ p.2 ∈ endsP d := ⟨List.mem_flatMap.2 ⟨p, h, by simp⟩, List.mem_flatMap.2 ⟨p, h, by simp⟩⟩
theorem DrawOK.nodup {teams : List Int} {met : List (Int × Int)} {byes : List Int} {d : List (Int × Int)} {y : Int} (h : DrawOK teams met byes d y) (hn : teams.Nodup) : (endsP d).Nodup := (List.nodup_append.1 (h.perm.nodup_iff.2 hn)).1
theorem DrawOK.mem {teams : List Int} {met : List (Int × Int)} {byes : List Int} {d : List (Int × Int)} {y : Int} (h : DrawOK teams met byes d y) {p : Int × Int} (hp : p ∈ d) : p.1 ∈ teams ∧ p.2 ∈ teams :=
 ⟨h.perm.mem_iff.1 (List.mem_append_left _ (mem_endsP hp).1), h.perm.mem_iff.1 (List.mem_append_left _ (mem_endsP hp).2)⟩
theorem DrawOK.len {teams : List Int} {met : List (Int × Int)} {byes : List Int} {d : List (Int × Int)} {y : Int} (h : DrawOK teams met byes d y) : d.length = teams.length / 2 := by
 have := h.perm.length_eq
 rw [List.length_append, endsP_length] at this
 split at this <;> simp at this <;> omega
theorem ends_ne {d : List (Int × Int)} (h : (endsP d).Nodup) {p : Int × Int} (hp : p ∈ d) : p.1 ≠ p.2 := by
 induction d with
 | nil => cases hp
 | cons q d ih =>
  simp only [endsP, List.flatMap_cons, List.cons_append, List.nil_append, List.nodup_cons, List.mem_cons, not_or] at h
  rcases List.mem_cons.1 hp with rfl | hp
  ·exact h.1.1
  ·exact ih h.2.2 hp
end Go.Idl
namespace Go.Idl
open Go.Proofs
def fnd (l : List Em) (n : Int) (x : Int × Int) : Option Int := (l.find? (isM n x)).map (·.m)
structure EqvR (p : Pl) (a b : List Er) : Prop where
 tab : tabU p a = tabU p b
 met : metT a = metT b
 bye : byeT a = byeT b
theorem EqvR.refl (p : Pl) (a : List Er) : EqvR p a a := ⟨rfl, rfl, rfl⟩
theorem EqvR.lines {p : Pl} {a b : List Er} (h : EqvR p a b) : tabL9 p a = tabL9 p b := by unfold tabL9; rw [h.tab]
theorem EqvR.ord {p : Pl} {a b : List Er} (h : EqvR p a b) : ordT p a = ordT p b := by unfold ordT; rw [h.lines]
theorem EqvR.draw {p : Pl} {a b : List Er} (h : EqvR p a b) : drawR (ordT p a) (metT a) (byeT a) = drawR (ordT p b) (metT b) (byeT b) := by rw [h.ord, h.met, h.bye]
theorem tabU_snoc (p : Pl) (a : List Er) (r : Er) : tabU p (a ++ [r]) = addR p (tabU p a) r := by simp [tabU]
theorem metT_snoc (a : List Er) (r : Er) : metT (a ++ [r]) = metT a ++ r.draw := by simp [metT]
theorem byeT_snoc (a : List Er) (r : Er) : byeT (a ++ [r]) = byeT a ++ if 0 < r.bye then [r.bye] else [] := by simp [byeT]
theorem EqvR.snoc {p : Pl} {a b : List Er} {r r' : Er} (h : EqvR p a b) (h1 : r.draw = r'.draw) (h2 : r.bye = r'.bye) (h3 : r.mg.Perm r'.mg) : EqvR p (a ++ [r]) (b ++ [r']) := by
 refine ⟨?_, ?_, ?_⟩
 ·rw [tabU_snoc, tabU_snoc, h.tab]
  unfold addR
  rw [h2, addE_perm p.s h3]
 ·rw [metT_snoc, metT_snoc, h.met, h1]
 ·rw [byeT_snoc, byeT_snoc, h.bye, h2]
theorem nodup_len {α : Type} [DecidableEq α] : ∀ {A B : List α}, A.Nodup → (∀ x ∈ A, x ∈ B) → A.length ≤ B.length
 | [], B, _, _ => by simp
 | a :: A, B, hn, hs => by
  rw [List.nodup_cons] at hn
  have ha := hs a (List.mem_cons_self ..)
  have hl := (List.perm_cons_erase ha).length_eq
  have := nodup_len (A := A) (B := B.erase a) hn.2 fun x hx => (List.mem_erase_of_ne (by rintro rfl; exact hn.1 hx)).2 (hs x (List.mem_cons_of_mem _ hx))
  simp at hl ⊢; omega
theorem over_iff9 {r : Er} : r.over = true ↔ r.mg.length = r.draw.length := by simp [Er.over]
end Go.Idl
