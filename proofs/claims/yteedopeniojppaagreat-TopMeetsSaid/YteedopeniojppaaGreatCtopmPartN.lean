/-
  Chapter 28: the reference's wrong, sits, played.
  Chapter 28: the reference's Faults.
  Chapter 28: the program's faults are the reference's (plain).
-/
import Derived.Test.YteedopeniojppaaGreatCtopmPartM
import Derived.Test.YteedopeniojppaaGreatCtopmPartB
import Derived.Test.YteedopeniojppaaGreatCtopmPartL
namespace Go.Idl
set_option linter.all false
open Go.Proofs
set_option maxHeartbeats 8000000
set_option maxRecDepth 40000

def bInts (bs : List Nat) : List Int := bs.map fun k : Nat => (k : Int)
@[simp] theorem bInts_length (bs : List Nat) : (bInts bs).length = bs.length := by simp [bInts]
@[simp] theorem bInts_get (bs : List Nat) (i : Nat) (h : i < (bInts bs).length) : (bInts bs)[i] = ((bs[i]'(by simpa using h) : Nat) : Int) := by simp [bInts]
def rAtR (l : List Rw) (k : Nat) : Rw := l.getD k zR
def outR (m : Mv) (x : Rw) : Bool := decide (x.r < 0) || decide (m.rounds ≤ x.r) || decide (x.t < 0) || decide (m.tables ≤ x.t) || decide (x.s < 0) || decide (m.sets ≤ x.s) || decide (x.ns < 0) || decide (x.ew < 0)
def sameRT (l : List Rw) (x : Rw) (k : Nat) : Bool := (rAtR l k).r == x.r && (rAtR l k).t == x.t
def wrongR (m : Mv) (bs : List Nat) (x : Rw) : Bool := outR m x || bs.any (sameRT m.rows x)
def BsOK (l : List Rw) (bs : List Nat) : Prop := ∀ k ∈ bs, k < l.length
/-! ### the first row that .. -/
def firstR (p : Nat → Bool) (bs : List Nat) : Int := match bs.find? p with
  | some k => (k : Int)
  | none => -1
theorem firstR_hit {p : Nat → Bool} {bs : List Nat} {k : Nat} (h : k < bs.length) (h1 : ∀ y ∈ bs.take k, p y = false) (h2 : p bs[k] = true) : firstR p bs = (bs[k] : Nat) := by
  unfold firstR
  have : bs.find? p = some bs[k] := by
    conv => lhs; rw [← List.take_append_drop k bs]
    rw [List.find?_append, List.find?_eq_none.2 (fun y hy => by rw [h1 y hy]; decide)]
    rw [Option.none_or, List.drop_eq_getElem_cons h, List.find?_cons, h2]
  rw [this]
theorem firstR_none {p : Nat → Bool} {bs : List Nat} (h1 : ∀ y ∈ bs, p y = false) : firstR p bs = -1 := by
  unfold firstR
  rw [List.find?_eq_none.2 (fun y hy => by rw [h1 y hy]; decide)]
theorem take_or {bs : List Nat} {k : Nat} (h : k < bs.length) {p : Nat → Bool} (h1 : ∀ y ∈ bs.take k, p y = false) (h2 : p bs[k] = false) : ∀ y ∈ bs.take (k + 1), p y = false := fun y hy => by
  rw [List.take_succ_eq_append_getElem h, List.mem_append] at hy
  rcases hy with hy | hy
  · exact h1 y hy
  · simp at hy; rw [hy]; exact h2
def sitP (l : List Rw) (r p : Int) (k : Nat) : Bool := (rAtR l k).r == r && inB (rAtR l k) p
def playP (l : List Rw) (s p : Int) (k : Nat) : Bool := (rAtR l k).s == s && meetB (rAtR l k) && inB (rAtR l k) p
end Go.Idl
namespace Go.Idl
set_option linter.all false
open Go.Proofs
set_option maxHeartbeats 8000000
set_option maxRecDepth 40000

def Flt.c2 (f : Flt) : List IV := [.int .i64 f.k, .int .i64 f.row, .int .i64 f.p, .int .i64 f.o]
def fltr (l : List Flt) : List (List IV) := mp Flt.c2 l
@[simp] theorem fltr_length (l : List Flt) : (fltr l).length = l.length := mp_length
@[simp] theorem fltr_getElem (l : List Flt) (i : Nat) (h : i < (fltr l).length) : (fltr l)[i] = [.int .i64 (l[i]'(by simpa using h)).k, .int .i64 (l[i]'(by simpa using h)).row, .int .i64 (l[i]'(by simpa using h)).p, .int .i64 (l[i]'(by simpa using h)).o] := by simp [fltr, mp, Flt.c2]
theorem fltr_snoc {l : List Flt} {f : Flt} : fltr (l ++ [f]) = fltr l ++ [[.int .i64 f.k, .int .i64 f.row, .int .i64 f.p, .int .i64 f.o]] := mp_snoc
theorem fltr_append {l m : List Flt} : fltr (l ++ m) = fltr l ++ fltr m := mp_append
theorem fltr_cons {l : List Flt} {f : Flt} : fltr (f :: l) = [.int .i64 f.k, .int .i64 f.row, .int .i64 f.p, .int .i64 f.o] :: fltr l := rfl
@[go_sem] theorem fltr_nil : fltr [] = [] := rfl
@[go_sem] theorem ScR_fltr {l : List Flt} : ScR (fltr l) = True := eq_true (mp_sc (by simp [scal, Flt.c2]))
@[go_sem] theorem ClR_fltr {l : List Flt} : ClR (fltr l) = True := eq_true (ScR.cl (mp_sc (by simp [scal, Flt.c2])))
@[go_sem] theorem BlR_fltr {n : Nat} {l : List Flt} : BlR n (fltr l) = True := eq_true (ScR.bl (mp_sc (by simp [scal, Flt.c2])))
theorem bInts_snoc {bs : List Nat} {k : Nat} : ints (bInts (bs ++ [k])) = ints (bInts bs) ++ [[.int .i64 (k : Int)]] := by
  rw [bInts, List.map_append, ints_append]; rfl

/-! ### its parts -/
def hitF (k i p at_ : Int) : List Flt := if 0 ≤ at_ then [⟨k, i, p, at_⟩] else []
def part2 (i : Int) (x : Rw) : List Flt := if 0 < x.ns ∧ x.ns = x.ew then [⟨2, i, x.ns, x.ew⟩] else []
def part3 (l : List Rw) (bs : List Nat) (i : Int) (x : Rw) : List Flt := hitF 3 i x.ns (firstR (sitP l x.r x.ns) bs)
def part3b (l : List Rw) (bs : List Nat) (i : Int) (x : Rw) : List Flt := if x.ns ≠ x.ew then hitF 3 i x.ew (firstR (sitP l x.r x.ew) bs) else []
def loadP (l : List Rw) (x : Rw) (k : Nat) : Bool := (rAtR l k).r == x.r && (rAtR l k).s == x.s
def metP (l : List Rw) (x : Rw) (k : Nat) : Bool := meetB (rAtR l k) && inB (rAtR l k) x.ns && inB (rAtR l k) x.ew
def part4 (m : Mv) (bs : List Nat) (i : Int) (x : Rw) : List Flt := if m.copies ≤ bs.countP (loadP m.rows x) then [⟨4, i, x.s, bs.countP (loadP m.rows x)⟩] else []
def part5 (l : List Rw) (bs : List Nat) (i : Int) (x : Rw) : List Flt := if meetB x = true then hitF 5 i x.ns (firstR (playP l x.s x.ns) bs) ++ hitF 5 i x.ew (firstR (playP l x.s x.ew) bs) else []
def part6 (l : List Rw) (lim : Int) (bs : List Nat) (i : Int) (x : Rw) : List Flt := if meetB x = true ∧ lim ≤ bs.countP (metP l x) then [⟨6, i, x.ns, x.ew⟩] else []
def rStep (m : Mv) (lim : Int) (i : Nat) (x : Rw) (q : List Flt × List Nat) : List Flt × List Nat :=
  if wrongR m q.2 x = true then (q.1 ++ [⟨1, i, x.ns, x.ew⟩], q.2)
  else (q.1 ++ part2 i x ++ part3 m.rows q.2 i x ++ part3b m.rows q.2 i x ++ part4 m q.2 i x ++ part5 m.rows q.2 i x ++ part6 m.rows lim q.2 i x, q.2 ++ [i])
def rRun (m : Mv) (lim : Int) : Nat → List Rw → List Flt × List Nat → List Flt × List Nat
  | _, [], q => q
  | i, x :: l, q => rRun m lim (i + 1) l (rStep m lim i x q)
def refH (m : Mv) (F : List Flt) (bs : List Nat) (more : Heap) : Heap := [.rows 6 [mcells m], .rows 4 (fltr F), .rows 1 (ints (bInts bs))] ++ more
end Go.Idl
namespace Go.Idl
set_option linter.all false
open Go.Proofs

def lookB (p : Nat → Bool) (bs : List Nat) : Option (Int × Int) := match bs.filter p with
  | [] => none
  | k :: l => some ((k : Int), (l.length : Int) + 1)
def bfOf (l : List Rw) (bs : List Nat) : Bef := bs.map fun k => (k, rAtR l k)
theorem lookM_map {t : Th} {l : List Rw} {p : Nat → Bool} {bs : List Nat} (h : ∀ k, (shL (rAtR l k)).contains t = p k) : lookM t (bfOf l bs) = lookB p bs := by
  unfold lookM lookB bfOf
  rw [List.filter_map]
  have : (fun y : Nat × Rw => (shL y.2).contains t) ∘ (fun k => (k, rAtR l k)) = p := by funext k; exact h k
  rw [this]
  cases bs.filter p <;> simp
theorem lookB_some {p : Nat → Bool} {bs : List Nat} {f c : Int} (h : lookB p bs = some (f, c)) : firstR p bs = f ∧ 0 ≤ f ∧ c = bs.countP p := by
  unfold lookB at h
  split at h
  · cases h
  · rename_i k l e
    simp at h
    obtain ⟨rfl, rfl⟩ := h
    refine ⟨?_, by omega, ?_⟩
    · unfold firstR
      have : bs.find? p = some k := by
        rw [← List.head?_filter, e]; rfl
      rw [this]
    · rw [List.countP_eq_length_filter, e]; simp
theorem lookB_none {p : Nat → Bool} {bs : List Nat} (h : lookB p bs = none) : firstR p bs = -1 ∧ bs.countP p = 0 ∧ bs.any p = false := by
  unfold lookB at h
  split at h
  · rename_i e
    refine ⟨?_, ?_, ?_⟩
    · unfold firstR
      have : bs.find? p = none := by rw [← List.head?_filter, e]; rfl
      rw [this]
    · rw [List.countP_eq_length_filter, e]; rfl
    · rw [List.any_eq_false]
      intro k hk
      have : k ∉ bs.filter p := by rw [e]; simp
      rw [List.mem_filter] at this
      intro hp; exact this ⟨hk, hp⟩
  · cases h
theorem lookB_isSome {p : Nat → Bool} {bs : List Nat} : (lookB p bs).isSome = bs.any p := by
  cases h : lookB p bs with
  | none => rw [(lookB_none h).2.2]; rfl
  | some q =>
    unfold lookB at h
    split at h
    · cases h
    · rename_i k l e
      have : k ∈ bs.filter p := by rw [e]; simp
      rw [List.mem_filter] at this
      exact (List.any_eq_true.2 ⟨k, this.1, this.2⟩).symm
theorem hit_look {k i p : Int} {P : Nat → Bool} {bs : List Nat} : hitF k i p (firstR P bs) = (match lookB P bs with | none => [] | some q => [⟨k, i, p, q.1⟩]) := by
  cases h : lookB P bs with
  | none => rw [(lookB_none h).1]; rfl
  | some q => obtain ⟨f, c⟩ := q; obtain ⟨h1, h2, _⟩ := lookB_some h; rw [h1]; simp [hitF, h2]

/-! ### what a row shows -/
theorem sh1 (y : Rw) (a b : Int) : (shL y).contains ⟨1, a, b⟩ = (y.r == a && y.t == b) := by
  rw [Bool.eq_iff_iff]
  simp [shL, encT]
  grind
theorem sh4 (y : Rw) (a b : Int) : (shL y).contains ⟨4, a, b⟩ = (y.r == a && y.s == b) := by
  rw [Bool.eq_iff_iff]
  simp [shL, encT]
  grind
theorem sh3 (y : Rw) (a p : Int) : (shL y).contains ⟨3, a, p⟩ = (y.r == a && inB y p) := by
  rw [Bool.eq_iff_iff]
  simp [shL, encT, seatsL, inB]
  grind
theorem sh5 (y : Rw) (p s : Int) : (shL y).contains ⟨5, p, s⟩ = (y.s == s && meetB y && inB y p) := by
  rw [Bool.eq_iff_iff]
  simp [shL, encT, seatsL, inB]
  grind
theorem sh6 (x y : Rw) (hx : meetB x = true) : (shL y).contains (encT x) = (meetB y && inB y x.ns && inB y x.ew) := by
  rw [Bool.eq_iff_iff]
  simp [meetB] at hx
  simp [shL, encT, seatsL, inB, meetB]
  grind

/-! ### a step -/
theorem look_get {S : Mem} {l : List Rw} {bs : List Nat} (hS : MemI S (bfOf l bs)) {t : Th} {p : Nat → Bool} (h : ∀ k, (shL (rAtR l k)).contains t = p k) : aget t S = lookB p bs := by rw [hS t, lookM_map h]
theorem cnt_look {S : Mem} {l : List Rw} {bs : List Nat} (hS : MemI S (bfOf l bs)) {t : Th} {p : Nat → Bool} (h : ∀ k, (shL (rAtR l k)).contains t = p k) : cntM2 t S = bs.countP p := by
  unfold cntM2
  rw [look_get hS h]
  cases h : lookB p bs with
  | none => rw [(lookB_none h).2.1]; rfl
  | some q => obtain ⟨f, c⟩ := q; rw [(lookB_some h).2.2]; rfl
theorem ag_hit {S : Mem} {l : List Rw} {bs : List Nat} (hS : MemI S (bfOf l bs)) {i k p : Int} {key : Int → Th} {P : Nat → Bool} (h : ∀ j, (shL (rAtR l j)).contains (key p) = P j) : ag1 i k S key p = hitF k i p (firstR P bs) := by
  rw [hit_look]; unfold ag1; rw [look_get hS h]; cases lookB P bs <;> rfl
theorem first_false {P : Nat → Bool} {bs : List Nat} (h : ∀ k, P k = false) : firstR P bs = -1 := firstR_none fun k _ => h k
theorem wrong_eq {m : Mv} {S : Mem} {bs : List Nat} (hS : MemI S (bfOf m.rows bs)) (x : Rw) : wrongF m (aget ⟨1, x.r, x.t⟩ S).isSome x = wrongR m bs x := by
  rw [look_get hS (p := sameRT m.rows x) fun k => sh1 _ _ _, lookB_isSome]
  unfold wrongF wrongR outB outR
  rw [Bool.eq_iff_iff]
  simp
  grind
theorem row_eq {m : Mv} {lim : Int} {S : Mem} {bs : List Nat} (hS : MemI S (bfOf m.rows bs)) (i : Int) (x : Rw) :
    rowF m lim S i x = part2 i x ++ part3 m.rows bs i x ++ part3b m.rows bs i x ++ part4 m bs i x ++ part5 m.rows bs i x ++ part6 m.rows lim bs i x := by
  have a3 : ∀ p, ag1 i 3 S (key3 x) p = hitF 3 i p (firstR (sitP m.rows x.r p) bs) := fun p => ag_hit hS fun j => sh3 _ _ _
  have a5 : ∀ p, ag1 i 5 S (key5 x) p = hitF 5 i p (firstR (playP m.rows x.s p) bs) := fun p => ag_hit hS fun j => sh5 _ _ _
  have a4 : cntM2 ⟨4, x.r, x.s⟩ S = bs.countP (loadP m.rows x) := cnt_look hS fun j => sh4 _ _ _
  have e3 : agL i 3 S (key3 x) (seatsL x) = part3 m.rows bs i x ++ part3b m.rows bs i x := by
    have no : ∀ p : Int, ¬ 0 < p → hitF 3 i p (firstR (sitP m.rows x.r p) bs) = [] := fun p hp => by
      rw [first_false (fun k => by unfold sitP inB; simp [hp])]; rfl
    unfold part3 part3b agL seatsL
    rw [List.flatMap_append]
    by_cases h1 : 0 < x.ns
    · by_cases h2 : 0 < x.ew
      · by_cases h3 : x.ew = x.ns
        · simp [h1, h2, h3, a3]
        · simp [h1, h2, h3, a3, Ne.symm h3]
      · have h3 : x.ns ≠ x.ew := by omega
        simp [h1, h2, h3, a3, no x.ew h2]
    · by_cases h2 : 0 < x.ew
      · have h3 : x.ew ≠ x.ns := by omega
        simp [h1, h2, h3, a3, no x.ns h1, Ne.symm h3]
      · simp [h1, h2, no x.ns h1, no x.ew h2]
  have e5 : (if meetB x = true then agL i 5 S (key5 x) (seatsL x) else []) = part5 m.rows bs i x := by
    unfold part5
    by_cases hm : meetB x = true
    · rw [if_pos hm, if_pos hm]
      simp [meetB] at hm
      unfold agL seatsL
      simp [hm, Ne.symm hm.2, a5]
    · rw [if_neg hm, if_neg hm]
  have e6 : (if meetB x = true ∧ lim ≤ cntM2 (encT x) S then [(⟨6, i, x.ns, x.ew⟩ : Flt)] else []) = part6 m.rows lim bs i x := by
    unfold part6
    by_cases hm : meetB x = true
    · rw [cnt_look hS (p := metP m.rows x) fun j => sh6 x _ hm]
    · rw [if_neg (fun h => hm h.1), if_neg (fun h => hm h.1)]
  unfold rowF
  rw [e3, e5, e6, a4]
  simp [part2, part4]
theorem runF_eq {m : Mv} {lim : Int} : ∀ (rest : List Rw) (i : Nat) (F : List Flt) (S : Mem) (bs : List Nat), m.rows.drop i = rest → MemI S (bfOf m.rows bs) → (fRun m lim i rest (F, S)).1 = (rRun m lim i rest (F, bs)).1
  | [], i, F, S, bs, _, _ => rfl
  | x :: rest, i, F, S, bs, hd, hS => by
    have hi : m.rows[i]? = some x := by
      have : (m.rows.drop i)[0]? = some x := by rw [hd]; rfl
      simpa using this
    have hdr : m.rows.drop (i + 1) = rest := by rw [← List.drop_drop, hd]; rfl
    have hx : rAtR m.rows i = x := by simp [rAtR, List.getD, hi]
    rw [fRun, rRun]
    unfold fStep rStep
    simp only [wrong_eq hS x]
    by_cases hw : wrongR m bs x = true
    · rw [if_pos hw, if_pos hw]
      exact runF_eq rest (i + 1) _ S bs hdr hS
    · rw [if_neg hw, if_neg hw, row_eq hS]
      simp only [List.append_assoc]
      refine runF_eq rest (i + 1) _ _ _ hdr ?_
      have := putL_mem hS i x
      rw [show bfOf m.rows (bs ++ [i]) = bfOf m.rows bs ++ [(i, x)] by simp [bfOf, hx]]
      exact this
/-- The faults of a movement. -/
def faultsOf (m : Mv) (lim : Int) : List Flt := if errF m lim = 0 then (fRun m lim 0 m.rows ([], [])).1 else []
theorem faultsOf_eq (m : Mv) (lim : Int) : (if errF m lim = 0 then (rRun m lim 0 m.rows ([], [])).1 else []) = faultsOf m lim := by
  unfold faultsOf
  rw [runF_eq m.rows 0 [] [] [] rfl (fun t => by simp [aget, lookM, bfOf])]
theorem faults_c (m : Mv) (lim : Int) : FN 38 [m.v, .int .i64 lim] (fun v => v = .tup [.fz 4 (flts (faultsOf m lim)), .int .i64 (errF m lim)]) := faults_fun m lim
end Go.Idl
