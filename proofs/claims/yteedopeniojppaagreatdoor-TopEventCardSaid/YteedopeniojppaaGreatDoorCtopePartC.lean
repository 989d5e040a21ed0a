import Derived.Test.YteedopeniojppaaGreatDoorIdlPartL
import Derived.Test.YteedopeniojppaaGreatDoorIdlPartJ
import Derived.Test.YteedopeniojppaaGreatDoorCtopePartB
import Derived.Shelf.Strconv.Itoa0
set_option linter.all false
set_option maxHeartbeats 8000000
set_option maxRecDepth 40000
namespace Go.Idl
open Go.Proofs
structure Rw where
 r : Int
 t : Int
 ns : Int
 ew : Int
 s : Int
 deriving DecidableEq
def Rw.c (x : Rw) : List IV := [.int .i64 x.r, .int .i64 x.t, .int .i64 x.ns, .int .i64 x.ew, .int .i64 x.s]
def rws (l : List Rw) : List (List IV) := mp Rw.c l
@[go_sem] theorem rws_nil : rws [] = [] := rfl
def ints (l : List Int) : List (List IV) := mp (fun x => [.int .i64 x]) l
@[simp] theorem ints_length (l : List Int) : (ints l).length = l.length := mp_length
@[simp] theorem ints_getElem (l : List Int) (i : Nat) (h : i < (ints l).length) : (ints l)[i] = [.int .i64 (l[i]'(by simpa using h))] := by simp [ints, mp]
theorem ints_snoc {l : List Int} {x : Int} : ints (l ++ [x]) = ints l ++ [[.int .i64 x]] := mp_snoc
theorem ints_append {l m : List Int} : ints (l ++ m) = ints l ++ ints m := mp_append
@[go_sem] theorem ints_nil : ints [] = [] := rfl
@[go_sem] theorem ScR_ints {l : List Int} : ScR (ints l) = True := eq_true (mp_sc (by simp [scal]))
@[go_sem] theorem ClR_ints {l : List Int} : ClR (ints l) = True := eq_true (ScR.cl (mp_sc (by simp [scal])))
@[go_sem] theorem BlR_ints {n : Nat} {l : List Int} : BlR n (ints l) = True := eq_true (ScR.bl (mp_sc (by simp [scal])))
theorem ints_cons {l : List Int} {x : Int} : ints (x :: l) = [.int .i64 x] :: ints l := rfl
theorem ints_take {l : List Int} {n : Nat} : ints (l.take n) = (ints l).take n := mp_take
theorem ints_set {l : List Int} {i : Nat} {x : Int} : ints (l.set i x) = (ints l).set i [.int .i64 x] := mp_set
structure Mv where
 tables : Int
 rounds : Int
 sets : Int
 copies : Int
 winners : Int
 rows : List Rw
 deriving DecidableEq
def Mv.v (m : Mv) : IV := .agg [.int .i64 m.tables, .int .i64 m.rounds, .int .i64 m.sets, .int .i64 m.copies, .int .i64 m.winners, .fz 5 (rws m.rows)]
def Rw.v (x : Rw) : IV := .agg [.int .i64 x.r, .int .i64 x.t, .int .i64 x.ns, .int .i64 x.ew, .int .i64 x.s]
abbrev FN (f : FuncId) (args : List IV) (V : IV → Prop) : Prop := IFun true Tryz.prog glT f args V
abbrev ON (f : FuncId) (args : List IV) (V : IV → Prop) : Prop := IFun false Tryz.prog glT f args V
end Go.Idl
namespace Go.Idl
open Go.RowKit Go.Proofs
theorem fitL_int {k : IntKind} {l : List Shp} {r : List IV} (h : fitL (.int k :: l) r) : ∃ (z : Int) (cs : List IV), r = .int k z :: cs ∧ (Lit.int k z).wf = true ∧ fitL l cs := by
 obtain ⟨c, cs, rfl, h1, h2⟩ := fitL_cons h
 obtain ⟨z, rfl, hz⟩ := fit_int h1
 exact ⟨z, cs, rfl, hz, h2⟩
def Mv.cells (m : Mv) : List IV := [.int .i64 m.tables, .int .i64 m.rounds, .int .i64 m.sets, .int .i64 m.copies, .int .i64 m.winners, .fz 5 (rws m.rows)]
theorem wf8 {z : Int} (h : (Lit.int .u8 z).wf = true) : 0 ≤ z ∧ z < 256 := by
 have := bounds_u8 h; omega
end Go.Idl
namespace Go.Idl
open Go.Proofs
def k2 (k : Int × Int) : IV := .agg [.int .i64 k.1, .int .i64 k.2]
def enP (S : List ((Int × Int) × Int)) : List (IV × IV) := enM k2 (fun v : Int => .int .i64 v) S
theorem keP (a b : Int × Int) : keq (k2 a) (k2 b) = decide (a = b) := by
 obtain ⟨a1, a2⟩ := a
 obtain ⟨b1, b2⟩ := b
 show (match ceqs [IV.int .i64 a1, IV.int .i64 a2] [IV.int .i64 b1, IV.int .i64 b2] with | some b => b | none => false) = _
 simp [ceqs, ceq, Prod.mk.injEq]
 by_cases h1 : a1 = b1 <;> by_cases h2 : a2 = b2 <;> simp [h1, h2]
theorem mget_p (a b : Int) (S : List ((Int × Int) × Int)) : mget (.agg [.int .i64 a, .int .i64 b]) (enP S) = (aget (a, b) S).map fun v => .int .i64 v := mget_en (kf := k2) keP (a, b) S
theorem mset_p (a b v : Int) (S : List ((Int × Int) × Int)) : mset (.agg [.int .i64 a, .int .i64 b]) (.int .i64 v) (enP S) = enP (aset (a, b) v S) := mset_en (kf := k2) (vf := fun v : Int => .int .i64 v) keP (a, b) v S
@[go_sem] theorem all_enP {S : List ((Int × Int) × Int)} {X : IV → Prop} : (∀ (a b : IV), (a, b) ∈ enP S → X a) ↔ ∀ p ∈ S, X (.agg [.int .i64 p.1.1, .int .i64 p.1.2]) := by
 simp only [enP, enM, List.mem_map, Prod.mk.injEq, k2]
 constructor
 ·intro h p hp; exact h _ _ ⟨p, hp, rfl, rfl⟩
 ·rintro h a b ⟨p, hp, rfl, rfl⟩; exact h p hp
@[go_sem] theorem bl_p {n : Nat} {S : List ((Int × Int) × Int)} : BlM n (enP S) = True := eq_true (en_bl (fun a => by simp [go_sem, k2]) (fun b => by simp [go_sem]) S)
@[go_sem] theorem enP_nil : enP [] = [] := rfl
section
variable {α : Type} [DecidableEq α]
def getC (S : List (α × Int)) (k : α) : Int := (aget k S).getD 0
@[simp] theorem getC_nil (k : α) : getC ([] : List (α × Int)) k = 0 := rfl
end
end Go.Idl
namespace Go.Idl
open Go.RowKit Go.Proofs
def bys (k : IntKind) (l : List Int) : List (List IV) := mp (fun x => [.int k x]) l
@[simp] theorem bys_length (k : IntKind) (l : List Int) : (bys k l).length = l.length := mp_length
@[simp] theorem bys_getElem (k : IntKind) (l : List Int) (i : Nat) (h : i < (bys k l).length) : (bys k l)[i] = [.int k (l[i]'(by simpa using h))] := by simp [bys, mp]
@[go_sem] theorem bys_nil {k : IntKind} : bys k [] = [] := rfl
@[go_sem] theorem ClR_bys {k : IntKind} {l : List Int} : ClR (bys k l) = True := eq_true (ScR.cl (mp_sc (by simp [scal])))
@[go_sem] theorem BlR_bys {k : IntKind} {n : Nat} {l : List Int} : BlR n (bys k l) = True := eq_true (ScR.bl (mp_sc (by simp [scal])))
theorem fit_bys {k : IntKind} {c : IV} (h : (Shp.fz 1 [.int k]).fit c) : ∃ l : List Int, c = .fz 1 (bys k l) ∧ (∀ x ∈ l, (Lit.int k x).wf = true) ∧ l.length ≤ maxLen :=
 fit_list (f := fun x => [.int k x]) (fun r hr => by
  obtain ⟨a, r1, rfl, ha, h1⟩ := fitL_int hr
  obtain rfl := fitL_nil h1
  exact ⟨a, rfl, ha⟩) h
end Go.Idl
namespace Go.Idl
open Go.Proofs
def nts (l : List Nat) : List (List IV) := mp (fun n : Nat => [.int .i64 (n : Int)]) l
@[simp] theorem nts_length (l : List Nat) : (nts l).length = l.length := mp_length
@[simp] theorem nts_getElem (l : List Nat) (i : Nat) (h : i < (nts l).length) : (nts l)[i] = [.int .i64 ((l[i]'(by simpa using h) : Nat) : Int)] := by simp [nts, mp]
@[go_sem] theorem nts_nil : nts [] = [] := rfl
@[go_sem] theorem ClR_nts {l : List Nat} : ClR (nts l) = True := eq_true (ScR.cl (mp_sc (by simp [scal])))
@[go_sem] theorem BlR_nts {n : Nat} {l : List Nat} : BlR n (nts l) = True := eq_true (ScR.bl (mp_sc (by simp [scal])))
theorem nts_set {l : List Nat} {i x : Nat} : nts (l.set i x) = (nts l).set i [.int .i64 (x : Int)] := mp_set
theorem nts_at {l : List Nat} {i : Nat} (h : i < l.length) : (nts l)[i]?.getD [] = [.int .i64 ((l.getD i 0 : Nat) : Int)] := by
 rw [List.getElem?_eq_getElem (by simpa using h), Option.getD_some, nts_getElem]
 simp [h]
def lx (K1 K2 : Nat → Int) (a b : Nat) : Prop := K1 a < K1 b ∨ K1 a = K1 b ∧ (K2 a < K2 b ∨ K2 a = K2 b ∧ a < b)
theorem lx_trans {K1 K2 : Nat → Int} {a b c : Nat} (h : lx K1 K2 a b) (h' : lx K1 K2 b c) : lx K1 K2 a c := by unfold lx at *; omega
theorem lx_total {K1 K2 : Nat → Int} {a b : Nat} (h : a ≠ b) (h' : ¬ lx K1 K2 a b) : lx K1 K2 b a := by unfold lx at *; omega
theorem lx_irr {K1 K2 : Nat → Int} {a : Nat} : ¬ lx K1 K2 a a := by unfold lx; omega
def swapN (A : List Nat) (k : Nat) : List Nat := (A.set k (A.getD (k - 1) 0)).set (k - 1) (A.getD k 0)
@[simp] theorem swapN_length (A : List Nat) (k : Nat) : (swapN A k).length = A.length := by simp [swapN]
theorem swapN_getD {A : List Nat} {k j : Nat} (h1 : 1 ≤ k) (hk : k < A.length) : (swapN A k).getD j 0 = if j = k - 1 then A.getD k 0 else if j = k then A.getD (k - 1) 0 else A.getD j 0 := by
 unfold swapN
 simp only [List.getD_eq_getElem?_getD, List.getElem?_set, List.length_set]
 by_cases h2 : j = k - 1
 ·rw [if_pos h2.symm, if_pos (by omega), if_pos h2]; rfl
 ·rw [if_neg (fun e => h2 e.symm), if_neg h2]
  by_cases h3 : j = k
  ·rw [if_pos h3.symm, if_pos (by omega), if_pos h3]; rfl
  ·rw [if_neg (fun e => h3 e.symm), if_neg h3]
theorem swapN_perm {A : List Nat} {k : Nat} (h1 : 1 ≤ k) (hk : k < A.length) : (swapN A k).Perm A := by
 have hj : k - 1 < A.length := by omega
 have := List.set_set_perm hk hj
 unfold swapN
 rwa [show A.getD (k - 1) 0 = A[k - 1] by simp [show k - 1 < A.length by omega], show A.getD k 0 = A[k] by simp [hk]]
structure SegS (K1 K2 : Nat → Int) (A0 : List Nat) (lo hi : Nat) (A : List Nat) : Prop where
 len : A.length = A0.length
 perm : A.Perm A0
 out : ∀ x, (x < lo ∨ hi ≤ x) → A.getD x 0 = A0.getD x 0
 frm : ∀ x, lo ≤ x → x < hi → ∃ y, lo ≤ y ∧ y < hi ∧ A.getD x 0 = A0.getD y 0
 srt : ∀ x y, lo ≤ x → x < y → y < hi → lx K1 K2 (A.getD x 0) (A.getD y 0)
def AscN (A : List Nat) (lo hi : Nat) : Prop := ∀ x y, lo ≤ x → x < y → y < hi → A.getD x 0 < A.getD y 0
structure InsN (K1 K2 : Nat → Int) (A0 : List Nat) (lo i k : Nat) (A : List Nat) : Prop where
 len : A.length = A0.length
 perm : A.Perm A0
 out : ∀ x, (x < lo ∨ i < x) → A.getD x 0 = A0.getD x 0
 frm : ∀ x, lo ≤ x → x ≤ i → ∃ y, lo ≤ y ∧ y ≤ i ∧ A.getD x 0 = A0.getD y 0
 srt : ∀ x y, lo ≤ x → x < y → y ≤ i → y ≠ k → lx K1 K2 (A.getD x 0) (A.getD y 0)
 big : ∀ x, lo ≤ x → x ≤ i → x ≠ k → A.getD x 0 < A.getD k 0
variable {K1 K2 : Nat → Int} {A0 A : List Nat} {lo hi i k : Nat}
theorem SegS.one : SegS K1 K2 A0 lo (lo + 1) A0 := ⟨rfl, .refl _, fun _ _ => rfl, fun x h1 h2 => ⟨x, h1, h2, rfl⟩, fun x y h1 h2 h3 => by omega⟩
theorem SegS.ins (h : SegS K1 K2 A0 lo i A) (ha : AscN A0 lo hi) (hli : lo ≤ i) (hi' : i < hi) : InsN K1 K2 A0 lo i i A where
 len := h.len
 perm := h.perm
 out := fun x hx => h.out x (by omega)
 frm := fun x h1 h2 => by
  by_cases hx : x < i
  ·obtain ⟨y, y1, y2, y3⟩ := h.frm x h1 hx
   exact ⟨y, y1, by omega, y3⟩
  ·exact ⟨x, h1, h2, h.out x (by omega)⟩
 srt := fun x y h1 h2 h3 h4 => h.srt x y h1 h2 (by omega)
 big := fun x h1 h2 h3 => by
  obtain ⟨y, y1, y2, y3⟩ := h.frm x h1 (by omega)
  rw [y3, h.out i (by omega)]
  exact ha y i y1 y2 hi'
theorem InsN.step (h : InsN K1 K2 A0 lo i k A) (h1 : lo < k) (hki : k ≤ i) (hi' : i < A.length) (hlt : lx K1 K2 (A.getD k 0) (A.getD (k - 1) 0)) : InsN K1 K2 A0 lo i (k - 1) (swapN A k) where
 len := by rw [swapN_length, h.len]
 perm := (swapN_perm (by omega) (by omega)).trans h.perm
 out := fun x hx => by
  rw [swapN_getD (by omega) (by omega), if_neg (by omega), if_neg (by omega)]
  exact h.out x hx
 frm := fun x x1 x2 => by
  rw [swapN_getD (by omega) (by omega)]
  split
  ·exact h.frm k (by omega) hki
  ·split
   ·exact h.frm (k - 1) (by omega) (by omega)
   ·exact h.frm x x1 x2
 srt := fun x y x1 hxy hyi hyk => by
  rw [swapN_getD (by omega) (by omega), swapN_getD (by omega) (by omega), if_neg hyk]
  by_cases hb : y = k
  ·rw [if_pos hb]
   by_cases ha : x = k - 1
   ·rw [if_pos ha]; exact hlt
   ·rw [if_neg ha, if_neg (by omega)]; exact h.srt x (k - 1) x1 (by omega) (by omega) (by omega)
  ·rw [if_neg hb]
   by_cases ha : x = k - 1
   ·rw [if_pos ha]; exact h.srt k y (by omega) (by omega) hyi hb
   ·rw [if_neg ha]
    by_cases ha2 : x = k
    ·rw [if_pos ha2]; exact h.srt (k - 1) y (by omega) (by omega) hyi hb
    ·rw [if_neg ha2]; exact h.srt x y x1 hxy hyi hb
 big := fun x x1 x2 x3 => by
  rw [swapN_getD (by omega) (by omega), swapN_getD (by omega) (by omega), if_neg x3, if_pos rfl]
  split
  ·exact h.big (k - 1) (by omega) (by omega) (by omega)
  ·exact h.big x x1 x2 (by omega)
theorem InsN.low (h : InsN K1 K2 A0 lo i lo A) : SegS K1 K2 A0 lo (i + 1) A :=
 ⟨h.len, h.perm, fun x hx => h.out x (by omega), fun x h1 h2 => by
  obtain ⟨y, y1, y2, y3⟩ := h.frm x h1 (by omega)
  exact ⟨y, y1, by omega, y3⟩, fun x y h1 h2 h3 => h.srt x y h1 h2 (by omega) (by omega)⟩
theorem InsN.stop (h : InsN K1 K2 A0 lo i k A) (h1 : lo < k) (hki : k ≤ i) (hge : ¬ lx K1 K2 (A.getD k 0) (A.getD (k - 1) 0)) : SegS K1 K2 A0 lo (i + 1) A :=
 ⟨h.len, h.perm, fun x hx => h.out x (by omega), fun x h1 h2 => by
  obtain ⟨y, y1, y2, y3⟩ := h.frm x h1 (by omega)
  exact ⟨y, y1, by omega, y3⟩, fun x y x1 hxy hy => by
  have hb := h.big (k - 1) (by omega) (by omega) (by omega)
  have hg := lx_total (by omega) hge
  by_cases hyk : y = k
  ·subst hyk
   by_cases ha : x = y - 1
   ·subst ha; exact hg
   ·exact lx_trans (h.srt x (y - 1) x1 (by omega) (by omega) (by omega)) hg
  ·exact h.srt x y x1 hxy (by omega) hyk⟩
end Go.Idl
namespace Go.Idl
open Go.Proofs
structure Two (K1 K2 : Nat → Int) (A : List Nat) (a m b : Nat) : Prop where
 s1 : ∀ x y, a ≤ x → x < y → y < m → lx K1 K2 (A.getD x 0) (A.getD y 0)
 s2 : ∀ x y, m ≤ x → x < y → y < b → lx K1 K2 (A.getD x 0) (A.getD y 0)
 lt : ∀ x y, a ≤ x → x < m → m ≤ y → y < b → A.getD x 0 < A.getD y 0
variable {K1 K2 : Nat → Int} {A B C D : List Nat} {a m b : Nat}
theorem Two.none (h : Two K1 K2 A a m b) (hm : m ≤ a ∨ b ≤ m) : SegS K1 K2 A a b A :=
 ⟨rfl, .refl _, fun _ _ => rfl, fun x h1 h2 => ⟨x, h1, h2, rfl⟩, fun x y h1 h2 h3 => by
  rcases hm with hm | hm
  ·exact h.s2 x y (by omega) h2 h3
  ·exact h.s1 x y h1 h2 (by omega)⟩
structure Blk (K1 K2 : Nat → Int) (A : List Nat) (lo hi : Nat) : Prop where
 srt : ∀ x y, lo ≤ x → x < y → y < hi → lx K1 K2 (A.getD x 0) (A.getD y 0)
 own : ∀ x, lo ≤ x → x < hi → lo ≤ A.getD x 0 ∧ A.getD x 0 < hi
theorem Blk.seg (h : SegS K1 K2 A a b B) (ho : ∀ x, a ≤ x → x < b → a ≤ A.getD x 0 ∧ A.getD x 0 < b) : Blk K1 K2 B a b :=
 ⟨h.srt, fun x x1 x2 => by
  obtain ⟨y, y1, y2, e⟩ := h.frm x x1 x2
  rw [e]
  exact ho y y1 y2⟩
theorem Blk.keep (h : Blk K1 K2 A a b) (he : ∀ x, a ≤ x → x < b → B.getD x 0 = A.getD x 0) : Blk K1 K2 B a b :=
 ⟨fun x y x1 hxy hy => by rw [he x x1 (by omega), he y (by omega) hy]; exact h.srt x y x1 hxy hy, fun x x1 x2 => by rw [he x x1 x2]; exact h.own x x1 x2⟩
structure Blks (K1 K2 : Nat → Int) (n s p : Nat) (A : List Nat) : Prop where
 len : A.length = n
 perm : A.Perm (List.range n)
 done : ∀ lo, 2 * s ∣ lo → lo < p → Blk K1 K2 A lo (min (lo + 2 * s) n)
 todo : ∀ lo, s ∣ lo → p ≤ lo → Blk K1 K2 A lo (min (lo + s) n)
theorem dvd_gap {s lo p : Nat} (h : s ∣ lo) (h' : s ∣ p) (hlt : lo < p + s) : lo ≤ p := by
 obtain ⟨k, rfl⟩ := h
 obtain ⟨j, rfl⟩ := h'
 have : s * k < s * (j + 1) := by rw [Nat.mul_succ]; exact hlt
 exact Nat.mul_le_mul_left _ (by have := Nat.lt_of_mul_lt_mul_left this; omega)
theorem Blks.all {n s : Nat} (h : Blks K1 K2 n s 0 A) (hn : n ≤ s) : A.Pairwise (lx K1 K2) := by
 have b := h.todo 0 (Nat.dvd_zero s) (Nat.le_refl _)
 rw [show min (0 + s) n = n by omega] at b
 rw [List.pairwise_iff_getElem]
 intro x y hx hy hxy
 have := b.srt x y (by omega) hxy (by rw [← h.len]; exact hy)
 rwa [show A.getD x 0 = A[x] by simp [hx], show A.getD y 0 = A[y] by simp [hy]] at this
structure Fst (K1 K2 : Nat → Int) (n s p : Nat) (A : List Nat) : Prop where
 len : A.length = n
 perm : A.Perm (List.range n)
 done : ∀ lo, s ∣ lo → lo < p → Blk K1 K2 A lo (min (lo + s) n)
 todo : ∀ x, p ≤ x → x < n → A.getD x 0 = x
theorem Fst.start {n s : Nat} : Fst K1 K2 n s 0 (List.range n) := ⟨by simp, .refl _, fun lo _ h => by omega, fun x _ h => by simp [h]⟩
theorem Fst.asc {n s p q : Nat} (h : Fst K1 K2 n s p A) (hq : q ≤ n) : AscN A p q := fun x y x1 hxy hy => by
 rw [h.todo x x1 (by omega), h.todo y (by omega) (by omega)]; exact hxy
theorem Fst.step {n s p : Nat} (h : Fst K1 K2 n s p A) (hp : s ∣ p) (hS : SegS K1 K2 A p (min (p + s) n) B) : Fst K1 K2 n s (p + s) B := by
 refine ⟨hS.len.trans h.len, hS.perm.trans h.perm, fun lo hd hlt => ?_, fun x x1 x2 => ?_⟩
 ·have hle := dvd_gap hd hp hlt
  by_cases e : lo = p
  ·subst e
   exact .seg hS fun x x1 x2 => by rw [h.todo x x1 (by omega)]; omega
  ·have hg : lo + s ≤ p := Classical.byContradiction fun hh => by
    have := dvd_gap hp hd (by omega)
    omega
   exact (h.done lo hd (by omega)).keep fun x x1 x2 => hS.out x (by omega)
 ·rw [hS.out x (by omega)]; exact h.todo x (by omega) x2
theorem Fst.blks {n s p : Nat} (h : Fst K1 K2 n s p A) (hn : n ≤ p) : Blks K1 K2 n s 0 A := by
 refine ⟨h.len, h.perm, fun lo _ hlt => by omega, fun lo hd _ => ?_⟩
 by_cases e : lo < p
 ·exact h.done lo hd e
 ·exact ⟨fun x y x1 hxy hy => by omega, fun x x1 x2 => by omega⟩
structure Src (P : Nat → Prop) (lo hi i j : Nat) : Prop where
 b : lo ≤ i ∧ i ≤ j ∧ j ≤ hi
 t : ∀ y, lo ≤ y → y < i → P y
 f : ∀ y, j ≤ y → y < hi → ¬ P y
end Go.Idl
namespace Go.Idl
open Go.Proofs
def enI (S : List (Int × Int)) : List (IV × IV) := enM (fun k : Int => .int .i64 k) (fun v : Int => .int .i64 v) S
theorem keI (a b : Int) : keq (.int .i64 a) (.int .i64 b) = decide (a = b) := by
 show (match ceqs [IV.int .i64 a] [IV.int .i64 b] with | some b => b | none => false) = _
 simp [ceqs, ceq]
 rfl
theorem mget_i (s : Int) (S : List (Int × Int)) : mget (.int .i64 s) (enI S) = (aget s S).map fun v => .int .i64 v := mget_en (kf := fun k : Int => .int .i64 k) keI s S
theorem mset_i (s v : Int) (S : List (Int × Int)) : mset (.int .i64 s) (.int .i64 v) (enI S) = enI (aset s v S) := mset_en (kf := fun k : Int => .int .i64 k) (vf := fun v : Int => .int .i64 v) keI s v S
theorem ok_i (S : List (Int × Int)) : ∀ e ∈ enI S, keyOK Tryz.prog 3 [.int .i64] e.1 = true := en_ok (fun a => by simp [go_sem, keyOK]) S
@[go_sem] theorem bl_i {n : Nat} {S : List (Int × Int)} : BlM n (enI S) = True := eq_true (en_bl (fun a => by simp [go_sem]) (fun b => by simp [go_sem]) S)
@[go_sem] theorem enI_nil : enI [] = [] := rfl
end Go.Idl
namespace Go.Idl
open Go.Proofs
theorem IFun.of_calls1 {P : Program} {gl : List (Nat × IV)} {f : FuncId} {k k' : IntKind} {n m : Int} (he : ∀ (args : Array Value) (w : World), (callFunc f args).run P w = .ok (.enter f args) w)
  (h : ∀ w, Calls P f #[.int k n] w fun e w' => e = .returned (.int k' m) ∧ w' = w) : IFun true P gl f [.int k n] (fun v => v = .int k' m) := by
 refine ⟨he, fun μ F w vs hH hv hgl => ?_⟩
 obtain ⟨v, rfl⟩ : ∃ v, vs = [v] := by
  match vs, hv.1 with
  | [v], _ => exact ⟨v, rfl⟩
 have hv0 := hv.2 0 v _ rfl rfl
 cases hv0
 refine (h w).mono ?_
 rintro e w' ⟨rfl, rfl⟩
 exact ⟨_, .int k' m, [], μ, F, rfl, ⟨.int k' m, .int _ _, rfl⟩, .int _ _, hH, Ext.refl _ _ _⟩
theorem len64_fun (x : Nat) (h : x < 2 ^ 63) : FN 75 [.int .u64 (x : Int)] (fun v => v = .int .i64 (Lib.bitLen x)) :=
 IFun.of_calls1 Tryz.call75 fun w => by
  have := Any.bits_Len64 Tryz.lays129 (x : Int) w (by omega) (by omega)
  simp only [Int.toNat_natCast] at this
  exact this
theorem len_fun (x : Nat) (h : x < 2 ^ 63) : FN 50 [.int .u64 (x : Int)] (fun v => v = .int .i64 (Lib.bitLen x)) := by
 refine IFun.of_bodyZ false 3 [] Tryz.func50 rfl Tryz.call50 rfl fun R hR => ?_
 have cl := len64_fun x h
 simp [go_sem]
 refine cl.callF (by simp [go_sem]) ?_
 rintro _ rfl
 simp [go_sem]
 exact hR _ _ _ rfl (by simp [go_sem])
end Go.Idl
namespace Go.Idl
open Go.Proofs
end Go.Idl
