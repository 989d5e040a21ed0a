import Derived.Test.YtamffdgopknkfaaGreatDoorC39zPartI
import Derived.Test.YtamffdgopknkfaaGreatDoorC39zPartH
set_option linter.all false
set_option maxHeartbeats 8000000
set_option maxRecDepth 40000
namespace Go.Idl
open Go.Proofs
def fnd (l : List Em) (n : Int) (x : Int × Int) : Option Int := (l.find? (isM n x)).map (·.m)
def rdF (l : List Em) (n : Int) (d : List (Int × Int)) (y : Int) : Er := ⟨d, y, d.map fun x => (x, (fnd l n x).getD 0)⟩
def rst (p : Pl) (l : List Em) (rd : Int) : Nat → Nat → List Er → List Er × List (Int × Int) × Int × Bool
 | 0, _, bf => (bf, [], 0, false)
 | k + 1, n, bf =>
  if (drawR (ordT p bf) (metT bf) (byeT bf)).2.2 ≠ 0 then (bf, [], 0, false) else
  if (n : Int) = rd then (bf, (drawR (ordT p bf) (metT bf) (byeT bf)).1, (drawR (ordT p bf) (metT bf) (byeT bf)).2.1, true) else
  if ((drawR (ordT p bf) (metT bf) (byeT bf)).1.all fun x => (fnd l n x).isSome) = true then
   rst p l rd k (n + 1) (bf ++ [rdF l n (drawR (ordT p bf) (metT bf) (byeT bf)).1 (drawR (ordT p bf) (metT bf) (byeT bf)).2.1]) else (bf, [], 0, false)
structure EqvR (p : Pl) (a b : List Er) : Prop where
 tab : tabU p a = tabU p b
 met : metT a = metT b
 bye : byeT a = byeT b
theorem EqvR.refl (p : Pl) (a : List Er) : EqvR p a a := ⟨rfl, rfl, rfl⟩
theorem EqvR.lines {p : Pl} {a b : List Er} (h : EqvR p a b) : tabL9 p a = tabL9 p b := by unfold tabL9; rw [h.tab]
theorem EqvR.ord {p : Pl} {a b : List Er} (h : EqvR p a b) : ordT p a = ordT p b := by unfold ordT; rw [h.lines]
theorem EqvR.draw {p : Pl} {a b : List Er} (h : EqvR p a b) : drawR (ordT p a) (metT a) (byeT a) = drawR (ordT p b) (metT b) (byeT b) := by rw [h.ord, h.met, h.bye]
theorem tabU_snoc (p : Pl) (a : List Er) (r : Er) : tabU p (a ++ [r]) = addR p (tabU p a) r := by simp [tabU]
theorem metT_snoc (a : List Er) (r : Er) : metT (a ++ [r]) = metT a ++ r.draw := by simp [metT]
theorem byeT_snoc (a : List Er) (r : Er) : byeT (a ++ [r]) = byeT a ++ if 0 < r.bye then [r.bye] else [] := by simp [byeT]
theorem EqvR.snoc {p : Pl} {a b : List Er} {r r' : Er} (h : EqvR p a b) (h1 : r.draw = r'.draw) (h2 : r.bye = r'.bye) (h3 : r.mg.Perm r'.mg) : EqvR p (a ++ [r]) (b ++ [r']) := by
 refine ⟨?_, ?_, ?_⟩
 ·rw [tabU_snoc, tabU_snoc, h.tab]
  unfold addR
  rw [h2, addE_perm p.s h3]
 ·rw [metT_snoc, metT_snoc, h.met, h1]
 ·rw [byeT_snoc, byeT_snoc, h.bye, h2]
theorem perm_of_sub {α : Type} [DecidableEq α] : ∀ {A B : List α}, A.Nodup → (∀ x ∈ A, x ∈ B) → A.length = B.length → A.Perm B
 | [], B, _, _, h => by rw [List.eq_nil_of_length_eq_zero h.symm]
 | a :: A, B, hn, hs, h => by
  rw [List.nodup_cons] at hn
  have ha := hs a (List.mem_cons_self ..)
  have hp := List.perm_cons_erase ha
  have hl := hp.length_eq
  refine ((perm_of_sub hn.2 (fun x hx => ?_) (by simp at h hl; omega)).cons a).trans hp.symm
  refine (List.mem_erase_of_ne ?_).2 (hs x (List.mem_cons_of_mem _ hx))
  rintro rfl; exact hn.1 hx
theorem nodup_len {α : Type} [DecidableEq α] : ∀ {A B : List α}, A.Nodup → (∀ x ∈ A, x ∈ B) → A.length ≤ B.length
 | [], B, _, _ => by simp
 | a :: A, B, hn, hs => by
  rw [List.nodup_cons] at hn
  have ha := hs a (List.mem_cons_self ..)
  have hl := (List.perm_cons_erase ha).length_eq
  have := nodup_len (A := A) (B := B.erase a) hn.2 fun x hx => (List.mem_erase_of_ne (by rintro rfl; exact hn.1 hx)).2 (hs x (List.mem_cons_of_mem _ hx))
  simp at hl ⊢; omega
theorem mgs_full {l ea : List Em} {n : Int} {d : List (Int × Int)} (hd : d.Nodup) (hH : ∀ x, (l.find? (isMm n x)).map (·.m) = fnd ea n x) :
  ((mgs l n d).length = d.length ↔ (d.all fun x => (fnd ea n x).isSome) = true) ∧ ((mgs l n d).length = d.length → (mgs l n d).Perm (d.map fun x => (x, (fnd ea n x).getD 0))) := by
 have hg : ∀ x, x ∈ d → aget x (mgs l n d) = fnd ea n x := fun x hx => by rw [mgs_get, if_pos hx, hH]
 have hn := mgs_nodup l n d
 have hs : ∀ k ∈ (mgs l n d).map (·.1), k ∈ d := fun k hk => mgs_keys hk
 have hkey : ∀ x, (aget x (mgs l n d)).isSome = true ↔ x ∈ (mgs l n d).map (·.1) := fun x => by
  have := aget_none (a := x) (S := mgs l n d)
  cases h : (aget x (mgs l n d)).isSome with
  | true =>
   rw [h] at this
   simp only [true_iff]
   apply Decidable.byContradiction
   intro hc
   have := this.2 hc
   cases this
  | false =>
   rw [h] at this
   simp only [Bool.false_eq_true, false_iff]
   exact this.1 rfl
 have hlen : ((mgs l n d).map (·.1)).length = (mgs l n d).length := List.length_map ..
 have hperm : (mgs l n d).length = d.length → ((mgs l n d).map (·.1)).Perm d := fun h => perm_of_sub hn hs (by rw [hlen, h])
 refine ⟨⟨fun h => ?_, fun h => ?_⟩, fun h => ?_⟩
 ·rw [List.all_eq_true]
  intro x hx
  rw [← hg x hx, hkey]
  exact (hperm h).mem_iff.2 hx
 ·rw [List.all_eq_true] at h
  have h1 := nodup_len hn hs
  have h2 := nodup_len (A := d) (B := (mgs l n d).map (·.1)) hd fun x hx => by rw [← hkey, hg x hx]; exact h x hx
  omega
 ·have e : mgs l n d = ((mgs l n d).map (·.1)).map fun x => (x, (fnd ea n x).getD 0) := by
   rw [List.map_map]
   conv => lhs; rw [← List.map_id (mgs l n d)]
   apply List.map_congr_left
   rintro ⟨k, v⟩ hm
   have h1 := mem_aget hn hm
   have h2 := hg k (hs k (List.mem_map_of_mem (f := Prod.fst) hm))
   rw [h1] at h2
   simp only [id, Function.comp, ← h2, Option.getD_some]
  rw [e]
  exact (hperm h).map _
theorem over_iff9 {r : Er} : r.over = true ↔ r.mg.length = r.draw.length := by simp [Er.over]
theorem draw_nodup9 {p : Pl} {bf : List Er} (h : (drawR (ordT p bf) (metT bf) (byeT bf)).2.2 = 0) : (drawR (ordT p bf) (metT bf) (byeT bf)).1.Nodup :=
 (endsP_nodup ((drawR_ok (ordT_nodup p bf) h).nodup (ordT_nodup p bf))).1
theorem reach_rst {p : Pl} {l ea : List Em} {rd : Int} : ∀ (k n : Nat) (bf bf' : List Er), EqvR p bf bf' → (n : Int) ≤ rd → (∀ j : Nat, n ≤ j → (j : Int) < rd → ∀ x, (l.find? (isMm j x)).map (·.m) = fnd ea j x) →
  ((rst p ea rd k n bf').2.2.2 = true ↔ (rd - n).toNat < (reach p l k n bf).length) ∧
  ((rst p ea rd k n bf').2.2.2 = true → ∃ r, (reach p l k n bf)[(rd - n).toNat]? = some r ∧ (rst p ea rd k n bf').2.1 = r.draw ∧ (rst p ea rd k n bf').2.2.1 = r.bye)
 | 0, n, bf, bf', _, _, _ => by simp [rst, reach]
 | k + 1, n, bf, bf', hE, hn, hH => by
  unfold rst reach
  simp only
  rw [← hE.draw]
  by_cases he : (drawR (ordT p bf) (metT bf) (byeT bf)).2.2 ≠ 0
  ·rw [if_pos he, if_pos he]; simp
  rw [if_neg he, if_neg he]
  have hd := draw_nodup9 (by simpa using he)
  generalize drawR (ordT p bf) (metT bf) (byeT bf) = q at *
  obtain ⟨d, y, e⟩ := q
  simp only at *
  by_cases hr : (n : Int) = rd
  ·rw [if_pos hr, hr]
   simp only [Int.sub_self, Int.toNat_zero, true_iff]
   split
   ·exact ⟨by simp, fun _ => ⟨_, rfl, rfl, rfl⟩⟩
   ·exact ⟨by simp, fun _ => ⟨_, rfl, rfl, rfl⟩⟩
  ·rw [if_neg hr]
   obtain ⟨h1, h2⟩ := mgs_full (l := l) (ea := ea) (n := n) hd (hH n (Nat.le_refl _) (by omega))
   by_cases ho : (mgs l n d).length = d.length
   ·have ho' : (Er.mk d y (mgs l n d)).over = true := over_iff9.2 ho
    rw [if_pos ho', if_pos (h1.1 ho)]
    obtain ⟨k1, k2⟩ := reach_rst (p := p) (l := l) (ea := ea) (rd := rd) k (n + 1) (bf ++ [⟨d, y, mgs l n d⟩]) (bf' ++ [rdF ea n d y]) (hE.snoc rfl rfl (h2 ho)) (by omega) fun j hj => hH j (by omega)
    have e1 : (rd - (n : Int)).toNat = (rd - ((n + 1 : Nat) : Int)).toNat + 1 := by omega
    rw [e1]
    refine ⟨by rw [k1]; simp, fun h => ?_⟩
    obtain ⟨r, r1, r2⟩ := k2 h
    exact ⟨r, by simpa using r1, r2⟩
   ·have ho' : ¬ (Er.mk d y (mgs l n d)).over = true := fun h => ho (over_iff9.1 h)
    rw [if_neg ho', if_neg (fun h => ho (h1.2 h))]
    have e1 : 1 ≤ (rd - (n : Int)).toNat := by omega
    simp
    omega
theorem ovrd_cons {r : Er} {L : List Er} (h : r.over = true) : ovrd (r :: L) = r :: ovrd L := by simp [ovrd, h]
theorem reach_tab {p : Pl} {l ea : List Em} {rd : Int} : ∀ (k n : Nat) (bf bf' : List Er), EqvR p bf bf' → ((n + k : Nat) : Int) ≤ rd → (∀ j : Nat, n ≤ j → j < n + k → ∀ x, (l.find? (isMm j x)).map (·.m) = fnd ea j x) →
  EqvR p (bf ++ ovrd (reach p l k n bf)) (rst p ea rd k n bf').1
 | 0, n, bf, bf', hE, _, _ => by simpa [rst, reach, ovrd] using hE
 | k + 1, n, bf, bf', hE, hn, hH => by
  unfold rst reach
  simp only
  rw [← hE.draw]
  by_cases he : (drawR (ordT p bf) (metT bf) (byeT bf)).2.2 ≠ 0
  ·rw [if_pos he, if_pos he]; simpa [ovrd] using hE
  rw [if_neg he, if_neg he]
  have hd := draw_nodup9 (by simpa using he)
  generalize drawR (ordT p bf) (metT bf) (byeT bf) = q at *
  obtain ⟨d, y, e⟩ := q
  simp only at *
  have hnr : ¬ (n : Int) = rd := by omega
  rw [if_neg hnr]
  obtain ⟨h1, h2⟩ := mgs_full (l := l) (ea := ea) (n := n) hd (hH n (Nat.le_refl _) (by omega))
  by_cases ho : (mgs l n d).length = d.length
  ·have ho' : (Er.mk d y (mgs l n d)).over = true := over_iff9.2 ho
   rw [if_pos ho', if_pos (h1.1 ho), ovrd_cons ho']
   have := reach_tab (p := p) (l := l) (ea := ea) (rd := rd) k (n + 1) (bf ++ [⟨d, y, mgs l n d⟩]) (bf' ++ [rdF ea n d y]) (hE.snoc rfl rfl (h2 ho)) (by omega) fun j h3 h4 => hH j (by omega) (by omega)
   simpa using this
  ·have ho' : (Er.mk d y (mgs l n d)).over = false := by rw [← Bool.not_eq_true]; exact fun h => ho (over_iff9.1 h)
   rw [if_neg (by simp [ho']), if_neg (fun h => ho (h1.2 h))]
   simpa [ovrd, ho'] using hE
end Go.Idl
namespace Go.Idl
open Go.Proofs
def nts (l : List Nat) : List (List IV) := mp (fun n : Nat => [.int .i64 (n : Int)]) l
@[simp] theorem nts_length (l : List Nat) : (nts l).length = l.length := mp_length
@[simp] theorem nts_getElem (l : List Nat) (i : Nat) (h : i < (nts l).length) : (nts l)[i] = [.int .i64 ((l[i]'(by simpa using h) : Nat) : Int)] := by simp [nts, mp]
@[go_sem] theorem nts_nil : nts [] = [] := rfl
@[go_sem] theorem ClR_nts {l : List Nat} : ClR (nts l) = True := eq_true (ScR.cl (mp_sc (by simp [scal])))
@[go_sem] theorem BlR_nts {n : Nat} {l : List Nat} : BlR n (nts l) = True := eq_true (ScR.bl (mp_sc (by simp [scal])))
theorem nts_set {l : List Nat} {i x : Nat} : nts (l.set i x) = (nts l).set i [.int .i64 (x : Int)] := mp_set
theorem nts_at {l : List Nat} {i : Nat} (h : i < l.length) : (nts l)[i]?.getD [] = [.int .i64 ((l.getD i 0 : Nat) : Int)] := by
 rw [List.getElem?_eq_getElem (by simpa using h), Option.getD_some, nts_getElem]
 simp [h]
def lx (K1 K2 : Nat → Int) (a b : Nat) : Prop := K1 a < K1 b ∨ K1 a = K1 b ∧ (K2 a < K2 b ∨ K2 a = K2 b ∧ a < b)
theorem lx_trans {K1 K2 : Nat → Int} {a b c : Nat} (h : lx K1 K2 a b) (h' : lx K1 K2 b c) : lx K1 K2 a c := by unfold lx at *; omega
theorem lx_total {K1 K2 : Nat → Int} {a b : Nat} (h : a ≠ b) (h' : ¬ lx K1 K2 a b) : lx K1 K2 b a := by unfold lx at *; omega
theorem lx_irr {K1 K2 : Nat → Int} {a : Nat} : ¬ lx K1 K2 a a := by unfold lx; omega
def swapN (A : List Nat) (k : Nat) : List Nat := (A.set k (A.getD (k - 1) 0)).set (k - 1) (A.getD k 0)
@[simp] theorem swapN_length (A : List Nat) (k : Nat) : (swapN A k).length = A.length := by simp [swapN]
theorem swapN_getD {A : List Nat} {k j : Nat} (h1 : 1 ≤ k) (hk : k < A.length) : (swapN A k).getD j 0 = if j = k - 1 then A.getD k 0 else if j = k then A.getD (k - 1) 0 else A.getD j 0 := by
 unfold swapN
 simp only [List.getD_eq_getElem?_getD, List.getElem?_set, List.length_set]
 by_cases h2 : j = k - 1
 ·rw [if_pos h2.symm, if_pos (by omega), if_pos h2]; rfl
 ·rw [if_neg (fun e => h2 e.symm), if_neg h2]
  by_cases h3 : j = k
  ·rw [if_pos h3.symm, if_pos (by omega), if_pos h3]; rfl
  ·rw [if_neg (fun e => h3 e.symm), if_neg h3]
theorem swapN_perm {A : List Nat} {k : Nat} (h1 : 1 ≤ k) (hk : k < A.length) : (swapN A k).Perm A := by
 have hj : k - 1 < A.length := by omega
 have := List.set_set_perm hk hj
 unfold swapN
 rwa [show A.getD (k - 1) 0 = A[k - 1] by simp [show k - 1 < A.length by omega], show A.getD k 0 = A[k] by simp [hk]]
structure SegS (K1 K2 : Nat → Int) (A0 : List Nat) (lo hi : Nat) (A : List Nat) : Prop where
 len : A.length = A0.length
 perm : A.Perm A0
 out : ∀ x, (x < lo ∨ hi ≤ x) → A.getD x 0 = A0.getD x 0
 frm : ∀ x, lo ≤ x → x < hi → ∃ y, lo ≤ y ∧ y < hi ∧ A.getD x 0 = A0.getD y 0
 srt : ∀ x y, lo ≤ x → x < y → y < hi → lx K1 K2 (A.getD x 0) (A.getD y 0)
def AscN (A : List Nat) (lo hi : Nat) : Prop := ∀ x y, lo ≤ x → x < y → y < hi → A.getD x 0 < A.getD y 0
structure InsN (K1 K2 : Nat → Int) (A0 : List Nat) (lo i k : Nat) (A : List Nat) : Prop where
 len : A.length = A0.length
 perm : A.Perm A0
 out : ∀ x, (x < lo ∨ i < x) → A.getD x 0 = A0.getD x 0
 frm : ∀ x, lo ≤ x → x ≤ i → ∃ y, lo ≤ y ∧ y ≤ i ∧ A.getD x 0 = A0.getD y 0
 srt : ∀ x y, lo ≤ x → x < y → y ≤ i → y ≠ k → lx K1 K2 (A.getD x 0) (A.getD y 0)
 big : ∀ x, lo ≤ x → x ≤ i → x ≠ k → A.getD x 0 < A.getD k 0
variable {K1 K2 : Nat → Int} {A0 A : List Nat} {lo hi i k : Nat}
theorem SegS.one : SegS K1 K2 A0 lo (lo + 1) A0 := ⟨rfl, .refl _, fun _ _ => rfl, fun x h1 h2 => ⟨x, h1, h2, rfl⟩, fun x y h1 h2 h3 => by omega⟩
theorem SegS.ins (h : SegS K1 K2 A0 lo i A) (ha : AscN A0 lo hi) (hli : lo ≤ i) (hi' : i < hi) : InsN K1 K2 A0 lo i i A where
 len := h.len
 perm := h.perm
 out := fun x hx => h.out x (by omega)
 frm := fun x h1 h2 => by
  by_cases hx : x < i
  ·obtain ⟨y, y1, y2, y3⟩ := h.frm x h1 hx
   exact ⟨y, y1, by omega, y3⟩
  ·exact ⟨x, h1, h2, h.out x (by omega)⟩
 srt := fun x y h1 h2 h3 h4 => h.srt x y h1 h2 (by omega)
 big := fun x h1 h2 h3 => by
  obtain ⟨y, y1, y2, y3⟩ := h.frm x h1 (by omega)
  rw [y3, h.out i (by omega)]
  exact ha y i y1 y2 hi'
theorem InsN.step (h : InsN K1 K2 A0 lo i k A) (h1 : lo < k) (hki : k ≤ i) (hi' : i < A.length) (hlt : lx K1 K2 (A.getD k 0) (A.getD (k - 1) 0)) : InsN K1 K2 A0 lo i (k - 1) (swapN A k) where
 len := by rw [swapN_length, h.len]
 perm := (swapN_perm (by omega) (by omega)).trans h.perm
 out := fun x hx => by
  rw [swapN_getD (by omega) (by omega), if_neg (by omega), if_neg (by omega)]
  exact h.out x hx
 frm := fun x x1 x2 => by
  rw [swapN_getD (by omega) (by omega)]
  split
  ·exact h.frm k (by omega) hki
  ·split
   ·exact h.frm (k - 1) (by omega) (by omega)
   ·exact h.frm x x1 x2
 srt := fun x y x1 hxy hyi hyk => by
  rw [swapN_getD (by omega) (by omega), swapN_getD (by omega) (by omega), if_neg hyk]
  by_cases hb : y = k
  ·rw [if_pos hb]
   by_cases ha : x = k - 1
   ·rw [if_pos ha]; exact hlt
   ·rw [if_neg ha, if_neg (by omega)]; exact h.srt x (k - 1) x1 (by omega) (by omega) (by omega)
  ·rw [if_neg hb]
   by_cases ha : x = k - 1
   ·rw [if_pos ha]; exact h.srt k y (by omega) (by omega) hyi hb
   ·rw [if_neg ha]
    by_cases ha2 : x = k
    ·rw [if_pos ha2]; exact h.srt (k - 1) y (by omega) (by omega) hyi hb
    ·rw [if_neg ha2]; exact h.srt x y x1 hxy hyi hb
 big := fun x x1 x2 x3 => by
  rw [swapN_getD (by omega) (by omega), swapN_getD (by omega) (by omega), if_neg x3, if_pos rfl]
  split
  ·exact h.big (k - 1) (by omega) (by omega) (by omega)
  ·exact h.big x x1 x2 (by omega)
theorem InsN.low (h : InsN K1 K2 A0 lo i lo A) : SegS K1 K2 A0 lo (i + 1) A :=
 ⟨h.len, h.perm, fun x hx => h.out x (by omega), fun x h1 h2 => by
  obtain ⟨y, y1, y2, y3⟩ := h.frm x h1 (by omega)
  exact ⟨y, y1, by omega, y3⟩, fun x y h1 h2 h3 => h.srt x y h1 h2 (by omega) (by omega)⟩
theorem InsN.stop (h : InsN K1 K2 A0 lo i k A) (h1 : lo < k) (hki : k ≤ i) (hge : ¬ lx K1 K2 (A.getD k 0) (A.getD (k - 1) 0)) : SegS K1 K2 A0 lo (i + 1) A :=
 ⟨h.len, h.perm, fun x hx => h.out x (by omega), fun x h1 h2 => by
  obtain ⟨y, y1, y2, y3⟩ := h.frm x h1 (by omega)
  exact ⟨y, y1, by omega, y3⟩, fun x y x1 hxy hy => by
  have hb := h.big (k - 1) (by omega) (by omega) (by omega)
  have hg := lx_total (by omega) hge
  by_cases hyk : y = k
  ·subst hyk
   by_cases ha : x = y - 1
   ·subst ha; exact hg
   ·exact lx_trans (h.srt x (y - 1) x1 (by omega) (by omega) (by omega)) hg
  ·exact h.srt x y x1 hxy (by omega) hyk⟩
end Go.Idl
namespace Go.Idl
open Go.Proofs
def Em0 : Em := ⟨0, 0, 0, 0⟩
def Er0 : Er := ⟨[], 0, []⟩
def badM (p : Pl) (m : Em) : Prop := m.r < 0 ∨ p.r ≤ m.r ∨ mrB m.m = false
instance (p : Pl) (m : Em) : Decidable (badM p m) := by unfold badM; infer_instance
def chkP (p : Pl) (l : List Em) (all : List Er) : List Nat → List (Int × Int × Int) → Int × Int
 | [], _ => (-1, 0)
 | i :: A, se =>
  if badM p (l.getD i Em0) then ((i : Int), 390)
  else if (all.length : Int) ≤ (l.getD i Em0).r then ((i : Int), 392)
  else if ((l.getD i Em0).a, (l.getD i Em0).b) ∉ (all.getD (l.getD i Em0).r.toNat Er0).draw then ((i : Int), 390)
  else if ((l.getD i Em0).r, (l.getD i Em0).a, (l.getD i Em0).b) ∈ se then ((i : Int), 391)
  else chkP p l all A (se ++ [((l.getD i Em0).r, (l.getD i Em0).a, (l.getD i Em0).b)])
def chkF (p : Pl) (l : List Em) : List Nat → List Em → Int × Int
 | [], _ => (-1, 0)
 | i :: A, ea =>
  if badM p (l.getD i Em0) then ((i : Int), 390)
  else if (rst p ea (l.getD i Em0).r p.r.toNat 0 []).2.2.2 = false then ((i : Int), 392)
  else if ((l.getD i Em0).a, (l.getD i Em0).b) ∉ (rst p ea (l.getD i Em0).r p.r.toNat 0 []).2.1 then ((i : Int), 390)
  else if (fnd ea (l.getD i Em0).r ((l.getD i Em0).a, (l.getD i Em0).b)).isSome = true then ((i : Int), 391)
  else chkF p l A (ea ++ [l.getD i Em0])
def OrdM (l : List Em) (A : List Nat) : Prop := A.Perm (List.range l.length) ∧ A.Pairwise fun a b => (l.getD a Em0).r < (l.getD b Em0).r ∨ (l.getD a Em0).r = (l.getD b Em0).r ∧ a < b
def key3 (m : Em) : Int × Int × Int := (m.r, m.a, m.b)
theorem isM_iff {n : Int} {x : Int × Int} {e : Em} : isM n x e = true ↔ key3 e = (n, x.1, x.2) := by
 obtain ⟨a, b⟩ := x
 simp [isM, key3]
theorem find_eq {l ea : List Em} {n : Int} {x : Int × Int} (h1 : ∀ e, e.r = n → (e ∈ l ↔ e ∈ ea)) (hu : ∀ e ∈ ea, ∀ e' ∈ ea, key3 e = key3 e' → e = e') (hv : ∀ e ∈ ea, mrB e.m = true) :
  (l.find? (isMm n x)).map (·.m) = fnd ea n x := by
 unfold fnd
 cases hf : ea.find? (isM n x) with
 | none =>
  have : l.find? (isMm n x) = none := by
   rw [List.find?_eq_none] at hf ⊢
   intro e he hm
   simp only [isMm, Bool.and_eq_true] at hm
   have hk := isM_iff.1 hm.1
   have hr : e.r = n := congrArg Prod.fst hk
   exact hf e ((h1 e hr).1 he) hm.1
  rw [this]
 | some e =>
  have hm := List.find?_some hf
  have hea := List.mem_of_find?_eq_some hf
  have hk := isM_iff.1 hm
  have hr : e.r = n := congrArg Prod.fst hk
  have hel := (h1 e hr).2 hea
  cases hg : l.find? (isMm n x) with
  | none =>
   exfalso
   rw [List.find?_eq_none] at hg
   exact hg e hel (by simp [isMm, hm, hv e hea])
  | some e2 =>
   have hm2 := List.find?_some hg
   have hl2 := List.mem_of_find?_eq_some hg
   simp only [isMm, Bool.and_eq_true] at hm2
   have hk2 := isM_iff.1 hm2.1
   have hr2 : e2.r = n := congrArg Prod.fst hk2
   have := hu e hea e2 ((h1 e2 hr2).1 hl2) (hk.trans hk2.symm)
   rw [this]
theorem getD_mem9 {l : List Em} {i : Nat} (h : i < l.length) : l.getD i Em0 ∈ l := by simp [h]
structure GoodM (p : Pl) (ea : List Em) : Prop where
 ok : ∀ e ∈ ea, ¬ badM p e
 uq : ∀ e ∈ ea, ∀ e' ∈ ea, key3 e = key3 e' → e = e'
theorem GoodM.mr {p : Pl} {ea : List Em} (h : GoodM p ea) : ∀ e ∈ ea, mrB e.m = true := fun e he => by
 have := h.ok e he
 unfold badM at this
 cases hb : mrB e.m with
 | true => rfl
 | false => exact absurd (.inr (.inr hb)) this
theorem GoodM.snoc {p : Pl} {ea : List Em} (h : GoodM p ea) {m : Em} (hm : ¬ badM p m) (hn : ∀ e ∈ ea, key3 e ≠ key3 m) : GoodM p (ea ++ [m]) := by
 refine ⟨fun e he => ?_, fun e he e' he' hk => ?_⟩
 ·rcases List.mem_append.1 he with he | he
  ·exact h.ok e he
  ·rw [List.mem_singleton.1 he]; exact hm
 ·rcases List.mem_append.1 he with he | he <;> rcases List.mem_append.1 he' with he' | he'
  ·exact h.uq e he e' he' hk
  ·rw [List.mem_singleton.1 he'] at hk; exact absurd hk (hn e he)
  ·rw [List.mem_singleton.1 he] at hk; exact absurd hk.symm (hn e' he')
  ·rw [List.mem_singleton.1 he, List.mem_singleton.1 he']
theorem fnd_iff {ea : List Em} {n : Int} {x : Int × Int} : (fnd ea n x).isSome = true ↔ ∃ e ∈ ea, key3 e = (n, x.1, x.2) := by
 unfold fnd
 rw [Option.isSome_map]
 constructor
 ·intro h
  obtain ⟨e, he⟩ := Option.isSome_iff_exists.1 h
  exact ⟨e, List.mem_of_find?_eq_some he, isM_iff.1 (List.find?_some he)⟩
 ·rintro ⟨e, he, hk⟩
  cases hf : ea.find? (isM n x) with
  | some _ => rfl
  | none => rw [List.find?_eq_none] at hf; exact absurd (isM_iff.2 hk) (hf e he)
theorem seen_find {p : Pl} {l : List Em} {B A : List Nat} {i : Nat} (hO : OrdM l (B ++ i :: A)) (hG : GoodM p (B.map fun i => l.getD i Em0)) {j : Int} (hj : j < (l.getD i Em0).r) (x : Int × Int) :
  (l.find? (isMm j x)).map (·.m) = fnd (B.map fun i => l.getD i Em0) j x := by
 refine find_eq (fun e he => ?_) hG.uq hG.mr
 constructor
 ·intro hl
  obtain ⟨q, hq, rfl⟩ := List.mem_iff_getElem.1 hl
  have hmem : q ∈ B ++ i :: A := hO.1.mem_iff.2 (by simpa using hq)
  have hgq : l.getD q Em0 = l[q] := by simp [hq]
  have hrel : ∀ a ∈ i :: A, (l.getD i Em0).r ≤ (l.getD a Em0).r := fun a ha => by
   rcases List.mem_cons.1 ha with rfl | ha
   ·exact Int.le_refl _
   ·have := (List.pairwise_append.1 hO.2).2.1
    rw [List.pairwise_cons] at this
    rcases this.1 a ha with h | h <;> omega
  rcases List.mem_append.1 hmem with hm | hm
  ·exact List.mem_map.2 ⟨q, hm, hgq⟩
  ·have := hrel q hm
   rw [hgq, he] at this
   omega
 ·intro hm
  obtain ⟨q, hq, rfl⟩ := List.mem_map.1 hm
  have : q < l.length := by simpa using hO.1.mem_iff.1 (List.mem_append_left _ hq)
  exact getD_mem9 this
theorem chk_step {p : Pl} {l : List Em} : ∀ (A B : List Nat), OrdM l (B ++ A) → GoodM p (B.map fun i => l.getD i Em0) →
  chkP p l (rchd p l) A (B.map fun i => key3 (l.getD i Em0)) = chkF p l A (B.map fun i => l.getD i Em0)
 | [], B, _, _ => rfl
 | i :: A, B, hO, hG => by
  unfold chkP chkF
  by_cases hb : badM p (l.getD i Em0)
  ·rw [if_pos hb, if_pos hb]
  rw [if_neg hb, if_neg hb]
  have hb' := hb
  unfold badM at hb'
  have hr0 : 0 ≤ (l.getD i Em0).r := by omega
  obtain ⟨h1, h2⟩ := reach_rst (p := p) (l := l) (ea := B.map fun i => l.getD i Em0) (rd := (l.getD i Em0).r) p.r.toNat 0 [] [] (EqvR.refl _ _) (by simpa using hr0) fun j _ hj x => seen_find hO hG hj x
  rw [show ((l.getD i Em0).r - ((0 : Nat) : Int)).toNat = (l.getD i Em0).r.toNat by simp] at h1 h2
  have hrec := fun hs : ∀ e ∈ B.map (fun i => l.getD i Em0), key3 e ≠ key3 (l.getD i Em0) => chk_step (p := p) (l := l) A (B ++ [i]) (by simpa using hO) (by
    rw [List.map_append]
    exact hG.snoc hb hs)
  rw [List.map_append, List.map_append] at hrec
  simp only [List.map_cons, List.map_nil] at hrec
  generalize l.getD i Em0 = m at *
  have hres : ∀ (c1 c2 : Prop) [Decidable c1] [Decidable c2] (x y z w : Int × Int), (c1 ↔ c2) → x = z → y = w → (if c1 then x else y) = if c2 then z else w := fun c1 c2 _ _ x y z w h h1 h2 => by simp only [h, h1, h2]
  by_cases hok : (rst p (B.map fun i => l.getD i Em0) m.r p.r.toNat 0 []).2.2.2 = true
  ·have hlt : m.r.toNat < (rchd p l).length := h1.1 hok
   have n1 : ¬ ((rchd p l).length : Int) ≤ m.r := by omega
   have n2 : ¬ (rst p (B.map fun i => l.getD i Em0) m.r p.r.toNat 0 []).2.2.2 = false := by rw [hok]; simp
   rw [if_neg n1, if_neg n2]
   obtain ⟨r, r1, r2, r3⟩ := h2 hok
   have hget : (rchd p l).getD m.r.toNat Er0 = r := by
    have : (rchd p l)[m.r.toNat]? = some r := r1
    rw [List.getD_eq_getElem?_getD, this]; rfl
   rw [hget, r2]
   refine hres _ _ _ _ _ _ Iff.rfl rfl ?_
   have hseen : ((m.r, m.a, m.b) ∈ B.map fun i => key3 (l.getD i Em0)) ↔ (fnd (B.map fun i => l.getD i Em0) m.r (m.a, m.b)).isSome = true := by
    rw [fnd_iff]
    simp only [List.mem_map]
    constructor
    ·rintro ⟨q, hq, e⟩; exact ⟨_, ⟨q, hq, rfl⟩, e⟩
    ·rintro ⟨_, ⟨q, hq, rfl⟩, e⟩; exact ⟨q, hq, e⟩
   by_cases hs : (m.r, m.a, m.b) ∈ B.map fun i => key3 (l.getD i Em0)
   ·rw [if_pos hs, if_pos (hseen.1 hs)]
   rw [if_neg hs, if_neg fun h => hs (hseen.2 h)]
   exact hrec fun e he hk => hs (by
    obtain ⟨q, hq, rfl⟩ := List.mem_map.1 he
    exact List.mem_map.2 ⟨q, hq, hk⟩)
  ·have hlt : ¬ m.r.toNat < (rchd p l).length := fun h => hok (h1.2 h)
   have n1 : ((rchd p l).length : Int) ≤ m.r := by omega
   have n2 : (rst p (B.map fun i => l.getD i Em0) m.r p.r.toNat 0 []).2.2.2 = false := by simpa using hok
   rw [if_pos n1, if_pos n2]
theorem chk_eq {p : Pl} {l : List Em} {A : List Nat} (hO : OrdM l A) : chkP p l (rchd p l) A [] = chkF p l A [] := chk_step A [] hO ⟨by simp, by simp⟩
theorem chkP_ok {p : Pl} {l : List Em} {all : List Er} : ∀ (A : List Nat) (B : List Nat), GoodM p (B.map fun i => l.getD i Em0) → (chkP p l all A (B.map fun i => key3 (l.getD i Em0))).2 = 0 → GoodM p ((B ++ A).map fun i => l.getD i Em0) ∧
  ∀ i ∈ A, (l.getD i Em0).r.toNat < all.length ∧ ((l.getD i Em0).a, (l.getD i Em0).b) ∈ (all.getD (l.getD i Em0).r.toNat Er0).draw
 | [], B, hG, _ => by simpa using hG
 | i :: A, B, hG, h => by
  unfold chkP at h
  by_cases hb : badM p (l.getD i Em0)
  ·rw [if_pos hb] at h; simp at h
  rw [if_neg hb] at h
  by_cases hl : (all.length : Int) ≤ (l.getD i Em0).r
  ·rw [if_pos hl] at h; simp at h
  rw [if_neg hl] at h
  by_cases hd : ((l.getD i Em0).a, (l.getD i Em0).b) ∉ (all.getD (l.getD i Em0).r.toNat Er0).draw
  ·rw [if_pos hd] at h; simp at h
  rw [if_neg hd] at h
  by_cases hs : ((l.getD i Em0).r, (l.getD i Em0).a, (l.getD i Em0).b) ∈ B.map fun i => key3 (l.getD i Em0)
  ·rw [if_pos hs] at h; simp at h
  rw [if_neg hs] at h
  have hb' := hb
  unfold badM at hb'
  obtain ⟨k1, k2⟩ := chkP_ok A (B ++ [i]) (by
    rw [List.map_append]
    exact hG.snoc hb fun e he hk => hs (by
     obtain ⟨q, hq, rfl⟩ := List.mem_map.1 he
     exact List.mem_map.2 ⟨q, hq, hk⟩)) (by rw [List.map_append]; exact h)
  refine ⟨by simpa using k1, fun q hq => ?_⟩
  rcases List.mem_cons.1 hq with rfl | hq
  ·exact ⟨by omega, by simpa using hd⟩
  ·exact k2 q hq
structure StM (p : Pl) (l : List Em) : Prop where
 good : GoodM p l
 inD : ∀ e ∈ l, e.r.toNat < (rchd p l).length ∧ (e.a, e.b) ∈ ((rchd p l).getD e.r.toNat Er0).draw
theorem mapA_mem {l : List Em} {A : List Nat} (hO : A.Perm (List.range l.length)) {e : Em} : e ∈ A.map (fun i => l.getD i Em0) ↔ e ∈ l := by
 rw [List.mem_map]
 constructor
 ·rintro ⟨i, hi, rfl⟩; exact getD_mem9 (by simpa using hO.mem_iff.1 hi)
 ·intro h
  obtain ⟨i, hi, rfl⟩ := List.mem_iff_getElem.1 h
  exact ⟨i, hO.mem_iff.2 (by simpa using hi), by simp [hi]⟩
theorem chk_state {p : Pl} {l : List Em} {A : List Nat} (hO : OrdM l A) (h : (chkP p l (rchd p l) A []).2 = 0) : StM p l := by
 obtain ⟨k1, k2⟩ := chkP_ok A [] ⟨by simp, by simp⟩ h
 refine ⟨⟨fun e he => k1.ok e ((mapA_mem hO.1).2 he), fun e he e' he' => k1.uq e ((mapA_mem hO.1).2 he) e' ((mapA_mem hO.1).2 he')⟩, fun e he => ?_⟩
 obtain ⟨i, hi, rfl⟩ := List.mem_map.1 ((mapA_mem hO.1).2 he)
 exact k2 i hi
theorem GoodM.find {p : Pl} {l : List Em} (h : GoodM p l) (n : Int) (x : Int × Int) : (l.find? (isMm n x)).map (·.m) = fnd l n x := find_eq (fun _ _ => Iff.rfl) h.uq h.mr
end Go.Idl
