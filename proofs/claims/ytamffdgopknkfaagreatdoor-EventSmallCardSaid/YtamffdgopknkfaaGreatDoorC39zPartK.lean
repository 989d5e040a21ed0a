import Derived.Test.YtamffdgopknkfaaGreatDoorC39zPartJ
set_option linter.all false
set_option maxHeartbeats 8000000
set_option maxRecDepth 40000
namespace Go.Idl
open Go.Proofs
def ltM (l : List Em) (a b : Nat) : Prop := (l.getD a Em0).r < (l.getD b Em0).r ∨ (l.getD a Em0).r = (l.getD b Em0).r ∧ a < b
instance (l : List Em) (a b : Nat) : Decidable (ltM l a b) := by unfold ltM; infer_instance
theorem ltM_trans {l : List Em} {a b c : Nat} (h : ltM l a b) (h' : ltM l b c) : ltM l a c := by unfold ltM at *; omega
theorem ltM_irr {l : List Em} {a : Nat} : ¬ ltM l a a := by unfold ltM; omega
theorem ltM_total {l : List Em} {a b : Nat} (h : a ≠ b) (h' : ¬ ltM l a b) : ltM l b a := by unfold ltM at *; omega
def insM (l : List Em) (i : Nat) : List Nat → List Nat
 | [] => [i]
 | j :: A => if ltM l j i then j :: insM l i A else i :: j :: A
def ordF (l : List Em) : List Nat → List Nat
 | [] => []
 | i :: A => insM l i (ordF l A)
def ordM (l : List Em) : List Nat := ordF l (List.range l.length)
theorem insM_perm {l : List Em} (i : Nat) : ∀ A : List Nat, (insM l i A).Perm (i :: A)
 | [] => List.Perm.refl _
 | j :: A => by
  unfold insM
  split
  ·exact ((insM_perm i A).cons j).trans (List.Perm.swap i j A)
  ·exact List.Perm.refl _
theorem ordF_perm {l : List Em} : ∀ A : List Nat, (ordF l A).Perm A
 | [] => List.Perm.refl _
 | i :: A => (insM_perm i _).trans ((ordF_perm A).cons i)
theorem insM_sorted {l : List Em} {i : Nat} : ∀ {A : List Nat}, i ∉ A → A.Pairwise (ltM l) → (insM l i A).Pairwise (ltM l)
 | [], _, _ => by simp [insM]
 | j :: A, hx, h => by
  unfold insM
  rw [List.pairwise_cons] at h
  simp only [List.mem_cons, not_or] at hx
  split
  ·rename_i hy
   rw [List.pairwise_cons]
   refine ⟨fun z hz => ?_, insM_sorted hx.2 h.2⟩
   rcases List.mem_cons.1 ((insM_perm i A).mem_iff.1 hz) with rfl | hz
   ·exact hy
   ·exact h.1 z hz
  ·rename_i hy
   have hxy := ltM_total (Ne.symm hx.1) hy
   rw [List.pairwise_cons, List.pairwise_cons]
   refine ⟨fun z hz => ?_, h⟩
   rcases List.mem_cons.1 hz with rfl | hz
   ·exact hxy
   ·exact ltM_trans hxy (h.1 z hz)
theorem ordF_sorted {l : List Em} : ∀ {A : List Nat}, A.Nodup → (ordF l A).Pairwise (ltM l)
 | [], _ => List.Pairwise.nil
 | i :: A, h => by
  rw [List.nodup_cons] at h
  exact insM_sorted (fun hc => h.1 ((ordF_perm A).mem_iff.1 hc)) (ordF_sorted h.2)
theorem ordM_ok (l : List Em) : OrdM l (ordM l) := ⟨ordF_perm _, ordF_sorted List.nodup_range⟩
theorem OrdM.eq {l : List Em} {A B : List Nat} (h : OrdM l A) (h' : OrdM l B) : A = B :=
 List.Perm.eq_of_pairwise (le := ltM l) (fun a b _ _ h1 h2 => absurd (ltM_trans h1 h2) ltM_irr) h.2 h'.2 (h.1.trans h'.1.symm)
def chkR (p : Pl) (l : List Em) : Int × Int := if plB p = true then chkP p l (rchd p l) (ordM l) [] else (-1, 2)
def drawE (p : Pl) (l : List Em) (n : Int) : List (Int × Int) × Int × Int :=
 if (chkR p l).2 ≠ 0 then ([], 0, (chkR p l).2) else if n < 0 ∨ ((rchd p l).length : Int) ≤ n then ([], 0, 6) else (((rchd p l).getD n.toNat Er0).draw, ((rchd p l).getD n.toNat Er0).bye, 0)
def lastR (p : Pl) (l : List Em) : Er := (rchd p l).getD ((rchd p l).length - 1) Er0
def opnR (r : Er) : List (Int × Int) := r.draw.filter fun x => (aget x r.mg).isNone
def openE (p : Pl) (l : List Em) : List (Int × Int) × Int :=
 if (chkR p l).2 ≠ 0 then ([], (chkR p l).2) else if (rchd p l).length = 0 then ([], 0) else (opnR (lastR p l), 0)
def tableE (p : Pl) (l : List Em) : List Ln × Int := if (chkR p l).2 ≠ 0 then ([], (chkR p l).2) else (tabL9 p (ovrd (rchd p l)), 0)
def overE (p : Pl) (l : List Em) : Bool × Int := if (chkR p l).2 ≠ 0 then (false, (chkR p l).2) else (decide ((rchd p l).length = (ovrd (rchd p l)).length), 0)
def qualE (p : Pl) (l : List Em) (n : Int) : List Int × Int :=
 if (chkR p l).2 ≠ 0 then ([], (chkR p l).2) else if (rchd p l).length ≠ (ovrd (rchd p l)).length then ([], 392) else if n < 1 ∨ p.t < n then ([], 2) else (((tabL9 p (ovrd (rchd p l))).take n.toNat).map (·.team), 0)
theorem reach_get {p : Pl} {l : List Em} : ∀ (k n : Nat) (bf : List Er) (j : Nat) (r : Er), (reach p l k n bf)[j]? = some r →
  r.mg = mgs l ((n + j : Nat) : Int) r.draw ∧ (j + 1 < (reach p l k n bf).length → r.over = true) ∧ (drawR (ordT p (bf ++ (reach p l k n bf).take j)) (metT (bf ++ (reach p l k n bf).take j)) (byeT (bf ++ (reach p l k n bf).take j))) = (r.draw, r.bye, 0)
 | 0, n, bf, j, r, h => by simp [reach] at h
 | k + 1, n, bf, j, r, h => by
  unfold reach at h ⊢
  simp only at h ⊢
  by_cases he : (drawR (ordT p bf) (metT bf) (byeT bf)).2.2 ≠ 0
  ·rw [if_pos he] at h; simp at h
  rw [if_neg he] at h ⊢
  have he' : (drawR (ordT p bf) (metT bf) (byeT bf)).2.2 = 0 := by simpa using he
  generalize hq : drawR (ordT p bf) (metT bf) (byeT bf) = q at *
  obtain ⟨d, y, e⟩ := q
  simp only at *
  subst he'
  by_cases ho : (Er.mk d y (mgs l n d)).over = true
  ·rw [if_pos ho] at h ⊢
   cases j with
   | zero =>
    simp only [List.getElem?_cons_zero, Option.some.injEq] at h
    subst h
    exact ⟨rfl, fun _ => ho, by simpa using hq⟩
   | succ j =>
    simp only [List.getElem?_cons_succ] at h
    obtain ⟨h1, h2, h3⟩ := reach_get k (n + 1) _ j r h
    refine ⟨by rw [h1, show n + 1 + j = n + (j + 1) by omega], fun hl => h2 (by simpa using hl), ?_⟩
    simpa using h3
  ·rw [if_neg ho] at h ⊢
   cases j with
   | zero =>
    simp only [List.getElem?_cons_zero, Option.some.injEq] at h
    subst h
    exact ⟨rfl, fun hl => by simp at hl, by simpa using hq⟩
   | succ j => simp at h
theorem reach_len (p : Pl) (l : List Em) : ∀ (k n : Nat) (bf : List Er), (reach p l k n bf).length ≤ k
 | 0, _, _ => by simp [reach]
 | k + 1, n, bf => by
  unfold reach
  simp only
  split
  ·simp
  ·split
   ·have := reach_len p l k (n + 1) (bf ++ [⟨(drawR (ordT p bf) (metT bf) (byeT bf)).1, (drawR (ordT p bf) (metT bf) (byeT bf)).2.1, mgs l n (drawR (ordT p bf) (metT bf) (byeT bf)).1⟩])
    simp; omega
   ·simp
theorem rchd_get {p : Pl} {l : List Em} {j : Nat} {r : Er} (h : (rchd p l)[j]? = some r) : r.mg = mgs l (j : Int) r.draw ∧ (j + 1 < (rchd p l).length → r.over = true) ∧ drawR (ordT p ((rchd p l).take j)) (metT ((rchd p l).take j)) (byeT ((rchd p l).take j)) = (r.draw, r.bye, 0) := by
 have := reach_get p.r.toNat 0 [] j r h
 rw [Nat.zero_add, List.nil_append] at this
 exact this
theorem ovrd_all {L : List Er} (h : ∀ r ∈ L, r.over = true) : ovrd L = L := by
 unfold ovrd
 have : L.countP (·.over) = L.length := List.countP_eq_length.2 h
 rw [this, List.take_length]
theorem ovrd_init {L : List Er} (h : ∀ (j : Nat) (r : Er), L[j]? = some r → j + 1 < L.length → r.over = true) : ovrd L = L ∨ ∃ r, L = L.dropLast ++ [r] ∧ r.over = false ∧ ovrd L = L.dropLast := by
 rcases L.eq_nil_or_concat with rfl | ⟨M, r, rfl⟩
 ·left; rfl
 ·rw [List.concat_eq_append] at *
  have hM : ∀ x ∈ M, x.over = true := fun x hx => by
   obtain ⟨j, hj, rfl⟩ := List.mem_iff_getElem.1 hx
   exact h j M[j] (by rw [List.getElem?_append_left hj]; simp [hj]) (by simp; omega)
  cases ho : r.over with
  | true =>
   left
   exact ovrd_all fun x hx => (List.mem_append.1 hx).elim (hM x) fun e => by rw [List.mem_singleton.1 e]; exact ho
  | false =>
   right
   refine ⟨r, by simp, ho, ?_⟩
   have : (M ++ [r]).countP (·.over) = M.length := by
    rw [List.countP_append, List.countP_eq_length.2 hM]; simp [ho]
   simp [ovrd, this]
theorem rchd_over (p : Pl) (l : List Em) : ovrd (rchd p l) = rchd p l ∨ ∃ r, rchd p l = (rchd p l).dropLast ++ [r] ∧ r.over = false ∧ ovrd (rchd p l) = (rchd p l).dropLast := ovrd_init fun _ _ h => (rchd_get h).2.1
theorem ref_draw {p : Pl} {l : List Em} (h : GoodM p l) {rd : Int} (h0 : 0 ≤ rd) :
  ((rst p l rd p.r.toNat 0 []).2.2.2 = true ↔ rd.toNat < (rchd p l).length) ∧
  ((rst p l rd p.r.toNat 0 []).2.2.2 = true → (rst p l rd p.r.toNat 0 []).2.1 = ((rchd p l).getD rd.toNat Er0).draw ∧ (rst p l rd p.r.toNat 0 []).2.2.1 = ((rchd p l).getD rd.toNat Er0).bye) := by
 obtain ⟨h1, h2⟩ := reach_rst (p := p) (l := l) (ea := l) (rd := rd) p.r.toNat 0 [] [] (EqvR.refl _ _) (by simpa using h0) fun j _ _ x => h.find j x
 rw [show (rd - ((0 : Nat) : Int)).toNat = rd.toNat by simp] at h1 h2
 refine ⟨h1, fun hk => ?_⟩
 obtain ⟨r, r1, r2, r3⟩ := h2 hk
 have hget : (rchd p l).getD rd.toNat Er0 = r := by
  have : (rchd p l)[rd.toNat]? = some r := r1
  simp [this]
 rw [hget]; exact ⟨r2, r3⟩
theorem ref_table {p : Pl} {l : List Em} (h : GoodM p l) (hr : 0 ≤ p.r) : tabL9 p (rst p l p.r p.r.toNat 0 []).1 = tabL9 p (ovrd (rchd p l)) := by
 have := reach_tab (p := p) (l := l) (ea := l) (rd := p.r) p.r.toNat 0 [] [] (EqvR.refl _ _) (by omega) fun j _ _ x => h.find j x
 have h2 := this.lines
 rw [List.nil_append] at h2
 exact h2.symm
def opnF (p : Pl) (l : List Em) (n : Nat) : List (Int × Int) :=
 if (rst p l n p.r.toNat 0 []).2.2.2 = true then (rst p l n p.r.toNat 0 []).2.1.filter fun x => (fnd l n x).isNone else []
theorem opn_fnd {p : Pl} {l : List Em} (h : GoodM p l) {n : Nat} {r : Er} (hr : (rchd p l)[n]? = some r) : opnR r = r.draw.filter fun x => (fnd l n x).isNone := by
 unfold opnR
 rw [(rchd_get hr).1]
 apply List.filter_congr
 intro x hx
 rw [mgs_get, if_pos hx, h.find]
theorem over_opn {r : Er} {l : List Em} {n : Nat} (hm : r.mg = mgs l n r.draw) (hd : r.draw.Nodup) : r.over = true ↔ opnR r = [] := by
 obtain ⟨k1, _⟩ := mgs_full (l := l.filter fun e => mrB e.m) (ea := l.filter fun e => mrB e.m) (n := (n : Int)) hd (fun x => by
  unfold fnd
  congr 1
  rw [List.find?_filter, List.find?_filter]
  congr 1
  funext e
  unfold isMm
  cases mrB e.m <;> simp)
 have e1 : ∀ x, x ∈ r.draw → aget x (mgs (l.filter fun e => mrB e.m) n r.draw) = aget x r.mg := fun x hx => by
  rw [hm, mgs_get, mgs_get, if_pos hx, if_pos hx, List.find?_filter]
  congr 2
  funext e
  unfold isMm
  cases mrB e.m <;> simp
 have hn := mgs_nodup l n r.draw
 have hs : ∀ k ∈ (mgs l n r.draw).map (·.1), k ∈ r.draw := fun k hk => mgs_keys hk
 rw [over_iff9, hm]
 constructor
 ·intro h
  have hp := perm_of_sub hn hs (by simpa using h)
  unfold opnR
  rw [List.filter_eq_nil_iff]
  intro x hx
  have : x ∈ (mgs l n r.draw).map (·.1) := hp.mem_iff.2 hx
  rw [hm]
  cases hq : (aget x (mgs l n r.draw)).isSome with
  | true =>
   cases hq2 : aget x (mgs l n r.draw) with
   | none => rw [hq2] at hq; simp at hq
   | some v => simp
  | false => exact absurd this (aget_none.1 hq)
 ·intro h
  unfold opnR at h
  rw [List.filter_eq_nil_iff] at h
  have h1 := nodup_len hn hs
  have h2 := nodup_len (A := r.draw) (B := (mgs l n r.draw).map (·.1)) hd fun x hx => by
   have := h x hx
   rw [hm] at this
   apply Decidable.byContradiction
   intro hc
   have h9 := aget_none.2 hc
   cases hq : aget x (mgs l n r.draw) with
   | none => rw [hq] at this; simp at this
   | some v => rw [hq] at h9; simp at h9
  simp at h1 h2
  omega
theorem rchd_nodup {p : Pl} {l : List Em} {n : Nat} {r : Er} (hr : (rchd p l)[n]? = some r) : r.draw.Nodup ∧ (endsP r.draw).Nodup := by
 have h := (rchd_get hr).2.2
 have hk := drawR_ok (met := metT ((rchd p l).take n)) (byes := byeT ((rchd p l).take n)) (ordT_nodup p ((rchd p l).take n)) (by rw [h])
 rw [h] at hk
 have := hk.nodup (ordT_nodup p ((rchd p l).take n))
 exact ⟨(endsP_nodup this).1, this⟩
theorem ref_open {p : Pl} {l : List Em} (h : GoodM p l) (hr : 0 ≤ p.r) : (List.range p.r.toNat).flatMap (opnF p l) = if (rchd p l).length = 0 then [] else opnR (lastR p l) := by
 have hval : ∀ n : Nat, opnF p l n = if n < (rchd p l).length then opnR ((rchd p l).getD n Er0) else [] := fun n => by
  unfold opnF
  obtain ⟨h1, h2⟩ := ref_draw h (rd := (n : Int)) (by omega)
  rw [Int.toNat_natCast] at h1 h2
  by_cases hn : n < (rchd p l).length
  ·rw [if_pos (h1.2 hn), if_pos hn, (h2 (h1.2 hn)).1]
   have hg : (rchd p l)[n]? = some ((rchd p l).getD n Er0) := by simp [hn]
   rw [opn_fnd h hg]
  ·rw [if_neg (fun hc => hn (h1.1 hc)), if_neg hn]
 have hnil : ∀ n : Nat, n + 1 < (rchd p l).length → opnF p l n = [] := fun n hn => by
  rw [hval, if_pos (by omega)]
  have hg : (rchd p l)[n]? = some ((rchd p l).getD n Er0) := by simp [show n < (rchd p l).length by omega]
  have h3 := rchd_get hg
  exact (over_opn h3.1 (rchd_nodup hg).1).1 (h3.2.1 hn)
 have hle : (rchd p l).length ≤ p.r.toNat := reach_len p l _ _ _
 unfold lastR
 generalize (rchd p l).length = L at *
 by_cases hL : L = 0
 ·rw [if_pos hL]
  rw [List.flatMap_eq_nil_iff]
  intro n _
  rw [hval, if_neg (by omega)]
 ·rw [if_neg hL]
  have e : List.range p.r.toNat = List.range (L - 1) ++ (L - 1) :: (List.range (p.r.toNat - L)).map fun i => L + i := by
   rw [show p.r.toNat = (L - 1 + 1) + (p.r.toNat - L) by omega, List.range_add, List.range_succ]
   rw [show L - 1 + 1 + (p.r.toNat - L) - L = p.r.toNat - L by omega, show L - 1 + 1 = L by omega]
   simp
  rw [e, List.flatMap_append, List.flatMap_cons]
  have a1 : (List.range (L - 1)).flatMap (opnF p l) = [] := by
   rw [List.flatMap_eq_nil_iff]
   intro n hn
   exact hnil n (by have := List.mem_range.1 hn; omega)
  have a2 : ((List.range (p.r.toNat - L)).map fun i => L + i).flatMap (opnF p l) = [] := by
   rw [List.flatMap_eq_nil_iff]
   intro n hn
   obtain ⟨i, _, rfl⟩ := List.mem_map.1 hn
   rw [hval, if_neg (by omega)]
  rw [a1, a2, hval, if_pos (by omega)]
  simp
theorem over_open {p : Pl} {l : List Em} : (rchd p l).length = (ovrd (rchd p l)).length ↔ (if (rchd p l).length = 0 then [] else opnR (lastR p l)) = [] := by
 by_cases h0 : (rchd p l).length = 0
 ·rw [if_pos h0]
  have : rchd p l = [] := List.eq_nil_of_length_eq_zero h0
  rw [this]; simp [ovrd]
 rw [if_neg h0]
 have hg : (rchd p l)[(rchd p l).length - 1]? = some (lastR p l) := by unfold lastR; simp [show (rchd p l).length - 1 < (rchd p l).length by omega]
 rw [← over_opn (rchd_get hg).1 (rchd_nodup hg).1]
 rcases rchd_over p l with h | ⟨r, h1, h2, h3⟩
 ·rw [h]
  simp only [true_iff]
  have hc : (rchd p l).countP (·.over) = (rchd p l).length := by
   have h4 := congrArg List.length h
   unfold ovrd at h4
   rw [List.length_take] at h4
   have := List.countP_le_length (p := fun r : Er => r.over) (l := rchd p l)
   omega
  exact List.countP_eq_length.1 hc _ (List.mem_of_getElem? hg)
 ·have hl : lastR p l = r := by
   rw [h1] at hg
   rw [List.getElem?_append_right (by simp)] at hg
   simp at hg
   exact hg.symm
  rw [h3, hl, h2]
  simp
  omega
end Go.Idl
