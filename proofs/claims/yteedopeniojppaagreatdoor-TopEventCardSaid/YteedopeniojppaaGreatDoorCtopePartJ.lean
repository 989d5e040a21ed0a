import Derived.Test.YteedopeniojppaaGreatDoorCtopePartI
import Derived.Test.YteedopeniojppaaGreatDoorCtopePartD
set_option linter.all false
set_option maxHeartbeats 16000000
set_option maxRecDepth 40000
namespace Go.Idl
open Go.Proofs
def SimR : List Er → List Er → Prop
 | [], [] => True
 | r :: A, s :: B => r.draw = s.draw ∧ r.bye = s.bye ∧ r.mg.Perm s.mg ∧ SimR A B
 | _, _ => False
theorem SimR.length : ∀ {A B : List Er}, SimR A B → A.length = B.length
 | [], [], _ => rfl
 | _ :: _, _ :: _, h => by simp [SimR.length h.2.2.2]
 | [], _ :: _, h => h.elim
 | _ :: _, [], h => h.elim
theorem SimR.get : ∀ {A B : List Er}, SimR A B → ∀ {j : Nat}, (A.getD j Er0).draw = (B.getD j Er0).draw ∧ (A.getD j Er0).bye = (B.getD j Er0).bye
 | [], [], _, j => by simp
 | r :: A, s :: B, h, 0 => ⟨h.1, h.2.1⟩
 | r :: A, s :: B, h, j + 1 => by simpa using SimR.get h.2.2.2 (j := j)
 | [], _ :: _, h, _ => h.elim
 | _ :: _, [], h, _ => h.elim
theorem SimR.count : ∀ {A B : List Er}, SimR A B → A.countP (·.over) = B.countP (·.over)
 | [], [], _ => rfl
 | r :: A, s :: B, h => by
  have h1 := SimR.count h.2.2.2
  have h2 : r.over = s.over := by unfold Er.over; rw [h.1, h.2.2.1.length_eq]
  rw [List.countP_cons, List.countP_cons, h1, h2]
 | [], _ :: _, h => h.elim
 | _ :: _, [], h => h.elim
theorem SimR.take : ∀ {A B : List Er} (n : Nat), SimR A B → SimR (A.take n) (B.take n)
 | [], [], n, _ => by simp [SimR]
 | r :: A, s :: B, 0, _ => trivial
 | r :: A, s :: B, n + 1, h => ⟨h.1, h.2.1, h.2.2.1, SimR.take n h.2.2.2⟩
 | [], _ :: _, _, h => h.elim
 | _ :: _, [], _, h => h.elim
theorem SimR.ovrd {A B : List Er} (h : SimR A B) : SimR (ovrd A) (ovrd B) := by
 unfold Go.Idl.ovrd; rw [h.count]; exact h.take _
theorem SimR.eqv {p : Pl} : ∀ {A B a b : List Er}, SimR A B → EqvR p a b → EqvR p (a ++ A) (b ++ B)
 | [], [], a, b, _, h => by simpa using h
 | r :: A, s :: B, a, b, hs, h => by
  have := SimR.eqv hs.2.2.2 (h.snoc hs.1 hs.2.1 hs.2.2.1)
  simpa using this
 | [], _ :: _, _, _, h, _ => h.elim
 | _ :: _, [], _, _, h, _ => h.elim
theorem perm_of_aget {S T : List ((Int × Int) × Int)} (hS : (S.map (·.1)).Nodup) (hT : (T.map (·.1)).Nodup) (h : ∀ k, aget k S = aget k T) : S.Perm T := by
 have nd : ∀ {R : List ((Int × Int) × Int)}, (R.map (·.1)).Nodup → R.Nodup := fun {R} hR => by
  rw [List.Nodup, List.pairwise_map] at hR
  exact hR.imp fun hab hc => hab (by rw [hc])
 refine (List.perm_ext_iff_of_nodup (nd hS) (nd hT)).2 fun x => ?_
 obtain ⟨k, v⟩ := x
 constructor
 ·intro hx
  have := mem_aget hS hx
  rw [h] at this
  exact aget_mem this
 ·intro hx
  have := mem_aget hT hx
  rw [← h] at this
  exact aget_mem this
theorem reach_sim {p : Pl} {l l' : List Em} (h : ∀ (n : Nat) (x : Int × Int), (l'.find? (isMm n x)).map (·.m) = (l.find? (isMm n x)).map (·.m)) : ∀ (k n : Nat) (bf bf' : List Er), EqvR p bf' bf → SimR (reach p l' k n bf') (reach p l k n bf)
 | 0, n, bf, bf', _ => trivial
 | k + 1, n, bf, bf', hE => by
  unfold reach
  simp only
  rw [hE.draw]
  by_cases he : (drawR (ordT p bf) (metT bf) (byeT bf)).2.2 ≠ 0
  ·rw [if_pos he, if_pos he]; trivial
  rw [if_neg he, if_neg he]
  generalize drawR (ordT p bf) (metT bf) (byeT bf) = q at *
  obtain ⟨d, y, e⟩ := q
  simp only at *
  have hp : (mgs l' n d).Perm (mgs l n d) := perm_of_aget (mgs_nodup _ _ _) (mgs_nodup _ _ _) fun k => by rw [mgs_get, mgs_get, h]
  have ho : (Er.mk d y (mgs l' n d)).over = (Er.mk d y (mgs l n d)).over := by unfold Er.over; rw [hp.length_eq]
  rw [ho]
  by_cases hov : (Er.mk d y (mgs l n d)).over = true
  ·rw [if_pos hov, if_pos hov]
   exact ⟨rfl, rfl, hp, reach_sim h k (n + 1) _ _ (hE.snoc rfl rfl hp)⟩
  ·rw [if_neg hov, if_neg hov]
   exact ⟨rfl, rfl, hp, trivial⟩
theorem rchd_sim {p : Pl} {l l' : List Em} (h : ∀ (n : Nat) (x : Int × Int), (l'.find? (isMm n x)).map (·.m) = (l.find? (isMm n x)).map (·.m)) : SimR (rchd p l') (rchd p l) := reach_sim h _ _ _ _ (EqvR.refl _ _)
theorem PartB.goodM {p : Pl} {B : List Er} (h : PartB p B) : GoodM p (mB 0 B) := by
 refine ⟨fun e he => (h.fine he).1, fun e he e' he' hk => ?_⟩
 have hn := mB_keys (n := 0) (B := B) fun r hr => (h.ok r hr).nd
 obtain ⟨i, hi, rfl⟩ := List.mem_iff_getElem.1 he
 obtain ⟨j, hj, rfl⟩ := List.mem_iff_getElem.1 he'
 have hij : i = j := by
  have h2 := List.nodup_iff_pairwise_ne.1 hn
  rcases Nat.lt_trichotomy i j with hlt | heq | hgt
  ·exact absurd (by rw [List.getElem_map, List.getElem_map]; exact hk) (List.pairwise_iff_getElem.1 h2 i j (by simpa using hi) (by simpa using hj) hlt)
  ·exact heq
  ·exact absurd (by rw [List.getElem_map, List.getElem_map]; exact hk.symm) (List.pairwise_iff_getElem.1 h2 j i (by simpa using hj) (by simpa using hi) hgt)
 subst hij; rfl
theorem PartB.perm {p : Pl} {B : List Er} (h : PartB p B) {l : List Em} (hl : l.Perm (mB 0 B)) : chkR p l = (-1, 0) ∧ tableE p l = tableE p (mB 0 B) := by
 have hG := h.goodM
 have hs : SimR (Go.Idl.rchd p l) B := by
  have := rchd_sim (p := p) (l := mB 0 B) (l' := l) fun n x => by
   rw [find_eq (l := l) (ea := mB 0 B) (fun e _ => hl.mem_iff) hG.uq hG.mr, hG.find]
  rwa [h.rchd] at this
 have hc : chkR p l = (-1, 0) := by
  refine chk_ok h.pl ((hl.map key3).nodup_iff.2 (mB_keys fun r hr => (h.ok r hr).nd)) fun e he => ?_
  obtain ⟨f1, f2, f3⟩ := h.fine (hl.mem_iff.1 he)
  exact ⟨f1, by rw [hs.length]; exact f2, by rw [hs.get.1]; exact f3⟩
 refine ⟨hc, ?_⟩
 rw [h.table]
 unfold tableE
 rw [hc, if_neg (by simp)]
 have := (hs.ovrd).eqv (EqvR.refl p [])
 rw [List.nil_append, List.nil_append] at this
 rw [this.lines]
end Go.Idl
namespace Go.Idl
open Go.Proofs
theorem perm_sum {A B : List Int} (h : A.Perm B) : A.sum = B.sum := by
 induction h with
 | nil => rfl
 | cons x _ ih => simp [ih]
 | swap x y l => simp; omega
 | trans _ _ ih1 ih2 => exact ih1.trans ih2
theorem plcLn_map {g : Ln → Int} (hg : ∀ (x : Ln) (n : Int), g { x with place := n } = g x) : ∀ (k : Nat) (L : List Ln), (plcLn k L).map g = L.map g
 | _, [] => rfl
 | k, x :: L => by simp [plcLn, plcLn_map hg (k + 1) L, hg]
theorem sum_tabL9 {p : Pl} {B : List Er} {g : Ln → Int} (hg : ∀ (x : Ln) (n : Int), g { x with place := n } = g x) : ((tabL9 p B).map g).sum = ((tabU p B).map g).sum := by
 unfold tabL9
 rw [plcLn_map hg]
 exact perm_sum ((srtLn_perm _).map g)
theorem endsP_cons (e : Int × Int) (d : List (Int × Int)) : endsP (e :: d) = e.1 :: e.2 :: endsP d := rfl
theorem sum_nA {T : Int} : ∀ {S : List ((Int × Int) × Int)}, (endsP (S.map (·.1))).Nodup → (S.map (nA T)).sum = if T ∈ endsP (S.map (·.1)) then 1 else 0
 | [], _ => by simp [endsP]
 | e :: S, h => by
  rw [List.map_cons, endsP_cons, List.nodup_cons, List.nodup_cons, List.mem_cons, not_or] at h
  have ih := sum_nA (T := T) (S := S) h.2.2
  rw [List.map_cons, List.map_cons, endsP_cons, List.sum_cons, ih]
  generalize endsP (S.map (·.1)) = E at *
  unfold nA
  simp only [List.mem_cons]
  by_cases h1 : T = e.1.1
  ·have : ¬ T ∈ E := by rw [h1]; exact h.1.2
   rw [if_pos (.inl h1), if_neg this, if_pos (.inl h1)]; rfl
  ·by_cases h2 : T = e.1.2
   ·have : ¬ T ∈ E := by rw [h2]; exact h.2.1
    rw [if_pos (.inr h2), if_neg this, if_pos (.inr (.inl h2))]; rfl
   ·rw [if_neg (fun h => h.elim h1 h2)]
    by_cases h3 : T ∈ E
    ·rw [if_pos h3, if_pos (.inr (.inr h3))]; rfl
    ·rw [if_neg h3, if_neg (fun h => h.elim h1 fun h => h.elim h2 h3)]; rfl
theorem plays_all {p : Pl} {T : Int} (hT : 1 ≤ T ∧ T ≤ p.t) : ∀ B : List Er, FullB p B → ((mB 0 B).map (nM T)).sum = (B.length : Int) - byC T B := by
 apply snoc_ind
 ·intro _; simp [mB, byC]
 ·intro B r ih h
  have hl := h.left
  have hg : (B ++ [r])[B.length]? = some r := by simp
  have hk := h.keys r (by simp)
  have hn := (chain_nodup h.chain hg).2
  have hp := chain_plays h.chain hg hT
  have e1 : ((mB 0 (B ++ [r])).map (nM T)).sum = ((mB 0 B).map (nM T)).sum + ((rowM B.length r.mg).map (nM T)).sum := by rw [mB_append]; simp [mB]
  have n1 : (rowM B.length r.mg).map (nM T) = r.mg.map (nA T) := rowM_map
  have e2 : byC T (B ++ [r]) = byC T B + if byB T r = true then 1 else 0 := by unfold byC; rw [List.countP_append, List.countP_cons, List.countP_nil]; simp
  rw [e1, n1, sum_nA (by rw [hk]; exact hn), hk, ih hl, e2]
  have hb : byB T r = true ↔ T = r.bye := by
   unfold byB
   simp only [Bool.and_eq_true, decide_eq_true_eq]
   omega
  by_cases hc : T = r.bye
  ·rw [if_neg (fun h9 => hp.1 h9 hc), if_pos (hb.2 hc)]; simp; omega
  ·rw [if_pos (hp.2 hc), if_neg (fun h9 => hc (hb.1 h9))]; simp; omega
end Go.Idl
namespace Go.Idl
open Go.Proofs
def yeL (x : Ln) : Int := if x.bye = true then 1 else 0
theorem count_sum : ∀ {A : List Int} {n : Nat}, (∀ x ∈ A, 1 ≤ x ∧ x ≤ (n : Int)) → ((List.range n).map fun k : Nat => ((A.count ((k : Int) + 1) : Nat) : Int)).sum = A.length
 | [], n, _ => by
  simp only [List.count_nil, List.length_nil]
  have : ∀ m : List Nat, (m.map fun _ => ((0 : Nat) : Int)).sum = 0 := fun m => by induction m with
   | nil => rfl
   | cons a m ih => rw [List.map_cons, List.sum_cons, ih]; rfl
  exact this _
 | x :: A, n, h => by
  have ih := count_sum (A := A) (n := n) fun y hy => h y (List.mem_cons_of_mem _ hy)
  have hx := h x (List.mem_cons_self ..)
  have e1 : ∀ m : List Nat, (m.map fun k : Nat => (((x :: A).count ((k : Int) + 1) : Nat) : Int)).sum = (m.map fun k : Nat => ((A.count ((k : Int) + 1) : Nat) : Int)).sum + (m.count (x - 1).toNat : Nat) := fun m => by
   induction m with
   | nil => rfl
   | cons a m ih =>
    rw [List.map_cons, List.sum_cons, ih, List.map_cons, List.sum_cons, List.count_cons, List.count_cons]
    have : (x == (a : Int) + 1) = (a == (x - 1).toNat) := by rw [Bool.eq_iff_iff]; simp; omega
    rw [this]
    split <;> omega
  rw [e1, ih, List.length_cons]
  have : (List.range n).count (x - 1).toNat = 1 := by
   rw [List.nodup_range.count, if_pos (List.mem_range.2 (by omega))]
  rw [this]; omega
theorem FullB.byes {p : Pl} {B : List Er} (h : FullB p B) : ((tabL9 p B).map yeL).sum = (byeT B).length := by
 rw [sum_tabL9 (g := yeL) fun _ _ => rfl]
 have ht := plB_t h.pl
 have e : tabU p B = (List.range p.t.toNat).map fun k : Nat => lineT p ((k : Int) + 1) B := by
  apply List.ext_getElem?
  intro k
  by_cases hk : k < p.t.toNat
  ·rw [tabU_get hk B h.two]; simp [hk]
  ·rw [List.getElem?_eq_none (by rw [tabU_length]; omega), List.getElem?_eq_none (by simp; omega)]
 have hm : ∀ x ∈ byeT B, 1 ≤ x ∧ x ≤ ((p.t.toNat : Nat) : Int) := fun x hx => by
  unfold byeT at hx
  obtain ⟨r, hr, hx⟩ := List.mem_flatMap.1 hx
  split at hx
  ·rename_i hb
   rw [List.mem_singleton] at hx
   subst hx
   obtain ⟨j, hj⟩ := List.getElem?_of_mem hr
   have := chain_bye h.chain hj
   rcases Nat.mod_two_eq_zero_or_one p.t.toNat with hq | hq
   ·have := this.1 hq; omega
   ·have := (this.2 hq).1; omega
  ·simp at hx
 rw [e, List.map_map, ← count_sum hm]
 congr 1
 apply List.map_congr_left
 intro k _
 have h1 := byC_count ((k : Int) + 1) (by omega) B
 have h2 := byC_le h.chain (T := (k : Int) + 1) (by omega)
 simp only [Function.comp, yeL, lineT, decide_eq_true_eq]
 rw [← h1]
 split <;> omega
theorem FullB.byeN {p : Pl} {B : List Er} (h : FullB p B) : (byeT B).length = B.length * (p.t.toNat % 2) := by
 have : ∀ n, n ≤ B.length → (byeT (B.take n)).length = n * (p.t.toNat % 2) := by
  intro n
  induction n with
  | zero => intro _; simp [byeT]
  | succ n ih =>
   intro hn
   have hg : B[n]? = some B[n] := List.getElem?_eq_getElem (by omega)
   rw [List.take_succ_eq_append_getElem (by omega), byeT_snoc, List.length_append, ih (by omega)]
   have hb := chain_bye h.chain hg
   rcases Nat.mod_two_eq_zero_or_one p.t.toNat with hq | hq
   ·have := hb.1 hq
    rw [hq, if_neg (by omega)]; simp
   ·have := (hb.2 hq).1
    rw [hq, if_pos (by omega)]; simp
 have h2 := this B.length (Nat.le_refl _)
 rwa [List.take_length] at h2
theorem FullB.line {p : Pl} {B : List Er} (h : FullB p B) {i : Nat} {y : Ln} (hy : (tabL9 p B)[i]? = some y) : y.place = (i : Int) + 1 ∧ y.played = (B.length : Int) - yeL y ∧ 0 ≤ y.points ∧ y.points ≤ 2 * p.s.length * (mB 0 B).length + p.b := by
 obtain ⟨k, hk, e⟩ := tabL9_get h.two hy
 have ht := plB_t h.pl
 have h1 := byC_le h.chain (T := (k : Int) + 1) (by omega)
 have h2 := plays_all (T := (k : Int) + 1) (by omega) B h
 have hp : ∀ l : List Em, 0 ≤ (l.map (pM p.s ((k : Int) + 1))).sum ∧ (l.map (pM p.s ((k : Int) + 1))).sum ≤ 2 * p.s.length * l.length := by
  intro l
  induction l with
  | nil => simp
  | cons m l ih =>
   have hb : 0 ≤ pM p.s ((k : Int) + 1) m ∧ pM p.s ((k : Int) + 1) m ≤ 2 * p.s.length := by
    unfold pM pA
    have := pt_bd p.s m.m
    split
    ·exact this.1
    ·split
     ·exact this.2
     ·omega
   rw [List.map_cons, List.sum_cons, List.length_cons, show ((l.length + 1 : Nat) : Int) = (l.length : Int) + 1 by omega, Int.mul_add]
   omega
 have h3 := hp (mB 0 B)
 rw [e]
 simp only [lineT, yeL, decide_eq_true_eq]
 refine ⟨trivial, ?_, ?_, ?_⟩
 ·rw [h2]; split <;> omega
 ·have := Int.mul_nonneg ht.2.2.2.2.2.1 (show 0 ≤ (byC ((k : Int) + 1) B : Int) by omega)
  omega
 ·rcases (by omega : byC ((k : Int) + 1) B = 0 ∨ byC ((k : Int) + 1) B = 1) with h | h
  ·rw [h]; simp; omega
  ·rw [h]; simp; omega
theorem FullB.lineM {p : Pl} {B : List Er} (h : FullB p B) {i : Nat} {y : Ln} (hy : (tabL9 p B)[i]? = some y) : -(1000000 * ((mB 0 B).length : Int)) ≤ y.margin ∧ y.margin ≤ 1000000 * (mB 0 B).length := by
 obtain ⟨k, hk, e⟩ := tabL9_get h.two hy
 have hp : ∀ l : List Em, (∀ m ∈ l, mrB m.m = true) → -(1000000 * (l.length : Int)) ≤ (l.map (mM ((k : Int) + 1))).sum ∧ (l.map (mM ((k : Int) + 1))).sum ≤ 1000000 * l.length := by
  intro l
  induction l with
  | nil => simp
  | cons m l ih =>
   intro hm
   have ih := ih fun x hx => hm x (List.mem_cons_of_mem _ hx)
   have hb : -1000000 ≤ mM ((k : Int) + 1) m ∧ mM ((k : Int) + 1) m ≤ 1000000 := by
    have := hm m (List.mem_cons_self ..)
    simp only [mrB, Bool.and_eq_true, decide_eq_true_eq] at this
    unfold mM mA
    split
    ·exact this
    ·split
     ·simp only; omega
     ·omega
   rw [List.map_cons, List.sum_cons, List.length_cons]
   omega
 have h3 := hp (mB 0 B) fun m hm => by
  obtain ⟨j, r, h1, _, h3⟩ := mB_mem hm
  exact h.mr r (List.mem_of_getElem? h1) _ h3
 rw [e]
 exact h3
theorem FullB.sums {p : Pl} {B : List Er} (h : FullB p B) : ((tabL9 p B).map (·.points)).sum = 2 * p.s.length * (mB 0 B).length + p.b * (byeT B).length ∧ ((tabL9 p B).map (·.margin)).sum = 0 ∧ ((tabL9 p B).map (·.played)).sum = 2 * (mB 0 B).length := by
 rw [sum_tabL9 (g := (·.points)) fun _ _ => rfl, sum_tabL9 (g := (·.margin)) fun _ _ => rfl, sum_tabL9 (g := (·.played)) fun _ _ => rfl]
 refine sum_tabU B fun r hr => ?_
 obtain ⟨j, hj⟩ := List.getElem?_of_mem hr
 have ht := plB_t h.pl
 refine ⟨fun e he => ?_, ?_⟩
 ·have hx : e.1 ∈ r.draw := by rw [← h.keys r hr]; exact List.mem_map_of_mem he
  have := chain_mem h.chain hj hx
  exact ⟨this.1, this.2.1⟩
 ·have := chain_bye h.chain hj
  rcases Nat.mod_two_eq_zero_or_one p.t.toNat with hq | hq
  ·have := this.1 hq; omega
  ·exact (this.2 hq).1.2
theorem sum_take {g : Ln → Int} {L : List Ln} {i : Nat} (h : i < L.length) : ((L.take (i + 1)).map g).sum = ((L.take i).map g).sum + g L[i] := by
 rw [List.take_succ_eq_append_getElem h, List.map_append, List.sum_append, List.map_cons, List.map_nil, List.sum_cons, List.sum_nil, Int.add_zero]
theorem sum_bdL {g : Ln → Int} {a b : Int} : ∀ {L : List Ln}, (∀ x ∈ L, a ≤ g x ∧ g x ≤ b) → a * L.length ≤ (L.map g).sum ∧ (L.map g).sum ≤ b * L.length
 | [], _ => by simp
 | x :: L, h => by
  have h1 := h x (List.mem_cons_self ..)
  have h2 := sum_bdL fun y hy => h y (List.mem_cons_of_mem _ hy)
  simp only [List.map_cons, List.sum_cons, List.length_cons]
  rw [show ((L.length + 1 : Nat) : Int) = (L.length : Int) + 1 by omega, Int.mul_add, Int.mul_add]
  omega
end Go.Idl
namespace Go.Idl
open Go.Proofs
def mgT1 (a b s : Int) (m : Em) : Int := if m.a = a ∧ m.b = b then m.m else if m.a = b ∧ m.b = a then -m.m else s
def mgT (a b : Int) (l : List Em) : Int := l.foldl (mgT1 a b) 0
theorem mgT_neg {a b : Int} (h : a ≠ b) : ∀ (l : List Em) (s : Int), l.foldl (mgT1 b a) (-s) = -l.foldl (mgT1 a b) s
 | [], _ => rfl
 | m :: l, s => by
  rw [List.foldl_cons, List.foldl_cons]
  have e : mgT1 b a (-s) m = -mgT1 a b s m := by
   unfold mgT1
   by_cases h1 : m.a = b ∧ m.b = a
   ·rw [if_pos h1, if_neg (fun h2 => h (h2.1.symm.trans h1.1)), if_pos h1]; omega
   ·rw [if_neg h1]
    by_cases h2 : m.a = a ∧ m.b = b
    ·rw [if_pos h2, if_pos h2]
    ·rw [if_neg h2, if_neg h2, if_neg h1]
  rw [e]
  exact mgT_neg h l _
theorem mgT_bd {a b N : Int} (hN : 0 ≤ N) : ∀ {l : List Em} {s : Int}, (∀ m ∈ l, -N ≤ m.m ∧ m.m ≤ N) → -N ≤ s ∧ s ≤ N → -N ≤ l.foldl (mgT1 a b) s ∧ l.foldl (mgT1 a b) s ≤ N
 | [], _, _, h => h
 | m :: l, s, h, hs => by
  rw [List.foldl_cons]
  have hm := h m (List.mem_cons_self ..)
  refine mgT_bd hN (fun x hx => h x (List.mem_cons_of_mem _ hx)) ?_
  unfold mgT1
  split
  ·exact hm
  ·split <;> omega
def clampM (d : Int) : Int := if 100000 < (if d < -100000 then -100000 else d) then 100000 else if d < -100000 then -100000 else d
def carE (p : Pl) (l : List Em) (a b : Int) (f : Frc) (n : Int) : Frc × Int :=
 if (chkR p l).2 ≠ 0 then (⟨0, 0⟩, (chkR p l).2)
 else if a < 1 ∨ p.t < a ∨ b < 1 ∨ p.t < b ∨ a = b then (⟨0, 0⟩, 2)
 else if (carryF f n (clampM (mgT a b l))).2 ≠ 0 then (⟨0, 0⟩, (carryF f n (clampM (mgT a b l))).2) else ((carryF f n (clampM (mgT a b l))).1, 0)
theorem evCarry_fun (p : Pl) (l : List Em) (a b : Int) (f : Frc) (n : Int) (h : ArgE p l) (hg : (chkR p l).2 = 0 → ∀ m ∈ l, -1000000 ≤ m.m ∧ m.m ≤ 1000000) (hf : FitF f) (hn : -2 ^ 63 ≤ n ∧ n < 2 ^ 63) :
  FN 19 [p.v, .fz 4 (ems l), .int .i64 a, .int .i64 b, f.v, .int .i64 n] (fun v => v = .tup [(carE p l a b f n).1.v, .int .i64 (carE p l a b f n).2]) := by
 refine IFun.of_bodyW false 21 [28, 53, 55, 56, 57, 58, 61, 74, 99] Tryz.func19 rfl Tryz.call19 rfl fun R hR => ?_
 have cc := Check_fun p l h.t h.s h.l
 have hll := h.l
 have fin : ∀ (r : IV) (σ : Heap) (q : Frc × Int), carE p l a b f n = q → frzOK false 4 σ r ∧ nz 4 (frzV 4 σ r) (.tup [q.1.v, .int .i64 q.2]) → R r σ := fun r σ q e h => hR r σ _ rfl (by rw [e]; exact h)
 clear hR
 by_cases he : (chkR p l).2 = 0
 case neg =>
  have hE : carE p l a b f n = (⟨0, 0⟩, (chkR p l).2) := by unfold carE; rw [if_pos he]
  simp only [Pl.v, Frc.v] at *
  refine IWp.now ?_
  simp [go_sem]
  refine cc.callF (by simp [go_sem]) ?_
  rintro _ rfl
  simp [go_sem, he]
  exact fin _ _ _ hE (by simp [go_sem])
 have hE : carE p l a b f n = if a < 1 ∨ p.t < a ∨ b < 1 ∨ p.t < b ∨ a = b then (⟨0, 0⟩, 2) else if (carryF f n (clampM (mgT a b l))).2 ≠ 0 then (⟨0, 0⟩, (carryF f n (clampM (mgT a b l))).2) else ((carryF f n (clampM (mgT a b l))).1, 0) := by unfold carE; rw [if_neg (by simp [he])]
 have hm := hg he
 have hmb := mgT_bd (a := a) (b := b) (N := 1000000) (by decide) (l := l) (s := 0) hm (by decide)
 have hcl : -100000 ≤ clampM (mgT a b l) ∧ clampM (mgT a b l) ≤ 100000 := by unfold clampM; split <;> (try split) <;> omega
 have ck := carry38_fun f n (clampM (mgT a b l)) hf hn (by omega)
 simp only [Pl.v, Frc.v] at *
 refine IWp.now ?_
 simp [go_sem]
 refine cc.callF (by simp [go_sem]) ?_
 rintro _ rfl
 by_cases hbad : a < 1 ∨ p.t < a ∨ b < 1 ∨ p.t < b ∨ a = b
 ·rw [if_pos hbad] at hE
  by_cases c1 : a < 1
  ·simp [go_sem, he, c1]
   exact fin _ _ _ hE (by simp [go_sem])
  by_cases c2 : p.t < a
  ·simp [go_sem, he, c1, c2]
   exact fin _ _ _ hE (by simp [go_sem])
  by_cases c3 : b < 1
  ·simp [go_sem, he, c1, c2, c3]
   exact fin _ _ _ hE (by simp [go_sem])
  by_cases c4 : p.t < b
  ·simp [go_sem, he, c1, c2, c3, c4]
   exact fin _ _ _ hE (by simp [go_sem])
  have c5 : a = b := by omega
  subst c5
  simp [go_sem, he, c1, c2]
  exact fin _ _ _ hE (by simp [go_sem])
 rw [if_neg hbad] at hE
 have c1 : ¬ a < 1 := by omega
 have c2 : ¬ p.t < a := by omega
 have c3 : ¬ b < 1 := by omega
 have c4 : ¬ p.t < b := by omega
 have c5 : ¬ a = b := by omega
 have c5' : (a == b) = false := by rw [beq_eq_false_iff_ne]; exact c5
 obtain ⟨F, hF⟩ : ∃ F : Nat → Int, ∀ i, F i = (l.take i).foldl (mgT1 a b) 0 := ⟨_, fun _ => rfl⟩
 have f0 : F 0 = 0 := by rw [hF]; rfl
 have fl : F l.length = mgT a b l := by rw [hF, List.take_length]; rfl
 have fs : ∀ i (hi : i < l.length), F (i + 1) = mgT1 a b (F i) l[i] := fun i hi => by rw [hF, hF, List.take_succ_eq_append_getElem hi, List.foldl_append]; rfl
 clear hF
 simp [go_sem, he, c1, c2, c3, c4, c5, c5']
 refine IWp.shut fun Q hQ => ?_
 refine IWp.loopI (α := Nat) (fun i => (⟨false, 103, 21, [28, 53, 55, 56, 57, 58, 61, 74, 99], glT, [(2, .int .i64 a), (3, .int .i64 b), (5, .int .i64 n), (10, .ptr 1 1 0 0), (12, .ptr 2 1 0 0), (16, .int .i64 (F i)), (55, .fz 4 (ems l)), (56, .int .i64 l.length), (57, .int .i64 (i : Int))], []⟩, [.dead, .rows 2 [[.int .i64 f.num, .int .i64 f.den]], .rows 2 [[.int .i64 0, .int .i64 0]]]))
  (fun i => i ≤ l.length) (fun i => l.length - i) 0 (by omega) (by simp [go_sem, f0]) ?_
 intro i hi
 by_cases hil : i < l.length
 ·have wi : IntKind.i64.wrap ((i : Int) + 1) = i + 1 := wrap64 (by omega) (by omega)
  have hmi := hm l[i] (List.getElem_mem hil)
  have hfs := fs i hil
  obtain ⟨m, hmm⟩ : ∃ m, l[i] = m := ⟨_, rfl⟩
  rw [hmm] at hmi hfs
  obtain ⟨m1, m2, m3, m4⟩ := m
  simp only [mgT1] at hmi hfs
  have wm : IntKind.i64.wrap (-m4) = -m4 := wrap64 (by omega) (by omega)
  refine IWp.now ?_
  by_cases d1 : m2 = a
  ·by_cases d2 : m3 = b
   ·rw [if_pos ⟨d1, d2⟩] at hfs
    simp [go_sem, hil, hmm, d1, d2, wi]
    exact ⟨i + 1, ⟨by rw [hfs], by omega⟩, by omega, by omega⟩
   ·have d3 : ¬ m2 = b := fun e => c5 (by rw [← d1, e])
    have d3' : ¬ a = b := c5
    rw [if_neg (fun h => d2 h.2), if_neg (fun h => d3 h.1)] at hfs
    simp [go_sem, hil, hmm, d1, d2, d3', wi]
    exact ⟨i + 1, ⟨by rw [hfs], by omega⟩, by omega, by omega⟩
  ·rw [if_neg (fun h => d1 h.1)] at hfs
   by_cases d3 : m2 = b
   ·by_cases d4 : m3 = a
    ·rw [if_pos ⟨d3, d4⟩] at hfs
     have d5 : ¬ b = a := fun e => c5 e.symm
     simp [go_sem, hil, hmm, d3, d4, d5, wi, wm]
     exact ⟨i + 1, ⟨by rw [hfs], by omega⟩, by omega, by omega⟩
    ·rw [if_neg (fun h => d4 h.2)] at hfs
     have d5 : ¬ b = a := fun e => c5 e.symm
     simp [go_sem, hil, hmm, d3, d4, d5, wi]
     exact ⟨i + 1, ⟨by rw [hfs], by omega⟩, by omega, by omega⟩
   ·rw [if_neg (fun h => d3 h.1)] at hfs
    simp [go_sem, hil, hmm, d1, d3, wi]
    exact ⟨i + 1, ⟨by rw [hfs], by omega⟩, by omega, by omega⟩
 obtain rfl : i = l.length := by omega
 rw [fl]
 have ecl : (if 100000 < (if mgT a b l < -100000 then -100000 else mgT a b l) then 100000 else if mgT a b l < -100000 then -100000 else mgT a b l) = clampM (mgT a b l) := rfl
 refine IWp.now ?_
 simp [go_sem]
 rw [hQ]
 simp [go_sem, ecl]
 generalize clampM (mgT a b l) = D at *
 generalize carryF f n D = q at *
 obtain ⟨⟨q1, q2⟩, q3⟩ := q
 simp only at hE ck
 refine ck.callF (by simp [go_sem]) ?_
 rintro _ rfl
 by_cases hq : q3 = 0
 ·rw [if_neg (by simp [hq])] at hE
  simp [go_sem, hq]
  exact fin _ _ _ hE (by simp [go_sem])
 ·rw [if_pos hq] at hE
  have hq2 : (q3 != 0) = true := by rw [bne_iff_ne]; exact hq
  simp [go_sem, hq, hq2]
  exact fin _ _ _ hE (by simp [go_sem])
end Go.Idl
