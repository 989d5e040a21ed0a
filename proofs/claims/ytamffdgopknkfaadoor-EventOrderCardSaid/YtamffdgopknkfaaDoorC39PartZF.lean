/-
  Package event: plain: matches in another order.
  Package event: plain: what is known of a part of all matches.
-/
import Derived.Test.YtamffdgopknkfaaDoorC39PartZC
namespace Go.Idl
set_option linter.all false
open Go.Proofs
set_option maxHeartbeats 8000000
set_option maxRecDepth 40000

/-- The same rounds, the matches of each in any order. -/
def SimR : List Er → List Er → Prop
  | [], [] => True
  | r :: A, s :: B => r.draw = s.draw ∧ r.bye = s.bye ∧ r.mg.Perm s.mg ∧ SimR A B
  | _, _ => False
theorem SimR.length : ∀ {A B : List Er}, SimR A B → A.length = B.length
  | [], [], _ => rfl
  | _ :: _, _ :: _, h => by simp [SimR.length h.2.2.2]
  | [], _ :: _, h => h.elim
  | _ :: _, [], h => h.elim
theorem SimR.get : ∀ {A B : List Er}, SimR A B → ∀ {j : Nat}, (A.getD j Er0).draw = (B.getD j Er0).draw ∧ (A.getD j Er0).bye = (B.getD j Er0).bye
  | [], [], _, j => by simp
  | r :: A, s :: B, h, 0 => ⟨h.1, h.2.1⟩
  | r :: A, s :: B, h, j + 1 => by simpa using SimR.get h.2.2.2 (j := j)
  | [], _ :: _, h, _ => h.elim
  | _ :: _, [], h, _ => h.elim
theorem SimR.count : ∀ {A B : List Er}, SimR A B → A.countP (·.over) = B.countP (·.over)
  | [], [], _ => rfl
  | r :: A, s :: B, h => by
    have h1 := SimR.count h.2.2.2
    have h2 : r.over = s.over := by unfold Er.over; rw [h.1, h.2.2.1.length_eq]
    rw [List.countP_cons, List.countP_cons, h1, h2]
  | [], _ :: _, h => h.elim
  | _ :: _, [], h => h.elim
theorem SimR.take : ∀ {A B : List Er} (n : Nat), SimR A B → SimR (A.take n) (B.take n)
  | [], [], n, _ => by simp [SimR]
  | r :: A, s :: B, 0, _ => trivial
  | r :: A, s :: B, n + 1, h => ⟨h.1, h.2.1, h.2.2.1, SimR.take n h.2.2.2⟩
  | [], _ :: _, _, h => h.elim
  | _ :: _, [], _, h => h.elim
theorem SimR.ovrd {A B : List Er} (h : SimR A B) : SimR (ovrd A) (ovrd B) := by
  unfold Go.Idl.ovrd; rw [h.count]; exact h.take _
theorem SimR.eqv {p : Pl} : ∀ {A B a b : List Er}, SimR A B → EqvR p a b → EqvR p (a ++ A) (b ++ B)
  | [], [], a, b, _, h => by simpa using h
  | r :: A, s :: B, a, b, hs, h => by
    have := SimR.eqv hs.2.2.2 (h.snoc hs.1 hs.2.1 hs.2.2.1)
    simpa using this
  | [], _ :: _, _, _, h, _ => h.elim
  | _ :: _, [], _, _, h, _ => h.elim
/-- Entries with the same values are the same entries. -/
theorem perm_of_aget {S T : List ((Int × Int) × Int)} (hS : (S.map (·.1)).Nodup) (hT : (T.map (·.1)).Nodup) (h : ∀ k, aget k S = aget k T) : S.Perm T := by
  have nd : ∀ {R : List ((Int × Int) × Int)}, (R.map (·.1)).Nodup → R.Nodup := fun {R} hR => by
    rw [List.Nodup, List.pairwise_map] at hR
    exact hR.imp fun hab hc => hab (by rw [hc])
  refine (List.perm_ext_iff_of_nodup (nd hS) (nd hT)).2 fun x => ?_
  obtain ⟨k, v⟩ := x
  constructor
  · intro hx
    have := mem_aget hS hx
    rw [h] at this
    exact aget_mem this
  · intro hx
    have := mem_aget hT hx
    rw [← h] at this
    exact aget_mem this
theorem reach_sim {p : Pl} {l l' : List Em} (h : ∀ (n : Nat) (x : Int × Int), (l'.find? (isMm n x)).map (·.m) = (l.find? (isMm n x)).map (·.m)) : ∀ (k n : Nat) (bf bf' : List Er), EqvR p bf' bf → SimR (reach p l' k n bf') (reach p l k n bf)
  | 0, n, bf, bf', _ => trivial
  | k + 1, n, bf, bf', hE => by
    unfold reach
    simp only
    rw [hE.draw]
    by_cases he : (drawR (ordT p bf) (metT bf) (byeT bf)).2.2 ≠ 0
    · rw [if_pos he, if_pos he]; trivial
    rw [if_neg he, if_neg he]
    generalize drawR (ordT p bf) (metT bf) (byeT bf) = q at *
    obtain ⟨d, y, e⟩ := q
    simp only at *
    have hp : (mgs l' n d).Perm (mgs l n d) := perm_of_aget (mgs_nodup _ _ _) (mgs_nodup _ _ _) fun k => by rw [mgs_get, mgs_get, h]
    have ho : (Er.mk d y (mgs l' n d)).over = (Er.mk d y (mgs l n d)).over := by unfold Er.over; rw [hp.length_eq]
    rw [ho]
    by_cases hov : (Er.mk d y (mgs l n d)).over = true
    · rw [if_pos hov, if_pos hov]
      exact ⟨rfl, rfl, hp, reach_sim h k (n + 1) _ _ (hE.snoc rfl rfl hp)⟩
    · rw [if_neg hov, if_neg hov]
      exact ⟨rfl, rfl, hp, trivial⟩
theorem rchd_sim {p : Pl} {l l' : List Em} (h : ∀ (n : Nat) (x : Int × Int), (l'.find? (isMm n x)).map (·.m) = (l.find? (isMm n x)).map (·.m)) : SimR (rchd p l') (rchd p l) := reach_sim h _ _ _ _ (EqvR.refl _ _)
theorem PartB.goodM {p : Pl} {B : List Er} (h : PartB p B) : GoodM p (mB 0 B) := by
  refine ⟨fun e he => (h.fine he).1, fun e he e' he' hk => ?_⟩
  have hn := mB_keys (n := 0) (B := B) fun r hr => (h.ok r hr).nd
  obtain ⟨i, hi, rfl⟩ := List.mem_iff_getElem.1 he
  obtain ⟨j, hj, rfl⟩ := List.mem_iff_getElem.1 he'
  have hij : i = j := by
    have h2 := List.nodup_iff_pairwise_ne.1 hn
    rcases Nat.lt_trichotomy i j with hlt | heq | hgt
    · exact absurd (by rw [List.getElem_map, List.getElem_map]; exact hk) (List.pairwise_iff_getElem.1 h2 i j (by simpa using hi) (by simpa using hj) hlt)
    · exact heq
    · exact absurd (by rw [List.getElem_map, List.getElem_map]; exact hk.symm) (List.pairwise_iff_getElem.1 h2 j i (by simpa using hj) (by simpa using hi) hgt)
  subst hij; rfl
/-- **Matches in any order.** -/
theorem PartB.perm {p : Pl} {B : List Er} (h : PartB p B) {l : List Em} (hl : l.Perm (mB 0 B)) : chkR p l = (-1, 0) ∧ tableE p l = tableE p (mB 0 B) := by
  have hG := h.goodM
  have hs : SimR (Go.Idl.rchd p l) B := by
    have := rchd_sim (p := p) (l := mB 0 B) (l' := l) fun n x => by
      rw [find_eq (l := l) (ea := mB 0 B) (fun e _ => hl.mem_iff) hG.uq hG.mr, hG.find]
    rwa [h.rchd] at this
  have hc : chkR p l = (-1, 0) := by
    refine chk_ok h.pl ((hl.map key3).nodup_iff.2 (mB_keys fun r hr => (h.ok r hr).nd)) fun e he => ?_
    obtain ⟨f1, f2, f3⟩ := h.fine (hl.mem_iff.1 he)
    exact ⟨f1, by rw [hs.length]; exact f2, by rw [hs.get.1]; exact f3⟩
  refine ⟨hc, ?_⟩
  rw [h.table]
  unfold tableE
  rw [hc, if_neg (by simp)]
  have := (hs.ovrd).eqv (EqvR.refl p [])
  rw [List.nil_append, List.nil_append] at this
  rw [this.lines]
end Go.Idl
namespace Go.Idl
set_option linter.all false
open Go.Proofs
set_option maxHeartbeats 8000000
set_option maxRecDepth 40000

/-- What the functions return at the first matches. -/
structure PartOf (p : Pl) (l part : List Em) (OP : List (Int × Int)) (ov : Bool) : Prop where
  opn : openE p part = (OP, 0)
  over : overE p part = (ov, 0)
  iff1 : ov = decide (OP = [])
  iff2 : ov = decide (part.length = l.length)
  draw : ∀ n : Int, (drawE p part n).2.2 = 0 → drawE p l n = drawE p part n
  next : ∀ (i : Nat) (x : Int × Int), OP[i]? = some x → ∃ m, l[part.length + i]? = some m ∧ (m.a, m.b) = x
theorem rowM_get {n : Nat} {S : List ((Int × Int) × Int)} {i : Nat} {e : (Int × Int) × Int} (h : S[i]? = some e) : (rowM n S)[i]? = some ⟨n, e.1.1, e.1.2, e.2⟩ := by
  rw [rowM, List.getElem?_map, h]; rfl
theorem FullB.partOf {p : Pl} {B : List Er} (hf : FullB p B) (he : EndB p B) (hne : B ≠ []) {C : Nat} (hC : C ≤ (mB 0 B).length) : ∃ OP ov, PartOf p (mB 0 B) ((mB 0 B).take C) OP ov := by
  have hP := hf.part he
  have hB0 : B.length ≠ 0 := fun h => hne (List.eq_nil_of_length_eq_zero h)
  by_cases hc : C = (mB 0 B).length
  · rw [List.take_of_length_le (by omega)]
    refine ⟨[], true, ?_, ?_, by simp, by simp, fun n _ => rfl, fun i x h => by simp at h⟩
    · rw [hP.opn, if_neg hB0, opnR_full]
      have : B.getD (B.length - 1) Er0 ∈ B := by
        rw [List.getD_eq_getElem?_getD, List.getElem?_eq_getElem (by omega), Option.getD_some]
        exact List.getElem_mem _
      exact hf.keys _ this
    · rw [hP.overE, hf.ovrd]; simp
  · obtain ⟨C1, r, k, D, e1, e2, e3⟩ := cut_spec (B := B) (c := C) (n := 0) (by omega)
    subst e1
    have hr : r ∈ C1 ++ r :: D := by simp
    have hkeys := hf.keys r hr
    have hnd := (chain_nodup hf.chain (j := C1.length) (r := r) (by simp)).1
    have hmg := hf.mgl hr
    have hQ := hf.cut e2
    have hov := ovrd_cut hf e2
    have htk : (mB 0 (C1 ++ r :: D)).take C = mB 0 (C1 ++ [⟨r.draw, r.bye, r.mg.take k⟩]) := by rw [← e3]; exact mB_cut (by omega)
    have hlen : ((mB 0 (C1 ++ r :: D)).take C).length = C := by rw [List.length_take]; omega
    rw [htk] at hlen ⊢
    refine ⟨r.draw.drop k, false, ?_, ?_, ?_, ?_, fun n hn => ?_, fun i x hx => ?_⟩
    · rw [hQ.opn, if_neg (by simp)]
      have : (C1 ++ [(⟨r.draw, r.bye, r.mg.take k⟩ : Er)]).getD ((C1 ++ [(⟨r.draw, r.bye, r.mg.take k⟩ : Er)]).length - 1) Er0 = ⟨r.draw, r.bye, r.mg.take k⟩ := by simp
      rw [this, opnR_take hkeys hnd]
    · rw [hQ.overE, hov]; simp
    · symm
      rw [decide_eq_false_iff_not]
      intro h
      have := congrArg List.length h
      simp at this
      omega
    · symm
      rw [decide_eq_false_iff_not, hlen]
      exact hc
    · rw [hQ.draw] at hn ⊢
      rw [hP.draw]
      by_cases hb : n < 0 ∨ ((C1 ++ [(⟨r.draw, r.bye, r.mg.take k⟩ : Er)]).length : Int) ≤ n
      · rw [if_pos hb] at hn; simp at hn
      rw [if_neg hb]
      simp only [List.length_append, List.length_cons, List.length_nil] at hb
      rw [if_neg (by simp; omega)]
      obtain ⟨j, hj⟩ : ∃ j : Nat, n.toNat = j := ⟨_, rfl⟩
      rw [hj]
      by_cases hjc : j < C1.length
      · simp [hjc, List.getElem?_append_left hjc]
      · have : j = C1.length := by omega
        subst this
        simp
    · rw [hlen, ← e3, mB_append]
      rw [List.getElem?_append_right (by omega)]
      rw [show (mB 0 C1).length + k + i - (mB 0 C1).length = k + i by omega]
      rw [List.getElem?_drop] at hx
      obtain ⟨hi, hxx⟩ := List.getElem?_eq_some_iff.1 hx
      have hi2 : k + i < r.mg.length := by omega
      have hg : r.mg[k + i]? = some r.mg[k + i] := List.getElem?_eq_getElem hi2
      refine ⟨_, by simp only [mB]; rw [List.getElem?_append_left (by simpa using hi2)]; exact rowM_get hg, ?_⟩
      have h4 : (r.mg.map (·.1))[k + i]? = some x := by rw [hkeys]; exact hx
      rw [List.getElem?_map, hg] at h4
      simp at h4
      rw [← h4]
end Go.Idl
