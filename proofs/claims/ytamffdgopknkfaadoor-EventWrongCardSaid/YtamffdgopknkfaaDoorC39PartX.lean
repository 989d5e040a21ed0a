/-
  Package event: plain: rounds that are known, told as matches.
  Package event: plain: parts of matches.
  Chapter 39: Made: plain.
-/
import Derived.Test.YtamffdgopknkfaaDoorC39PartK
namespace Go.Idl
set_option linter.all false
open Go.Proofs
set_option maxHeartbeats 8000000
set_option maxRecDepth 40000

def rowM (n : Nat) (S : List ((Int × Int) × Int)) : List Em := S.map fun e => ⟨n, e.1.1, e.1.2, e.2⟩
/-- The matches of rounds. -/
def mB : Nat → List Er → List Em
  | _, [] => []
  | n, r :: B => rowM n r.mg ++ mB (n + 1) B
@[simp] theorem rowM_length {n : Nat} {S : List ((Int × Int) × Int)} : (rowM n S).length = S.length := by simp [rowM]
theorem mB_append : ∀ (n : Nat) (A B : List Er), mB n (A ++ B) = mB n A ++ mB (n + A.length) B
  | n, [], B => by simp [mB]
  | n, r :: A, B => by
    simp only [List.cons_append, mB, mB_append (n + 1) A B, List.length_cons, List.append_assoc]
    rw [show n + 1 + A.length = n + (A.length + 1) by omega]
theorem rowM_r {n : Nat} {S : List ((Int × Int) × Int)} {e : Em} (h : e ∈ rowM n S) : e.r = n ∧ ((e.a, e.b), e.m) ∈ S := by
  obtain ⟨⟨⟨a, b⟩, m⟩, hx, rfl⟩ := List.mem_map.1 h
  exact ⟨rfl, hx⟩
theorem mB_mem : ∀ {n : Nat} {B : List Er} {e : Em}, e ∈ mB n B → ∃ (j : Nat) (r : Er), B[j]? = some r ∧ e.r = ((n + j : Nat) : Int) ∧ ((e.a, e.b), e.m) ∈ r.mg
  | n, r :: B, e, h => by
    simp only [mB, List.mem_append] at h
    rcases h with h | h
    · exact ⟨0, r, rfl, rowM_r h⟩
    · obtain ⟨j, r', h1, h2, h3⟩ := mB_mem h
      exact ⟨j + 1, r', by simpa using h1, by rw [h2]; congr 1; omega, h3⟩
theorem mgs_skip {n : Int} {d : List (Int × Int)} : ∀ {l : List Em} {S : List ((Int × Int) × Int)}, (∀ e ∈ l, e.r ≠ n) → l.foldl (mgStep n d) S = S
  | [], _, _ => rfl
  | e :: l, S, h => by
    have : mgStep n d S e = S := by
      unfold mgStep
      rw [if_neg]
      rintro ⟨_, h2, _⟩
      exact h e (List.mem_cons_self ..) h2
    rw [List.foldl_cons, this]
    exact mgs_skip fun e he => h e (List.mem_cons_of_mem _ he)
theorem mgs_rowM {n : Nat} {d : List (Int × Int)} : ∀ {S T : List ((Int × Int) × Int)}, (T.map (·.1) ++ S.map (·.1)).Nodup → (∀ e ∈ S, e.1 ∈ d ∧ mrB e.2 = true) → (rowM n S).foldl (mgStep n d) T = T ++ S
  | [], T, _, _ => by simp [rowM]
  | ⟨⟨a, b⟩, m⟩ :: S, T, h1, h2 => by
    have hn : (a, b) ∉ T.map (·.1) := fun hc => by
      rw [List.nodup_append] at h1
      exact h1.2.2 _ hc _ (List.mem_cons_self ..) rfl
    have hq := aget_none.2 hn
    have hm := h2 _ (List.mem_cons_self ..)
    have : mgStep n d T ⟨n, a, b, m⟩ = T ++ [((a, b), m)] := by
      unfold mgStep
      rw [if_pos ⟨hq, rfl, hm.2, hm.1⟩]
      exact aset_keys _ _ _ hq
    have ih := mgs_rowM (n := n) (d := d) (S := S) (T := T ++ [((a, b), m)]) (by simpa using h1) fun e he => h2 e (List.mem_cons_of_mem _ he)
    simp only [rowM, List.map_cons, List.foldl_cons] at ih ⊢
    rw [this, ih]; simp
/-- Margins that may be those of a round. -/
structure OKr (r : Er) : Prop where
  nd : (r.mg.map (·.1)).Nodup
  ok : ∀ e ∈ r.mg, e.1 ∈ r.draw ∧ mrB e.2 = true
theorem mgs_mB {n : Nat} {B : List Er} {j : Nat} {r : Er} (h : B[j]? = some r) (hr : OKr r) : mgs (mB n B) ((n + j : Nat) : Int) r.draw = r.mg := by
  obtain ⟨hj, e⟩ := List.getElem?_eq_some_iff.1 h
  have hB : B = B.take j ++ r :: B.drop (j + 1) := by
    rw [← e, List.getElem_cons_drop, List.take_append_drop]
  rw [hB, mB_append]
  unfold mgs
  have hl : (B.take j).length = j := by simp; omega
  have s1 : (mB n (B.take j)).foldl (mgStep ((n + j : Nat) : Int) r.draw) [] = [] := mgs_skip fun x hx => by
    obtain ⟨i, r', h1, h2, _⟩ := mB_mem hx
    obtain ⟨hi, _⟩ := List.getElem?_eq_some_iff.1 h1
    rw [hl] at hi
    omega
  rw [List.foldl_append, s1, hl]
  simp only [mB]
  rw [List.foldl_append, mgs_rowM (by simpa using hr.nd) hr.ok, List.nil_append]
  refine mgs_skip fun x hx => ?_
  obtain ⟨i, r', _, h2, _⟩ := mB_mem hx
  omega
/-- Each round is drawn from those before it. -/
def ChainR (p : Pl) : List Er → List Er → Prop
  | _, [] => True
  | bf, r :: B => drawR (ordT p bf) (metT bf) (byeT bf) = (r.draw, r.bye, 0) ∧ ChainR p (bf ++ [r]) B
theorem chain_append {p : Pl} : ∀ {A B bf : List Er}, ChainR p bf (A ++ B) ↔ ChainR p bf A ∧ ChainR p (bf ++ A) B
  | [], B, bf => by simp [ChainR]
  | r :: A, B, bf => by
    simp only [List.cons_append, ChainR, chain_append (A := A), and_assoc]
    rw [show bf ++ [r] ++ A = bf ++ r :: A by simp]
theorem chain_get {p : Pl} : ∀ {B bf : List Er} {j : Nat} {r : Er}, ChainR p bf B → B[j]? = some r → drawR (ordT p (bf ++ B.take j)) (metT (bf ++ B.take j)) (byeT (bf ++ B.take j)) = (r.draw, r.bye, 0)
  | r :: B, bf, 0, r', h, e => by
    simp only [List.getElem?_cons_zero, Option.some.injEq] at e
    subst e
    simpa using h.1
  | r :: B, bf, j + 1, r', h, e => by
    have := chain_get h.2 (j := j) (by simpa using e)
    simpa using this
theorem chain_ok {p : Pl} {B : List Er} {j : Nat} {r : Er} (h : ChainR p [] B) (e : B[j]? = some r) : DrawOK (ordT p (B.take j)) (metT (B.take j)) (byeT (B.take j)) r.draw r.bye := by
  have h1 := chain_get h e
  rw [List.nil_append] at h1
  have := drawR_ok (met := metT (B.take j)) (byes := byeT (B.take j)) (ordT_nodup p (B.take j)) (by rw [h1])
  rwa [h1] at this
theorem chain_nodup {p : Pl} {B : List Er} {j : Nat} {r : Er} (h : ChainR p [] B) (e : B[j]? = some r) : r.draw.Nodup ∧ (endsP r.draw).Nodup := by
  have := (chain_ok h e).nodup (ordT_nodup p _)
  exact ⟨(endsP_nodup this).1, this⟩
theorem chain_len {p : Pl} {B : List Er} {j : Nat} {r : Er} (h : ChainR p [] B) (e : B[j]? = some r) : r.draw.length = p.t.toNat / 2 := by
  have := (chain_ok h e).len
  rwa [ordT_length] at this
theorem reach_chain {p : Pl} {l : List Em} : ∀ (B : List Er) (k n : Nat) (bf : List Er), ChainR p bf B → (∀ (j : Nat) (r : Er), B[j]? = some r → mgs l ((n + j : Nat) : Int) r.draw = r.mg) → (∀ (j : Nat) (r : Er), B[j]? = some r → j + 1 < B.length → r.over = true) → B.length ≤ k →
    ((∀ r ∈ B, r.over = true) → B.length = k ∨ (drawR (ordT p (bf ++ B)) (metT (bf ++ B)) (byeT (bf ++ B))).2.2 ≠ 0) → reach p l k n bf = B
  | [], 0, n, bf, _, _, _, _, _ => rfl
  | [], k + 1, n, bf, _, _, _, _, h5 => by
    rcases h5 (by simp) with h | h
    · simp at h
    · unfold reach
      rw [List.append_nil] at h
      simp only
      rw [if_pos h]
  | r :: B, 0, n, bf, _, _, _, h4, _ => by simp at h4
  | r :: B, k + 1, n, bf, h1, h2, h3, h4, h5 => by
    unfold reach
    simp only
    rw [h1.1]
    simp only
    have e0 : mgs l (n : Int) r.draw = r.mg := h2 0 r rfl
    rw [if_neg (by simp), e0]
    by_cases ho : r.over = true
    · have := reach_chain B k (n + 1) (bf ++ [r]) h1.2 (fun j r' hr => by rw [show n + 1 + j = n + (j + 1) by omega]; exact h2 (j + 1) r' (by simpa using hr)) (fun j r' hr hj => h3 (j + 1) r' (by simpa using hr) (by simpa using hj)) (by simpa using h4) (fun ha => by
          have := h5 (fun x hx => by
            rcases List.mem_cons.1 hx with rfl | hx
            · exact ho
            · exact ha x hx)
          simpa using this)
      have hr : (⟨r.draw, r.bye, r.mg⟩ : Er) = r := rfl
      rw [hr, if_pos ho, this]
    · have hB : B = [] := by
        rcases B with _ | ⟨x, B⟩
        · rfl
        · exact absurd (h3 0 r rfl (by simp)) ho
      have hr : (⟨r.draw, r.bye, r.mg⟩ : Er) = r := rfl
      rw [hr, if_neg ho, hB]
/-- Rounds that are all that are reached from their matches. -/
structure PartB (p : Pl) (B : List Er) : Prop where
  pl : plB p = true
  chain : ChainR p [] B
  ok : ∀ r ∈ B, OKr r
  len : B.length ≤ p.r.toNat
  over : ∀ (j : Nat) (r : Er), B[j]? = some r → j + 1 < B.length → r.over = true
  fin : (∀ r ∈ B, r.over = true) → B.length = p.r.toNat ∨ (drawR (ordT p B) (metT B) (byeT B)).2.2 ≠ 0
theorem PartB.rchd {p : Pl} {B : List Er} (h : PartB p B) : rchd p (mB 0 B) = B := by
  refine reach_chain B p.r.toNat 0 [] h.chain (fun j r hr => ?_) h.over h.len ?_
  · exact mgs_mB hr (h.ok r (List.mem_of_getElem? hr))
  · simpa using h.fin
theorem mB_keys : ∀ {n : Nat} {B : List Er}, (∀ r ∈ B, (r.mg.map (·.1)).Nodup) → ((mB n B).map key3).Nodup
  | _, [], _ => by simp [mB]
  | n, r :: B, h => by
    simp only [mB, List.map_append]
    rw [List.nodup_append]
    refine ⟨?_, mB_keys fun x hx => h x (List.mem_cons_of_mem _ hx), ?_⟩
    · have := h r (List.mem_cons_self ..)
      rw [rowM, List.map_map]
      rw [List.Nodup, List.pairwise_map] at this ⊢
      refine this.imp fun hab hc => hab ?_
      simp only [Function.comp, key3, Prod.mk.injEq, true_and] at hc
      exact Prod.ext hc.1 hc.2
    · intro a ha b hb hab
      obtain ⟨x, hx, rfl⟩ := List.mem_map.1 ha
      obtain ⟨y, hy, rfl⟩ := List.mem_map.1 hb
      obtain ⟨h1, _⟩ := rowM_r hx
      obtain ⟨j, _, _, h2, _⟩ := mB_mem hy
      have : x.r = y.r := congrArg Prod.fst hab
      omega
theorem map_ordM {α : Type} (l : List Em) (f : Em → α) : ((ordM l).map fun i => f (l.getD i Em0)).Perm (l.map f) := by
  have h1 := ((ordM_ok l).1).map fun i => f (l.getD i Em0)
  have h2 : ((List.range l.length).map fun i => f (l.getD i Em0)) = l.map f := by
    apply List.ext_getElem (by simp)
    intro i h1 h2
    simp at h1
    simp [h1]
  rwa [h2] at h1
/-- A match passes the check. -/
def FineM (p : Pl) (all : List Er) (e : Em) : Prop := ¬ badM p e ∧ e.r < (all.length : Int) ∧ (e.a, e.b) ∈ (all.getD e.r.toNat Er0).draw
theorem chk_pass {p : Pl} {l : List Em} {all : List Er} : ∀ (A : List Nat) (C : List Nat) (se : List (Int × Int × Int)), (∀ i ∈ A, FineM p all (l.getD i Em0)) → (se ++ A.map fun i => key3 (l.getD i Em0)).Nodup →
    chkP p l all (A ++ C) se = chkP p l all C (se ++ A.map fun i => key3 (l.getD i Em0))
  | [], C, se, _, _ => by simp
  | i :: A, C, se, h1, h2 => by
    obtain ⟨a1, a2, a3⟩ := h1 i (List.mem_cons_self ..)
    have a4 : ((l.getD i Em0).r, (l.getD i Em0).a, (l.getD i Em0).b) ∉ se := fun hc => by
      rw [List.nodup_append] at h2
      exact h2.2.2 _ hc _ (List.mem_cons_self ..) rfl
    rw [List.cons_append]
    conv => lhs; unfold chkP
    rw [if_neg a1, if_neg (by omega), if_neg (not_not_intro a3), if_neg a4]
    have := chk_pass (p := p) (l := l) (all := all) A C (se ++ [key3 (l.getD i Em0)]) (fun j hj => h1 j (List.mem_cons_of_mem _ hj)) (by simpa using h2)
    rw [List.map_cons, show se ++ key3 (l.getD i Em0) :: A.map (fun i => key3 (l.getD i Em0)) = se ++ [key3 (l.getD i Em0)] ++ A.map (fun i => key3 (l.getD i Em0)) by simp]
    exact this
theorem chk_ok {p : Pl} {l : List Em} (hp : plB p = true) (hk : (l.map key3).Nodup) (h : ∀ e ∈ l, FineM p (rchd p l) e) : chkR p l = (-1, 0) := by
  unfold chkR
  rw [if_pos hp]
  have := chk_pass (p := p) (l := l) (all := rchd p l) (ordM l) [] [] (fun i hi => h _ (getD_mem9 (by simpa using (ordM_ok l).1.mem_iff.1 hi))) (by
    rw [List.nil_append]
    exact (map_ordM l key3).nodup_iff.2 hk)
  rw [List.append_nil] at this
  rw [this]; rfl
theorem PartB.fine {p : Pl} {B : List Er} (h : PartB p B) {e : Em} (he : e ∈ mB 0 B) : FineM p B e := by
  obtain ⟨j, r, h1, h2, h3⟩ := mB_mem he
  obtain ⟨hj, hq⟩ := List.getElem?_eq_some_iff.1 h1
  have hr := (h.ok r (List.mem_of_getElem? h1)).ok _ h3
  have hl := h.len
  refine ⟨?_, by omega, ?_⟩
  · unfold badM
    simp only at hr
    rintro (hc | hc | hc)
    · omega
    · omega
    · rw [hr.2] at hc; cases hc
  · have : e.r.toNat = j := by omega
    rw [this, List.getD_eq_getElem?_getD, h1]
    exact hr.1
theorem PartB.chk {p : Pl} {B : List Er} (h : PartB p B) : chkR p (mB 0 B) = (-1, 0) :=
  chk_ok h.pl (mB_keys fun r hr => (h.ok r hr).nd) fun e he => by rw [h.rchd]; exact h.fine he
/-- All matches of all rounds are known. -/
structure FullB (p : Pl) (B : List Er) : Prop where
  pl : plB p = true
  chain : ChainR p [] B
  keys : ∀ r ∈ B, r.mg.map (·.1) = r.draw
  mr : ∀ r ∈ B, ∀ e ∈ r.mg, mrB e.2 = true
  len : B.length ≤ p.r.toNat
def EndB (p : Pl) (B : List Er) : Prop := B.length = p.r.toNat ∨ (drawR (ordT p B) (metT B) (byeT B)).2.2 ≠ 0
theorem FullB.mgl {p : Pl} {B : List Er} (h : FullB p B) {r : Er} (hr : r ∈ B) : r.mg.length = r.draw.length := by
  have := congrArg List.length (h.keys r hr)
  simpa using this
theorem FullB.ov {p : Pl} {B : List Er} (h : FullB p B) {r : Er} (hr : r ∈ B) : r.over = true := over_iff9.2 (h.mgl hr)
theorem FullB.okr {p : Pl} {B : List Er} (h : FullB p B) {r : Er} (hr : r ∈ B) : OKr r := by
  obtain ⟨j, hj⟩ := List.getElem?_of_mem hr
  refine ⟨by rw [h.keys r hr]; exact (chain_nodup h.chain hj).1, fun e he => ⟨?_, h.mr r hr e he⟩⟩
  rw [← h.keys r hr]
  exact List.mem_map_of_mem he
theorem FullB.part {p : Pl} {B : List Er} (h : FullB p B) (he : EndB p B) : PartB p B :=
  ⟨h.pl, h.chain, fun r hr => h.okr hr, h.len, fun j r hr _ => h.ov (List.mem_of_getElem? hr), fun _ => he⟩
theorem plB_t {p : Pl} (h : plB p = true) : 2 ≤ p.t ∧ p.t ≤ 16 ∧ 1 ≤ p.r ∧ p.r ≤ 15 ∧ scB p.s = true ∧ 0 ≤ p.b ∧ p.b ≤ 2 * p.s.length := by
  unfold plB at h
  simp only [Bool.and_eq_true, decide_eq_true_eq] at h
  obtain ⟨⟨⟨⟨⟨⟨h1, h2⟩, h3⟩, h4⟩, h5⟩, h6⟩, h7⟩ := h
  exact ⟨h1, h2, h3, h4, h5, h6, h7⟩
/-- A round that is reached, without a match yet. -/
theorem FullB.next {p : Pl} {B : List Er} (h : FullB p B) (hl : B.length < p.r.toNat) {d : List (Int × Int)} {y : Int} (hd : drawR (ordT p B) (metT B) (byeT B) = (d, y, 0)) : PartB p (B ++ [⟨d, y, []⟩]) := by
  have hc : ChainR p [] (B ++ [⟨d, y, []⟩]) := chain_append.2 ⟨h.chain, by simp [ChainR, hd]⟩
  have hlen : d.length = p.t.toNat / 2 := chain_len hc (j := B.length) (r := ⟨d, y, []⟩) (by simp)
  have ht := plB_t h.pl
  refine ⟨h.pl, hc, fun r hr => ?_, by simp; omega, fun j r hr hj => ?_, fun ha => ?_⟩
  · rcases List.mem_append.1 hr with hr | hr
    · exact h.okr hr
    · rw [List.mem_singleton.1 hr]; exact ⟨by simp, by simp⟩
  · simp at hj
    rw [List.getElem?_append_left hj] at hr
    exact h.ov (List.mem_of_getElem? hr)
  · have h9 : 0 = d.length := over_iff9.1 (ha ⟨d, y, []⟩ (by simp))
    omega
theorem mB_next {B : List Er} {d : List (Int × Int)} {y : Int} : mB 0 (B ++ [⟨d, y, []⟩]) = mB 0 B := by
  rw [mB_append]; simp [mB, rowM]
/-- What comes next, drawn. -/
theorem FullB.draw {p : Pl} {B : List Er} (h : FullB p B) (hl : B.length < p.r.toNat) : drawE p (mB 0 B) B.length = if (drawR (ordT p B) (metT B) (byeT B)).2.2 ≠ 0 then ([], 0, 6) else ((drawR (ordT p B) (metT B) (byeT B)).1, (drawR (ordT p B) (metT B) (byeT B)).2.1, 0) := by
  by_cases hd : (drawR (ordT p B) (metT B) (byeT B)).2.2 ≠ 0
  · rw [if_pos hd]
    have hp := h.part (.inr hd)
    unfold drawE
    rw [hp.chk, if_neg (by simp), hp.rchd, if_pos (by omega)]
  · rw [if_neg hd]
    obtain ⟨d, y, e⟩ : ∃ d y, drawR (ordT p B) (metT B) (byeT B) = (d, y, 0) := ⟨_, _, Prod.ext rfl (Prod.ext rfl (by simpa using hd))⟩
    have hp := h.next hl e
    have hc := hp.chk
    have hr := hp.rchd
    rw [mB_next] at hc hr
    unfold drawE
    rw [hc, if_neg (by simp), hr, e, if_neg (by simp; omega)]
    simp
end Go.Idl
namespace Go.Idl
set_option linter.all false
open Go.Proofs
set_option maxHeartbeats 8000000
set_option maxRecDepth 40000

theorem PartB.draw {p : Pl} {B : List Er} (h : PartB p B) (n : Int) : drawE p (mB 0 B) n = if n < 0 ∨ (B.length : Int) ≤ n then ([], 0, 6) else ((B.getD n.toNat Er0).draw, (B.getD n.toNat Er0).bye, 0) := by
  unfold drawE; rw [h.chk, if_neg (by simp), h.rchd]
theorem PartB.table {p : Pl} {B : List Er} (h : PartB p B) : tableE p (mB 0 B) = (tabL9 p (ovrd B), 0) := by
  unfold tableE; rw [h.chk, if_neg (by simp), h.rchd]
theorem PartB.overE {p : Pl} {B : List Er} (h : PartB p B) : overE p (mB 0 B) = (decide (B.length = (ovrd B).length), 0) := by
  unfold Go.Idl.overE; rw [h.chk, if_neg (by simp), h.rchd]
theorem PartB.qual {p : Pl} {B : List Er} (h : PartB p B) (n : Int) : qualE p (mB 0 B) n = if B.length ≠ (ovrd B).length then ([], 392) else if n < 1 ∨ p.t < n then ([], 2) else (((tabL9 p (ovrd B)).take n.toNat).map (·.team), 0) := by
  unfold qualE; rw [h.chk, if_neg (by simp), h.rchd]
theorem PartB.opn {p : Pl} {B : List Er} (h : PartB p B) : openE p (mB 0 B) = if B.length = 0 then ([], 0) else (opnR (B.getD (B.length - 1) Er0), 0) := by
  unfold openE lastR; rw [h.chk, if_neg (by simp), h.rchd]
theorem FullB.ovrd {p : Pl} {B : List Er} (h : FullB p B) : ovrd B = B := ovrd_all fun r hr => h.ov hr
theorem opnR_full {r : Er} (h : r.mg.map (·.1) = r.draw) : opnR r = [] := by
  unfold opnR
  rw [List.filter_eq_nil_iff]
  intro x hx hc
  rw [← h] at hx
  have h1 := aget_none (a := x) (S := r.mg)
  cases hq : aget x r.mg with
  | some v => rw [hq] at hc; simp at hc
  | none =>
    rw [hq] at h1
    exact h1.1 rfl hx
theorem opnR_take {d : List (Int × Int)} {y : Int} {S : List ((Int × Int) × Int)} (h : S.map (·.1) = d) (hd : d.Nodup) (k : Nat) : opnR ⟨d, y, S.take k⟩ = d.drop k := by
  unfold opnR
  simp only
  have e : d = d.take k ++ d.drop k := (List.take_append_drop k d).symm
  have hk : (S.take k).map (·.1) = d.take k := by rw [List.map_take, h]
  conv => lhs; arg 2; rw [e]
  rw [List.filter_append]
  have hn : (d.take k ++ d.drop k).Nodup := by rw [← e]; exact hd
  rw [List.nodup_append] at hn
  have h1 : (d.take k).filter (fun x => (aget x (S.take k)).isNone) = [] := by
    rw [List.filter_eq_nil_iff]
    intro x hx hc
    have h1 := aget_none (a := x) (S := S.take k)
    rw [hk] at h1
    cases hq : aget x (S.take k) with
    | some v => rw [hq] at hc; simp at hc
    | none => rw [hq] at h1; exact h1.1 rfl hx
  have h2 : (d.drop k).filter (fun x => (aget x (S.take k)).isNone) = d.drop k := by
    rw [List.filter_eq_self]
    intro x hx
    have h1 := aget_none (a := x) (S := S.take k)
    rw [hk] at h1
    have h3 := h1.2 fun hc => hn.2.2 x hc x hx rfl
    cases hq : aget x (S.take k) with
    | some v => rw [hq] at h3; simp at h3
    | none => rfl
  rw [h1, h2, List.nil_append]
theorem cut_spec : ∀ {B : List Er} {c n : Nat}, c < (mB n B).length → ∃ C r k D, B = C ++ r :: D ∧ k < r.mg.length ∧ (mB n C).length + k = c
  | [], c, n, h => by simp [mB] at h
  | r :: B, c, n, h => by
    by_cases hc : c < r.mg.length
    · exact ⟨[], r, c, B, rfl, hc, by simp [mB]⟩
    · obtain ⟨C, r', k, D, h1, h2, h3⟩ := cut_spec (B := B) (c := c - r.mg.length) (n := n + 1) (by simp [mB] at h; omega)
      exact ⟨r :: C, r', k, D, by rw [h1]; rfl, h2, by simp only [mB, List.length_append, rowM_length]; omega⟩
theorem mB_cut {C D : List Er} {r : Er} {k n : Nat} (hk : k ≤ r.mg.length) : (mB n (C ++ r :: D)).take ((mB n C).length + k) = mB n (C ++ [⟨r.draw, r.bye, r.mg.take k⟩]) := by
  rw [mB_append, mB_append, List.take_length_add_append]
  congr 1
  simp only [mB, List.append_nil]
  rw [List.take_append_of_le_length (by simpa using hk)]
  simp [rowM]
theorem FullB.left {p : Pl} {C D : List Er} (h : FullB p (C ++ D)) : FullB p C :=
  ⟨h.pl, (chain_append.1 h.chain).1, fun r hr => h.keys r (List.mem_append_left _ hr), fun r hr => h.mr r (List.mem_append_left _ hr), by have := h.len; simp at this; omega⟩
theorem FullB.cut {p : Pl} {C D : List Er} {r : Er} {k : Nat} (h : FullB p (C ++ r :: D)) (hk : k < r.mg.length) : PartB p (C ++ [⟨r.draw, r.bye, r.mg.take k⟩]) := by
  have hr : r ∈ C ++ r :: D := by simp
  have ho := h.okr hr
  have hc := (chain_append.1 h.chain)
  refine ⟨h.pl, chain_append.2 ⟨hc.1, ?_⟩, fun q hq => ?_, by have := h.len; simp at this ⊢; omega, fun j q hq hj => ?_, fun ha => ?_⟩
  · have := hc.2
    simp only [ChainR] at this ⊢
    exact ⟨this.1, trivial⟩
  · rcases List.mem_append.1 hq with hq | hq
    · exact h.left.okr hq
    · rw [List.mem_singleton.1 hq]
      refine ⟨?_, fun e he => ho.ok e (List.mem_of_mem_take he)⟩
      simp only [List.map_take]
      exact ho.nd.sublist (List.take_sublist _ _)
  · simp at hj
    rw [List.getElem?_append_left hj] at hq
    exact h.left.ov (List.mem_of_getElem? hq)
  · have h1 : (r.mg.take k).length = r.draw.length := over_iff9.1 (ha ⟨r.draw, r.bye, r.mg.take k⟩ (by simp))
    have h2 := h.mgl hr
    rw [List.length_take] at h1
    omega
theorem ovrd_cut {p : Pl} {C D : List Er} {r : Er} {k : Nat} (h : FullB p (C ++ r :: D)) (hk : k < r.mg.length) : ovrd (C ++ [⟨r.draw, r.bye, r.mg.take k⟩]) = C := by
  have h1 : (C ++ [(⟨r.draw, r.bye, r.mg.take k⟩ : Er)]).countP (fun q : Er => q.over) = C.length := by
    rw [List.countP_append, List.countP_eq_length.2 fun q hq => h.left.ov hq]
    have h2 := h.mgl (r := r) (by simp)
    have : (Er.mk r.draw r.bye (r.mg.take k)).over = false := by
      rw [← Bool.not_eq_true]
      intro hc
      have h3 : (r.mg.take k).length = r.draw.length := over_iff9.1 hc
      rw [List.length_take] at h3
      omega
    simp [this]
  unfold ovrd
  rw [h1]; simp
/-- The teams of a table. -/
theorem tabL9_teams (p : Pl) (B : List Er) : ((tabL9 p B).map (·.team)).Perm ((List.range p.t.toNat).map fun i : Nat => (i : Int) + 1) := ordT_perm p B
/-- The first round can be drawn. -/
theorem first_draw {p : Pl} (h2 : 2 ≤ p.t) (h9 : p.t ≤ 9) : (drawR (ordT p []) (metT []) (byeT [])).2.2 = 0 := by
  have e : ordT p [] = ordT ⟨p.t, 1, 0, []⟩ [] := rfl
  rw [e]
  rcases (by omega : p.t = 2 ∨ p.t = 3 ∨ p.t = 4 ∨ p.t = 5 ∨ p.t = 6 ∨ p.t = 7 ∨ p.t = 8 ∨ p.t = 9) with h | h | h | h | h | h | h | h <;> rw [h] <;> decide +kernel
theorem EndB.ne {p : Pl} {B : List Er} (h : EndB p B) (hp : plB p = true) (h9 : p.t ≤ 9) : B ≠ [] := by
  rintro rfl
  have ht := plB_t hp
  rcases h with h | h
  · simp at h; omega
  · exact h (first_draw ht.1 h9)
end Go.Idl
namespace Go.Idl
set_option linter.all false
open Go.Proofs
set_option maxHeartbeats 8000000
set_option maxRecDepth 40000

def limL : Int → List Int → List Int
  | _, [] => []
  | a, n :: l => (a + (1 + n % 20)) :: limL (a + (1 + n % 20)) l
def limE : Int → List Int → Int
  | a, [] => a
  | a, n :: l => limE (a + (1 + n % 20)) l
theorem limL_snoc : ∀ {a n : Int} {l : List Int}, limL a (l ++ [n]) = limL a l ++ [limE a l + (1 + n % 20)]
  | a, n, [] => rfl
  | a, n, m :: l => by simp only [List.cons_append, limL, limE, limL_snoc]
theorem limE_snoc : ∀ {a n : Int} {l : List Int}, limE a (l ++ [n]) = limE a l + (1 + n % 20)
  | a, n, [] => rfl
  | a, n, m :: l => by simp only [List.cons_append, limE, limE_snoc]
@[simp] theorem limL_length : ∀ {a : Int} {l : List Int}, (limL a l).length = l.length
  | _, [] => rfl
  | _, _ :: _ => by simp [limL, limL_length]
theorem limE_bd : ∀ {a : Int} {l : List Int}, a ≤ limE a l ∧ limE a l ≤ a + 20 * l.length
  | a, [] => by simp [limE]
  | a, n :: l => by
    have := limE_bd (a := a + (1 + n % 20)) (l := l)
    simp only [limE, List.length_cons]
    omega
theorem limL_sc : ∀ {a : Int} {l : List Int}, 0 ≤ a → a + 20 * l.length ≤ 1000000 → scGo a (limL a l) = true
  | _, [], _, _ => rfl
  | a, n :: l, h0, h => by
    simp only [List.length_cons] at h
    simp only [limL, scGo, Bool.and_eq_true, decide_eq_true_eq]
    exact ⟨⟨by omega, by omega⟩, limL_sc (by omega) (by omega)⟩
/-- A sketch. -/
structure Sk where
  a : Int
  b : Int
  c : Int
  L : List Int
  M : List Int
def scX (L : List Int) : List Int := if L.length = 0 then [1] else limL 0 (L.take 5)
theorem scX_len (L : List Int) : 1 ≤ (scX L).length ∧ (scX L).length ≤ 5 := by unfold scX; split <;> simp <;> omega
theorem scX_ok (L : List Int) : scB (scX L) = true := by
  have := scX_len L
  unfold scB
  simp only [Bool.and_eq_true, decide_eq_true_eq]
  refine ⟨⟨by omega, by omega⟩, ?_⟩
  unfold scX
  split
  · rfl
  · exact limL_sc (by omega) (by simp; omega)
def pX (x : Sk) : Pl := ⟨2 + x.a % 8, 1 + x.b % 6, x.c % (2 * ((scX x.L).length : Int) + 1), scX x.L⟩
theorem pX_ok (x : Sk) : plB (pX x) = true := by
  have := scX_len x.L
  have h2 := Int.emod_nonneg x.c (b := 2 * ((scX x.L).length : Int) + 1) (by omega)
  have h3 := Int.emod_lt_of_pos x.c (b := 2 * ((scX x.L).length : Int) + 1) (by omega)
  unfold plB pX
  simp only [Bool.and_eq_true, decide_eq_true_eq]
  exact ⟨⟨⟨⟨⟨⟨by omega, by omega⟩, by omega⟩, by omega⟩, scX_ok _⟩, by omega⟩, by omega⟩
theorem pX_bd (x : Sk) : (2 ≤ (pX x).t ∧ (pX x).t ≤ 9) ∧ (1 ≤ (pX x).r ∧ (pX x).r ≤ 6) := by unfold pX; simp only; omega
/-- The margin of the k-th match. -/
def margM (M : List Int) (k : Nat) : Int := if M.length = 0 then 0 else M.getD (k % M.length) 0
def mgX (M : List Int) : Nat → List (Int × Int) → List ((Int × Int) × Int)
  | _, [] => []
  | k, x :: d => (x, margM M k) :: mgX M (k + 1) d
theorem mgX_keys {M : List Int} : ∀ {k : Nat} {d : List (Int × Int)}, (mgX M k d).map (·.1) = d
  | _, [] => rfl
  | _, _ :: _ => by simp [mgX, mgX_keys]
theorem mgX_snoc {M : List Int} : ∀ {k : Nat} {d : List (Int × Int)} {x : Int × Int}, mgX M k (d ++ [x]) = mgX M k d ++ [(x, margM M (k + d.length))]
  | _, [], _ => by simp [mgX]
  | k, y :: d, x => by simp only [List.cons_append, mgX, mgX_snoc, List.length_cons]; rw [show k + 1 + d.length = k + (d.length + 1) by omega]
@[simp] theorem mgX_length {M : List Int} {k : Nat} {d : List (Int × Int)} : (mgX M k d).length = d.length := by
  have := congrArg List.length (mgX_keys (M := M) (k := k) (d := d))
  simpa using this
theorem margM_mr {M : List Int} (h : ∀ m ∈ M, -128 ≤ m ∧ m < 128) (k : Nat) : mrB (margM M k) = true := by
  unfold margM mrB
  simp only [Bool.and_eq_true, decide_eq_true_eq]
  split
  · omega
  · rename_i h0
    have hk : k % M.length < M.length := Nat.mod_lt _ (by omega)
    have := h M[k % M.length] (List.getElem_mem ..)
    rw [List.getD_eq_getElem?_getD, List.getElem?_eq_getElem hk, Option.getD_some]
    omega
theorem mgX_mr {M : List Int} (h : ∀ m ∈ M, -128 ≤ m ∧ m < 128) : ∀ {k : Nat} {d : List (Int × Int)}, ∀ e ∈ mgX M k d, mrB e.2 = true
  | k, x :: d, e, he => by
    rcases List.mem_cons.1 he with rfl | he
    · exact margM_mr h k
    · exact mgX_mr h e he
/-- The rounds that are made. -/
def mdGo (p : Pl) (M : List Int) : Nat → List Er → List Er
  | 0, B => B
  | k + 1, B =>
    if (drawR (ordT p B) (metT B) (byeT B)).2.2 ≠ 0 then B else
    mdGo p M k (B ++ [⟨(drawR (ordT p B) (metT B) (byeT B)).1, (drawR (ordT p B) (metT B) (byeT B)).2.1, mgX M (mB 0 B).length (drawR (ordT p B) (metT B) (byeT B)).1⟩])
theorem FullB.step {p : Pl} {B : List Er} (h : FullB p B) (hl : B.length < p.r.toNat) {M : List Int} (hM : ∀ m ∈ M, -128 ≤ m ∧ m < 128) {d : List (Int × Int)} {y : Int} (hd : drawR (ordT p B) (metT B) (byeT B) = (d, y, 0)) {k : Nat} : FullB p (B ++ [⟨d, y, mgX M k d⟩]) := by
  refine ⟨h.pl, chain_append.2 ⟨h.chain, by simp [ChainR, hd]⟩, fun r hr => ?_, fun r hr => ?_, by simp; omega⟩
  · rcases List.mem_append.1 hr with hr | hr
    · exact h.keys r hr
    · rw [List.mem_singleton.1 hr]; exact mgX_keys
  · rcases List.mem_append.1 hr with hr | hr
    · exact h.mr r hr
    · rw [List.mem_singleton.1 hr]; exact mgX_mr hM
theorem FullB.nil {p : Pl} (h : plB p = true) : FullB p [] := ⟨h, trivial, by simp, by simp, by simp⟩
theorem mdGo_full {p : Pl} {M : List Int} (hM : ∀ m ∈ M, -128 ≤ m ∧ m < 128) : ∀ (k : Nat) (B : List Er), FullB p B → B.length + k = p.r.toNat → FullB p (mdGo p M k B) ∧ EndB p (mdGo p M k B)
  | 0, B, h, hk => ⟨h, .inl hk⟩
  | k + 1, B, h, hk => by
    unfold mdGo
    by_cases hd : (drawR (ordT p B) (metT B) (byeT B)).2.2 ≠ 0
    · rw [if_pos hd]; exact ⟨h, .inr hd⟩
    · rw [if_neg hd]
      exact mdGo_full hM k _ (h.step (by omega) hM (Prod.ext rfl (Prod.ext rfl (by simpa using hd)))) (by simp; omega)
def bX (x : Sk) : List Er := mdGo (pX x) x.M (pX x).r.toNat []
def lX (x : Sk) : List Em := mB 0 (bX x)
theorem bX_full {x : Sk} (hM : ∀ m ∈ x.M, -128 ≤ m ∧ m < 128) : FullB (pX x) (bX x) ∧ EndB (pX x) (bX x) := mdGo_full hM _ [] (FullB.nil (pX_ok x)) (by simp)
theorem mB_le {p : Pl} {B : List Er} (h : FullB p B) (n : Nat) : (mB n B).length = B.length * (p.t.toNat / 2) := by
  have : ∀ (C : List Er) (n : Nat), (∀ r ∈ C, r.mg.length = p.t.toNat / 2) → (mB n C).length = C.length * (p.t.toNat / 2) := by
    intro C
    induction C with
    | nil => intro n _; simp [mB]
    | cons r C ih =>
      intro n hc
      simp only [mB, List.length_append, rowM_length, ih (n + 1) fun x hx => hc x (List.mem_cons_of_mem _ hx), hc r (List.mem_cons_self ..), List.length_cons, Nat.add_mul]
      omega
  refine this B n fun r hr => ?_
  obtain ⟨j, hj⟩ := List.getElem?_of_mem hr
  rw [h.mgl hr, chain_len h.chain hj]
end Go.Idl
