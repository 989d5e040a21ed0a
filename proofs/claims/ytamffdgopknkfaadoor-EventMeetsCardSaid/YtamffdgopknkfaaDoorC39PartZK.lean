/-
  Package event: plain: sums over the table; how often a team plays.
  Package event: plain: who is looked up in a round; how many byes the table shows.
-/
import Derived.Test.YtamffdgopknkfaaDoorC39PartZE
namespace Go.Idl
set_option linter.all false
open Go.Proofs
set_option maxHeartbeats 8000000
set_option maxRecDepth 40000

theorem perm_sum {A B : List Int} (h : A.Perm B) : A.sum = B.sum := by
  induction h with
  | nil => rfl
  | cons x _ ih => simp [ih]
  | swap x y l => simp; omega
  | trans _ _ ih1 ih2 => exact ih1.trans ih2
theorem plcLn_map {g : Ln → Int} (hg : ∀ (x : Ln) (n : Int), g { x with place := n } = g x) : ∀ (k : Nat) (L : List Ln), (plcLn k L).map g = L.map g
  | _, [] => rfl
  | k, x :: L => by simp [plcLn, plcLn_map hg (k + 1) L, hg]
theorem sum_tabL9 {p : Pl} {B : List Er} {g : Ln → Int} (hg : ∀ (x : Ln) (n : Int), g { x with place := n } = g x) : ((tabL9 p B).map g).sum = ((tabU p B).map g).sum := by
  unfold tabL9
  rw [plcLn_map hg]
  exact perm_sum ((srtLn_perm _).map g)
theorem endsP_cons (e : Int × Int) (d : List (Int × Int)) : endsP (e :: d) = e.1 :: e.2 :: endsP d := rfl
theorem sum_nA {T : Int} : ∀ {S : List ((Int × Int) × Int)}, (endsP (S.map (·.1))).Nodup → (S.map (nA T)).sum = if T ∈ endsP (S.map (·.1)) then 1 else 0
  | [], _ => by simp [endsP]
  | e :: S, h => by
    rw [List.map_cons, endsP_cons, List.nodup_cons, List.nodup_cons, List.mem_cons, not_or] at h
    have ih := sum_nA (T := T) (S := S) h.2.2
    rw [List.map_cons, List.map_cons, endsP_cons, List.sum_cons, ih]
    generalize endsP (S.map (·.1)) = E at *
    unfold nA
    simp only [List.mem_cons]
    by_cases h1 : T = e.1.1
    · have : ¬ T ∈ E := by rw [h1]; exact h.1.2
      rw [if_pos (.inl h1), if_neg this, if_pos (.inl h1)]; rfl
    · by_cases h2 : T = e.1.2
      · have : ¬ T ∈ E := by rw [h2]; exact h.2.1
        rw [if_pos (.inr h2), if_neg this, if_pos (.inr (.inl h2))]; rfl
      · rw [if_neg (fun h => h.elim h1 h2)]
        by_cases h3 : T ∈ E
        · rw [if_pos h3, if_pos (.inr (.inr h3))]; rfl
        · rw [if_neg h3, if_neg (fun h => h.elim h1 fun h => h.elim h2 h3)]; rfl
/-- A team plays in all rounds but for the one of its bye. -/
theorem plays_all {p : Pl} {T : Int} (hT : 1 ≤ T ∧ T ≤ p.t) : ∀ B : List Er, FullB p B → ((mB 0 B).map (nM T)).sum = (B.length : Int) - byC T B := by
  apply snoc_ind
  · intro _; simp [mB, byC]
  · intro B r ih h
    have hl := h.left
    have hg : (B ++ [r])[B.length]? = some r := by simp
    have hk := h.keys r (by simp)
    have hn := (chain_nodup h.chain hg).2
    have hp := chain_plays h.chain hg hT
    have e1 : ((mB 0 (B ++ [r])).map (nM T)).sum = ((mB 0 B).map (nM T)).sum + ((rowM B.length r.mg).map (nM T)).sum := by rw [mB_append]; simp [mB]
    have n1 : (rowM B.length r.mg).map (nM T) = r.mg.map (nA T) := rowM_map
    have e2 : byC T (B ++ [r]) = byC T B + if byB T r = true then 1 else 0 := by unfold byC; rw [List.countP_append, List.countP_cons, List.countP_nil]; simp
    rw [e1, n1, sum_nA (by rw [hk]; exact hn), hk, ih hl, e2]
    have hb : byB T r = true ↔ T = r.bye := by
      unfold byB
      simp only [Bool.and_eq_true, decide_eq_true_eq]
      omega
    by_cases hc : T = r.bye
    · rw [if_neg (fun h9 => hp.1 h9 hc), if_pos (hb.2 hc)]; simp; omega
    · rw [if_pos (hp.2 hc), if_neg (fun h9 => hc (hb.1 h9))]; simp; omega
end Go.Idl
namespace Go.Idl
set_option linter.all false
open Go.Proofs
set_option maxHeartbeats 8000000
set_option maxRecDepth 40000

theorem FullB.last {p : Pl} {B : List Er} (h : FullB p B) (hB : B ≠ []) (hl : 0 < (mB 0 B).length) : ((mB 0 B)[(mB 0 B).length - 1]'(by omega)).r = (B.length : Int) - 1 := by
  obtain ⟨C, r, rfl⟩ : ∃ C r, B = C ++ [r] := ⟨B.dropLast, B.getLast hB, (List.dropLast_concat_getLast hB).symm⟩
  have hg : (C ++ [r])[C.length]? = some r := by simp
  have h1 := chain_len h.chain hg
  have h2 := h.mgl (r := r) (by simp)
  have h3 := (plB_t h.pl)
  have e : mB 0 (C ++ [r]) = mB 0 C ++ rowM C.length r.mg := by rw [mB_append]; simp [mB]
  have hr : 0 < (rowM C.length r.mg).length := by rw [rowM_length, h2, h1]; omega
  have key : ∀ (L : List Em) (hL : 0 < L.length), L = mB 0 C ++ rowM C.length r.mg → (L[L.length - 1]'(by omega)).r = (C.length : Int) := by
    rintro L hL rfl
    have hi : (mB 0 C ++ rowM C.length r.mg).length - 1 = (mB 0 C).length + ((rowM C.length r.mg).length - 1) := by rw [List.length_append]; omega
    have : (mB 0 C ++ rowM C.length r.mg)[(mB 0 C ++ rowM C.length r.mg).length - 1] ∈ rowM C.length r.mg := by
      rw [List.getElem_append_right (by omega)]
      exact List.getElem_mem _
    exact (rowM_r this).1
  rw [key _ hl e]
  simp
theorem aget_one {α : Type} [DecidableEq α] {k : α} {L : List α} : aget k (L.map fun x => (x, (1 : Int))) = if k ∈ L then some 1 else none := by
  have h1 := aget_none (a := k) (S := L.map fun x => (x, (1 : Int)))
  rw [List.map_map, show ((fun x : α × Int => x.1) ∘ fun x => (x, (1 : Int))) = id from rfl, List.map_id] at h1
  split
  · rename_i h
    cases hq : aget k (L.map fun x => (x, (1 : Int))) with
    | none => rw [hq] at h1; exact absurd h (h1.1 rfl)
    | some v =>
      have := aget_mem hq
      obtain ⟨x, _, hx⟩ := List.mem_map.1 this
      rw [← (Prod.mk.inj hx).2]
  · rename_i h
    have := h1.2 h
    cases hq : aget k (L.map fun x => (x, (1 : Int))) with
    | none => rfl
    | some v => rw [hq] at this; cases this
theorem FullB.look {p : Pl} {B : List Er} (h : FullB p B) {j : Nat} {r : Er} (e : B[j]? = some r) {T : Int} (hT : 1 ≤ T ∧ T ≤ p.t) :
    aget ((j : Int), T) (((mB 0 B).flatMap inE).map fun x => (x, (1 : Int))) = if T = r.bye then none else some 1 := by
  rw [aget_one]
  have h1 : ((j : Int), T) ∈ (mB 0 B).flatMap inE ↔ T ≠ r.bye := by
    rw [mB_in_mem h.keys, ← chain_plays h.chain e hT]
    constructor
    · rintro ⟨i, q, h1, h2, h3⟩
      simp only at h2 h3
      have : i = j := by omega
      subst this
      rw [e] at h1
      rw [Option.some.inj h1]
      exact h3
    · intro h2
      exact ⟨j, r, e, by simp, h2⟩
  by_cases hc : T = r.bye
  · rw [if_pos hc, if_neg (fun h9 => h1.1 h9 hc)]
  · rw [if_neg hc, if_pos (h1.2 hc)]

/-! ### byes -/
def yeL (x : Ln) : Int := if x.bye = true then 1 else 0
theorem count_sum : ∀ {A : List Int} {n : Nat}, (∀ x ∈ A, 1 ≤ x ∧ x ≤ (n : Int)) → ((List.range n).map fun k : Nat => ((A.count ((k : Int) + 1) : Nat) : Int)).sum = A.length
  | [], n, _ => by
    simp only [List.count_nil, List.length_nil]
    have : ∀ m : List Nat, (m.map fun _ => ((0 : Nat) : Int)).sum = 0 := fun m => by induction m with
      | nil => rfl
      | cons a m ih => rw [List.map_cons, List.sum_cons, ih]; rfl
    exact this _
  | x :: A, n, h => by
    have ih := count_sum (A := A) (n := n) fun y hy => h y (List.mem_cons_of_mem _ hy)
    have hx := h x (List.mem_cons_self ..)
    have e1 : ∀ m : List Nat, (m.map fun k : Nat => (((x :: A).count ((k : Int) + 1) : Nat) : Int)).sum = (m.map fun k : Nat => ((A.count ((k : Int) + 1) : Nat) : Int)).sum + (m.count (x - 1).toNat : Nat) := fun m => by
      induction m with
      | nil => rfl
      | cons a m ih =>
        rw [List.map_cons, List.sum_cons, ih, List.map_cons, List.sum_cons, List.count_cons, List.count_cons]
        have : (x == (a : Int) + 1) = (a == (x - 1).toNat) := by rw [Bool.eq_iff_iff]; simp; omega
        rw [this]
        split <;> omega
    rw [e1, ih, List.length_cons]
    have : (List.range n).count (x - 1).toNat = 1 := by
      rw [List.nodup_range.count, if_pos (List.mem_range.2 (by omega))]
    rw [this]; omega
theorem FullB.byes {p : Pl} {B : List Er} (h : FullB p B) : ((tabL9 p B).map yeL).sum = (byeT B).length := by
  rw [sum_tabL9 (g := yeL) fun _ _ => rfl]
  have ht := plB_t h.pl
  have e : tabU p B = (List.range p.t.toNat).map fun k : Nat => lineT p ((k : Int) + 1) B := by
    apply List.ext_getElem?
    intro k
    by_cases hk : k < p.t.toNat
    · rw [tabU_get hk B h.two]; simp [hk]
    · rw [List.getElem?_eq_none (by rw [tabU_length]; omega), List.getElem?_eq_none (by simp; omega)]
  have hm : ∀ x ∈ byeT B, 1 ≤ x ∧ x ≤ ((p.t.toNat : Nat) : Int) := fun x hx => by
    unfold byeT at hx
    obtain ⟨r, hr, hx⟩ := List.mem_flatMap.1 hx
    split at hx
    · rename_i hb
      rw [List.mem_singleton] at hx
      subst hx
      obtain ⟨j, hj⟩ := List.getElem?_of_mem hr
      have := chain_bye h.chain hj
      rcases Nat.mod_two_eq_zero_or_one p.t.toNat with hq | hq
      · have := this.1 hq; omega
      · have := (this.2 hq).1; omega
    · simp at hx
  rw [e, List.map_map, ← count_sum hm]
  congr 1
  apply List.map_congr_left
  intro k _
  have h1 := byC_count ((k : Int) + 1) (by omega) B
  have h2 := byC_le h.chain (T := (k : Int) + 1) (by omega)
  simp only [Function.comp, yeL, lineT, decide_eq_true_eq]
  rw [← h1]
  split <;> omega
theorem FullB.byeN {p : Pl} {B : List Er} (h : FullB p B) : (byeT B).length = B.length * (p.t.toNat % 2) := by
  have : ∀ n, n ≤ B.length → (byeT (B.take n)).length = n * (p.t.toNat % 2) := by
    intro n
    induction n with
    | zero => intro _; simp [byeT]
    | succ n ih =>
      intro hn
      have hg : B[n]? = some B[n] := List.getElem?_eq_getElem (by omega)
      rw [List.take_succ_eq_append_getElem (by omega), byeT_snoc, List.length_append, ih (by omega)]
      have hb := chain_bye h.chain hg
      rcases Nat.mod_two_eq_zero_or_one p.t.toNat with hq | hq
      · have := hb.1 hq
        rw [hq, if_neg (by omega)]; simp
      · have := (hb.2 hq).1
        rw [hq, if_pos (by omega)]; simp
  have h2 := this B.length (Nat.le_refl _)
  rwa [List.take_length] at h2
/-- A line of the table: what EventMeets asks of it. -/
theorem FullB.line {p : Pl} {B : List Er} (h : FullB p B) {i : Nat} {y : Ln} (hy : (tabL9 p B)[i]? = some y) : y.place = (i : Int) + 1 ∧ y.played = (B.length : Int) - yeL y ∧ 0 ≤ y.points ∧ y.points ≤ 2 * p.s.length * (mB 0 B).length + p.b := by
  obtain ⟨k, hk, e⟩ := tabL9_get h.two hy
  have ht := plB_t h.pl
  have h1 := byC_le h.chain (T := (k : Int) + 1) (by omega)
  have h2 := plays_all (T := (k : Int) + 1) (by omega) B h
  have hp : ∀ l : List Em, 0 ≤ (l.map (pM p.s ((k : Int) + 1))).sum ∧ (l.map (pM p.s ((k : Int) + 1))).sum ≤ 2 * p.s.length * l.length := by
    intro l
    induction l with
    | nil => simp
    | cons m l ih =>
      have hb : 0 ≤ pM p.s ((k : Int) + 1) m ∧ pM p.s ((k : Int) + 1) m ≤ 2 * p.s.length := by
        unfold pM pA
        have := pt_bd p.s m.m
        split
        · exact this.1
        · split
          · exact this.2
          · omega
      rw [List.map_cons, List.sum_cons, List.length_cons, show ((l.length + 1 : Nat) : Int) = (l.length : Int) + 1 by omega, Int.mul_add]
      omega
  have h3 := hp (mB 0 B)
  rw [e]
  simp only [lineT, yeL, decide_eq_true_eq]
  refine ⟨trivial, ?_, ?_, ?_⟩
  · rw [h2]; split <;> omega
  · have := Int.mul_nonneg ht.2.2.2.2.2.1 (show 0 ≤ (byC ((k : Int) + 1) B : Int) by omega)
    omega
  · rcases (by omega : byC ((k : Int) + 1) B = 0 ∨ byC ((k : Int) + 1) B = 1) with h | h
    · rw [h]; simp; omega
    · rw [h]; simp; omega
theorem FullB.lineM {p : Pl} {B : List Er} (h : FullB p B) {i : Nat} {y : Ln} (hy : (tabL9 p B)[i]? = some y) : -(1000000 * ((mB 0 B).length : Int)) ≤ y.margin ∧ y.margin ≤ 1000000 * (mB 0 B).length := by
  obtain ⟨k, hk, e⟩ := tabL9_get h.two hy
  have hp : ∀ l : List Em, (∀ m ∈ l, mrB m.m = true) → -(1000000 * (l.length : Int)) ≤ (l.map (mM ((k : Int) + 1))).sum ∧ (l.map (mM ((k : Int) + 1))).sum ≤ 1000000 * l.length := by
    intro l
    induction l with
    | nil => simp
    | cons m l ih =>
      intro hm
      have ih := ih fun x hx => hm x (List.mem_cons_of_mem _ hx)
      have hb : -1000000 ≤ mM ((k : Int) + 1) m ∧ mM ((k : Int) + 1) m ≤ 1000000 := by
        have := hm m (List.mem_cons_self ..)
        simp only [mrB, Bool.and_eq_true, decide_eq_true_eq] at this
        unfold mM mA
        split
        · exact this
        · split
          · simp only; omega
          · omega
      rw [List.map_cons, List.sum_cons, List.length_cons]
      omega
  have h3 := hp (mB 0 B) fun m hm => by
    obtain ⟨j, r, h1, _, h3⟩ := mB_mem hm
    exact h.mr r (List.mem_of_getElem? h1) _ h3
  rw [e]
  exact h3
/-- What all lines have together. -/
theorem FullB.sums {p : Pl} {B : List Er} (h : FullB p B) : ((tabL9 p B).map (·.points)).sum = 2 * p.s.length * (mB 0 B).length + p.b * (byeT B).length ∧ ((tabL9 p B).map (·.margin)).sum = 0 ∧ ((tabL9 p B).map (·.played)).sum = 2 * (mB 0 B).length := by
  rw [sum_tabL9 (g := (·.points)) fun _ _ => rfl, sum_tabL9 (g := (·.margin)) fun _ _ => rfl, sum_tabL9 (g := (·.played)) fun _ _ => rfl]
  refine sum_tabU B fun r hr => ?_
  obtain ⟨j, hj⟩ := List.getElem?_of_mem hr
  have ht := plB_t h.pl
  refine ⟨fun e he => ?_, ?_⟩
  · have hx : e.1 ∈ r.draw := by rw [← h.keys r hr]; exact List.mem_map_of_mem he
    have := chain_mem h.chain hj hx
    exact ⟨this.1, this.2.1⟩
  · have := chain_bye h.chain hj
    rcases Nat.mod_two_eq_zero_or_one p.t.toNat with hq | hq
    · have := this.1 hq; omega
    · exact (this.2 hq).1.2
theorem sum_take {g : Ln → Int} {L : List Ln} {i : Nat} (h : i < L.length) : ((L.take (i + 1)).map g).sum = ((L.take i).map g).sum + g L[i] := by
  rw [List.take_succ_eq_append_getElem h, List.map_append, List.sum_append, List.map_cons, List.map_nil, List.sum_cons, List.sum_nil, Int.add_zero]
theorem sum_bdL {g : Ln → Int} {a b : Int} : ∀ {L : List Ln}, (∀ x ∈ L, a ≤ g x ∧ g x ≤ b) → a * L.length ≤ (L.map g).sum ∧ (L.map g).sum ≤ b * L.length
  | [], _ => by simp
  | x :: L, h => by
    have h1 := h x (List.mem_cons_self ..)
    have h2 := sum_bdL fun y hy => h y (List.mem_cons_of_mem _ hy)
    simp only [List.map_cons, List.sum_cons, List.length_cons]
    rw [show ((L.length + 1 : Nat) : Int) = (L.length : Int) + 1 by omega, Int.mul_add, Int.mul_add]
    omega
end Go.Idl
