/-
  Package event: plain: the lines of a table, team by team.
-/
import Derived.Test.YtamffdgopknkfaaDoorC39PartX
namespace Go.Idl
set_option linter.all false
open Go.Proofs
set_option maxHeartbeats 8000000
set_option maxRecDepth 40000

theorem snoc_ind {α : Type} {P : List α → Prop} (h0 : P []) (h1 : ∀ l x, P l → P (l ++ [x])) : ∀ l, P l := by
  intro l
  have : ∀ m : List α, P m.reverse := by
    intro m
    induction m with
    | nil => exact h0
    | cons x m ih => rw [List.reverse_cons]; exact h1 _ _ ih
  have := this l.reverse
  rwa [List.reverse_reverse] at this
def pA (S : List Int) (T : Int) (e : (Int × Int) × Int) : Int := if T = e.1.1 then ptA S e.2 else if T = e.1.2 then ptB S e.2 else 0
def mA (T : Int) (e : (Int × Int) × Int) : Int := if T = e.1.1 then e.2 else if T = e.1.2 then -e.2 else 0
def nA (T : Int) (e : (Int × Int) × Int) : Int := if T = e.1.1 ∨ T = e.1.2 then 1 else 0
theorem addE_get {S : List Int} {L : List Ln} {e : (Int × Int) × Int} {k : Nat} (h1 : 1 ≤ e.1.1) (h2 : 1 ≤ e.1.2) (hne : e.1.1 ≠ e.1.2) :
    (addE S L e)[k]? = (L[k]?).map fun x => { x with played := x.played + nA ((k : Int) + 1) e, points := x.points + pA S ((k : Int) + 1) e, margin := x.margin + mA ((k : Int) + 1) e } := by
  unfold addE
  rw [upL_get, upL_get]
  have i1 : (e.1.1 - 1).toNat = k ↔ (k : Int) + 1 = e.1.1 := by omega
  have i2 : (e.1.2 - 1).toNat = k ↔ (k : Int) + 1 = e.1.2 := by omega
  unfold nA pA mA
  simp only [i1, i2]
  by_cases c1 : (k : Int) + 1 = e.1.1
  · have c2 : ¬ (k : Int) + 1 = e.1.2 := fun h => hne (by rw [← c1, h])
    simp only [c1, c2, if_true, true_or]
    rw [if_neg hne]
    cases L[k]? <;> simp [addA]
  · by_cases c2 : (k : Int) + 1 = e.1.2
    · have hne' : ¬ e.1.2 = e.1.1 := fun h => hne h.symm
      simp only [c1, c2, if_true, if_false, hne', or_true]
      cases L[k]? with
      | none => rfl
      | some x => simp only [Option.map_some, addB]; rfl
    · simp only [c1, c2, if_false, or_self]
      cases L[k]? <;> simp
/-- Pairs of two teams. -/
def TwoE (e : (Int × Int) × Int) : Prop := 1 ≤ e.1.1 ∧ 1 ≤ e.1.2 ∧ e.1.1 ≠ e.1.2
theorem foldE_get {S : List Int} {k : Nat} : ∀ {A : List ((Int × Int) × Int)} {L : List Ln}, (∀ e ∈ A, TwoE e) →
    (A.foldl (addE S) L)[k]? = (L[k]?).map fun x => { x with played := x.played + (A.map (nA ((k : Int) + 1))).sum, points := x.points + (A.map (pA S ((k : Int) + 1))).sum, margin := x.margin + (A.map (mA ((k : Int) + 1))).sum }
  | [], L, _ => by cases h : L[k]? <;> simp [h]
  | e :: A, L, h => by
    have he := h e (List.mem_cons_self ..)
    rw [List.foldl_cons, foldE_get fun x hx => h x (List.mem_cons_of_mem _ hx), addE_get he.1 he.2.1 he.2.2]
    cases L[k]? with
    | none => rfl
    | some x =>
      simp only [Option.map_some, List.map_cons, List.sum_cons]
      congr 2 <;> omega
def byB (T : Int) (r : Er) : Bool := decide (0 < r.bye) && decide (T = r.bye)
theorem addR_get {p : Pl} {L : List Ln} {r : Er} {k : Nat} (h : ∀ e ∈ r.mg, TwoE e) :
    (addR p L r)[k]? = (L[k]?).map fun x => { x with played := x.played + (r.mg.map (nA ((k : Int) + 1))).sum, points := x.points + (r.mg.map (pA p.s ((k : Int) + 1))).sum + (if byB ((k : Int) + 1) r = true then p.b else 0), margin := x.margin + (r.mg.map (mA ((k : Int) + 1))).sum, bye := x.bye || byB ((k : Int) + 1) r } := by
  unfold addR addY byB
  by_cases hb : 0 < r.bye
  · rw [if_pos hb, upL_get, foldE_get h]
    have i1 : (r.bye - 1).toNat = k ↔ (k : Int) + 1 = r.bye := by omega
    simp only [i1]
    by_cases c : (k : Int) + 1 = r.bye
    · rw [if_pos c]
      cases L[k]? <;> simp [c, hb]
    · rw [if_neg c]
      cases L[k]? <;> simp [c]
  · rw [if_neg hb, foldE_get h]
    cases L[k]? <;> simp [hb]
def pM (S : List Int) (T : Int) (m : Em) : Int := pA S T ((m.a, m.b), m.m)
def mM (T : Int) (m : Em) : Int := mA T ((m.a, m.b), m.m)
def nM (T : Int) (m : Em) : Int := nA T ((m.a, m.b), m.m)
theorem rowM_map {α : Type} {n : Nat} {S : List ((Int × Int) × Int)} {f : (Int × Int) × Int → α} : (rowM n S).map (fun m => f ((m.a, m.b), m.m)) = S.map f := by
  rw [rowM, List.map_map]; rfl
def byC (T : Int) (B : List Er) : Nat := B.countP (byB T)
/-- The line of a team. -/
def lineT (p : Pl) (T : Int) (B : List Er) : Ln := ⟨T, 0, ((mB 0 B).map (nM T)).sum, ((mB 0 B).map (pM p.s T)).sum + p.b * byC T B, ((mB 0 B).map (mM T)).sum, decide (0 < byC T B)⟩
theorem tabU_get {p : Pl} {k : Nat} (hk : k < p.t.toNat) : ∀ B : List Er, (∀ r ∈ B, ∀ e ∈ r.mg, TwoE e) → (tabU p B)[k]? = some (lineT p ((k : Int) + 1) B) := by
  apply snoc_ind
  · intro _
    simp [tabU, lns0, lineT, mB, byC, hk]
  · intro B r ih h
    rw [tabU_snoc, addR_get fun e he => h r (by simp) e he, ih fun q hq => h q (List.mem_append_left _ hq)]
    have e1 : ∀ f : Em → Int, ((mB 0 (B ++ [r])).map f).sum = ((mB 0 B).map f).sum + ((rowM B.length r.mg).map f).sum := fun f => by
      rw [mB_append]; simp [mB]
    have e2 : byC ((k : Int) + 1) (B ++ [r]) = byC ((k : Int) + 1) B + if byB ((k : Int) + 1) r = true then 1 else 0 := by
      unfold byC; rw [List.countP_append, List.countP_cons, List.countP_nil]; simp
    simp only [Option.map_some, lineT, e1, e2]
    have n1 : (rowM B.length r.mg).map (nM ((k : Int) + 1)) = r.mg.map (nA ((k : Int) + 1)) := rowM_map
    have n2 : (rowM B.length r.mg).map (pM p.s ((k : Int) + 1)) = r.mg.map (pA p.s ((k : Int) + 1)) := rowM_map
    have n3 : (rowM B.length r.mg).map (mM ((k : Int) + 1)) = r.mg.map (mA ((k : Int) + 1)) := rowM_map
    rw [n1, n2, n3]
    cases hb : byB ((k : Int) + 1) r with
    | true =>
      simp only [if_true, Bool.or_true]
      congr 2
      rw [show ((byC ((k : Int) + 1) B + 1 : Nat) : Int) = (byC ((k : Int) + 1) B : Int) + 1 by omega, Int.mul_add]; omega
    | false =>
      simp only [Bool.false_eq_true, if_false, Bool.or_false, Nat.add_zero]
      congr 2; omega
/-- Pairs of a draw are of two teams. -/
theorem chain_mem {p : Pl} {B : List Er} {j : Nat} {r : Er} (h : ChainR p [] B) (e : B[j]? = some r) {x : Int × Int} (hx : x ∈ r.draw) : (1 ≤ x.1 ∧ x.1 ≤ p.t) ∧ (1 ≤ x.2 ∧ x.2 ≤ p.t) ∧ x.1 ≠ x.2 := by
  have h1 := (chain_ok h e).mem hx
  rw [ordT_mem, ordT_mem] at h1
  exact ⟨h1.1, h1.2, ends_ne (chain_nodup h e).2 hx⟩
theorem FullB.two {p : Pl} {B : List Er} (h : FullB p B) : ∀ r ∈ B, ∀ e ∈ r.mg, TwoE e := fun r hr e he => by
  obtain ⟨j, hj⟩ := List.getElem?_of_mem hr
  have hx : e.1 ∈ r.draw := by rw [← h.keys r hr]; exact List.mem_map_of_mem he
  have := chain_mem h.chain hj hx
  exact ⟨this.1.1, this.2.1.1, this.2.2⟩
theorem chain_bye {p : Pl} {B : List Er} {j : Nat} {r : Er} (h : ChainR p [] B) (e : B[j]? = some r) : (p.t.toNat % 2 = 0 → r.bye = 0) ∧ (p.t.toNat % 2 = 1 → (1 ≤ r.bye ∧ r.bye ≤ p.t) ∧ r.bye ∉ byeT (B.take j)) := by
  have h1 := chain_ok h e
  refine ⟨fun hq => h1.ev (by rw [ordT_length]; exact hq), fun hq => ?_⟩
  have h2 := h1.od (by rw [ordT_length]; exact hq)
  rw [ordT_mem] at h2
  exact h2
theorem byC_count (T : Int) (hT : 0 < T) : ∀ B : List Er, byC T B = (byeT B).count T := by
  apply snoc_ind
  · rfl
  · intro B r ih
    unfold byC at ih ⊢
    rw [List.countP_append, byeT_snoc, List.count_append, ih, List.countP_cons, List.countP_nil]
    congr 1
    unfold byB
    by_cases h : 0 < r.bye
    · by_cases h2 : T = r.bye
      · subst h2; simp [hT]
      · have h3 : ¬ r.bye = T := fun e => h2 e.symm
        simp [h, h2, List.count_cons, h3]
    · simp [h]
theorem chain_byes {p : Pl} {B : List Er} (h : ChainR p [] B) : (byeT B).Nodup := by
  have : ∀ n, n ≤ B.length → (byeT (B.take n)).Nodup := by
    intro n
    induction n with
    | zero => intro _; simp [byeT]
    | succ n ih =>
      intro hn
      have hg : B[n]? = some B[n] := List.getElem?_eq_getElem (by omega)
      rw [List.take_succ_eq_append_getElem (by omega), byeT_snoc, List.nodup_append]
      refine ⟨ih (by omega), by split <;> simp, fun a ha b hb => ?_⟩
      split at hb
      · rename_i hp
        rw [List.mem_singleton] at hb
        have := chain_bye h hg
        rcases Nat.mod_two_eq_zero_or_one p.t.toNat with hq | hq
        · have := this.1 hq; omega
        · rw [hb]; rintro rfl
          exact (this.2 hq).2 ha
      · simp at hb
  have h2 := this B.length (Nat.le_refl _)
  rwa [List.take_length] at h2
theorem byC_le {p : Pl} {B : List Er} (h : ChainR p [] B) {T : Int} (hT : 0 < T) : byC T B ≤ 1 := by
  rw [byC_count T hT]; exact List.nodup_iff_count.1 (chain_byes h) T
/-- A line of the table. -/
theorem tabL9_get {p : Pl} {B : List Er} (h : ∀ r ∈ B, ∀ e ∈ r.mg, TwoE e) {i : Nat} {y : Ln} (hy : (tabL9 p B)[i]? = some y) : ∃ k : Nat, k < p.t.toNat ∧ y = { lineT p ((k : Int) + 1) B with place := (i : Int) + 1 } := by
  unfold tabL9 at hy
  obtain ⟨hi, e⟩ := List.getElem?_eq_some_iff.1 hy
  rw [plcLn_get] at e
  have hi' : i < (srtLn (tabU p B)).length := by simpa using hi
  have hm : (srtLn (tabU p B))[i] ∈ tabU p B := (srtLn_perm _).mem_iff.1 (List.getElem_mem hi')
  obtain ⟨k, hk, hkk⟩ := List.mem_iff_getElem.1 hm
  have hk' : k < p.t.toNat := by simpa using hk
  have h1 := tabU_get hk' B h
  rw [List.getElem?_eq_getElem hk] at h1
  refine ⟨k, hk', ?_⟩
  rw [← e, ← hkk, Option.some.inj h1]
  simp
/-- Lines stand in order. -/
theorem tabL9_ord {p : Pl} {B : List Er} {i : Nat} {z y : Ln} (hz : (tabL9 p B)[i]? = some z) (hy : (tabL9 p B)[i + 1]? = some y) : y.points < z.points ∨ y.points = z.points ∧ (y.margin < z.margin ∨ y.margin = z.margin ∧ z.team < y.team) := by
  unfold tabL9 at hz hy
  obtain ⟨hi, e⟩ := List.getElem?_eq_some_iff.1 hz
  obtain ⟨hj, f⟩ := List.getElem?_eq_some_iff.1 hy
  rw [plcLn_get] at e f
  have hp := List.pairwise_iff_getElem.1 (srtLn_sorted (tabU_nodup p B)) i (i + 1) (by simpa using hi) (by simpa using hj) (by omega)
  rw [← e, ← f]
  exact hp
end Go.Idl
