/-
  Package event: plain: who meets whom, who has the bye, what all lines have together.
-/
import Derived.Test.YtamffdgopknkfaaDoorC39PartZC
namespace Go.Idl
set_option linter.all false
open Go.Proofs
set_option maxHeartbeats 8000000
set_option maxRecDepth 40000

/-! ### nobody meets twice -/
def mmE (m : Em) : Int × Int := (min m.a m.b, max m.a m.b)
def mmP (x : Int × Int) : Int × Int := (min x.1 x.2, max x.1 x.2)
theorem mmP_eq {x y : Int × Int} (h : mmP x = mmP y) : x = y ∨ x = (y.2, y.1) := by
  obtain ⟨a, b⟩ := x
  obtain ⟨c, d⟩ := y
  simp only [mmP, Prod.mk.injEq] at h ⊢
  omega
theorem endsP_apart {d : List (Int × Int)} (h : (endsP d).Nodup) : (d.map mmP).Nodup := by
  rw [List.Nodup, List.pairwise_map]
  have h1 := (endsP_nodup h).1
  induction d with
  | nil => exact List.Pairwise.nil
  | cons q d ih =>
    simp only [endsP, List.flatMap_cons, List.cons_append, List.nil_append, List.nodup_cons, List.mem_cons, not_or] at h
    rw [List.pairwise_cons]
    rw [List.nodup_cons] at h1
    refine ⟨fun x hx hc => ?_, ih h.2.2 h1.2⟩
    have hm := mem_endsP hx
    rcases mmP_eq hc with e | e
    · rw [e] at h; exact h.1.2 hm.1
    · rw [e] at h; exact h.1.2 hm.2
theorem met_apart {p : Pl} {B : List Er} (h : ChainR p [] B) : ((metT B).map mmP).Nodup := by
  have : ∀ n, n ≤ B.length → ((metT (B.take n)).map mmP).Nodup := by
    intro n
    induction n with
    | zero => intro _; simp [metT]
    | succ n ih =>
      intro hn
      have hg : B[n]? = some B[n] := List.getElem?_eq_getElem (by omega)
      have hk := chain_ok h hg
      rw [List.take_succ_eq_append_getElem (by omega), metT_snoc, List.map_append, List.nodup_append]
      refine ⟨ih (by omega), endsP_apart (chain_nodup h hg).2, fun a ha b hb hab => ?_⟩
      obtain ⟨x, hx, rfl⟩ := List.mem_map.1 ha
      obtain ⟨y, hy, rfl⟩ := List.mem_map.1 hb
      have hf := hk.fresh y hy
      unfold metB at hf
      rw [List.any_eq_false] at hf
      apply hf x hx
      rcases mmP_eq hab with e | e
      · simp [e]
      · simp [e]
  have h2 := this B.length (Nat.le_refl _)
  rwa [List.take_length] at h2
theorem mB_met {B : List Er} (hk : ∀ r ∈ B, r.mg.map (·.1) = r.draw) : ∀ n : Nat, (mB n B).map mmE = (metT B).map mmP := by
  induction B with
  | nil => intro n; rfl
  | cons r B ih =>
    intro n
    have h1 := hk r (List.mem_cons_self ..)
    simp only [mB, metT, List.flatMap_cons, List.map_append]
    rw [ih (fun q hq => hk q (List.mem_cons_of_mem _ hq)) (n + 1)]
    congr 1
    rw [← h1, rowM, List.map_map, List.map_map]
    rfl
theorem FullB.apart {p : Pl} {B : List Er} (h : FullB p B) : ((mB 0 B).map mmE).Nodup := by
  rw [mB_met h.keys]; exact met_apart h.chain

/-! ### who plays in a round -/
def inE (m : Em) : List (Int × Int) := [(m.r, m.a), (m.r, m.b)]
theorem rowM_in {n : Nat} {S : List ((Int × Int) × Int)} : (rowM n S).flatMap inE = (endsP (S.map (·.1))).map fun t => ((n : Int), t) := by
  induction S with
  | nil => rfl
  | cons e S ih =>
    simp only [rowM, List.map_cons, List.flatMap_cons, endsP, List.map_append] at ih ⊢
    rw [ih]; rfl
theorem mB_in_mem {B : List Er} (hk : ∀ r ∈ B, r.mg.map (·.1) = r.draw) : ∀ {n : Nat} {x : Int × Int}, x ∈ (mB n B).flatMap inE ↔ ∃ (j : Nat) (r : Er), B[j]? = some r ∧ x.1 = ((n + j : Nat) : Int) ∧ x.2 ∈ endsP r.draw := by
  induction B with
  | nil => intro n x; simp [mB]
  | cons r B ih =>
    intro n x
    have h1 := hk r (List.mem_cons_self ..)
    simp only [mB, List.flatMap_append, List.mem_append]
    rw [ih (fun q hq => hk q (List.mem_cons_of_mem _ hq)), rowM_in, h1]
    constructor
    · rintro (h | ⟨j, q, h2, h3, h4⟩)
      · obtain ⟨t, ht, rfl⟩ := List.mem_map.1 h
        exact ⟨0, r, rfl, rfl, ht⟩
      · exact ⟨j + 1, q, by simpa using h2, by rw [h3]; congr 1; omega, h4⟩
    · rintro ⟨j, q, h2, h3, h4⟩
      cases j with
      | zero =>
        simp only [List.getElem?_cons_zero, Option.some.injEq] at h2
        subst h2
        left
        exact List.mem_map.2 ⟨x.2, h4, Prod.ext h3.symm rfl⟩
      | succ j => right; exact ⟨j, q, by simpa using h2, by rw [h3]; congr 1; omega, h4⟩
theorem mB_in_nodup {B : List Er} (hk : ∀ r ∈ B, r.mg.map (·.1) = r.draw) (hn : ∀ r ∈ B, (endsP r.draw).Nodup) : ∀ n : Nat, ((mB n B).flatMap inE).Nodup := by
  induction B with
  | nil => intro n; simp [mB]
  | cons r B ih =>
    intro n
    have h1 := hk r (List.mem_cons_self ..)
    have hk' : ∀ q ∈ B, q.mg.map (·.1) = q.draw := fun q hq => hk q (List.mem_cons_of_mem _ hq)
    simp only [mB, List.flatMap_append]
    rw [List.nodup_append, rowM_in, h1]
    refine ⟨?_, ih hk' (fun q hq => hn q (List.mem_cons_of_mem _ hq)) (n + 1), fun a ha b hb hab => ?_⟩
    · have := hn r (List.mem_cons_self ..)
      rw [List.Nodup, List.pairwise_map] 
      exact this.imp fun hab hc => hab (Prod.mk.inj hc).2
    · obtain ⟨t, _, rfl⟩ := List.mem_map.1 ha
      obtain ⟨j, q, _, h3, _⟩ := (mB_in_mem hk').1 hb
      rw [← hab] at h3
      simp only at h3
      omega
theorem FullB.ends {p : Pl} {B : List Er} (h : FullB p B) : ∀ r ∈ B, (endsP r.draw).Nodup := fun r hr => by
  obtain ⟨j, hj⟩ := List.getElem?_of_mem hr
  exact (chain_nodup h.chain hj).2
/-- All teams but for the one with the bye play. -/
theorem chain_plays {p : Pl} {B : List Er} {j : Nat} {r : Er} (h : ChainR p [] B) (e : B[j]? = some r) {T : Int} (hT : 1 ≤ T ∧ T ≤ p.t) : T ∈ endsP r.draw ↔ T ≠ r.bye := by
  have h1 := chain_ok h e
  have hm : T ∈ ordT p (B.take j) := (ordT_mem p _ T).2 hT
  have hp := h1.perm
  rw [ordT_length] at hp
  rcases Nat.mod_two_eq_zero_or_one p.t.toNat with hq | hq
  · rw [if_neg (by omega), List.append_nil] at hp
    have := (chain_bye h e).1 hq
    rw [hp.mem_iff]
    exact ⟨fun _ => by omega, fun _ => hm⟩
  · rw [if_pos hq] at hp
    have hn := hp.nodup_iff.2 (ordT_nodup p _)
    rw [List.nodup_append] at hn
    have h2 := hp.mem_iff.2 hm
    rw [List.mem_append, List.mem_singleton] at h2
    constructor
    · intro hc hb; exact hn.2.2 T hc r.bye (by simp) hb
    · intro hb; exact h2.resolve_right hb

/-! ### sums over lines -/
theorem sum_set {g : Ln → Int} : ∀ {L : List Ln} {i : Nat} {x : Ln} (h : i < L.length), ((L.set i x).map g).sum = (L.map g).sum - g L[i] + g x
  | y :: L, 0, x, _ => by simp; omega
  | y :: L, i + 1, x, h => by
    have h' : i < L.length := by simpa using h
    have := sum_set (g := g) (x := x) h'
    simp only [List.set_cons_succ, List.map_cons, List.sum_cons, List.getElem_cons_succ]
    omega
theorem sum_upL {g : Ln → Int} {L : List Ln} {i : Nat} {f : Ln → Ln} (h : i < L.length) : ((upL L i f).map g).sum = (L.map g).sum + (g (f L[i]) - g L[i]) := by
  unfold upL
  rw [sum_set h, show L.getD i Ln0 = L[i] by simp [h]]
  omega
theorem sum_addE {S : List Int} {L : List Ln} {e : (Int × Int) × Int} (h1 : 1 ≤ e.1.1 ∧ e.1.1 ≤ L.length) (h2 : 1 ≤ e.1.2 ∧ e.1.2 ≤ L.length) :
    ((addE S L e).map (·.points)).sum = (L.map (·.points)).sum + 2 * S.length ∧ ((addE S L e).map (·.margin)).sum = (L.map (·.margin)).sum ∧ ((addE S L e).map (·.played)).sum = (L.map (·.played)).sum + 2 := by
  unfold addE
  have i1 : (e.1.1 - 1).toNat < L.length := by omega
  have i2 : (e.1.2 - 1).toNat < (upL L (e.1.1 - 1).toNat (addA S e.2)).length := by simp; omega
  have hs := pt_sum S e.2
  refine ⟨?_, ?_, ?_⟩
  · rw [sum_upL i2, sum_upL i1]; simp only [addA, addB]; omega
  · rw [sum_upL i2, sum_upL i1]; simp only [addA, addB]; omega
  · rw [sum_upL i2, sum_upL i1]; simp only [addA, addB]; omega
theorem sum_foldE {S : List Int} : ∀ {A : List ((Int × Int) × Int)} {L : List Ln}, (∀ e ∈ A, (1 ≤ e.1.1 ∧ e.1.1 ≤ L.length) ∧ 1 ≤ e.1.2 ∧ e.1.2 ≤ L.length) →
    ((A.foldl (addE S) L).map (·.points)).sum = (L.map (·.points)).sum + 2 * S.length * A.length ∧ ((A.foldl (addE S) L).map (·.margin)).sum = (L.map (·.margin)).sum ∧ ((A.foldl (addE S) L).map (·.played)).sum = (L.map (·.played)).sum + 2 * A.length
  | [], L, _ => by simp
  | e :: A, L, h => by
    have he := h e (List.mem_cons_self ..)
    obtain ⟨k1, k2, k3⟩ := sum_foldE (S := S) (A := A) (L := addE S L e) fun x hx => by rw [addE_length]; exact h x (List.mem_cons_of_mem _ hx)
    obtain ⟨a1, a2, a3⟩ := sum_addE (S := S) he.1 he.2
    rw [List.foldl_cons, k1, k2, k3, a1, a2, a3]
    simp only [List.length_cons]
    refine ⟨?_, trivial, by omega⟩
    rw [show ((A.length + 1 : Nat) : Int) = (A.length : Int) + 1 by omega, Int.mul_add]; omega
theorem sum_addR {p : Pl} {L : List Ln} {r : Er} (hm : ∀ e ∈ r.mg, (1 ≤ e.1.1 ∧ e.1.1 ≤ L.length) ∧ 1 ≤ e.1.2 ∧ e.1.2 ≤ L.length) (hb : r.bye ≤ L.length) :
    ((addR p L r).map (·.points)).sum = (L.map (·.points)).sum + 2 * p.s.length * r.mg.length + (if 0 < r.bye then p.b else 0) ∧ ((addR p L r).map (·.margin)).sum = (L.map (·.margin)).sum ∧ ((addR p L r).map (·.played)).sum = (L.map (·.played)).sum + 2 * r.mg.length := by
  obtain ⟨k1, k2, k3⟩ := sum_foldE (S := p.s) hm
  unfold addR addY
  split
  · have hi : (r.bye - 1).toNat < (r.mg.foldl (addE p.s) L).length := by rw [foldE_length]; omega
    refine ⟨?_, ?_, ?_⟩
    · rw [sum_upL hi, k1]; simp only; omega
    · rw [sum_upL hi, k2]; simp only; omega
    · rw [sum_upL hi, k3]; simp only; omega
  · refine ⟨by rw [k1]; omega, k2, k3⟩
theorem sum_tabU {p : Pl} : ∀ B : List Er, (∀ r ∈ B, (∀ e ∈ r.mg, (1 ≤ e.1.1 ∧ e.1.1 ≤ p.t) ∧ 1 ≤ e.1.2 ∧ e.1.2 ≤ p.t) ∧ r.bye ≤ p.t) →
    ((tabU p B).map (·.points)).sum = 2 * p.s.length * (mB 0 B).length + p.b * (byeT B).length ∧ ((tabU p B).map (·.margin)).sum = 0 ∧ ((tabU p B).map (·.played)).sum = 2 * (mB 0 B).length := by
  apply snoc_ind
  · intro _
    have : ∀ n, ((lns0 n).map (·.points)).sum = 0 ∧ ((lns0 n).map (·.margin)).sum = 0 ∧ ((lns0 n).map (·.played)).sum = 0 := fun n => by
      unfold lns0
      simp only [List.map_map, Function.comp_def]
      have : ∀ m : List Nat, (m.map fun _ => (0 : Int)).sum = 0 := fun m => by induction m with
        | nil => rfl
        | cons a m ih => simp [ih]
      exact ⟨this _, this _, this _⟩
    have h := this p.t.toNat
    simp only [tabU, List.foldl_nil, mB, byeT, List.flatMap_nil, List.length_nil]
    exact ⟨by rw [h.1]; simp, h.2.1, by rw [h.2.2]; simp⟩
  · intro B r ih h
    obtain ⟨k1, k2, k3⟩ := ih fun q hq => h q (List.mem_append_left _ hq)
    obtain ⟨hm, hb⟩ := h r (by simp)
    have ht : ((tabU p B).length : Int) = p.t ∨ p.t < 0 := by rw [tabU_length]; omega
    rcases ht with ht | ht
    · obtain ⟨a1, a2, a3⟩ := sum_addR (p := p) (L := tabU p B) (r := r) (fun e he => by have := hm e he; omega) (by omega)
      rw [tabU_snoc, a1, a2, a3, k1, k2, k3]
      have e1 : (mB 0 (B ++ [r])).length = (mB 0 B).length + r.mg.length := by rw [mB_append]; simp [mB]
      have e2 : (byeT (B ++ [r])).length = (byeT B).length + if 0 < r.bye then 1 else 0 := by rw [byeT_snoc]; split <;> simp
      rw [e1, e2]
      refine ⟨?_, by omega, by omega⟩
      rw [show (((mB 0 B).length + r.mg.length : Nat) : Int) = ((mB 0 B).length : Int) + r.mg.length by omega, Int.mul_add]
      split
      · rw [show (((byeT B).length + 1 : Nat) : Int) = ((byeT B).length : Int) + 1 by omega, Int.mul_add]; omega
      · simp only [Nat.add_zero]; omega
    · have hmn : r.mg = [] := List.eq_nil_iff_forall_not_mem.2 fun e he => by have := hm e he; omega
      have hbn : ¬ 0 < r.bye := by omega
      have e0 : addR p (tabU p B) r = tabU p B := by unfold addR addY; rw [if_neg hbn, hmn]; rfl
      rw [tabU_snoc, e0, k1, k2, k3]
      have e1 : (mB 0 (B ++ [r])).length = (mB 0 B).length := by rw [mB_append]; simp [mB, hmn]
      have e2 : (byeT (B ++ [r])).length = (byeT B).length := by rw [byeT_snoc, if_neg hbn]; simp
      rw [e1, e2]
      exact ⟨rfl, rfl, rfl⟩
end Go.Idl
