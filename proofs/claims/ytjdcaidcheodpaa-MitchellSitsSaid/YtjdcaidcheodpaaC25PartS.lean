/-
  Chapter 25: who sits out (plain).
-/
import Derived.Test.YtjdcaidcheodpaaC25PartQ
import Derived.Test.YtjdcaidcheodpaaC25PartP
namespace Go.Idl
set_option linter.all false
open Go.Proofs
set_option maxHeartbeats 8000000
set_option maxRecDepth 40000

theorem row_in {k : Int} {T N r t : Nat} (hT : 0 < T) (hr : r < N) (ht : t < T) : rowX k T r t ∈ rowsX k T N := by
  rw [List.mem_iff_getElem]
  have hlt : r * T + t < N * T := by
    have := Nat.mul_le_mul_right T (show r + 1 ≤ N by omega)
    rw [Nat.succ_mul] at this; omega
  refine ⟨r * T + t, by rw [rowsX_length]; simpa using hlt, ?_⟩
  rw [rowsX_get hT]
  have e1 : (r * T + t) / T = r := by rw [Nat.mul_comm, Nat.mul_add_div hT, Nat.div_eq_of_lt ht]; rfl
  have e2 : (r * T + t) % T = t := by rw [Nat.mul_comm, Nat.mul_add_mod, Nat.mod_eq_of_lt ht]
  rw [e1, e2]
theorem ew_in {k : Int} {T N r : Nat} (hD : Dsg k T) (hN : (N : Int) ≤ T - fewK k) (hr : r < N) {p : Int} (hp : T + 1 ≤ p ∧ p ≤ 2 * T) : ∃ t : Nat, t < T ∧ rowX k T r t ∈ rowsX k T N ∧ (rowX k T r t).ew = p := by
  have hT : 0 < T := by have := hD.2; omega
  have h := rowL_ew hD hN hr (p := p)
  rw [if_pos hp] at h
  obtain ⟨x, hx, hp2⟩ := List.countP_pos_iff.1 (show 0 < (rowL k T r T).countP (fun x => x.ew == p) by omega)
  obtain ⟨t, ht, rfl⟩ := List.mem_map.1 hx
  exact ⟨t, List.mem_range.1 ht, row_in hT hr (List.mem_range.1 ht), by simpa using hp2⟩
theorem outL_nil {L : List Rw} {r : Int} (hpos : ∀ x ∈ L, x.ns ≠ 0 ∧ x.ew ≠ 0) (h : ∀ p, p ∈ prs L → ∃ x ∈ L, x.r = r ∧ (x.ns = p ∨ x.ew = p)) : outL L r = [] := by
  unfold outL
  rw [List.filter_eq_nil_iff]
  intro p hp
  obtain ⟨x, hx, h1, h2⟩ := h p hp
  unfold sitsB
  have a : L.any (hereB r p) = true := List.any_eq_true.2 ⟨x, hx, by simp [hereB, h1, h2]⟩
  have b : L.any (aloneB r p) = false := by
    rw [List.any_eq_false]
    intro y hy
    have := hpos y hy
    simp [aloneB, this]
  rw [a, b]; simp
/-- Whom the rover displaces. -/
def outR (T r : Nat) : Int := ((2 * r % T : Nat) : Int) + 1
theorem outR_inj {T r r' : Nat} (ho : T % 2 = 1) (hr : r < T) (hr' : r' < T) (h : outR T r = outR T r') : r = r' := by
  have h1 := rov_two (T := (T : Int)) (r := r) (by omega) (by omega)
  have h2 := rov_two (T := (T : Int)) (r := r') (by omega) (by omega)
  unfold outR at h
  have e1 : ((2 * r % T : Nat) : Int) = 2 * (r : Int) % T := by push_cast; rfl
  have e2 : ((2 * r' % T : Nat) : Int) = 2 * (r' : Int) % T := by push_cast; rfl
  rw [e1, e2] at h
  omega
section
variable {M : Mv} {K : Int} {rov : Bool} {T N : Nat}
theorem IsMade.pos (h : IsMade M K rov T N) : ∀ x ∈ M.rows, x.ns ≠ 0 ∧ x.ew ≠ 0 := fun x hx => by
  obtain ⟨q, hq, rfl⟩ := List.mem_iff_getElem.1 hx
  have := h.row hq
  omega
theorem IsMade.out_rov (h : IsMade M K true T N) (hN : 2 ≤ N) {r : Nat} (hr : r < N) : outL M.rows r = [outR T r] := by
  have hT : 0 < T := by have := h.dsg.2; omega
  obtain ⟨rfl, hT3, _, hMe⟩ := h.yes rfl
  have hD := h.dsg
  have hNT := h.nle
  have ho : T % 2 = 1 := by have := hD.1; omega
  have hpos := h.pos
  have hL : M.rows = (rowsX 1 T N).map (rovF T) := by rw [hMe]
  have hm := Nat.mod_lt (2 * r) hT
  refine Inc.ext ((srt_inc _).sublist List.filter_sublist) (by simp [Inc]) fun p => ?_
  show p ∈ (prs M.rows).filter _ ↔ _
  rw [List.mem_filter, List.mem_singleton]
  have hsit : sitsB M.rows r p = true ↔ ¬ ∃ x ∈ M.rows, x.r = r ∧ (x.ns = p ∨ x.ew = p) := by
    unfold sitsB
    have b : M.rows.any (aloneB r p) = false := by
      rw [List.any_eq_false]
      intro y hy
      have := hpos y hy
      simp [aloneB, this]
    rw [b, Bool.or_false, Bool.not_eq_true', List.any_eq_false]
    constructor
    · rintro h1 ⟨x, hx, h2, h3⟩
      exact h1 x hx (by simp [hereB, h2, h3])
    · intro h1 x hx h2
      apply h1
      simp only [hereB, Bool.and_eq_true, Bool.or_eq_true, beq_iff_eq] at h2
      exact ⟨x, hx, h2.1, h2.2⟩
  rw [hsit, prs_mem]
  have inR : ∀ (r' t : Nat), r' < N → t < T → rovF T (rowX 1 T r' t) ∈ M.rows := fun r' t h1 h2 => by
    rw [hL]; exact List.mem_map.2 ⟨_, row_in hT h1 h2, rfl⟩
  have e1 : ∀ r : Nat, ((2 * r % T : Nat) : Int) = 2 * (r : Int) % T := fun r => by push_cast; rfl
  constructor
  · rintro ⟨⟨h1, x, hx, hp⟩, hno⟩
    rw [hL] at hx
    obtain ⟨y, hy, rfl⟩ := List.mem_map.1 hx
    obtain ⟨r', t', hr', ht', rfl⟩ := rowsX_mem hT hy
    obtain ⟨d1, d2, d3, d4, d5⟩ := rovF_r (T := T) (x := rowX 1 T r' t')
    have hub : p ≤ 2 * T + 1 := by
      have := (fair_rows (n := N) hD (by unfold fewK; simp; omega)).rng _ hy
      rw [d4, d5] at hp
      split at hp <;> omega
    apply Decidable.byContradiction
    intro hne
    apply hno
    by_cases c1 : p ≤ T
    · obtain ⟨f1, f2, f3, f4, f5⟩ := rovF_r (T := T) (x := rowX 1 T r (p - 1).toNat)
      refine ⟨_, inR r (p - 1).toNat hr (by omega), by rw [f1]; rfl, .inl ?_⟩
      rw [f5, if_neg]
      · unfold rowX; simp only; omega
      · unfold rowX; simp only
        intro e
        apply hne
        unfold outR
        rw [e1]; omega
    · by_cases c2 : p ≤ 2 * T
      · obtain ⟨t, ht, _, he⟩ := ew_in (N := N) hD (by unfold fewK; simp; omega) hr (p := p) (by omega)
        obtain ⟨f1, f2, f3, f4, f5⟩ := rovF_r (T := T) (x := rowX 1 T r t)
        exact ⟨_, inR r t hr ht, by rw [f1]; rfl, .inr (by rw [f4]; exact he)⟩
      · obtain ⟨f1, f2, f3, f4, f5⟩ := rovF_r (T := T) (x := rowX 1 T r (2 * r % T : Nat))
        refine ⟨_, inR r (2 * r % T) hr hm, by rw [f1]; rfl, .inl ?_⟩
        rw [f5, if_pos (by unfold rowX; simp only; exact e1 r)]
        omega
  · rintro rfl
    refine ⟨⟨by unfold outR; omega, ?_⟩, ?_⟩
    · obtain ⟨r', hr', hne⟩ : ∃ r', r' < N ∧ r' ≠ r := ⟨if r = 0 then 1 else 0, by split <;> omega, by split <;> omega⟩
      obtain ⟨f1, f2, f3, f4, f5⟩ := rovF_r (T := T) (x := rowX 1 T r' (2 * r % T : Nat))
      refine ⟨_, inR r' (2 * r % T) hr' hm, .inl ?_⟩
      rw [f5, if_neg]
      · rfl
      · unfold rowX; simp only
        intro e
        rw [← e1 r'] at e
        exact hne (outR_inj ho (by omega) (by omega) (by unfold outR; omega))
    · rintro ⟨x, hx, hxr, hp⟩
      rw [hL] at hx
      obtain ⟨y, hy, rfl⟩ := List.mem_map.1 hx
      obtain ⟨r', t', hr', ht', rfl⟩ := rowsX_mem hT hy
      obtain ⟨d1, d2, d3, d4, d5⟩ := rovF_r (T := T) (x := rowX 1 T r' t')
      rw [d1] at hxr
      rw [d4, d5] at hp
      unfold rowX at hxr hp
      simp only at hxr hp
      have hrr : r' = r := by omega
      subst hrr
      have m0 := Int.emod_nonneg (movX 1 T r' t') (show (T : Int) ≠ 0 by omega)
      unfold outR at hp
      rw [e1] at hp
      have m1 := Int.emod_lt_of_pos (2 * (r' : Int)) (show (0 : Int) < T by omega)
      split at hp <;> omega
theorem IsMade.out_none (h : IsMade M K rov T N) (hN : rov = true → N = 1) {r : Nat} (hr : r < N) : outL M.rows r = [] := by
  have hT : 0 < T := by have := h.dsg.2; omega
  refine outL_nil h.pos fun p hp => ?_
  obtain ⟨h1, x, hx, hp2⟩ := prs_mem.1 hp
  cases hrov : rov with
  | true =>
    subst hrov
    have := h.fair.rng x hx
    rw [h.head.2.1] at this
    have := hN rfl
    exact ⟨x, hx, by omega, hp2⟩
  | false =>
    subst hrov
    have hL : M.rows = rowsX K T N := by rw [h.no rfl]
    rw [hL] at hx ⊢
    have hub : p ≤ 2 * T := by
      have := (fair_rows (n := N) h.dsg h.nT).rng _ hx
      omega
    by_cases c1 : p ≤ T
    · exact ⟨_, row_in (r := r) (t := (p - 1).toNat) hT hr (by omega), rfl, .inl (by unfold rowX; simp only; omega)⟩
    · obtain ⟨t, ht, h2, he⟩ := ew_in (N := N) h.dsg h.nT hr (p := p) (by omega)
      exact ⟨_, h2, rfl, .inr he⟩
end
end Go.Idl
