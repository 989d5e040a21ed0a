/-
  Webs, appendix movements and barometers are fair (plain).
-/
import Derived.Test.YteedopeniojppaaGreatCtopmPartJ
import Derived.Test.YteedopeniojppaaGreatCtopmPartB
namespace Go.Idl
set_option linter.all false
open Go.Proofs
set_option maxHeartbeats 4000000
set_option maxRecDepth 40000

theorem md4 {x y T : Int} (hT : 0 < T) (h : x % T = y % T) (hb : -(4 * T) < x - y ∧ x - y < 4 * T) : x = y ∨ x = y + T ∨ x = y - T ∨ x = y + 2 * T ∨ x = y - 2 * T ∨ x = y + 3 * T ∨ x = y - 3 * T := by
  have e1 := Int.mul_ediv_add_emod x T
  have e2 := Int.mul_ediv_add_emod y T
  obtain ⟨c, hc⟩ : ∃ c, x / T - y / T = c := ⟨_, rfl⟩
  have e3 : x - y = T * c := by rw [← hc, Int.mul_sub]; omega
  rw [e3] at hb
  have h1 : c < 4 := by
    apply Decidable.byContradiction; intro hh
    have := Int.mul_le_mul_of_nonneg_left (show 4 ≤ c by omega) (show 0 ≤ T by omega)
    omega
  have h2 : -4 < c := by
    apply Decidable.byContradiction; intro hh
    have := Int.mul_le_mul_of_nonneg_left (show c ≤ -4 by omega) (show 0 ≤ T by omega)
    omega
  rcases (by omega : c = -3 ∨ c = -2 ∨ c = -1 ∨ c = 0 ∨ c = 1 ∨ c = 2 ∨ c = 3) with rfl | rfl | rfl | rfl | rfl | rfl | rfl <;> omega
namespace Web
theorem rowsX_get {k : Int} {T : Nat} (hT : 0 < T) : ∀ (n q : Nat) (h : q < (rowsX k T n).length), (rowsX k T n)[q] = row k T (q / T) (q % T)
  | 0, q, h => by rw [rowsX_length] at h; omega
  | n + 1, q, h => by
    have hl : (rowsX k T n).length = n * T := rowsX_length n
    by_cases hq : q < n * T
    · have := rowsX_get (k := k) hT n q (by omega)
      simp only [rowsX]
      rw [List.getElem_append_left (by omega)]
      exact this
    · have hlt : q < (n + 1) * T := by rw [rowsX_length] at h; exact h
      rw [Nat.succ_mul] at hlt
      obtain ⟨s, rfl⟩ : ∃ s, q = n * T + s := ⟨q - n * T, by omega⟩
      have e1 : (n * T + s) / T = n := by rw [Nat.mul_comm, Nat.mul_add_div hT, Nat.div_eq_of_lt (by omega)]; rfl
      have e2 : (n * T + s) % T = s := by rw [Nat.mul_comm, Nat.mul_add_mod, Nat.mod_eq_of_lt (by omega)]
      simp only [rowsX]
      rw [List.getElem_append_right (by omega)]
      rw [e1, e2]
      simp [rowL, hl]
theorem rowsX_mem {k : Int} {T n : Nat} (hT : 0 < T) {x : Rw} (h : x ∈ rowsX k T n) : ∃ r t : Nat, r < n ∧ t < T ∧ x = row k T r t := by
  obtain ⟨q, hq, rfl⟩ := List.mem_iff_getElem.1 h
  rw [rowsX_get hT]
  rw [rowsX_length] at hq
  exact ⟨q / T, q % T, Nat.div_lt_of_lt_mul (by rw [Nat.mul_comm]; exact hq), Nat.mod_lt _ hT, rfl⟩
theorem rowsX_pw {k : Int} {T n : Nat} {R : Rw → Rw → Prop} (hT : 0 < T) (h : ∀ r t r' t' : Nat, r < n → t < T → r' < n → t' < T → ¬ (r = r' ∧ t = t') → R (row k T r t) (row k T r' t')) : (rowsX k T n).Pairwise R := by
  rw [List.pairwise_iff_getElem]
  intro i j hi hj hij
  rw [rowsX_get hT, rowsX_get hT]
  rw [rowsX_length] at hi hj
  have hi' := Nat.div_lt_of_lt_mul (by rw [Nat.mul_comm] at hi; exact hi)
  have hj' := Nat.div_lt_of_lt_mul (by rw [Nat.mul_comm] at hj; exact hj)
  refine h _ _ _ _ hi' (Nat.mod_lt _ hT) hj' (Nat.mod_lt _ hT) fun ⟨e1, e2⟩ => ?_
  have a := Nat.div_add_mod i T
  have b := Nat.div_add_mod j T
  rw [e1, e2] at a
  omega
/-- A kind and its number of tables. -/
def Wk (k T : Int) : Prop := (k = 1 ∧ T % 2 = 0 ∨ k = 2 ∧ T % 2 = 0 ∧ 4 ≤ T ∨ k = 3) ∧ 2 ≤ T ∧ T ≤ 24
theorem wk_of {k T : Int} (h : findE T k = 0) : Wk k T := by
  unfold findE at h
  split at h
  · omega
  · split at h
    · split at h
      · exact ⟨by omega, by omega⟩
      · omega
    · split at h
      · split at h
        · exact ⟨by omega, by omega⟩
        · omega
      · split at h
        · exact ⟨by omega, by omega⟩
        · omega
section
variable {k T n r t r' t' : Int}
theorem sets_pos (hW : Wk k T) : 0 < sets T k := by
  obtain ⟨h, _⟩ := hW
  unfold sets
  rcases h with ⟨rfl, h⟩ | ⟨rfl, h⟩ | rfl <;> simp <;> omega
/-- Which set a table has. -/
def setI (k S r t : Int) : Int := if k = 3 then r else (t + r) % S
theorem setI_inj (hW : Wk k T) (hn : n ≤ most T k) (h1 : 0 ≤ r ∧ r < n) (h2 : 0 ≤ r' ∧ r' < n) (h3 : 0 ≤ t ∧ t < T) (h : setI k (sets T k) r t = setI k (sets T k) r' t) : r = r' := by
  have hS := sets_pos hW
  obtain ⟨hk, hT⟩ := hW
  unfold setI at h
  unfold most at hn
  unfold sets at h hS
  rcases hk with ⟨rfl, hk⟩ | ⟨rfl, hk⟩ | rfl
  · simp at h hn hS
    have := md4 (by omega) h (by omega)
    omega
  · simp at h hn hS
    have := md4 (by omega) h (by omega)
    omega
  · simpa using h
theorem both_inj (hW : Wk k T) (hn : n ≤ most T k) (h1 : 0 ≤ r ∧ r < n) (h2 : 0 ≤ r' ∧ r' < n) (h3 : 0 ≤ t ∧ t < T) (h4 : 0 ≤ t' ∧ t' < T) (h : (t - r + T) % T = (t' - r' + T) % T) (h' : setI k (sets T k) r t = setI k (sets T k) r' t') : r = r' ∧ t = t' := by
  have hS := sets_pos hW
  obtain ⟨hk, hT⟩ := hW
  unfold setI at h'
  unfold most at hn
  unfold sets at h' hS
  rcases hk with ⟨rfl, hk⟩ | ⟨rfl, hk⟩ | rfl
  · simp at h' hn hS
    have a := md (by omega) h (by omega)
    have := md4 (by omega) h' (by omega)
    omega
  · simp at h' hn hS
    have a := md (by omega) h (by omega)
    have := md4 (by omega) h' (by omega)
    omega
  · simp at h' hn
    have a := md (by omega) h (by omega)
    omega
theorem ew_inj (hT : 2 ≤ T) (hn : n ≤ T) (h1 : 0 ≤ r ∧ r < n) (h3 : 0 ≤ t ∧ t < T) (h4 : 0 ≤ t' ∧ t' < T) (h : (t - r + T) % T = (t' - r + T) % T) : t = t' := by
  have a := md (by omega) h (by omega)
  omega
theorem meet_inj (hT : 2 ≤ T) (hn : n ≤ T) (h1 : 0 ≤ r ∧ r < n) (h2 : 0 ≤ r' ∧ r' < n) (h3 : 0 ≤ t ∧ t < T) (h : (t - r + T) % T = (t - r' + T) % T) : r = r' := by
  have a := md (by omega) h (by omega)
  omega
theorem most_le (hW : Wk k T) : most T k ≤ T := by
  have := hW.2
  unfold most
  split <;> omega
end
theorem row_s (k : Int) (T i j : Nat) : (row k T i j).s = setI k (sets T k) i j := rfl
theorem row_apart {k : Int} {T n r t r' t' : Nat} (hW : Wk k T) (hn : (n : Int) ≤ most T k) (h1 : r < n) (h2 : t < T) (h3 : r' < n) (h4 : t' < T) (hne : ¬ (r = r' ∧ t = t')) : apart (row k T r t) (row k T r' t') := by
  have hT := hW.2
  have hnT := most_le hW
  have m1 := Int.emod_nonneg ((t : Int) - r + T) (show (T : Int) ≠ 0 by omega)
  have m2 := Int.emod_nonneg ((t' : Int) - r' + T) (show (T : Int) ≠ 0 by omega)
  unfold apart sitsP
  rw [row_s, row_s]
  unfold row
  simp only
  refine ⟨fun e => by omega, fun p hp a b => ?_, ?_⟩
  · rcases a with a | a <;> rcases b with b | b
    · have et : t = t' := by omega
      refine ⟨fun e => hne ⟨by omega, et⟩, fun e => ?_⟩
      subst et
      exact hne ⟨by have := setI_inj hW hn (r := r) (r' := r') (t := t) (by omega) (by omega) (by omega) e; omega, rfl⟩
    · omega
    · omega
    · have em : ((t : Int) - r + T) % T = ((t' : Int) - r' + T) % T := by omega
      refine ⟨fun e => ?_, fun e => hne ?_⟩
      · have er : r = r' := by omega
        subst er
        exact hne ⟨rfl, by have := ew_inj (by omega) (show (n : Int) ≤ T by omega) (r := r) (t := t) (t' := t') (by omega) (by omega) (by omega) em; omega⟩
      · have := both_inj hW hn (r := r) (r' := r') (t := t) (t' := t') (by omega) (by omega) (by omega) (by omega) em e
        omega
  · rintro ⟨_, _, ⟨a, b⟩ | ⟨a, b⟩⟩
    · have et : t = t' := by omega
      subst et
      exact hne ⟨by have := meet_inj (by omega) (show (n : Int) ≤ T by omega) (r := r) (r' := r') (t := t) (by omega) (by omega) (by omega) (by omega); omega, rfl⟩
    · omega
theorem fair_rows {k : Int} {T n : Nat} (hW : Wk k T) (hn : (n : Int) ≤ most T k) : Fair T n (sets T k) (cops T k) (2 * T) (rowsX k T n) := by
  have hT : 0 < T := by have := hW.2; omega
  have hT2 := hW.2
  have hnT := most_le hW
  refine ⟨fun x hx => ?_, ?_, fun r s => ?_⟩
  · obtain ⟨r, t, hr, ht, rfl⟩ := rowsX_mem hT hx
    have m1 := Int.emod_nonneg ((t : Int) - r + T) (show (T : Int) ≠ 0 by omega)
    have m2 := Int.emod_lt_of_pos ((t : Int) - r + T) (show (0 : Int) < T by omega)
    have hs : 0 ≤ (row k T r t).s ∧ (row k T r t).s < sets T k := by
      have hS := sets_pos hW
      rw [row_s]
      unfold setI
      split
      · rename_i h; subst h; unfold sets; simp; omega
      · exact ⟨Int.emod_nonneg _ (by omega), Int.emod_lt_of_pos _ hS⟩
    refine ⟨⟨?_, ?_⟩, ⟨?_, ?_⟩, hs, ?_⟩
    all_goals
      unfold row
      simp only
      omega
  · exact rowsX_pw hT fun r t r' t' h1 h2 h3 h4 hne => row_apart hW hn h1 h2 h3 h4 hne
  · by_cases h3 : k = 3
    · have hc : cops T k = T := by unfold cops; rw [if_pos h3]
      have key : ∀ n : Nat, (rowsX k T n).countP (rsB r s) ≤ T := by
        intro n
        induction n with
        | zero => simp [rowsX]
        | succ n ih =>
          simp only [rowsX]
          rw [List.countP_append]
          by_cases e : r = n
          · have h0 : (rowsX k T n).countP (rsB r s) = 0 := by
              refine List.countP_eq_zero.2 fun w hw hp => ?_
              obtain ⟨r', t', h1, h2, rfl⟩ := rowsX_mem hT hw
              unfold rsB row at hp
              simp only [Bool.and_eq_true, beq_iff_eq] at hp
              omega
            have h1 := List.countP_le_length (p := rsB r s) (l := rowL k T n T)
            rw [rowL_length] at h1
            omega
          · have h0 : (rowL k T n T).countP (rsB r s) = 0 := by
              refine List.countP_eq_zero.2 fun w hw hp => ?_
              obtain ⟨t', _, rfl⟩ := List.mem_map.1 hw
              unfold rsB row at hp
              simp only [Bool.and_eq_true, beq_iff_eq] at hp
              omega
            omega
      rw [hc]
      exact Int.ofNat_le.2 (key n)
    · have hc : cops T k = 2 := by unfold cops; rw [if_neg h3]
      have hTS : (T : Int) ≤ 2 * sets T k := by
        have := hW.1
        unfold sets
        split
        · omega
        · rw [if_pos (by omega)]; omega
      have hS := sets_pos hW
      have key : ∀ b : Bool, (rowsX k T n).countP (fun x => rsB r s x && (decide (x.t < sets T k) == b)) ≤ 1 := fun b => by
        refine countP_one (rowsX_pw hT fun r1 t1 r2 t2 h1 h2 h3' h4 hne => ?_)
        rintro ⟨a, c⟩
        unfold rsB at a c
        rw [row_s] at a c
        unfold row setI at a c
        simp only [Bool.and_eq_true, beq_iff_eq, h3, if_false] at a c
        have er : r1 = r2 := by omega
        subst er
        refine hne ⟨rfl, ?_⟩
        have := md4 hS (a.1.2.trans c.1.2.symm) (by omega)
        have hb := a.2.trans c.2.symm
        have hb' : ((t1 : Int) < sets T k) ↔ ((t2 : Int) < sets T k) := by simpa using hb
        omega
      have hsplit : (rowsX k T n).countP (rsB r s) = (rowsX k T n).countP (fun x => rsB r s x && (decide (x.t < sets T k) == true)) + (rowsX k T n).countP (fun x => rsB r s x && (decide (x.t < sets T k) == false)) := by
        generalize rowsX k T n = L
        induction L with
        | nil => simp
        | cons x L ih =>
          rw [List.countP_cons, List.countP_cons, List.countP_cons, ih]
          by_cases h5 : rsB r s x = true <;> by_cases h6 : x.t < sets T k <;> simp [h5, h6] <;> omega
      have a := key true
      have b := key false
      rw [hc]; omega
end Web
end Go.Idl
