/-
  Chapter 36: number f41, place f34, Met f29, TrailingZeros32 f40, split f39.
-/
import Derived.Test.YtpfpgkopbokfgaaDoorC36n0
namespace Go.Idl
set_option linter.all false
open Go.Proofs
set_option maxHeartbeats 4000000
set_option maxRecDepth 40000

def numB (n : Int) : Bool := decide (1 ≤ n ∧ n ≤ 64)
theorem number_fun (n : Int) : F36 41 [.int .i64 n] (fun v => v = .bool (numB n)) := by
  refine IFun.of_bodyZ false 3 [] Tryd.func41 rfl Tryd.call41 rfl fun R hR => ?_
  simp [go_sem]
  refine hR _ _ _ rfl ?_
  simp [go_sem, numB]

/-- The place of one in a list, -1: none. -/
def plc (l : List Int) (x : Int) : Int := match ix l x with | some i => (i : Int) | none => -1
theorem ix_take {l : List Int} {x : Int} {i : Nat} (hi : i < l.length) (h : ∀ j (hj : j < l.length), j < i → l[j] ≠ x) : ix l x = if l[i] = x then some i else (ix (l.drop (i + 1)) x).map (· + (i + 1)) := by
  have e : l = l.take i ++ l[i] :: l.drop (i + 1) := by simp
  have hn : ix (l.take i) x = none := by
    rw [ix_none]
    intro hm
    obtain ⟨j, hj, e⟩ := List.mem_iff_getElem.1 hm
    simp only [List.length_take] at hj
    rw [List.getElem_take] at e
    exact h j (by omega) (by omega) e
  conv => lhs; rw [e]
  rw [ix_append, hn]
  simp only [ix, List.length_take]
  rw [Nat.min_eq_left (by omega)]
  by_cases hx : l[i] = x
  · rw [if_pos hx, if_pos hx]; simp
  · rw [if_neg hx, if_neg hx, Option.map_map]
    congr 1; funext k; simp only [Function.comp]; omega
theorem place_fun (l : List Int) (x : Int) (hl : l.length ≤ 2 ^ 32) : F36 34 [.fz 1 (ints l), .int .i64 x] (fun v => v = .int .i64 (plc l x)) := by
  refine IFun.of_bodyZ false 7 [7, 8, 9, 10, 16] Tryd.func34 rfl Tryd.call34 rfl fun R hR => ?_
  simp [go_sem]
  refine IWp.loopT (α := Nat) (fun i => (⟨false, 19, 7, [7, 8, 9, 10, 16], glT, [(1, .int .i64 x), (7, .fz 1 (ints l)), (8, .int .i64 (l.length : Int)), (9, .int .i64 (i : Int))], []⟩, []))
    (fun i => i ≤ l.length ∧ ∀ j (hj : j < l.length), j < i → l[j] ≠ x) (fun i => l.length - i) 0 ⟨by omega, by omega⟩ (by simp [go_sem]) ?_
  rintro i ⟨hi, hne⟩
  by_cases h : i < l.length
  · have w1 : IntKind.i64.wrap ((i : Int) + 1) = i + 1 := wrap64 (by omega) (by omega)
    have hix := ix_take h hne
    by_cases hx : l[i] = x
    · have hx' : (x == l[i]) = true := by rw [hx]; simp
      have hx2 : x = l[i] := hx.symm
      simp [go_sem, h, hx.symm]
      rw [if_pos hx] at hix
      exact hR _ _ _ rfl (by simp [go_sem, plc, hix])
    · have hx2 : ¬ x = l[i] := fun e => hx e.symm
      simp [go_sem, h, hx2, w1]
      refine ⟨i + 1, by omega, ⟨by omega, fun j hj hji => ?_⟩, by omega⟩
      by_cases e : j = i
      · subst e; exact hx
      · exact hne j hj (by omega)
  · simp [go_sem, h]
    have : ix l x = none := by
      rw [ix_none]
      intro hm
      obtain ⟨j, hj, e⟩ := List.mem_iff_getElem.1 hm
      exact hne j hj (by omega) e
    exact hR _ _ _ rfl (by simp [go_sem, plc, this])

def metB (met : List (Int × Int)) (a b : Int) : Bool := met.any fun p => decide (p = (a, b)) || decide (p = (b, a))
theorem Met_fun (met : List (Int × Int)) (a b : Int) (hl : met.length ≤ 2 ^ 32) : F36 29 [.fz 2 (prs met), .int .i64 a, .int .i64 b] (fun v => v = .bool (metB met a b)) := by
  refine IFun.of_bodyZ false 11 [17, 18, 19, 20, 30] Tryd.func29 rfl Tryd.call29 rfl fun R hR => ?_
  simp [go_sem]
  refine IWp.loopT (α := Nat) (fun i => (⟨false, 32, 11, [17, 18, 19, 20, 30], glT, [(7, .ptr 0 1 0 0), (8, .ptr 1 1 0 0), (17, .fz 2 (prs met)), (18, .int .i64 (met.length : Int)), (19, .int .i64 (i : Int))], []⟩, [.rows 2 [[.int .i64 a, .int .i64 b]], .rows 2 [[.int .i64 b, .int .i64 a]]]))
    (fun i => i ≤ met.length ∧ metB (met.take i) a b = false) (fun i => met.length - i) 0 ⟨by omega, by simp [metB]⟩ (by simp [go_sem]) ?_
  rintro i ⟨hi, hne⟩
  by_cases h : i < met.length
  · have w1 : IntKind.i64.wrap ((i : Int) + 1) = i + 1 := wrap64 (by omega) (by omega)
    obtain ⟨p, hp⟩ : ∃ p, met[i] = p := ⟨_, rfl⟩
    obtain ⟨x, y⟩ := p
    by_cases hx : (x, y) = (a, b) ∨ (x, y) = (b, a)
    · have hm : metB met a b = true := by
        unfold metB
        rw [List.any_eq_true]
        exact ⟨(x, y), hp ▸ List.getElem_mem h, by simpa using hx⟩
      rcases hx with hx | hx
      · cases hx
        simp [go_sem, h, hp]
        exact hR _ _ _ (by rw [hm]) (by simp [go_sem])
      · cases hx
        by_cases hab : b = a
        · subst hab
          simp [go_sem, h, hp]
          exact hR _ _ _ (by rw [hm]) (by simp [go_sem])
        · simp [go_sem, h, hp, hab]
          exact hR _ _ _ (by rw [hm]) (by simp [go_sem])
    · have h1 : ¬ (x = a ∧ y = b) := fun e => hx (.inl (by rw [e.1, e.2]))
      have h2 : ¬ (x = b ∧ y = a) := fun e => hx (.inr (by rw [e.1, e.2]))
      have h1' : (x == a && y == b) = false := by rw [← Bool.not_eq_true]; simpa using h1
      have h2' : (x == b && y == a) = false := by rw [← Bool.not_eq_true]; simpa using h2
      simp [go_sem, h, hp, h1', h2', w1, h1, h2]
      refine ⟨i + 1, by omega, ⟨by omega, ?_⟩, by omega⟩
      rw [metB, List.take_succ_eq_append_getElem h, List.any_append, ← metB, hne, hp]
      simp [h1, h2]
  · simp [go_sem, h]
    have e : met.take i = met := List.take_of_length_le (by omega)
    rw [e] at hne
    exact hR _ _ _ (by rw [hne]) (by simp [go_sem])

theorem u32_of {m : Nat} (h : m < 2 ^ 32) : IntKind.u32.wrap (m : Int) = m := wrapu32 (by omega) (by omega)
theorem tz_tab : ∀ a : Nat, a < 32 → tabL.getD ((2 ^ a * 125613361 % 4294967296) / 134217728) 99 = a := by decide +kernel
theorem tz_fun (m : Nat) (h0 : m ≠ 0) (h : m < 2 ^ 32) : F36 40 [.int .u32 m] (fun v => v = .int .i64 (tz m)) := by
  refine IFun.of_bodyZ false 3 [4] Tryd.func40 rfl Tryd.call40 rfl fun R hR => ?_
  have e1 := u32_neg h0 h
  have e1' : IntKind.u32.wrap (-(m : Int)) = ((2 ^ 32 - m : Nat) : Int) := by rw [← e1]; simp
  have ha := (tz_spec h0 h).1
  obtain ⟨K, hK⟩ : ∃ K, 2 ^ 32 - m = K := ⟨_, rfl⟩
  have e2 := u32_and h (b := K) (by omega)
  rw [← hK, low_bit h0 h] at e2
  rw [hK] at e1 e1' e2
  have ht := tz_tab (tz m) ha
  generalize tz m = a at *
  obtain ⟨A, hA⟩ : ∃ A, 2 ^ a = A := ⟨_, rfl⟩
  rw [hA] at e2 ht
  obtain ⟨B, hB⟩ : ∃ B, A * 125613361 % 4294967296 = B := ⟨_, rfl⟩
  have e3 : IntKind.u32.wrap ((A : Int) * 125613361) = (B : Int) := by
    rw [← hB]
    simp [IntKind.wrap, IntKind.bits, IntKind.signed]
  rw [hB] at ht
  obtain ⟨i, hi⟩ : ∃ i, B / 134217728 = i := ⟨_, rfl⟩
  have hi2 : i < 32 := by omega
  have e4 : (B : Int).fdiv 134217728 = (i : Int) := by rw [← hi]; exact (Int.ofNat_fdiv B 134217728).symm
  rw [hi] at ht
  have ht2 : tabR[i]?.getD (.tup []) = .int .u8 (a : Int) := by
    have h5 : i < tabL.length := hi2
    have h4 : tabL[i] = a := by rw [← ht]; simp [h5]
    simp [tabR, h5, h4]
  have hu8 : IntKind.i64.wrap (a : Int) = a := wrap64 (by omega) (by omega)
  have hm0 : ¬ (m : Int) = 0 := by omega
  simp [go_sem, h0, e1, e1', e2, e3, e4, ht2, hi2, hu8]
  exact ⟨by omega, by omega, hR _ _ _ rfl (by simp [go_sem])⟩
theorem split_fun (m : Nat) (h0 : m ≠ 0) (h : m < 2 ^ 32) : F36 39 [.int .u32 m] (fun v => v = .tup [.int .i64 (tz m), .int .u32 ((m &&& (m - 1) : Nat) : Int)]) := by
  refine IFun.of_bodyZ false 4 [] Tryd.func39 rfl Tryd.call39 rfl fun R hR => ?_
  have e1 := u32_pred h0 h
  obtain ⟨K, hK⟩ : ∃ K, m - 1 = K := ⟨_, rfl⟩
  have e2 := u32_and h (b := K) (by omega)
  rw [hK] at e1
  obtain ⟨r, hr⟩ : ∃ r, m &&& K = r := ⟨_, rfl⟩
  rw [hr] at e2
  simp [go_sem]
  refine (tz_fun m h0 h).call (by simp [go_sem]) ?_
  rintro _ rfl
  simp [go_sem, e1, e2]
  exact hR _ _ _ rfl (by simp [go_sem, hK, hr])

/-! ### Right -/
def rightB (teams : List Int) (met : List (Int × Int)) : Bool := teams.all numB && decide teams.Nodup && met.all fun p => numB p.1 && numB p.2 && !(decide (p.1 = p.2))
end Go.Idl
