/-
  Chapter 36: number f41, place f34, Met f29, TrailingZeros32 f40, split f39.
  Chapter 36: Right f25.
  Chapter 36: the table: all f33, set f30.
  Chapter 36: even f37; counter f38, drawn f31 and the functions that they make.
  Chapter 36: Count f22.
-/
import Derived.Test.YtpfpgkopbokfgaaDoorC36PartA
namespace Go.Idl
set_option linter.all false
open Go.Proofs
set_option maxHeartbeats 4000000
set_option maxRecDepth 40000

def numB (n : Int) : Bool := decide (1 ≤ n ∧ n ≤ 64)
theorem number_fun (n : Int) : F36 41 [.int .i64 n] (fun v => v = .bool (numB n)) := by
  refine IFun.of_bodyZ false 3 [] Tryd.func41 rfl Tryd.call41 rfl fun R hR => ?_
  simp [go_sem]
  refine hR _ _ _ rfl ?_
  simp [go_sem, numB]

/-- The place of one in a list, -1: none. -/
def plc (l : List Int) (x : Int) : Int := match ix l x with | some i => (i : Int) | none => -1
theorem ix_take {l : List Int} {x : Int} {i : Nat} (hi : i < l.length) (h : ∀ j (hj : j < l.length), j < i → l[j] ≠ x) : ix l x = if l[i] = x then some i else (ix (l.drop (i + 1)) x).map (· + (i + 1)) := by
  have e : l = l.take i ++ l[i] :: l.drop (i + 1) := by simp
  have hn : ix (l.take i) x = none := by
    rw [ix_none]
    intro hm
    obtain ⟨j, hj, e⟩ := List.mem_iff_getElem.1 hm
    simp only [List.length_take] at hj
    rw [List.getElem_take] at e
    exact h j (by omega) (by omega) e
  conv => lhs; rw [e]
  rw [ix_append, hn]
  simp only [ix, List.length_take]
  rw [Nat.min_eq_left (by omega)]
  by_cases hx : l[i] = x
  · rw [if_pos hx, if_pos hx]; simp
  · rw [if_neg hx, if_neg hx, Option.map_map]
    congr 1; funext k; simp only [Function.comp]; omega
theorem place_fun (l : List Int) (x : Int) (hl : l.length ≤ 2 ^ 32) : F36 34 [.fz 1 (ints l), .int .i64 x] (fun v => v = .int .i64 (plc l x)) := by
  refine IFun.of_bodyZ false 7 [7, 8, 9, 10, 16] Tryd.func34 rfl Tryd.call34 rfl fun R hR => ?_
  simp [go_sem]
  refine IWp.loopT (α := Nat) (fun i => (⟨false, 19, 7, [7, 8, 9, 10, 16], glT, [(1, .int .i64 x), (7, .fz 1 (ints l)), (8, .int .i64 (l.length : Int)), (9, .int .i64 (i : Int))], []⟩, []))
    (fun i => i ≤ l.length ∧ ∀ j (hj : j < l.length), j < i → l[j] ≠ x) (fun i => l.length - i) 0 ⟨by omega, by omega⟩ (by simp [go_sem]) ?_
  rintro i ⟨hi, hne⟩
  by_cases h : i < l.length
  · have w1 : IntKind.i64.wrap ((i : Int) + 1) = i + 1 := wrap64 (by omega) (by omega)
    have hix := ix_take h hne
    by_cases hx : l[i] = x
    · have hx' : (x == l[i]) = true := by rw [hx]; simp
      have hx2 : x = l[i] := hx.symm
      simp [go_sem, h, hx.symm]
      rw [if_pos hx] at hix
      exact hR _ _ _ rfl (by simp [go_sem, plc, hix])
    · have hx2 : ¬ x = l[i] := fun e => hx e.symm
      simp [go_sem, h, hx2, w1]
      refine ⟨i + 1, by omega, ⟨by omega, fun j hj hji => ?_⟩, by omega⟩
      by_cases e : j = i
      · subst e; exact hx
      · exact hne j hj (by omega)
  · simp [go_sem, h]
    have : ix l x = none := by
      rw [ix_none]
      intro hm
      obtain ⟨j, hj, e⟩ := List.mem_iff_getElem.1 hm
      exact hne j hj (by omega) e
    exact hR _ _ _ rfl (by simp [go_sem, plc, this])

def metB (met : List (Int × Int)) (a b : Int) : Bool := met.any fun p => decide (p = (a, b)) || decide (p = (b, a))
theorem Met_fun (met : List (Int × Int)) (a b : Int) (hl : met.length ≤ 2 ^ 32) : F36 29 [.fz 2 (prs met), .int .i64 a, .int .i64 b] (fun v => v = .bool (metB met a b)) := by
  refine IFun.of_bodyZ false 11 [17, 18, 19, 20, 30] Tryd.func29 rfl Tryd.call29 rfl fun R hR => ?_
  simp [go_sem]
  refine IWp.loopT (α := Nat) (fun i => (⟨false, 32, 11, [17, 18, 19, 20, 30], glT, [(7, .ptr 0 1 0 0), (8, .ptr 1 1 0 0), (17, .fz 2 (prs met)), (18, .int .i64 (met.length : Int)), (19, .int .i64 (i : Int))], []⟩, [.rows 2 [[.int .i64 a, .int .i64 b]], .rows 2 [[.int .i64 b, .int .i64 a]]]))
    (fun i => i ≤ met.length ∧ metB (met.take i) a b = false) (fun i => met.length - i) 0 ⟨by omega, by simp [metB]⟩ (by simp [go_sem]) ?_
  rintro i ⟨hi, hne⟩
  by_cases h : i < met.length
  · have w1 : IntKind.i64.wrap ((i : Int) + 1) = i + 1 := wrap64 (by omega) (by omega)
    obtain ⟨p, hp⟩ : ∃ p, met[i] = p := ⟨_, rfl⟩
    obtain ⟨x, y⟩ := p
    by_cases hx : (x, y) = (a, b) ∨ (x, y) = (b, a)
    · have hm : metB met a b = true := by
        unfold metB
        rw [List.any_eq_true]
        exact ⟨(x, y), hp ▸ List.getElem_mem h, by simpa using hx⟩
      rcases hx with hx | hx
      · cases hx
        simp [go_sem, h, hp]
        exact hR _ _ _ (by rw [hm]) (by simp [go_sem])
      · cases hx
        by_cases hab : b = a
        · subst hab
          simp [go_sem, h, hp]
          exact hR _ _ _ (by rw [hm]) (by simp [go_sem])
        · simp [go_sem, h, hp, hab]
          exact hR _ _ _ (by rw [hm]) (by simp [go_sem])
    · have h1 : ¬ (x = a ∧ y = b) := fun e => hx (.inl (by rw [e.1, e.2]))
      have h2 : ¬ (x = b ∧ y = a) := fun e => hx (.inr (by rw [e.1, e.2]))
      have h1' : (x == a && y == b) = false := by rw [← Bool.not_eq_true]; simpa using h1
      have h2' : (x == b && y == a) = false := by rw [← Bool.not_eq_true]; simpa using h2
      simp [go_sem, h, hp, h1', h2', w1, h1, h2]
      refine ⟨i + 1, by omega, ⟨by omega, ?_⟩, by omega⟩
      rw [metB, List.take_succ_eq_append_getElem h, List.any_append, ← metB, hne, hp]
      simp [h1, h2]
  · simp [go_sem, h]
    have e : met.take i = met := List.take_of_length_le (by omega)
    rw [e] at hne
    exact hR _ _ _ (by rw [hne]) (by simp [go_sem])

theorem u32_of {m : Nat} (h : m < 2 ^ 32) : IntKind.u32.wrap (m : Int) = m := wrapu32 (by omega) (by omega)
theorem tz_tab : ∀ a : Nat, a < 32 → tabL.getD ((2 ^ a * 125613361 % 4294967296) / 134217728) 99 = a := by decide +kernel
theorem tz_fun (m : Nat) (h0 : m ≠ 0) (h : m < 2 ^ 32) : F36 40 [.int .u32 m] (fun v => v = .int .i64 (tz m)) := by
  refine IFun.of_bodyZ false 3 [4] Tryd.func40 rfl Tryd.call40 rfl fun R hR => ?_
  have e1 := u32_neg h0 h
  have e1' : IntKind.u32.wrap (-(m : Int)) = ((2 ^ 32 - m : Nat) : Int) := by rw [← e1]; simp
  have ha := (tz_spec h0 h).1
  obtain ⟨K, hK⟩ : ∃ K, 2 ^ 32 - m = K := ⟨_, rfl⟩
  have e2 := u32_and h (b := K) (by omega)
  rw [← hK, low_bit h0 h] at e2
  rw [hK] at e1 e1' e2
  have ht := tz_tab (tz m) ha
  generalize tz m = a at *
  obtain ⟨A, hA⟩ : ∃ A, 2 ^ a = A := ⟨_, rfl⟩
  rw [hA] at e2 ht
  obtain ⟨B, hB⟩ : ∃ B, A * 125613361 % 4294967296 = B := ⟨_, rfl⟩
  have e3 : IntKind.u32.wrap ((A : Int) * 125613361) = (B : Int) := by
    rw [← hB]
    simp [IntKind.wrap, IntKind.bits, IntKind.signed]
  rw [hB] at ht
  obtain ⟨i, hi⟩ : ∃ i, B / 134217728 = i := ⟨_, rfl⟩
  have hi2 : i < 32 := by omega
  have e4 : (B : Int).fdiv 134217728 = (i : Int) := by rw [← hi]; exact (Int.ofNat_fdiv B 134217728).symm
  rw [hi] at ht
  have ht2 : tabR[i]?.getD (.tup []) = .int .u8 (a : Int) := by
    have h5 : i < tabL.length := hi2
    have h4 : tabL[i] = a := by rw [← ht]; simp [h5]
    simp [tabR, h5, h4]
  have hu8 : IntKind.i64.wrap (a : Int) = a := wrap64 (by omega) (by omega)
  have hm0 : ¬ (m : Int) = 0 := by omega
  simp [go_sem, h0, e1, e1', e2, e3, e4, ht2, hi2, hu8]
  exact ⟨by omega, by omega, hR _ _ _ rfl (by simp [go_sem])⟩
theorem split_fun (m : Nat) (h0 : m ≠ 0) (h : m < 2 ^ 32) : F36 39 [.int .u32 m] (fun v => v = .tup [.int .i64 (tz m), .int .u32 ((m &&& (m - 1) : Nat) : Int)]) := by
  refine IFun.of_bodyZ false 4 [] Tryd.func39 rfl Tryd.call39 rfl fun R hR => ?_
  have e1 := u32_pred h0 h
  obtain ⟨K, hK⟩ : ∃ K, m - 1 = K := ⟨_, rfl⟩
  have e2 := u32_and h (b := K) (by omega)
  rw [hK] at e1
  obtain ⟨r, hr⟩ : ∃ r, m &&& K = r := ⟨_, rfl⟩
  rw [hr] at e2
  simp [go_sem]
  refine (tz_fun m h0 h).call (by simp [go_sem]) ?_
  rintro _ rfl
  simp [go_sem, e1, e2]
  exact hR _ _ _ rfl (by simp [go_sem, hK, hr])

/-! ### Right -/
def rightB (teams : List Int) (met : List (Int × Int)) : Bool := teams.all numB && decide teams.Nodup && met.all fun p => numB p.1 && numB p.2 && !(decide (p.1 = p.2))
end Go.Idl
namespace Go.Idl
set_option linter.all false
open Go.Proofs
set_option maxHeartbeats 4000000
set_option maxRecDepth 40000

def seenB (l : List Int) (i : Nat) : Bool := decide ((i : Int) ∈ l)
theorem Right_fun (teams : List Int) (met : List (Int × Int)) (hl : teams.length ≤ 2 ^ 32) (hm : met.length ≤ 2 ^ 32) : F36 25 [.fz 1 (ints teams), .fz 2 (prs met)] (fun v => v = .bool (rightB teams met)) := by
  refine IFun.of_bodyZ false 10 [10, 11, 12, 13, 23, 27, 28, 29, 30, 49] Tryd.func25 rfl Tryd.call25 rfl fun R hR => ?_
  simp [go_sem]
  refine IWp.loopT (α := Nat) (fun i => (⟨false, 51, 10, [10, 11, 12, 13, 23, 27, 28, 29, 30, 49], glT, [(1, .fz 2 (prs met)), (5, .ptr 0 1 0 0), (10, .fz 1 (ints teams)), (11, .int .i64 (teams.length : Int)), (12, .int .i64 (i : Int))], []⟩, [.rows 65 [arr 65 fun k => .bool (seenB (teams.take i) k)]]))
    (fun i => i ≤ teams.length ∧ (teams.take i).all numB = true ∧ (teams.take i).Nodup) (fun i => teams.length - i) 0 ⟨by omega, by simp, by simp⟩ (by simp [go_sem, seenB]; rfl) ?_
  rintro i ⟨hi, hnum, hnd⟩
  by_cases h : i < teams.length
  · have w1 : IntKind.i64.wrap ((i : Int) + 1) = i + 1 := wrap64 (by omega) (by omega)
    obtain ⟨t, ht⟩ : ∃ t, teams[i] = t := ⟨_, rfl⟩
    have hsn : teams.take (i + 1) = teams.take i ++ [t] := by rw [List.take_succ_eq_append_getElem h, ht]
    have hsp : teams = teams.take i ++ t :: teams.drop (i + 1) := by rw [← ht]; simp
    simp [go_sem, h, ht]
    refine (number_fun t).call (by simp [go_sem]) ?_
    rintro _ rfl
    cases hn : numB t with
    | false =>
      have : rightB teams met = false := by
        have : teams.all numB = false := by rw [hsp, List.all_append]; simp [hn]
        simp [rightB, this]
      by_cases h65 : t.toNat < 65
      · have hq := arr_at (n := 65) (f := fun j => IV.bool (seenB (teams.take i) j)) (d := IV.tup []) h65
        simp [go_sem, hq]
        exact hR _ _ _ rfl (by simp [go_sem, this])
      · have hq : (arr 65 fun j => IV.bool (seenB (teams.take i) j))[t.toNat]?.getD (IV.tup []) = IV.tup [] := by rw [List.getElem?_eq_none (by simp [go_sem]; omega)]; rfl
        simp [go_sem, hq]
        exact hR _ _ _ rfl (by simp [go_sem, this])
    | true =>
      have hb : 1 ≤ t ∧ t ≤ 64 := by simpa [numB] using hn
      obtain ⟨k, rfl⟩ : ∃ k : Nat, t = k := ⟨t.toNat, by omega⟩
      have hk : k < 65 := by omega
      have hat := arr_at (n := 65) (f := fun j => IV.bool (seenB (teams.take i) j)) (d := IV.tup []) hk
      cases hs : seenB (teams.take i) k with
      | true =>
        have : rightB teams met = false := by
          have : ¬ teams.Nodup := by
            intro hnd2
            rw [hsp, List.nodup_append] at hnd2
            exact hnd2.2.2 k (of_decide_eq_true hs) k (by simp) rfl
          simp [rightB, this]
        simp [go_sem, hk, hat, hs]
        exact ⟨by omega, by omega, hR _ _ _ rfl (by simp [go_sem, this])⟩
      | false =>
        simp [go_sem, hk, hat, hs, w1]
        rw [arr_put hk, upF_bool]
        refine ⟨by omega, by omega, by omega, by omega, i + 1, ⟨by omega, ?_⟩, ⟨by omega, ?_, ?_⟩, by omega⟩
        · congr 1; funext j
          congr 1
          rw [hsn]
          by_cases e : j = k
          · subst e; simp [seenB]
          · have e2 : ¬ (j : Int) = k := by omega
            simp [seenB, e, e2]
        · intro x hx
          rw [hsn] at hx
          rcases List.mem_append.1 hx with hx | hx
          · exact List.all_eq_true.1 hnum x hx
          · have : x = k := by simpa using hx
            rw [this]; exact hn
        · rw [hsn, List.nodup_append]
          refine ⟨hnd, by simp, fun a ha b hb e => ?_⟩
          have : b = k := by simpa using hb
          subst this
          rw [e] at ha
          have : seenB (teams.take i) k = true := decide_eq_true ha
          rw [hs] at this; cases this
  · have e : teams.take i = teams := List.take_of_length_le (by omega)
    rw [e] at hnum hnd
    simp [go_sem, h]
    refine IWp.loopT (α := Nat) (fun j => (⟨false, 51, 10, [10, 11, 12, 13, 23, 27, 28, 29, 30, 49], glT, [(27, .fz 2 (prs met)), (28, .int .i64 (met.length : Int)), (29, .int .i64 (j : Int))], []⟩, [.dead]))
      (fun j => j ≤ met.length ∧ (met.take j).all (fun p => numB p.1 && numB p.2 && !(decide (p.1 = p.2))) = true) (fun j => met.length - j) 0 ⟨by omega, by simp⟩ (by simp [go_sem]) ?_
    rintro j ⟨hj, hok⟩
    by_cases h2 : j < met.length
    · have w1 : IntKind.i64.wrap ((j : Int) + 1) = j + 1 := wrap64 (by omega) (by omega)
      obtain ⟨p, hp⟩ : ∃ p, met[j] = p := ⟨_, rfl⟩
      obtain ⟨x, y⟩ := p
      have bad : (numB x && numB y && !(decide (x = y))) = false → rightB teams met = false := fun hb => by
        have : (met.all fun p => numB p.1 && numB p.2 && !(decide (p.1 = p.2))) = false := by
          rw [List.all_eq_false]
          exact ⟨(x, y), hp ▸ List.getElem_mem h2, by simp only [hb]; simp⟩
        rw [rightB, this, Bool.and_false]
      simp [go_sem, h2, hp]
      refine (number_fun x).call (by simp [go_sem]) ?_
      rintro _ rfl
      cases hx : numB x with
      | false =>
        rw [hx] at bad
        simp [go_sem]
        exact hR _ _ _ rfl (by simp [go_sem, bad rfl])
      | true =>
        simp [go_sem]
        refine (number_fun y).call (by simp [go_sem]) ?_
        rintro _ rfl
        cases hy : numB y with
        | false =>
          rw [hx, hy] at bad
          simp [go_sem]
          exact hR _ _ _ rfl (by simp [go_sem, bad rfl])
        | true =>
          by_cases hxy : x = y
          · subst hxy
            simp [go_sem]
            exact hR _ _ _ rfl (by simp [go_sem, bad (by simp)])
          · simp [go_sem, hxy, w1]
            refine ⟨j + 1, by omega, ⟨by omega, ?_⟩, by omega⟩
            rw [List.take_succ_eq_append_getElem h2, hp]
            intro a b hab
            rcases List.mem_append.1 hab with hab | hab
            · have := List.all_eq_true.1 hok _ hab; simpa using this
            · have : (a, b) = (x, y) := by simpa using hab
              cases this
              exact ⟨⟨hx, hy⟩, hxy⟩
    · have e2 : met.take j = met := List.take_of_length_le (by omega)
      rw [e2] at hok
      have : rightB teams met = true := by rw [rightB, hnum, hok]; simp [hnd]
      simp [go_sem, h2]
      exact hR _ _ _ rfl (by simp [go_sem, this])
end Go.Idl
namespace Go.Idl
set_option linter.all false
open Go.Proofs
set_option maxHeartbeats 4000000
set_option maxRecDepth 40000

theorem shl32 {i : Nat} (h : i < 32) : IntKind.u32.wrap ((2 : Int) ^ i) = ((2 ^ i : Nat) : Int) := by
  have : 2 ^ i < 2 ^ 32 := Nat.pow_lt_pow_right (by decide) h
  rw [show (2 : Int) ^ i = ((2 ^ i : Nat) : Int) by simp]
  exact u32_of this
theorem min32 {i : Nat} (h : i ≤ 16) : min i 32 = i := by omega
theorem all_fun (teams : List Int) (rest : List IV) (hn : teams.length ≤ 16) : F36 33 [.fptr 17 [.fz 1 (ints teams) :: rest] 0 0] (fun v => v = .int .u32 ((2 ^ teams.length - 1 : Nat) : Int)) := by
  refine IFun.of_bodyZ false 3 [] Tryd.func33 rfl Tryd.call33 rfl fun R hR => ?_
  have e1 := shl32 (i := teams.length) (by omega)
  have hp : 2 ^ teams.length ≤ 2 ^ 16 := Nat.pow_le_pow_right (by decide) hn
  have hp0 : 0 < 2 ^ teams.length := Nat.pow_pos (by decide)
  obtain ⟨A, hA⟩ : ∃ A, 2 ^ teams.length = A := ⟨_, rfl⟩
  rw [hA] at e1 hp hp0
  have e2 : IntKind.u32.wrap ((A : Int) - 1) = ((A - 1 : Nat) : Int) := u32_pred (by omega) (by omega)
  obtain ⟨B, hB⟩ : ∃ B, A - 1 = B := ⟨_, rfl⟩
  rw [hB] at e2
  simp [go_sem, min32 hn, e1, e2]
  exact hR _ _ _ rfl (by simp [go_sem, hA, hB])

def opC (g : Nat → Nat) : List IV := arr 16 fun k => .int .u32 (g k : Int)
def tbR (teams : List Int) (g : Nat → Nat) : List IV := .fz 1 (ints teams) :: opC g
theorem opC_rw {g : Nat → Nat} : opC g = arr 16 fun k => .int .u32 (g k : Int) := rfl
theorem tbR_cl {teams : List Int} {g : Nat → Nat} : ∀ c ∈ tbR teams g, Cl c := by
  intro c hc
  rcases List.mem_cons.1 hc with rfl | hc
  · simp [go_sem]
  · exact scal_cl (arr_sc (fun _ => rfl) c hc)
@[go_sem] theorem tbR_clT {teams : List Int} {g : Nat → Nat} : (∀ c ∈ tbR teams g, Cl c) = True := eq_true tbR_cl
@[go_sem] theorem tbR_clR {teams : List Int} {g : Nat → Nat} : ClR [tbR teams g] = True := eq_true (by intro row hr c hc; simp only [List.mem_singleton] at hr; subst hr; exact tbR_cl c hc)
theorem tbR_one {teams : List Int} {g : Nat → Nat} : ∀ c ∈ tbR teams g, (∃ rs, ScR rs ∧ c = .fz 1 rs) ∨ scal c = true := by
  intro c hc
  rcases List.mem_cons.1 hc with rfl | hc
  · exact .inl ⟨_, by simp [go_sem], rfl⟩
  · exact .inr (arr_sc (fun _ => rfl) c hc)
@[go_sem] theorem tbR_okR {d : Nat} {h : Heap} {teams : List Int} {g : Nat → Nat} : okR true d h [tbR teams g] = True := eq_true (by
  simp only [okR]
  intro row hr c hc; simp only [List.mem_singleton] at hr; subst hr
  rcases tbR_one c hc with ⟨rs, hs, rfl⟩ | hs
  · rw [frzOK_fz]; exact ⟨rfl, hs.cl⟩
  · exact ok_sc hs)
@[go_sem] theorem tbR_frzR {d : Nat} {h : Heap} {teams : List Int} {g : Nat → Nat} : frzR d h [tbR teams g] = [tbR teams g] := by
  have : (tbR teams g).map (frzV d h) = tbR teams g := by
    conv => rhs; rw [← List.map_id (tbR teams g)]
    apply List.map_congr_left
    intro c hc
    rcases tbR_one c hc with ⟨rs, hs, rfl⟩ | hs
    · rw [frzV_fz]; rfl
    · rw [frz_sc hs]; rfl
  simp [frzR, this]
@[go_sem] theorem tbR_bl {n : Nat} {teams : List Int} {g : Nat → Nat} : (∀ c ∈ tbR teams g, Bl n c) = True := eq_true fun c hc => (tbR_cl c hc).bl
@[go_sem] theorem tbR_length {teams : List Int} {g : Nat → Nat} : (tbR teams g).length = 17 := by simp [tbR, opC, go_sem]
theorem tbR_at {teams : List Int} {g : Nat → Nat} {i : Nat} {d : IV} (h : i < 16) : (tbR teams g)[1 + i]?.getD d = .int .u32 (g i : Int) := by
  rw [Nat.add_comm]
  simp only [tbR, List.getElem?_cons_succ]
  exact arr_at h
theorem tbR_get {teams : List Int} {g : Nat → Nat} {i : Nat} (h : i < 16) (h' : 1 + i < (tbR teams g).length) : (tbR teams g)[1 + i] = .int .u32 (g i : Int) := by
  have := tbR_at (teams := teams) (g := g) (d := .tup []) h
  rw [List.getElem?_eq_getElem h'] at this
  exact this
theorem tbR_put {teams : List Int} {g : Nat → Nat} {i x : Nat} (h : i < 16) : List.take (1 + i) (tbR teams g) ++ .int .u32 (x : Int) :: List.drop (1 + i + 1) (tbR teams g) = tbR teams fun k => if k = i then x else g k := by
  have e : 1 + i = i + 1 := by omega
  rw [e]
  simp only [tbR, List.take_succ_cons, List.drop_succ_cons, List.cons_append]
  congr 1
  rw [opC_rw, arr_put h]
  simp only [opC]
  congr 1; funext k
  simp only [upF]
  split <;> rfl
theorem ot_split {m x : Nat} : (if m = x then True else False) = (m = x) := by simp
/-- Whom each can meet. -/
def OpenOK (teams : List Int) (met : List (Int × Int)) (g : Nat → Nat) : Prop :=
  ∀ i, i < 16 → g i < 2 ^ 32 ∧ ∀ k, i < teams.length → Nat.testBit (g i) k = (decide (k < teams.length) && !(decide (k = i)) && !(metB met (teams.getD i 0) (teams.getD k 0)))
theorem metB_snoc (met : List (Int × Int)) (A B a b : Int) : metB (met ++ [(A, B)]) a b = (metB met a b || (decide ((A, B) = (a, b)) || decide ((A, B) = (b, a)))) := by simp [metB]
theorem ix_lt {l : List Int} {x : Int} {i : Nat} (h : ix l x = some i) : ∃ hi : i < l.length, l[i] = x := by
  obtain ⟨h1, _⟩ := ix_some h
  exact List.getElem?_eq_some_iff.1 h1
theorem nodup_eq {l : List Int} (h : l.Nodup) {i j : Nat} (hi : i < l.length) (hj : j < l.length) (e : l[i] = l[j]) : i = j := by
  have hp := List.pairwise_iff_getElem.1 h
  rcases Nat.lt_trichotomy i j with h1 | h1 | h1
  · exact absurd e (hp i j hi hj h1)
  · exact h1
  · exact absurd e.symm (hp j i hj hi h1)
theorem open_zero (teams : List Int) (hn : teams.length ≤ 16) : OpenOK teams [] fun k => if k < teams.length then anb (2 ^ teams.length - 1) (2 ^ k) else 0 := by
  intro i hi
  have hp : 2 ^ teams.length ≤ 2 ^ 16 := Nat.pow_le_pow_right (by decide) hn
  refine ⟨?_, fun k hk => ?_⟩
  · simp only; split
    · exact anb_lt _ _
    · decide
  · simp only [if_pos hk]
    rw [anb_bit _ (by omega), Nat.testBit_two_pow_sub_one, Nat.testBit_two_pow]
    simp only [metB, List.any_nil, Bool.not_false, Bool.and_true]
    congr 2
    exact decide_eq_decide.2 eq_comm
theorem open_skip {teams : List Int} {met : List (Int × Int)} {g : Nat → Nat} {A B : Int} (h : OpenOK teams met g) (hAB : A ∉ teams ∨ B ∉ teams) : OpenOK teams (met ++ [(A, B)]) g := by
  intro i hi
  refine ⟨(h i hi).1, fun k hk => ?_⟩
  rw [(h i hi).2 k hk, metB_snoc]
  by_cases hk2 : k < teams.length
  · have e1 : teams.getD i 0 = teams[i] := by simp [hk]
    have e2 : teams.getD k 0 = teams[k] := by simp [hk2]
    have m1 : teams[i] ∈ teams := List.getElem_mem hk
    have m2 : teams[k] ∈ teams := List.getElem_mem hk2
    rw [e1, e2]
    have n1 : ¬ (A, B) = (teams[i], teams[k]) := by
      rintro e; cases e; rcases hAB with h | h
      · exact h m1
      · exact h m2
    have n2 : ¬ (A, B) = (teams[k], teams[i]) := by
      rintro e; cases e; rcases hAB with h | h
      · exact h m2
      · exact h m1
    simp [n1, n2]
  · simp [hk2]
theorem open_step {teams : List Int} {met : List (Int × Int)} {g : Nat → Nat} (hnd : teams.Nodup) (hn : teams.length ≤ 16) {i j : Nat} (hi : i < teams.length) (hj : j < teams.length) (hij : teams[i] ≠ teams[j]) (h : OpenOK teams met g) :
    OpenOK teams (met ++ [(teams[i], teams[j])]) fun k => if k = j then anb ((fun k => if k = i then anb (g i) (2 ^ j) else g k) j) (2 ^ i) else (fun k => if k = i then anb (g i) (2 ^ j) else g k) k := by
  have hne : ¬ j = i := fun e => hij (by subst e; rfl)
  intro x hx
  have hx' := (h x hx).1
  refine ⟨?_, fun k hk => ?_⟩
  · simp only
    split
    · exact anb_lt _ _
    · split
      · exact anb_lt _ _
      · exact hx'
  · have hb := (h x hx).2 k hk
    have e1 : teams.getD x 0 = teams[x] := by simp [hk]
    have L : Nat.testBit (if x = j then anb (g j) (2 ^ i) else if x = i then anb (g i) (2 ^ j) else g x) k = (Nat.testBit (g x) k && !(decide (x = i ∧ k = j) || decide (x = j ∧ k = i))) := by
      have hgi := (h i (by omega)).1
      have hgj := (h j (by omega)).1
      by_cases hxj : x = j
      · have hxi : ¬ x = i := fun e => hne (by rw [← hxj, e])
        rw [if_pos hxj, anb_bit _ hgj, Nat.testBit_two_pow, hxj]
        have hne' : ¬ j = i := hne
        by_cases hki : i = k
        · simp [hki, hne']
        · have hki2 : ¬ k = i := fun e => hki e.symm
          simp [hki, hki2, hne']
      · by_cases hxi : x = i
        · rw [if_neg hxj, if_pos hxi, anb_bit _ hgi, Nat.testBit_two_pow, hxi]
          have hne' : ¬ i = j := fun e => hne e.symm
          by_cases hkj : j = k
          · simp [hkj]
          · have hkj2 : ¬ k = j := fun e => hkj e.symm
            simp [hkj, hkj2, hne']
        · rw [if_neg hxj, if_neg hxi]
          simp [hxi, hxj]
    simp only [if_neg hne]
    rw [L, hb, metB_snoc, e1]
    by_cases hk2 : k < teams.length
    · have e2 : teams.getD k 0 = teams[k] := by simp [hk2]
      have q : ∀ (a b : Nat) (ha : a < teams.length) (hb : b < teams.length), teams[a] = teams[b] ↔ a = b := fun a b ha hb => ⟨nodup_eq hnd ha hb, fun e => by subst e; rfl⟩
      have q1 : ((teams[i], teams[j]) = (teams[x], teams[k])) ↔ (x = i ∧ k = j) := by
        rw [Prod.mk.injEq, q i x hi hk, q j k hj hk2]; omega
      have q2 : ((teams[i], teams[j]) = (teams[k], teams[x])) ↔ (x = j ∧ k = i) := by
        rw [Prod.mk.injEq, q i k hi hk2, q j x hj hk]; omega
      have d1 : decide ((teams[i], teams[j]) = (teams[x], teams[k])) = decide (x = i ∧ k = j) := decide_eq_decide.2 q1
      have d2 : decide ((teams[i], teams[j]) = (teams[k], teams[x])) = decide (x = j ∧ k = i) := decide_eq_decide.2 q2
      rw [e2, d1, d2]; simp only [Bool.not_or, Bool.and_assoc]
    · simp [hk2]
def SetV (teams : List Int) (met : List (Int × Int)) (v : IV) : Prop :=
  (rightB teams met = false ∧ v = .tup [.nilp, .int .i64 2]) ∨ (rightB teams met = true ∧ 16 < teams.length ∧ v = .tup [.nilp, .int .i64 5]) ∨
  (rightB teams met = true ∧ teams.length ≤ 16 ∧ ∃ g, OpenOK teams met g ∧ v = .tup [.fptr 17 [tbR teams g] 0 0, .int .i64 0])

theorem set_fun (teams : List Int) (met : List (Int × Int)) (hl : teams.length ≤ 2 ^ 32) (hm : met.length ≤ 2 ^ 32) : O36 30 [.fz 1 (ints teams), .fz 2 (prs met)] (SetV teams met) := by
  refine IFun.of_bodyZ false 6 [6, 7, 9, 10, 11, 15, 18, 23, 24, 25, 38, 39, 40, 41, 57] Tryd.func30 rfl Tryd.call30 rfl fun R hR => ?_
  simp [go_sem]
  refine (Right_fun teams met hl hm).call (by simp [go_sem]) ?_
  rintro _ rfl
  cases hr : rightB teams met with
  | false =>
    simp [go_sem]
    exact hR _ _ (.tup [.nilp, .int .i64 2]) (.inl ⟨hr, rfl⟩) (by simp [go_sem])
  | true =>
    by_cases hn : 16 < teams.length
    · have hnI : (16 : Int) < teams.length := by omega
      simp [go_sem, hnI]
      exact hR _ _ (.tup [.nilp, .int .i64 5]) (.inr (.inl ⟨hr, hn, rfl⟩)) (by simp [go_sem])
    · have hn' : teams.length ≤ 16 := by omega
      have hnI : ¬ (16 : Int) < teams.length := by omega
      simp [go_sem, hnI]
      refine IWp.loopT (α := Nat) (fun i => (⟨false, 84, 6, [6, 7, 9, 10, 11, 15, 18, 23, 24, 25, 38, 39, 40, 41, 57], glT, [(0, .fz 1 (ints teams)), (1, .fz 2 (prs met)), (6, .ptr 0 1 0 0), (23, .int .i64 (teams.length : Int)), (24, .int .i64 (i : Int))], []⟩, [.rows 17 [tbR teams fun k => if k < i then anb (2 ^ teams.length - 1) (2 ^ k) else 0]]))
        (fun i => i ≤ teams.length) (fun i => teams.length - i) 0 (by omega) (by simp [go_sem]; rfl) ?_
      intro i hi
      by_cases h : i < teams.length
      · have w1 : IntKind.i64.wrap ((i : Int) + 1) = i + 1 := wrap64 (by omega) (by omega)
        have hI : (i : Int) < teams.length := by omega
        refine yC_cut fun k hk => ?_
        simp [go_sem, hI]
        refine hk _ _ ?_
        clear hk k
        refine yC_cut fun k hk => ?_
        simp [go_sem, h]
        refine hk _ _ ?_
        clear hk k
        refine yC_cut fun k0 hk0 => ?_
        rw [yC_block]
        refine yC_cut fun k hk => ?_
        simp [go_sem]
        refine hk _ _ ?_
        clear hk k
        simp [go_sem]
        refine Drawn.intro (fun k => if k = 3 then .int .u32 ((2 ^ teams.length - 1 : Nat) : Int) else .tup []) ?_
        simp [go_sem]
        have hi16 : i < 16 := by omega
        have e1 := shl32 (i := i) (by omega)
        have e2 : bitsOf .andNot .u32 ((2 ^ teams.length - 1 : Nat) : Int) (IntKind.u32.wrap (2 ^ min i 32)) = ((anb (2 ^ teams.length - 1) (2 ^ i) : Nat) : Int) := by
          rw [min32 (by omega), e1, u32_andNot]
        rw [e2, tbR_put hi16]
        refine ⟨all_fun teams _ hn', by omega, by omega, by decide +kernel, hk0 _ _ ?_⟩
        clear hk0 k0
        simp [go_sem, w1]
        refine ⟨i + 1, ⟨by omega, ?_⟩, by omega, by omega⟩
        congr 1; funext k
        by_cases e : k = i
        · subst e; simp
        · have : k < i + 1 ↔ k < i := by omega
          simp [e, this]
      · have hI : ¬ (i : Int) < teams.length := by omega
        simp [go_sem, h]
        have hin : i = teams.length := by omega
        subst hin
        have hnd : teams.Nodup := by
          have := hr
          simp only [rightB, Bool.and_eq_true, decide_eq_true_eq] at this
          exact this.1.2
        refine IWp.loopT (α := Nat × (Nat → Nat)) (fun x => (⟨false, 84, 6, [6, 7, 9, 10, 11, 15, 18, 23, 24, 25, 38, 39, 40, 41, 57], glT, [(0, .fz 1 (ints teams)), (6, .ptr 0 1 0 0), (38, .fz 2 (prs met)), (39, .int .i64 (met.length : Int)), (40, .int .i64 (x.1 : Int))], []⟩, [.rows 17 [tbR teams x.2]]))
          (fun x => x.1 ≤ met.length ∧ OpenOK teams (met.take x.1) x.2) (fun x => met.length - x.1) (0, fun k => if k < teams.length then anb (2 ^ teams.length - 1) (2 ^ k) else 0) ⟨by simp, by simpa using open_zero teams hn'⟩ (by simp [go_sem]) ?_
        rintro ⟨j, g⟩ ⟨hj, hop⟩
        simp only at hj hop
        by_cases h2 : j < met.length
        · have w1 : IntKind.i64.wrap ((j : Int) + 1) = j + 1 := wrap64 (by omega) (by omega)
          obtain ⟨p, hp⟩ : ∃ p, met[j] = p := ⟨_, rfl⟩
          obtain ⟨A, B⟩ := p
          have hAB : A ≠ B := by
            have := hr
            simp only [rightB, Bool.and_eq_true, List.all_eq_true] at this
            have h3 := this.2 (A, B) (hp ▸ List.getElem_mem h2)
            simpa using h3.2
          have hsn : met.take (j + 1) = met.take j ++ [(A, B)] := by rw [List.take_succ_eq_append_getElem h2, hp]
          simp [go_sem, h2, hp]
          refine Drawn.intro (fun k => if k = 3 then .int .i64 (plc teams A) else if k = 7 then .int .i64 (plc teams B) else .tup []) ?_
          have c1 := place_fun teams A hl
          have c2 := place_fun teams B hl
          have skip : (A ∉ teams ∨ B ∉ teams) → OpenOK teams (met.take (j + 1)) g := fun hs => by rw [hsn]; exact open_skip hop hs
          cases hA : ix teams A with
          | none =>
            have pA : plc teams A = -1 := by rw [plc, hA]
            rw [pA] at c1 ⊢
            simp [go_sem, c1, c2, w1]
            exact ⟨by decide +kernel, j + 1, g, ⟨by omega, rfl⟩, ⟨by omega, skip (.inl (ix_none.1 hA))⟩, by omega⟩
          | some a =>
            obtain ⟨ha, hAe⟩ := ix_lt hA
            have pA : plc teams A = (a : Int) := by rw [plc, hA]
            rw [pA] at c1 ⊢
            cases hB : ix teams B with
            | none =>
              have pB : plc teams B = -1 := by rw [plc, hB]
              rw [pB] at c2 ⊢
              simp [go_sem, c1, c2, w1]
              exact ⟨by decide +kernel, j + 1, g, ⟨by omega, rfl⟩, ⟨by omega, skip (.inr (ix_none.1 hB))⟩, by omega⟩
            | some b =>
              obtain ⟨hb, hBe⟩ := ix_lt hB
              have pB : plc teams B = (b : Int) := by rw [plc, hB]
              rw [pB] at c2 ⊢
              have ha16 : a < 16 := by omega
              have hb16 : b < 16 := by omega
              have s1 := shl32 (i := a) (by omega)
              have s2 := shl32 (i := b) (by omega)
              have st := open_step hnd hn' ha hb (by rw [hAe, hBe]; exact hAB) hop
              rw [hAe, hBe, ← hsn] at st
              have o1 : ∀ x : Nat, bitsOf .andNot .u32 (x : Int) (IntKind.u32.wrap (2 ^ min b 32)) = ((anb x (2 ^ b) : Nat) : Int) := fun x => by rw [min32 (by omega), s2, u32_andNot]
              have o2 : ∀ x : Nat, bitsOf .andNot .u32 (x : Int) (IntKind.u32.wrap (2 ^ min a 32)) = ((anb x (2 ^ a) : Nat) : Int) := fun x => by rw [min32 (by omega), s1, u32_andNot]
              simp [go_sem, c1, c2, w1, tbR_at ha16, tbR_get ha16, o1, o2, tbR_put ha16, tbR_at hb16, tbR_get hb16, tbR_put hb16]
              exact ⟨by decide +kernel, by omega, by omega, by omega, by omega, by decide +kernel, by omega, by omega, by omega, by omega, by decide +kernel, j + 1, _, ⟨by omega, rfl⟩, ⟨by omega, st⟩, by omega⟩
        · simp [go_sem, h2]
          have e2 : met.take j = met := List.take_of_length_le (by omega)
          rw [e2] at hop
          exact hR _ _ (.tup [.fptr 17 [tbR teams g] 0 0, .int .i64 0]) (.inr (.inr ⟨hr, hn', g, hop, rfl⟩)) (by simp [go_sem])
end Go.Idl
namespace Go.Idl
set_option linter.all false
open Go.Proofs
set_option maxHeartbeats 4000000
set_option maxRecDepth 40000

def errN (teams : List Int) (met : List (Int × Int)) (odd : Bool) : Int :=
  if rightB teams met = false then 2 else if 16 < teams.length then 5 else if odd = false ∧ teams.length % 2 = 1 then 360 else 0
def TabV (odd : Bool) (teams : List Int) (met : List (Int × Int)) (v : IV) : Prop :=
  (errN teams met odd ≠ 0 ∧ v = .tup [.nilp, .int .i64 (errN teams met odd)]) ∨
  (errN teams met odd = 0 ∧ ∃ g, OpenOK teams met g ∧ v = .tup [.fptr 17 [tbR teams g] 0 0, .int .i64 0])
theorem errN_zero {teams : List Int} {met : List (Int × Int)} {odd : Bool} (h : errN teams met odd = 0) : rightB teams met = true ∧ teams.length ≤ 16 ∧ (odd = false → teams.length % 2 = 0) := by
  unfold errN at h
  split at h
  · omega
  · rename_i h1
    split at h
    · omega
    · rename_i h2
      split at h
      · omega
      · rename_i h3
        refine ⟨by simpa using h1, by omega, fun ho => ?_⟩
        have : ¬ teams.length % 2 = 1 := fun e => h3 ⟨ho, e⟩
        omega
theorem set_c (teams : List Int) (met : List (Int × Int)) (hl : teams.length ≤ 2 ^ 32) (hm : met.length ≤ 2 ^ 32) : O36 30 [.fz 1 (ints teams), .fz 2 (prs met)] (TabV true teams met) :=
  (set_fun teams met hl hm).mono fun v h => by
    unfold TabV errN
    rcases h with ⟨h1, rfl⟩ | ⟨h1, h2, rfl⟩ | ⟨h1, h2, g, h3, rfl⟩
    · rw [if_pos h1]; exact .inl ⟨by decide, rfl⟩
    · rw [if_neg (by simp [h1]), if_pos h2]; exact .inl ⟨by decide, rfl⟩
    · rw [if_neg (by simp [h1]), if_neg (by omega), if_neg (by simp)]; exact .inr ⟨rfl, g, h3, rfl⟩
theorem even_fun (teams : List Int) (met : List (Int × Int)) (hl : teams.length ≤ 2 ^ 32) (hm : met.length ≤ 2 ^ 32) : O36 37 [.fz 1 (ints teams), .fz 2 (prs met)] (TabV false teams met) := by
  refine IFun.of_bodyZ false 8 [21] Tryd.func37 rfl Tryd.call37 rfl fun R hR => ?_
  simp [go_sem]
  refine (set_fun teams met hl hm).call (by simp [go_sem]) ?_
  intro v hv
  rcases hv with ⟨h1, rfl⟩ | ⟨h1, h2, rfl⟩ | ⟨h1, h2, g, h3, rfl⟩
  · have e : errN teams met false = 2 := by unfold errN; rw [if_pos h1]
    simp [go_sem]
    exact hR _ _ _ (.inl ⟨by rw [e]; decide, rfl⟩) (by simp [go_sem, e])
  · have e : errN teams met false = 5 := by unfold errN; rw [if_neg (by simp [h1]), if_pos h2]
    simp [go_sem]
    exact hR _ _ _ (.inl ⟨by rw [e]; decide, rfl⟩) (by simp [go_sem, e])
  · by_cases hp : teams.length % 2 = 1
    · have e : errN teams met false = 360 := by unfold errN; rw [if_neg (by simp [h1]), if_neg (by omega), if_pos ⟨rfl, hp⟩]
      have hp' : (teams.length : Int).tmod 2 = 1 := by rw [Int.tmod_eq_emod_of_nonneg (by omega)]; omega
      simp [go_sem, hp']
      exact hR _ _ _ (.inl ⟨by rw [e]; decide, rfl⟩) (by simp [go_sem, e])
    · have e : errN teams met false = 0 := by unfold errN; rw [if_neg (by simp [h1]), if_neg (by omega), if_neg (fun h => hp h.2)]
      have hp' : (teams.length : Int).tmod 2 = 0 := by rw [Int.tmod_eq_emod_of_nonneg (by omega)]; omega
      simp [go_sem, hp']
      exact hR _ _ _ (.inr ⟨e, g, h3, rfl⟩) (by simp [go_sem])

@[go_sem] theorem fgt_self {τ : Heap} : fgt τ τ = True := eq_true (fgt_refl τ)
theorem memo_set {g : Nat → Nat} {S : List (Nat × Nat)} {m : Nat} (h : ∀ m' v, aget m' S = some v → v = cntL (fun a b => Nat.testBit (g a) b) (bitsL m')) : ∀ m' v, aget m' (aset m (cntL (fun a b => Nat.testBit (g a) b) (bitsL m)) S) = some v → v = cntL (fun a b => Nat.testBit (g a) b) (bitsL m') := by
  intro m' v hv
  rw [aget_aset] at hv
  split at hv
  · rename_i e; subst e; exact (Option.some.inj hv).symm
  · exact h m' v hv
/-! ### the function that counts -/
/-- Whether two places can meet. -/
def okG (g : Nat → Nat) (a b : Nat) : Bool := Nat.testBit (g a) b
def cntM (g : Nat → Nat) (m : Nat) : Nat := cntL (okG g) (bitsL m)
def enU (S : List (Nat × Nat)) : List (IV × IV) := enM (fun k : Nat => .int .u32 (k : Int)) (fun v : Nat => .int .i64 (v : Int)) S
def MemoC (g : Nat → Nat) (S : List (Nat × Nat)) : Prop := ∀ m v, aget m S = some v → v = cntM g m
/-- The heap of a counter that was made on an empty heap: the table's pointer, the known, the function itself. -/
def cntH (teams : List Int) (g : Nat → Nat) (S : List (Nat × Nat)) : Heap :=
  [.rows 1 [[.fptr 17 [tbR teams g] 0 0]], .map (enU S), .rows 1 [[.map 1]], .rows 1 [[.func (.func 48) [] [.ptr 2 1 0 0, .ptr 0 1 0 0, .ptr 3 1 0 0]]]]
def cntF : IV := .func (.func 48) [] [.ptr 2 1 0 0, .ptr 0 1 0 0, .ptr 3 1 0 0]
theorem counter_calls (teams : List Int) (g : Nat → Nat) : ICalls Tryd.prog glT 38 [.fptr 17 [tbR teams g] 0 0] [] (fun v σ => v = cntF ∧ σ = cntH teams g [(0, 1)]) := by
  refine ICalls.of_bodyE false 5 [] Tryd.func38 rfl Tryd.call38 rfl fun R hR => ?_
  simp [go_sem]
  exact hR _ _ ⟨rfl, rfl⟩

theorem ku32 (a b : Nat) : keq (.int .u32 (a : Int)) (.int .u32 (b : Int)) = decide (a = b) := by
  show (match ceqs [IV.int .u32 (a : Int)] [IV.int .u32 (b : Int)] with | some b => b | none => false) = _
  simp [ceqs, ceq]
  exact decide_eq_decide.2 (by omega)
theorem mget_u (m : Nat) (S : List (Nat × Nat)) : mget (.int .u32 (m : Int)) (enU S) = (aget m S).map fun v : Nat => .int .i64 (v : Int) := mget_en (kf := fun k : Nat => .int .u32 (k : Int)) ku32 m S
theorem mset_u (m v : Nat) (S : List (Nat × Nat)) : mset (.int .u32 (m : Int)) (.int .i64 (v : Int)) (enU S) = enU (aset m v S) := mset_en (kf := fun k : Nat => .int .u32 (k : Int)) (vf := fun v : Nat => .int .i64 (v : Int)) ku32 m v S
theorem ok_u (S : List (Nat × Nat)) : ∀ e ∈ enU S, keyOK Tryd.prog 66 [.int .u32] e.1 = true := en_ok (fun a => by simp [go_sem, keyOK]) S
@[go_sem] theorem bl_u {n : Nat} {S : List (Nat × Nat)} : BlM n (enU S) = True := eq_true (en_bl (fun a => by simp [go_sem]) (fun b => by simp [go_sem]) S)
@[go_sem] theorem enU_len {S : List (Nat × Nat)} : (enU S).length = S.length := by simp [enU, enM]

theorem cntM_zero (g : Nat → Nat) : cntM g 0 = 1 := by rw [cntM, bitsL_zero, cntL_nil]
theorem cntM_rec {g : Nat → Nat} {m : Nat} (h0 : m ≠ 0) (h : m < 2 ^ 32) : cntM g m = ((bitsL ((m &&& (m - 1)) &&& g (tz m))).map fun b => cntM g (anb (m &&& (m - 1)) (2 ^ b))).sum := by
  have hr : m &&& (m - 1) < 2 ^ 32 := and_lt h
  unfold cntM
  generalize hrr : m &&& (m - 1) = r at hr ⊢
  rw [bitsL_clear h0 h, hrr, cntL_nodup _ (bitsL_nodup _), bitsL_and]
  show (List.map _ (List.filter (okG g (tz m)) (bitsL r))).sum = (List.map _ (List.filter (okG g (tz m)) (bitsL r))).sum
  congr 1
  apply List.map_congr_left
  intro b _
  rw [bitsL_anb b hr]
theorem bits_len {m n : Nat} (h : m < 2 ^ n) (hn : n ≤ 32) : (bitsL m).length ≤ n := by
  have : bitsL m = (List.range n).filter fun i => Nat.testBit m i := by
    unfold bitsL
    rw [show 32 = n + (32 - n) by omega, List.range_add, List.filter_append]
    have hnil : List.filter (fun i => Nat.testBit m i) (List.map (fun x => n + x) (List.range (32 - n))) = [] := by
     rw [List.filter_eq_nil_iff]
     intro x hx
     obtain ⟨k, _, rfl⟩ := List.mem_map.1 hx
     rw [Nat.testBit_lt_two_pow (Nat.lt_of_lt_of_le h (Nat.pow_le_pow_right (by decide) (by omega)))]
     simp
    rw [hnil, List.append_nil]
  rw [this]
  exact Nat.le_trans (List.length_filter_le _ _) (by simp)
theorem cntM_le {g : Nat → Nat} {m : Nat} (h : m < 2 ^ 16) : cntM g m ≤ 4294967296 := by
  have := bits_len h (by decide)
  exact cntL_le 8 _ (by omega) (by omega)

theorem count_calls (teams : List Int) (g : Nat → Nat) (hn : teams.length ≤ 16) (hg : ∀ i, i < 16 → g i < 2 ^ 32) : ∀ (m : Nat), m < 2 ^ 16 → ∀ (S : List (Nat × Nat)) (τ : Heap), MemoC g S → aget 0 S = some 1 → HeBl (τ.length + 4) τ →
    ICalls Tryd.prog glT 48 [.int .u32 (m : Int), .ptr 2 1 0 0, .ptr 0 1 0 0, .ptr 3 1 0 0] (cntH teams g S ++ τ) (fun v σ' => v = .int .i64 (cntM g m : Int) ∧ ∃ S', (MemoC g S' ∧ aget 0 S' = some 1) ∧ σ' = cntH teams g S' ++ τ) := by
  intro m
  induction m using Nat.strongRecOn with
  | _ m ih =>
    intro hm S τ hS hS0 hτ
    refine ICalls.of_bodyE false 12 [18, 34] Tryd.func48 rfl Tryd.call48 rfl fun R hR => ?_
    have hok : ∀ (S : List (Nat × Nat)) (a b : IV), (a, b) ∈ enU S → keyOK Tryd.prog 66 [.int .u32] a = true := fun S a b h => ok_u S (a, b) h
    cases hk : aget m S with
    | some v =>
      have := hS m v hk
      simp [go_sem, cntH, mget_u, hk]
      exact ⟨fun a b h => by simpa [go_sem] using hok S a b h, hR _ _ ⟨by rw [this], S, ⟨hS, hS0⟩, rfl⟩⟩
    | none =>
      have hm0 : m ≠ 0 := fun e => by subst e; rw [hS0] at hk; cases hk
      have hm32 : m < 2 ^ 32 := by omega
      have hrec := cntM_rec (g := g) hm0 hm32
      have hrl : m &&& (m - 1) < m := Nat.lt_of_le_of_lt Nat.and_le_right (by omega)
      have htz := (tz_spec hm0 hm32)
      have htz16 : tz m < 16 := by
        have h1 := htz.2.1
        apply Decidable.byContradiction
        intro hc
        rw [Nat.testBit_lt_two_pow (Nat.lt_of_lt_of_le hm (Nat.pow_le_pow_right (by decide) (by omega)))] at h1
        cases h1
      have hbound := cntM_le (g := g) hm
      simp [go_sem, cntH, mget_u, hk]
      refine ⟨fun a b h => by simpa [go_sem] using hok S a b h, ?_⟩
      refine (split_fun m hm0 hm32).call (by simp [go_sem]) ?_
      rintro _ rfl
      generalize tz m = a at *
      generalize m &&& (m - 1) = r at *
      have hr32 : r < 2 ^ 32 := by omega
      have ha := hg a htz16
      have e1 := u32_and hr32 ha
      obtain ⟨o0, ho0⟩ : ∃ o, r &&& g a = o := ⟨_, rfl⟩
      have ho32 : o0 < 2 ^ 32 := by rw [← ho0]; exact and_lt hr32
      rw [ho0] at e1 hrec
      simp [go_sem, tbR_at htz16, tbR_get htz16, e1]
      refine ⟨by omega, by omega, ?_⟩
      refine IWp.loopT (α := Nat × Nat × List (Nat × Nat)) (fun x => (⟨false, 53, 12, [18, 34], glT, [(0, .int .u32 (m : Int)), (1, .ptr 2 1 0 0), (3, .ptr 3 1 0 0), (9, .int .u32 (r : Int)), (10, .int .i64 (x.2.1 : Int)), (11, .int .u32 (x.1 : Int))], []⟩, cntH teams g x.2.2 ++ τ))
        (fun x => x.1 < 2 ^ 32 ∧ x.2.1 + ((bitsL x.1).map fun b => cntM g (anb r (2 ^ b))).sum = cntM g m ∧ MemoC g x.2.2 ∧ aget 0 x.2.2 = some 1) (fun x => x.1) (o0, 0, S) ⟨ho32, by simp [hrec], hS, hS0⟩ (by simp [go_sem, cntH, hτ]) ?_
      rintro ⟨o, acc, S1⟩ ⟨ho, hsum, hS1, hS10⟩
      simp only at ho hsum hS1 hS10
      by_cases h0 : o = 0
      · subst h0
        rw [bitsL_zero] at hsum
        simp at hsum
        subst hsum
        simp [go_sem, cntH]
        rw [mset_u]
        exact ⟨fun a b h => by simpa [go_sem] using hok S1 a b h, hR _ _ ⟨rfl, aset m (cntM g m) S1, ⟨memo_set hS1, by rw [aget_aset, if_neg (fun e => hm0 e.symm)]; exact hS10⟩, rfl⟩⟩
      · have n1 := u32_neg h0 ho
        have n1' : IntKind.u32.wrap (-(o : Int)) = ((2 ^ 32 - o : Nat) : Int) := by rw [← n1]; simp
        obtain ⟨K, hK⟩ : ∃ K, 2 ^ 32 - o = K := ⟨_, rfl⟩
        have n2 := u32_and ho (b := K) (by omega)
        rw [← hK, low_bit h0 ho] at n2
        rw [hK] at n1 n1' n2
        have n3 := u32_pred h0 ho
        obtain ⟨L, hL⟩ : ∃ L, o - 1 = L := ⟨_, rfl⟩
        have n4 := u32_and ho (b := L) (by omega)
        have hcl := bitsL_clear h0 ho
        rw [hL] at n3 hcl
        have hlt : o &&& L < o := Nat.lt_of_le_of_lt Nat.and_le_right (by omega)
        obtain ⟨o2, ho2⟩ : ∃ o2, o &&& L = o2 := ⟨_, rfl⟩
        rw [ho2] at n4 hcl hlt
        rw [hcl, List.map_cons, List.sum_cons] at hsum
        have n5 : bitsOf .andNot .u32 (r : Int) ((2 ^ tz o : Nat) : Int) = ((anb r (2 ^ tz o) : Nat) : Int) := u32_andNot
        obtain ⟨P2, hP2⟩ : ∃ P2, 2 ^ tz o = P2 := ⟨_, rfl⟩
        rw [hP2] at n2 n5 hsum
        obtain ⟨q, hq⟩ : ∃ q, anb r P2 = q := ⟨_, rfl⟩
        rw [hq] at n5 hsum
        have hqm : q < m := by rw [← hq, ← hP2]; exact Nat.lt_of_le_of_lt (anb_le hr32) hrl
        simp [go_sem, cntH, h0, n1, n1', n2, n5]
        refine (ih q hqm (by omega) S1 τ hS1 hS10 hτ).mono ?_
        rintro _ _ ⟨rfl, S2, ⟨hS2, hS20⟩, rfl⟩
        have w1 : IntKind.i64.wrap ((acc : Int) + (cntM g q : Int)) = ((acc + cntM g q : Nat) : Int) := by rw [wrap64 (by omega) (by omega)]; omega
        simp [go_sem, cntH, n3, n4]
        exact ⟨o2, acc + cntM g q, S2, ⟨⟨w1, rfl⟩, rfl, hτ⟩, ⟨by omega, by rw [Nat.add_assoc]; exact hsum, hS2, hS20⟩, hlt⟩
end Go.Idl
namespace Go.Idl
set_option linter.all false
open Go.Proofs
set_option maxHeartbeats 4000000
set_option maxRecDepth 40000

/-- Whether two teams can meet; the draws of some teams. -/
def okT (met : List (Int × Int)) (a b : Int) : Bool := !(metB met a b)
def drT (met : List (Int × Int)) (teams : List Int) : List (List (Int × Int)) := drs (okT met) teams
/-- Places as teams. -/
def asT (teams : List Int) (d : List (Nat × Nat)) : List (Int × Int) := d.map fun p => (teams.getD p.1 0, teams.getD p.2 0)
theorem bitsL_full {n : Nat} (h : n ≤ 32) : bitsL (2 ^ n - 1) = List.range n := by
  unfold bitsL
  rw [show 32 = n + (32 - n) by omega, List.range_add, List.filter_append]
  have h1 : List.filter (fun i => Nat.testBit (2 ^ n - 1) i) (List.range n) = List.range n := by
    rw [List.filter_eq_self]
    intro x hx
    rw [Nat.testBit_two_pow_sub_one]; simpa using hx
  have h2 : List.filter (fun i => Nat.testBit (2 ^ n - 1) i) (List.map (fun x => n + x) (List.range (32 - n))) = [] := by
    rw [List.filter_eq_nil_iff]
    intro x hx
    obtain ⟨k, _, rfl⟩ := List.mem_map.1 hx
    rw [Nat.testBit_two_pow_sub_one]; simp
  rw [h1, h2, List.append_nil]
theorem teams_range (teams : List Int) : (List.range teams.length).map (fun i => teams.getD i 0) = teams := by
  apply List.ext_getElem
  · simp
  · intro i h1 h2; simp [h2]
theorem getD_inj {teams : List Int} (hnd : teams.Nodup) {i k : Nat} (hi : i < teams.length) (hk : k < teams.length) (e : teams.getD i 0 = teams.getD k 0) : i = k := by
  simp only [List.getD_eq_getElem?_getD, List.getElem?_eq_getElem hi, List.getElem?_eq_getElem hk, Option.getD_some] at e
  exact nodup_eq hnd hi hk e
/-- The draws of some places are the draws of their teams. -/
theorem drs_teams {teams : List Int} {met : List (Int × Int)} {g : Nat → Nat} (hn : teams.length ≤ 16) (ho : OpenOK teams met g) {l : List Nat} (hnd : l.Nodup) (hl : ∀ i ∈ l, i < teams.length) :
    drT met (l.map fun i => teams.getD i 0) = (drs (okG g) l).map (asT teams) := by
  have h1 : drs (okG g) l = drs (fun a b => okT met (teams.getD a 0) (teams.getD b 0)) l := by
    refine drs_congr l.length l (Nat.le_refl _) hnd fun a ha b hb hab => ?_
    have ha' := hl a ha
    have hb' := hl b hb
    have := (ho a (by omega)).2 b ha'
    rw [okG, this]
    have e : ¬ b = a := fun e => hab e.symm
    simp [okT, hb', e]
  rw [drT, h1]
  exact drs_map (fun i => teams.getD i 0) (fun a b => rfl) l.length l (Nat.le_refl _)
theorem cnt_teams {teams : List Int} {met : List (Int × Int)} {g : Nat → Nat} (hn : teams.length ≤ 16) (ho : OpenOK teams met g) : cntM g (2 ^ teams.length - 1) = (drT met teams).length := by
  have h := drs_teams hn ho (l := List.range teams.length) List.nodup_range (fun i hi => List.mem_range.1 hi)
  rw [teams_range] at h
  rw [h, List.length_map, cntM, bitsL_full (by omega)]; rfl

theorem all_c (teams : List Int) (g : Nat → Nat) (hn : teams.length ≤ 16) : F36 33 [.fptr 17 [tbR teams g] 0 0] (fun v => v = .int .u32 ((2 ^ teams.length - 1 : Nat) : Int)) := all_fun teams (opC g) hn
theorem memo0 {g : Nat → Nat} : MemoC g [(0, 1)] := by
  intro m v h
  simp only [aget] at h
  split at h
  · rename_i e; subst e; rw [cntM_zero]; exact (Option.some.inj h).symm
  · cases h
def cntN (teams : List Int) (met : List (Int × Int)) : Int := if errN teams met false = 0 then (drT met teams).length else 0
theorem Count_fun (teams : List Int) (met : List (Int × Int)) (hl : teams.length ≤ 2 ^ 32) (hm : met.length ≤ 2 ^ 32) : F36 22 [.fz 1 (ints teams), .fz 2 (prs met)] (fun v => v = .tup [.int .i64 (cntN teams met), .int .i64 (errN teams met false)]) := by
  refine IFun.of_bodyZ false 8 [15] Tryd.func22 rfl Tryd.call22 rfl fun R hR => ?_
  simp [go_sem]
  refine (even_fun teams met hl hm).call (by simp [go_sem]) ?_
  rintro v (⟨h1, rfl⟩ | ⟨h1, g, ho, rfl⟩)
  · have e : cntN teams met = 0 := by unfold cntN; rw [if_neg h1]
    simp [go_sem, h1]
    exact hR _ _ _ rfl (by simp [go_sem, e])
  · obtain ⟨hr, hn, hev⟩ := errN_zero h1
    have e : cntN teams met = (cntM g (2 ^ teams.length - 1) : Int) := by unfold cntN; rw [if_pos h1, cnt_teams hn ho]
    have hp : 2 ^ teams.length - 1 < 2 ^ 16 := by
      have : 2 ^ teams.length ≤ 2 ^ 16 := Nat.pow_le_pow_right (by decide) hn
      have : 0 < 2 ^ teams.length := Nat.pow_pos (by decide)
      omega
    simp [go_sem]
    refine (counter_calls teams g).mono ?_
    rintro _ _ ⟨rfl, rfl⟩
    simp [go_sem, cntF, cntH]
    refine (all_c teams g hn).call (by simp [go_sem]) ?_
    rintro _ rfl
    generalize 2 ^ teams.length - 1 = M at *
    simp [go_sem]
    refine (count_calls teams g hn (fun i hi => (ho i hi).1) M hp [(0, 1)] [] memo0 rfl (by simp [go_sem])).mono ?_
    rintro _ _ ⟨rfl, S', _, rfl⟩
    simp [go_sem]
    exact hR _ _ _ rfl (by simp [go_sem, e, h1])
end Go.Idl
