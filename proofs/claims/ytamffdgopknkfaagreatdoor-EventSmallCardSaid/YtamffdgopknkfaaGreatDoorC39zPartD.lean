import Derived.Test.YtamffdgopknkfaaGreatDoorC39zPartC
set_option linter.all false
set_option maxHeartbeats 8000000
set_option maxRecDepth 40000
namespace Go.Idl
open Go.Proofs
def numB (n : Int) : Bool := decide (1 ≤ n ∧ n ≤ 64)
theorem number_fun (n : Int) : FN 127 [.int .i64 n] (fun v => v = .bool (numB n)) := by
 refine IFun.of_bodyZ false 3 [] Tryz.func127 rfl Tryz.call127 rfl fun R hR => ?_
 simp [go_sem]
 refine hR _ _ _ rfl ?_
 simp [go_sem, numB]
def plc (l : List Int) (x : Int) : Int := match ix l x with | some i => (i : Int) | none => -1
theorem ix_take {l : List Int} {x : Int} {i : Nat} (hi : i < l.length) (h : ∀ j (hj : j < l.length), j < i → l[j] ≠ x) : ix l x = if l[i] = x then some i else (ix (l.drop (i + 1)) x).map (· + (i + 1)) := by
 have e : l = l.take i ++ l[i] :: l.drop (i + 1) := by simp
 have hn : ix (l.take i) x = none := by
  rw [ix_none]
  intro hm
  obtain ⟨j, hj, e⟩ := List.mem_iff_getElem.1 hm
  simp only [List.length_take] at hj
  rw [List.getElem_take] at e
  exact h j (by omega) (by omega) e
 conv => lhs; rw [e]
 rw [ix_append, hn]
 simp only [ix, List.length_take]
 rw [Nat.min_eq_left (by omega)]
 by_cases hx : l[i] = x
 ·rw [if_pos hx, if_pos hx]; simp
 ·rw [if_neg hx, if_neg hx, Option.map_map]
  congr 1; funext k; simp only [Function.comp]; omega
theorem place_fun (l : List Int) (x : Int) (hl : l.length ≤ 2 ^ 32) : FN 113 [.fz 1 (ints l), .int .i64 x] (fun v => v = .int .i64 (plc l x)) := by
 refine IFun.of_bodyZ false 7 [7, 8, 9, 10, 16] Tryz.func113 rfl Tryz.call113 rfl fun R hR => ?_
 simp [go_sem]
 refine IWp.loopT (α := Nat) (fun i => (⟨false, 19, 7, [7, 8, 9, 10, 16], glT, [(1, .int .i64 x), (7, .fz 1 (ints l)), (8, .int .i64 (l.length : Int)), (9, .int .i64 (i : Int))], []⟩, []))
  (fun i => i ≤ l.length ∧ ∀ j (hj : j < l.length), j < i → l[j] ≠ x) (fun i => l.length - i) 0 ⟨by omega, by omega⟩ (by simp [go_sem]) ?_
 rintro i ⟨hi, hne⟩
 by_cases h : i < l.length
 ·have w1 : IntKind.i64.wrap ((i : Int) + 1) = i + 1 := wrap64 (by omega) (by omega)
  have hix := ix_take h hne
  by_cases hx : l[i] = x
  ·have hx' : (x == l[i]) = true := by rw [hx]; simp
   have hx2 : x = l[i] := hx.symm
   simp [go_sem, h, hx.symm]
   rw [if_pos hx] at hix
   exact hR _ _ _ rfl (by simp [go_sem, plc, hix])
  ·have hx2 : ¬ x = l[i] := fun e => hx e.symm
   simp [go_sem, h, hx2, w1]
   refine ⟨i + 1, by omega, ⟨by omega, fun j hj hji => ?_⟩, by omega⟩
   by_cases e : j = i
   ·subst e; exact hx
   ·exact hne j hj (by omega)
 ·simp [go_sem, h]
  have : ix l x = none := by
   rw [ix_none]
   intro hm
   obtain ⟨j, hj, e⟩ := List.mem_iff_getElem.1 hm
   exact hne j hj (by omega) e
  exact hR _ _ _ rfl (by simp [go_sem, plc, this])
def metB (met : List (Int × Int)) (a b : Int) : Bool := met.any fun p => decide (p = (a, b)) || decide (p = (b, a))
theorem u32_of {m : Nat} (h : m < 2 ^ 32) : IntKind.u32.wrap (m : Int) = m := wrapu32 (by omega) (by omega)
theorem tz_tab : ∀ a : Nat, a < 32 → tabL.getD ((2 ^ a * 125613361 % 4294967296) / 134217728) 99 = a := by decide +kernel
theorem tz_fun (m : Nat) (h0 : m ≠ 0) (h : m < 2 ^ 32) : FN 125 [.int .u32 m] (fun v => v = .int .i64 (tz m)) := by
 refine IFun.of_bodyZ false 3 [4] Tryz.func125 rfl Tryz.call125 rfl fun R hR => ?_
 have e1 := u32_neg h0 h
 have e1' : IntKind.u32.wrap (-(m : Int)) = ((2 ^ 32 - m : Nat) : Int) := by rw [← e1]; simp
 have ha := (tz_spec h0 h).1
 obtain ⟨K, hK⟩ : ∃ K, 2 ^ 32 - m = K := ⟨_, rfl⟩
 have e2 := u32_and h (b := K) (by omega)
 rw [← hK, low_bit h0 h] at e2
 rw [hK] at e1 e1' e2
 have ht := tz_tab (tz m) ha
 generalize tz m = a at *
 obtain ⟨A, hA⟩ : ∃ A, 2 ^ a = A := ⟨_, rfl⟩
 rw [hA] at e2 ht
 obtain ⟨B, hB⟩ : ∃ B, A * 125613361 % 4294967296 = B := ⟨_, rfl⟩
 have e3 : IntKind.u32.wrap ((A : Int) * 125613361) = (B : Int) := by
  rw [← hB]
  simp [IntKind.wrap, IntKind.bits, IntKind.signed]
 rw [hB] at ht
 obtain ⟨i, hi⟩ : ∃ i, B / 134217728 = i := ⟨_, rfl⟩
 have hi2 : i < 32 := by omega
 have e4 : (B : Int).fdiv 134217728 = (i : Int) := by rw [← hi]; exact (Int.ofNat_fdiv B 134217728).symm
 rw [hi] at ht
 have ht2 : tabR[i]?.getD (.tup []) = .int .u8 (a : Int) := by
  have h5 : i < tabL.length := hi2
  have h4 : tabL[i] = a := by rw [← ht]; simp [h5]
  simp [tabR, h5, h4]
 have hu8 : IntKind.i64.wrap (a : Int) = a := wrap64 (by omega) (by omega)
 have hm0 : ¬ (m : Int) = 0 := by omega
 simp [go_sem, h0, e1, e1', e2, e3, e4, ht2, hi2, hu8]
 exact ⟨by omega, by omega, hR _ _ _ rfl (by simp [go_sem])⟩
theorem split_fun (m : Nat) (h0 : m ≠ 0) (h : m < 2 ^ 32) : FN 124 [.int .u32 m] (fun v => v = .tup [.int .i64 (tz m), .int .u32 ((m &&& (m - 1) : Nat) : Int)]) := by
 refine IFun.of_bodyZ false 4 [] Tryz.func124 rfl Tryz.call124 rfl fun R hR => ?_
 have e1 := u32_pred h0 h
 obtain ⟨K, hK⟩ : ∃ K, m - 1 = K := ⟨_, rfl⟩
 have e2 := u32_and h (b := K) (by omega)
 rw [hK] at e1
 obtain ⟨r, hr⟩ : ∃ r, m &&& K = r := ⟨_, rfl⟩
 rw [hr] at e2
 simp [go_sem]
 refine (tz_fun m h0 h).callF (by simp [go_sem]) ?_
 rintro _ rfl
 simp [go_sem, e1, e2]
 exact hR _ _ _ rfl (by simp [go_sem, hK, hr])
def rightP (teams : List Int) (met : List (Int × Int)) : Bool := teams.all numB && decide teams.Nodup && met.all fun p => numB p.1 && numB p.2 && !(decide (p.1 = p.2))
end Go.Idl
namespace Go.Idl
open Go.Proofs
def seenB (l : List Int) (i : Nat) : Bool := decide ((i : Int) ∈ l)
theorem Right_fun (teams : List Int) (met : List (Int × Int)) (hl : teams.length ≤ 2 ^ 32) (hm : met.length ≤ 2 ^ 32) : FN 122 [.fz 1 (ints teams), .fz 2 (prs met)] (fun v => v = .bool (rightP teams met)) := by
 refine IFun.of_bodyZ false 10 [10, 11, 12, 13, 23, 27, 28, 29, 30, 49] Tryz.func122 rfl Tryz.call122 rfl fun R hR => ?_
 simp [go_sem]
 refine IWp.loopT (α := Nat) (fun i => (⟨false, 51, 10, [10, 11, 12, 13, 23, 27, 28, 29, 30, 49], glT, [(1, .fz 2 (prs met)), (5, .ptr 0 1 0 0), (10, .fz 1 (ints teams)), (11, .int .i64 (teams.length : Int)), (12, .int .i64 (i : Int))], []⟩, [.rows 65 [arr 65 fun k => .bool (seenB (teams.take i) k)]]))
  (fun i => i ≤ teams.length ∧ (teams.take i).all numB = true ∧ (teams.take i).Nodup) (fun i => teams.length - i) 0 ⟨by omega, by simp, by simp⟩ (by simp [go_sem, seenB]; rfl) ?_
 rintro i ⟨hi, hnum, hnd⟩
 by_cases h : i < teams.length
 ·have w1 : IntKind.i64.wrap ((i : Int) + 1) = i + 1 := wrap64 (by omega) (by omega)
  obtain ⟨t, ht⟩ : ∃ t, teams[i] = t := ⟨_, rfl⟩
  have hsn : teams.take (i + 1) = teams.take i ++ [t] := by rw [List.take_succ_eq_append_getElem h, ht]
  have hsp : teams = teams.take i ++ t :: teams.drop (i + 1) := by rw [← ht]; simp
  simp [go_sem, h, ht]
  refine (number_fun t).callF (by simp [go_sem]) ?_
  rintro _ rfl
  cases hn : numB t with
  | false =>
   have : rightP teams met = false := by
    have : teams.all numB = false := by rw [hsp, List.all_append]; simp [hn]
    simp [rightP, this]
   by_cases h65 : t.toNat < 65
   ·have hq := arr_at (n := 65) (f := fun j => IV.bool (seenB (teams.take i) j)) (d := IV.tup []) h65
    simp [go_sem, hq]
    exact hR _ _ _ rfl (by simp [go_sem, this])
   ·have hq : (arr 65 fun j => IV.bool (seenB (teams.take i) j))[t.toNat]?.getD (IV.tup []) = IV.tup [] := by rw [List.getElem?_eq_none (by simp [go_sem]; omega)]; rfl
    simp [go_sem, hq]
    exact hR _ _ _ rfl (by simp [go_sem, this])
  | true =>
   have hb : 1 ≤ t ∧ t ≤ 64 := by simpa [numB] using hn
   obtain ⟨k, rfl⟩ : ∃ k : Nat, t = k := ⟨t.toNat, by omega⟩
   have hk : k < 65 := by omega
   have hat := arr_at (n := 65) (f := fun j => IV.bool (seenB (teams.take i) j)) (d := IV.tup []) hk
   cases hs : seenB (teams.take i) k with
   | true =>
    have : rightP teams met = false := by
     have : ¬ teams.Nodup := by
      intro hnd2
      rw [hsp, List.nodup_append] at hnd2
      exact hnd2.2.2 k (of_decide_eq_true hs) k (by simp) rfl
     simp [rightP, this]
    simp [go_sem, hk, hat, hs]
    exact ⟨by omega, by omega, hR _ _ _ rfl (by simp [go_sem, this])⟩
   | false =>
    simp [go_sem, hk, hat, hs, w1]
    rw [arr_put hk, upF_bool]
    refine ⟨by omega, by omega, by omega, by omega, i + 1, ⟨by omega, ?_⟩, ⟨by omega, ?_, ?_⟩, by omega⟩
    ·congr 1; funext j
     congr 1
     rw [hsn]
     by_cases e : j = k
     ·subst e; simp [seenB]
     ·have e2 : ¬ (j : Int) = k := by omega
      simp [seenB, e, e2]
    ·intro x hx
     rw [hsn] at hx
     rcases List.mem_append.1 hx with hx | hx
     ·exact List.all_eq_true.1 hnum x hx
     ·have : x = k := by simpa using hx
      rw [this]; exact hn
    ·rw [hsn, List.nodup_append]
     refine ⟨hnd, by simp, fun a ha b hb e => ?_⟩
     have : b = k := by simpa using hb
     subst this
     rw [e] at ha
     have : seenB (teams.take i) k = true := decide_eq_true ha
     rw [hs] at this; cases this
 ·have e : teams.take i = teams := List.take_of_length_le (by omega)
  rw [e] at hnum hnd
  simp [go_sem, h]
  refine IWp.loopT (α := Nat) (fun j => (⟨false, 51, 10, [10, 11, 12, 13, 23, 27, 28, 29, 30, 49], glT, [(27, .fz 2 (prs met)), (28, .int .i64 (met.length : Int)), (29, .int .i64 (j : Int))], []⟩, [.dead]))
   (fun j => j ≤ met.length ∧ (met.take j).all (fun p => numB p.1 && numB p.2 && !(decide (p.1 = p.2))) = true) (fun j => met.length - j) 0 ⟨by omega, by simp⟩ (by simp [go_sem]) ?_
  rintro j ⟨hj, hok⟩
  by_cases h2 : j < met.length
  ·have w1 : IntKind.i64.wrap ((j : Int) + 1) = j + 1 := wrap64 (by omega) (by omega)
   obtain ⟨p, hp⟩ : ∃ p, met[j] = p := ⟨_, rfl⟩
   obtain ⟨x, y⟩ := p
   have bad : (numB x && numB y && !(decide (x = y))) = false → rightP teams met = false := fun hb => by
    have : (met.all fun p => numB p.1 && numB p.2 && !(decide (p.1 = p.2))) = false := by
     rw [List.all_eq_false]
     exact ⟨(x, y), hp ▸ List.getElem_mem h2, by simp only [hb]; simp⟩
    rw [rightP, this, Bool.and_false]
   simp [go_sem, h2, hp]
   refine (number_fun x).callF (by simp [go_sem]) ?_
   rintro _ rfl
   cases hx : numB x with
   | false =>
    rw [hx] at bad
    simp [go_sem]
    exact hR _ _ _ rfl (by simp [go_sem, bad rfl])
   | true =>
    simp [go_sem]
    refine (number_fun y).callF (by simp [go_sem]) ?_
    rintro _ rfl
    cases hy : numB y with
    | false =>
     rw [hx, hy] at bad
     simp [go_sem]
     exact hR _ _ _ rfl (by simp [go_sem, bad rfl])
    | true =>
     by_cases hxy : x = y
     ·subst hxy
      simp [go_sem]
      exact hR _ _ _ rfl (by simp [go_sem, bad (by simp)])
     ·simp [go_sem, hxy, w1]
      refine ⟨j + 1, by omega, ⟨by omega, ?_⟩, by omega⟩
      rw [List.take_succ_eq_append_getElem h2, hp]
      intro a b hab
      rcases List.mem_append.1 hab with hab | hab
      ·have := List.all_eq_true.1 hok _ hab; simpa using this
      ·have : (a, b) = (x, y) := by simpa using hab
       cases this
       exact ⟨⟨hx, hy⟩, hxy⟩
  ·have e2 : met.take j = met := List.take_of_length_le (by omega)
   rw [e2] at hok
   have : rightP teams met = true := by rw [rightP, hnum, hok]; simp [hnd]
   simp [go_sem, h2]
   exact hR _ _ _ rfl (by simp [go_sem, this])
end Go.Idl
