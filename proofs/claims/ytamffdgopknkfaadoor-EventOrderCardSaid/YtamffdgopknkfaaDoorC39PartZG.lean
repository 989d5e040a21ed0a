/-
  Chapter 39: slices: Equal, Grow, Concat, Reverse, Clone.
-/
import Derived.Test.YtamffdgopknkfaaDoorC39PartZA
import Derived.Test.YtamffdgopknkfaaDoorC39PartZC
namespace Go.Idl
set_option linter.all false
open Go.Proofs
set_option maxHeartbeats 16000000
set_option maxRecDepth 40000

theorem equalLns_fun (a b : List Ln) (ha : a.length ≤ 2 ^ 62) : FN 21 [.fz 6 (lns a), .fz 6 (lns b)] (fun v => v = .bool (decide (a = b))) := by
  refine IFun.of_bodyZ false 6 [10, 12, 13, 14, 24] Tryd.func21 rfl Tryd.call21 rfl fun R hR => ?_
  by_cases hlen : a.length = b.length
  case neg =>
    have hI : ¬ (a.length : Int) = b.length := by omega
    have e : ¬ a = b := fun e => hlen (by rw [e])
    have hb : ((a.length : Int) != (b.length : Int)) = true := by rw [bne_iff_ne]; exact hI
    simp [go_sem, hlen, hI, hb]
    exact hR _ _ _ rfl (by simp [go_sem, e])
  simp [go_sem, hlen]
  refine IWp.loopT (α := Nat) (fun i => (⟨false, 26, 6, [10, 12, 13, 14, 24], glT, [(0, .fz 6 (lns a)), (1, .fz 6 (lns b)), (12, .int .i64 b.length), (13, .int .i64 (i : Int))], []⟩, []))
    (fun i => i ≤ a.length ∧ a.take i = b.take i) (fun i => a.length - i) 0 (by simp) (by simp [go_sem]) ?_
  rintro i ⟨hi, he⟩
  by_cases h : i < a.length
  · have h' : i < b.length := by omega
    have w1 : IntKind.i64.wrap ((i : Int) + 1) = i + 1 := wrap64 (by omega) (by omega)
    have hx : (a[i] = b[i]) ↔ (a[i].team = b[i].team ∧ a[i].place = b[i].place ∧ a[i].played = b[i].played ∧ a[i].points = b[i].points ∧ a[i].margin = b[i].margin ∧ a[i].bye = b[i].bye) := by
      cases a[i]; cases b[i]; simp
    by_cases hxy : a[i] = b[i]
    · simp [go_sem, h, h', hxy, w1]
      exact ⟨by decide +kernel, i + 1, by omega, ⟨by omega, by rw [List.take_succ_eq_append_getElem h, List.take_succ_eq_append_getElem h', he, hxy]⟩, by omega⟩
    · have e : ¬ a = b := fun e => hxy (by subst e; rfl)
      have hc : (a[i].team == b[i].team && (a[i].place == b[i].place && (a[i].played == b[i].played && (a[i].points == b[i].points && (a[i].margin == b[i].margin && a[i].bye == b[i].bye))))) = false := by
        rw [← Bool.not_eq_true]; intro hh; apply hxy; rw [hx]; simpa using hh
      simp [go_sem, h, h', hc]
      exact ⟨by decide +kernel, hR _ _ _ rfl (by simp [go_sem, e])⟩
  · have e : a = b := by
      rw [List.take_of_length_le (by omega), List.take_of_length_le (by omega)] at he
      exact he
    have h' : ¬ i < b.length := by omega
    simp [go_sem, h, h']
    exact hR _ _ _ rfl (by simp [go_sem, e])
theorem equalPrs_fun (a b : List (Int × Int)) (ha : a.length ≤ 2 ^ 62) : FN 23 [.fz 2 (prs a), .fz 2 (prs b)] (fun v => v = .bool (decide (a = b))) := by
  refine IFun.of_bodyZ false 6 [10, 12, 13, 14, 24] Tryd.func23 rfl Tryd.call23 rfl fun R hR => ?_
  by_cases hlen : a.length = b.length
  case neg =>
    have hI : ¬ (a.length : Int) = b.length := by omega
    have e : ¬ a = b := fun e => hlen (by rw [e])
    have hb : ((a.length : Int) != (b.length : Int)) = true := by rw [bne_iff_ne]; exact hI
    simp [go_sem, hlen, hI, hb]
    exact hR _ _ _ rfl (by simp [go_sem, e])
  simp [go_sem, hlen]
  refine IWp.loopT (α := Nat) (fun i => (⟨false, 26, 6, [10, 12, 13, 14, 24], glT, [(0, .fz 2 (prs a)), (1, .fz 2 (prs b)), (12, .int .i64 b.length), (13, .int .i64 (i : Int))], []⟩, []))
    (fun i => i ≤ a.length ∧ a.take i = b.take i) (fun i => a.length - i) 0 (by simp) (by simp [go_sem]) ?_
  rintro i ⟨hi, he⟩
  by_cases h : i < a.length
  · have h' : i < b.length := by omega
    have w1 : IntKind.i64.wrap ((i : Int) + 1) = i + 1 := wrap64 (by omega) (by omega)
    have hx : (a[i] = b[i]) ↔ (a[i].1 = b[i].1 ∧ a[i].2 = b[i].2) := Prod.ext_iff
    by_cases hxy : a[i] = b[i]
    · simp [go_sem, h, h', hxy, w1]
      exact ⟨by decide +kernel, i + 1, by omega, ⟨by omega, by rw [List.take_succ_eq_append_getElem h, List.take_succ_eq_append_getElem h', he, hxy]⟩, by omega⟩
    · have e : ¬ a = b := fun e => hxy (by subst e; rfl)
      have hc : (a[i].1 == b[i].1 && a[i].2 == b[i].2) = false := by
        rw [← Bool.not_eq_true]; intro hh; apply hxy; rw [hx]; simpa using hh
      simp [go_sem, h, h', hc]
      exact ⟨by decide +kernel, hR _ _ _ rfl (by simp [go_sem, e])⟩
  · have e : a = b := by
      rw [List.take_of_length_le (by omega), List.take_of_length_le (by omega)] at he
      exact he
    have h' : ¬ i < b.length := by omega
    simp [go_sem, h, h']
    exact hR _ _ _ rfl (by simp [go_sem, e])
theorem cloneEms_fun (l : List Em) (hl : l.length ≤ 2 ^ 32) : FN 24 [.fz 4 (ems l)] (fun v => v = .fz 4 (ems l)) := by
  refine IFun.of_bodyZ false 3 [4] Tryd.func24 rfl Tryd.call24 rfl fun R hR => ?_
  simp [go_sem]
  refine ⟨⟨⟨by omega, ems_one⟩, hR _ _ _ rfl (by simp [go_sem])⟩, fun e => hR _ _ _ rfl (by simp [go_sem, e])⟩
theorem growEms_fun (n : Nat) (h0 : 1 ≤ n) (hn : n ≤ 2 ^ 30) : FN 55 [.nils, .int .i64 n] (fun v => v = .fz 4 []) := by
  refine IFun.of_bodyW false 5 [6, 16] Tryd.func55 rfl Tryd.call55 rfl fun R hR => ?_
  refine IWp.ownNilC 4 0 (by decide) (by simp [go_sem]) ?_
  have w0 : IntKind.i64.wrap 0 = 0 := by decide
  have w1 : IntKind.i64.wrap (n : Int) = n := wrap64 (by omega) (by omega)
  have hn0 : (0 : Int) < n := by omega
  have hn1 : ¬ (n : Int) < 0 := by omega
  have hn2 : 0 < n := by omega
  have hn3 : (1 : Int) ≤ n ∧ (n : Int) ≤ 4294967296 := by omega
  refine IWp.now ?_
  simp [go_sem, w0, w1, hn0, hn1, hn2, hn3]
  exact hR _ _ _ rfl (by simp [go_sem, cutR, okR, frzR])
theorem concatEms_fun (a b : List Em) (h0 : 1 ≤ a.length + b.length) (hl : a.length + b.length ≤ 2 ^ 20) : FN 19 [.fz 1 [[.fz 4 (ems a)], [.fz 4 (ems b)]]] (fun v => v = .fz 4 (ems (a ++ b))) := by
  refine IFun.of_bodyZ false 9 [9, 10, 11, 12, 20, 25, 26, 27, 28] Tryd.func19 rfl Tryd.call19 rfl fun R hR => ?_
  have cg := growEms_fun (a.length + b.length) h0 (by omega)
  have w0 : IntKind.i64.wrap 0 = 0 := by decide
  have w1 : IntKind.i64.wrap (a.length : Int) = a.length := wrap64 (by omega) (by omega)
  have w2 : IntKind.i64.wrap ((a.length : Int) + b.length) = (a.length : Int) + b.length := wrap64 (by omega) (by omega)
  simp [go_sem]
  refine IWp.loopT (α := Nat) (fun i => (⟨false, 36, 9, [9, 10, 11, 12, 20, 25, 26, 27, 28], glT, [(0, .fz 1 [[.fz 4 (ems a)], [.fz 4 (ems b)]]), (3, .int .i64 (if i = 0 then 0 else if i = 1 then (a.length : Int) else (a.length : Int) + b.length)), (9, .fz 1 [[.fz 4 (ems a)], [.fz 4 (ems b)]]), (10, .int .i64 2), (11, .int .i64 (i : Int))], []⟩, []))
    (fun i => i ≤ 2) (fun i => 2 - i) 0 (by omega) (by simp [go_sem]) ?_
  intro i hi
  rcases (by omega : i = 0 ∨ i = 1 ∨ i = 2) with rfl | rfl | rfl
  · have n1 : ¬ (a.length : Int) < 0 := by omega
    simp [go_sem, w0, w1, n1]
    exact ⟨1, ⟨by simp, by decide⟩, by omega, by omega⟩
  · have n1 : ¬ (a.length : Int) + b.length < 0 := by omega
    simp [go_sem, w0, w2, n1]
    exact ⟨2, ⟨by simp, by decide⟩, by omega, by omega⟩
  rw [show ((a.length + b.length : Nat) : Int) = (a.length : Int) + b.length by omega] at cg
  simp [go_sem, w0]
  refine cg.callOF (by simp [go_sem]) ?_
  rintro _ rfl
  refine ⟨fun v => v, 4, _, .here, by decide, rfl, by simp [go_sem], ?_⟩
  simp [go_sem]
  have hA : ∀ i : Nat, ∃ C : List Em, (i = 0 → C = []) ∧ (i = 1 → C = a) ∧ (2 ≤ i → C = a ++ b) := fun i => ⟨if i = 0 then [] else if i = 1 then a else a ++ b, fun h => by simp [h], fun h => by simp [h], fun h => by rw [if_neg (by omega), if_neg (by omega)]⟩
  obtain ⟨C, hC⟩ : ∃ C : Nat → List Em, ∀ i, (i = 0 → C i = []) ∧ (i = 1 → C i = a) ∧ (2 ≤ i → C i = a ++ b) := ⟨fun i => Classical.choose (hA i), fun i => Classical.choose_spec (hA i)⟩
  have c0 : C 0 = [] := (hC 0).1 rfl
  have c1 : C 1 = a := (hC 1).2.1 rfl
  have c2 : C 2 = a ++ b := (hC 2).2.2 (by omega)
  refine IWp.loopT (α := Nat) (fun i => (⟨false, 36, 9, [9, 10, 11, 12, 20, 25, 26, 27, 28], glT, [(6, .sl 0 (C i).length 0 (C i).length none), (25, .fz 1 [[.fz 4 (ems a)], [.fz 4 (ems b)]]), (26, .int .i64 2), (27, .int .i64 (i : Int))], []⟩, [.rows 4 (ems (C i))]))
    (fun i => i ≤ 2) (fun i => 2 - i) 0 (by omega) (by simp [go_sem, c0]) ?_
  intro i hi
  rcases (by omega : i = 0 ∨ i = 1 ∨ i = 2) with rfl | rfl | rfl
  · rw [c0]
    simp [go_sem, w0]
    exact ⟨⟨by omega, ems_one⟩, 1, ⟨⟨by rw [c1], by decide⟩, by rw [c1]⟩, by omega, by omega⟩
  · rw [c1]
    simp [go_sem, w0]
    exact ⟨⟨by omega, ems_one⟩, 2, ⟨⟨by rw [c2]; simp, by decide⟩, by rw [c2, ems_append]⟩, by omega, by omega⟩
  rw [c2]
  simp [go_sem, w0]
  exact hR _ _ _ rfl (by simp [go_sem])
theorem swap_perm {l : List Em} {i j : Nat} (hi : i < l.length) (hj : j < l.length) : ((l.set i l[j]).set j l[i]).Perm l := List.set_set_perm hi hj
theorem reverseEms_calls (l : List Em) (h N : Nat) (hN : N = l.length) (hh : h ≤ N) (hl : N ≤ 2 ^ 30) :
    ICalls Tryd.prog glT 20 [.sl 0 N 0 h none] [.rows 4 (ems l)] (fun _ σ => ∃ M, M.Perm l ∧ σ = [.rows 4 (ems M)]) := by
  refine ICalls.forget (ICalls.of_bodyE false 4 [9] Tryd.func20 rfl Tryd.call20 rfl fun R hR => ?_)
  by_cases h0 : h = 0
  · have z1 : IntKind.i64.wrap (-1) = -1 := by decide
    subst h0
    simp [go_sem, z1, hN]
    refine IWp.loopT (α := Unit) (fun p => (⟨false, 28, 4, [9], glT, [(0, .sl 0 l.length 0 0 none), (2, .int .i64 0), (3, .int .i64 (-1))], []⟩, [.rows 4 (ems l)]))
      (fun p => True) (fun p => 0) () trivial (by simp [go_sem]) ?_
    rintro _ _
    simp [go_sem]
    exact hR _ _ ⟨_, by simp [go_sem], l, List.Perm.refl _, rfl⟩
  have v0 : IntKind.i64.wrap ((h : Int) - 1) = ((h - 1 : Nat) : Int) := by rw [wrap64 (by omega) (by omega)]; omega
  simp [go_sem, v0, hN]
  refine IWp.loopT (α := Nat × Nat × List Em) (fun p => (⟨false, 28, 4, [9], glT, [(0, .sl 0 l.length 0 h none), (2, .int .i64 (p.1 : Int)), (3, .int .i64 (p.2.1 : Int))], []⟩, [.rows 4 (ems p.2.2)]))
    (fun p => p.1 + p.2.1 + 1 = h ∧ p.2.2.Perm l) (fun p => p.2.1) (0, h - 1, l) ⟨by simp; omega, List.Perm.refl _⟩ (by simp [go_sem]) ?_
  rintro ⟨i, j, M⟩ ⟨hs, hM⟩
  simp only at hs hM
  have hMl := hM.length_eq
  by_cases hij : i < j
  · have h' : (i : Int) < j := by omega
    have v1 : IntKind.i64.wrap ((i : Int) + 1) = ((i + 1 : Nat) : Int) := by rw [wrap64 (by omega) (by omega)]; omega
    have v2 : IntKind.i64.wrap ((j : Int) - 1) = ((j - 1 : Nat) : Int) := by rw [wrap64 (by omega) (by omega)]; omega
    have hi : i < M.length := by omega
    have hj : j < M.length := by omega
    have hih : i < h := by omega
    have hjh : j < h := by omega
    have hnx : ((M.set i M[j]).set j M[i]).Perm l := (swap_perm hi hj).trans hM
    have hset : ems ((M.set i M[j]).set j M[i]) = ((ems M).set i M[j].c).set j M[i].c := by rw [ems_set, ems_set]
    have hne : i ≠ j := by omega
    have e1 : (ems M)[j]?.getD [] = M[j].c := by rw [List.getElem?_eq_getElem (by simpa using hj), Option.getD_some, ems_getElem]; rfl
    have e2 : (ems M)[i]?.getD [] = M[i].c := by rw [List.getElem?_eq_getElem (by simpa using hi), Option.getD_some, ems_getElem]; rfl
    obtain ⟨⟨ar, ai, aa, ab⟩, hA⟩ : ∃ x, M[i] = x := ⟨_, rfl⟩
    obtain ⟨⟨br, bi, ba, bb⟩, hB⟩ : ∃ x, M[j] = x := ⟨_, rfl⟩
    rw [hA, hB] at hset hnx
    rw [hA] at e2
    rw [hB] at e1
    simp only [Em.c] at hset e1 e2
    have hhl : h ≤ l.length := by omega
    have hil : i < l.length := by omega
    have hjl : j < l.length := by omega
    simp [go_sem, hij, h', hih, hjh, hMl, hA, hB, e1, e2, v1, v2, hhl, hil, hjl]
    refine ⟨by decide +kernel, i + 1, j - 1, _, ⟨⟨by omega, rfl⟩, ?_⟩, ⟨by omega, hnx⟩, by omega⟩
    rw [hset, List.getElem_set_ne hne, ems_getElem]
    rfl
  · have h' : ¬ (i : Int) < j := by omega
    simp [go_sem, hij, h']
    exact hR _ _ ⟨[.rows 4 (ems M)], by simp [go_sem], M, hM, rfl⟩
end Go.Idl
