/-
  Chapter 36: the laws' helpers few f12, theirs f16, is f17, ours f18, kept f19; tells f26.
-/
import Derived.Test.YtpfpgkopbokfgaaDoorC36nN
import Derived.Test.YtpfpgkopbokfgaaDoorC36nG
namespace Go.Idl
set_option linter.all false
open Go.Proofs
set_option maxHeartbeats 8000000
set_option maxRecDepth 40000

theorem theirs_fun (l : List (Int × Int)) (hl : l.length ≤ 4294967294) : F36 16 [.fz 2 (prs l)] (fun v => v = .fz 2 (prs l)) := by
  refine IFun.of_bodyZ false 6 [6, 7, 8, 9] Tryd.func16 rfl Tryd.call16 rfl fun R hR => ?_
  simp [go_sem]
  refine IWp.ownNilS 2 3 (by decide) (by simp [go_sem]) ?_
  simp only [go_sem]
  refine IWp.loopT (α := Nat) (fun i => (⟨false, 18, 6, [6, 7, 8, 9], glT, [(3, .sl 0 (l.take i).length 0 (l.take i).length none), (6, .fz 2 (prs l)), (7, .int .i64 (l.length : Int)), (8, .int .i64 (i : Int))], []⟩, [.rows 2 (prs (l.take i))]))
    (fun i => i ≤ l.length) (fun i => l.length - i) 0 (by omega) (by simp [go_sem]) ?_
  intro i hi
  have htl : (l.take i).length = i := by simp; omega
  by_cases h : i < l.length
  · have w1 : IntKind.i64.wrap ((i : Int) + 1) = i + 1 := wrap64 (by omega) (by omega)
    simp [go_sem, h, w1]
    refine ⟨by omega, i + 1, ⟨⟨by omega, by omega⟩, ?_⟩, by omega, by omega⟩
    rw [List.take_succ_eq_append_getElem h, prs_snoc]
  · have e : l.take i = l := List.take_of_length_le (by omega)
    rw [e]
    simp [go_sem, h]
    exact hR _ _ _ rfl (by simp [go_sem])
theorem ours_fun (l : List (Int × Int)) (hl : l.length ≤ 4294967294) : F36 18 [.fz 2 (prs l)] (fun v => v = .fz 2 (prs l)) := by
  refine IFun.of_bodyZ false 6 [6, 7, 8, 9] Tryd.func18 rfl Tryd.call18 rfl fun R hR => ?_
  simp [go_sem]
  refine IWp.ownNilS 2 3 (by decide) (by simp [go_sem]) ?_
  simp only [go_sem]
  refine IWp.loopT (α := Nat) (fun i => (⟨false, 18, 6, [6, 7, 8, 9], glT, [(3, .sl 0 (l.take i).length 0 (l.take i).length none), (6, .fz 2 (prs l)), (7, .int .i64 (l.length : Int)), (8, .int .i64 (i : Int))], []⟩, [.rows 2 (prs (l.take i))]))
    (fun i => i ≤ l.length) (fun i => l.length - i) 0 (by omega) (by simp [go_sem]) ?_
  intro i hi
  have htl : (l.take i).length = i := by simp; omega
  by_cases h : i < l.length
  · have w1 : IntKind.i64.wrap ((i : Int) + 1) = i + 1 := wrap64 (by omega) (by omega)
    simp [go_sem, h, w1]
    refine ⟨by omega, i + 1, ⟨⟨by omega, by omega⟩, ?_⟩, by omega, by omega⟩
    rw [List.take_succ_eq_append_getElem h, prs_snoc]
  · have e : l.take i = l := List.take_of_length_le (by omega)
    rw [e]
    simp [go_sem, h]
    exact hR _ _ _ rfl (by simp [go_sem])
theorem is_fun (a b : List (Int × Int)) (ha : a.length ≤ 2 ^ 32) : F36 17 [.fz 2 (prs a), .fz 2 (prs b)] (fun v => v = .bool (decide (a = b))) := by
  refine IFun.of_bodyZ false 6 [10, 12, 13, 14, 24] Tryd.func17 rfl Tryd.call17 rfl fun R hR => ?_
  by_cases hlen : a.length = b.length
  case neg =>
    have hI : ¬ (a.length : Int) = b.length := by omega
    have e : ¬ a = b := fun e => hlen (by rw [e])
    simp [go_sem, hlen, hI]
    exact hR _ _ _ rfl (by simp [go_sem, e])
  simp [go_sem, hlen]
  refine IWp.loopT (α := Nat) (fun i => (⟨false, 26, 6, [10, 12, 13, 14, 24], glT, [(0, .fz 2 (prs a)), (1, .fz 2 (prs b)), (12, .int .i64 (b.length : Int)), (13, .int .i64 (i : Int))], []⟩, []))
    (fun i => i ≤ a.length ∧ a.take i = b.take i) (fun i => a.length - i) 0 (by simp) (by simp [go_sem]) ?_
  rintro i ⟨hi, he⟩
  by_cases h : i < a.length
  · have h' : i < b.length := by omega
    have w1 : IntKind.i64.wrap ((i : Int) + 1) = i + 1 := wrap64 (by omega) (by omega)
    obtain ⟨p, hp⟩ : ∃ p, a[i] = p := ⟨_, rfl⟩
    obtain ⟨q, hq⟩ : ∃ q, b[i] = q := ⟨_, rfl⟩
    obtain ⟨x, y⟩ := p
    obtain ⟨z, u⟩ := q
    by_cases hxz : x = z ∧ y = u
    · obtain ⟨rfl, rfl⟩ := hxz
      simp [go_sem, h, h', hp, hq, w1]
      exact ⟨by decide +kernel, i + 1, by omega, ⟨by omega, by rw [List.take_succ_eq_append_getElem h, List.take_succ_eq_append_getElem h', he, hp, hq]⟩, by omega⟩
    · have e : ¬ a = b := fun e => by
        subst e
        rw [hp] at hq; cases hq
        exact hxz ⟨rfl, rfl⟩
      have hb : (x == z && y == u) = false := by rw [← Bool.not_eq_true]; simpa using hxz
      simp [go_sem, h, h', hp, hq, hb, hxz]
      exact ⟨by decide +kernel, hR _ _ _ rfl (by simp [go_sem, e])⟩
  · have e : a = b := by
      rw [List.take_of_length_le (by omega), List.take_of_length_le (by omega)] at he
      exact he
    have h' : ¬ i < b.length := by omega
    simp [go_sem, h, h']
    exact hR _ _ _ rfl (by simp [go_sem, e])
theorem kept_fun (teams : List Int) (met : List (Int × Int)) (hl : teams.length ≤ 2 ^ 32) (hm : met.length ≤ 2 ^ 32) : F36 19 [.fz 1 (ints teams), .fz 1 (ints teams), .fz 2 (prs met), .fz 2 (prs met)] (fun v => v = .bool true) := by
  refine IFun.of_bodyZ false 10 [11, 12, 13, 23] Tryd.func19 rfl Tryd.call19 rfl fun R hR => ?_
  simp [go_sem]
  refine IWp.loopT (α := Nat) (fun i => (⟨false, 28, 10, [11, 12, 13, 23], glT, [(0, .fz 1 (ints teams)), (1, .fz 1 (ints teams)), (2, .fz 2 (prs met)), (3, .fz 2 (prs met)), (11, .int .i64 (teams.length : Int)), (12, .int .i64 (i : Int))], []⟩, []))
    (fun i => i ≤ teams.length) (fun i => teams.length - i) 0 (by omega) (by simp [go_sem]) ?_
  intro i hi
  by_cases h : i < teams.length
  · have w1 : IntKind.i64.wrap ((i : Int) + 1) = i + 1 := wrap64 (by omega) (by omega)
    simp [go_sem, h, w1]
    exact ⟨by decide +kernel, i + 1, by omega, by omega, by omega⟩
  · simp [go_sem, h]
    refine (is_fun met met hm).call (by simp [go_sem]) ?_
    rintro _ rfl
    simp [go_sem]
    exact hR _ _ _ rfl (by simp [go_sem])
def fewB (teams : List Int) (met : List (Int × Int)) : Bool := decide ((teams.length ≤ 9 ∨ (16 < teams.length ∧ teams.length < 70)) ∧ met.length ≤ 60)
theorem few_fun (teams : List Int) (met : List (Int × Int)) : F36 12 [.fz 1 (ints teams), .fz 2 (prs met)] (fun v => v = .bool (fewB teams met)) := by
  refine IFun.of_bodyZ false 5 [] Tryd.func12 rfl Tryd.call12 rfl fun R hR => ?_
  simp [go_sem]
  refine ⟨by omega, hR _ _ _ rfl ?_⟩
  simp [go_sem, fewB]
  by_cases h1 : teams.length ≤ 9
  · have h1' : (teams.length : Int) ≤ 9 := by omega
    by_cases h3 : met.length ≤ 60
    · have h3' : (met.length : Int) ≤ 60 := by omega
      simp [h1, h1', h3, h3']
    · have h3' : ¬ (met.length : Int) ≤ 60 := by omega
      simp [h1, h1', h3, h3']
  · have h1' : ¬ (teams.length : Int) ≤ 9 := by omega
    by_cases h2 : 16 < teams.length
    · have h2' : (16 : Int) < teams.length := by omega
      by_cases h4 : teams.length < 70
      · have h4' : (teams.length : Int) < 70 := by omega
        by_cases h3 : met.length ≤ 60
        · have h3' : (met.length : Int) ≤ 60 := by omega
          simp [h1, h1', h2, h2', h4, h4', h3, h3']
        · have h3' : ¬ (met.length : Int) ≤ 60 := by omega
          simp [h1, h1', h2, h2', h4, h4', h3, h3']
      · have h4' : ¬ (teams.length : Int) < 70 := by omega
        simp [h1, h1', h2, h2', h4, h4']
    · have h2' : ¬ (16 : Int) < teams.length := by omega
      simp [h1, h1', h2, h2']
end Go.Idl
