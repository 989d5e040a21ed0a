/-
  Chapter 36: the laws' helpers few f12, theirs f16, is f17, ours f18, kept f19; tells f26.
  Chapter 36: tells f26.
  Chapter 36: awake f13.
  Chapter 36: the laws PairingTells f6, PairingDraws f3.
-/
import Derived.Test.YtpfpgkopbokfgaaDoorC36PartE
import Derived.Test.YtpfpgkopbokfgaaDoorC36PartC
import Derived.Test.YtpfpgkopbokfgaaDoorC36PartD
namespace Go.Idl
set_option linter.all false
open Go.Proofs
set_option maxHeartbeats 8000000
set_option maxRecDepth 40000

theorem theirs_fun (l : List (Int × Int)) (hl : l.length ≤ 4294967294) : F36 16 [.fz 2 (prs l)] (fun v => v = .fz 2 (prs l)) := by
  refine IFun.of_bodyZ false 6 [6, 7, 8, 9] Tryd.func16 rfl Tryd.call16 rfl fun R hR => ?_
  simp [go_sem]
  refine IWp.ownNilS 2 3 (by decide) (by simp [go_sem]) ?_
  simp only [go_sem]
  refine IWp.loopT (α := Nat) (fun i => (⟨false, 18, 6, [6, 7, 8, 9], glT, [(3, .sl 0 (l.take i).length 0 (l.take i).length none), (6, .fz 2 (prs l)), (7, .int .i64 (l.length : Int)), (8, .int .i64 (i : Int))], []⟩, [.rows 2 (prs (l.take i))]))
    (fun i => i ≤ l.length) (fun i => l.length - i) 0 (by omega) (by simp [go_sem]) ?_
  intro i hi
  have htl : (l.take i).length = i := by simp; omega
  by_cases h : i < l.length
  · have w1 : IntKind.i64.wrap ((i : Int) + 1) = i + 1 := wrap64 (by omega) (by omega)
    simp [go_sem, h, w1]
    refine ⟨by omega, i + 1, ⟨⟨by omega, by omega⟩, ?_⟩, by omega, by omega⟩
    rw [List.take_succ_eq_append_getElem h, prs_snoc]
  · have e : l.take i = l := List.take_of_length_le (by omega)
    rw [e]
    simp [go_sem, h]
    exact hR _ _ _ rfl (by simp [go_sem])
theorem ours_fun (l : List (Int × Int)) (hl : l.length ≤ 4294967294) : F36 18 [.fz 2 (prs l)] (fun v => v = .fz 2 (prs l)) := by
  refine IFun.of_bodyZ false 6 [6, 7, 8, 9] Tryd.func18 rfl Tryd.call18 rfl fun R hR => ?_
  simp [go_sem]
  refine IWp.ownNilS 2 3 (by decide) (by simp [go_sem]) ?_
  simp only [go_sem]
  refine IWp.loopT (α := Nat) (fun i => (⟨false, 18, 6, [6, 7, 8, 9], glT, [(3, .sl 0 (l.take i).length 0 (l.take i).length none), (6, .fz 2 (prs l)), (7, .int .i64 (l.length : Int)), (8, .int .i64 (i : Int))], []⟩, [.rows 2 (prs (l.take i))]))
    (fun i => i ≤ l.length) (fun i => l.length - i) 0 (by omega) (by simp [go_sem]) ?_
  intro i hi
  have htl : (l.take i).length = i := by simp; omega
  by_cases h : i < l.length
  · have w1 : IntKind.i64.wrap ((i : Int) + 1) = i + 1 := wrap64 (by omega) (by omega)
    simp [go_sem, h, w1]
    refine ⟨by omega, i + 1, ⟨⟨by omega, by omega⟩, ?_⟩, by omega, by omega⟩
    rw [List.take_succ_eq_append_getElem h, prs_snoc]
  · have e : l.take i = l := List.take_of_length_le (by omega)
    rw [e]
    simp [go_sem, h]
    exact hR _ _ _ rfl (by simp [go_sem])
theorem is_fun (a b : List (Int × Int)) (ha : a.length ≤ 2 ^ 32) : F36 17 [.fz 2 (prs a), .fz 2 (prs b)] (fun v => v = .bool (decide (a = b))) := by
  refine IFun.of_bodyZ false 6 [10, 12, 13, 14, 24] Tryd.func17 rfl Tryd.call17 rfl fun R hR => ?_
  by_cases hlen : a.length = b.length
  case neg =>
    have hI : ¬ (a.length : Int) = b.length := by omega
    have e : ¬ a = b := fun e => hlen (by rw [e])
    simp [go_sem, hlen, hI]
    exact hR _ _ _ rfl (by simp [go_sem, e])
  simp [go_sem, hlen]
  refine IWp.loopT (α := Nat) (fun i => (⟨false, 26, 6, [10, 12, 13, 14, 24], glT, [(0, .fz 2 (prs a)), (1, .fz 2 (prs b)), (12, .int .i64 (b.length : Int)), (13, .int .i64 (i : Int))], []⟩, []))
    (fun i => i ≤ a.length ∧ a.take i = b.take i) (fun i => a.length - i) 0 (by simp) (by simp [go_sem]) ?_
  rintro i ⟨hi, he⟩
  by_cases h : i < a.length
  · have h' : i < b.length := by omega
    have w1 : IntKind.i64.wrap ((i : Int) + 1) = i + 1 := wrap64 (by omega) (by omega)
    obtain ⟨p, hp⟩ : ∃ p, a[i] = p := ⟨_, rfl⟩
    obtain ⟨q, hq⟩ : ∃ q, b[i] = q := ⟨_, rfl⟩
    obtain ⟨x, y⟩ := p
    obtain ⟨z, u⟩ := q
    by_cases hxz : x = z ∧ y = u
    · obtain ⟨rfl, rfl⟩ := hxz
      simp [go_sem, h, h', hp, hq, w1]
      exact ⟨by decide +kernel, i + 1, by omega, ⟨by omega, by rw [List.take_succ_eq_append_getElem h, List.take_succ_eq_append_getElem h', he, hp, hq]⟩, by omega⟩
    · have e : ¬ a = b := fun e => by
        subst e
        rw [hp] at hq; cases hq
        exact hxz ⟨rfl, rfl⟩
      have hb : (x == z && y == u) = false := by rw [← Bool.not_eq_true]; simpa using hxz
      simp [go_sem, h, h', hp, hq, hb, hxz]
      exact ⟨by decide +kernel, hR _ _ _ rfl (by simp [go_sem, e])⟩
  · have e : a = b := by
      rw [List.take_of_length_le (by omega), List.take_of_length_le (by omega)] at he
      exact he
    have h' : ¬ i < b.length := by omega
    simp [go_sem, h, h']
    exact hR _ _ _ rfl (by simp [go_sem, e])
theorem kept_fun (teams : List Int) (met : List (Int × Int)) (hl : teams.length ≤ 2 ^ 32) (hm : met.length ≤ 2 ^ 32) : F36 19 [.fz 1 (ints teams), .fz 1 (ints teams), .fz 2 (prs met), .fz 2 (prs met)] (fun v => v = .bool true) := by
  refine IFun.of_bodyZ false 10 [11, 12, 13, 23] Tryd.func19 rfl Tryd.call19 rfl fun R hR => ?_
  simp [go_sem]
  refine IWp.loopT (α := Nat) (fun i => (⟨false, 28, 10, [11, 12, 13, 23], glT, [(0, .fz 1 (ints teams)), (1, .fz 1 (ints teams)), (2, .fz 2 (prs met)), (3, .fz 2 (prs met)), (11, .int .i64 (teams.length : Int)), (12, .int .i64 (i : Int))], []⟩, []))
    (fun i => i ≤ teams.length) (fun i => teams.length - i) 0 (by omega) (by simp [go_sem]) ?_
  intro i hi
  by_cases h : i < teams.length
  · have w1 : IntKind.i64.wrap ((i : Int) + 1) = i + 1 := wrap64 (by omega) (by omega)
    simp [go_sem, h, w1]
    exact ⟨by decide +kernel, i + 1, by omega, by omega, by omega⟩
  · simp [go_sem, h]
    refine (is_fun met met hm).call (by simp [go_sem]) ?_
    rintro _ rfl
    simp [go_sem]
    exact hR _ _ _ rfl (by simp [go_sem])
def fewB (teams : List Int) (met : List (Int × Int)) : Bool := decide ((teams.length ≤ 9 ∨ (16 < teams.length ∧ teams.length < 70)) ∧ met.length ≤ 60)
theorem few_fun (teams : List Int) (met : List (Int × Int)) : F36 12 [.fz 1 (ints teams), .fz 2 (prs met)] (fun v => v = .bool (fewB teams met)) := by
  refine IFun.of_bodyZ false 5 [] Tryd.func12 rfl Tryd.call12 rfl fun R hR => ?_
  simp [go_sem]
  refine ⟨by omega, hR _ _ _ rfl ?_⟩
  simp [go_sem, fewB]
  by_cases h1 : teams.length ≤ 9
  · have h1' : (teams.length : Int) ≤ 9 := by omega
    by_cases h3 : met.length ≤ 60
    · have h3' : (met.length : Int) ≤ 60 := by omega
      simp [h1, h1', h3, h3']
    · have h3' : ¬ (met.length : Int) ≤ 60 := by omega
      simp [h1, h1', h3, h3']
  · have h1' : ¬ (teams.length : Int) ≤ 9 := by omega
    by_cases h2 : 16 < teams.length
    · have h2' : (16 : Int) < teams.length := by omega
      by_cases h4 : teams.length < 70
      · have h4' : (teams.length : Int) < 70 := by omega
        by_cases h3 : met.length ≤ 60
        · have h3' : (met.length : Int) ≤ 60 := by omega
          simp [h1, h1', h2, h2', h4, h4', h3, h3']
        · have h3' : ¬ (met.length : Int) ≤ 60 := by omega
          simp [h1, h1', h2, h2', h4, h4', h3, h3']
      · have h4' : ¬ (teams.length : Int) < 70 := by omega
        simp [h1, h1', h2, h2', h4, h4']
    · have h2' : ¬ (16 : Int) < teams.length := by omega
      simp [h1, h1', h2, h2']
end Go.Idl
namespace Go.Idl
set_option linter.all false
open Go.Proofs
set_option maxHeartbeats 8000000
set_option maxRecDepth 40000

theorem nthD_len (teams : List Int) (met : List (Int × Int)) (k : Int) : (nthD teams met k).length ≤ 16 := by
  unfold nthD
  split
  · rename_i h
    have he : errN teams met false = 0 := by
      unfold nthE at h
      split at h
      · rename_i h2; exact absurd h h2
      · rename_i h2; exact Decidable.not_not.1 h2
    obtain ⟨_, hn, _⟩ := errN_zero he
    rw [List.getD_eq_getElem?_getD]
    cases hd : (drT met teams)[k.toNat]? with
    | none => simp
    | some d =>
      have := drs_len (ok := okT met) _ teams (Nat.le_refl _) d (List.mem_of_getElem? hd)
      simp only [Option.getD_some]; omega
  · simp
theorem tells_fun (teams : List Int) (met draw : List (Int × Int)) (a b k : Int) (hl : teams.length ≤ 1000) (hm : met.length ≤ 1000) (hd : draw.length ≤ 1000) :
    F36 26 [.fz 1 (ints teams), .fz 2 (prs met), .fz 2 (prs draw), .int .i64 a, .int .i64 b, .int .i64 k] (fun v => v = .bool true) := by
  refine IFun.of_bodyZ false 13 [13, 14, 15, 16, 17, 18, 19, 20, 21, 22, 23, 24, 25, 26, 27, 56] Tryd.func26 rfl Tryd.call26 rfl fun R hR => ?_
  have hl2 : teams.length ≤ 2 ^ 32 := by omega
  have hm2 : met.length ≤ 2 ^ 32 := by omega
  have hd2 : draw.length ≤ 2 ^ 32 := by omega
  have hth := theirs_fun met (by omega)
  have htd := theirs_fun draw (by omega)
  have hN := nthD_len teams met k
  simp [go_sem]
  refine ⟨⟨by omega, fun r hr => ints_one r hr⟩, ⟨by omega, fun r hr => prs_one r hr⟩, ⟨by omega, fun r hr => prs_one r hr⟩, ?_⟩
  refine (Right_fun teams met hl2 hm2).call (by simp [go_sem]) ?_
  rintro _ rfl
  simp [go_sem]
  refine hth.call (by simp [go_sem]) ?_
  rintro _ rfl
  simp [go_sem]
  refine (refRight_fun teams met hl2 hm2).call (by simp [go_sem]) ?_
  rintro _ rfl
  simp [go_sem]
  refine (Met_fun met a b hm2).call (by simp [go_sem]) ?_
  rintro _ rfl
  simp [go_sem]
  refine hth.call (by simp [go_sem]) ?_
  rintro _ rfl
  simp [go_sem]
  refine (refMet_fun met a b hm2).call (by simp [go_sem]) ?_
  rintro _ rfl
  simp [go_sem]
  refine (Count_fun teams met hl2 hm2).call (by simp [go_sem]) ?_
  rintro _ rfl
  simp [go_sem]
  refine hth.call (by simp [go_sem]) ?_
  rintro _ rfl
  simp [go_sem]
  refine (refCount_fun teams met hl2 hm2).call (by simp [go_sem]) ?_
  rintro _ rfl
  simp [go_sem]
  refine (Nth_fun teams met k hl2 hm2).call (by simp [go_sem]) ?_
  rintro _ rfl
  simp [go_sem]
  refine hth.call (by simp [go_sem]) ?_
  rintro _ rfl
  simp [go_sem]
  refine (refNth_fun teams met k hl2 hm2).call (by simp [go_sem]) ?_
  rintro _ rfl
  simp [go_sem]
  refine (Number_fun teams met draw hl2 hm2 hd2).call (by simp [go_sem]) ?_
  rintro _ rfl
  simp [go_sem]
  refine hth.call (by simp [go_sem]) ?_
  rintro _ rfl
  simp [go_sem]
  refine htd.call (by simp [go_sem]) ?_
  rintro _ rfl
  simp [go_sem]
  refine (refNumber_fun teams met draw hl2 hm2).call (by simp [go_sem]) ?_
  rintro _ rfl
  simp [go_sem]
  refine (ours_fun (nthD teams met k) (by omega)).call (by simp [go_sem]) ?_
  rintro _ rfl
  simp [go_sem]
  refine (is_fun (nthD teams met k) (nthD teams met k) (by omega)).call (by simp [go_sem]) ?_
  rintro _ rfl
  simp [go_sem]
  refine (kept_fun teams met hl2 hm2).call (by simp [go_sem]) ?_
  rintro _ rfl
  simp [go_sem]
  refine (is_fun draw draw hd2).call (by simp [go_sem]) ?_
  rintro _ rfl
  simp [go_sem]
  exact hR _ _ _ rfl (by simp [go_sem])
end Go.Idl
namespace Go.Idl
set_option linter.all false
open Go.Proofs
set_option maxHeartbeats 8000000
set_option maxRecDepth 40000

theorem aw1 : cntN [7, 3, 9, 4] [(3, 7)] = 2 := by decide +kernel
theorem aw1e : errN [7, 3, 9, 4] [(3, 7)] false = 0 := by decide +kernel
theorem aw2 : nthD [7, 3, 9, 4] [(3, 7)] 0 = [(7, 9), (3, 4)] := by decide +kernel
theorem aw2e : nthE [7, 3, 9, 4] [(3, 7)] 0 = 0 := by decide +kernel
theorem aw3 : nmbN [7, 3, 9, 4] [(3, 7)] [(7, 4), (3, 9)] = 1 := by decide +kernel
theorem aw3e : nmbE [7, 3, 9, 4] [(3, 7)] [(7, 4), (3, 9)] = 0 := by decide +kernel
theorem aw4 : drawR [7, 3, 9, 4] [(3, 7), (3, 4)] [] = ([(7, 4), (3, 9)], 0, 0) := by decide +kernel
theorem aw5 : drawR [7, 3, 9] [] [] = ([(7, 3)], 9, 0) := by decide +kernel
theorem aw6 : drawR [7, 3, 9] [(3, 7)] [] = ([(7, 9)], 3, 0) := by decide +kernel
theorem aw7 : drawR [7, 3, 9] [(3, 7)] [9, 3] = ([(3, 9)], 7, 0) := by decide +kernel
theorem awake_fun : F36 13 [] (fun v => v = .bool true) := by
  refine IFun.of_bodyZ true 1 [1, 2, 3, 4, 5, 6, 7, 8, 9, 10, 11, 12, 13, 14, 15, 16, 17, 18, 19, 20, 116] Tryd.func13 rfl Tryd.call13 rfl fun R hR => ?_
  simp [go_sem]
  refine (Count_fun [7, 3, 9, 4] [(3, 7)] (by decide) (by decide)).call (by simp [go_sem, ints, prs, mp, cutR, okR, frzR]) ?_
  rintro _ rfl
  rw [aw1, aw1e]
  simp [go_sem]
  refine (Nth_fun [7, 3, 9, 4] [(3, 7)] 0 (by decide) (by decide)).call (by simp [go_sem, ints, prs, mp, cutR, okR, frzR]) ?_
  rintro _ rfl
  rw [aw2, aw2e]
  simp [go_sem]
  refine (Number_fun [7, 3, 9, 4] [(3, 7)] [(7, 4), (3, 9)] (by decide) (by decide) (by decide)).call (by simp [go_sem, ints, prs, mp, cutR, okR, frzR]) ?_
  rintro _ rfl
  rw [aw3, aw3e]
  simp [go_sem]
  refine (Draw_fun [7, 3, 9, 4] [(3, 7), (3, 4)] [] (by decide) (by decide) (by decide)).call (by simp [go_sem, ints, prs, mp, cutR, okR, frzR]) ?_
  rintro _ rfl
  rw [aw4, drawV]
  simp [go_sem]
  refine (Draw_fun [7, 3, 9] [] [] (by decide) (by decide) (by decide)).call (by simp [go_sem, ints, prs, mp, cutR, okR, frzR]) ?_
  rintro _ rfl
  rw [aw5, drawV]
  simp [go_sem]
  refine (Draw_fun [7, 3, 9] [(3, 7)] [] (by decide) (by decide) (by decide)).call (by simp [go_sem, ints, prs, mp, cutR, okR, frzR]) ?_
  rintro _ rfl
  rw [aw6, drawV]
  simp [go_sem]
  refine (Draw_fun [7, 3, 9] [(3, 7)] [9, 3] (by decide) (by decide) (by decide)).call (by simp [go_sem, ints, prs, mp, cutR, okR, frzR]) ?_
  rintro _ rfl
  rw [aw7, drawV]
  simp [go_sem]
  refine (is_fun [(7, 9), (3, 4)] [(7, 9), (3, 4)] (by decide)).call (by simp [go_sem, ints, prs, mp, cutR, okR, frzR]) ?_
  rintro _ rfl
  simp [go_sem]
  refine (is_fun [(7, 4), (3, 9)] [(7, 4), (3, 9)] (by decide)).call (by simp [go_sem, ints, prs, mp, cutR, okR, frzR]) ?_
  rintro _ rfl
  simp [go_sem]
  refine (is_fun [(7, 3)] [(7, 3)] (by decide)).call (by simp [go_sem, ints, prs, mp, cutR, okR, frzR]) ?_
  rintro _ rfl
  simp [go_sem]
  refine (is_fun [(7, 9)] [(7, 9)] (by decide)).call (by simp [go_sem, ints, prs, mp, cutR, okR, frzR]) ?_
  rintro _ rfl
  simp [go_sem]
  refine (is_fun [(3, 9)] [(3, 9)] (by decide)).call (by simp [go_sem, ints, prs, mp, cutR, okR, frzR]) ?_
  rintro _ rfl
  simp [go_sem]
  exact hR _ _ _ rfl (by simp [go_sem])
end Go.Idl
namespace Go.Idl
set_option linter.all false
open Go.Proofs
set_option maxHeartbeats 8000000
set_option maxRecDepth 40000

theorem PairingTells_law (teams : List Int) (met draw : List (Int × Int)) (a b k : Int) :
    F36 6 [.fz 1 (ints teams), .fz 2 (prs met), .fz 2 (prs draw), .int .i64 a, .int .i64 b, .int .i64 k] (fun v => v = .bool true) := by
  refine IFun.of_bodyZ false 13 [] Tryd.func6 rfl Tryd.call6 rfl fun R hR => ?_
  simp [go_sem]
  refine (few_fun teams met).call (by simp [go_sem]) ?_
  rintro _ rfl
  cases hf : fewB teams met with
  | false =>
    simp [go_sem]
    refine awake_fun.call (by simp [go_sem]) ?_
    rintro _ rfl
    simp [go_sem]
    exact hR _ _ _ rfl (by simp [go_sem])
  | true =>
    have hf' := of_decide_eq_true hf
    by_cases hd : 10 < draw.length
    · have hdI : (10 : Int) < draw.length := by omega
      simp [go_sem, hdI]
      refine awake_fun.call (by simp [go_sem]) ?_
      rintro _ rfl
      simp [go_sem]
      exact hR _ _ _ rfl (by simp [go_sem])
    · have hdI : ¬ (10 : Int) < draw.length := by omega
      simp [go_sem, hdI]
      refine (tells_fun teams met draw a b k (by omega) (by omega) (by omega)).call (by simp [go_sem]) ?_
      rintro _ rfl
      simp [go_sem]
      refine awake_fun.call (by simp [go_sem]) ?_
      rintro _ rfl
      simp [go_sem]
      exact hR _ _ _ rfl (by simp [go_sem])
theorem drawR_len (teams : List Int) (met : List (Int × Int)) (byes : List Int) : (drawR teams met byes).1.length ≤ teams.length := by
  have hb : ∀ i, (byeGo teams met byes i).1.length ≤ teams.length := by
    intro i
    induction i with
    | zero => simp [byeGo]
    | succ i ih =>
      unfold byeGo
      split
      · exact ih
      · split
        · exact Nat.le_trans fstD_len (by rw [List.length_eraseIdx]; split <;> omega)
        · exact ih
  unfold drawR
  split
  · simp
  · split
    · split
      · exact fstD_len
      · simp
    · exact hb _
theorem PairingDraws_law (teams : List Int) (met : List (Int × Int)) (byes : List Int) :
    F36 3 [.fz 1 (ints teams), .fz 2 (prs met), .fz 1 (ints byes)] (fun v => v = .bool true) := by
  refine IFun.of_bodyZ false 7 [7, 8, 9, 10, 11, 12, 13, 14, 15, 24] Tryd.func3 rfl Tryd.call3 rfl fun R hR => ?_
  simp [go_sem]
  refine (few_fun teams met).call (by simp [go_sem]) ?_
  rintro _ rfl
  have rest : ¬ (fewB teams met = true ∧ byes.length ≤ 20) ∨ (fewB teams met = true ∧ byes.length ≤ 20) := Decidable.not_or_of_imp id
  cases hf : fewB teams met with
  | false =>
    simp [go_sem]
    refine awake_fun.call (by simp [go_sem]) ?_
    rintro _ rfl
    simp [go_sem]
    exact hR _ _ _ rfl (by simp [go_sem])
  | true =>
    have hf' := of_decide_eq_true hf
    by_cases hd : 20 < byes.length
    · have hdI : (20 : Int) < byes.length := by omega
      simp [go_sem, hdI]
      refine awake_fun.call (by simp [go_sem]) ?_
      rintro _ rfl
      simp [go_sem]
      exact hR _ _ _ rfl (by simp [go_sem])
    · have hdI : ¬ (20 : Int) < byes.length := by omega
      have hl2 : teams.length ≤ 2 ^ 32 := by omega
      have hm2 : met.length ≤ 2 ^ 32 := by omega
      have hb2 : byes.length ≤ 2 ^ 32 := by omega
      have hlen := drawR_len teams met byes
      simp [go_sem, hdI]
      refine ⟨⟨by omega, fun r hr => ints_one r hr⟩, ⟨by omega, fun r hr => prs_one r hr⟩, ⟨by omega, fun r hr => ints_one r hr⟩, ?_⟩
      refine (Draw_fun teams met byes hl2 hm2 hb2).call (by simp [go_sem]) ?_
      rintro _ rfl
      simp [go_sem, drawV]
      refine (theirs_fun met (by omega)).call (by simp [go_sem]) ?_
      rintro _ rfl
      simp [go_sem]
      refine (refDraw_fun teams met byes hl2 hm2 hb2).call (by simp [go_sem]) ?_
      rintro _ rfl
      simp [go_sem, drawV]
      refine (ours_fun (drawR teams met byes).1 (by omega)).call (by simp [go_sem]) ?_
      rintro _ rfl
      simp [go_sem]
      refine (is_fun (drawR teams met byes).1 (drawR teams met byes).1 (by omega)).call (by simp [go_sem]) ?_
      rintro _ rfl
      simp [go_sem]
      refine (kept_fun teams met hl2 hm2).call (by simp [go_sem]) ?_
      rintro _ rfl
      simp [go_sem]
      refine (kept_fun byes [] hb2 (by decide)).call (by simp [go_sem]) ?_
      rintro _ rfl
      simp [go_sem]
      refine awake_fun.call (by simp [go_sem]) ?_
      rintro _ rfl
      simp [go_sem]
      exact hR _ _ _ rfl (by simp [go_sem])
end Go.Idl
