/-
  Chapter 24: CrossTurned.
-/
import Derived.Test.YthjpnfemaefhnaaDoorC24PartG
namespace Go.Idl
set_option linter.all false
open Go.Proofs Go.RowKit
set_option maxHeartbeats 16000000
set_option maxRecDepth 40000

theorem mkF_bd {n : Int} {d : Nat} (hd : 0 < d) (hd2 : (d : Int) < 2 ^ 63) (hn : -2 ^ 63 ≤ n ∧ n < 2 ^ 63) : (mkF n d).1.num.natAbs ≤ n.natAbs ∧ 1 ≤ (mkF n d).1.den ∧ (mkF n d).1.den ≤ d := by
  obtain ⟨x, y, hm, hy, _, _, _, hyd, hxn⟩ := mkF_ok hd hd2 hn
  rw [hm]
  simp only
  split <;> omega
theorem crossF_bd {l : List Int} {i : Nat} {x : Int} (h0 : 0 < l.length) (hl : l.length ≤ 24) : (-1000 ≤ (crossF l i x).num ∧ (crossF l i x).num ≤ 1000) ∧ 1 ≤ (crossF l i x).den ∧ (crossF l i x).den ≤ 24 := by
  unfold crossF
  split
  · simp
  · have hb := vsI_bd (l := l) (i := i) (x := x) l.length (Nat.le_refl _)
    rw [show (l.length : Int) - 1 = ((l.length - 1 : Nat) : Int) by omega]
    have := mkF_bd (n := vsI l i x l.length) (d := l.length - 1) (by omega) (by omega) (by omega)
    omega
theorem plainF_bd {l : List Int} {sm x : Int} (h0 : 0 < l.length) (hl : l.length ≤ 24) (hs : -200000 ≤ sm ∧ sm ≤ 200000) (hx : -7600 ≤ x ∧ x ≤ 7600) : (-1000000 ≤ (plainF l sm x).num ∧ (plainF l sm x).num ≤ 1000000) ∧ 1 ≤ (plainF l sm x).den ∧ (plainF l sm x).den ≤ 24 := by
  unfold plainF
  have hb1 : -(24 * 7600) ≤ (l.length : Int) * x ∧ (l.length : Int) * x ≤ 24 * 7600 := by
    have h1 := Int.mul_le_mul_of_nonneg_left hx.2 (show 0 ≤ (l.length : Int) by omega)
    have h2 := Int.mul_le_mul_of_nonneg_left hx.1 (show 0 ≤ (l.length : Int) by omega)
    omega
  have := mkF_bd (n := (l.length : Int) * x - sm) (d := l.length) h0 (by omega) (by omega)
  omega
/-- What Scores makes. -/
def scrL (l : List Int) : List Int := (l.take 24).map scoreI
theorem scrL_len (l : List Int) : (scrL l).length ≤ 24 := by simp [scrL]; omega
theorem scrL_rng (l : List Int) : ∀ y ∈ scrL l, -7600 ≤ y ∧ y ≤ 7600 := fun y hy => by
  obtain ⟨x, _, rfl⟩ := List.mem_map.1 hy
  exact scoreI_bd
theorem crossTurned_fun (l : List Int) (d : Int) (hl : l.length < 2 ^ 63) (hb : ∀ x ∈ l, -32768 ≤ x ∧ x ≤ 32767) (hd : 0 ≤ d ∧ d < 256) : FN 5 [.fz 1 (bys .i16 l), .int .u8 d] (fun v => v = .bool true) := by
  refine IFun.of_bodyZ false 23 [27, 29, 30, 31, 32, 81, 167, 169, 170, 171, 220] Tryd.func5 rfl Tryd.call5 rfl fun R hR => ?_
  have cs := scores_fun l hl hb
  have hSl := scrL_len l
  have hSb := scrL_rng l
  rw [show (l.take 24).map scoreI = scrL l from rfl] at cs
  generalize scrL l = S at *
  simp [go_sem]
  refine cs.callF (by simp [go_sem]) ?_
  rintro _ rfl
  by_cases h0 : S = []
  · subst h0
    simp [go_sem]
    refine awake24_fun.callF (by simp [go_sem]) ?_
    rintro _ rfl
    simp [go_sem]
    exact hR _ _ _ rfl (by simp [go_sem])
  have hS0 : 0 < S.length := List.length_pos_iff.2 h0
  have hTl : (S.map (- ·)).length = S.length := List.length_map _
  have hTb : ∀ y ∈ S.map (- ·), -7600 ≤ y ∧ y ≤ 7600 := fun y hy => by
    obtain ⟨x, hx, rfl⟩ := List.mem_map.1 hy
    have := hSb x hx
    omega
  have eS := exE_of hSl hSb
  have eT := exE_neg hSl hSb
  have cC1 := cross_fun S (by omega)
  have cC2 := cross_fun (S.map (- ·)) (by omega)
  have cP1 := plain_fun S (by omega)
  have cP2 := plain_fun (S.map (- ·)) (by omega)
  have r1 : crossR S = crossL S := by unfold crossR; rw [if_pos eS]
  have r2 : crossR (S.map (- ·)) = crossL (S.map (- ·)) := by unfold crossR; rw [if_pos eT]
  have r3 : plainR S = plainL S S.sum := by unfold plainR; rw [if_pos eS]
  have r4 : plainR (S.map (- ·)) = plainL (S.map (- ·)) (S.map (- ·)).sum := by unfold plainR; rw [if_pos eT]
  rw [eS, r1] at cC1
  rw [eT, r2] at cC2
  rw [eS, r3] at cP1
  rw [eT, r4] at cP2
  -- how many extremes
  have w1 : IntKind.i64.wrap d = d := wrap64 (by omega) (by omega)
  have w2 : IntKind.i64.wrap ((S.length : Int) + 1) = S.length + 1 := wrap64 (by omega) (by omega)
  have d1 : ((S.length : Int) + 1).tdiv 2 = (S.length + 1) / 2 := Int.tdiv_eq_ediv_of_nonneg (by omega)
  obtain ⟨q, hq⟩ : ∃ q : Nat, ((S.length : Int) + 1) / 2 = q := ⟨(S.length + 1) / 2, by omega⟩
  have w3 : IntKind.i64.wrap (q : Int) = q := wrap64 (by omega) (by omega)
  have hq0 : ¬ (q : Int) = 0 := by omega
  have hq0' : ¬ q = 0 := by omega
  have d2 : d.tmod q = d % q := Int.tmod_eq_emod_of_nonneg (by omega)
  have m1 := Int.emod_nonneg d hq0
  have m2 := Int.emod_lt_of_pos d (show (0 : Int) < q by omega)
  obtain ⟨k, hk⟩ : ∃ k : Nat, d % (q : Int) = k := ⟨(d % (q : Int)).toNat, by omega⟩
  rw [hk] at m2 d2
  have h2k : 2 * k < S.length := by omega
  have hdS := datE_good hSl hSb hS0 h2k
  have hdT := datE_gneg hSl hSb hS0 h2k
  have hdI := datI_neg hSl hSb hS0 h2k
  have hdB := datI_bd S k
  have cD1 := datum_fun S k (by omega)
  have cD2 := datum_fun (S.map (- ·)) k (by omega)
  have cB1 := butler_fun S k (by omega)
  have cB2 := butler_fun (S.map (- ·)) k (by omega)
  have r5 : butR S k = butlerL S (datI S k) := by unfold butR; rw [if_pos hdS]
  have r6 : butR (S.map (- ·)) k = butlerL (S.map (- ·)) (-datI S k) := by unfold butR; rw [if_pos hdT, hdI]
  rw [hdS] at cD1
  rw [hdT, hdI] at cD2
  rw [hdS, r5] at cB1
  rw [hdT, r6] at cB2
  clear r1 r2 r3 r4 r5 r6 eS eT hdS hdT hdI
  -- one by one
  have hA : ∀ (i : Nat) (h1 : i < (crossL S).length) (h2 : i < (crossL (S.map (- ·))).length), (crossL (S.map (- ·)))[i] = ⟨-(crossL S)[i].num, (crossL S)[i].den⟩ := fun i h1 h2 => crossL_neg hSl hSb (by simpa using h1)
  have hP : ∀ (i : Nat) (h1 : i < (plainL S S.sum).length) (h2 : i < (plainL (S.map (- ·)) (S.map (- ·)).sum).length), (plainL (S.map (- ·)) (S.map (- ·)).sum)[i] = ⟨-(plainL S S.sum)[i].num, (plainL S S.sum)[i].den⟩ := fun i h1 h2 => plainL_neg hSl hSb (by simpa using h1)
  have hB : ∀ (i : Nat) (h1 : i < (butlerL S (datI S k)).length) (h2 : i < (butlerL (S.map (- ·)) (-datI S k)).length), (butlerL (S.map (- ·)) (-datI S k))[i] = -(butlerL S (datI S k))[i] := fun i h1 h2 => butlerL_neg (dt := datI S k) hSl hSb (by simpa using h1)
  have hAb : ∀ (i : Nat) (h : i < (crossL S).length), -1000000 ≤ (crossL S)[i].num ∧ (crossL S)[i].num ≤ 1000000 := fun i h => by
    simp only [crossL, List.getElem_map, List.getElem_range]
    have := (crossF_bd (l := S) (i := i) (x := S.getD i 0) hS0 hSl).1
    omega
  have hPb : ∀ (i : Nat) (h : i < (plainL S S.sum).length), -1000000 ≤ (plainL S S.sum)[i].num ∧ (plainL S S.sum)[i].num ≤ 1000000 := fun i h => by
    have hs := sum_take_bd hSl hSb S.length
    rw [List.take_length] at hs
    have h' : i < S.length := by simpa using h
    simp only [plainL, List.getElem_map, List.getElem_range]
    exact (plainF_bd hS0 hSl hs (by rw [show S.getD i 0 = S[i] by simp [h']]; exact hSb _ (List.getElem_mem h'))).1
  have hBb : ∀ (i : Nat) (h : i < (butlerL S (datI S k)).length), -1000000 ≤ (butlerL S (datI S k))[i] ∧ (butlerL S (datI S k))[i] ≤ 1000000 := fun i h => by
    simp only [butlerL, List.getElem_map, List.getElem_range]
    have := impI_bd (S.getD i 0 - datI S k)
    omega
  have lA : (crossL S).length = S.length := by simp
  have lX : (crossL (S.map (- ·))).length = S.length := by simp
  have lP : (plainL S S.sum).length = S.length := by simp
  have lY : (plainL (S.map (- ·)) (S.map (- ·)).sum).length = S.length := by simp
  have lB : (butlerL S (datI S k)).length = S.length := by simp
  have lZ : (butlerL (S.map (- ·)) (-datI S k)).length = S.length := by simp
  generalize crossL S = A at *
  generalize plainL S S.sum = P at *
  generalize butlerL S (datI S k) = B at *
  generalize crossL (S.map (- ·)) = X at *
  generalize plainL (S.map (- ·)) (S.map (- ·)).sum = Y at *
  generalize butlerL (S.map (- ·)) (-datI S k) = Z at *
  generalize datI S k = D at *
  have w4 : IntKind.i64.wrap D = D := wrap64 (by omega) (by omega)
  have hSne : ¬ (S.length : Int) = 0 := by omega
  simp [go_sem, h0, hSne]
  refine IWp.ownNilS 1 6 (by decide) rfl ?_
  refine IWp.loopT (α := Nat) (fun i => (⟨false, 223, 23, [27, 29, 30, 31, 32, 81, 167, 169, 170, 171, 220], glT, [(1, .int .u8 d), (5, .fz 1 (ints S)), (6, .sl 0 i 0 i none), (29, .fz 1 (ints S)), (30, .int .i64 S.length), (31, .int .i64 (i : Int))], []⟩, [.rows 1 (ints ((S.map (- ·)).take i))]))
    (fun i => i ≤ S.length) (fun i => S.length - i) 0 (by simp) (by simp [go_sem]) ?_
  intro i hi
  by_cases h : i < S.length
  · have v1 : IntKind.i64.wrap ((i : Int) + 1) = i + 1 := wrap64 (by omega) (by omega)
    have hs : (S.map (- ·)).take (i + 1) = (S.map (- ·)).take i ++ [-S[i]] := by
      have := List.take_succ_eq_append_getElem (l := S.map (- ·)) (i := i) (by omega)
      rw [this, List.getElem_map]
    have hy := hSb S[i] (List.getElem_mem h)
    obtain ⟨y, hye⟩ : ∃ y, S[i] = y := ⟨_, rfl⟩
    rw [hye] at hs hy
    have v2 : IntKind.i64.wrap (0 - y) = -y := by rw [wrap64 (by omega) (by omega)]; omega
    have v3 : IntKind.i64.wrap (-y) = -y := wrap64 (by omega) (by omega)
    simp [go_sem, h, hye, v1, v2, v3]
    refine ⟨by omega, i + 1, ?_, by omega, by omega⟩
    rw [hs, ints_snoc]
    simp
  · obtain rfl : i = S.length := by omega
    rw [show (S.map (- ·)).take S.length = S.map (- ·) from List.take_of_length_le (by omega)]
    generalize S.map (- ·) = T at *
    have hcut : cutR 0 S.length (ints T) = ints T := cutR_all (by simp [hTl])
    simp [go_sem, w1, w2, d1, hq, w3, hq0, hq0', d2]
    refine cC1.callF (by simp [go_sem]) ?_
    rintro _ rfl
    simp [go_sem]
    refine cC2.callF (by simp [go_sem, hcut, hTl]) ?_
    rintro _ rfl
    simp [go_sem]
    refine cP1.callF (by simp [go_sem]) ?_
    rintro _ rfl
    simp [go_sem]
    refine cP2.callF (by simp [go_sem, hcut, hTl]) ?_
    rintro _ rfl
    simp [go_sem]
    refine cB1.callF (by simp [go_sem, hk]) ?_
    rintro _ rfl
    simp [go_sem]
    refine cB2.callF (by simp [go_sem, hcut, hTl, hk]) ?_
    rintro _ rfl
    simp [go_sem]
    refine cD1.callF (by simp [go_sem, hk]) ?_
    rintro _ rfl
    simp [go_sem]
    refine cD2.callF (by simp [go_sem, hcut, hTl, hk]) ?_
    rintro _ rfl
    simp [go_sem, w4, lA, lX, lP, lY, lB, lZ]
    refine IWp.loopT (α := Nat) (fun i => (⟨false, 223, 23, [27, 29, 30, 31, 32, 81, 167, 169, 170, 171, 220], glT, [(10, .fz 2 (frs A)), (12, .fz 2 (frs X)), (14, .fz 2 (frs P)), (16, .fz 2 (frs Y)), (18, .fz 1 (ints B)), (19, .fz 1 (ints Z)), (169, .int .i64 S.length), (170, .int .i64 (i : Int))], []⟩, [.rows 1 (ints T)]))
      (fun i => i ≤ S.length) (fun i => S.length - i) 0 (by simp) (by simp [go_sem]) ?_
    intro i hi
    by_cases h : i < S.length
    · have v1 : IntKind.i64.wrap ((i : Int) + 1) = i + 1 := wrap64 (by omega) (by omega)
      have e1 := hA i (by omega) (by omega)
      have e2 := hP i (by omega) (by omega)
      have e3 := hB i (by omega) (by omega)
      have b1 := hAb i (by omega)
      have b2 := hPb i (by omega)
      have b3 := hBb i (by omega)
      simp [go_sem, h, v1, e1, e2, e3, lA, lX, lP, lY, lB, lZ]
      refine ⟨by decide +kernel, ?_⟩
      rw [wrap64 (by omega) (by omega), wrap64 (by omega) (by omega), wrap64 (by omega) (by omega), if_neg (by simp)]
      exact ⟨i + 1, by omega, by omega, by omega⟩
    · obtain rfl : i = S.length := by omega
      simp [go_sem]
      refine awake24_fun.callF (by simp [go_sem]) ?_
      rintro _ rfl
      simp [go_sem]
      exact hR _ _ _ rfl (by simp [go_sem])
end Go.Idl
