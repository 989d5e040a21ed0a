/-
  Chapter 24, the reference: Scale, IMP, Right, Cross, Plain.
  Chapter 24, the reference: Cross, Plain.
-/
import Derived.Test.YthjpnfemaefhnaaDoorC24PartU
import Derived.Test.YthjpnfemaefhnaaDoorC24PartP
namespace Go.Idl
set_option linter.all false
open Go.Proofs
set_option maxHeartbeats 8000000
set_option maxRecDepth 40000

def stepL : List Int := [20, 30, 40, 40, 40, 50, 50, 50, 50, 60, 70, 100, 150, 150, 200, 200, 200, 250, 250, 250, 250, 500, 500, 500]
theorem step_scale : ∀ i, i < 24 → (0 :: scaleL).getD i 0 + stepL.getD i 0 = scaleL.getD i 0 ∧ (0 :: scaleL).getD (i + 1) 0 = scaleL.getD i 0 ∧ -10000 ≤ scaleL.getD i 0 ∧ scaleL.getD i 0 ≤ 10000 ∧ scaleL.take (i + 1) = scaleL.take i ++ [scaleL.getD i 0] := by decide
theorem scale19_fun : FN 60 [] (fun v => v = .fz 1 (ints scaleL)) := by
  refine IFun.of_bodyZ false 5 [9] Tryd.func60 rfl Tryd.call60 rfl fun R hR => ?_
  simp [go_sem]
  refine IWp.ownNilS 1 2 (by decide) rfl ?_
  have hst : [[IV.int .i64 20], [IV.int .i64 30], [IV.int .i64 40], [IV.int .i64 40], [IV.int .i64 40], [IV.int .i64 50], [IV.int .i64 50], [IV.int .i64 50], [IV.int .i64 50], [IV.int .i64 60], [IV.int .i64 70], [IV.int .i64 100], [IV.int .i64 150], [IV.int .i64 150], [IV.int .i64 200], [IV.int .i64 200], [IV.int .i64 200], [IV.int .i64 250], [IV.int .i64 250], [IV.int .i64 250], [IV.int .i64 250], [IV.int .i64 500], [IV.int .i64 500], [IV.int .i64 500]] = ints stepL := rfl
  have hsl : stepL.length = 24 := rfl
  simp only [hst]
  have hsS := step_scale
  have hS24 : scaleL.take 24 = scaleL := rfl
  have hSl : ∀ i, i ≤ 24 → (scaleL.take i).length = i := by decide
  have hZ : (0 :: scaleL).getD 0 0 = 0 := rfl
  generalize hG : stepL = G at *
  generalize hz : (0 :: scaleL) = Z at *
  generalize scaleL = S at *
  refine IWp.loopT (α := Nat) (fun i => (⟨false, 23, 5, [9], glT, [(0, .nils), (1, .sl 0 24 0 24 none), (2, .sl 1 i 0 i none), (3, .int .i64 (Z.getD i 0)), (4, .int .i64 (i : Int))], []⟩, [.rows 1 (ints G), .rows 1 (ints (S.take i))]))
    (fun i => i ≤ 24) (fun i => 24 - i) 0 (by simp) (by simp [go_sem, hZ, - List.getD_eq_getElem?_getD]) ?_
  intro i hi
  by_cases h : i < 24
  · have h' : (i : Int) < 24 := by omega
    obtain ⟨s1, s2, s3, s4, s5⟩ := hsS i h
    have w1 : IntKind.i64.wrap ((i : Int) + 1) = i + 1 := wrap64 (by omega) (by omega)
    have hiG : i < G.length := by omega
    have xG : G[i] = G.getD i 0 := by simp [hiG]
    have qG := ints_q hiG xG
    have hlS := hSl i (by omega)
    obtain ⟨a, ha⟩ : ∃ a, Z.getD i 0 = a := ⟨_, rfl⟩
    obtain ⟨b, hb⟩ : ∃ b, G.getD i 0 = b := ⟨_, rfl⟩
    obtain ⟨c, hc⟩ : ∃ c, S.getD i 0 = c := ⟨_, rfl⟩
    rw [hc] at s1 s2 s3 s4 s5
    rw [ha, hb] at s1
    rw [hb] at xG qG
    have w2 : IntKind.i64.wrap (a + b) = c := by rw [s1]; exact wrap64 (by omega) (by omega)
    have s6 : ints (S.take (i + 1)) = ints (S.take i) ++ [[.int .i64 c]] := by rw [s5, ints_snoc]
    rw [ha]
    generalize S.take i = T at *
    simp [go_sem, h', hsl, hiG, xG, qG, w1, w2]
    refine ⟨by omega, ⟨by omega, by omega⟩, i + 1, ⟨⟨rfl, by rw [← s2]; simp, rfl⟩, s6⟩, by omega, by omega⟩
  · obtain rfl : i = 24 := by omega
    have hSl2 : S.length = 24 := by have := hSl 24 (by omega); rwa [hS24] at this
    rw [hS24]
    simp [go_sem, hsl]
    exact hR _ _ _ rfl (by simp [go_sem, hSl2, ints_cutR, hS24])
theorem scale_sorted : scaleL.Pairwise (· ≤ ·) := by decide
theorem impUp_at {d : Int} {n : Nat} (hn : n ≤ scaleL.length) (h1 : ∀ j (h : j < scaleL.length), j < n → scaleL[j] ≤ d) (h2 : ∀ h : n < scaleL.length, d < scaleL[n]) : impUp scaleL d = n := by
  have e : scaleL = scaleL.take n ++ scaleL.drop n := (List.take_append_drop n _).symm
  unfold impUp
  rw [e, List.countP_append]
  have e1 : (scaleL.take n).countP (fun s => decide (s ≤ d)) = n := by
    rw [List.countP_eq_length.2, List.length_take]
    · omega
    · intro x hx
      obtain ⟨j, hj, rfl⟩ := List.getElem_of_mem hx
      simp only [List.length_take] at hj
      rw [List.getElem_take]
      simpa using h1 j (by omega) (by omega)
  have e2 : (scaleL.drop n).countP (fun s => decide (s ≤ d)) = 0 := by
    rw [List.countP_eq_zero]
    intro x hx
    obtain ⟨j, hj, rfl⟩ := List.getElem_of_mem hx
    simp only [List.length_drop] at hj
    rw [List.getElem_drop]
    have h3 := h2 (by omega)
    have h4 : scaleL[n]'(by omega) ≤ scaleL[n + j]'(by omega) := by
      rcases Nat.eq_zero_or_pos j with h | h
      · subst h; exact Int.le_refl _
      · exact List.pairwise_iff_getElem.1 scale_sorted n (n + j) (by omega) (by omega) (by omega)
    simp; omega
  omega
theorem impI_pos {d : Int} (h : 0 ≤ d) : impI d = impUp scaleL d := by
  unfold impI
  have : impUp scaleL (-d) = 0 := by
    unfold impUp
    rw [List.countP_eq_zero]
    intro x hx
    have := (scaleL_pos x hx).1
    simp; omega
  omega
theorem impI_top {d : Int} (h : 4000 ≤ d) : impI d = 24 := by
  rw [impI_pos (by omega)]
  have : impUp scaleL d = 24 := by
    refine impUp_at (n := 24) (by decide) (fun j hj _ => ?_) (fun h => absurd h (by decide))
    have := (scaleL_pos scaleL[j] (List.getElem_mem hj)).2
    omega
  omega
theorem imp19_pos (d : Int) (h0 : 0 ≤ d) (h1 : d < 2 ^ 63) : FN 47 [.int .i64 d] (fun v => v = .int .i64 (impI d)) := by
  refine IFun.of_bodyZ false 5 [6, 8, 25] Tryd.func47 rfl Tryd.call47 rfl fun R hR => ?_
  have hlt : ¬ d < 0 := by omega
  simp [go_sem, hlt]
  refine scale19_fun.callF (by simp [go_sem]) ?_
  rintro _ rfl
  have key := @impUp_at d
  rw [impI_pos h0] at hR
  have hl24 : scaleL.length = 24 := rfl
  generalize impUp scaleL d = N at *
  generalize scaleL = S at *
  simp [go_sem]
  refine IWp.loopT (α := Nat) (fun n => (⟨false, 29, 5, [6, 8, 25], glT, [(0, .int .i64 d), (3, .fz 1 (ints S)), (4, .int .i64 (n : Int))], []⟩, []))
    (fun n => n ≤ S.length ∧ ∀ j (h : j < S.length), j < n → S[j] ≤ d) (fun n => S.length - n) 0 ⟨by omega, fun j _ h => by omega⟩ (by simp [go_sem]) ?_
  rintro n ⟨hn, hj⟩
  by_cases h : n < S.length
  · have h' : (n : Int) < S.length := by omega
    have q := ints_q h rfl
    by_cases h2 : S[n] ≤ d
    · have w1 : IntKind.i64.wrap ((n : Int) + 1) = n + 1 := wrap64 (by omega) (by omega)
      obtain ⟨x, hx⟩ : ∃ x, S[n] = x := ⟨_, rfl⟩
      rw [hx] at q h2
      simp [go_sem, h, h', hx, q, h2, w1]
      exact ⟨n + 1, by omega, ⟨by omega, fun j hjl hjn => by
        by_cases e : j = n
        · subst e; rw [hx]; exact h2
        · exact hj j hjl (by omega)⟩, by omega⟩
    · have hN := key hn hj (fun _ => by omega)
      obtain ⟨x, hx⟩ : ∃ x, S[n] = x := ⟨_, rfl⟩
      rw [hx] at q h2
      subst hN
      simp [go_sem, h, h', hx, q, h2]
      exact hR _ _ _ rfl (by simp [go_sem])
  · have hN := key hn hj (fun hh => absurd hh h)
    obtain rfl : n = S.length := by omega
    subst hN
    have hq : (ints S)[S.length]?.getD [] = [] := by simp
    simp [go_sem, hq]
    exact hR _ _ _ rfl (by simp [go_sem])
theorem imp19_fun (d : Int) (h : -2 ^ 63 ≤ d ∧ d < 2 ^ 63) : FN 47 [.int .i64 d] (fun v => v = .int .i64 (impI d)) := by
  by_cases h0 : 0 ≤ d
  · exact imp19_pos d h0 h.2
  refine IFun.of_bodyZ false 5 [6, 8, 25] Tryd.func47 rfl Tryd.call47 rfl fun R hR => ?_
  have hlt : d < 0 := by omega
  have hb := impI_bd d
  by_cases h4 : d < -4000
  · have c := imp19_pos 4000 (by decide) (by decide)
    have e1 : impI 4000 = 24 := impI_top (by decide)
    have e2 : impI d = -24 := by
      have := impI_neg (-d)
      rw [Int.neg_neg] at this
      rw [this, impI_top (by omega)]
    rw [e1] at c
    rw [e2] at hR
    have w1 : IntKind.i64.wrap 4000 = 4000 := by decide
    have w2 : IntKind.i64.wrap (-24) = -24 := by decide
    simp [go_sem, hlt, h4, w1]
    refine c.callF (by simp [go_sem]) ?_
    rintro _ rfl
    simp [go_sem, w2]
    exact hR _ _ _ rfl (by simp [go_sem])
  · have c := imp19_pos (-d) (by omega) (by omega)
    have e2 : impI d = -impI (-d) := by have := impI_neg (-d); rwa [Int.neg_neg] at this
    have hb2 := impI_bd (-d)
    rw [e2] at hR
    have w1 : IntKind.i64.wrap (-d) = -d := wrap64 (by omega) (by omega)
    generalize impI (-d) = x at *
    have w2 : IntKind.i64.wrap (-x) = -x := wrap64 (by omega) (by omega)
    simp [go_sem, hlt, h4, w1]
    refine c.callF (by simp [go_sem]) ?_
    rintro _ rfl
    simp [go_sem, w2]
    exact hR _ _ _ rfl (by simp [go_sem])
theorem right24_fun (l : List Int) (hl : l.length < 2 ^ 63) : FN 45 [.fz 1 (ints l)] (fun v => v = .int .i64 (exE l)) := by
  refine IFun.of_bodyZ false 4 [6, 10, 24] Tryd.func45 rfl Tryd.call45 rfl fun R hR => ?_
  by_cases h24 : 24 < l.length
  · have e : exE l = 5 := by unfold exE; rw [if_pos h24]
    rw [e] at hR
    have h' : (24 : Int) < l.length := by omega
    simp [go_sem, h24, h']
    exact hR _ _ _ rfl (by simp [go_sem])
  have e : exE l = if l.any badS = true then 240 else 0 := by unfold exE; rw [if_neg h24]
  have h' : ¬ (24 : Int) < l.length := by omega
  simp [go_sem, h24, h']
  refine IWp.loopT (α := Nat) (fun i => (⟨false, 25, 4, [6, 10, 24], glT, [(0, .fz 1 (ints l)), (3, .int .i64 (i : Int))], []⟩, []))
    (fun i => i ≤ l.length ∧ ∀ j (h : j < l.length), j < i → badS l[j] = false) (fun i => l.length - i) 0 ⟨by omega, fun j _ h => by omega⟩ (by simp [go_sem]) ?_
  rintro i ⟨hi, hg⟩
  by_cases h : i < l.length
  · have w1 : IntKind.i64.wrap ((i : Int) + 1) = i + 1 := wrap64 (by omega) (by omega)
    have hI : (i : Int) < l.length := by omega
    have q := ints_q h rfl
    obtain ⟨x, hx⟩ : ∃ x, l[i] = x := ⟨_, rfl⟩
    rw [hx] at q
    by_cases hb : badS x = true
    · have e2 : exE l = 240 := by
        rw [e, if_pos (List.any_eq_true.2 ⟨x, by rw [← hx]; exact List.getElem_mem h, hb⟩)]
      rw [e2] at hR
      have hb' : x < -7600 ∨ 7600 < x := by simpa [badS] using hb
      by_cases h1 : x < -7600
      · simp [go_sem, h, hI, hx, q, h1]
        exact hR _ _ _ rfl (by simp [go_sem])
      · have h2 : 7600 < x := by omega
        simp [go_sem, h, hI, hx, q, h1, h2]
        exact hR _ _ _ rfl (by simp [go_sem])
    · have hb' : ¬ x < -7600 ∧ ¬ 7600 < x := by simpa [badS] using hb
      simp [go_sem, h, hI, hx, q, hb'.1, hb'.2, w1]
      exact ⟨i + 1, by omega, ⟨by omega, fun j hj hji => by
        by_cases ej : j = i
        · subst ej; rw [hx]; simpa using hb
        · exact hg j hj (by omega)⟩, by omega⟩
  · obtain rfl : i = l.length := by omega
    have e2 : exE l = 0 := by
      rw [e, if_neg]
      rw [Bool.not_eq_true, List.any_eq_false]
      intro x hx
      obtain ⟨j, hj, rfl⟩ := List.getElem_of_mem hx
      simp [hg j hj hj]
    rw [e2] at hR
    simp [go_sem]
    exact hR _ _ _ rfl (by simp [go_sem])
end Go.Idl
namespace Go.Idl
set_option linter.all false
open Go.Proofs
set_option maxHeartbeats 8000000
set_option maxRecDepth 40000

theorem add01_lows {a b : Int} {N : Nat} (hN : 0 < N) (hN2 : N ≤ 2 ^ 30) (ha : -2 ^ 30 ≤ a ∧ a ≤ 2 ^ 30) (hb : -2 ^ 30 ≤ b ∧ b ≤ 2 ^ 30) :
    FN 48 [(lowF a N).v, (lowF b N).v] (fun v => v = .tup [(lowF (a + b) N).v, .int .i64 0]) := by
  have h := add01F_fun (lowF a N) (lowF b N) (low_sml hN hN2 ha) (low_sml hN hN2 hb)
  rw [← Int.natAbs_mul, low_add hN] at h
  exact h
theorem low_neg (u : Int) {d : Nat} (hd : 0 < d) : lowF (-u) d = ⟨-(lowF u d).num, (lowF u d).den⟩ := by
  obtain ⟨g, a, b, h1, h2, h3, h4, h5, h6⟩ := low_ex u hd
  rw [h6]
  exact low_of h1 h2 (by rw [h3, Int.mul_neg]) h4 (by rw [Int.natAbs_neg]; exact h5)
theorem sub01_lows {x b : Int} {N : Nat} (hN : 0 < N) (hN2 : N ≤ 2 ^ 30) (hx : -2 ^ 20 ≤ x ∧ x ≤ 2 ^ 20) (hb : -2 ^ 30 ≤ b ∧ b ≤ 2 ^ 30) :
    FN 49 [(⟨x, 1⟩ : Frc).v, (lowF b N).v] (fun v => v = .tup [(lowF (N * x - b) N).v, .int .i64 0]) := by
  have h := sub01F_fun ⟨x, 1⟩ (lowF b N) (by rw [← low_one]; exact low_sml (by decide) (by decide) (by omega)) (low_sml hN hN2 hb)
  have e : (⟨x, 1⟩ : Frc) = lowF (N * x) N := by
    have := low_scale (u := x) (d := 1) hN (by decide)
    rw [Nat.mul_one, low_one] at this
    exact this.symm
  have h2 := low_add (a := N * x) (b := -b) hN
  rw [low_neg b hN, ← e] at h2
  rw [← Int.natAbs_mul, h2, show (N : Int) * x + -b = N * x - b by omega] at h
  exact h
def crN (l : List Int) : Nat := if l.length ≤ 1 then 1 else l.length - 1
theorem cross24_fun (l : List Int) (hl : l.length < 2 ^ 63) : FN 21 [.fz 1 (ints l)] (fun v => v = .tup [.fz 2 (frs (crossR l)), .int .i64 (exE l)]) := by
  refine IFun.of_bodyZ false 11 [14, 19, 26, 31] Tryd.func21 rfl Tryd.call21 rfl fun R hR => ?_
  have cr := right24_fun l hl
  simp [go_sem]
  refine cr.callF (by simp [go_sem]) ?_
  rintro _ rfl
  by_cases h0 : exE l = 0
  case neg =>
    have e : crossR l = [] := by unfold crossR; rw [if_neg h0]
    rw [e] at hR
    simp [go_sem, h0]
    exact hR _ _ _ rfl (by simp [go_sem])
  obtain ⟨h24, hbd⟩ := exE_ok h0
  have e : crossR l = crossL l := by unfold crossR; rw [if_pos h0]
  rw [e, h0] at hR
  simp [go_sem, h0]
  refine IWp.ownNilS 2 5 (by decide) rfl ?_
  have hcl := crossL_low h24
  have hcN : (if l.length ≤ 1 then 1 else l.length - 1) = crN l := rfl
  rw [hcN] at hcl
  have hN0 : 0 < crN l := by unfold crN; split <;> omega
  have hN1 : crN l ≤ 24 := by unfold crN; split <;> omega
  have hN2 : 2 ≤ l.length → ((l.length : Int) - 1) = (crN l : Int) := fun h => by unfold crN; rw [if_neg (by omega)]; omega
  generalize crN l = N at *
  have hlen : (crossL l).length = l.length := by simp
  have hat : ∀ i (h : i < l.length) (h2 : i < (crossL l).length), (crossL l)[i] = lowF (vsI l i l[i] l.length) N := fun i h h2 => by
    simp only [hcl, List.getElem_map]
    rw [vI_all h]
  generalize crossL l = C at *
  refine IWp.loopT (α := Nat) (fun i => (⟨false, 60, 11, [14, 19, 26, 31], glT, [(0, .fz 1 (ints l)), (2, .nils), (3, .int .i64 0), (5, .sl 0 i 0 i none), (6, .int .i64 (i : Int))], []⟩, [.rows 2 (frs (C.take i))]))
    (fun i => i ≤ l.length) (fun i => l.length - i) 0 (by simp) (by simp [go_sem]) ?_
  intro i hi
  by_cases h : i < l.length
  · have h' : (i : Int) < l.length := by omega
    have w1 : IntKind.i64.wrap ((i : Int) + 1) = i + 1 := wrap64 (by omega) (by omega)
    have hCi := hat i h (by omega)
    have hTl : (C.take i).length = i := by simp; omega
    have hsn : C.take (i + 1) = C.take i ++ [C[i]'(by omega)] := by rw [List.take_succ_eq_append_getElem (by omega)]
    rw [hCi] at hsn
    have hxb := hbd l[i] (List.getElem_mem h)
    have z0 : lowF (vsI l i l[i] 0) N = ⟨0, 1⟩ := by
      have : vsI l i l[i] 0 = 0 := by simp [vsI]
      rw [this]; exact lowF_zero hN0
    have hvb := fun k hk => @vsI_bd l i l[i] k hk
    have hvs := fun k (hk : k < l.length) => @vsI_succ l i k l[i] hk
    obtain ⟨x, hx⟩ : ∃ x, l[i] = x := ⟨_, rfl⟩
    have qx := ints_q h hx
    rw [hx] at z0 hvb hvs hsn hxb
    generalize C.take i = T at *
    simp [go_sem, h', h]
    refine IWp.loopT (α := Nat) (fun k => (⟨false, 60, 11, [14, 19, 26, 31], glT, [(0, .fz 1 (ints l)), (2, .nils), (3, .int .i64 0), (5, .sl 0 i 0 i none), (6, .int .i64 (i : Int)), (7, .ptr 1 1 0 0), (8, .int .i64 (k : Int))], []⟩, [.rows 2 (frs T), .rows 2 [[.int .i64 (lowF (vsI l i x k) N).num, .int .i64 (lowF (vsI l i x k) N).den]]]))
      (fun k => k ≤ l.length) (fun k => l.length - k) 0 (by simp) (by simp [go_sem, z0]) ?_
    intro k hk
    by_cases hk2 : k < l.length
    · have hk' : (k : Int) < l.length := by omega
      have w2 : IntKind.i64.wrap ((k : Int) + 1) = k + 1 := wrap64 (by omega) (by omega)
      have hv := hvs k hk2
      by_cases hki : k = i
      · rw [if_pos hki, Int.add_zero] at hv
        subst hki
        simp [go_sem, hk', hk2, w2]
        exact ⟨k + 1, ⟨by omega, by rw [hv], by rw [hv]⟩, by omega, by omega⟩
      · rw [if_neg hki] at hv
        have hki' : ¬ (k : Int) = i := by omega
        have hyb := hbd l[k] (List.getElem_mem hk2)
        obtain ⟨y, hy⟩ : ∃ y, l[k] = y := ⟨_, rfl⟩
        have qy := ints_q hk2 hy
        rw [hy] at hv hyb
        have hvb1 := hvb k hk
        have ci := imp19_fun (x - y) (by omega)
        have hib := impI_bd (x - y)
        have cm := make01_fun (impI (x - y)) (N : Int) (by omega) (by omega)
        rw [mk_low hN0 (by omega) (by omega)] at cm
        have ca := add01_lows hN0 (by omega) (a := vsI l i x k) (b := impI (x - y)) (by omega) (by omega)
        rw [← hv] at ca
        have w3 : IntKind.i64.wrap (x - y) = x - y := wrap64 (by omega) (by omega)
        have w4 : IntKind.i64.wrap ((l.length : Int) - 1) = N := by rw [hN2 (by omega)]; exact wrap64 (by omega) (by omega)
        generalize impI (x - y) = I at *
        obtain ⟨A, hA⟩ : ∃ A, lowF (vsI l i x k) N = A := ⟨_, rfl⟩
        obtain ⟨B, hB⟩ : ∃ B, lowF (vsI l i x (k + 1)) N = B := ⟨_, rfl⟩
        obtain ⟨D, hD⟩ : ∃ D, lowF I N = D := ⟨_, rfl⟩
        rw [hA, hB, hD] at ca
        rw [hD] at cm
        rw [hA]
        simp only [Frc.v] at ca cm
        simp [go_sem, hk', hk2, hki, hki']
        refine Drawn.intro (fun j => if j = 9 then .int .i64 I else if j = 13 then .tup [.agg [.int .i64 D.num, .int .i64 D.den], .int .i64 0] else .tup []) ?_
        simp [go_sem, h, h', hk', hk2, hx, hy, qx, qy, w3, w4, ci, cm]
        refine ⟨by decide +kernel, ?_⟩
        refine ca.callF (by simp [go_sem]) ?_
        rintro _ rfl
        simp [go_sem, w2]
        exact ⟨k + 1, ⟨by omega, by rw [hB], by rw [hB]⟩, by omega, by omega⟩
    · obtain rfl : k = l.length := by omega
      simp [go_sem, w1]
      exact ⟨⟨by omega, by omega⟩, i + 1, ⟨⟨rfl, by omega⟩, by rw [hsn, frs_snoc]⟩, by omega, by omega⟩
  · obtain rfl : i = l.length := by omega
    have hC : C.take l.length = C := List.take_of_length_le (by omega)
    rw [hC]
    simp [go_sem]
    exact hR _ _ _ rfl (by simp [go_sem, hlen])
theorem plain24_fun (l : List Int) (hl : l.length < 2 ^ 63) : FN 22 [.fz 1 (ints l)] (fun v => v = .tup [.fz 2 (frs (plainR l)), .int .i64 (exE l)]) := by
  refine IFun.of_bodyZ false 13 [16, 21, 33] Tryd.func22 rfl Tryd.call22 rfl fun R hR => ?_
  have cr := right24_fun l hl
  simp [go_sem]
  refine cr.callF (by simp [go_sem]) ?_
  rintro _ rfl
  by_cases h0 : exE l = 0
  case neg =>
    have e : plainR l = [] := by unfold plainR; rw [if_neg h0]
    rw [e] at hR
    simp [go_sem, h0]
    exact hR _ _ _ rfl (by simp [go_sem])
  obtain ⟨h24, hbd⟩ := exE_ok h0
  have e : plainR l = plainL l l.sum := by unfold plainR; rw [if_pos h0]
  rw [e, h0] at hR
  have hcl := plainL_low h24 hbd
  have hlen : (plainL l l.sum).length = l.length := by simp
  have hat : ∀ i (h : i < l.length) (h2 : i < (plainL l l.sum).length), (plainL l l.sum)[i] = lowF ((l.length : Int) * l[i] - l.sum) l.length := fun i h h2 => by
    simp only [hcl, List.getElem_map]
    exact congrArg (lowF _) (if_neg (by omega))
  generalize plainL l l.sum = C at *
  have hsb := fun k => sum_take_bd h24 hbd k
  have hss := fun k (hk : k < l.length) => @sum_succ24 l k hk
  simp [go_sem, h0]
  refine IWp.loopT (α := Nat) (fun i => (⟨false, 58, 13, [16, 21, 33], glT, [(0, .fz 1 (ints l)), (2, .nils), (3, .int .i64 0), (5, .int .i64 (l.take i).sum), (6, .int .i64 (i : Int))], []⟩, []))
    (fun i => i ≤ l.length) (fun i => l.length - i) 0 (by simp) (by simp [go_sem]) ?_
  intro i hi
  by_cases h : i < l.length
  · have h' : (i : Int) < l.length := by omega
    have w1 : IntKind.i64.wrap ((i : Int) + 1) = i + 1 := wrap64 (by omega) (by omega)
    have s1 := hss i h
    have s2 := hsb (i + 1)
    obtain ⟨x, hx⟩ : ∃ x, l[i] = x := ⟨_, rfl⟩
    have qx := ints_q h hx
    rw [hx] at s1
    have w2 : IntKind.i64.wrap ((l.take i).sum + x) = (l.take (i + 1)).sum := by rw [← s1]; exact wrap64 (by omega) (by omega)
    generalize (l.take i).sum = S at *
    simp [go_sem, h, h', hx, qx, w1, w2]
    exact ⟨i + 1, ⟨rfl, by omega⟩, by omega, by omega⟩
  · obtain rfl : i = l.length := by omega
    have hT : (l.take l.length).sum = l.sum := by rw [List.take_of_length_le (Nat.le_refl _)]
    have hsum := hsb l.length
    rw [hT] at hsum ⊢
    generalize l.sum = S at *
    simp [go_sem]
    refine IWp.ownNilS 2 7 (by decide) rfl ?_
    refine IWp.loopT (α := Nat) (fun i => (⟨false, 58, 13, [16, 21, 33], glT, [(0, .fz 1 (ints l)), (2, .nils), (3, .int .i64 0), (5, .int .i64 S), (7, .sl 0 i 0 i none), (8, .int .i64 (i : Int))], []⟩, [.rows 2 (frs (C.take i))]))
      (fun i => i ≤ l.length) (fun i => l.length - i) 0 (by simp) (by simp [go_sem]) ?_
    intro i hi
    by_cases h : i < l.length
    · have h' : (i : Int) < l.length := by omega
      have w1 : IntKind.i64.wrap ((i : Int) + 1) = i + 1 := wrap64 (by omega) (by omega)
      have hCi := hat i h (by omega)
      have hTl : (C.take i).length = i := by simp; omega
      have hsn : C.take (i + 1) = C.take i ++ [C[i]'(by omega)] := by rw [List.take_succ_eq_append_getElem (by omega)]
      rw [hCi] at hsn
      have hxb := hbd l[i] (List.getElem_mem h)
      obtain ⟨x, hx⟩ : ∃ x, l[i] = x := ⟨_, rfl⟩
      have qx := ints_q h hx
      rw [hx] at hsn hxb
      have hN0 : 0 < l.length := by omega
      have cm := make01_fun S (l.length : Int) (by omega) (by omega)
      rw [mk_low hN0 (by omega) (by omega)] at cm
      have cs := sub01_lows (x := x) (b := S) hN0 (by omega) (by omega) (by omega)
      generalize C.take i = T at *
      obtain ⟨A, hA⟩ : ∃ A, lowF ((l.length : Int) * x - S) l.length = A := ⟨_, rfl⟩
      obtain ⟨D, hD⟩ : ∃ D, lowF S l.length = D := ⟨_, rfl⟩
      rw [hA, hD] at cs
      rw [hD] at cm
      rw [hA] at hsn
      simp only [Frc.v] at cm cs
      simp [go_sem, h, h']
      refine cm.callF (by simp [go_sem]) ?_
      rintro _ rfl
      simp [go_sem]
      refine Drawn.intro (fun j => if j = 6 then .tup [.agg [.int .i64 A.num, .int .i64 A.den], .int .i64 0] else .tup []) ?_
      simp [go_sem, h, h', hx, qx, cs, w1]
      refine ⟨by decide +kernel, ⟨by omega, by omega⟩, ?_⟩
      exact ⟨i + 1, ⟨⟨rfl, by omega⟩, by rw [hsn, frs_snoc]⟩, by omega, by omega⟩
    · obtain rfl : i = l.length := by omega
      have hC : C.take l.length = C := List.take_of_length_le (by omega)
      rw [hC]
      simp [go_sem]
      exact hR _ _ _ rfl (by simp [go_sem, hlen])
end Go.Idl
