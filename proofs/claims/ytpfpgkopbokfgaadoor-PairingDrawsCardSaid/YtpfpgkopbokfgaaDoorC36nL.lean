/-
  Chapter 36: the reference: Count f44, Nth f45, same f50, Number f46.
-/
import Derived.Test.YtpfpgkopbokfgaaDoorC36nK
import Derived.Test.YtpfpgkopbokfgaaDoorC36nH
namespace Go.Idl
set_option linter.all false
open Go.Proofs
set_option maxHeartbeats 4000000
set_option maxRecDepth 40000

theorem refAll_c (teams : List Int) (met : List (Int × Int)) (hm : met.length ≤ 2 ^ 32) (h : teams.length ≤ 16) : O36 49 [.fz 1 (ints teams), .fz 2 (prs met)] (fun v => v = .fz 1 (lls (drT met teams))) := refAll_fun met hm teams.length teams (Nat.le_refl _) h
theorem drT_len {teams : List Int} {met : List (Int × Int)} (h : teams.length ≤ 16) : (drT met teams).length ≤ 2562890625 := cntL_le15 (ok := okT met) 8 teams (by omega) h

theorem refCount_fun (teams : List Int) (met : List (Int × Int)) (hl : teams.length ≤ 2 ^ 32) (hm : met.length ≤ 2 ^ 32) : F36 44 [.fz 1 (ints teams), .fz 2 (prs met)] (fun v => v = .tup [.int .i64 (cntN teams met), .int .i64 (errN teams met false)]) := by
  refine IFun.of_bodyZ false 7 [11] Tryd.func44 rfl Tryd.call44 rfl fun R hR => ?_
  simp [go_sem]
  refine (wrong_fun teams met false hl hm).call (by simp [go_sem]) ?_
  rintro _ rfl
  by_cases he : errN teams met false = 0
  · obtain ⟨_, hn, _⟩ := errN_zero he
    have e : cntN teams met = (drT met teams).length := by unfold cntN; rw [if_pos he]
    simp [go_sem, he]
    refine (refAll_c teams met hm hn).call (by simp [go_sem]) ?_
    rintro _ rfl
    simp [go_sem]
    exact hR _ _ _ rfl (by simp [go_sem, e, he])
  · have e : cntN teams met = 0 := by unfold cntN; rw [if_neg he]
    simp [go_sem, he]
    exact hR _ _ _ rfl (by simp [go_sem, e])

theorem refNth_fun (teams : List Int) (met : List (Int × Int)) (k : Int) (hl : teams.length ≤ 2 ^ 32) (hm : met.length ≤ 2 ^ 32) : O36 45 [.fz 1 (ints teams), .fz 2 (prs met), .int .i64 k] (fun v => v = .tup [.fz 2 (prs (nthD teams met k)), .int .i64 (nthE teams met k)]) := by
  refine IFun.of_bodyZ false 10 [14, 26] Tryd.func45 rfl Tryd.call45 rfl fun R hR => ?_
  simp [go_sem]
  refine (wrong_fun teams met false hl hm).call (by simp [go_sem]) ?_
  rintro _ rfl
  by_cases he : errN teams met false = 0
  case neg =>
    have e : nthE teams met k = errN teams met false := by unfold nthE; rw [if_pos he]
    have e2 : nthD teams met k = [] := by unfold nthD; rw [if_neg (by rw [e]; exact he)]
    simp [go_sem, he]
    exact hR _ _ _ rfl (by simp [go_sem, e, e2])
  obtain ⟨_, hn, _⟩ := errN_zero he
  simp [go_sem, he]
  refine (refAll_c teams met hm hn).call (by simp [go_sem]) ?_
  rintro _ rfl
  by_cases hk0 : k < 0
  · have e : nthE teams met k = 6 := by unfold nthE; rw [if_neg (by simp [he]), if_pos (.inl hk0)]
    have e2 : nthD teams met k = [] := by unfold nthD; rw [if_neg (by rw [e]; decide)]
    simp [go_sem, hk0]
    exact hR _ _ _ rfl (by simp [go_sem, e, e2])
  obtain ⟨K, rfl⟩ : ∃ K : Nat, k = K := ⟨k.toNat, by omega⟩
  by_cases hk1 : (drT met teams).length ≤ K
  · have e : nthE teams met K = 6 := by unfold nthE; rw [if_neg (by simp [he]), if_pos (.inr (by omega))]
    have e2 : nthD teams met K = [] := by unfold nthD; rw [if_neg (by rw [e]; decide)]
    simp [go_sem, hk0, hk1]
    exact hR _ _ _ rfl (by simp [go_sem, e, e2])
  have e : nthE teams met K = 0 := by unfold nthE; rw [if_neg (by simp [he]), if_neg (by omega)]
  have hK : K < (drT met teams).length := by omega
  have e2 : nthD teams met K = (drT met teams)[K] := by
    unfold nthD; rw [if_pos e]; simp [hK]
  simp [go_sem, hk0, hk1, hK]
  exact hR _ _ _ rfl (by simp [go_sem, e, e2])

theorem same_fun (a b : List (Int × Int)) (ha : a.length ≤ 2 ^ 32) : F36 50 [.fz 2 (prs a), .fz 2 (prs b)] (fun v => v = .bool (decide (a = b))) := by
  refine IFun.of_bodyZ false 6 [10, 14, 25] Tryd.func50 rfl Tryd.call50 rfl fun R hR => ?_
  by_cases hlen : a.length = b.length
  case neg =>
    have hI : ¬ (a.length : Int) = b.length := by omega
    have e : ¬ a = b := fun e => hlen (by rw [e])
    simp [go_sem, hlen, hI]
    exact hR _ _ _ rfl (by simp [go_sem, e])
  simp [go_sem, hlen]
  refine IWp.loopT (α := Nat) (fun i => (⟨false, 26, 6, [10, 14, 25], glT, [(0, .fz 2 (prs a)), (1, .fz 2 (prs b)), (5, .int .i64 (i : Int))], []⟩, []))
    (fun i => i ≤ a.length ∧ a.take i = b.take i) (fun i => a.length - i) 0 (by simp) (by simp [go_sem]) ?_
  rintro i ⟨hi, he⟩
  by_cases h : i < a.length
  · have h' : i < b.length := by omega
    have w1 : IntKind.i64.wrap ((i : Int) + 1) = i + 1 := wrap64 (by omega) (by omega)
    obtain ⟨p, hp⟩ : ∃ p, a[i] = p := ⟨_, rfl⟩
    obtain ⟨q, hq⟩ : ∃ q, b[i] = q := ⟨_, rfl⟩
    obtain ⟨x, y⟩ := p
    obtain ⟨z, u⟩ := q
    by_cases hxz : x = z ∧ y = u
    · obtain ⟨rfl, rfl⟩ := hxz
      simp [go_sem, h, h', hp, hq, w1]
      exact ⟨by decide +kernel, i + 1, by omega, ⟨by omega, by rw [List.take_succ_eq_append_getElem h, List.take_succ_eq_append_getElem h', he, hp, hq]⟩, by omega⟩
    · have e : ¬ a = b := fun e => by
        subst e
        rw [hp] at hq; cases hq
        exact hxz ⟨rfl, rfl⟩
      have hb : (x == z && y == u) = false := by rw [← Bool.not_eq_true]; simpa using hxz
      simp [go_sem, h, h', hp, hq, hb, hxz]
      exact ⟨by decide +kernel, hR _ _ _ rfl (by simp [go_sem, e])⟩
  · have e : a = b := by
      rw [List.take_of_length_le (by omega), List.take_of_length_le (by omega)] at he
      exact he
    simp [go_sem, h]
    exact hR _ _ _ rfl (by simp [go_sem, e])

theorem refNumber_fun (teams : List Int) (met draw : List (Int × Int)) (hl : teams.length ≤ 2 ^ 32) (hm : met.length ≤ 2 ^ 32) : F36 46 [.fz 1 (ints teams), .fz 2 (prs met), .fz 2 (prs draw)] (fun v => v = .tup [.int .i64 (nmbN teams met draw), .int .i64 (nmbE teams met draw)]) := by
  refine IFun.of_bodyZ false 11 [15, 23, 31] Tryd.func46 rfl Tryd.call46 rfl fun R hR => ?_
  simp [go_sem]
  refine (wrong_fun teams met false hl hm).call (by simp [go_sem]) ?_
  rintro _ rfl
  by_cases he : errN teams met false = 0
  case neg =>
    have e : nmbE teams met draw = errN teams met false := by unfold nmbE; rw [if_pos he]
    have e2 : nmbN teams met draw = 0 := by unfold nmbN; rw [if_pos he]
    simp [go_sem, he]
    exact hR _ _ _ rfl (by simp [go_sem, e, e2])
  obtain ⟨_, hn, _⟩ := errN_zero he
  simp [go_sem, he]
  refine (refAll_c teams met hm hn).call (by simp [go_sem]) ?_
  rintro _ rfl
  have hDl := drT_len (met := met) hn
  have hdd : ∀ d ∈ drT met teams, d.length ≤ 16 := fun d hd => by
    have := drs_len (ok := okT met) _ teams (Nat.le_refl _) d hd; omega
  have res : nmbE teams met draw = (match ix (drT met teams) draw with | some _ => 0 | none => 6) ∧ nmbN teams met draw = (match ix (drT met teams) draw with | some i => (i : Int) | none => 0) := by
    unfold nmbE nmbN; rw [if_neg (by simp [he]), if_neg (by simp [he])]; exact ⟨rfl, rfl⟩
  generalize drT met teams = L at *
  simp [go_sem]
  refine IWp.loopT (α := Nat) (fun i => (⟨false, 33, 11, [15, 23, 31], glT, [(2, .fz 2 (prs draw)), (9, .fz 1 (lls L)), (10, .int .i64 (i : Int))], []⟩, []))
    (fun i => i ≤ L.length ∧ ∀ j (hj : j < L.length), j < i → L[j] ≠ draw) (fun i => L.length - i) 0 ⟨by omega, by omega⟩ (by simp [go_sem]) ?_
  rintro i ⟨hi, hne⟩
  by_cases h : i < L.length
  · have w1 : IntKind.i64.wrap ((i : Int) + 1) = i + 1 := wrap64 (by omega) (by omega)
    obtain ⟨d, hd⟩ : ∃ d, L[i] = d := ⟨_, rfl⟩
    have hdl := hdd d (hd ▸ List.getElem_mem h)
    simp [go_sem, h, hd]
    refine (same_fun d draw (by omega)).call (by simp [go_sem]) ?_
    rintro _ rfl
    by_cases e : d = draw
    · have hx : ix L draw = some i := by
        obtain ⟨k, hk⟩ : ∃ k, ix L draw = some k := by
          cases hx : ix L draw with
          | some k => exact ⟨k, rfl⟩
          | none => exact absurd (e ▸ hd ▸ List.getElem_mem h) (ix_none.1 hx)
        obtain ⟨k1, k2⟩ := ix_some hk
        obtain ⟨k3, k4⟩ := List.getElem?_eq_some_iff.1 k1
        rcases Nat.lt_trichotomy i k with q | q | q
        · exact absurd (by rw [List.getElem?_eq_getElem h, hd, e]) (k2 i q)
        · rw [hk, q]
        · exact absurd k4 (hne k k3 q)
      rw [hx] at res
      simp [go_sem, e]
      exact hR _ _ _ rfl (by simp [go_sem, res])
    · simp [go_sem, e, w1]
      refine ⟨i + 1, by omega, ⟨by omega, fun j hj hji => ?_⟩, by omega⟩
      by_cases ej : j = i
      · subst ej; rw [hd]; exact e
      · exact hne j hj (by omega)
  · have hx : ix L draw = none := by
      rw [ix_none]
      intro hm
      obtain ⟨j, hj, e⟩ := List.mem_iff_getElem.1 hm
      exact hne j hj (by omega) e
    rw [hx] at res
    simp [go_sem, h]
    exact hR _ _ _ rfl (by simp [go_sem, res])
end Go.Idl
