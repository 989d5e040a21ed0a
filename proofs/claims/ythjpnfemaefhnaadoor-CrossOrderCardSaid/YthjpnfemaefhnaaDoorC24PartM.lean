/-
  Chapter 24: CrossOrder.
-/
import Derived.Test.YthjpnfemaefhnaaDoorC24PartK
import Derived.Test.YthjpnfemaefhnaaDoorC24PartL
namespace Go.Idl
set_option linter.all false
open Go.Proofs Go.RowKit
set_option maxHeartbeats 16000000
set_option maxRecDepth 40000

theorem Drawn_shut {P : Program} {ops : List Oper} {e : Env} {σ : Heap} {Q0 : XPost} (h : ∀ Q, Q = Q0 → Drawn P ops Q e σ) : Drawn P ops Q0 e σ := h _ rfl
theorem crossOrder_fun (l : List Int) (d : Int) (hl : l.length < 2 ^ 63) (hb : ∀ x ∈ l, -32768 ≤ x ∧ x ≤ 32767) (hd : 0 ≤ d ∧ d < 256) : FN 8 [.fz 1 (bys .i16 l), .int .u8 d] (fun v => v = .bool true) := by
  refine IFun.of_bodyZ false 28 [31, 32, 33, 49, 157, 159, 160, 161, 198, 200, 201, 202, 285] Tryd.func8 rfl Tryd.call8 rfl fun R hR => ?_
  have cs := scores_fun l hl hb
  have hSl := scrL_len l
  have hSb := scrL_rng l
  rw [show (l.take 24).map scoreI = scrL l from rfl] at cs
  generalize scrL l = S at *
  have eS := exE_of hSl hSb
  obtain ⟨n, hn⟩ : ∃ n, S.length = n := ⟨_, rfl⟩
  simp [go_sem]
  refine cs.callF (by simp [go_sem]) ?_
  rintro _ rfl
  simp [go_sem, hn]
  refine IWp.ownNilS 1 6 (by decide) rfl ?_
  refine IWp.shut fun Q hQ => ?_
  refine IWp.loopT (α := Nat) (fun i => (⟨false, 289, 28, [31, 32, 33, 49, 157, 159, 160, 161, 198, 200, 201, 202, 285], glT, [(1, .int .u8 d), (5, .fz 1 (ints S)), (6, .sl 0 i 0 i none), (31, .int .i64 n), (32, .int .i64 (i : Int))], []⟩, [.rows 1 (ints (S.reverse.take i))]))
    (fun i => i ≤ n) (fun i => n - i) 0 (by simp) (by simp [go_sem]) ?_
  intro i hi
  by_cases h : i < n
  · have v1 : IntKind.i64.wrap ((i : Int) + 1) = i + 1 := wrap64 (by omega) (by omega)
    have v2 : IntKind.i64.wrap ((n : Int) - 1) = ((n - 1 : Nat) : Int) := by rw [wrap64 (by omega) (by omega)]; omega
    obtain ⟨j, hj⟩ : ∃ j, n - 1 - i = j := ⟨_, rfl⟩
    have v3 : IntKind.i64.wrap (((n - 1 : Nat) : Int) - i) = (j : Int) := by rw [wrap64 (by omega) (by omega)]; omega
    have hjn : j < n := by omega
    have hs : S.reverse.take (i + 1) = S.reverse.take i ++ [S.getD j 0] := by
      have hir : i < S.reverse.length := by simp; omega
      rw [List.take_succ_eq_append_getElem hir, List.getElem_reverse]
      congr 2
      have : S.length - 1 - i = j := by omega
      have hjS : j < S.length := by omega
      simp [this, hjS]
    have e1 := ints_at' (l := S) (i := j) (by omega)
    have hjS : j < S.length := by omega
    have hSj : S[j] = S.getD j 0 := by simp [hjS]
    have h' : (i : Int) < n := by omega
    generalize S.getD j 0 = y at *
    simp [go_sem, h, h', v1, v2, v3, hn, hjn, e1, hSj]
    refine ⟨by omega, i + 1, ?_, by omega, by omega⟩
    rw [hs, ints_snoc]
    simp
  · obtain rfl : i = n := by omega
    rw [show S.reverse.take i = S.reverse from List.take_of_length_le (by simp; omega)]
    simp [go_sem]
    rw [hQ]
    simp only [blockQ_exit, if_pos, thenQ_normal, yC_seq]
    refine yC_shut fun Q2 hQ2 => ?_
    simp [go_sem]
    rw [hQ2]
    simp only [thenQ_normal]
    rw [yC_seq]
    refine yC_shut fun Q3 hQ3 => ?_
    have key : ∀ (k : Nat) (b : Bool), (0 < i → 2 * k < i) → Q3 .normal ⟨false, 289, 28, [31, 32, 33, 49, 157, 159, 160, 161, 198, 200, 201, 202, 285], glT, [(1, .int .u8 d), (5, .fz 1 (ints S)), (6, .sl 0 i 0 i none), (31, .int .i64 i), (32, .int .i64 i), (33, .bool false), (8, .int .i64 (k : Int)), (49, .bool b)], []⟩ [.rows 1 (ints S.reverse)] := by
      intro k b hk
      have eT : exE S.reverse = 0 := by rw [exE_rev, eS]
      have cC1 := cross_fun S (by omega)
      have cC2 := cross_fun S.reverse (by simp; omega)
      have cP1 := plain_fun S (by omega)
      have cP2 := plain_fun S.reverse (by simp; omega)
      have cB1 := butler_fun S k (by omega)
      have cB2 := butler_fun S.reverse k (by simp; omega)
      rw [eS, show crossR S = crossL S by unfold crossR; rw [if_pos eS]] at cC1
      rw [eT, show crossR S.reverse = (crossL S).reverse by unfold crossR; rw [if_pos eT, crossL_rev]] at cC2
      rw [eS, show plainR S = plainL S S.sum by unfold plainR; rw [if_pos eS]] at cP1
      rw [eT, show plainR S.reverse = (plainL S S.sum).reverse by unfold plainR; rw [if_pos eT, plainL_rev]] at cP2
      rw [butR_rev, datE_rev] at cB2
      have hE0 : (datE S k = 0) = (0 < i) := by
        apply propext
        constructor
        · intro h
          by_cases h0 : 0 < i
          · exact h0
          · have : S = [] := List.length_eq_zero_iff.1 (by omega)
            subst this
            unfold datE at h
            rw [if_neg (by simp [eS]), if_pos (.inr (.inl rfl))] at h
            cases h
        · intro h0
          exact datE_good hSl hSb (by omega) (by have := hk h0; omega)
      have hCl : (butR S k).length = i := by
        unfold butR
        split
        · simp; omega
        · rename_i h
          rw [hE0] at h
          simp; omega
      have hCa : ∀ a (h1 : a < (butR S k).length) (h2 : a < S.length), (butR S k)[a] = impI (S[a] - datI S k) := fun a h1 h2 => by
        have : datE S k = 0 := by rw [hE0]; omega
        have e : butR S k = butlerL S (datI S k) := by unfold butR; rw [if_pos this]
        simp only [e]
        exact butlerL_at h2
      have hAa : ∀ a (h1 : a < (crossL S).length) (h2 : a < S.length), (crossL S)[a] = fS S S[a] := fun a _ h2 => crossL_at h2
      have hPa : ∀ a (h1 : a < (plainL S S.sum).length) (h2 : a < S.length), (plainL S S.sum)[a] = plainF S S.sum S[a] := fun a _ h2 => plainL_at h2
      have hAl : (crossL S).length = i := by simp [hn]
      have hPl : (plainL S S.sum).length = i := by simp [hn]
      generalize datE S k = E at *
      generalize datI S k = D at *
      generalize crossL S = A at *
      generalize plainL S S.sum = P at *
      generalize butR S k = C at *
      have hcut : cutR 0 i (ints S.reverse) = ints S.reverse := cutR_all (by simp [hn])
      have i0 : ((0 : Int) < i) = (0 < i) := by simp
      rw [hQ3]
      simp [go_sem]
      refine cC1.callF (by simp [go_sem]) ?_
      rintro _ rfl
      simp [go_sem]
      refine cP1.callF (by simp [go_sem]) ?_
      rintro _ rfl
      simp [go_sem]
      refine cB1.callF (by simp [go_sem]) ?_
      rintro _ rfl
      simp [go_sem]
      refine cC2.callF (by simp [go_sem, hcut, hn]) ?_
      rintro _ rfl
      simp [go_sem]
      refine cP2.callF (by simp [go_sem, hcut, hn]) ?_
      rintro _ rfl
      simp [go_sem]
      refine cB2.callF (by simp [go_sem, hcut, hn]) ?_
      rintro _ rfl
      simp [go_sem, hn, hAl, hPl, hCl, hE0]
      have hEb : (E == 0) = decide (0 < i) := by
        by_cases h0 : 0 < i
        · have : E = 0 := by rw [hE0]; exact h0
          simp [this, h0]
        · have : ¬ E = 0 := by rw [hE0]; exact h0
          simp [this, h0]
      rw [if_pos hEb]
      have hXa : ∀ a m (h1 : a < A.reverse.length) (h2 : m < A.length), a = i - 1 - m → A.reverse[a] = A[m] := fun a m h1 h2 e => by
        rw [List.getElem_reverse]; congr 1; omega
      have hYa : ∀ a m (h1 : a < P.reverse.length) (h2 : m < P.length), a = i - 1 - m → P.reverse[a] = P[m] := fun a m h1 h2 e => by
        rw [List.getElem_reverse]; congr 1; omega
      have hZa : ∀ a m (h1 : a < C.reverse.length) (h2 : m < C.length), a = i - 1 - m → C.reverse[a] = C[m] := fun a m h1 h2 e => by
        rw [List.getElem_reverse]; congr 1; omega
      have hXl : A.reverse.length = i := by rw [List.length_reverse]; exact hAl
      have hYl : P.reverse.length = i := by rw [List.length_reverse]; exact hPl
      have hZl : C.reverse.length = i := by rw [List.length_reverse]; exact hCl
      generalize A.reverse = X at *
      generalize P.reverse = Y at *
      generalize C.reverse = Z at *
      clear cC1 cC2 cP1 cP2 cB1 cB2
      refine IWp.loopT (α := Nat) (fun m => (⟨false, 289, 28, [31, 32, 33, 49, 157, 159, 160, 161, 198, 200, 201, 202, 285], glT, [(5, .fz 1 (ints S)), (9, .fz 2 (frs A)), (11, .fz 2 (frs P)), (13, .fz 1 (ints C)), (15, .fz 2 (frs X)), (17, .fz 2 (frs Y)), (19, .fz 1 (ints Z)), (159, .int .i64 i), (160, .int .i64 (m : Int))], []⟩, [.rows 1 (ints S.reverse)]))
        (fun m => m ≤ i) (fun m => i - m) 0 (by simp) (by simp [go_sem]) ?_
      intro m hm
      by_cases hmi : m < i
      · have v1 : IntKind.i64.wrap ((m : Int) + 1) = m + 1 := wrap64 (by omega) (by omega)
        have v2 : IntKind.i64.wrap ((i : Int) - 1) = ((i - 1 : Nat) : Int) := by rw [wrap64 (by omega) (by omega)]; omega
        obtain ⟨j, hj⟩ : ∃ j, i - 1 - m = j := ⟨_, rfl⟩
        have v3 : IntKind.i64.wrap (((i - 1 : Nat) : Int) - m) = (j : Int) := by rw [wrap64 (by omega) (by omega)]; omega
        have hji : j < i := by omega
        have x1 := hXa j m (by omega) (by omega) (by omega)
        have x2 := hYa j m (by omega) (by omega) (by omega)
        have x3 := hZa j m (by omega) (by omega) (by omega)
        have hmi' : (m : Int) < i := by omega
        simp [go_sem, hn, hmi, hmi', v1, v2, v3, hji, hAl, hPl, hCl, hXl, hYl, hZl, x1, x2, x3]
        refine ⟨by decide +kernel, ?_⟩
        have hmA : m < A.length := by omega
        have hmP : m < P.length := by omega
        have hmC : m < C.length := by omega
        have hmS : m < S.length := by omega
        have hi0 : 0 < S.length := by omega
        have am := hAa m hmA hmS
        have pm := hPa m hmP hmS
        have cm := hCa m hmC hmS
        have bm := hSb S[m] (List.getElem_mem hmS)
        refine IWp.loopT (α := Nat) (fun j => (⟨false, 289, 28, [31, 32, 33, 49, 157, 159, 160, 161, 198, 200, 201, 202, 285], glT, [(5, .fz 1 (ints S)), (9, .fz 2 (frs A)), (11, .fz 2 (frs P)), (13, .fz 1 (ints C)), (15, .fz 2 (frs X)), (17, .fz 2 (frs Y)), (19, .fz 1 (ints Z)), (21, .int .i64 (m : Int)), (159, .int .i64 i), (160, .int .i64 (m : Int)), (200, .int .i64 i), (201, .int .i64 (j : Int))], []⟩, [.rows 1 (ints S.reverse)]))
          (fun j => j ≤ i) (fun j => i - j) 0 (by simp) (by simp [go_sem]) ?_
        clear x1 x2 x3 hXa hYa hZa hXl hYl hZl hQ hQ2 hQ3 cs hcut
        intro t ht
        by_cases hti : t < i
        · have v4 : IntKind.i64.wrap ((t : Int) + 1) = t + 1 := wrap64 (by omega) (by omega)
          have htA : t < A.length := by omega
          have htP : t < P.length := by omega
          have htC : t < C.length := by omega
          have htS : t < S.length := by omega
          have at' := hAa t htA htS
          have pt := hPa t htP htS
          have ct := hCa t htC htS
          have bt := hSb S[t] (List.getElem_mem htS)
          have f1 := fS_sml hSl hSb (x := S[m]) hi0
          have f2 := fS_sml hSl hSb (x := S[t]) hi0
          have g1 := plainF_sml hSl hSb (x := S[m]) hi0 bm
          have g2 := plainF_sml hSl hSb (x := S[t]) hi0 bt
          have c1 := cmp_fun A[m] A[t] (by rw [am]; exact f1) (by rw [at']; exact f2)
          have c2 := cmp_fun P[m] P[t] (by rw [pm]; exact g1) (by rw [pt]; exact g2)
          have r1 := cmpI_rng A[m] A[t]
          have r2 := cmpI_rng P[m] P[t]
          obtain ⟨V1, hV1⟩ : ∃ V, cmpI A[m] A[t] = V := ⟨_, rfl⟩
          obtain ⟨V2, hV2⟩ : ∃ V, cmpI P[m] P[t] = V := ⟨_, rfl⟩
          rw [hV1] at c1 r1
          rw [hV2] at c2 r2
          simp only [Frc.v] at c1 c2
          have hti' : (t : Int) < i := by omega
          simp [go_sem, hti, hti']
          refine Drawn.intro (fun k => if k = 8 then .tup [.int .i64 V1, .int .i64 0] else .tup []) ?_
          simp [go_sem, hAl, hmi, hti, c1]
          refine ⟨by decide +kernel, ?_⟩
          refine Drawn_shut fun Q7 hQ7 => ?_
          refine Drawn.intro (fun k => if k = 8 then .tup [.int .i64 V2, .int .i64 0] else .tup []) ?_
          simp [go_sem, hPl, hmi, hti, c2]
          refine ⟨by decide +kernel, ?_⟩
          rw [hQ7]
          simp only [thenQ_normal]
          have hgt : S[t] < S[m] → 0 ≤ V1 ∧ V2 = 1 ∧ C[t] ≤ C[m] := fun h => by
            refine ⟨?_, ?_, ?_⟩
            · rw [← hV1, am, at']; exact fS_cmp hSl hSb hi0 (by omega)
            · rw [← hV2, pm, pt]; exact plainF_cmp hSl hSb hi0 bm bt h
            · rw [cm, ct]; exact impI_mono (by omega)
          have heq : S[m] = S[t] → V1 = 0 ∧ V2 = 0 ∧ C[m] = C[t] := fun h => by
            refine ⟨?_, ?_, ?_⟩
            · rw [← hV1, am, at', h]; exact cmpI_self _
            · rw [← hV2, pm, pt, h]; exact cmpI_self _
            · rw [cm, ct, h]
          clear am pm cm bm at' pt ct bt f1 f2 g1 g2 c1 c2 hV1 hV2
          obtain ⟨sm, hsm⟩ : ∃ s, S[m] = s := ⟨_, rfl⟩
          obtain ⟨st, hst⟩ : ∃ s, S[t] = s := ⟨_, rfl⟩
          obtain ⟨zm, hzm⟩ : ∃ s, C[m] = s := ⟨_, rfl⟩
          obtain ⟨zt, hzt⟩ : ∃ s, C[t] = s := ⟨_, rfl⟩
          rw [hsm, hst, hzm, hzt] at hgt heq
          rcases (by omega : st < sm ∨ sm = st ∨ sm < st) with h1 | h1 | h1
          · obtain ⟨k1, rfl, k2⟩ := hgt h1
            have k3 : ¬ sm = st := by omega
            have k4 : ¬ V1 < 0 := by omega
            have k5 : ¬ zm < zt := by omega
            simp [go_sem, hCl, hn, hmi, hti, hsm, hst, hzm, hzt, h1, k3, k4, k5, v4]
            refine ⟨by decide +kernel, ?_⟩
            exact ⟨t + 1, by omega, by omega, by omega⟩
          · subst h1
            obtain ⟨rfl, rfl, rfl⟩ := heq rfl
            simp [go_sem, hCl, hn, hmi, hti, hsm, hst, hzm, hzt, v4]
            refine ⟨by decide +kernel, ?_⟩
            exact ⟨t + 1, by omega, by omega, by omega⟩
          · have k3 : ¬ sm = st := by omega
            have k4 : ¬ st < sm := by omega
            simp [go_sem, hCl, hn, hmi, hti, hsm, hst, hzm, hzt, k3, k4, v4]
            refine ⟨by decide +kernel, ?_⟩
            exact ⟨t + 1, by omega, by omega, by omega⟩
        · obtain rfl : t = i := by omega
          simp [go_sem, v1]
          exact ⟨m + 1, by omega, by omega, by omega⟩
      · obtain rfl : m = i := by omega
        simp [go_sem]
        refine awake24_fun.callF (by simp [go_sem]) ?_
        rintro _ rfl
        simp [go_sem]
        exact hR _ _ _ rfl (by simp [go_sem])
    by_cases h0 : i = 0
    · have := key 0 false (by omega)
      simp [go_sem, hn, h0]
      subst h0
      exact this
    · have w1 : IntKind.i64.wrap d = d := wrap64 (by omega) (by omega)
      have w2 : IntKind.i64.wrap ((i : Int) + 1) = i + 1 := wrap64 (by omega) (by omega)
      have d1 : ((i : Int) + 1).tdiv 2 = (i + 1) / 2 := Int.tdiv_eq_ediv_of_nonneg (by omega)
      obtain ⟨q, hq⟩ : ∃ q : Nat, ((i : Int) + 1) / 2 = q := ⟨(i + 1) / 2, by omega⟩
      have w3 : IntKind.i64.wrap (q : Int) = q := wrap64 (by omega) (by omega)
      have hq0 : ¬ (q : Int) = 0 := by omega
      have hq0' : ¬ q = 0 := by omega
      have d2 : d.tmod q = d % q := Int.tmod_eq_emod_of_nonneg (by omega)
      have m1 := Int.emod_nonneg d hq0
      have m2 := Int.emod_lt_of_pos d (show (0 : Int) < q by omega)
      obtain ⟨k, hk⟩ : ∃ k : Nat, d % (q : Int) = k := ⟨(d % (q : Int)).toNat, by omega⟩
      rw [hk] at m2 d2
      have := key k true (by omega)
      have i0 : 0 < i := by omega
      simp [go_sem, hn, i0, w1, w2, d1, hq, w3, hq0, hq0', d2]
      exact this
theorem crossOrder_law (l : List Int) (d : Int) (h0 : ∀ x ∈ l, (Lit.int .i16 x).wf = true) (h1 : l.length ≤ maxLen) (h2 : (Lit.int .u8 d).wf = true) : FN 8 [.fz 1 (bys .i16 l), .int .u8 d] (fun v => v = .bool true) :=
  crossOrder_fun l d (by unfold maxLen at h1; omega) (fun x hx => bounds_i16 (h0 x hx)) (wf8 h2)
end Go.Idl
