/-
  Chapter 39: EventForward.
-/
import Derived.Test.YtamffdgopknkfaaDoorC39PartZA
import Derived.Test.YtamffdgopknkfaaDoorC39PartZQ
import Derived.Test.YtamffdgopknkfaaDoorC39PartZP
namespace Go.Idl
set_option linter.all false
open Go.Proofs
set_option maxHeartbeats 16000000
set_option maxRecDepth 40000

theorem clM_clamp {N M D : Int} (hN : 0 ≤ N ∧ N ≤ 8) (hM : 0 ≤ M ∧ M ≤ 100) : clM M (N * clampM D) = clM M (N * D) := by
  by_cases h0 : N = 0
  · subst h0; rw [Int.zero_mul, Int.zero_mul]
  unfold clampM
  rcases (by omega : D < -100000 ∨ 100000 < D ∨ (-100000 ≤ D ∧ D ≤ 100000)) with h | h | h
  · rw [if_pos h, if_neg (by decide)]
    have h1 := Int.mul_le_mul_of_nonneg_right (a := 1) (b := N) (c := 100000) (by omega) (by decide)
    have h2 := Int.mul_le_mul_of_nonneg_left (a := D) (b := -100000) (c := N) (by omega) (by omega)
    rw [Int.mul_neg] at *
    generalize N * D = u at *
    generalize N * 100000 = v at *
    unfold clM
    rw [if_neg (by omega), if_pos (by omega), if_neg (by omega), if_pos (by omega)]
  · rw [if_neg (show ¬ D < -100000 by omega), if_pos h]
    have h1 := Int.mul_le_mul_of_nonneg_right (a := 1) (b := N) (c := 100000) (by omega) (by decide)
    have h2 := Int.mul_le_mul_of_nonneg_left (a := 100000) (b := D) (c := N) (by omega) (by omega)
    generalize N * D = u at *
    generalize N * 100000 = v at *
    unfold clM
    rw [if_pos (by omega), if_pos (by omega)]
  · rw [if_neg (show ¬ D < -100000 by omega), if_neg (by omega)]
theorem carE_low {p : Pl} {l : List Em} {a b N M : Int} (hc : (chkR p l).2 = 0) (ha : 1 ≤ a ∧ a ≤ p.t) (hb : 1 ≤ b ∧ b ≤ p.t) (hN : 0 ≤ N ∧ N ≤ 8) (hM : 0 ≤ M ∧ M ≤ 100) :
    carE p l a b (lowF N 8) M = if a = b then (⟨0, 0⟩, 2) else (lowF (clM M (N * mgT a b l)) 8, 0) := by
  unfold carE
  rw [if_neg (by simp [hc])]
  by_cases h : a = b
  · rw [if_pos (by omega), if_pos h]
  · rw [if_neg (by omega), if_neg h]
    have hcl : -100000 ≤ clampM (mgT a b l) ∧ clampM (mgT a b l) ≤ 100000 := by unfold clampM; split <;> (try split) <;> omega
    rw [carryF_low N M _ hN (by omega) hcl, clM_clamp hN hM]
    rfl
theorem eventForward_fun (x : Sk) (hx : FitK x) (a b n most : Int) (ha : 0 ≤ a ∧ a < 256) (hb : 0 ≤ b ∧ b < 256) (hn : 0 ≤ n ∧ n < 256) (hm : 0 ≤ most ∧ most < 256) :
    FN 9 [.agg x.cells, .int .u8 a, .int .u8 b, .int .u8 n, .int .u8 most] (fun v => v = .bool true) := by
  refine IFun.of_bodyW false 34 [35, 79, 82, 101, 102, 103, 104, 116, 128, 150, 162] Tryd.func9 rfl Tryd.call9 rfl fun R hR => ?_
  have cm := made39_fun x hx
  obtain ⟨hf, he⟩ := bX_full hx.M
  have hP := hf.part he
  have hln := mX_len hx.M
  have hbd := pX_bd x
  have hlx : lX x = mB 0 (bX x) := rfl
  have hck : (chkR (pX x) (lX x)).2 = 0 := by rw [hlx, hP.chk]
  have hmr : ∀ m ∈ lX x, -1000000 ≤ m.m ∧ m.m ≤ 1000000 := fun m hm => by
    rw [hlx] at hm
    obtain ⟨j, r, h1, _, h3⟩ := mB_mem hm
    have := (hf.okr (List.mem_of_getElem? h1)).ok _ h3 |>.2
    simpa [mrB] using this
  have hN : 0 ≤ n % 9 ∧ n % 9 ≤ 8 := by omega
  have hM : 0 ≤ most % 101 ∧ most % 101 ≤ 100 := by omega
  have hlow := low_sml (u := n % 9) (N := 8) (by decide) (by decide) (by omega)
  have cc (i k : Int) := evCarry_fun (pX x) (lX x) i k (lowF (n % 9) 8) (most % 101) (argX (by omega)) (fun _ => hmr) ⟨by have := hlow.1; omega, by have := hlow.2.1; omega⟩ (by omega)
  have ce {i k : Int} (hi : 1 ≤ i ∧ i ≤ (pX x).t) (hk : 1 ≤ k ∧ k ≤ (pX x).t) := carE_low (p := pX x) (l := lX x) (a := i) (b := k) hck hi hk hN hM
  have ck1 := makeF_fun (n % 9) 8 (by omega) (by decide)
  rw [show mkF (n % 9) 8 = (lowF (n % 9) 8, 0) from mk_low (u := n % 9) (d := 8) (by decide) (by decide) (by omega)] at ck1
  have tmn : n.tmod 9 = n % 9 := Int.tmod_eq_emod_of_nonneg (by omega)
  have tmm : most.tmod 101 = most % 101 := Int.tmod_eq_emod_of_nonneg (by omega)
  have wn : IntKind.i64.wrap n = n := wrap64 (by omega) (by omega)
  have wm : IntKind.i64.wrap most = most := wrap64 (by omega) (by omega)
  have wa : IntKind.i64.wrap a = a := wrap64 (by omega) (by omega)
  have wb : IntKind.i64.wrap b = b := wrap64 (by omega) (by omega)
  clear hlow hP hck
  generalize n % 9 = N at *
  generalize most % 101 = M at *
  generalize hp : pX x = p at *
  generalize bX x = B at *
  generalize lX x = l at *
  have tma : a.tmod p.t = a % p.t := Int.tmod_eq_emod_of_nonneg (by omega)
  have tmb : b.tmod p.t = b % p.t := Int.tmod_eq_emod_of_nonneg (by omega)
  have a1 := Int.emod_nonneg a (b := p.t) (by omega)
  have a2 := Int.emod_lt_of_pos a (b := p.t) (by omega)
  have b1 := Int.emod_nonneg b (b := p.t) (by omega)
  have b2 := Int.emod_lt_of_pos b (b := p.t) (by omega)
  obtain ⟨I, hI⟩ : ∃ I, 1 + a % p.t = I := ⟨_, rfl⟩
  obtain ⟨K, hK⟩ : ∃ K, 1 + b % p.t = K := ⟨_, rfl⟩
  have wI : IntKind.i64.wrap (1 + a.tmod p.t) = I := by rw [tma, hI]; exact wrap64 (by omega) (by omega)
  have wK : IntKind.i64.wrap (1 + b.tmod p.t) = K := by rw [tmb, hK]; exact wrap64 (by omega) (by omega)
  have hI2 : 1 ≤ I ∧ I ≤ p.t := by omega
  have hK2 : 1 ≤ K ∧ K ≤ p.t := by omega
  have ht0 : ¬ p.t = 0 := by omega
  have c1 := cc I K
  have c2 := cc K I
  rw [ce hI2 hK2] at c1
  rw [ce hK2 hI2] at c2
  clear cc ce tma tmb a1 a2 b1 b2
  have hln2 : l.length ≤ 24 := hln.2.2.2.1
  simp only [Pl.v, Sk.cells, Frc.v] at *
  refine IWp.now ?_
  simp [go_sem]
  refine awake39_fun.callF (by simp [go_sem]) ?_
  rintro _ rfl
  simp [go_sem]
  refine cm.callF (by simp [go_sem]) ?_
  rintro _ rfl
  simp [go_sem, wa, wb, wn, wm, ht0, wI, wK, tmn, tmm]
  refine ⟨by decide +kernel, ?_⟩
  refine ck1.callF (by simp [go_sem]) ?_
  rintro _ rfl
  simp [go_sem, wm, tmm]
  refine c1.callF (by simp [go_sem]) ?_
  rintro _ rfl
  by_cases hIK : I = K
  · rw [if_pos hIK]
    subst hIK
    simp [go_sem]
    exact hR _ _ _ rfl (by simp [go_sem])
  have hIK' : (I == K) = false := by rw [beq_eq_false_iff_ne]; exact hIK
  have hKI : ¬ K = I := fun e => hIK e.symm
  rw [if_neg hKI] at c2
  rw [if_neg hIK]
  obtain ⟨D, hD⟩ : ∃ D, mgT I K l = D := ⟨_, rfl⟩
  have hD2 : mgT K I l = -D := by rw [← hD]; exact mgT_neg hIK l 0
  have hDb := mgT_bd (a := I) (b := K) (N := 1000000) (by decide) (l := l) (s := 0) hmr (by decide)
  rw [show l.foldl (mgT1 I K) 0 = D from hD] at hDb
  rw [hD2, Int.mul_neg, clM_neg hM.1] at c2
  rw [hD]
  have hu : -8000000 ≤ N * D ∧ N * D ≤ 8000000 := by
    have h1 := Int.mul_le_mul_of_nonneg_left (a := -1000000) (b := D) (c := N) hDb.1 hN.1
    have h2 := Int.mul_le_mul_of_nonneg_right (a := N) (b := 8) (c := 1000000) hN.2 (by decide)
    have h3 := Int.mul_le_mul_of_nonneg_left (a := D) (b := 1000000) (c := N) hDb.2 hN.1
    omega
  obtain ⟨u, hU⟩ : ∃ u, N * D = u := ⟨_, rfl⟩
  rw [hU] at hu
  have hcb := clM_bd (M := M) (u := u) hM.1
  have cs := addL_fun (clM M (N * D)) (-clM M (N * D)) (by rw [hU]; omega) (by rw [hU]; omega)
  rw [show clM M (N * D) + -clM M (N * D) = 0 by omega, lowF_zero (by decide)] at cs
  simp only [Frc.v] at cs
  simp [go_sem, hIK, hIK']
  refine c2.callF (by simp [go_sem]) ?_
  rintro _ rfl
  simp [go_sem]
  refine cs.callF (by simp [go_sem]) ?_
  rintro _ rfl
  simp [go_sem]
  rw [hU]
  obtain ⟨F, hF⟩ : ∃ F : Nat → Int, ∀ i, F i = (l.take i).foldl (mgT1 I K) 0 := ⟨_, fun _ => rfl⟩
  have f0 : F 0 = 0 := by rw [hF]; rfl
  have fl : F l.length = D := by rw [hF, List.take_length]; exact hD
  have fs : ∀ i (hi : i < l.length), F (i + 1) = mgT1 I K (F i) l[i] := fun i hi => by rw [hF, hF, List.take_succ_eq_append_getElem hi, List.foldl_append]; rfl
  clear hF
  refine IWp.shut fun Q hQ => ?_
  refine IWp.loopI (α := Nat) (fun i => (⟨false, 184, 34, [35, 79, 82, 101, 102, 103, 104, 116, 128, 150, 162], glT, [(3, .int .u8 n), (14, .int .i64 I), (15, .int .i64 K), (18, .int .i64 M), (19, .ptr 3 1 0 0), (20, .int .i64 0), (22, .int .i64 0), (23, .ptr 5 1 0 0), (24, .int .i64 0), (25, .int .i64 (F i)), (101, .fz 4 (ems l)), (102, .int .i64 l.length), (103, .int .i64 (i : Int))], []⟩, [.dead, .dead, .dead, .rows 2 [[.int .i64 (lowF (clM M u) 8).num, .int .i64 (lowF (clM M u) 8).den]], .dead, .rows 2 [[.int .i64 0, .int .i64 1]]]))
    (fun i => i ≤ l.length) (fun i => l.length - i) 0 (by omega) (by simp [go_sem, f0]) ?_
  intro i hi
  by_cases hil : i < l.length
  · have wi : IntKind.i64.wrap ((i : Int) + 1) = i + 1 := wrap64 (by omega) (by omega)
    have hmi := hmr l[i] (List.getElem_mem hil)
    have hfs := fs i hil
    obtain ⟨m, hmm⟩ : ∃ m, l[i] = m := ⟨_, rfl⟩
    rw [hmm] at hmi hfs
    obtain ⟨m1, m2, m3, m4⟩ := m
    simp only [mgT1] at hmi hfs
    have wm4 : IntKind.i64.wrap (-m4) = -m4 := wrap64 (by omega) (by omega)
    refine IWp.now ?_
    by_cases d1 : m2 = I
    · have d3 : ¬ m2 = K := fun e => hIK (by rw [← d1, e])
      have d3' : ¬ I = K := hIK
      by_cases d2 : m3 = K
      · rw [if_pos ⟨d1, d2⟩] at hfs
        simp [go_sem, hil, hmm, d1, d2, d3', hIK', wi]
        exact ⟨i + 1, ⟨by rw [hfs], by omega⟩, by omega, by omega⟩
      · rw [if_neg (fun h => d2 h.2), if_neg (fun h => d3 h.1)] at hfs
        simp [go_sem, hil, hmm, d1, d2, d3', hIK', wi]
        exact ⟨i + 1, ⟨by rw [hfs], by omega⟩, by omega, by omega⟩
    · rw [if_neg (fun h => d1 h.1)] at hfs
      by_cases d3 : m2 = K
      · have d5 : ¬ K = I := hKI
        by_cases d4 : m3 = I
        · rw [if_pos ⟨d3, d4⟩] at hfs
          simp [go_sem, hil, hmm, d3, d4, d5, wi, wm4]
          exact ⟨i + 1, ⟨by rw [hfs], by omega⟩, by omega, by omega⟩
        · rw [if_neg (fun h => d4 h.2)] at hfs
          simp [go_sem, hil, hmm, d3, d4, d5, wi]
          exact ⟨i + 1, ⟨by rw [hfs], by omega⟩, by omega, by omega⟩
      · rw [if_neg (fun h => d3 h.1)] at hfs
        simp [go_sem, hil, hmm, d1, d3, wi]
        exact ⟨i + 1, ⟨by rw [hfs], by omega⟩, by omega, by omega⟩
  obtain rfl : i = l.length := by omega
  rw [fl]
  have wu : IntKind.i64.wrap (N * D) = u := by rw [hU]; exact wrap64 (by omega) (by omega)
  have wnM : IntKind.i64.wrap (-M) = -M := wrap64 (by omega) (by omega)
  have w0 : IntKind.i64.wrap 0 = 0 := by decide
  have ck2 := makeF_fun u 8 (by omega) (by decide)
  rw [show mkF u 8 = (lowF u 8, 0) from mk_low (u := u) (d := 8) (by decide) (by decide) (by omega)] at ck2
  have sml := low_sml (u := u) (N := 8) (by decide) (by decide) (by omega)
  have cp1 := cmpG_fun (lowF u 8) (whF M) ⟨by have := sml.1; omega, by have := sml.2.1; omega⟩ (whF_fit (by omega))
  rw [cmpR_low] at cp1
  have cp2 := cmpG_fun (lowF u 8) (whF (-M)) ⟨by have := sml.1; omega, by have := sml.2.1; omega⟩ (whF_fit (by omega))
  rw [cmpR_low] at cp2
  have cp3 := cmpG_fun (whF M) (whF (-M)) (whF_fit (by omega)) (whF_fit (by omega))
  rw [whF_low M, cmpR_low, ← whF_low M] at cp3
  simp only [Frc.v] at ck2
  refine IWp.now ?_
  simp [go_sem]
  rw [hQ]
  simp [go_sem, wn, tmn, wu]
  refine ck2.callF (by simp [go_sem]) ?_
  rintro _ rfl
  by_cases k1 : 8 * M < u
  · rw [if_neg (show ¬ u < 8 * M by omega), if_pos k1] at cp1
    have e0 : lowF (clM M u) 8 = whF M := by unfold clM; rw [if_pos k1, whF_low]
    rw [e0]
    by_cases k2 : 0 < M
    · rw [if_neg (show ¬ 8 * M < 8 * -M by omega), if_pos (show 8 * -M < 8 * M by omega)] at cp3
      simp only [Frc.v, whF] at *
      simp [go_sem]
      refine cp1.callF (by simp [go_sem]) ?_
      rintro _ rfl
      simp [go_sem, wnM]
      refine cp3.callF (by simp [go_sem]) ?_
      rintro _ rfl
      simp [go_sem, w0]
      exact hR _ _ _ rfl (by simp [go_sem])
    · have hM0 : M = 0 := by omega
      subst hM0
      rw [if_neg (by decide), if_neg (by decide)] at cp3
      simp only [Frc.v, whF] at *
      simp [go_sem]
      refine cp1.callF (by simp [go_sem]) ?_
      rintro _ rfl
      simp [go_sem, w0]
      refine cp3.callF (by simp [go_sem]) ?_
      rintro _ rfl
      simp [go_sem, w0]
      exact hR _ _ _ rfl (by simp [go_sem])
  · obtain ⟨c, hc, hc0⟩ : ∃ c : Int, (if u < 8 * M then (-1 : Int) else if 8 * M < u then 1 else 0) = c ∧ ¬ 0 < c := by
      by_cases k2 : u < 8 * M
      · exact ⟨-1, by rw [if_pos k2], by decide⟩
      · exact ⟨0, by rw [if_neg k2, if_neg k1], by decide⟩
    rw [hc] at cp1
    by_cases k3 : u < 8 * -M
    · rw [if_pos k3] at cp2
      have e0 : lowF (clM M u) 8 = whF (-M) := by unfold clM; rw [if_neg k1, if_pos (by omega), whF_low]; congr 1; omega
      rw [e0]
      generalize lowF u 8 = G at *
      simp only [Frc.v, whF] at *
      simp [go_sem]
      refine cp1.callF (by simp [go_sem]) ?_
      rintro _ rfl
      simp [go_sem, hc0, wnM]
      refine cp2.callF (by simp [go_sem]) ?_
      rintro _ rfl
      simp [go_sem, w0, wnM]
      exact hR _ _ _ rfl (by simp [go_sem])
    · obtain ⟨e, he2, he0⟩ : ∃ e : Int, (if u < 8 * -M then (-1 : Int) else if 8 * -M < u then 1 else 0) = e ∧ ¬ e < 0 := by
        by_cases k4 : 8 * -M < u
        · exact ⟨1, by rw [if_neg k3, if_pos k4], by decide⟩
        · exact ⟨0, by rw [if_neg k3, if_neg k4], by decide⟩
      rw [he2] at cp2
      have e0 : lowF (clM M u) 8 = lowF u 8 := by unfold clM; rw [if_neg k1, if_neg (by omega)]
      rw [e0]
      generalize lowF u 8 = G at *
      simp only [Frc.v, whF] at *
      simp [go_sem]
      refine cp1.callF (by simp [go_sem]) ?_
      rintro _ rfl
      simp [go_sem, hc0, wnM]
      refine cp2.callF (by simp [go_sem]) ?_
      rintro _ rfl
      simp [go_sem, w0, he0]
      exact hR _ _ _ rfl (by simp [go_sem])
theorem eventForward_law (q : {x : Sk // FitK x}) (a b n m : Int) (h1 : (Lit.int .u8 a).wf = true) (h2 : (Lit.int .u8 b).wf = true) (h3 : (Lit.int .u8 n).wf = true) (h4 : (Lit.int .u8 m).wf = true) :
    FN 9 [.agg [.int .u8 q.1.a, .int .u8 q.1.b, .int .u8 q.1.c, .fz 1 (bys .u8 q.1.L), .fz 1 (bys .i8 q.1.M)], .int .u8 a, .int .u8 b, .int .u8 n, .int .u8 m] (fun v => v = .bool true) := eventForward_fun q.1 q.2 a b n m (wf8 h1) (wf8 h2) (wf8 h3) (wf8 h4)
end Go.Idl
