/-
  Chapter 27: WebLoads.
-/
import Derived.Test.YtjmjdjdabmlgeaaC27PartX
import Derived.Test.YtjmjdjdabmlgeaaC27PartG
import Derived.Test.YtjmjdjdabmlgeaaC27PartN
namespace Go.Idl
set_option linter.all false
open Go.Proofs
set_option maxHeartbeats 16000000
set_option maxRecDepth 40000

theorem less_fun (a b : Int) : FN 50 [.int .i64 a, .int .i64 b] (fun v => v = .bool (decide (a < b))) := by
  refine IFun.of_bodyZ false 5 [] Try.func50 rfl Try.call50 rfl fun R hR => ?_
  simp [go_sem]
  refine (isNaNI_fun a).callF (by simp [go_sem]) ?_
  rintro _ rfl
  simp [go_sem]
  exact hR _ _ _ rfl (by simp [go_sem])
theorem isSorted_fun (l : List Int) (hs : l.Pairwise (· ≤ ·)) (hl : l.length ≤ 2 ^ 40) : FN 25 [.fz 1 (ints l)] (fun v => v = .bool true) := by
  refine IFun.of_bodyZ false 4 [8, 20] Try.func25 rfl Try.call25 rfl fun R hR => ?_
  have w0 : IntKind.i64.wrap ((l.length : Int) - 1) = (l.length : Int) - 1 := wrap64 (by omega) (by omega)
  simp [go_sem, w0]
  refine IWp.loopT (α := Int) (fun z => (⟨false, 21, 4, [8, 20], [], [(0, .fz 1 (ints l)), (3, .int .i64 z)], []⟩, []))
    (fun z => -1 ≤ z ∧ z < l.length) (fun z => z.toNat) ((l.length : Int) - 1) (by omega) (by simp [go_sem]) ?_
  rintro z ⟨h1, h2⟩
  by_cases h : 0 < z
  · obtain ⟨i, hi⟩ : ∃ i : Nat, z = (i : Int) + 1 := ⟨z.toNat - 1, by omega⟩
    subst hi
    have v1 : IntKind.i64.wrap ((i : Int) + 1 - 1) = i := by rw [wrap64 (by omega) (by omega)]; omega
    have hi1 : i + 1 < l.length := by omega
    have hle := List.pairwise_iff_getElem.1 hs i (i + 1) (by omega) hi1 (by omega)
    obtain ⟨x, hx⟩ : ∃ x, l[i] = x := ⟨_, rfl⟩
    obtain ⟨y, hy⟩ : ∃ y, l[i + 1] = y := ⟨_, rfl⟩
    rw [hx, hy] at hle
    have cl := less_fun y x
    rw [show decide (y < x) = false by simp; omega] at cl
    have hi1' : (i : Int) + 1 < l.length := by omega
    have v2 : IntKind.i64.wrap (i : Int) = i := wrap64 (by omega) (by omega)
    have p1 : (0 : Int) ≤ (i : Int) + 1 := by omega
    have p2 : (i : Int) < l.length := by omega
    have p3 : i < l.length := by omega
    have qx : (ints l)[i]?.getD [] = [.int .i64 x] := by rw [List.getElem?_eq_getElem (by simpa using p3), Option.getD_some, ints_getElem, hx]
    have qy : (ints l)[i + 1]?.getD [] = [.int .i64 y] := by rw [List.getElem?_eq_getElem (by simpa using hi1), Option.getD_some, ints_getElem, hy]
    simp [go_sem, h]
    refine Drawn.intro (fun k => if k = 9 then .bool false else .tup []) ?_
    simp [go_sem, h, v1, v2, p1, p2, p3, hi1, hi1', qx, qy, cl]
    refine ⟨.inl (by rw [hy, hx]; exact cl), by decide +kernel, ?_⟩
    omega
  · simp [go_sem, h]
    exact hR _ _ _ rfl (by simp [go_sem])
theorem webLoads_fun (t r k a w : Int) (ht : 0 ≤ t ∧ t < 256) (hr : 0 ≤ r ∧ r < 256) (hk : 0 ≤ k ∧ k < 256) (ha : 0 ≤ a ∧ a < 256) (hw : 0 ≤ w ∧ w < 256) : FN 10 [.int .u8 t, .int .u8 r, .int .u8 k, .int .u8 a, .int .u8 w] (fun v => v = .bool true) := by
  refine IFun.of_bodyW false 29 [30, 75, 76, 77, 78, 79, 97, 112, 113, 114, 121, 134, 148, 153, 165, 166, 167, 168, 184, 190] Try.func10 rfl Try.call10 rfl fun R hR => ?_
  have cm := wmade_fun t r k ht hr hk
  obtain ⟨T, N, S, hM⟩ := made27 t r k ht.1 hr.1 hk.1
  have hW := hM.wk
  have hN1 := hM.n1
  have hT2 := hW.2
  have hN24 := hM.n24
  have hS24 := hM.s24
  have hnm := hM.nm
  have hSe := hM.s
  have hSp := Web.sets_pos hW
  rw [hM.eq] at cm
  obtain ⟨rd, hrd⟩ : ∃ n : Nat, a % (N : Int) = n := ⟨(a % (N : Int)).toNat, by have := Int.emod_nonneg a (show (N : Int) ≠ 0 by omega); omega⟩
  have hrN : rd < N := by have := Int.emod_lt_of_pos a (show 0 < (N : Int) by omega); omega
  obtain ⟨tb, htb⟩ : ∃ n : Nat, w % (T : Int) = n := ⟨(w % (T : Int)).toNat, by have := Int.emod_nonneg w (show (T : Int) ≠ 0 by omega); omega⟩
  have htT : tb < T := by have := Int.emod_lt_of_pos w (show 0 < (T : Int) by omega); omega
  have e1 : a.tmod N = rd := by rw [Int.tmod_eq_emod_of_nonneg ha.1, hrd]
  have e2 : w.tmod T = tb := by rw [Int.tmod_eq_emod_of_nonneg hw.1, htb]
  have w0 : IntKind.i64.wrap a = a := wrap64 (by omega) (by omega)
  have w1 : IntKind.i64.wrap w = w := wrap64 (by omega) (by omega)
  have w2 : IntKind.i64.wrap (rd : Int) = rd := wrap64 (by omega) (by omega)
  have w3 : IntKind.i64.wrap (tb : Int) = tb := wrap64 (by omega) (by omega)
  have hF := Web.fair_rows hW hnm
  have hld := hF.load rd
  have hcnt := fun s : Nat => Web.ldN_web hW rd s N
  simp only [if_pos hrN] at hcnt
  have hrow := Web.round_rows (k := Web.mK k) hrN (show 0 < T by omega)
  have hll := Web.rowsX_length (k := Web.mK k) (T := T) N
  have hNT : N * T ≤ 24 * 24 := Nat.mul_le_mul hN24 (by omega)
  obtain ⟨M, hMd⟩ : ∃ M : Mv, M = ⟨T, N, S, Web.cops T (Web.mK k), 2, Web.rowsX (Web.mK k) T N⟩ := ⟨_, rfl⟩
  have hMr : M.rows = Web.rowsX (Web.mK k) T N := by rw [hMd]
  have c1 := loads_fun M rd (by rw [hMr]; omega)
  have c2 := idle_fun M rd (by rw [hMr]; omega)
  have c3 := shared_fun M rd (by rw [hMr]; omega)
  have c4 := feeds_fun M rd tb (by rw [hMr]; omega) (by omega)
  have hAl : (loadsL M rd).length = S := by
    unfold loadsL
    rw [hMd]
    simp only
    rw [if_neg (by omega)]
    simp
  have hAg : ∀ i (h : i < (loadsL M rd).length), (loadsL M rd)[i] = ((Web.stL (Web.mK k) T rd).count i : Int) ∧ (loadsL M rd)[i] ≤ Web.cops T (Web.mK k) := fun i h => by
    have e : (loadsL M rd)[i] = (ldN M.rows rd i : Int) := by
      have h1 : loadsL M rd = (List.range S).map fun s : Nat => (ldN M.rows rd s : Int) := by
        unfold loadsL
        rw [hMd]
        simp only
        rw [if_neg (by omega)]
        simp
      rw [List.getElem_of_eq h1]
      simp
    rw [e, hMr, hcnt]
    refine ⟨rfl, ?_⟩
    have := hld i
    have h2 := hcnt i
    have h3 : ldN (Web.rowsX (Web.mK k) T N) rd i = (Web.rowsX (Web.mK k) T N).countP (rsB rd i) := rfl
    omega
  have hIi := idleL_inc M rd
  have hIm := fun i (h : i < (loadsL M rd).length) => idleL_mem (m := M) (r := rd) h
  have hIl := idleL_len M rd
  have hTL := Web.tabs_web (k := Web.mK k) (N := N) (show 0 < T by omega) hN1
  have hB := fun a b => Web.bothB_web hW hrN (a := a) (b := b)
  have hSH : sharedL M rd = shI (bothB (Web.rowsX (Web.mK k) T N) rd) ((List.range T).map fun j : Nat => (j : Int)) T := by
    unfold sharedL
    rw [hMr, hTL]
    have := shI_all (bothB (Web.rowsX (Web.mK k) T N) rd) ((List.range T).map fun j : Nat => (j : Int))
    rw [← this]
    simp
  have hSl := sharedL_len M rd (by rw [hMr]; omega)
  have hFi : Inc (feedsL M rd tb) := by
    unfold feedsL
    split
    · exact .nil
    · exact srt_inc _
  have hFl := feedsL_len M rd tb
  rw [hMr] at hFl
  have hF1 : 1 ≤ rd → feedsL M rd tb = ((List.range T).filter (Web.fdB (Web.mK k) T rd tb)).map fun j : Nat => (j : Int) := fun h => Web.feeds_web hW M hMr hrN htT h
  have hF0 : rd = 0 → feedsL M rd tb = [] := fun h => by
    subst h
    exact Web.feeds_web0 M hMr (by omega) tb
  have i1 := isSorted_fun (idleL M rd) (hIi.imp fun h => by omega) (by omega)
  have i2 := isSorted_fun (feedsL M rd tb) (hFi.imp fun h => by omega) (by omega)
  have ci := fun p => containsInts_fun (idleL M rd) p (by omega)
  have cf := fun p => containsInts_fun (feedsL M rd tb) p (by omega)
  have hst := fun i j (hi : i < N) => Web.st_lt hW hnm hSe hi j
  have hrs := Web.row_st hW
  have hprev := fun (h : 1 ≤ rd) => Web.round_rows (k := Web.mK k) (N := N) (show rd - 1 < N by omega) (show 0 < T by omega)
  generalize loadsL M rd = A at *
  generalize idleL M rd = I at *
  generalize sharedL M rd = SH at *
  generalize feedsL M rd tb = FD at *
  subst hMd
  simp only at *
  clear hM hF hld hcnt hTL hIi hFi hMr
  generalize Web.rowsX (Web.mK k) T N = L at *
  generalize Web.cops T (Web.mK k) = C at *
  generalize Web.mK k = K at *
  simp only [Mv.v] at *
  refine IWp.seqI ?_
  simp [go_sem]
  refine IWp.seqI ?_
  simp [go_sem]
  refine awake27_fun.callF (by simp [go_sem]) ?_
  rintro _ rfl
  simp [go_sem]
  refine IWp.seqI ?_
  simp [go_sem]
  refine cm.callM (by simp [go_sem]) ?_
  rintro _ rfl
  simp [go_sem]
  refine IWp.seqI ?_
  have n1 : ¬ N = 0 := by omega
  have n2 : ¬ T = 0 := by omega
  simp [go_sem, w0, w1, e1, e2, w2, w3, n1, n2]
  refine ⟨by decide +kernel, ?_⟩
  have hcl1 : ∀ row ∈ rws L, ∀ c ∈ row, Cl c := ScR.cl (mp_sc (by simp [scal, Rw.c]))
  refine IWp.seqI ?_
  simp [go_sem]
  refine Drawn.intro (fun k => if k = 2 then .fz 1 (ints A) else if k = 5 then .fz 1 (ints I) else if k = 8 then .fz 2 (prR SH) else if k = 12 then .fz 1 (ints FD) else .tup []) ?_
  simp [go_sem, c1, c2, c3, c4]
  refine ⟨by decide +kernel, ?_⟩
  refine IWp.seq ?_
  refine IWp.seqI ?_
  simp [go_sem, hAl]
  refine i1.callF (by simp [go_sem]) ?_
  rintro _ rfl
  simp [go_sem]
  refine i2.callF (by simp [go_sem]) ?_
  rintro _ rfl
  simp [go_sem]
  refine IWp.now ?_
  simp [go_sem]
  refine IWp.seqI ?_
  simp [go_sem]
  refine IWp.seq ?_
  refine IWp.seqI ?_
  simp [go_sem, hAl]
  obtain ⟨cp, hcp⟩ : ∃ cp : Nat → Nat, cp = fun i => (Web.stL K T rd).countP fun x => decide (x < i) := ⟨_, rfl⟩
  have hcs : ∀ i, cp (i + 1) = cp i + (Web.stL K T rd).count i := fun i => by
    have h1 := Web.count_sum (Web.stL K T rd) (i + 1)
    rw [List.range_succ, List.map_append, List.sum_append, Web.count_sum] at h1
    rw [hcp]
    simp at h1 ⊢
    omega
  have hcl : ∀ i, cp i ≤ T := fun i => by
    rw [hcp]
    refine Nat.le_trans List.countP_le_length ?_
    simp [Web.stL]
  have hc0 : cp 0 = 0 := by rw [hcp]; simp
  have hcS : cp S = T := by
    rw [hcp]
    have : (Web.stL K T rd).countP (fun x => decide (x < S)) = (Web.stL K T rd).length := List.countP_eq_length.2 fun x hx => by
      obtain ⟨j, _, rfl⟩ := List.mem_map.1 hx
      simpa using hst rd j hrN
    simpa [Web.stL] using this
  refine IWp.block ?_
  refine IWp.loopI (α := Nat) (fun i => (⟨false, 208, 29, [30, 75, 76, 77, 78, 79, 97, 112, 113, 114, 121, 134, 148, 153, 165, 166, 167, 168, 184, 190], [], [(11, .ptr 0 1 0 0), (13, .int .i64 (rd : Int)), (14, .int .i64 (tb : Int)), (16, .fz 1 (ints I)), (17, .fz 2 (prR SH)), (18, .fz 1 (ints FD)), (19, .int .i64 (cp i : Int)), (76, .fz 1 (ints A)), (77, .int .i64 (S : Int)), (78, .int .i64 (i : Int))], []⟩, [.rows 6 [[.int .i64 (T : Int), .int .i64 (N : Int), .int .i64 (S : Int), .int .i64 C, .int .i64 2, .fz 5 (rws L)]]]))
    (fun i => i ≤ S) (fun i => S - i) 0 (by simp) (by simp [go_sem, hc0]) ?_
  intro i hi
  refine IWp.seqI ?_
  simp [go_sem]
  refine IWp.seq ?_
  by_cases h : i < S
  · have hiA : i < A.length := by omega
    have v1 : IntKind.i64.wrap ((i : Int) + 1) = ((i + 1 : Nat) : Int) := by rw [wrap64 (by omega) (by omega)]; omega
    obtain ⟨n, hn⟩ : ∃ n, A[i] = n := ⟨_, rfl⟩
    obtain ⟨g1, g2⟩ := hAg i hiA
    have g3 := hIm i hiA
    rw [hn] at g1 g2 g3
    have hcs1 := hcs i
    have hcl1 := hcl (i + 1)
    have v2 : IntKind.i64.wrap ((cp i : Int) + n) = ((cp (i + 1) : Nat) : Int) := by rw [wrap64 (by omega) (by omega)]; omega
    have g2' : ¬ C < n := by omega
    have q1 : (ints A)[i]? = some [.int .i64 n] := by rw [List.getElem?_eq_getElem (by simpa using hiA), ints_getElem, hn]
    have ciI := ci i
    refine IWp.now ?_
    simp [go_sem, h]
    refine IWp.seq ?_
    refine IWp.block ?_
    refine IWp.seqI ?_
    simp [go_sem, hiA, q1, hn]
    refine IWp.seqI ?_
    simp [go_sem, v2]
    refine IWp.seqI ?_
    simp [go_sem, hn, g2, g2']
    refine ciI.callF (by simp [go_sem]) ?_
    rintro _ rfl
    by_cases h0 : n = 0
    · have hmem : (i : Int) ∈ I := g3.2 h0
      simp [go_sem, h0, hmem]
      refine IWp.now ?_
      simp [go_sem]
      refine IWp.now ?_
      simp [go_sem, v1]
      exact ⟨i + 1, ⟨rfl, rfl⟩, by omega, by omega⟩
    · have hmem : (i : Int) ∉ I := fun hh => h0 (g3.1 hh)
      simp [go_sem, h0, hmem]
      refine IWp.now ?_
      simp [go_sem, h0]
      refine IWp.now ?_
      simp [go_sem, v1]
      exact ⟨i + 1, ⟨rfl, rfl⟩, by omega, by omega⟩
  · obtain rfl : i = S := by omega
    refine IWp.now ?_
    simp [go_sem]
    rw [hcS]
    have hP1 : rd * T + T ≤ N * T := by have := Nat.mul_le_mul_right T (show rd + 1 ≤ N by omega); rw [Nat.add_mul] at this; omega
    obtain ⟨P1, hP1e⟩ : ∃ P1, rd * T = P1 := ⟨_, rfl⟩
    rw [hP1e] at hP1 hrow
    have m0 : (rd : Int) * T = (P1 : Int) := by rw [← hP1e]; simp
    have m1 : IntKind.i64.wrap ((rd : Int) * T) = (P1 : Int) := by rw [m0]; exact wrap64 (by omega) (by omega)
    have m2 : IntKind.i64.wrap ((rd : Int) + 1) = ((rd + 1 : Nat) : Int) := by rw [wrap64 (by omega) (by omega)]; omega
    have m3 : IntKind.i64.wrap (((rd : Int) + 1) * T) = ((P1 + T : Nat) : Int) := by rw [Int.add_mul, m0, wrap64 (by omega) (by omega)]; omega
    refine IWp.seqI ?_
    simp [go_sem, m1, m2, m3]
    refine ⟨⟨by omega, by omega⟩, ?_⟩
    obtain ⟨Q, hQ⟩ : ∃ Q, Web.rowL K T rd T = Q := ⟨_, rfl⟩
    have hQl : Q.length = T := by rw [← hQ]; simp
    have hQg : ∀ j (h : j < Q.length), Q[j].s = (Web.stN K T rd j : Int) := fun j h => by
      rw [List.getElem_of_eq hQ.symm]
      rw [← hrs]
      simp [Web.rowL]
    have hsl : List.drop P1 (List.take (P1 + T) (rws L)) = rws Q := by
      rw [← hQ, ← hrow, List.drop_take, Nat.add_sub_cancel_left]
      simp [rws, mp]
    have hto : ((P1 : Int) + T).toNat = P1 + T := by omega
    have hmn : min (P1 + T) L.length - P1 = T := by omega
    refine IWp.seqI ?_
    simp [go_sem, hto, hsl, hmn]
    refine IWp.seq ?_
    refine IWp.seqI ?_
    simp [go_sem, hto, hsl, hmn]
    obtain ⟨B, hBd⟩ : ∃ B, bothB L rd = B := ⟨_, rfl⟩
    obtain ⟨TL, hTLd⟩ : ∃ TL, ((List.range T).map fun j : Nat => (j : Int)) = TL := ⟨_, rfl⟩
    have hTLl : TL.length = T := by rw [← hTLd]; simp
    have hTLg : ∀ j (h : j < TL.length), TL[j] = (j : Int) := fun j h => by rw [List.getElem_of_eq hTLd.symm]; simp
    rw [hBd, hTLd] at hSH
    rw [hBd] at hB
    have hat := fun {a q : Nat} {x y : Int} {D : List Int} (h1 : a < TL.length) (h2 : TL[a] = x) (h3 : TL.drop (a + 1) = D) (h4 : q < D.length) (h5 : D[q] = y) (h6 : B x y = true) => shI_at h1 h2 h3 h4 h5 h6
    have hS1 : ∀ a (h : a < TL.length), shI B TL (a + 1) = shI B TL a ++ ((TL.drop (a + 1)).filter (B (a : Int))).map fun b => ((a : Int), b) := fun a h => by
      rw [shI_succ]
      congr 1
      unfold rowP
      rw [List.drop_eq_getElem_cons h, hTLg]
    have hSH' : shI B TL TL.length = SH := by rw [hTLl, ← hSH]
    rw [hSH'] at hat
    refine IWp.block ?_
    refine IWp.loopI (α := Nat) (fun a => (⟨false, 208, 29, [30, 75, 76, 77, 78, 79, 97, 112, 113, 114, 121, 134, 148, 153, 165, 166, 167, 168, 184, 190], [], [(11, .ptr 0 1 0 0), (13, .int .i64 (rd : Int)), (14, .int .i64 (tb : Int)), (17, .fz 2 (prR SH)), (18, .fz 1 (ints FD)), (19, .int .i64 (T : Int)), (22, .fz 5 (rws Q)), (23, .int .i64 ((shI B TL a).length : Int)), (112, .int .i64 (Q.length : Int)), (113, .int .i64 (a : Int))], []⟩, [.rows 6 [[.int .i64 (T : Int), .int .i64 (N : Int), .int .i64 (i : Int), .int .i64 C, .int .i64 2, .fz 5 (rws L)]]]))
      (fun a => a ≤ T) (fun a => T - a) 0 (by simp) (by simp [go_sem, shI]) ?_
    intro a ha
    refine IWp.seqI ?_
    simp [go_sem]
    refine IWp.seq ?_
    by_cases h : a < T
    · have hq' : a < Q.length := by omega
      have v1 : IntKind.i64.wrap ((a : Int) + 1) = ((a + 1 : Nat) : Int) := by rw [wrap64 (by omega) (by omega)]; omega
      have hS1a := hS1 a (by omega)
      obtain ⟨D, hD⟩ : ∃ D, TL.drop (a + 1) = D := ⟨_, rfl⟩
      rw [hD] at hS1a
      have hDl : D.length = T - (a + 1) := by rw [← hD, List.length_drop, hTLl]
      have hDg : ∀ q (h : q < D.length), D[q] = ((a + 1 + q : Nat) : Int) := fun q h => by
        subst hD
        rw [List.getElem_drop, hTLg]
      have hat1 := fun {q : Nat} {y : Int} => hat (q := q) (y := y) (by omega) (hTLg a (by omega)) hD
      generalize shI B TL a = Z at *
      refine IWp.now ?_
      simp [go_sem, h, hq']
      refine IWp.seq ?_
      refine IWp.block ?_
      refine IWp.seqI ?_
      simp [go_sem]
      refine IWp.seqI ?_
      simp [go_sem, v1]
      refine IWp.block ?_
      refine IWp.loopI (α := Nat) (fun q => (⟨false, 208, 29, [30, 75, 76, 77, 78, 79, 97, 112, 113, 114, 121, 134, 148, 153, 165, 166, 167, 168, 184, 190], [], [(11, .ptr 0 1 0 0), (13, .int .i64 (rd : Int)), (14, .int .i64 (tb : Int)), (17, .fz 2 (prR SH)), (18, .fz 1 (ints FD)), (19, .int .i64 (T : Int)), (22, .fz 5 (rws Q)), (23, .int .i64 ((Z.length + ((D.take q).filter (B (a : Int))).length : Nat) : Int)), (24, .int .i64 (a : Int)), (25, .int .i64 ((a + 1 + q : Nat) : Int)), (112, .int .i64 (Q.length : Int)), (113, .int .i64 (a : Int))], []⟩, [.rows 6 [[.int .i64 (T : Int), .int .i64 (N : Int), .int .i64 (i : Int), .int .i64 C, .int .i64 2, .fz 5 (rws L)]]]))
        (fun q => q ≤ D.length) (fun q => D.length - q) 0 (by simp) (by simp [go_sem]) ?_
      intro q hq
      refine IWp.seq ?_
      refine IWp.seqI ?_
      obtain ⟨b, hb⟩ : ∃ b, a + 1 + q = b := ⟨_, rfl⟩
      obtain ⟨p, hp⟩ : ∃ p, Z.length + ((D.take q).filter (B (a : Int))).length = p := ⟨_, rfl⟩
      rw [hb, hp]
      simp [go_sem]
      by_cases h2 : q < D.length
      · have h3 : b < Q.length := by omega
        have v2 : IntKind.i64.wrap ((b : Int) + 1) = ((b + 1 : Nat) : Int) := by rw [wrap64 (by omega) (by omega)]; omega
        have hDq : D[q] = (b : Int) := by rw [hDg q h2, hb]
        obtain ⟨x, hx⟩ : ∃ x, Q[a]'hq' = x := ⟨_, rfl⟩
        obtain ⟨y, hy⟩ : ∃ y, Q[b]'h3 = y := ⟨_, rfl⟩
        have hxs := hQg a hq'
        have hys := hQg b h3
        rw [hx] at hxs
        rw [hy] at hys
        have hBb := hB a b h (by omega)
        have hfs : (D.take (q + 1)).filter (B (a : Int)) = (D.take q).filter (B (a : Int)) ++ (if B (a : Int) (b : Int) = true then [(b : Int)] else []) := by
          rw [List.take_succ_eq_append_getElem h2, List.filter_append, hDq]
          by_cases hb : B (a : Int) (b : Int) = true
          · rw [if_pos hb, List.filter_cons_of_pos hb]; simp
          · rw [if_neg hb, List.filter_cons_of_neg hb]; simp
        have hat2 := hat1 h2 hDq
        rw [hp] at hat2
        refine IWp.now ?_
        simp [go_sem, h3]
        refine IWp.seq ?_
        refine IWp.block ?_
        refine IWp.seq ?_
        refine IWp.seqI ?_
        simp [go_sem, h3, hq', hx, hy, hxs, hys]
        by_cases h5 : Web.stN K T rd a = Web.stN K T rd b
        · rw [h5, decide_eq_true rfl] at hBb
          have hat3 := hat2 hBb
          rw [if_pos hBb] at hfs
          obtain ⟨hpl, hpg⟩ := List.getElem?_eq_some_iff.1 hat3
          have q3 : (prR SH)[p]?.getD [] = [.int .i64 (a : Int), .int .i64 (b : Int)] := by
            simp [prR, mp, rowI, ecP, hat3]
          have q4 : (prR SH)[p]'(by simpa using hpl) = [.int .i64 (a : Int), .int .i64 (b : Int)] := by
            simp [prR, mp, rowI, ecP, hpg]
          have v3 : IntKind.i64.wrap ((p : Int) + 1) = ((p + 1 : Nat) : Int) := by rw [wrap64 (by omega) (by omega)]; omega
          simp [h5]
          refine ⟨by decide +kernel, ?_⟩
          refine IWp.now ?_
          simp [go_sem]
          refine IWp.seq ?_
          refine IWp.seqI ?_
          simp [go_sem, hpl, q3, q4]
          have hpl' : ¬ SH.length ≤ p := by omega
          refine IWp.now ?_
          simp [go_sem, v3, hpl']
          refine IWp.now ?_
          simp [go_sem, v3]
          refine IWp.now ?_
          simp [go_sem, v2]
          exact ⟨q + 1, ⟨by rw [hfs]; simp; omega, by omega⟩, by omega, by omega⟩
        · rw [decide_eq_false h5] at hBb
          rw [if_neg (by simp [hBb]), List.append_nil] at hfs
          have h5b : ((Web.stN K T rd a : Int) != (Web.stN K T rd b : Int)) = true := by simp; omega
          simp [h5, h5b]
          refine ⟨by decide +kernel, ?_⟩
          refine IWp.now ?_
          simp [go_sem]
          refine IWp.now ?_
          simp [go_sem, v2]
          exact ⟨q + 1, ⟨by rw [hfs]; omega, by omega⟩, by omega, by omega⟩
      · obtain rfl : q = D.length := by omega
        have h3 : ¬ b < Q.length := by omega
        have h3' : ¬ b < T := by omega
        refine IWp.now ?_
        simp [go_sem, h3, hQl, h3']
        refine IWp.now ?_
        simp [go_sem, v1]
        rw [List.take_length] at hp
        exact ⟨a + 1, ⟨by rw [hS1a]; simp; omega, by omega⟩, by omega, by omega⟩
    · obtain rfl : a = T := by omega
      have hq' : ¬ a < Q.length := by omega
      refine IWp.now ?_
      simp [go_sem, hq']
      rw [show shI B TL a = SH by rw [hSH]]
      refine IWp.seqI ?_
      simp [go_sem]
      refine IWp.seq ?_
      refine IWp.seqI ?_
      simp [go_sem]
      rcases Nat.eq_zero_or_pos rd with h0 | h0
      · refine IWp.now ?_
        simp [go_sem, h0]
        refine IWp.now ?_
        simp [go_sem, hF0 h0]
        exact hR _ _ _ rfl (by simp [go_sem])
      · obtain ⟨rp, hrp⟩ : ∃ rp, rd = rp + 1 := ⟨rd - 1, by omega⟩
        have hprv := hprev (by omega)
        have hFD := hF1 (by omega)
        rw [show rd - 1 = rp by omega] at hprv
        obtain ⟨P0, hP0e⟩ : ∃ P0, rp * a = P0 := ⟨_, rfl⟩
        rw [hP0e] at hprv
        have hP01 : P0 + a = P1 := by rw [← hP0e, ← hP1e, hrp, Nat.add_mul, Nat.one_mul]
        have m4 : IntKind.i64.wrap ((rd : Int) - 1) = (rp : Int) := by rw [wrap64 (by omega) (by omega)]; omega
        have m5 : IntKind.i64.wrap ((rp : Int) * a) = (P0 : Int) := by rw [show (rp : Int) * a = (P0 : Int) by rw [← hP0e]; simp]; exact wrap64 (by omega) (by omega)
        obtain ⟨V, hV⟩ : ∃ V, Web.rowL K a rp a = V := ⟨_, rfl⟩
        have hVl : V.length = a := by rw [← hV]; simp
        have hVg : ∀ j (h : j < V.length), V[j].s = (Web.stN K a rp j : Int) := fun j h => by
          rw [List.getElem_of_eq hV.symm]
          rw [← hrs]
          simp [Web.rowL]
        have hsl2 : List.drop P0 (List.take P1 (rws L)) = rws V := by
          rw [← hV, ← hprv, ← hP01, List.drop_take, Nat.add_sub_cancel_left]
          simp [rws, mp]
        have hmn2 : min P1 L.length - P0 = V.length := by omega
        refine IWp.now ?_
        simp [go_sem, h0, m1, m4, m5]
        refine ⟨⟨by omega, by omega⟩, ?_⟩
        rw [hsl2, hmn2]
        obtain ⟨pF, hpF⟩ : ∃ pF : Nat → Bool, pF = Web.fdB K a rd tb := ⟨_, rfl⟩
        rw [← hpF] at hFD
        have hFm : ∀ u : Nat, u < a → ((u : Int) ∈ FD ↔ pF u = true) := fun u hu => by
          rw [hFD, List.mem_map]
          constructor
          · rintro ⟨j, hj, e⟩
            have : j = u := by omega
            subst this
            exact (List.mem_filter.1 hj).2
          · intro h
            exact ⟨u, List.mem_filter.2 ⟨by simpa using hu, h⟩, rfl⟩
        have hFe : FD.length = ((List.range a).filter pF).length := by rw [hFD, List.length_map]
        have hfs : ∀ u, ((List.range (u + 1)).filter pF).length = ((List.range u).filter pF).length + if pF u = true then 1 else 0 := fun u => by
          rw [List.range_succ, List.filter_append, List.length_append]
          congr 1
          by_cases h : pF u = true
          · rw [if_pos h, List.filter_cons_of_pos h]; simp
          · rw [if_neg h, List.filter_cons_of_neg h]; simp
        have hfl : ∀ u, ((List.range u).filter pF).length ≤ u := fun u => Nat.le_trans (List.length_filter_le ..) (by simp)
        have htQ : tb < Q.length := by omega
        obtain ⟨z, hz⟩ : ∃ z, Q[tb] = z := ⟨_, rfl⟩
        have hzs := hQg tb htQ
        rw [hz] at hzs
        refine IWp.loopI (α := Nat) (fun u => (⟨false, 208, 29, [30, 75, 76, 77, 78, 79, 97, 112, 113, 114, 121, 134, 148, 153, 165, 166, 167, 168, 184, 190], [], [(11, .ptr 0 1 0 0), (14, .int .i64 (tb : Int)), (17, .fz 2 (prR SH)), (18, .fz 1 (ints FD)), (19, .int .i64 (a : Int)), (22, .fz 5 (rws Q)), (23, .int .i64 (SH.length : Int)), (26, .int .i64 (((List.range u).filter pF).length : Int)), (165, .fz 5 (rws V)), (166, .int .i64 (V.length : Int)), (167, .int .i64 (u : Int))], []⟩, [.rows 6 [[.int .i64 (a : Int), .int .i64 (N : Int), .int .i64 (i : Int), .int .i64 C, .int .i64 2, .fz 5 (rws L)]]]))
          (fun u => u ≤ a) (fun u => a - u) 0 (by simp) (by simp [go_sem]) ?_
        intro u hu
        refine IWp.seqI ?_
        simp [go_sem]
        refine IWp.seq ?_
        by_cases h4 : u < a
        · have hu1 : u < V.length := by omega
          have v1 : IntKind.i64.wrap ((u : Int) + 1) = ((u + 1 : Nat) : Int) := by rw [wrap64 (by omega) (by omega)]; omega
          obtain ⟨x, hx⟩ : ∃ x, V[u]'hu1 = x := ⟨_, rfl⟩
          have hxs := hVg u hu1
          rw [hx] at hxs
          have hfsu := hfs u
          have hflu := hfl u
          have hFmu := hFm u h4
          have cfu := cf u
          have hpu : pF u = (decide (u ≠ tb) && decide (Web.stN K a rp u = Web.stN K a rd tb)) := by rw [hpF, hrp]; rfl
          obtain ⟨F, hF⟩ : ∃ F, ((List.range u).filter pF).length = F := ⟨_, rfl⟩
          rw [hF] at hfsu hflu ⊢
          have v3 : IntKind.i64.wrap ((F : Int) + 1) = ((F + 1 : Nat) : Int) := by rw [wrap64 (by omega) (by omega)]; omega
          refine IWp.now ?_
          simp [go_sem, hu1]
          refine IWp.seq ?_
          refine IWp.block ?_
          refine IWp.seqI ?_
          simp [go_sem, hu1, hx]
          refine IWp.seqI ?_
          by_cases h5 : u = tb
          · have h5b : ((u : Int) != (tb : Int)) = false := by simp; omega
            have h5i : (u : Int) = (tb : Int) := by omega
            have hpf : pF u = false := by rw [hpu]; simp [h5]
            rw [hpf, if_neg (by simp)] at hfsu
            simp [go_sem, h5, htQ, hz, hzs, hxs]
            refine ⟨by decide +kernel, ?_⟩
            refine IWp.now ?_
            simp [go_sem]
            refine IWp.now ?_
            simp [go_sem, v1]
            rw [← h5, v1]
            exact ⟨u + 1, ⟨by omega, rfl⟩, by omega, by omega⟩
          · have h5b : ((u : Int) != (tb : Int)) = true := by simp; omega
            have h5i : ¬ (u : Int) = (tb : Int) := by omega
            by_cases h6 : Web.stN K a rp u = Web.stN K a rd tb
            · rw [hpu] at hfsu hFmu
              have hmem : (u : Int) ∈ FD := hFmu.2 (by simp [h5, h6])
              rw [if_pos (by simp [h5, h6])] at hfsu
              simp [go_sem, h5, h5b, h5i, htQ, hz, hzs, hxs, h6]
              refine ⟨by decide +kernel, ?_⟩
              refine IWp.now ?_
              simp [go_sem, v3]
              refine cfu.callF (by simp [go_sem]) ?_
              rintro _ rfl
              simp [go_sem, hmem]
              refine IWp.now ?_
              simp [go_sem]
              rw [v1]
              exact ⟨u + 1, ⟨by omega, rfl⟩, by omega, by omega⟩
            · have h6i : ¬ (Web.stN K a rp u : Int) = (Web.stN K a rd tb : Int) := by omega
              rw [hpu] at hfsu
              rw [if_neg (by simp [h6])] at hfsu
              simp [go_sem, h5, h5b, h5i, htQ, hz, hzs, hxs, h6, h6i]
              refine ⟨by decide +kernel, ?_⟩
              refine IWp.now ?_
              simp [go_sem, h6i]
              refine IWp.now ?_
              simp [go_sem, v1]
              exact ⟨u + 1, ⟨by omega, rfl⟩, by omega, by omega⟩
        · obtain rfl : u = a := by omega
          have hu1 : ¬ u < V.length := by omega
          refine IWp.now ?_
          simp [go_sem, hu1]
          refine IWp.now ?_
          simp [go_sem, hFe]
          exact hR _ _ _ rfl (by simp [go_sem])
theorem webLoads_law (t r k a w : Int) (h0 : (Lit.int .u8 t).wf = true) (h1 : (Lit.int .u8 r).wf = true) (h2 : (Lit.int .u8 k).wf = true) (h3 : (Lit.int .u8 a).wf = true) (h4 : (Lit.int .u8 w).wf = true) : FN 10 [.int .u8 t, .int .u8 r, .int .u8 k, .int .u8 a, .int .u8 w] (fun v => v = .bool true) :=
  webLoads_fun t r k a w (wf8 h0) (wf8 h1) (wf8 h2) (wf8 h3) (wf8 h4)
end Go.Idl
