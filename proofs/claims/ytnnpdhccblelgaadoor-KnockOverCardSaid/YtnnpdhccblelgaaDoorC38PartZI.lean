/-
  Chapter 38: KnockGoes: walk and law.
-/
import Derived.Test.YtnnpdhccblelgaaDoorC38PartZG
import Derived.Test.YtnnpdhccblelgaaDoorC38PartZH
import Derived.Test.YtnnpdhccblelgaaDoorC38PartB
namespace Go.Idl
set_option linter.all false
open Go.Proofs
set_option maxHeartbeats 16000000
set_option maxRecDepth 40000

/-- Who plays in the first matches. -/
def plY (L : List Mt) : List Int := L.flatMap fun m => [m.a, m.b]
theorem plY_snoc (L : List Mt) (m : Mt) : plY (L ++ [m]) = plY L ++ [m.a, m.b] := by simp [plY]
theorem plY_len (L : List Mt) : (plY L).length = 2 * L.length := by
  induction L with
  | nil => rfl
  | cons m L ih => simp [plY] at *; omega
theorem plY_mem {L : List Mt} {t : Int} (h : t ∈ plY L) : ∃ m ∈ L, t = m.a ∨ t = m.b := by
  unfold plY at h
  obtain ⟨m, hm, ht⟩ := List.mem_flatMap.1 h
  exact ⟨m, hm, by simpa using ht⟩
theorem plY_not {n : Nat} (h1 : 2 ≤ n) (h2 : n ≤ 64) {l : List Rs} (hG : Good n l) {j : Nat} (hj : j < (opens n l).length) {t : Int} (ht : t = (opens n l)[j].a ∨ t = (opens n l)[j].b) : t ∉ plY ((opens n l).take j) := fun hm => by
  obtain ⟨m, hm, ht'⟩ := plY_mem hm
  obtain ⟨i, hi, rfl⟩ := List.getElem_of_mem hm
  rw [List.getElem_take] at ht'
  simp only [List.length_take] at hi
  have := opens_apart h1 h2 hG (List.getElem_mem _) (List.getElem_mem hj) ht' ht
  exact (List.pairwise_iff_getElem.1 (opens_pw n l)) i j (by omega) hj (by omega) this
theorem win_none {n : Nat} (h1 : 2 ≤ n) (h2 : n ≤ 64) {l : List Rs} (hG : Good n l) {m : Mt} (hm : m ∈ opens n l) : winV (stW n l) m.r m.i = (0, 6) := by
  obtain ⟨q, i, p1, p2, f⟩ := opens_facts h1 h2 hG hm
  have hI := (good_state h1 h2 hG).2
  unfold winV
  have := hI.no q i fun hd => f.nd ((doneD_iff (ordN_ok l) (fun e => by have := f.hi; subst e; simpa using this)).1 hd)
  rw [f.mr, f.mi, this]
theorem res_none {n : Nat} (h1 : 2 ≤ n) (h2 : n ≤ 64) {l : List Rs} (hG : Good n l) {m : Mt} (hm : m ∈ opens n l) : ∀ x ∈ l, ¬ (x.r = m.r ∧ x.i = m.i) := fun x hx hh => by
  obtain ⟨q, i, p1, p2, f⟩ := opens_facts h1 h2 hG hm
  exact f.nd (.inr ⟨x, hx, isM_key.2 ⟨hh.1.trans f.mr, hh.2.trans f.mi⟩⟩)
theorem knockGoes_fun (t : Int) (ht : 0 ≤ t ∧ t < 256) (xs : List Sm) (hx : ∀ x ∈ xs, FitS x) (hxl : xs.length < 2 ^ 63) : FN 8 [.int .u8 t, .fz 4 (sms xs)] (fun v => v = .bool true) := by
  refine IFun.of_bodyW false 23 [24, 56, 57, 58, 59, 60, 119, 138, 141, 143, 144, 145, 146, 150, 167, 168, 169, 186] Tryd.func8 rfl Tryd.call8 rfl fun R hR => ?_
  obtain ⟨n, hn⟩ : ∃ n : Nat, 2 + t % 63 = n := ⟨(2 + t % 63).toNat, by omega⟩
  have h1 : 2 ≤ n := by omega
  have h2 : n ≤ 64 := by omega
  obtain ⟨K, hK⟩ : ∃ K, min xs.length 20 = K := ⟨_, rfl⟩
  have hk : (if 20 < (xs.length : Int) then (20 : Int) else (xs.length : Int)) = (K : Int) := by split <;> omega
  have htk : List.take K (sms xs) = sms (xs.take K) := by simp [sms, mp, List.map_take]
  have hx2 : ∀ x ∈ xs.take K, FitS x := fun x hh => hx x (List.mem_of_mem_take hh)
  have hl2 : (xs.take K).length ≤ 20 := by simp; omega
  have hk2 : K ≤ xs.length := by omega
  have cm := madeF_fun t ht _ hx2 (by omega) n hn
  obtain ⟨hG, hf, hol⟩ := madeL_ok h1 h2 hx2
  generalize madeL n (xs.take K) [] = out at *
  have co := open_good h1 h2 hG (by omega) hf
  have cp := places_good h1 h2 hG (by omega) hf
  have hPl := placesG_len n out
  refine IWp.seqI ?_
  simp [go_sem]
  refine IWp.seqI ?_
  simp [go_sem]
  refine awake38_fun.callF (by simp [go_sem]) ?_
  rintro _ rfl
  simp [go_sem]
  generalize xs.take K = xk at *
  have hLl := opens_len h1 out
  have hd : ∀ j (hj : j < (opens n out).length) (t : Int), t = (opens n out)[j].a ∨ t = (opens n out)[j].b → t ∉ plY ((opens n out).take j) := fun j hj t ht => plY_not h1 h2 hG hj ht
  have hw : ∀ m ∈ opens n out, winV (stW n out) m.r m.i = (0, 6) := fun m hm => win_none h1 h2 hG hm
  have hrn : ∀ m ∈ opens n out, ∀ x ∈ out, ¬ (x.r = m.r ∧ x.i = m.i) := fun m hm => res_none h1 h2 hG hm
  have hbd : ∀ m ∈ opens n out, (1 ≤ m.a ∧ m.a ≤ n) ∧ (1 ≤ m.b ∧ m.b ≤ n) ∧ (0 ≤ m.r ∧ m.r < 6) ∧ (0 ≤ m.i ∧ m.i < 32) := fun m hm => opens_bd h1 h2 hG hm
  have hne : ∀ m ∈ opens n out, m.a ≠ m.b := fun m hm => opens_ne h1 h2 hG hm
  have hpl : ∀ m ∈ opens n out, ∀ t, t = m.a ∨ t = m.b → (placesG n out).getD (t - 1).toNat 0 = 0 := fun m hm t ht => places_open h1 h2 hG hm ht
  have hgone := gone_len h1 h2 hG
  have hover := over_iff h1 h2 hG
  have hearly : ∀ k : Int, Good n (earlyL out k) := fun k => hG.early k
  have cw := fun q i => winner_good h1 h2 hG (by omega) hf q i
  refine IWp.seqI ?_
  simp [go_sem, hk, hk2, htk]
  refine cm.callF (by simp [go_sem]) ?_
  rintro _ rfl
  simp [go_sem]
  refine IWp.seqI ?_
  simp [go_sem]
  refine co.callF (by simp [go_sem]) ?_
  rintro _ rfl
  simp [go_sem]
  refine IWp.seqI ?_
  simp [go_sem]
  refine cp.callF (by simp [go_sem]) ?_
  rintro _ rfl
  simp [go_sem]
  have z0 : IntKind.i64.wrap 0 = 0 := by decide
  refine IWp.seqI ?_
  simp [go_sem, hPl, z0]
  generalize hP : placesG n out = P at *
  generalize hLe : opens n out = L at *
  refine IWp.seqI ?_
  simp [go_sem]
  refine IWp.ownNilS 1 11 (by decide) rfl ?_
  refine IWp.seqT (α := List Int) (fun _ => (⟨false, 188, 23, [24, 56, 57, 58, 59, 60, 119, 138, 141, 143, 144, 145, 146, 150, 167, 168, 169, 186], glT, [(5, .int .i64 (n : Int)), (6, .fz 6 (rss out)), (7, .fz 4 (mts L)), (9, .fz 1 (ints P))], []⟩, [.dead])) (fun _ => True) ?_ ?_
  · simp [go_sem]
    refine IWp.loopI (α := Nat) (fun j => (⟨false, 188, 23, [24, 56, 57, 58, 59, 60, 119, 138, 141, 143, 144, 145, 146, 150, 167, 168, 169, 186], glT, [(5, .int .i64 (n : Int)), (6, .fz 6 (rss out)), (7, .fz 4 (mts L)), (9, .fz 1 (ints P)), (11, .sl 0 (plY (L.take j)).length 0 (plY (L.take j)).length none), (57, .fz 4 (mts L)), (58, .int .i64 (L.length : Nat)), (59, .int .i64 (j : Int))], []⟩, [.rows 1 (ints (plY (L.take j)))]))
      (fun j => j ≤ L.length) (fun j => L.length - j) 0 (by simp) (by simp [go_sem, plY]) ?_
    intro j hj
    refine IWp.seqI ?_
    simp [go_sem]
    by_cases h : j < L.length
    · have hm := List.getElem_mem h
      have m1 := hd j h L[j].a (.inl rfl)
      have m2 := hd j h L[j].b (.inr rfl)
      have m3 := hw _ hm
      have m4 := hrn _ hm
      obtain ⟨⟨b1, b2⟩, ⟨b3, b4⟩, b5, b6⟩ := hbd _ hm
      have m5 := hne _ hm
      have m6 := hpl _ hm L[j].a (.inl rfl)
      have m7 := hpl _ hm L[j].b (.inr rfl)
      have hsn : plY (L.take (j + 1)) = plY (L.take j) ++ [L[j].a, L[j].b] := by rw [List.take_succ_eq_append_getElem h, plY_snoc]
      have hpy : (plY (L.take j)).length ≤ 400 := by rw [plY_len]; simp; omega
      have c1 := containsInts_fun (plY (L.take j)) L[j].a (by omega)
      have c2 := containsInts_fun (plY (L.take j)) L[j].b (by omega)
      rw [show decide (L[j].a ∈ plY (L.take j)) = false by simpa using m1] at c1
      rw [show decide (L[j].b ∈ plY (L.take j)) = false by simpa using m2] at c2
      have c3 := cw L[j].r L[j].i
      rw [m3] at c3
      have c4 := containsGoes1_fun out L[j] (by omega) m4
      have v1 : IntKind.i64.wrap ((j : Int) + 1) = ((j + 1 : Nat) : Int) := by rw [wrap64 (by omega) (by omega)]; omega
      obtain ⟨Y2, hY2e⟩ : ∃ Y2, plY (L.take (j + 1)) = Y2 := ⟨_, rfl⟩
      rw [hY2e] at hsn
      generalize plY (L.take j) = Y at *
      obtain ⟨m, hmj⟩ : ∃ m, L[j] = m := ⟨_, rfl⟩
      rw [hmj] at hsn c1 c2 c3 c4 b1 b2 b3 b4 b5 b6 m5 m6 m7
      obtain ⟨mr, mi, ma, mb⟩ := m
      simp only [Mt.c] at hsn c1 c2 c3 c4 b1 b2 b3 b4 b5 b6 m5 m6 m7
      obtain ⟨A, hA⟩ : ∃ A : Nat, ma = A + 1 := ⟨(ma - 1).toNat, by omega⟩
      obtain ⟨B, hB⟩ : ∃ B : Nat, mb = B + 1 := ⟨(mb - 1).toNat, by omega⟩
      have u1 : IntKind.i64.wrap (ma - 1) = (A : Int) := by rw [wrap64 (by omega) (by omega)]; omega
      have u2 : IntKind.i64.wrap (mb - 1) = (B : Int) := by rw [wrap64 (by omega) (by omega)]; omega
      have hAn : A < n := by omega
      have hBn : B < n := by omega
      have hAP : A < P.length := by omega
      have hBP : B < P.length := by omega
      have hPA : (ints P)[A]?.getD [] = [.int .i64 0] := by
        rw [List.getElem?_eq_getElem (by simp; omega), Option.getD_some, ints_getElem]
        have : P.getD A 0 = 0 := by have := m6; rwa [show (ma - 1).toNat = A by omega] at this
        rw [show P[A]'(by omega) = P.getD A 0 by simp [show A < P.length by omega], this]
      have hPB : (ints P)[B]?.getD [] = [.int .i64 0] := by
        rw [List.getElem?_eq_getElem (by simp; omega), Option.getD_some, ints_getElem]
        have : P.getD B 0 = 0 := by have := m7; rwa [show (mb - 1).toNat = B by omega] at this
        rw [show P[B]'(by omega) = P.getD B 0 by simp [show B < P.length by omega], this]
      have g1 : ¬ ma < 1 := by omega
      have g2 : ¬ mb < 1 := by omega
      have g3 : ¬ (n : Int) < ma := by omega
      have g4 : ¬ (n : Int) < mb := by omega
      have g5 : ¬ ma = mb := m5
      have hyl := hpy
      have hPAA : P[A]'hAP = 0 := by
        have : (ints P)[A]'(by simp; omega) = [.int .i64 0] := by
          have h9 := hPA
          rw [List.getElem?_eq_getElem (by simp; omega), Option.getD_some] at h9
          exact h9
        rw [ints_getElem] at this
        simpa using this
      have hPBB : P[B]'hBP = 0 := by
        have : (ints P)[B]'(by simp; omega) = [.int .i64 0] := by
          have h9 := hPB
          rw [List.getElem?_eq_getElem (by simp; omega), Option.getD_some] at h9
          exact h9
        rw [ints_getElem] at this
        simpa using this
      clear hA hB hd hw hrn hbd hne hpl m1 m2 m3 m4 m5 m6 m7 b1 b2 b3 b4 b5 b6 cw
      simp [go_sem, h, hmj]
      refine IWp.seqI ?_
      simp [go_sem]
      refine IWp.seq ?_
      refine IWp.block ?_
      refine IWp.seqI ?_
      simp [go_sem, h, hmj]
      refine IWp.seqI ?_
      simp [go_sem, hmj]
      refine c1.callF (by simp [go_sem]) ?_
      rintro _ rfl
      simp [go_sem]
      refine c2.callF (by simp [go_sem]) ?_
      rintro _ rfl
      simp [go_sem, u1, u2, g1, g2, g3, g4, g5, hAn, hBn, hPl, hPA, hPB, hPAA, hPBB]
      refine IWp.seqI ?_
      simp [go_sem]
      refine ⟨by omega, ?_⟩
      rw [show ints Y ++ [[.int .i64 ma], [.int .i64 mb]] = ints Y2 by rw [hsn]; simp [ints, mp]]
      have hY2 : Y2.length = Y.length + 2 := by rw [hsn]; simp
      refine IWp.seqI ?_
      simp [go_sem]
      refine c3.callF (by simp [go_sem]) ?_
      rintro _ rfl
      simp [go_sem]
      refine IWp.now ?_
      simp [go_sem]
      refine c4.callF (by simp [go_sem]) ?_
      rintro _ rfl
      simp [go_sem]
      refine IWp.now ?_
      simp [go_sem]
      exact ⟨j + 1, ⟨⟨by rw [hY2e]; omega, v1⟩, by rw [hY2e]⟩, by omega, by omega⟩
    · have h' : ¬ (j : Int) < L.length := by omega
      simp [go_sem, h, h']
      refine IWp.now ?_
      simp [go_sem]
  · rintro _ _
    clear hd hw hrn hbd hne hpl cw
    refine IWp.seqI ?_
    simp [go_sem]
    have hg : ∀ j, (P.take j).countP (fun p => decide (1 < p)) ≤ j := fun j => Nat.le_trans List.countP_le_length (by simp; omega)
    refine IWp.seqT (α := Unit) (fun _ => (⟨false, 188, 23, [24, 56, 57, 58, 59, 60, 119, 138, 141, 143, 144, 145, 146, 150, 167, 168, 169, 186], glT, [(5, .int .i64 (n : Int)), (6, .fz 6 (rss out)), (7, .fz 4 (mts L)), (16, .int .i64 (out.length : Nat))], []⟩, [.dead])) (fun _ => True) ?_ ?_
    · simp [go_sem, hPl]
      refine IWp.loopT (α := Nat) (fun j => (⟨false, 188, 23, [24, 56, 57, 58, 59, 60, 119, 138, 141, 143, 144, 145, 146, 150, 167, 168, 169, 186], glT, [(5, .int .i64 (n : Int)), (6, .fz 6 (rss out)), (7, .fz 4 (mts L)), (16, .int .i64 ((P.take j).countP (fun p => decide (1 < p)) : Nat)), (143, .fz 1 (ints P)), (144, .int .i64 (n : Nat)), (145, .int .i64 (j : Int))], []⟩, [.dead]))
        (fun j => j ≤ n) (fun j => n - j) 0 (by simp) (by simp [go_sem]) ?_
      intro j hj
      by_cases h : j < n
      · have v1 : IntKind.i64.wrap ((j : Int) + 1) = ((j + 1 : Nat) : Int) := by rw [wrap64 (by omega) (by omega)]; omega
        have hjP : j < P.length := by omega
        have hs : (P.take (j + 1)).countP (fun p => decide (1 < p)) = (P.take j).countP (fun p => decide (1 < p)) + (if 1 < P[j] then 1 else 0) := by
          rw [List.take_succ_eq_append_getElem hjP, List.countP_append]
          congr 1
          by_cases hc : 1 < P[j] <;> simp [hc]
        have hgj := hg j
        obtain ⟨c, hc⟩ : ∃ c, (P.take j).countP (fun p => decide (1 < p)) = c := ⟨_, rfl⟩
        rw [hc] at hs hgj ⊢
        have v2 : IntKind.i64.wrap ((c : Int) + 1) = ((c + 1 : Nat) : Int) := by rw [wrap64 (by omega) (by omega)]; omega
        obtain ⟨p, hp⟩ : ∃ p, P[j] = p := ⟨_, rfl⟩
        rw [hp] at hs
        by_cases hp1 : 1 < p
        · rw [if_pos hp1] at hs
          simp [go_sem, h, hPl, hjP, hp, hp1, v1, v2]
          exact ⟨j + 1, ⟨by omega, rfl⟩, by omega, by omega⟩
        · rw [if_neg hp1] at hs
          simp [go_sem, h, hPl, hjP, hp, hp1, v1]
          exact ⟨j + 1, ⟨by omega, rfl⟩, by omega, by omega⟩
      · obtain rfl : j = n := by omega
        rw [List.take_of_length_le (by omega), hgone]
        simp [go_sem]
    · rintro _ _
      have v1 : IntKind.i64.wrap ((n : Int) - 1) = ((n - 1 : Nat) : Int) := by rw [wrap64 (by omega) (by omega)]; omega
      refine IWp.seqT (α := Unit) (fun _ => (⟨false, 188, 23, [24, 56, 57, 58, 59, 60, 119, 138, 141, 143, 144, 145, 146, 150, 167, 168, 169, 186], glT, [(5, .int .i64 (n : Int)), (6, .fz 6 (rss out))], []⟩, [.dead])) (fun _ => True) ?_ ?_
      · by_cases hc : L = []
        · have hc2 := hover.1 hc
          simp [go_sem, v1, hc, hc2]
        · have hc2 : ¬ out.length = n - 1 := fun e => hc (hover.2 e)
          have hc3 : ¬ (out.length : Int) = ((n - 1 : Nat) : Int) := by omega
          have hc4 : ¬ L.length = 0 := fun e => hc (List.length_eq_zero_iff.1 e)
          have hc5 : ¬ (L.length : Int) = 0 := by omega
          have hc6 : (n : Int) - 1 = ((n - 1 : Nat) : Int) := by omega
          obtain ⟨N1, hN1⟩ : ∃ N1, n - 1 = N1 := ⟨_, rfl⟩
          rw [hN1] at v1 hc2 hc3
          have hb1 : ((L.length : Int) == 0) = false := by simpa using hc
          have hb2 : ((out.length : Int) == (N1 : Int)) = false := by simpa using hc3
          simp [go_sem, v1, hc, hc2, hc3, hc4, hc5, hb1, hb2]
      · rintro _ _
        clear v1 hover hgone hg
        refine IWp.seqT (α := Unit) (fun _ => (⟨false, 188, 23, [24, 56, 57, 58, 59, 60, 119, 138, 141, 143, 144, 145, 146, 150, 167, 168, 169, 186], glT, [], []⟩, [.dead])) (fun _ => True) ?_ ?_
        · simp [go_sem]
          refine IWp.loopI (α := Nat) (fun j => (⟨false, 188, 23, [24, 56, 57, 58, 59, 60, 119, 138, 141, 143, 144, 145, 146, 150, 167, 168, 169, 186], glT, [(5, .int .i64 (n : Int)), (6, .fz 6 (rss out)), (168, .int .i64 (j : Int))], []⟩, [.dead]))
            (fun j => j ≤ 7) (fun j => 7 - j) 0 (by simp) (by simp [go_sem]) ?_
          intro j hj
          refine IWp.seqI ?_
          simp [go_sem]
          refine IWp.seqI ?_
          by_cases h : j < 7
          · have h' : (j : Int) < 7 := by omega
            have v1 : IntKind.i64.wrap ((j : Int) + 1) = ((j + 1 : Nat) : Int) := by rw [wrap64 (by omega) (by omega)]; omega
            simp [go_sem, h, h']
            refine IWp.seq ?_
            refine IWp.block ?_
            refine IWp.seqI ?_
            simp [go_sem]
            refine IWp.seqI ?_
            simp [go_sem]
            refine (cloneRes_fun out (by omega)).callOF (by simp [go_sem]) ?_
            rintro _ rfl
            refine ⟨fun v => v, 6, _, .here, by decide, rfl, by simp [go_sem], ?_⟩
            simp [go_sem]
            refine (delRes_none out j (by omega)).at [2, 1] (by simp [go_sem]) ?_
            rintro _ _ ⟨d, r, rfl, rfl⟩
            have hE := hearly (j : Int)
            have hEf : ∀ x ∈ earlyL out (j : Int), FitR x := fun x hx => hf x (List.mem_filter.1 hx).1
            have hEl : (earlyL out (j : Int)).length ≤ out.length := List.length_filter_le ..
            have cc := check_good h1 h2 hE (by omega) hEf
            generalize earlyL out (j : Int) = E at *
            have htk3 : List.take E.length (rss E ++ jz d r) = rss E := by rw [List.take_append_of_le_length (by simp), List.take_of_length_le (by simp)]
            simp [go_sem]
            refine IWp.seqI ?_
            simp [go_sem]
            refine cc.callF (by simp [go_sem, htk3]) ?_
            rintro _ rfl
            simp [go_sem]
            refine IWp.now ?_
            simp [go_sem]
            refine IWp.now ?_
            simp [go_sem, v1]
            exact ⟨j + 1, by omega, by omega, by omega⟩
          · have h' : ¬ (j : Int) < 7 := by omega
            simp [go_sem, h, h']
        · rintro _ _
          refine IWp.now ?_
          simp [go_sem]
          exact hR _ _ _ rfl (by simp [go_sem])
theorem fit_sms {c : IV} (h : (Shp.fz 4 [.int .u8, .int .u8, .int .u8, .int .i8]).fit c) : ∃ l : List Sm, c = .fz 4 (sms l) ∧ (∀ x ∈ l, FitS x) ∧ l.length ≤ maxLen :=
  fit_list (f := Sm.cells) (fun r hr => by
    obtain ⟨w, r1, rfl, hw, h1⟩ := fitL_int hr
    obtain ⟨a, r2, rfl, ha, h2⟩ := fitL_int h1
    obtain ⟨b, r3, rfl, hb, h3⟩ := fitL_int h2
    obtain ⟨c, r4, rfl, hc, h4⟩ := fitL_int h3
    obtain rfl := fitL_nil h4
    refine ⟨⟨w, a, b, c⟩, rfl, wf8 hw, wf8 ha, wf8 hb, ?_⟩
    have := bounds_i8 hc
    show -128 ≤ c ∧ c < 128
    omega) h
theorem knockGoes_law (t : Int) (xs : List Sm) (h0 : (Lit.int .u8 t).wf = true) (h1 : ∀ x ∈ xs, FitS x) (h2 : xs.length ≤ maxLen) : FN 8 [.int .u8 t, .fz 4 (sms xs)] (fun v => v = .bool true) :=
  knockGoes_fun t (wf8 h0) xs h1 (by unfold maxLen at h2; omega)
end Go.Idl
