/-
  Chapter 28: CheckMade.
-/
import Derived.Test.YtdnkleclccjffaaC28PartZ
import Derived.Test.YtdnkleclccjffaaC28PartZB
import Derived.Test.YtdnkleclccjffaaC28PartF
import Derived.Test.YtdnkleclccjffaaC28PartC
namespace Go.Idl
set_option linter.all false
open Go.Proofs Go.RowKit
set_option maxHeartbeats 8000000
set_option maxRecDepth 40000

theorem fair_plays {T N S C Q : Int} {L : List Rw} (h : Fair T N S C Q L) {p : Int} (hp : p ≠ 0) : (playsL L p).Nodup ∧ ∀ s ∈ playsL L p, 0 ≤ s ∧ s < S := by
  unfold playsL
  refine ⟨List.pairwise_map.2 ((h.pw.filter _).imp_of_mem fun {x y} hx hy ha => ?_), fun s hs => ?_⟩
  · have ex := (List.mem_filter.1 hx).2
    have ey := (List.mem_filter.1 hy).2
    unfold playB at ex ey
    simp only [Bool.and_eq_true, Bool.or_eq_true, beq_iff_eq] at ex ey
    exact (ha.2.1 p hp (by unfold sitsP; omega) (by unfold sitsP; omega)).2
  · obtain ⟨x, hx, rfl⟩ := List.mem_map.1 hs
    have := h.rng x (List.mem_filter.1 hx).1
    omega
def fstL (B : Int) (n : Nat) : List Int := (List.range n).map fun s : Nat => (s : Int) * B + 1
@[simp] theorem fstL_length (B : Int) (n : Nat) : (fstL B n).length = n := by simp [fstL]
theorem fstL_succ (B : Int) (n : Nat) : fstL B (n + 1) = fstL B n ++ [(n : Int) * B + 1] := by simp [fstL, List.range_succ]
theorem fstL_get (B : Int) (n i : Nat) (h : i < (fstL B n).length) : (fstL B n)[i] = (i : Int) * B + 1 := by simp [fstL]
/-- The boards that were seen. -/
def seenL (D : List Int) : List (List IV) := ar 129 fun x => .bool (decide ((x : Int) ∈ D))
@[go_sem] theorem BlR_seenL {n : Nat} {D : List Int} : BlR n (seenL D) = True := BlR_ar_bool
@[simp] theorem seenL_length (D : List Int) : (seenL D).length = 129 := by simp [seenL, ar]
theorem seenL_nil : seenL [] = List.replicate 129 [.bool false] := by rw [ar_rep]; simp [seenL]
theorem seenL_set (D : List Int) (b : Nat) : (seenL D).set b [.bool true] = seenL (D ++ [(b : Int)]) := by
  unfold seenL
  rw [ar_set]
  congr 1
  funext x
  unfold upF
  by_cases h : x = b
  · subst h; simp
  · have : ¬ (x : Int) = b := by omega
    simp [h, this]
/-- A movement without pairs. -/
structure WoOK (M : Mv) (L : List Rw) (Q : Int) : Prop where
  len : L.length = M.rows.length
  fair : Fair M.tables M.rounds M.sets M.copies Q L
theorem checkMade_fun (t r k bo : Int) (out : List Int) (ht : 0 ≤ t ∧ t < 256) (hr : 0 ≤ r ∧ r < 256) (hk : 0 ≤ k ∧ k < 256) (hbo : 0 ≤ bo ∧ bo < 256) (ho : ∀ x ∈ out, 0 ≤ x ∧ x < 256) (hol : out.length < 2 ^ 63) : FN 10 [.int .u8 t, .int .u8 r, .int .u8 k, .int .u8 bo, .fz 1 (bys .u8 out)] (fun v => v = .bool true) := by
  refine IFun.of_bodyZ false 30 [31, 40, 41, 42, 43, 50, 80, 94, 98, 100, 101, 102, 121, 128, 129, 130, 131, 137, 138, 139, 140, 155, 161] Try.func10 rfl Try.call10 rfl fun R hR => ?_
  obtain ⟨T, N, ok⟩ := md28_ok ht.1 hr.1 hk.1 (t := t) (r := r) (k := k)
  have c := made28_fun t r k ht hr hk
  obtain ⟨M, hM⟩ : ∃ M, md28 t r k = M := ⟨_, rfl⟩
  rw [hM] at ok c
  clear hM
  have hlen := ok.len_le
  have hfair := ok.fair
  have hfr := ok.frame
  have hT24 := ok.t2
  have s1 := ok.s1
  have s2 := ok.s2
  obtain ⟨tb, ro, se, co, wi, L⟩ := M
  simp only at hlen hfair s1 s2
  obtain ⟨K, hK⟩ : ∃ K : Nat, (if (3 : Int) < out.length then (3 : Int) else out.length) = K := ⟨min 3 out.length, by split <;> omega⟩
  have hKl : K ≤ out.length := by split at hK <;> omega
  have hKI : (K : Int) ≤ out.length := by omega
  obtain ⟨O, hO⟩ : ∃ O, out.take K = O := ⟨_, rfl⟩
  have hOt : (bys .u8 out).take K = bys .u8 O := by rw [← bys_take, hO]
  have hOl : O.length = K := by rw [← hO]; simp; omega
  have hOm : ∀ x ∈ O, 0 ≤ x ∧ x < 256 := fun x hx => ho x (by rw [← hO] at hx; exact List.mem_of_mem_take hx)
  simp [go_sem]
  refine awake_fun.callF (by simp [go_sem]) ?_
  rintro _ rfl
  simp [go_sem]
  refine c.callM (by simp [go_sem]) ?_
  rintro _ rfl
  simp [go_sem, Mv.v, hK, hKl, hKI, hOt, hOl]
  refine IWp.loopT (α := Nat × List Rw) (fun x => (⟨false, 167, 30, [31, 40, 41, 42, 43, 50, 80, 94, 98, 100, 101, 102, 121, 128, 129, 130, 131, 137, 138, 139, 140, 155, 161], [], [(3, .int .u8 bo), (11, .ptr 0 1 0 0), (40, .fz 1 (bys .u8 O)), (41, .int .i64 (K : Int)), (42, .int .i64 (x.1 : Int))], []⟩, [.rows 6 [mcells ⟨tb, ro, se, co, wi, x.2⟩]]))
    (fun x => x.1 ≤ K ∧ WoOK ⟨tb, ro, se, co, wi, L⟩ x.2 ((2 * T + 1 : Nat) : Int)) (fun x => K - x.1) (0, L) (by refine ⟨by simp, rfl, ?_⟩; exact hfair) (by simp [go_sem, mcells]) ?_
  rintro ⟨i, l⟩ ⟨hi, hl⟩
  simp only at hi
  have hll : l.length ≤ 1128 := by rw [hl.len]; exact hlen
  by_cases h : i < K
  · have v1 : IntKind.i64.wrap ((i : Int) + 1) = i + 1 := wrap64 (by omega) (by omega)
    have hiO : i < O.length := by omega
    have hx := hOm O[i] (List.getElem_mem hiO)
    generalize hxe : O[i] = x at hx
    have v2 : IntKind.i64.wrap x = x := wrap64 (by omega) (by omega)
    have hAl := prs_len l
    have hAm := fun p => @prs_mem l p
    have cp := pairs_fun ⟨tb, ro, se, co, wi, l⟩ (by simp only; omega)
    simp only at cp
    obtain ⟨A, hA⟩ : ∃ A, prs l = A := ⟨_, rfl⟩
    rw [hA] at hAl cp
    rw [hA] at hAm
    simp [go_sem, mcells, h, hiO, hxe]
    refine cp.callF (by simp [go_sem, Mv.v]) ?_
    rintro _ rfl
    by_cases h0 : A.length = 0
    · obtain rfl : A = [] := List.length_eq_zero_iff.1 h0
      simp [go_sem, v1]
      exact ⟨i + 1, l, ⟨by omega, by simp [mcells]⟩, ⟨by omega, hl⟩, by omega⟩
    · have hz : ¬ (A.length : Int) = 0 := by omega
      have hz2 : (0 : Int) < A.length := by omega
      have hz3 : 0 < A.length := by omega
      have hne : ¬ A = [] := fun e => h0 (by rw [e]; rfl)
      have e1 : x.tmod A.length = x % A.length := Int.tmod_eq_emod_of_nonneg (by omega)
      have m1 := Int.emod_nonneg x hz
      have m2 := Int.emod_lt_of_pos x hz2
      obtain ⟨j, hj⟩ : ∃ j : Nat, x % (A.length : Int) = j := ⟨(x % (A.length : Int)).toNat, by omega⟩
      rw [hj] at e1 m2
      have hjl : j < A.length := by omega
      have hpm := (hAm A[j]).1 (List.getElem_mem hjl)
      obtain ⟨p, hp⟩ : ∃ p, A[j] = p := ⟨_, rfl⟩
      rw [hp] at hpm
      have hwE : woE p ⟨tb, ro, se, co, wi, l⟩ = 0 := by
        have hh : hasP' p l = true := by
          obtain ⟨y, hy, hyp⟩ := hpm.2
          exact List.any_eq_true.2 ⟨y, hy, by simpa using hyp⟩
        unfold woE
        rw [if_pos ⟨hpm.1, hh⟩]
      have hwM : woM p ⟨tb, ro, se, co, wi, l⟩ = ⟨tb, ro, se, co, wi, l.map (wF p)⟩ := by unfold woM; rw [if_pos hwE]
      have cw := without_fun ⟨tb, ro, se, co, wi, l⟩ p (by simp only; omega)
      rw [hwE, hwM] at cw
      simp only [Mv.v] at cw
      have hl' : WoOK ⟨tb, ro, se, co, wi, L⟩ (l.map (wF p)) ((2 * T + 1 : Nat) : Int) := ⟨by rw [List.length_map]; exact hl.len, hl.fair.without p⟩
      generalize l.map (wF p) = l' at *
      simp [go_sem, hz2, hz3]
      refine Drawn.intro (fun q => if q = 9 then .tup [.agg [.int .i64 tb, .int .i64 ro, .int .i64 se, .int .i64 co, .int .i64 wi, .fz 5 (rws l')], .int .i64 0] else .tup []) ?_
      simp [go_sem, cw, v1, v2, e1, hne, hjl, hp]
      refine ⟨by decide +kernel, ?_⟩
      exact ⟨i + 1, l', ⟨by omega, by simp [mcells]⟩, ⟨by omega, hl'⟩, by omega⟩
  · obtain rfl : i = K := by omega
    have hf2 : frameP ⟨tb, ro, se, co, wi, l⟩ := by
      obtain ⟨a1, a2, a3, a4, a5, a6, a7, a8, a9⟩ := hfr
      refine ⟨a1, a2, a3, a4, a5, a6, a7, a8, ?_⟩
      have := hl.len
      simp only at a9 this ⊢
      omega
    have hf := hl.fair
    have hp1 := fair_pass (m := ⟨tb, ro, se, co, wi, l⟩) (lim := 1) (by omega) hf2 hf
    have hses := fun b => fair_ses (m := ⟨tb, ro, se, co, wi, l⟩) (b := b) hf2 hf (by omega)
    have hinc : Inc (prs l) := srt_inc _
    have hAl := prs_len l
    have hAm := fun p => @prs_mem l p
    have cp := pairs_fun ⟨tb, ro, se, co, wi, l⟩ (by simp only; omega)
    simp only at cp hses
    obtain ⟨A, hA⟩ : ∃ A, prs l = A := ⟨_, rfl⟩
    rw [hA] at hAl cp hinc
    rw [hA] at hAm
    have v2 : IntKind.i64.wrap bo = bo := wrap64 (by omega) (by omega)
    have e1 : bo.tmod 10 = bo % 10 := Int.tmod_eq_emod_of_nonneg (by omega)
    obtain ⟨B, hB⟩ : ∃ B, 1 + bo % 10 = B := ⟨_, rfl⟩
    have v3 : IntKind.i64.wrap (1 + bo % 10) = B := by rw [hB]; exact wrap64 (by omega) (by omega)
    have hB1 : 1 ≤ B ∧ B ≤ 10 := by omega
    have hSB : 0 ≤ se * B ∧ se * B ≤ 47 * 10 := ⟨Int.mul_nonneg (by omega) (by omega), Int.mul_le_mul s2 (by omega) (by omega) (by omega)⟩
    have v4 : IntKind.i64.wrap (se * B) = se * B := wrap64 (by omega) (by omega)
    have hq := quo_le (s := se) (b := B) s1 (by omega)
    have v0 : IntKind.i64.wrap 0 = 0 := by decide
    simp [go_sem, mcells]
    refine (passes_fun ⟨tb, ro, se, co, wi, l⟩ 1).callF (by simp [go_sem, Mv.v]) ?_
    rintro _ rfl
    rw [hp1.1, hp1.2]
    simp [go_sem]
    refine (frame_fun ⟨tb, ro, se, co, wi, l⟩).callF (by simp [go_sem, Mv.v]) ?_
    rintro _ rfl
    simp [go_sem, hf2, v2, v3, e1]
    refine (session_fun ⟨tb, ro, se, co, wi, l⟩ B).callF (by simp [go_sem, sesV]) ?_
    rintro _ rfl
    by_cases hbig : 128 < se * B
    · have hs282 : sesE ⟨tb, ro, se, co, wi, l⟩ B = 282 := by rw [hses, if_pos (.inr (hq.2 (by rw [Int.mul_comm]; exact hbig)))]
      rw [hs282]
      simp [go_sem, v4, hbig]
      exact hR _ _ _ rfl (by simp [go_sem])
    · have hs0 : sesE ⟨tb, ro, se, co, wi, l⟩ B = 0 := by
        rw [hses, if_neg]
        rintro (h1 | h1)
        · omega
        · have := hq.1 h1
          rw [Int.mul_comm] at this
          exact hbig this
      rw [hs0]
      simp [go_sem, v4, hbig]
      obtain ⟨S, hS⟩ : ∃ S : Nat, se = S := ⟨se.toNat, by omega⟩
      refine IWp.ownNilS 1 19 (by decide) rfl ?_
      have hSb : ∀ s : Nat, s < S → 0 ≤ (s : Int) * B ∧ (s : Int) * B + B ≤ 128 := fun s hs => by
        refine ⟨Int.mul_nonneg (by omega) (by omega), ?_⟩
        have := Int.mul_le_mul_of_nonneg_right (show (s : Int) + 1 ≤ se by omega) (show 0 ≤ B by omega)
        rw [Int.add_mul, Int.one_mul] at this
        omega
      have hbr := fun (s : Nat) (h : s < S) => brd_at (M := ⟨tb, ro, se, co, wi, l⟩) (s := (s : Int)) hs0 (by omega) (by simp only; omega)
      subst hS
      refine IWp.loopT (α := Nat) (fun n => (⟨false, 167, 30, [31, 40, 41, 42, 43, 50, 80, 94, 98, 100, 101, 102, 121, 128, 129, 130, 131, 137, 138, 139, 140, 155, 161], [], [(11, .ptr 0 1 0 0), (17, .ptr 1 1 0 0), (19, .sl 2 n 0 n none), (100, .int .i64 (S : Int)), (101, .int .i64 (n : Int))], []⟩, [.rows 6 [mcells ⟨tb, ro, S, co, wi, l⟩], .rows 7 [scells ⟨tb, ro, S, co, wi, l⟩ B], .rows 1 (ints (fstL B n))]))
        (fun n => n ≤ S) (fun n => S - n) 0 (by simp) (by simp [go_sem, mcells, scells, fstL]) ?_
      intro n hn
      by_cases h2 : n < S
      · have w1 : IntKind.i64.wrap ((n : Int) + 1) = n + 1 := wrap64 (by omega) (by omega)
        have hX := hSb n h2
        have hbn := hbr n h2
        have hsn := fstL_succ B n
        obtain ⟨X, hXe⟩ : ∃ X, (n : Int) * B = X := ⟨_, rfl⟩
        rw [hXe] at hX hbn hsn
        have w2 : IntKind.i64.wrap (X + B - (X + 1)) = B - 1 := by rw [show X + B - (X + 1) = B - 1 by omega]; exact wrap64 (by omega) (by omega)
        have w2' : IntKind.i64.wrap (B - 1) = B - 1 := wrap64 (by omega) (by omega)
        have w3' : IntKind.i64.wrap B = B := wrap64 (by omega) (by omega)
        have w3 : IntKind.i64.wrap (B - 1 + 1) = B := by rw [show B - 1 + 1 = B by omega]; exact wrap64 (by omega) (by omega)
        simp [go_sem, mcells, scells, h2]
        refine (boards_fun28 ⟨tb, ro, S, co, wi, l⟩ B n).callF (by simp [go_sem, sesV]) ?_
        rintro _ rfl
        rw [hbn]
        simp [go_sem, w1, w2, w3, w2', w3']
        refine ⟨by omega, n + 1, ?_, by omega, by omega⟩
        rw [hsn, ints_snoc]
        simp
      · obtain rfl : n = S := by omega
        simp [go_sem, mcells, scells]
        refine cp.callF (by simp [go_sem, Mv.v]) ?_
        rintro _ rfl
        simp [go_sem]
        refine IWp.loopT (α := Nat) (fun i => (⟨false, 167, 30, [31, 40, 41, 42, 43, 50, 80, 94, 98, 100, 101, 102, 121, 128, 129, 130, 131, 137, 138, 139, 140, 155, 161], [], [(11, .ptr 0 1 0 0), (17, .ptr 1 1 0 0), (19, .sl 2 n 0 n none), (128, .fz 1 (ints A)), (129, .int .i64 A.length), (130, .int .i64 (i : Int))], []⟩, [.rows 6 [mcells ⟨tb, ro, n, co, wi, l⟩], .rows 7 [scells ⟨tb, ro, n, co, wi, l⟩ B], .rows 1 (ints (fstL B n))]))
          (fun i => i ≤ A.length) (fun i => A.length - i) 0 (by simp) (by simp [go_sem, mcells, scells]) ?_
        intro i2 hi2
        by_cases h3 : i2 < A.length
        · have w1 : IntKind.i64.wrap ((i2 : Int) + 1) = i2 + 1 := wrap64 (by omega) (by omega)
          obtain ⟨p, hp⟩ : ∃ p, A[i2] = p := ⟨_, rfl⟩
          have hp1 : 1 ≤ p := ((hAm p).1 (by rw [← hp]; exact List.getElem_mem h3)).1
          obtain ⟨hPn, hPm⟩ := fair_plays hf (p := p) (by omega)
          have hPl := playsL_len l p
          have cpl := plays_fun ⟨tb, ro, n, co, wi, l⟩ p (by simp only; omega)
          simp only at cpl
          obtain ⟨P, hP⟩ : ∃ P, playsL l p = P := ⟨_, rfl⟩
          rw [hP] at hPn hPm hPl cpl
          have hPm : ∀ s ∈ P, 0 ≤ s ∧ s < (n : Int) := hPm
          simp [go_sem, mcells, scells, h3, hp, -List.reduceReplicate]
          refine cpl.callF (by simp [go_sem, Mv.v, -List.reduceReplicate]) ?_
          rintro _ rfl
          rw [← seenL_nil]
          simp [go_sem]
          refine IWp.loopT (α := Nat × List Int) (fun x => (⟨false, 167, 30, [31, 40, 41, 42, 43, 50, 80, 94, 98, 100, 101, 102, 121, 128, 129, 130, 131, 137, 138, 139, 140, 155, 161], [], [(11, .ptr 0 1 0 0), (17, .ptr 1 1 0 0), (19, .sl 2 n 0 n none), (26, .sl 3 129 0 129 none), (128, .fz 1 (ints A)), (129, .int .i64 A.length), (130, .int .i64 (i2 : Int)), (137, .fz 1 (ints P)), (138, .int .i64 P.length), (139, .int .i64 (x.1 : Int))], []⟩, [.rows 6 [mcells ⟨tb, ro, n, co, wi, l⟩], .rows 7 [scells ⟨tb, ro, n, co, wi, l⟩ B], .rows 1 (ints (fstL B n)), .rows 1 (seenL x.2)]))
            (fun x => x.1 ≤ P.length ∧ ∀ b ∈ x.2, ∃ s ∈ P.take x.1, s * B < b ∧ b ≤ s * B + B) (fun x => P.length - x.1) (0, []) (by simp) (by simp [go_sem, mcells, scells]) ?_
          rintro ⟨j, D⟩ ⟨hj, hD⟩
          simp only at hj hD
          by_cases h4 : j < P.length
          · have w4 : IntKind.i64.wrap ((j : Int) + 1) = j + 1 := wrap64 (by omega) (by omega)
            have hsr := hPm P[j] (List.getElem_mem h4)
            obtain ⟨s, hs⟩ : ∃ s : Nat, P[j] = s := ⟨P[j].toNat, by omega⟩
            have hdis : ∀ s' ∈ P.take j, s' ≠ (s : Int) := fun s' hs' e => by
              have hp : (P.take j ++ [P[j]]).Pairwise (· ≠ ·) := by
                rw [← List.take_succ_eq_append_getElem h4]
                exact List.Pairwise.sublist (List.take_sublist _ _) hPn
              exact (List.pairwise_append.1 hp).2.2 _ hs' P[j] (by simp) (by rw [hs]; exact e)
            have hsn : s < n := by omega
            have hX := hSb s hsn
            have hsf : s < (fstL B n).length := by simpa using hsn
            have hfs := fstL_get B n s hsf
            have htk := List.take_succ_eq_append_getElem h4
            have hsep : ∀ s' ∈ P.take j, ∀ b, s' * B < b → b ≤ s' * B + B → ¬ ((s : Int) * B < b ∧ b ≤ s * B + B) := fun s' hs' b b1 b2 b3 => by
              refine hdis s' hs' ?_
              rcases Int.lt_trichotomy s' s with hlt | hlt | hlt
              · have := Int.mul_le_mul_of_nonneg_right (show s' + 1 ≤ (s : Int) by omega) (show 0 ≤ B by omega)
                rw [Int.add_mul, Int.one_mul] at this; omega
              · exact hlt
              · have := Int.mul_le_mul_of_nonneg_right (show (s : Int) + 1 ≤ s' by omega) (show 0 ≤ B by omega)
                rw [Int.add_mul, Int.one_mul] at this; omega
            rw [hs] at htk
            obtain ⟨X, hXe⟩ : ∃ X : Nat, (s : Int) * B = X := ⟨((s : Int) * B).toNat, by omega⟩
            rw [hXe] at hX hfs hsep
            have w5 : IntKind.i64.wrap ((X : Int) + 1 + B) = X + 1 + B := wrap64 (by omega) (by omega)
            simp [go_sem, mcells, scells, h4, hs, hsn, hfs]
            refine IWp.loopT (α := Nat × List Int) (fun x => (⟨false, 167, 30, [31, 40, 41, 42, 43, 50, 80, 94, 98, 100, 101, 102, 121, 128, 129, 130, 131, 137, 138, 139, 140, 155, 161], [], [(11, .ptr 0 1 0 0), (17, .ptr 1 1 0 0), (19, .sl 2 n 0 n none), (26, .sl 3 129 0 129 none), (28, .int .i64 (s : Int)), (29, .int .i64 (x.1 : Int)), (128, .fz 1 (ints A)), (129, .int .i64 A.length), (130, .int .i64 (i2 : Int)), (137, .fz 1 (ints P)), (138, .int .i64 P.length), (139, .int .i64 (j : Int))], []⟩, [.rows 6 [mcells ⟨tb, ro, n, co, wi, l⟩], .rows 7 [scells ⟨tb, ro, n, co, wi, l⟩ B], .rows 1 (ints (fstL B n)), .rows 1 (seenL x.2)]))
              (fun x => X + 1 ≤ x.1 ∧ (x.1 : Int) ≤ X + 1 + B ∧ ∀ b ∈ x.2, (∃ s ∈ P.take j, s * B < b ∧ b ≤ s * B + B) ∨ ((X : Int) < b ∧ b < x.1)) (fun x => 300 - x.1) (X + 1, D) (by refine ⟨by simp, by simp; omega, fun b hb => .inl (hD b hb)⟩) (by simp [go_sem, mcells, scells]) ?_
            rintro ⟨b, E⟩ ⟨hb1, hb2, hE⟩
            simp only at hb1 hb2 hE
            by_cases h5 : (b : Int) < X + 1 + B
            · have w6 : IntKind.i64.wrap ((b : Int) + 1) = b + 1 := wrap64 (by omega) (by omega)
              have hb129 : b < 129 := by omega
              have hnot : (b : Int) ∉ E := fun hm => by
                rcases hE _ hm with ⟨s', hs', b1, b2⟩ | h
                · exact hsep s' hs' b b1 b2 (by omega)
                · omega
              have hget : ∀ h : b < (seenL E).length, (seenL E)[b] = [.bool false] := fun h => by simp [seenL, ar, hnot]
              simp [go_sem, mcells, scells, hsn, hfs, w5, h5]
              refine ⟨by decide +kernel, ?_⟩
              simp [go_sem, hb129, hget, w6, seenL_set]
              refine ⟨by omega, b + 1, E ++ [(b : Int)], ⟨by omega, rfl⟩, ⟨by omega, by omega, fun c hc => ?_⟩, by omega⟩
              rw [List.mem_append, List.mem_singleton] at hc
              rcases hc with hc | rfl
              · exact (hE c hc).imp (fun h => h) fun h => by omega
              · exact .inr (by omega)
            · simp [go_sem, mcells, scells, hsn, hfs, w5, h5, w4]
              refine ⟨by decide +kernel, ?_⟩
              refine ⟨j + 1, E, ⟨by omega, rfl⟩, ⟨by omega, fun c hc => ?_⟩, by omega⟩
              rw [htk]
              rcases hE c hc with ⟨s', hs', b1, b2⟩ | h
              · exact ⟨s', by simp [hs'], b1, b2⟩
              · exact ⟨s, by simp, by omega, by omega⟩
          · obtain rfl : j = P.length := by omega
            simp [go_sem, mcells, scells, w1]
            exact ⟨i2 + 1, by omega, by omega, by omega⟩
        · obtain rfl : i2 = A.length := by omega
          simp [go_sem, mcells, scells]
          exact hR _ _ _ rfl (by simp [go_sem])
theorem checkMade_law (t r k b : Int) (l : List Int) (h0 : (Lit.int .u8 t).wf = true) (h1 : (Lit.int .u8 r).wf = true) (h2 : (Lit.int .u8 k).wf = true) (h3 : (Lit.int .u8 b).wf = true) (h4 : ∀ x ∈ l, (Lit.int .u8 x).wf = true) (h5 : l.length ≤ maxLen) :
    FN 10 [.int .u8 t, .int .u8 r, .int .u8 k, .int .u8 b, .fz 1 (bys .u8 l)] (fun v => v = .bool true) := checkMade_fun t r k b l (wf8 h0) (wf8 h1) (wf8 h2) (wf8 h3) (fun x hx => wf8 (h4 x hx)) (by unfold maxLen at h5; omega)
end Go.Idl
