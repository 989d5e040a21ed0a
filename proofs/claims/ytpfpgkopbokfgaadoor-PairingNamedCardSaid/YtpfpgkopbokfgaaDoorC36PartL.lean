/-
  Chapter 36: the law PairingNamed f4.
-/
import Derived.Test.YtpfpgkopbokfgaaDoorC36PartK
namespace Go.Idl
set_option linter.all false
open Go.Proofs
set_option maxHeartbeats 8000000
set_option maxRecDepth 40000

def turnF (by_ t : Int) : Int := 1 + (t - 1 + by_) % 64
def tur2 (by_ : Int) (l : List (Int × Int)) : List (Int × Int) := l.map fun p => (turnF by_ p.1, turnF by_ p.2)
theorem turn_rng (b t : Int) : 1 ≤ turnF b t ∧ turnF b t ≤ 64 := by unfold turnF; omega
theorem turn_inj {b x y : Int} (hx : 1 ≤ x ∧ x ≤ 64) (hy : 1 ≤ y ∧ y ≤ 64) (h : turnF b x = turnF b y) : x = y := by unfold turnF at h; omega
theorem turn_fun (b t : Int) (hb : 0 ≤ b ∧ b ≤ 255) (ht : 1 ≤ t ∧ t ≤ 64) : F36 21 [.int .i64 t, .fptr 1 [[.int .u8 b]] 0 0] (fun v => v = .int .i64 (turnF b t)) := by
  refine IFun.of_bodyZ false 4 [] Tryd.func21 rfl Tryd.call21 rfl fun R hR => ?_
  have w1 : IntKind.i64.wrap (t - 1) = t - 1 := wrap64 (by omega) (by omega)
  have w2 : IntKind.i64.wrap b = b := wrap64 (by omega) (by omega)
  have w3 : IntKind.i64.wrap (t - 1 + b) = t - 1 + b := wrap64 (by omega) (by omega)
  have hr : (t - 1 + b).tmod 64 = (t - 1 + b) % 64 := Int.tmod_eq_emod_of_nonneg (by omega)
  have w4 : IntKind.i64.wrap (1 + (t - 1 + b) % 64) = 1 + (t - 1 + b) % 64 := wrap64 (by omega) (by omega)
  simp [go_sem, w1, w2, w3, hr, w4]
  exact hR _ _ _ rfl (by simp [go_sem, turnF])

theorem metB_turn {b : Int} {met : List (Int × Int)} (hm : ∀ p ∈ met, (1 ≤ p.1 ∧ p.1 ≤ 64) ∧ 1 ≤ p.2 ∧ p.2 ≤ 64) {x y : Int} (hx : 1 ≤ x ∧ x ≤ 64) (hy : 1 ≤ y ∧ y ≤ 64) : metB (tur2 b met) (turnF b x) (turnF b y) = metB met x y := by
  unfold tur2 metB
  rw [List.any_map, Bool.eq_iff_iff, List.any_eq_true, List.any_eq_true]
  have key : ∀ p ∈ met, ((turnF b p.1, turnF b p.2) = (turnF b x, turnF b y) ↔ p = (x, y)) ∧ ((turnF b p.1, turnF b p.2) = (turnF b y, turnF b x) ↔ p = (y, x)) := by
    intro p hp
    obtain ⟨h1, h2⟩ := hm p hp
    refine ⟨⟨fun e => ?_, fun e => by rw [e]⟩, ⟨fun e => ?_, fun e => by rw [e]⟩⟩
    · simp only [Prod.mk.injEq] at e; exact Prod.ext (turn_inj h1 hx e.1) (turn_inj h2 hy e.2)
    · simp only [Prod.mk.injEq] at e; exact Prod.ext (turn_inj h1 hy e.1) (turn_inj h2 hx e.2)
  constructor
  · rintro ⟨p, hp, h⟩
    simp only [Function.comp, Bool.or_eq_true, decide_eq_true_eq] at h
    exact ⟨p, hp, by simp only [Bool.or_eq_true, decide_eq_true_eq]; exact h.imp (key p hp).1.1 (key p hp).2.1⟩
  · rintro ⟨p, hp, h⟩
    simp only [Bool.or_eq_true, decide_eq_true_eq] at h
    exact ⟨p, hp, by simp only [Function.comp, Bool.or_eq_true, decide_eq_true_eq]; exact h.imp (key p hp).1.2 (key p hp).2.2⟩
theorem drT_turn {b : Int} {met : List (Int × Int)} (hm : ∀ p ∈ met, (1 ≤ p.1 ∧ p.1 ≤ 64) ∧ 1 ≤ p.2 ∧ p.2 ≤ 64) {l : List Int} (hn : l.Nodup) (hl : ∀ t ∈ l, 1 ≤ t ∧ t ≤ 64) : drT (tur2 b met) (l.map (turnF b)) = (drT met l).map (tur2 b) := by
  have h1 : drs (okT met) l = drs (fun x y => okT (tur2 b met) (turnF b x) (turnF b y)) l :=
    drs_congr l.length l (Nat.le_refl _) hn fun x hx y hy _ => by simp only [okT]; rw [metB_turn hm (hl x hx) (hl y hy)]
  rw [drT, drT, h1]
  exact drs_map (turnF b) (fun _ _ => rfl) l.length l (Nat.le_refl _)
theorem fst_turn {b : Int} {met : List (Int × Int)} (hm : ∀ p ∈ met, (1 ≤ p.1 ∧ p.1 ≤ 64) ∧ 1 ≤ p.2 ∧ p.2 ≤ 64) {l : List Int} (hn : l.Nodup) (hl : ∀ t ∈ l, 1 ≤ t ∧ t ≤ 64) :
    fstB (tur2 b met) (l.map (turnF b)) = fstB met l ∧ fstD (tur2 b met) (l.map (turnF b)) = tur2 b (fstD met l) := by
  unfold fstB fstD
  rw [drT_turn hm hn hl]
  cases drT met l <;> simp [tur2]
theorem err_turn {b : Int} {most : Nat} {teams : List Int} {met : List (Int × Int)} (h : MadeOK most teams met) (odd : Bool) : errN (teams.map (turnF b)) (tur2 b met) odd = errN teams met odd := by
  obtain ⟨h1, h2, h3, h4, h5⟩ := h
  have r1 : rightB teams met = true := by
    simp only [rightB, Bool.and_eq_true, decide_eq_true_eq, List.all_eq_true]
    refine ⟨⟨fun t ht => ?_, h1⟩, fun p hp => ?_⟩
    · have := h2 t ht; simp [numB]; omega
    · obtain ⟨q1, q2, q3⟩ := h4 p hp
      have e1 := h2 _ q1; have e2 := h2 _ q2
      simp [numB]; exact ⟨⟨by omega, by omega⟩, q3⟩
  have r2 : rightB (teams.map (turnF b)) (tur2 b met) = true := by
    simp only [rightB, Bool.and_eq_true, decide_eq_true_eq, List.all_eq_true]
    refine ⟨⟨fun t ht => ?_, ?_⟩, fun p hp => ?_⟩
    · obtain ⟨x, _, rfl⟩ := List.mem_map.1 ht
      have := turn_rng b x; simp [numB]; omega
    · rw [List.Nodup, List.pairwise_map, List.pairwise_iff_forall_sublist]
      intro x y hxy e
      have hx := h2 x (hxy.subset (by simp)); have hy := h2 y (hxy.subset (by simp))
      have := List.pairwise_iff_forall_sublist.1 h1 hxy
      exact this (turn_inj hx hy e)
    · obtain ⟨x, hx, rfl⟩ := List.mem_map.1 hp
      obtain ⟨q1, q2, q3⟩ := h4 x hx
      have e1 := turn_rng b x.1; have e2 := turn_rng b x.2
      simp [numB]
      exact ⟨⟨by omega, by omega⟩, fun e => q3 (turn_inj (h2 _ q1) (h2 _ q2) e)⟩
  unfold errN
  rw [r1, r2, List.length_map]
theorem map_eraseIdx' {α β : Type} (f : α → β) : ∀ (l : List α) (i : Nat), (l.eraseIdx i).map f = (l.map f).eraseIdx i
  | [], _ => by simp
  | a :: l, 0 => by simp
  | a :: l, i + 1 => by simp [map_eraseIdx' f l i]
theorem byeGo_nil (teams : List Int) (met : List (Int × Int)) (i : Nat) : byeGo teams met [] (i + 1) = if fstB met (teams.eraseIdx i) = true then (fstD met (teams.eraseIdx i), teams.getD i 0, 0) else byeGo teams met [] i := by
  rw [byeGo, if_neg (by simp)]
theorem draw_turn {b : Int} {most : Nat} {teams : List Int} {met : List (Int × Int)} (h : MadeOK most teams met) :
    (drawR (teams.map (turnF b)) (tur2 b met) []).1 = tur2 b (drawR teams met []).1 ∧ (drawR (teams.map (turnF b)) (tur2 b met) []).2.2 = (drawR teams met []).2.2 ∧
    (((drawR teams met []).2.1 = 0 ∧ (drawR (teams.map (turnF b)) (tur2 b met) []).2.1 = 0) ∨ ((1 ≤ (drawR teams met []).2.1 ∧ (drawR teams met []).2.1 ≤ 64) ∧ (drawR (teams.map (turnF b)) (tur2 b met) []).2.1 = turnF b (drawR teams met []).2.1)) := by
  have hm : ∀ p ∈ met, (1 ≤ p.1 ∧ p.1 ≤ 64) ∧ 1 ≤ p.2 ∧ p.2 ≤ 64 := fun p hp => ⟨h.2.1 _ (h.2.2.2.1 p hp).1, h.2.1 _ (h.2.2.2.1 p hp).2.1⟩
  have hgo : ∀ i, i ≤ teams.length → (byeGo (teams.map (turnF b)) (tur2 b met) [] i).1 = tur2 b (byeGo teams met [] i).1 ∧ (byeGo (teams.map (turnF b)) (tur2 b met) [] i).2.2 = (byeGo teams met [] i).2.2 ∧
      (((byeGo teams met [] i).2.1 = 0 ∧ (byeGo (teams.map (turnF b)) (tur2 b met) [] i).2.1 = 0) ∨ ((1 ≤ (byeGo teams met [] i).2.1 ∧ (byeGo teams met [] i).2.1 ≤ 64) ∧ (byeGo (teams.map (turnF b)) (tur2 b met) [] i).2.1 = turnF b (byeGo teams met [] i).2.1)) := by
    intro i
    induction i with
    | zero => intro _; exact ⟨rfl, rfl, .inl ⟨rfl, rfl⟩⟩
    | succ i ih =>
      intro hi
      have hil : i < teams.length := by omega
      have hsub : (teams.eraseIdx i).Sublist teams := List.eraseIdx_sublist _ _
      obtain ⟨f1, f2⟩ := fst_turn (b := b) hm (h.1.sublist hsub) fun t ht => h.2.1 t (hsub.subset ht)
      rw [map_eraseIdx'] at f1 f2
      have e1 : (teams.map (turnF b)).getD i 0 = turnF b (teams.getD i 0) := by simp [hil]
      have e2 : 1 ≤ teams.getD i 0 ∧ teams.getD i 0 ≤ 64 := h.2.1 _ (by simp [hil])
      rw [byeGo_nil, byeGo_nil, f1]
      by_cases hf : fstB met (teams.eraseIdx i) = true
      · rw [if_pos hf, if_pos hf]
        exact ⟨f2, rfl, .inr ⟨e2, e1⟩⟩
      · rw [if_neg hf, if_neg hf]
        exact ih (by omega)
  unfold drawR
  rw [err_turn h, List.length_map]
  by_cases h1 : errN teams met true ≠ 0
  · rw [if_pos h1, if_pos h1]; exact ⟨rfl, rfl, .inl ⟨rfl, rfl⟩⟩
  · rw [if_neg h1, if_neg h1]
    by_cases h2 : teams.length % 2 = 0
    · obtain ⟨f1, f2⟩ := fst_turn (b := b) hm h.1 h.2.1
      rw [if_pos h2, if_pos h2, f1, f2]
      by_cases h3 : fstB met teams = true
      · rw [if_pos h3, if_pos h3]; exact ⟨rfl, rfl, .inl ⟨rfl, rfl⟩⟩
      · rw [if_neg h3, if_neg h3]; exact ⟨rfl, rfl, .inl ⟨rfl, rfl⟩⟩
    · rw [if_neg h2, if_neg h2]; exact hgo _ (Nat.le_refl _)
theorem cnt_turn {b : Int} {most : Nat} {teams : List Int} {met : List (Int × Int)} (h : MadeOK most teams met) : cntN (teams.map (turnF b)) (tur2 b met) = cntN teams met := by
  unfold cntN
  have hm : ∀ p ∈ met, (1 ≤ p.1 ∧ p.1 ≤ 64) ∧ 1 ≤ p.2 ∧ p.2 ≤ 64 := fun p hp => ⟨h.2.1 _ (h.2.2.2.1 p hp).1, h.2.1 _ (h.2.2.2.1 p hp).2.1⟩
  rw [err_turn h, drT_turn hm h.1 h.2.1, List.length_map]

theorem drawR_in {teams : List Int} {met : List (Int × Int)} {byes : List Int} (hn : teams.Nodup) : ∀ p ∈ (drawR teams met byes).1, p.1 ∈ teams ∧ p.2 ∈ teams := by
  intro p hp
  unfold drawR at hp
  split at hp
  · cases hp
  · split at hp
    · split at hp
      · rename_i h1 h2 h3
        obtain ⟨q1, q2, _⟩ := drs_in (ok := okT met) _ teams (Nat.le_refl _) hn _ (fst_mem h3) p hp
        exact ⟨q1, q2⟩
      · cases hp
    · rcases byeGo_spec (teams := teams) (met := met) (byes := byes) teams.length (Nat.le_refl _) with ⟨g, _⟩ | ⟨j, hj, _, g2, g3⟩
      · rw [g] at hp; cases hp
      · rw [g3] at hp
        have hs : (teams.eraseIdx j).Sublist teams := List.eraseIdx_sublist _ _
        obtain ⟨q1, q2, _⟩ := drs_in (ok := okT met) _ _ (Nat.le_refl _) (hn.sublist hs) _ (fst_mem g2) p hp
        exact ⟨hs.subset q1, hs.subset q2⟩
theorem PairingNamed_law (order : List Int) (bits b : Int) (ho : ∀ b ∈ order, 0 ≤ b ∧ b ≤ 255) (hol : order.length < 2 ^ 63) (hb : 0 ≤ bits ∧ bits < 2 ^ 64) (hb8 : 0 ≤ b ∧ b ≤ 255) : F36 4 [.fz 1 (bys order), .int .u64 bits, .int .u8 b] (fun v => v = .bool true) := by
  refine IFun.of_bodyZ false 7 [7, 8, 9, 10, 11, 13, 15, 16, 17, 18, 19, 20, 21, 22, 23, 24, 25, 26, 27, 35, 36, 37, 38, 48, 49, 50, 51, 108, 109, 110, 111, 112, 129] Tryd.func4 rfl Tryd.call4 rfl fun R hR => ?_
  simp [go_sem]
  refine (Made_fun order bits 10 (by decide) ho hol hb).call (by simp [go_sem]) ?_
  rintro _ ⟨teams, met, hmd, rfl⟩
  have h3 := hmd.2.2.1
  have hml : met.length ≤ 100 := hmd.2.2.2.2
  have hm : ∀ p ∈ met, (1 ≤ p.1 ∧ p.1 ≤ 64) ∧ 1 ≤ p.2 ∧ p.2 ≤ 64 := fun p hp => ⟨hmd.2.1 _ (hmd.2.2.2.1 p hp).1, hmd.2.1 _ (hmd.2.2.2.1 p hp).2.1⟩
  simp [go_sem]
  refine IWp.ownNilS 1 10 (by decide) (by simp [go_sem]) ?_
  simp only [go_sem]
  refine IWp.loopT (α := Nat) (fun i => (⟨false, 154, 7, [7, 8, 9, 10, 11, 13, 15, 16, 17, 18, 19, 20, 21, 22, 23, 24, 25, 26, 27, 35, 36, 37, 38, 48, 49, 50, 51, 108, 109, 110, 111, 112, 129], glT, [(7, .fz 1 (ints teams)), (8, .fz 2 (prs met)), (9, .func (.func 21) [] [.ptr 0 1 0 0]), (10, .sl 1 i 0 i none), (11, .nils), (35, .fz 1 (ints teams)), (36, .int .i64 (teams.length : Int)), (37, .int .i64 (i : Int))], []⟩, [.rows 1 [[.int .u8 b]], .rows 1 (ints ((teams.take i).map (turnF b)))]))
    (fun i => i ≤ teams.length) (fun i => teams.length - i) 0 (by omega) (by simp [go_sem]) ?_
  intro i hi
  by_cases h : i < teams.length
  · have w1 : IntKind.i64.wrap ((i : Int) + 1) = i + 1 := wrap64 (by omega) (by omega)
    have hsn : (teams.take (i + 1)).map (turnF b) = (teams.take i).map (turnF b) ++ [turnF b teams[i]] := by rw [List.take_succ_eq_append_getElem h, List.map_append]; rfl
    have htl : ((teams.take i).map (turnF b)).length = i := by simp; omega
    simp [go_sem, h]
    refine (turn_fun b teams[i] hb8 (hmd.2.1 _ (List.getElem_mem h))).call (by simp [go_sem]) ?_
    rintro _ rfl
    simp [go_sem, w1]
    exact ⟨⟨by omega, by omega⟩, i + 1, ⟨⟨rfl, by omega⟩, by rw [← List.map_take, ← List.map_take, hsn, ints_snoc]⟩, by omega, by omega⟩
  have hil : i = teams.length := by omega
  subst hil
  rw [List.take_length]
  simp [go_sem]
  obtain ⟨O, hO⟩ : ∃ O, teams.map (turnF b) = O := ⟨_, rfl⟩
  have hOl : O.length = teams.length := by rw [← hO]; simp
  rw [hO]
  refine IWp.ownNilS 2 11 (by decide) (by simp [go_sem]) ?_
  simp only [go_sem]
  refine IWp.loopT (α := Nat) (fun i => (⟨false, 154, 7, [7, 8, 9, 10, 11, 13, 15, 16, 17, 18, 19, 20, 21, 22, 23, 24, 25, 26, 27, 35, 36, 37, 38, 48, 49, 50, 51, 108, 109, 110, 111, 112, 129], glT, [(7, .fz 1 (ints teams)), (8, .fz 2 (prs met)), (9, .func (.func 21) [] [.ptr 0 1 0 0]), (10, .sl 1 teams.length 0 teams.length none), (11, .sl 2 i 0 i none), (48, .fz 2 (prs met)), (49, .int .i64 (met.length : Int)), (50, .int .i64 (i : Int))], []⟩, [.rows 1 [[.int .u8 b]], .rows 1 (ints O), .rows 2 (prs (tur2 b (met.take i)))]))
    (fun i => i ≤ met.length) (fun i => met.length - i) 0 (by omega) (by simp [go_sem, tur2]) ?_
  clear h hi
  intro i hi
  by_cases h : i < met.length
  · have w1 : IntKind.i64.wrap ((i : Int) + 1) = i + 1 := wrap64 (by omega) (by omega)
    obtain ⟨p, hp⟩ : ∃ p, met[i] = p := ⟨_, rfl⟩
    obtain ⟨A, B⟩ := p
    obtain ⟨hA, hB⟩ := hm (A, B) (hp ▸ List.getElem_mem h)
    have hsn : tur2 b (met.take (i + 1)) = tur2 b (met.take i) ++ [(turnF b A, turnF b B)] := by rw [List.take_succ_eq_append_getElem h, tur2, List.map_append, hp]; rfl
    have htl : (tur2 b (met.take i)).length = i := by simp [tur2]; omega
    have c1 := turn_fun b A hb8 hA
    have c2 := turn_fun b B hb8 hB
    simp [go_sem, h, hp]
    refine Drawn.intro (fun q => if q = 4 then .int .i64 (turnF b A) else if q = 8 then .int .i64 (turnF b B) else .tup []) ?_
    simp [go_sem, c1, c2, w1]
    exact ⟨⟨by omega, by omega⟩, by decide +kernel, i + 1, ⟨⟨rfl, by omega⟩, by rw [hsn, prs_snoc]⟩, by omega, by omega⟩
  have hil : i = met.length := by omega
  subst hil
  rw [List.take_length]
  obtain ⟨E, hE⟩ : ∃ E, tur2 b met = E := ⟨_, rfl⟩
  have hEl : E.length = met.length := by rw [← hE]; simp [tur2]
  rw [hE]
  simp [go_sem]
  obtain ⟨d1, d2, d3⟩ := draw_turn (b := b) hmd
  have e1 := err_turn (b := b) hmd false
  have c1 := cnt_turn (b := b) hmd
  have dl := drawR_len teams met []
  rw [hO, hE] at d1 d2 d3 e1 c1
  obtain ⟨DR, hDR⟩ : ∃ DR, drawR teams met [] = DR := ⟨_, rfl⟩
  obtain ⟨DR2, hDR2⟩ : ∃ DR, drawR O E [] = DR := ⟨_, rfl⟩
  rw [hDR] at dl
  rw [hDR, hDR2] at d1 d2 d3
  have hin := drawR_in (met := met) (byes := []) hmd.1
  rw [hDR] at hin
  obtain ⟨D, bye, e⟩ := DR
  obtain ⟨D2, bye2, e2⟩ := DR2
  simp only at dl d1 d2 d3
  subst d2
  have hD2l : D2.length = D.length := by rw [d1]; simp [tur2]
  refine (Draw_fun teams met [] (by omega) (by omega) (by decide)).call (by simp [go_sem]) ?_
  rintro _ rfl
  rw [hDR, drawV]
  simp [go_sem]
  refine (Draw_fun O E [] (by omega) (by omega) (by decide)).call (by simp [go_sem, hOl, hEl]) ?_
  rintro _ rfl
  rw [hDR2, drawV]
  rcases d3 with ⟨rfl, rfl⟩ | ⟨hbr, rfl⟩
  · simp [go_sem, hD2l]
    refine IWp.loopT (α := Nat) (fun i => (⟨false, 154, 7, [7, 8, 9, 10, 11, 13, 15, 16, 17, 18, 19, 20, 21, 22, 23, 24, 25, 26, 27, 35, 36, 37, 38, 48, 49, 50, 51, 108, 109, 110, 111, 112, 129], glT, [(7, .fz 1 (ints teams)), (8, .fz 2 (prs met)), (9, .func (.func 21) [] [.ptr 0 1 0 0]), (10, .sl 1 teams.length 0 teams.length none), (11, .sl 2 met.length 0 met.length none), (19, .fz 2 (prs D2)), (109, .fz 2 (prs D)), (110, .int .i64 (D.length : Int)), (111, .int .i64 (i : Int))], []⟩, [.rows 1 [[.int .u8 b]], .rows 1 (ints O), .rows 2 (prs E)]))
      (fun i => i ≤ D.length) (fun i => D.length - i) 0 (by omega) (by simp [go_sem]) ?_
    clear h hi
    intro i hi
    by_cases h : i < D.length
    · have w1 : IntKind.i64.wrap ((i : Int) + 1) = i + 1 := wrap64 (by omega) (by omega)
      have h' : i < D2.length := by omega
      obtain ⟨p, hp⟩ : ∃ p, D[i] = p := ⟨_, rfl⟩
      obtain ⟨A, B⟩ := p
      have hq : D2[i] = (turnF b A, turnF b B) := by simp only [d1, tur2, List.getElem_map, hp]
      obtain ⟨hA, hB⟩ := hin (A, B) (hp ▸ List.getElem_mem h)
      have c3 := turn_fun b A hb8 (hmd.2.1 _ hA)
      have c4 := turn_fun b B hb8 (hmd.2.1 _ hB)
      simp [go_sem, h, hp]
      refine Drawn.intro (fun q => if q = 7 then .int .i64 (turnF b A) else if q = 11 then .int .i64 (turnF b B) else .tup []) ?_
      simp [go_sem, c3, c4, h', hq, w1]
      exact ⟨by decide +kernel, i + 1, by omega, by omega, by omega⟩
    · simp [go_sem, h]
      refine (Count_fun teams met (by omega) (by omega)).call (by simp [go_sem]) ?_
      rintro _ rfl
      simp [go_sem]
      refine (Count_fun O E (by omega) (by omega)).call (by simp [go_sem, hOl, hEl]) ?_
      rintro _ rfl
      rw [c1, e1]
      simp [go_sem]
      refine awake_fun.call (by simp [go_sem]) ?_
      rintro _ rfl
      simp [go_sem]
      exact hR _ _ _ rfl (by simp [go_sem])
  · have hb0 : ¬ bye = 0 := by omega
    have ht := turn_rng b bye
    have ht0 : ¬ turnF b bye = 0 := by omega
    have hb0' : (bye == 0) = false := by simpa using hb0
    have ht0' : (turnF b bye == 0) = false := by simpa using ht0
    simp [go_sem, hD2l, hb0, ht0, hb0', ht0']
    refine (turn_fun b bye hb8 hbr).call (by simp [go_sem]) ?_
    rintro _ rfl
    simp [go_sem]
    refine IWp.loopT (α := Nat) (fun i => (⟨false, 154, 7, [7, 8, 9, 10, 11, 13, 15, 16, 17, 18, 19, 20, 21, 22, 23, 24, 25, 26, 27, 35, 36, 37, 38, 48, 49, 50, 51, 108, 109, 110, 111, 112, 129], glT, [(7, .fz 1 (ints teams)), (8, .fz 2 (prs met)), (9, .func (.func 21) [] [.ptr 0 1 0 0]), (10, .sl 1 teams.length 0 teams.length none), (11, .sl 2 met.length 0 met.length none), (19, .fz 2 (prs D2)), (109, .fz 2 (prs D)), (110, .int .i64 (D.length : Int)), (111, .int .i64 (i : Int))], []⟩, [.rows 1 [[.int .u8 b]], .rows 1 (ints O), .rows 2 (prs E)]))
      (fun i => i ≤ D.length) (fun i => D.length - i) 0 (by omega) (by simp [go_sem]) ?_
    clear h hi
    intro i hi
    by_cases h : i < D.length
    · have w1 : IntKind.i64.wrap ((i : Int) + 1) = i + 1 := wrap64 (by omega) (by omega)
      have h' : i < D2.length := by omega
      obtain ⟨p, hp⟩ : ∃ p, D[i] = p := ⟨_, rfl⟩
      obtain ⟨A, B⟩ := p
      have hq : D2[i] = (turnF b A, turnF b B) := by simp only [d1, tur2, List.getElem_map, hp]
      obtain ⟨hA, hB⟩ := hin (A, B) (hp ▸ List.getElem_mem h)
      have c3 := turn_fun b A hb8 (hmd.2.1 _ hA)
      have c4 := turn_fun b B hb8 (hmd.2.1 _ hB)
      simp [go_sem, h, hp]
      refine Drawn.intro (fun q => if q = 7 then .int .i64 (turnF b A) else if q = 11 then .int .i64 (turnF b B) else .tup []) ?_
      simp [go_sem, c3, c4, h', hq, w1]
      exact ⟨by decide +kernel, i + 1, by omega, by omega, by omega⟩
    · simp [go_sem, h]
      refine (Count_fun teams met (by omega) (by omega)).call (by simp [go_sem]) ?_
      rintro _ rfl
      simp [go_sem]
      refine (Count_fun O E (by omega) (by omega)).call (by simp [go_sem, hOl, hEl]) ?_
      rintro _ rfl
      rw [c1, e1]
      simp [go_sem]
      refine awake_fun.call (by simp [go_sem]) ?_
      rintro _ rfl
      simp [go_sem]
      exact hR _ _ _ rfl (by simp [go_sem])
theorem PairingNamed_law' (order : List Int) (bits b : Int) (h1 : ∀ z ∈ order, (Lit.int .u8 z).wf = true) (h2 : order.length ≤ maxLen) (h3 : (Lit.int .u64 bits).wf = true) (h4 : (Lit.int .u8 b).wf = true) : F36 4 [.fz 1 (bys order), .int .u64 bits, .int .u8 b] (fun v => v = .bool true) :=
  PairingNamed_law order bits b (wf_bys h1) (len62 h2) (wf_u64 h3) (bounds_u8 h4)
end Go.Idl
