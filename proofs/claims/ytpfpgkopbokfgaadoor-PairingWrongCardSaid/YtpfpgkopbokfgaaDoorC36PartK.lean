/-
  Chapter 36: the law PairingRounds f11.
-/
import Derived.Test.YtpfpgkopbokfgaaDoorC36PartJ
namespace Go.Idl
set_option linter.all false
open Go.Proofs
set_option maxHeartbeats 8000000
set_option maxRecDepth 40000

theorem wo_erase : ∀ {ts : List Int} {j : Nat} (_ : ts.Nodup) (hj : j < ts.length), wo ts[j] ts = ts.eraseIdx j
  | [], _, _, hj => by simp at hj
  | x :: ts, 0, hn, _ => by
    rw [List.nodup_cons] at hn
    simp only [List.getElem_cons_zero, List.eraseIdx_zero, List.tail_cons]; rw [wo_cons_eq, wo_not hn.1]
  | x :: ts, j + 1, hn, hj => by
    rw [List.nodup_cons] at hn
    have hj' : j < ts.length := by simpa using hj
    simp only [List.getElem_cons_succ, List.eraseIdx_cons_succ]
    rw [wo_cons_ne (fun e => hn.1 (by rw [e]; exact List.getElem_mem hj')), wo_erase hn.2 hj']
theorem drs_in {ok : Int → Int → Bool} : ∀ (n : Nat) (l : List Int), l.length ≤ n → l.Nodup → ∀ d ∈ drs ok l, ∀ p ∈ d, p.1 ∈ l ∧ p.2 ∈ l ∧ p.1 ≠ p.2
  | _, [], _, _, d, hd, p, hp => by
    rw [drs_nil] at hd
    have : d = [] := by simpa using hd
    rw [this] at hp; cases hp
  | n + 1, a :: rest, hn, h, d, hd, p, hp => by
    rw [List.nodup_cons] at h
    obtain ⟨b, d', rfl, hb, _, hd'⟩ := (mem_drs h.2).1 hd
    rcases List.mem_cons.1 hp with rfl | hp
    · exact ⟨List.mem_cons_self .., List.mem_cons_of_mem _ hb, fun e => h.1 (by rw [show a = b from e]; exact hb)⟩
    · obtain ⟨q1, q2, q3⟩ := drs_in n (wo b rest) (by have := wo_length h.2 hb; simp at hn; omega) (wo_nodup h.2) d' hd' p hp
      exact ⟨List.mem_cons_of_mem _ (mem_wo.1 q1).1, List.mem_cons_of_mem _ (mem_wo.1 q2).1, q3⟩
theorem filter_le' {α : Type} {p q : α → Bool} : ∀ {l : List α}, (∀ x ∈ l, p x = true → q x = true) → (l.filter p).length ≤ (l.filter q).length
  | [], _ => by simp
  | a :: l, h => by
    have ih := filter_le' fun x hx => h x (List.mem_cons_of_mem _ hx)
    rw [List.filter_cons, List.filter_cons]
    by_cases ha : p a = true
    · rw [if_pos ha, if_pos (h a (List.mem_cons_self ..) ha)]; simpa using ih
    · rw [if_neg ha]
      by_cases hq : q a = true
      · rw [if_pos hq]; simp; omega
      · rw [if_neg hq]; exact ih
theorem filter_lt' {α : Type} {p q : α → Bool} : ∀ {l : List α}, (∀ x ∈ l, p x = true → q x = true) → (∃ x ∈ l, p x = false ∧ q x = true) → (l.filter p).length < (l.filter q).length
  | [], _, ⟨x, hx, _⟩ => by cases hx
  | a :: l, h, ⟨x, hx, h1, h2⟩ => by
    have hle := filter_le' fun x hx => h x (List.mem_cons_of_mem _ hx)
    rw [List.filter_cons, List.filter_cons]
    rcases List.mem_cons.1 hx with rfl | hx
    · rw [if_neg (by simp [h1]), if_pos h2]; simp; omega
    · have ih := filter_lt' (fun x hx => h x (List.mem_cons_of_mem _ hx)) ⟨x, hx, h1, h2⟩
      by_cases ha : p a = true
      · rw [if_pos ha, if_pos (h a (List.mem_cons_self ..) ha)]; simpa using ih
      · rw [if_neg ha]
        by_cases hq : q a = true
        · rw [if_pos hq]; simp; omega
        · rw [if_neg hq]; exact ih
theorem nodup_le : ∀ {a b : List Int}, a.Nodup → (∀ x ∈ a, x ∈ b) → a.length ≤ b.length
  | [], _, _, _ => by simp
  | x :: a, b, hn, h => by
    rw [List.nodup_cons] at hn
    have h1 : a.length ≤ (wo x b).length := nodup_le hn.2 fun y hy => mem_wo.2 ⟨h y (List.mem_cons_of_mem _ hy), fun e => hn.1 (e ▸ hy)⟩
    have h2 : (wo x b).length < (b.filter fun _ => true).length := filter_lt' (fun _ _ _ => rfl) ⟨x, h x (List.mem_cons_self ..), by simp, rfl⟩
    have h3 : (b.filter fun _ => true) = b := by rw [List.filter_eq_self]; intros; rfl
    rw [h3] at h2
    simp; omega
theorem metB_app (a b : List (Int × Int)) (x y : Int) : metB (a ++ b) x y = (metB a x y || metB b x y) := by simp [metB]
theorem fst_none {l : List Int} (hn : l.Nodup) (hl : l.length % 2 = 0) : fstB [] l = true := by
  have h1 := cnt_full (ok := okT []) l.length l rfl hn fun a _ b _ _ => by simp [okT, metB]
  have h2 : ∀ n, n % 2 = 0 → 0 < df n := by
    intro n
    induction n using Nat.strongRecOn with
    | _ n ih =>
      intro hn
      match n, hn, ih with
      | 0, _, _ => decide
      | 1, h, _ => simp at h
      | n + 2, h, ih => exact Nat.mul_pos (by omega) (ih n (by omega) (by omega))
  have h3 := h2 _ hl
  unfold cntL at h1
  unfold fstB
  cases hd : drT [] l with
  | nil => rw [show drs (okT []) l = drT [] l from rfl, hd] at h1; simp at h1; omega
  | cons x m => rfl

/-- What Draw answers in a round. -/
theorem byeGo_spec {teams : List Int} {met : List (Int × Int)} {byes : List Int} : ∀ i, i ≤ teams.length →
    (byeGo teams met byes i = ([], 0, 6) ∧ ∀ j, j < i → teams.getD j 0 ∉ byes → fstB met (teams.eraseIdx j) = false) ∨ ∃ j, j < i ∧ teams.getD j 0 ∉ byes ∧ fstB met (teams.eraseIdx j) = true ∧ byeGo teams met byes i = (fstD met (teams.eraseIdx j), teams.getD j 0, 0)
  | 0, _ => .inl ⟨rfl, fun j hj => by omega⟩
  | i + 1, hi => by
    have ih := byeGo_spec (teams := teams) (met := met) (byes := byes) i (by omega)
    rw [byeGo]
    by_cases hb : teams.getD i 0 ∈ byes
    · rw [if_pos hb]
      rcases ih with ⟨h1, h2⟩ | ⟨j, h1, h2⟩
      · refine .inl ⟨h1, fun j hj hjb => ?_⟩
        rcases Nat.lt_succ_iff_lt_or_eq.1 hj with h | rfl
        · exact h2 j h hjb
        · exact absurd hb hjb
      · exact .inr ⟨j, by omega, h2⟩
    · rw [if_neg hb]
      by_cases hf : fstB met (teams.eraseIdx i) = true
      · rw [if_pos hf]; exact .inr ⟨i, by omega, hb, hf, rfl⟩
      · rw [if_neg hf]
        rcases ih with ⟨h1, h2⟩ | ⟨j, h1, h2⟩
        · refine .inl ⟨h1, fun j hj hjb => ?_⟩
          rcases Nat.lt_succ_iff_lt_or_eq.1 hj with h | rfl
          · exact h2 j h hjb
          · simpa using hf
        · exact .inr ⟨j, by omega, h2⟩
theorem fst_mem {met : List (Int × Int)} {l : List Int} (h : fstB met l = true) : fstD met l ∈ drT met l := by
  have := fst_head (met := met) (l := l)
  rw [if_pos h] at this
  exact List.mem_of_mem_head? this

structure RdI (teams : List Int) (r : Nat) (met : List (Int × Int)) (byes : List Int) : Prop where
  mi : ∀ p ∈ met, p.1 ∈ teams ∧ p.2 ∈ teams ∧ p.1 ≠ p.2
  ml : met.length ≤ r * 9
  z : r = 0 → met = [] ∧ byes = []
  ev : teams.length % 2 = 0 → byes = [] ∧ (teams = [] → r = 0) ∧ r ≤ (teams.filter fun t => metB met (teams.getD 0 0) t).length
  od : teams.length % 2 = 1 → byes.length = r ∧ byes.Nodup ∧ ∀ t ∈ byes, t ∈ teams
theorem RdI.le {teams : List Int} {r : Nat} {met : List (Int × Int)} {byes : List Int} (h : RdI teams r met byes) : r ≤ teams.length - 1 + teams.length % 2 ∧ r ≤ teams.length := by
  rcases (by omega : teams.length % 2 = 0 ∨ teams.length % 2 = 1) with h2 | h2
  · obtain ⟨_, h3, h4⟩ := h.ev h2
    cases teams with
    | nil => have := h3 rfl; subst this; simp
    | cons a ts =>
      have hself : metB met a a = false := by
        unfold metB
        rw [List.any_eq_false]
        intro p hp
        obtain ⟨_, _, q⟩ := h.mi p hp
        simp only [Bool.or_eq_true, decide_eq_true_eq]
        rintro (e | e) <;> (rw [e] at q; exact q rfl)
      have h5 : ((a :: ts).filter fun t => metB met ((a :: ts).getD 0 0) t).length < ((a :: ts).filter fun _ => true).length :=
        filter_lt' (fun _ _ _ => rfl) ⟨a, List.mem_cons_self .., by simpa using hself, rfl⟩
      have h6 : ((a :: ts).filter fun _ => true) = a :: ts := by rw [List.filter_eq_self]; intros; rfl
      rw [h6] at h5
      simp only [List.length_cons] at h5 h4 ⊢
      omega
  · obtain ⟨h3, h4, h5⟩ := h.od h2
    have := nodup_le h4 h5
    omega
theorem RdI.err {teams : List Int} {r : Nat} {met : List (Int × Int)} {byes : List Int} (h : RdI teams r met byes) (hn : teams.Nodup) (hb : ∀ t ∈ teams, 1 ≤ t ∧ t ≤ 64) (hl : teams.length ≤ 9) : errN teams met true = 0 := by
  have r1 : rightB teams met = true := by
    simp only [rightB, Bool.and_eq_true, decide_eq_true_eq, List.all_eq_true]
    refine ⟨⟨fun t ht => ?_, hn⟩, fun p hp => ?_⟩
    · have := hb t ht; simp [numB]; omega
    · obtain ⟨q1, q2, q3⟩ := h.mi p hp
      have e1 := hb _ q1; have e2 := hb _ q2
      simp [numB]; exact ⟨⟨by omega, by omega⟩, q3⟩
  unfold errN
  rw [if_neg (by simp [r1]), if_neg (by omega), if_neg (by simp)]
theorem RdI.next {teams : List Int} {r : Nat} {met : List (Int × Int)} {byes : List Int} (h : RdI teams r met byes) (hn : teams.Nodup) (hb : ∀ t ∈ teams, 1 ≤ t ∧ t ≤ 64) (hl : teams.length ≤ 9) :
    (drawR teams met byes = ([], 0, 6) ∧ (teams.length < 2 ∨ 0 < r) ∧ 0 < teams.length) ∨
    ∃ D bye, drawR teams met byes = (D, bye, 0) ∧ D ∈ drT met (teams.filter fun t => !(decide (t = bye))) ∧ (bye ≠ 0 ↔ teams.length % 2 = 1) ∧ bye ∉ byes ∧ D.length ≤ 9 ∧ (teams = [] → D = []) ∧ (teams ≠ [] → RdI teams (r + 1) (met ++ D) (if bye = 0 then byes else byes ++ [bye])) := by
  have he := h.err hn hb hl
  unfold drawR
  rw [if_neg (by simp [he])]
  rcases (by omega : teams.length % 2 = 0 ∨ teams.length % 2 = 1) with h2 | h2
  · rw [if_pos h2]
    obtain ⟨e1, e2, e3⟩ := h.ev h2
    by_cases hf : fstB met teams = true
    · rw [if_pos hf]
      have hfil : (teams.filter fun t => !(decide (t = 0))) = teams := by
        rw [List.filter_eq_self]; intro t ht; have := hb t ht; simp; omega
      have hD := fst_mem hf
      refine .inr ⟨fstD met teams, 0, rfl, by rw [hfil]; exact hD, by simp [h2], by rw [e1]; simp, Nat.le_trans fstD_len hl, ?_, fun hne => ?_⟩
      · intro e; subst e; simp [fstD, drT, drs_nil]
      · have hin := drs_in (ok := okT met) teams.length teams (Nat.le_refl _) hn (fstD met teams) hD
        refine ⟨fun p hp => ?_, ?_, fun e => by omega, fun _ => ⟨by rw [if_pos rfl]; exact e1, fun e => absurd e hne, ?_⟩, fun e => by omega⟩
        · rcases List.mem_append.1 hp with hp | hp
          · exact h.mi p hp
          · exact hin p hp
        · have := h.ml; have h8 : (fstD met teams).length ≤ 9 := Nat.le_trans fstD_len hl
          simp; omega
        · cases teams with
          | nil => exact absurd rfl hne
          | cons a ts =>
            simp only [List.getD_cons_zero] at e3 ⊢
            have hts := (List.nodup_cons.1 hn)
            obtain ⟨b, d', hd, hbm, hok, _⟩ := (mem_drs hts.2).1 hD
            refine Nat.lt_of_le_of_lt e3 (filter_lt' (fun x _ hx => by rw [metB_app, hx]; rfl) ⟨b, List.mem_cons_of_mem _ hbm, by simpa [okT] using hok, ?_⟩)
            rw [metB_app, hd]
            simp [metB]
    · rw [if_neg hf]
      refine .inl ⟨rfl, ?_, ?_⟩
      case refine_2 =>
        cases teams with
        | nil => simp [fstB, drT, drs_nil] at hf
        | cons a ts => simp
      apply Decidable.byContradiction
      intro hc
      have hr0 : r = 0 := by omega
      rw [(h.z hr0).1] at hf
      exact hf (fst_none hn h2)
  · rw [if_neg (by omega)]
    obtain ⟨o1, o2, o3⟩ := h.od h2
    rcases byeGo_spec (teams := teams) (met := met) (byes := byes) teams.length (Nat.le_refl _) with ⟨g1, g2⟩ | ⟨j, hj, g1, g2, g3⟩
    · refine .inl ⟨g1, ?_, by omega⟩
      apply Decidable.byContradiction
      intro hc
      have hr0 : r = 0 := by omega
      have h0 := g2 0 (by omega) (by rw [(h.z hr0).2]; simp)
      rw [(h.z hr0).1, fst_none (hn.sublist (List.eraseIdx_sublist _ _)) (by rw [List.length_eraseIdx, if_pos (by omega)]; omega)] at h0
      cases h0
    · have hT : teams.getD j 0 = teams[j] := by simp [hj]
      rw [hT] at g1 g3
      have hbj := hb _ (List.getElem_mem hj)
      have hD := fst_mem g2
      have hw : (teams.filter fun t => !(decide (t = teams[j]))) = teams.eraseIdx j := wo_erase hn hj
      have hlen : (fstD met (teams.eraseIdx j)).length ≤ 9 := Nat.le_trans fstD_len (Nat.le_trans (List.eraseIdx_sublist _ _).length_le hl)
      refine .inr ⟨fstD met (teams.eraseIdx j), teams[j], g3, by rw [hw]; exact hD, ⟨fun _ => h2, fun _ => by omega⟩, g1, hlen, fun e => by subst e; simp at hj, fun _ => ?_⟩
      have hin := drs_in (ok := okT met) _ (teams.eraseIdx j) (Nat.le_refl _) (hn.sublist (List.eraseIdx_sublist _ _)) _ hD
      rw [if_neg (by omega)]
      refine ⟨fun p hp => ?_, ?_, fun e => by omega, fun e => by omega, fun _ => ⟨by simp [o1], ?_, fun t ht => ?_⟩⟩
      · rcases List.mem_append.1 hp with hp | hp
        · exact h.mi p hp
        · obtain ⟨q1, q2, q3⟩ := hin p hp
          exact ⟨(List.eraseIdx_sublist _ _).subset q1, (List.eraseIdx_sublist _ _).subset q2, q3⟩
      · have := h.ml; simp; omega
      · rw [List.nodup_append]; exact ⟨o2, by simp, fun a ha b hb => by simp at hb; subst hb; exact fun e => g1 (e ▸ ha)⟩
      · rcases List.mem_append.1 ht with ht | ht
        · exact o3 t ht
        · simp at ht; subst ht; exact List.getElem_mem hj
theorem PairingRounds_law (order : List Int) (ho : ∀ b ∈ order, 0 ≤ b ∧ b ≤ 255) (hol : order.length < 2 ^ 63) : F36 11 [.fz 1 (bys order)] (fun v => v = .bool true) := by
  refine IFun.of_bodyZ false 3 [3, 5, 6, 7, 8, 9, 10, 11, 13, 15, 16, 25, 37, 48, 49, 50, 51, 52, 57, 67, 71, 72, 73, 74, 79, 82, 89] Tryd.func11 rfl Tryd.call11 rfl fun R hR => ?_
  simp [go_sem]
  refine (Made_fun order 0 9 (by decide) ho hol (by decide)).call (by simp [go_sem]) ?_
  rintro _ ⟨teams, met0, hmd, rfl⟩
  have hn := hmd.1
  have hb := hmd.2.1
  have hl := hmd.2.2.1
  simp [go_sem]
  refine IWp.ownNilS 2 5 (by decide) (by simp [go_sem]) ?_
  try simp only [go_sem]
  refine IWp.ownNilS 1 6 (by decide) (by simp [go_sem]) ?_
  try simp only [go_sem]
  refine IWp.loopT (α := Nat × List (Int × Int) × List Int) (fun x => (⟨false, 118, 3, [3, 5, 6, 7, 8, 9, 10, 11, 13, 15, 16, 25, 37, 48, 49, 50, 51, 52, 57, 67, 71, 72, 73, 74, 79, 82, 89], glT, [(3, .fz 1 (ints teams)), (5, .sl 0 x.2.1.length 0 x.2.1.length none), (6, .sl 1 x.2.2.length 0 x.2.2.length none), (7, .int .i64 (x.1 : Int))], []⟩, [.rows 2 (prs x.2.1), .rows 1 (ints x.2.2)]))
    (fun x => RdI teams x.1 x.2.1 x.2.2) (fun x => teams.length + 1 - x.1) (0, [], []) ⟨by simp, by simp, fun _ => ⟨rfl, rfl⟩, fun _ => ⟨rfl, fun _ => rfl, Nat.zero_le _⟩, fun _ => ⟨rfl, by simp, by simp⟩⟩ (by simp [go_sem]) ?_
  rintro ⟨r, met, byes⟩ hI
  simp only at hI
  obtain ⟨hle, hle2⟩ := hI.le
  have hml := hI.ml
  have hmr : r * 9 ≤ 9 * 9 := Nat.mul_le_mul (by omega) (Nat.le_refl _)
  have hbl : byes.length ≤ 9 := by
    rcases (by omega : teams.length % 2 = 0 ∨ teams.length % 2 = 1) with h2 | h2
    · rw [(hI.ev h2).1]; simp
    · rw [(hI.od h2).1]; omega
  have w1 : IntKind.i64.wrap ((r : Int) + 1) = r + 1 := wrap64 (by omega) (by omega)
  have hcI : (r : Int) ≤ teams.length := by omega
  have hmod : (teams.length : Int).tmod 2 = ((teams.length % 2 : Nat) : Int) := by rw [Int.tmod_eq_emod_of_nonneg (by omega)]; omega
  obtain ⟨M, hM⟩ : ∃ M, teams.length % 2 = M := ⟨_, rfl⟩
  rw [hM] at hmod hle
  simp [go_sem, hcI, hle2]
  refine (Draw_fun teams met byes (by omega) (by omega) (by omega)).call (by simp [go_sem]) ?_
  rintro _ rfl
  rcases hI.next hn hb hl with ⟨hd, hr, hpos⟩ | ⟨D, bye, hd, hD, hbye, hnb, hDl, hD0, hnx⟩
  · have wA : IntKind.i64.wrap ((teams.length : Int) - 1) = (teams.length : Int) - 1 := wrap64 (by omega) (by omega)
    have wB : IntKind.i64.wrap ((teams.length : Int) - 1 + M) = (teams.length : Int) - 1 + M := wrap64 (by omega) (by omega)
    have c1 : (r : Int) ≤ (teams.length : Int) - 1 + M := by omega
    rw [hd, drawV]
    by_cases h2 : (teams.length : Int) < 2
    · simp [go_sem, hmod, wA, wB, c1, h2]
      refine awake_fun.call (by simp [go_sem]) ?_
      rintro _ rfl
      simp [go_sem]
      exact hR _ _ _ rfl (by simp [go_sem])
    · have hr0 : 0 < r := by omega
      have hr0I : (0 : Int) < r := by omega
      simp [go_sem, hmod, wA, wB, c1, h2, hr0, hr0I]
      refine awake_fun.call (by simp [go_sem]) ?_
      rintro _ rfl
      simp [go_sem]
      exact hR _ _ _ rfl (by simp [go_sem])
  · have hbq : (bye != 0) = ((M : Int) == 1) := by
      rw [Bool.eq_iff_iff]; simp only [bne_iff_ne, beq_iff_eq]; rw [hbye, hM]; omega
    obtain ⟨I, hI2⟩ : ∃ I, (teams.filter fun t => !(decide (t = bye))) = I := ⟨_, rfl⟩
    rw [hI2] at hD
    rw [hd, drawV]
    simp [go_sem, hmod, hbq]
    refine IWp.ownNilS 1 11 (by decide) (by simp [go_sem]) ?_
    try simp only [go_sem]
    refine IWp.loopT (α := Nat) (fun k => (⟨false, 118, 3, [3, 5, 6, 7, 8, 9, 10, 11, 13, 15, 16, 25, 37, 48, 49, 50, 51, 52, 57, 67, 71, 72, 73, 74, 79, 82, 89], glT, [(3, .fz 1 (ints teams)), (5, .sl 0 met.length 0 met.length none), (6, .sl 1 byes.length 0 byes.length none), (7, .int .i64 (r : Int)), (8, .fz 2 (prs D)), (9, .int .i64 bye), (11, .sl 2 ((teams.take k).filter fun t => !(decide (t = bye))).length 0 ((teams.take k).filter fun t => !(decide (t = bye))).length none), (49, .fz 1 (ints teams)), (50, .int .i64 (teams.length : Int)), (51, .int .i64 (k : Int))], []⟩, [.rows 2 (prs met), .rows 1 (ints byes), .rows 1 (ints ((teams.take k).filter fun t => !(decide (t = bye))))]))
      (fun k => k ≤ teams.length) (fun k => teams.length - k) 0 (by omega) (by simp [go_sem]) ?_
    intro k hk
    by_cases hkT : k < teams.length
    · have w2 : IntKind.i64.wrap ((k : Int) + 1) = k + 1 := wrap64 (by omega) (by omega)
      obtain ⟨F, hF⟩ : ∃ F, ((teams.take k).filter fun t => !(decide (t = bye))) = F := ⟨_, rfl⟩
      have hFl : F.length ≤ 9 := by rw [← hF]; exact Nat.le_trans (List.length_filter_le _ _) (by simp; omega)
      have hsn : ((teams.take (k + 1)).filter fun t => !(decide (t = bye))) = F ++ (if teams[k] = bye then [] else [teams[k]]) := by
        rw [List.take_succ_eq_append_getElem hkT, List.filter_append, hF]
        congr 1
        by_cases e : teams[k] = bye <;> simp [e]
      rw [hF]
      by_cases e : teams[k] = bye
      · rw [if_pos e, List.append_nil] at hsn
        simp [go_sem, hkT, e, w2]
        exact ⟨k + 1, ⟨⟨by rw [hsn], by omega⟩, by rw [hsn]⟩, by omega, by omega⟩
      · rw [if_neg e] at hsn
        simp [go_sem, hkT, e, w2]
        exact ⟨by omega, k + 1, ⟨⟨by rw [hsn]; simp, by omega⟩, by rw [hsn, ints_snoc]⟩, by omega, by omega⟩
    have hkl : k = teams.length := by omega
    subst hkl
    rw [List.take_length, hI2]
    have hIn : I.Nodup := by rw [← hI2]; exact hn.filter _
    have hIl : I.length ≤ 9 := by rw [← hI2]; exact Nat.le_trans (List.length_filter_le _ _) hl
    simp [go_sem]
    refine (clean_fun I met D hIn (by omega) (by omega) hD).call (by simp [go_sem]) ?_
    rintro _ rfl
    simp [go_sem]
    obtain ⟨M2, hM2⟩ : ∃ M2, met ++ D = M2 := ⟨_, rfl⟩
    have hM2p : prs met ++ prs D = prs M2 := by rw [← hM2, prs_append]
    have hM2l : met.length + D.length = M2.length := by rw [← hM2]; simp
    rw [hM2p, hM2l]
    refine ⟨⟨by omega, fun r hr => prs_one r hr⟩, ?_⟩
    refine IWp.loopT (α := Nat) (fun k => (⟨false, 118, 3, [3, 5, 6, 7, 8, 9, 10, 11, 13, 15, 16, 25, 37, 48, 49, 50, 51, 52, 57, 67, 71, 72, 73, 74, 79, 82, 89], glT, [(3, .fz 1 (ints teams)), (5, .sl 0 M2.length 0 M2.length none), (6, .sl 1 byes.length 0 byes.length none), (7, .int .i64 (r : Int)), (8, .fz 2 (prs D)), (9, .int .i64 bye), (71, .sl 1 byes.length 0 byes.length none), (72, .int .i64 (byes.length : Int)), (73, .int .i64 (k : Int))], []⟩, [.rows 2 (prs M2), .rows 1 (ints byes), .dead]))
      (fun k => k ≤ byes.length) (fun k => byes.length - k) 0 (by omega) (by simp [go_sem]) ?_
    intro k hk
    by_cases hkB : k < byes.length
    · have w2 : IntKind.i64.wrap ((k : Int) + 1) = k + 1 := wrap64 (by omega) (by omega)
      have hne : ¬ byes[k] = bye := fun e => hnb (e ▸ List.getElem_mem hkB)
      simp [go_sem, hkB, hne, w2]
      exact ⟨k + 1, by omega, by omega, by omega⟩
    have hkl : k = byes.length := by omega
    subst hkl
    by_cases ht0 : teams = []
    · have hD := hD0 ht0
      have ht0l : teams.length = 0 := by rw [ht0]; rfl
      have hby0 : bye = 0 := by
        apply Decidable.byContradiction
        intro e
        have := hbye.1 e
        omega
      have hDl0 : D.length = 0 := by rw [hD]; rfl
      simp [go_sem, hby0, ht0l, ht0, hDl0, hD]
      refine awake_fun.call (by simp [go_sem]) ?_
      rintro _ rfl
      simp [go_sem]
      exact hR _ _ _ rfl (by simp [go_sem])
    · have hnx := hnx ht0
      rw [hM2] at hnx
      have ht0l : ¬ teams.length = 0 := fun e => ht0 (List.eq_nil_of_length_eq_zero e)
      by_cases hby0 : bye = 0
      · rw [if_pos hby0] at hnx
        simp [go_sem, hby0, ht0l, ht0, w1]
        exact ⟨r + 1, M2, byes, ⟨⟨rfl, rfl, by omega⟩, rfl, rfl⟩, hnx, by omega⟩
      · rw [if_neg hby0] at hnx
        simp [go_sem, hby0, ht0l, ht0, w1]
        exact ⟨by omega, r + 1, M2, byes ++ [bye], ⟨⟨rfl, by simp, by omega⟩, rfl, ints_snoc⟩, hnx, by omega⟩
theorem PairingRounds_law' (order : List Int) (h1 : ∀ z ∈ order, (Lit.int .u8 z).wf = true) (h2 : order.length ≤ maxLen) : F36 11 [.fz 1 (bys order)] (fun v => v = .bool true) :=
  PairingRounds_law order (wf_bys h1) (len62 h2)
end Go.Idl
