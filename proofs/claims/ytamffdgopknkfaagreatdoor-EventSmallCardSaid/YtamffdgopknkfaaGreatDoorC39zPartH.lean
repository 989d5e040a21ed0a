import Derived.Test.YtamffdgopknkfaaGreatDoorC39zPartG
set_option linter.all false
set_option maxHeartbeats 8000000
set_option maxRecDepth 40000
namespace Go.Idl
open Go.Proofs
theorem fst_head {met : List (Int × Int)} {l : List Int} : (drT met l).head? = if fstB met l = true then some (fstD met l) else none := by
 unfold fstB fstD
 cases drT met l <;> simp
theorem head_asT {teams : List Int} {met : List (Int × Int)} {g : Nat → Nat} (hn : teams.length ≤ 16) (ho : OpenOK teams met g) {m : Nat} (hm : m < 2 ^ teams.length) :
  (drT met ((bitsL m).map fun i => teams.getD i 0)).head? = ((drs (okG g) (bitsL m)).head?).map (asT teams) := by
 have hp16 : 2 ^ teams.length ≤ 2 ^ 16 := Nat.pow_le_pow_right (by decide) hn
 rw [drs_teams hn ho (bitsL_nodup m) (fun i hi => lt_of_bit hm (bitsL_mem.1 hi).2), List.head?_map]
theorem bits_full_map {teams : List Int} (hn : teams.length ≤ 16) : ((bitsL (2 ^ teams.length - 1)).map fun i => teams.getD i 0) = teams := by
 rw [bitsL_full (by omega), teams_range]
theorem bits_wo_map {teams : List Int} (hn : teams.length ≤ 16) {i : Nat} (hi : i < teams.length) : ((bitsL (anb (2 ^ teams.length - 1) (2 ^ i))).map fun i => teams.getD i 0) = teams.eraseIdx i := by
 have hp16 : 2 ^ teams.length ≤ 2 ^ 16 := Nat.pow_le_pow_right (by decide) hn
 rw [bitsL_wo (by omega), bitsL_full (by omega), ← restZ_all teams i hi]
 rfl
theorem fstD_len {met : List (Int × Int)} {teams : List Int} : (fstD met teams).length ≤ teams.length := by
 unfold fstD
 cases hd : drT met teams with
 | nil => simp
 | cons d r =>
  have := drs_len (ok := okT met) _ teams (Nat.le_refl _) d (by rw [show drs (okT met) teams = drT met teams from rfl, hd]; simp)
  simp only [List.headD_cons]; omega
theorem Draw_fun (teams : List Int) (met : List (Int × Int)) (byes : List Int) (hl : teams.length ≤ 2 ^ 32) (hm : met.length ≤ 2 ^ 32) (hb : byes.length ≤ 2 ^ 32) : FN 84 [.fz 1 (ints teams), .fz 2 (prs met), .fz 1 (ints byes)] (fun v => v = drawV (drawR teams met byes)) := by
 refine IFun.of_bodyZ false 17 [24, 31, 41, 47, 56, 68] Tryz.func84 rfl Tryz.call84 rfl fun R hR => ?_
 have fin : ∀ (r : IV) (σ : Heap) (q : List (Int × Int) × Int × Int), drawR teams met byes = q → frzOK false 4 σ r ∧ nz 4 (frzV 4 σ r) (drawV q) → R r σ := fun r σ q e h => hR r σ _ rfl (by rw [e]; exact h)
 simp [go_sem]
 refine (set_fun teams met hl hm).callM (by simp [go_sem]) ?_
 rintro v (⟨hr, rfl⟩ | ⟨hr, hn, rfl⟩ | ⟨hr, hn, g, ho, rfl⟩)
 ·have he : errN teams met true = 2 := by unfold errN; rw [if_pos hr]
  simp [go_sem]
  exact fin _ _ ([], 0, 2) (by unfold drawR; rw [he]; rfl) (by simp [go_sem, drawV])
 ·have he : errN teams met true = 5 := by unfold errN; rw [if_neg (by simp [hr]), if_pos hn]
  simp [go_sem]
  exact fin _ _ ([], 0, 5) (by unfold drawR; rw [he]; rfl) (by simp [go_sem, drawV])
 have he : errN teams met true = 0 := by unfold errN; rw [if_neg (by simp [hr]), if_neg (by omega), if_neg (by simp)]
 have hp : 2 ^ teams.length - 1 < 2 ^ teams.length := by have : 0 < 2 ^ teams.length := Nat.pow_pos (by decide); omega
 have hp16 : 2 ^ teams.length ≤ 2 ^ 16 := Nat.pow_le_pow_right (by decide) hn
 have hgb : ∀ i, i < 16 → g i < 2 ^ 32 := fun i hi => (ho i hi).1
 have hH := head_asT hn ho hp
 rw [bits_full_map hn, fst_head] at hH
 have hW : ∀ i, i < teams.length → _ := fun i hi => head_asT (m := anb (2 ^ teams.length - 1) (2 ^ i)) hn ho (Nat.lt_of_le_of_lt (anb_le (by omega)) hp)
 have hWm := fun i hi => bits_wo_map hn (i := i) hi
 have hWl : ∀ i, anb (2 ^ teams.length - 1) (2 ^ i) < 2 ^ teams.length := fun i => Nat.lt_of_le_of_lt (anb_le (by omega)) hp
 have allc := all_c teams g hn
 simp [go_sem]
 refine (drawn_calls teams g).mono ?_
 rintro _ _ ⟨rfl, rfl⟩
 generalize 2 ^ teams.length - 1 = M at *
 by_cases hpr : teams.length % 2 = 0
 ·have hp' : (teams.length : Int).tmod 2 = 0 := by rw [Int.tmod_eq_emod_of_nonneg (by omega)]; omega
  simp [go_sem, smF, smH, hp']
  refine allc.callF (by simp [go_sem]) ?_
  rintro _ rfl
  simp [go_sem]
  refine (first_calls teams g hn hgb M hp [(0, true)] memB0 rfl).mono ?_
  rintro _ _ ⟨S', ⟨hS', hS0'⟩, (⟨hd, rfl, rfl⟩ | ⟨D, hd, rfl, rfl⟩)⟩
  ·rw [hd] at hH
   have hf : fstB met teams = false := by
    cases h : fstB met teams with
    | false => rfl
    | true => rw [h] at hH; simp at hH
   simp [go_sem, smH]
   exact fin _ _ ([], 0, 6) (by unfold drawR; rw [if_neg (by simp [he]), if_pos hpr, if_neg (by simp [hf])]) (by simp [go_sem, drawV])
  ·rw [hd] at hH
   have hf : fstB met teams = true ∧ fstD met teams = asT teams D := by
    cases h : fstB met teams with
    | false => rw [h] at hH; simp at hH
    | true => rw [h] at hH; simpa using hH
   have hDl := fstD_len (met := met) (teams := teams)
   rw [hf.2, asT_length] at hDl
   simp [go_sem, smH]
   exact fin _ _ (fstD met teams, 0, 0) (by unfold drawR; rw [if_neg (by simp [he]), if_pos hpr, if_pos hf.1]) (by simp [go_sem, drawV, hf.2])
 have hp' : ¬ (teams.length : Int).tmod 2 = 0 := by rw [Int.tmod_eq_emod_of_nonneg (by omega)]; omega
 have hres : drawR teams met byes = byeGo teams met byes teams.length := by unfold drawR; rw [if_neg (by simp [he]), if_neg hpr]
 have w0 : IntKind.i64.wrap ((teams.length : Int) - 1) = (teams.length : Int) - 1 := wrap64 (by omega) (by omega)
 simp [go_sem, smF, smH, hp', w0]
 refine IWp.loopT (α := Nat × List (Nat × Bool)) (fun x => (⟨false, 74, 17, [24, 31, 41, 47, 56, 68], glT, [(0, .fz 1 (ints teams)), (2, .fz 1 (ints byes)), (9, .fptr 17 [tbR teams g] 0 0), (11, smF), (14, .int .i64 ((x.1 : Int) - 1))], []⟩, smH teams g x.2))
  (fun x => x.1 ≤ teams.length ∧ byeGo teams met byes teams.length = byeGo teams met byes x.1 ∧ MemoB g x.2 ∧ aget 0 x.2 = some true) (fun x => x.1) (teams.length, [(0, true)]) ⟨Nat.le_refl _, rfl, memB0, rfl⟩ (by simp [go_sem, smH, smF]) ?_
 rintro ⟨i, S⟩ ⟨hi, hgo, hS, hS0⟩
 simp only at hi hgo hS hS0
 cases i with
 | zero =>
  simp [go_sem, smH, smF]
  exact fin _ _ ([], 0, 6) (by rw [hres, hgo]; rfl) (by simp [go_sem, drawV])
 | succ i =>
  have hil : i < teams.length := by omega
  have hti : teams.getD i 0 = teams[i] := by simp [hil]
  have ei : ((i + 1 : Nat) : Int) - 1 = i := by omega
  simp only [ei]
  rw [byeGo, hti] at hgo
  have w1 : IntKind.i64.wrap ((i : Int) - 1) = (i : Int) - 1 := wrap64 (by omega) (by omega)
  have hWi := hW i hil
  rw [hWm i hil, fst_head] at hWi
  simp [go_sem, smH, smF, hil]
  refine (place_fun byes teams[i] hb).callF (by simp [go_sem]) ?_
  rintro _ rfl
  cases hix : ix byes teams[i] with
  | some b =>
   have hmem : teams[i] ∈ byes := by
    apply Decidable.byContradiction; intro hc
    rw [ix_none.2 hc] at hix; cases hix
   have hpl : plc byes teams[i] = (b : Int) := by rw [plc, hix]
   rw [if_pos hmem] at hgo
   simp [go_sem, hpl, w1]
   exact ⟨i, S, ⟨rfl, rfl⟩, ⟨by omega, hgo, hS, hS0⟩, by omega⟩
  | none =>
   have hmem : ¬ teams[i] ∈ byes := ix_none.1 hix
   have hpl : plc byes teams[i] = -1 := by rw [plc, hix]
   rw [if_neg hmem] at hgo
   have hi16 : i < 16 := by omega
   have e1 := shl32 (i := i) (by omega)
   have e2 : bitsOf .andNot .u32 (M : Int) (IntKind.u32.wrap (2 ^ min i 32)) = ((anb M (2 ^ i) : Nat) : Int) := by
    rw [min32 (by omega), e1, u32_andNot]
   have hWl' := hWl i
   obtain ⟨A, hA⟩ : ∃ A, anb M (2 ^ i) = A := ⟨_, rfl⟩
   rw [hA] at hWi e2 hWl'
   simp [go_sem, hpl]
   refine Drawn.oneC 7 (fun k => if k = 2 then .int .u32 (M : Int) else .tup []) (fun _ => .tup []) _ rfl rfl (by decide +kernel) fun k hk => ?_
   simp [go_sem, allc, e2]
   refine hk _ _ ?_
   clear hk k
   refine ⟨_, _, rfl, by simp [go_sem], ?_⟩
   simp [go_sem]
   refine (first_calls teams g hn hgb A hWl' S hS hS0).mono ?_
   rintro _ _ ⟨S', ⟨hS', hS0'⟩, (⟨hd, rfl, rfl⟩ | ⟨D, hd, rfl, rfl⟩)⟩
   ·rw [hd] at hWi
    have hf : fstB met (teams.eraseIdx i) = false := by
     cases h : fstB met (teams.eraseIdx i) with
     | false => rfl
     | true => rw [h] at hWi; simp at hWi
    rw [if_neg (by simp [hf])] at hgo
    simp [go_sem, smH, w1]
    exact ⟨i, S', ⟨rfl, rfl⟩, ⟨by omega, hgo, hS', hS0'⟩, by omega⟩
   ·rw [hd] at hWi
    have hf : fstB met (teams.eraseIdx i) = true ∧ fstD met (teams.eraseIdx i) = asT teams D := by
     cases h : fstB met (teams.eraseIdx i) with
     | false => rw [h] at hWi; simp at hWi
     | true => rw [h] at hWi; simpa using hWi
    rw [if_pos hf.1] at hgo
    simp [go_sem, smH, hil]
    exact ⟨by decide +kernel, fin _ _ (fstD met (teams.eraseIdx i), teams[i], 0) (by rw [hres, hgo]) (by simp [go_sem, drawV, hf.2])⟩
end Go.Idl
namespace Go.Idl
open Go.Proofs
theorem wo_erase : ∀ {ts : List Int} {j : Nat} (_ : ts.Nodup) (hj : j < ts.length), wo ts[j] ts = ts.eraseIdx j
 | [], _, _, hj => by simp at hj
 | x :: ts, 0, hn, _ => by
  rw [List.nodup_cons] at hn
  simp only [List.getElem_cons_zero, List.eraseIdx_zero, List.tail_cons]; rw [wo_cons_eq, wo_not hn.1]
 | x :: ts, j + 1, hn, hj => by
  rw [List.nodup_cons] at hn
  have hj' : j < ts.length := by simpa using hj
  simp only [List.getElem_cons_succ, List.eraseIdx_cons_succ]
  rw [wo_cons_ne (fun e => hn.1 (by rw [e]; exact List.getElem_mem hj')), wo_erase hn.2 hj']
theorem byeGo_spec {teams : List Int} {met : List (Int × Int)} {byes : List Int} : ∀ i, i ≤ teams.length →
  (byeGo teams met byes i = ([], 0, 6) ∧ ∀ j, j < i → teams.getD j 0 ∉ byes → fstB met (teams.eraseIdx j) = false) ∨ ∃ j, j < i ∧ teams.getD j 0 ∉ byes ∧ fstB met (teams.eraseIdx j) = true ∧ byeGo teams met byes i = (fstD met (teams.eraseIdx j), teams.getD j 0, 0)
 | 0, _ => .inl ⟨rfl, fun j hj => by omega⟩
 | i + 1, hi => by
  have ih := byeGo_spec (teams := teams) (met := met) (byes := byes) i (by omega)
  rw [byeGo]
  by_cases hb : teams.getD i 0 ∈ byes
  ·rw [if_pos hb]
   rcases ih with ⟨h1, h2⟩ | ⟨j, h1, h2⟩
   ·refine .inl ⟨h1, fun j hj hjb => ?_⟩
    rcases Nat.lt_succ_iff_lt_or_eq.1 hj with h | rfl
    ·exact h2 j h hjb
    ·exact absurd hb hjb
   ·exact .inr ⟨j, by omega, h2⟩
  ·rw [if_neg hb]
   by_cases hf : fstB met (teams.eraseIdx i) = true
   ·rw [if_pos hf]; exact .inr ⟨i, by omega, hb, hf, rfl⟩
   ·rw [if_neg hf]
    rcases ih with ⟨h1, h2⟩ | ⟨j, h1, h2⟩
    ·refine .inl ⟨h1, fun j hj hjb => ?_⟩
     rcases Nat.lt_succ_iff_lt_or_eq.1 hj with h | rfl
     ·exact h2 j h hjb
     ·simpa using hf
    ·exact .inr ⟨j, by omega, h2⟩
theorem fst_mem {met : List (Int × Int)} {l : List Int} (h : fstB met l = true) : fstD met l ∈ drT met l := by
 have := fst_head (met := met) (l := l)
 rw [if_pos h] at this
 exact List.mem_of_mem_head? this
def endsP (d : List (Int × Int)) : List Int := d.flatMap fun p => [p.1, p.2]
theorem wo_perm {b : Int} : ∀ {l : List Int}, l.Nodup → b ∈ l → (b :: wo b l).Perm l
 | a :: l, hn, h => by
  rw [List.nodup_cons] at hn
  by_cases e : a = b
  ·subst e
   rw [wo_cons_eq, wo_not hn.1]
  ·rw [wo_cons_ne e]
   have hb : b ∈ l := (List.mem_cons.1 h).resolve_left fun e2 => e e2.symm
   exact (List.Perm.swap a b _).trans ((wo_perm hn.2 hb).cons a)
theorem drs_ends {ok : Int → Int → Bool} : ∀ (n : Nat) (l : List Int), l.length ≤ n → l.Nodup → ∀ d ∈ drs ok l, (endsP d).Perm l ∧ ∀ p ∈ d, ok p.1 p.2 = true
 | _, [], _, _, d, hd => by
  rw [drs_nil] at hd
  have : d = [] := by simpa using hd
  subst this
  exact ⟨List.Perm.refl _, by simp⟩
 | n + 1, a :: rest, hn, h, d, hd => by
  rw [List.nodup_cons] at h
  obtain ⟨b, d', rfl, hb, hok, hd'⟩ := (mem_drs h.2).1 hd
  obtain ⟨k1, k2⟩ := drs_ends n (wo b rest) (by have := wo_length h.2 hb; simp at hn; omega) (wo_nodup h.2) d' hd'
  refine ⟨?_, fun p hp => ?_⟩
  ·simp only [endsP, List.flatMap_cons, List.cons_append, List.nil_append]
   exact ((k1.cons b).trans (wo_perm h.2 hb)).cons a
  ·rcases List.mem_cons.1 hp with rfl | hp
   ·exact hok
   ·exact k2 p hp
theorem getD_len {l : List Int} {i : Nat} (h : i < l.length) : l.getD i 0 = l[i] := by simp [h]
structure DrawOK (teams : List Int) (met : List (Int × Int)) (byes : List Int) (d : List (Int × Int)) (y : Int) : Prop where
 perm : (endsP d ++ if teams.length % 2 = 1 then [y] else []).Perm teams
 fresh : ∀ p ∈ d, metB met p.1 p.2 = false
 ev : teams.length % 2 = 0 → y = 0
 od : teams.length % 2 = 1 → y ∈ teams ∧ y ∉ byes
theorem drawR_ok {teams : List Int} {met : List (Int × Int)} {byes : List Int} (hn : teams.Nodup) (h : (drawR teams met byes).2.2 = 0) : DrawOK teams met byes (drawR teams met byes).1 (drawR teams met byes).2.1 := by
 unfold drawR at h ⊢
 split at h
 ·rename_i he; exact absurd h he
 rename_i he
 rw [if_neg he]
 rcases (by omega : teams.length % 2 = 0 ∨ teams.length % 2 = 1) with h2 | h2
 ·rw [if_pos h2] at h ⊢
  by_cases hf : fstB met teams = true
  ·rw [if_pos hf] at h ⊢
   obtain ⟨k1, k2⟩ := drs_ends (ok := okT met) teams.length teams (Nat.le_refl _) hn _ (fst_mem hf)
   refine ⟨by rw [if_neg (by omega), List.append_nil]; exact k1, fun p hp => ?_, fun _ => rfl, fun e => by omega⟩
   have := k2 p hp; simpa [okT] using this
  ·rw [if_neg hf] at h; simp at h
 ·rw [if_neg (by omega)] at h ⊢
  rcases byeGo_spec (teams := teams) (met := met) (byes := byes) teams.length (Nat.le_refl _) with ⟨g1, g2⟩ | ⟨j, hj, g1, g2, g3⟩
  ·rw [g1] at h; simp at h
  ·rw [getD_len hj] at g1 g3
   rw [g3]
   obtain ⟨k1, k2⟩ := drs_ends (ok := okT met) _ (teams.eraseIdx j) (Nat.le_refl _) (hn.sublist (List.eraseIdx_sublist _ _)) _ (fst_mem g2)
   refine ⟨?_, fun p hp => ?_, fun e => by omega, fun _ => ⟨List.getElem_mem hj, g1⟩⟩
   ·rw [if_pos h2]
    refine List.perm_append_comm.trans ?_
    refine (k1.cons _).trans ?_
    rw [← wo_erase hn hj]
    exact wo_perm hn (List.getElem_mem hj)
   ·have := k2 p hp; simpa [okT] using this
theorem endsP_nodup {d : List (Int × Int)} (h : (endsP d).Nodup) : d.Nodup ∧ (d.map (·.1)).Nodup := by
 induction d with
 | nil => simp
 | cons p d ih =>
  simp only [endsP, List.flatMap_cons, List.cons_append, List.nil_append, List.nodup_cons, List.mem_cons, not_or] at h
  obtain ⟨k1, k2⟩ := ih h.2.2
  have hp : p.1 ∉ d.map (·.1) := fun hc => by
   obtain ⟨q, hq, e⟩ := List.mem_map.1 hc
   exact h.1.2 (List.mem_flatMap.2 ⟨q, hq, by simp [e]⟩)
  refine ⟨List.nodup_cons.2 ⟨fun hc => hp (List.mem_map_of_mem hc), k1⟩, ?_⟩
  rw [List.map_cons, List.nodup_cons]
  exact ⟨hp, k2⟩
theorem endsP_length (d : List (Int × Int)) : (endsP d).length = 2 * d.length := by
 induction d with
 | nil => rfl
 | cons p d ih => simp only [endsP, List.flatMap_cons, List.length_append, List.length_cons, List.length_nil] at ih ⊢; omega
theorem mem_endsP {d : List (Int × Int)} {p : Int × Int} (h : p ∈ d) : p.1 ∈ endsP d ∧ p.2 ∈ endsP d := ⟨List.mem_flatMap.2 ⟨p, h, by simp⟩, List.mem_flatMap.2 ⟨p, h, by simp⟩⟩
theorem DrawOK.nodup {teams : List Int} {met : List (Int × Int)} {byes : List Int} {d : List (Int × Int)} {y : Int} (h : DrawOK teams met byes d y) (hn : teams.Nodup) : (endsP d).Nodup := (List.nodup_append.1 (h.perm.nodup_iff.2 hn)).1
theorem DrawOK.mem {teams : List Int} {met : List (Int × Int)} {byes : List Int} {d : List (Int × Int)} {y : Int} (h : DrawOK teams met byes d y) {p : Int × Int} (hp : p ∈ d) : p.1 ∈ teams ∧ p.2 ∈ teams :=
 ⟨h.perm.mem_iff.1 (List.mem_append_left _ (mem_endsP hp).1), h.perm.mem_iff.1 (List.mem_append_left _ (mem_endsP hp).2)⟩
theorem DrawOK.len {teams : List Int} {met : List (Int × Int)} {byes : List Int} {d : List (Int × Int)} {y : Int} (h : DrawOK teams met byes d y) : d.length = teams.length / 2 := by
 have := h.perm.length_eq
 rw [List.length_append, endsP_length] at this
 split at this <;> simp at this <;> omega
theorem ends_ne {d : List (Int × Int)} (h : (endsP d).Nodup) {p : Int × Int} (hp : p ∈ d) : p.1 ≠ p.2 := by
 induction d with
 | nil => cases hp
 | cons q d ih =>
  simp only [endsP, List.flatMap_cons, List.cons_append, List.nil_append, List.nodup_cons, List.mem_cons, not_or] at h
  rcases List.mem_cons.1 hp with rfl | hp
  ·exact h.1.1
  ·exact ih h.2.2 hp
end Go.Idl
