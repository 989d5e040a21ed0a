/-
  Chapter 36: Made f20.
  Chapter 36: clean f27, before f28.
  Chapter 36: the law PairingBack f8.
-/
import Derived.Test.YtpfpgkopbokfgaaDoorC36PartF
import Derived.Test.YtpfpgkopbokfgaaDoorC36PartA
namespace Go.Idl
set_option linter.all false
open Go.Proofs
set_option maxHeartbeats 8000000
set_option maxRecDepth 40000

/-- What Made hands back: teams, each once, and some of their pairs. -/
def MadeOK (most : Nat) (teams : List Int) (met : List (Int × Int)) : Prop :=
  teams.Nodup ∧ (∀ t ∈ teams, 1 ≤ t ∧ t ≤ 64) ∧ teams.length ≤ most ∧ (∀ p ∈ met, p.1 ∈ teams ∧ p.2 ∈ teams ∧ p.1 ≠ p.2) ∧ met.length ≤ most * most
def bys (l : List Int) : List (List IV) := mp (fun x => [.int .u8 x]) l
@[simp] theorem bys_length (l : List Int) : (bys l).length = l.length := mp_length
@[simp] theorem bys_getElem (l : List Int) (i : Nat) (h : i < (bys l).length) : (bys l)[i] = [.int .u8 (l[i]'(by simpa using h))] := by simp [bys, mp]
@[go_sem] theorem ScR_bys {l : List Int} : ScR (bys l) = True := eq_true (mp_sc (by simp [scal]))
@[go_sem] theorem ClR_bys {l : List Int} : ClR (bys l) = True := eq_true (ScR.cl (mp_sc (by simp [scal])))
@[go_sem] theorem BlR_bys {n : Nat} {l : List Int} : BlR n (bys l) = True := eq_true (ScR.bl (mp_sc (by simp [scal])))

theorem Made_fun (order : List Int) (bits : Int) (most : Nat) (hm : most ≤ 12) (ho : ∀ b ∈ order, 0 ≤ b ∧ b ≤ 255) (hol : order.length < 2 ^ 63) (hb : 0 ≤ bits ∧ bits < 2 ^ 64) :
    F36 20 [.fz 1 (bys order), .int .u64 bits, .int .i64 (most : Int)] (fun v => ∃ teams met, MadeOK most teams met ∧ v = .tup [.fz 1 (ints teams), .fz 2 (prs met)]) := by
  refine IFun.of_bodyZ false 8 [8, 10, 11, 12, 14, 15, 16, 17, 18, 19, 20, 21, 22, 23, 30, 31, 32, 33, 50, 57, 58, 59, 61, 62, 63, 70, 82] Tryd.func20 rfl Tryd.call20 rfl fun R hR => ?_
  simp [go_sem]
  refine IWp.ownNilS 1 8 (by decide) (by simp [go_sem]) ?_
  simp only [go_sem]
  refine IWp.loopT (α := Nat × List Int) (fun x => (⟨false, 102, 8, [8, 10, 11, 12, 14, 15, 16, 17, 18, 19, 20, 21, 22, 23, 30, 31, 32, 33, 50, 57, 58, 59, 61, 62, 63, 70, 82], glT, [(1, .int .u64 bits), (2, .int .i64 (most : Int)), (8, .sl 0 x.2.length 0 x.2.length none), (20, .fz 1 (bys order)), (21, .int .i64 (order.length : Int)), (22, .int .i64 (x.1 : Int))], []⟩, [.rows 1 (ints x.2)]))
    (fun x => x.1 ≤ order.length ∧ x.2.Nodup ∧ (∀ t ∈ x.2, 1 ≤ t ∧ t ≤ 64) ∧ x.2.length ≤ most) (fun x => order.length - x.1) (0, []) (by simp) (by simp [go_sem]) ?_
  rintro ⟨i, teams⟩ ⟨hi, hnd, hbd, hlen⟩
  simp only at hi hnd hbd hlen
  by_cases h : i < order.length
  · have w1 : IntKind.i64.wrap ((i : Int) + 1) = i + 1 := wrap64 (by omega) (by omega)
    obtain ⟨b, hbe⟩ : ∃ b, order[i] = b := ⟨_, rfl⟩
    have hbb := ho b (hbe ▸ List.getElem_mem h)
    have hr : b.tmod 64 = b % 64 := Int.tmod_eq_emod_of_nonneg hbb.1
    obtain ⟨t, ht⟩ : ∃ t, 1 + b % 64 = t := ⟨_, rfl⟩
    have w2 : IntKind.i64.wrap (1 + b % 64) = t := by rw [← ht]; exact wrap64 (by omega) (by omega)
    have w3 : IntKind.i64.wrap b = b := wrap64 (by omega) (by omega)
    simp [go_sem, h, hbe, hr, w2, w3]
    refine IWp.loopT (α := Nat) (fun k => (⟨false, 102, 8, [8, 10, 11, 12, 14, 15, 16, 17, 18, 19, 20, 21, 22, 23, 30, 31, 32, 33, 50, 57, 58, 59, 61, 62, 63, 70, 82], glT, [(1, .int .u64 bits), (2, .int .i64 (most : Int)), (8, .sl 0 teams.length 0 teams.length none), (11, .int .i64 t), (12, .bool (decide (t ∈ teams.take k))), (20, .fz 1 (bys order)), (21, .int .i64 (order.length : Int)), (22, .int .i64 (i : Int)), (30, .sl 0 teams.length 0 teams.length none), (31, .int .i64 (teams.length : Int)), (32, .int .i64 (k : Int))], []⟩, [.rows 1 (ints teams)]))
      (fun k => k ≤ teams.length) (fun k => teams.length - k) 0 (by omega) (by simp [go_sem]) ?_
    intro k hk
    by_cases hkt : k < teams.length
    · have w4 : IntKind.i64.wrap ((k : Int) + 1) = k + 1 := wrap64 (by omega) (by omega)
      have hdec : decide (t ∈ teams.take (k + 1)) = (decide (t ∈ teams.take k) || (teams[k] == t)) := by
        have hmem : t ∈ teams.take (k + 1) ↔ (t ∈ teams.take k ∨ teams[k] = t) := by
          rw [List.take_succ_eq_append_getElem hkt, List.mem_append, List.mem_singleton]
          exact ⟨fun h => h.imp_right Eq.symm, fun h => h.imp_right Eq.symm⟩
        rw [decide_eq_decide.2 hmem, Bool.decide_or]; rfl
      cases hin : decide (t ∈ teams.take k) with
      | true =>
        rw [hin, Bool.true_or] at hdec
        simp [go_sem, hkt, w4]
        exact ⟨k + 1, ⟨of_decide_eq_true hdec, by omega⟩, by omega, by omega⟩
      | false =>
        rw [hin, Bool.false_or] at hdec
        simp [go_sem, hkt, w4]
        exact ⟨k + 1, ⟨hdec.symm, by omega⟩, by omega, by omega⟩
    · have hkl : k = teams.length := by omega
      subst hkl
      rw [List.take_length]
      by_cases hin : t ∈ teams
      · simp [go_sem, hin, w1]
        exact ⟨i + 1, teams, ⟨⟨rfl, by omega⟩, rfl⟩, ⟨by omega, hnd, hbd, hlen⟩, by omega⟩
      · by_cases hml : teams.length < most
        · have hmlI : (teams.length : Int) < most := by omega
          simp [go_sem, hin, w1, hml, hmlI]
          refine ⟨by omega, i + 1, teams ++ [t], ⟨⟨by simp, by omega⟩, ints_snoc⟩, ⟨by omega, ?_, ?_, by simp; omega⟩, by omega⟩
          · rw [List.nodup_append]; exact ⟨hnd, by simp, fun a ha b hb => by simp at hb; subst hb; exact fun e => hin (e ▸ ha)⟩
          · intro x hx
            rcases List.mem_append.1 hx with hx | hx
            · exact hbd x hx
            · simp at hx; omega
        · have hmlI : ¬ (teams.length : Int) < most := by omega
          simp [go_sem, hin, w1, hml, hmlI]
          exact ⟨i + 1, teams, ⟨⟨rfl, by omega⟩, rfl⟩, ⟨by omega, hnd, hbd, hlen⟩, by omega⟩
  · simp [go_sem, h]
    refine IWp.ownNilS 2 15 (by decide) (by simp [go_sem]) ?_
    simp only [go_sem]
    refine IWp.loopT (α := Nat × Nat × List (Int × Int)) (fun x => (⟨false, 102, 8, [8, 10, 11, 12, 14, 15, 16, 17, 18, 19, 20, 21, 22, 23, 30, 31, 32, 33, 50, 57, 58, 59, 61, 62, 63, 70, 82], glT, [(1, .int .u64 bits), (8, .sl 0 teams.length 0 teams.length none), (15, .sl 1 x.2.2.length 0 x.2.2.length none), (16, .int .i64 (x.2.1 : Int)), (57, .int .i64 (teams.length : Int)), (58, .int .i64 (x.1 : Int))], []⟩, [.rows 1 (ints teams), .rows 2 (prs x.2.2)]))
      (fun x => x.1 ≤ teams.length ∧ x.2.1 ≤ x.1 * teams.length ∧ x.2.2.length ≤ x.2.1 ∧ (∀ p ∈ x.2.2, p.1 ∈ teams ∧ p.2 ∈ teams ∧ p.1 ≠ p.2)) (fun x => teams.length - x.1) (0, 0, []) (by simp) (by simp [go_sem]) ?_
    rintro ⟨j, n, met⟩ ⟨hj, hn, hmn, hmet⟩
    simp only at hj hn hmn hmet
    by_cases hjt : j < teams.length
    · have w1 : IntKind.i64.wrap ((j : Int) + 1) = j + 1 := wrap64 (by omega) (by omega)
      simp [go_sem, hjt]
      refine IWp.loopT (α := Nat × Nat × List (Int × Int)) (fun x => (⟨false, 102, 8, [8, 10, 11, 12, 14, 15, 16, 17, 18, 19, 20, 21, 22, 23, 30, 31, 32, 33, 50, 57, 58, 59, 61, 62, 63, 70, 82], glT, [(1, .int .u64 bits), (8, .sl 0 teams.length 0 teams.length none), (15, .sl 1 x.2.2.length 0 x.2.2.length none), (16, .int .i64 (x.2.1 : Int)), (17, .int .i64 (j : Int)), (57, .int .i64 (teams.length : Int)), (58, .int .i64 (j : Int)), (61, .int .i64 (j : Int)), (62, .int .i64 (x.1 : Int))], []⟩, [.rows 1 (ints teams), .rows 2 (prs x.2.2)]))
        (fun x => x.1 ≤ j ∧ x.2.1 ≤ j * teams.length + x.1 ∧ x.2.2.length ≤ x.2.1 ∧ (∀ p ∈ x.2.2, p.1 ∈ teams ∧ p.2 ∈ teams ∧ p.1 ≠ p.2)) (fun x => j - x.1) (0, n, met) ⟨by omega, by omega, hmn, hmet⟩ (by simp [go_sem]) ?_
      rintro ⟨k, N, M⟩ ⟨hk, hN, hMN, hM⟩
      simp only at hk hN hMN hM
      have hjn : j * teams.length ≤ 12 * 12 := Nat.mul_le_mul (by omega) (by omega)
      by_cases hkj : k < j
      · have w2 : IntKind.i64.wrap ((k : Int) + 1) = k + 1 := wrap64 (by omega) (by omega)
        have w3 : IntKind.i64.wrap ((N : Int) + 1) = N + 1 := wrap64 (by omega) (by omega)
        have hkt : k < teams.length := by omega
        obtain ⟨s, hs⟩ : ∃ s : Nat, N % 64 = s := ⟨_, rfl⟩
        have hr : (N : Int).tmod 64 = (s : Int) := by rw [Int.tmod_eq_emod_of_nonneg (by omega)]; omega
        obtain ⟨s2, hs2⟩ : ∃ s : Nat, N % 2 = s := ⟨_, rfl⟩
        have hr2 : (N : Int).tmod 2 = (s2 : Int) := by rw [Int.tmod_eq_emod_of_nonneg (by omega)]; omega
        have hne : teams[j] ≠ teams[k] := fun e => by have := nodup_eq hnd hjt hkt e; omega
        obtain ⟨q, hq⟩ : ∃ q, bitsOf .and .u64 (bits.fdiv (2 ^ min s 64)) 1 = q := ⟨_, rfl⟩
        by_cases hq1 : q = 1
        · rcases (by omega : s2 = 0 ∨ s2 = 1) with hn2 | hn2
          · simp [go_sem, hkj, hjt, hkt, hr, hr2, hq, hq1, hn2, w2, w3]
            refine ⟨by decide +kernel, by omega, k + 1, N + 1, M ++ [(teams[j], teams[k])], ⟨⟨by simp, by omega, by omega⟩, prs_snoc⟩, ⟨by omega, by omega, by simp; omega, fun x y h => ?_⟩, by omega⟩
            rcases List.mem_append.1 h with h | h
            · exact hM (x, y) h
            · simp only [List.mem_singleton, Prod.mk.injEq] at h
              obtain ⟨rfl, rfl⟩ := h
              exact ⟨List.getElem_mem _, List.getElem_mem _, hne⟩
          · simp [go_sem, hkj, hjt, hkt, hr, hr2, hq, hq1, hn2, w2, w3]
            refine ⟨by decide +kernel, by decide +kernel, by omega, k + 1, N + 1, M ++ [(teams[k], teams[j])], ⟨⟨by simp, by omega, by omega⟩, prs_snoc⟩, ⟨by omega, by omega, by simp; omega, fun x y h => ?_⟩, by omega⟩
            rcases List.mem_append.1 h with h | h
            · exact hM (x, y) h
            · simp only [List.mem_singleton, Prod.mk.injEq] at h
              obtain ⟨rfl, rfl⟩ := h
              exact ⟨List.getElem_mem _, List.getElem_mem _, fun e => hne e.symm⟩
        · simp [go_sem, hkj, hr, hr2, hq, hq1, w2, w3]
          exact ⟨k + 1, N + 1, M, ⟨⟨rfl, by omega, by omega⟩, rfl⟩, ⟨by omega, by omega, by omega, fun a b h => hM (a, b) h⟩, by omega⟩
      · have hkl : k = j := by omega
        subst hkl
        simp [go_sem, w1]
        exact ⟨k + 1, N, M, ⟨⟨rfl, rfl, by omega⟩, rfl⟩, ⟨by omega, by rw [Nat.succ_mul]; omega, hMN, fun a b h => hM (a, b) h⟩, by omega⟩
    · have hjl : j = teams.length := by omega
      have hmm : teams.length * teams.length ≤ most * most := Nat.mul_le_mul hlen hlen
      subst hjl
      simp [go_sem]
      exact hR _ _ _ ⟨teams, met, ⟨hnd, hbd, hlen, hmet, by omega⟩, rfl⟩ (by simp [go_sem])
end Go.Idl
namespace Go.Idl
set_option linter.all false
open Go.Proofs
set_option maxHeartbeats 8000000
set_option maxRecDepth 40000

def enI (S : List (Int × Int)) : List (IV × IV) := enM (fun k : Int => .int .i64 k) (fun v : Int => .int .i64 v) S
theorem ki64 (a b : Int) : keq (.int .i64 a) (.int .i64 b) = decide (a = b) := by
  show (match ceqs [IV.int .i64 a] [IV.int .i64 b] with | some b => b | none => false) = _
  simp [ceqs, ceq]
  by_cases h : a = b <;> simp [h]
theorem mget_i (m : Int) (S : List (Int × Int)) : mget (.int .i64 m) (enI S) = (aget m S).map fun v : Int => .int .i64 v := mget_en (kf := fun k : Int => .int .i64 k) ki64 m S
theorem mset_i (m v : Int) (S : List (Int × Int)) : mset (.int .i64 m) (.int .i64 v) (enI S) = enI (aset m v S) := mset_en (kf := fun k : Int => .int .i64 k) (vf := fun v : Int => .int .i64 v) ki64 m v S
theorem ok_i (S : List (Int × Int)) : ∀ e ∈ enI S, keyOK Tryd.prog 3 [.int .i64] e.1 = true := en_ok (fun a => by simp [go_sem, keyOK]) S
@[go_sem] theorem bl_i {n : Nat} {S : List (Int × Int)} : BlM n (enI S) = True := eq_true (en_bl (fun a => by simp [go_sem]) (fun b => by simp [go_sem]) S)

/-- draws by their places -/
def okPl (teams : List Int) (met : List (Int × Int)) (a b : Nat) : Bool := okT met (teams.getD a 0) (teams.getD b 0)
theorem drT_places (teams : List Int) (met : List (Int × Int)) (P : List Nat) : drT met (P.map fun i => teams.getD i 0) = (drs (okPl teams met) P).map (asT teams) :=
  drs_map (fun i => teams.getD i 0) (fun a b => rfl) P.length P (Nat.le_refl _)
theorem mem_drT {teams : List Int} {met l : List (Int × Int)} (h : l ∈ drT met teams) : ∃ d, d ∈ drs (okPl teams met) (List.range teams.length) ∧ l = asT teams d := by
  have := drT_places teams met (List.range teams.length)
  rw [teams_range] at this
  rw [this] at h
  obtain ⟨d, h1, h2⟩ := List.mem_map.1 h
  exact ⟨d, h1, h2.symm⟩

theorem clean_fun (teams : List Int) (met l : List (Int × Int)) (hnd : teams.Nodup) (hl : teams.length ≤ 2 ^ 30) (hm : met.length ≤ 2 ^ 32) (hmem : l ∈ drT met teams) :
    F36 27 [.fz 1 (ints teams), .fz 2 (prs met), .fz 2 (prs l)] (fun v => v = .bool true) := by
  refine IFun.of_bodyZ false 7 [7, 8, 9, 10, 12, 13, 14, 20, 22, 23, 24, 25, 34, 35, 36, 37, 63] Tryd.func27 rfl Tryd.call27 rfl fun R hR => ?_
  have hlen := drs_len (ok := okT met) _ teams (Nat.le_refl _) l hmem
  obtain ⟨d, hd, hld⟩ := mem_drT hmem
  have hlI : IntKind.i64.wrap (2 * (l.length : Int)) = teams.length := by rw [wrap64 (by omega) (by omega)]; omega
  have hok : ∀ (S : List (Int × Int)) (a b : IV), (a, b) ∈ enI S → keyOK Tryd.prog 3 [.int .i64] a = true := fun S a b h => ok_i S (a, b) h
  simp [go_sem, hlI]
  refine IWp.loopT (α := Nat × List (Int × Int)) (fun x => (⟨false, 72, 7, [7, 8, 9, 10, 12, 13, 14, 20, 22, 23, 24, 25, 34, 35, 36, 37, 63], glT, [(1, .fz 2 (prs met)), (2, .fz 2 (prs l)), (7, .map 0), (22, .fz 1 (ints teams)), (23, .int .i64 (teams.length : Int)), (24, .int .i64 (x.1 : Int))], []⟩, [.map (enI x.2)]))
    (fun x => x.1 ≤ teams.length ∧ ∀ i, i < x.1 → aget (teams.getD i 0) x.2 = some ((i : Int) + 1)) (fun x => teams.length - x.1) (0, []) (by simp) (by simp [go_sem, enI]) ?_
  rintro ⟨i, S⟩ ⟨hi, hS⟩
  simp only at hi hS
  by_cases h : i < teams.length
  · have w1 : IntKind.i64.wrap ((i : Int) + 1) = i + 1 := wrap64 (by omega) (by omega)
    have hti : teams.getD i 0 = teams[i] := by simp [h]
    simp [go_sem, h, w1]
    rw [mset_i]
    refine ⟨fun a b h => by simpa [go_sem] using hok S a b h, i + 1, aset teams[i] (i + 1) S, ⟨by omega, rfl⟩, ⟨by omega, fun k hk => ?_⟩, by omega⟩
    rw [aget_aset]
    by_cases e : k = i
    · subst e; simp [h]
    · have hkt : k < teams.length := by omega
      have : teams[k]?.getD 0 ≠ teams[i] := by
        rw [List.getElem?_eq_getElem hkt]; exact fun e2 => e (nodup_eq hnd hkt h e2)
      rw [if_neg this]
      have := hS k (by omega)
      rwa [List.getD_eq_getElem?_getD] at this
  have hil : i = teams.length := by omega
  simp [go_sem, h]
  refine IWp.loopT (α := Nat × Nat × List (Int × Int)) (fun x => (⟨false, 72, 7, [7, 8, 9, 10, 12, 13, 14, 20, 22, 23, 24, 25, 34, 35, 36, 37, 63], glT, [(1, .fz 2 (prs met)), (7, .map 0), (10, .int .i64 (x.2.1 : Int)), (34, .fz 2 (prs l)), (35, .int .i64 (l.length : Int)), (36, .int .i64 (x.1 : Int))], []⟩, [.map (enI x.2.2)]))
    (fun x => x.1 ≤ l.length ∧ ∃ (P : List Nat) (d : List (Nat × Nat)), P.Pairwise (· < ·) ∧ (∀ i ∈ P, i < teams.length ∧ x.2.1 ≤ i ∧ aget (teams.getD i 0) x.2.2 = some ((i : Int) + 1)) ∧ d ∈ drs (okPl teams met) P ∧ l.drop x.1 = asT teams d) (fun x => l.length - x.1)
    (0, 0, S) ⟨by omega, List.range teams.length, d, List.pairwise_lt_range, fun i hi => ⟨List.mem_range.1 hi, Nat.zero_le _, hS i (by have := List.mem_range.1 hi; omega)⟩, hd, by simpa using hld⟩ (by simp [go_sem]) ?_
  clear hS hi hd hld d
  rintro ⟨j, last, S⟩ ⟨hj, P, d, hPs, hP, hd, hld⟩
  simp only at hj hP hld
  by_cases hjl : j < l.length
  · have w1 : IntKind.i64.wrap ((j : Int) + 1) = j + 1 := wrap64 (by omega) (by omega)
    have hdrop : l.drop j = l[j] :: l.drop (j + 1) := List.drop_eq_getElem_cons hjl
    cases P with
    | nil =>
      exfalso
      rw [drs_nil] at hd
      have hd0 : d = [] := by simpa using hd
      rw [hd0] at hld
      have := congrArg List.length hld
      simp [asT] at this
      omega
    | cons a P =>
      rw [List.pairwise_cons] at hPs
      have hPn : P.Nodup := hPs.2.imp fun h => Nat.ne_of_lt h
      obtain ⟨b, d', rfl, hb, hab, hd'⟩ := (mem_drs hPn).1 hd
      rw [hdrop, asT, List.map_cons, List.cons.injEq] at hld
      obtain ⟨ha1, ha2, ha3⟩ := hP a (List.mem_cons_self ..)
      obtain ⟨hb1, hb2, hb3⟩ := hP b (List.mem_cons_of_mem _ hb)
      have hlt := hPs.1 b hb
      obtain ⟨A, hA⟩ : ∃ A, teams.getD a 0 = A := ⟨_, rfl⟩
      obtain ⟨B, hB⟩ : ∃ B, teams.getD b 0 = B := ⟨_, rfl⟩
      have hmt : metB met A B = false := by
        simp only [okPl, okT, hA, hB] at hab
        simpa using hab
      have hlj : l[j] = (A, B) := by rw [hld.1, hA, hB]
      rw [hA] at ha3
      rw [hB] at hb3
      have c1 : ¬ (a : Int) + 1 ≤ last := by omega
      have c2 : ¬ (b : Int) + 1 ≤ (a : Int) + 1 := by omega
      have c2' : ¬ b ≤ a := by omega
      have c1' : ¬ (a : Int) < last := by omega
      simp [go_sem, hjl, hlj, mget_i, ha3, hb3, c1, c2, c2']
      refine ⟨fun a b h => by simpa [go_sem] using hok S a b h, by decide +kernel, ?_⟩
      refine (Met_fun met A B hm).call (by simp [go_sem]) ?_
      rintro _ rfl
      simp [go_sem, hmt, w1]
      simp only [mset_i]
      refine ⟨fun a b h => by simpa [go_sem] using hok _ a b h, fun a b h => by simpa [go_sem] using hok _ a b h, by decide +kernel, j + 1, a + 1, aset B 0 (aset A 0 S), ⟨⟨by omega, by omega⟩, rfl⟩, ⟨by omega, wo b P, hPs.2.filter _, fun i hi => ?_, d', hd', hld.2⟩, by omega⟩
      obtain ⟨hi1, hi2⟩ := mem_wo.1 hi
      obtain ⟨hi3, hi4, hi5⟩ := hP i (List.mem_cons_of_mem _ hi1)
      have hlt2 := hPs.1 i hi1
      have nA : teams[i]?.getD 0 ≠ A := by
        rw [← hA, List.getElem?_eq_getElem hi3]; simp [ha1]
        exact fun e => by have := nodup_eq hnd hi3 ha1 e; omega
      have nB : teams[i]?.getD 0 ≠ B := by
        rw [← hB, List.getElem?_eq_getElem hi3]; simp [hb1]
        exact fun e => by have := nodup_eq hnd hi3 hb1 e; omega
      rw [aget_aset, if_neg nB, aget_aset, if_neg nA]
      rw [List.getD_eq_getElem?_getD] at hi5
      exact ⟨hi3, by omega, hi5⟩
  · have hjl2 : j = l.length := by omega
    simp [go_sem, hjl]
    exact hR _ _ _ rfl (by simp [go_sem])
/-- before: of two draws, the first place where they differ. -/
theorem before_fun (teams : List Int) (hnd : teams.Nodup) (hl : teams.length ≤ 2 ^ 30) : ∀ (a b : List (Int × Int)), a.length ≤ 2 ^ 30 → a.length = b.length → befR teams a b →
    F36 28 [.fz 1 (ints teams), .fz 2 (prs a), .fz 2 (prs b)] (fun v => v = .bool true) := by
  intro a b ha hab hbef
  refine IFun.of_bodyZ false 10 [11, 12, 13, 23, 24, 25, 26, 27, 45] Tryd.func28 rfl Tryd.call28 rfl fun R hR => ?_
  simp [go_sem]
  refine IWp.loopT (α := Nat) (fun i => (⟨false, 55, 10, [11, 12, 13, 23, 24, 25, 26, 27, 45], glT, [(0, .fz 1 (ints teams)), (1, .fz 2 (prs a)), (2, .fz 2 (prs b)), (11, .int .i64 (a.length : Int)), (12, .int .i64 (i : Int))], []⟩, []))
    (fun i => i ≤ a.length ∧ befR teams (a.drop i) (b.drop i)) (fun i => a.length - i) 0 ⟨by omega, by simpa using hbef⟩ (by simp [go_sem]) ?_
  rintro i ⟨hi, hbef⟩
  by_cases h : i < a.length
  · have h' : i < b.length := by omega
    have w1 : IntKind.i64.wrap ((i : Int) + 1) = i + 1 := wrap64 (by omega) (by omega)
    have d1 : a.drop i = a[i] :: a.drop (i + 1) := List.drop_eq_getElem_cons h
    have d2 : b.drop i = b[i] :: b.drop (i + 1) := List.drop_eq_getElem_cons h'
    rw [d1, d2] at hbef
    obtain ⟨p, hp⟩ : ∃ p, a[i] = p := ⟨_, rfl⟩
    obtain ⟨q, hq⟩ : ∃ q, b[i] = q := ⟨_, rfl⟩
    rw [hp, hq] at hbef
    obtain ⟨p1, p2⟩ := p
    obtain ⟨q1, q2⟩ := q
    rcases hbef with ⟨h1, h2⟩ | ⟨h1, l1, l2, h2, h3⟩
    · cases h1
      simp [go_sem, h, h', hp, hq, w1]
      exact ⟨by decide +kernel, i + 1, by omega, ⟨by omega, h2⟩, by omega⟩
    · simp only at h1 h2 h3
      have hpn : p2 ≠ q2 := fun e => by
        rw [h2, List.nodup_append] at hnd
        have := hnd.2.1
        rw [List.nodup_cons] at this
        exact this.1 (e ▸ h3)
      have hne : ¬ (p1 = q1 ∧ p2 = q2) := fun e => hpn e.2
      have hb : (p1 == q1 && p2 == q2) = false := by rw [← Bool.not_eq_true]; simpa using hne
      have hpi : l1.length < teams.length := by rw [h2]; simp
      have hpe : teams[l1.length] = p2 := by simp [h2]
      simp [go_sem, h, h', hp, hq, hb, hne]
      refine ⟨by decide +kernel, ?_⟩
      refine IWp.loopT (α := Nat) (fun k => (⟨false, 55, 10, [11, 12, 13, 23, 24, 25, 26, 27, 45], glT, [(0, .fz 1 (ints teams)), (1, .fz 2 (prs a)), (2, .fz 2 (prs b)), (7, .int .i64 (i : Int)), (11, .int .i64 (a.length : Int)), (12, .int .i64 (i : Int)), (24, .fz 1 (ints teams)), (25, .int .i64 (teams.length : Int)), (26, .int .i64 (k : Int))], []⟩, []))
        (fun k => k ≤ l1.length) (fun k => l1.length - k) 0 (by omega) (by simp [go_sem]) ?_
      intro k hk
      have hkt : k < teams.length := by omega
      have w2 : IntKind.i64.wrap ((k : Int) + 1) = k + 1 := wrap64 (by omega) (by omega)
      by_cases hkl : k = l1.length
      · subst hkl
        simp [go_sem, hkt, h, h', hp, hq, hpe]
        exact hR _ _ _ rfl (by simp [go_sem])
      · obtain ⟨t, ht⟩ : ∃ t, teams[k] = t := ⟨_, rfl⟩
        have n1 : ¬ t = p2 := fun e => hkl (nodup_eq hnd hkt hpi (by rw [ht, hpe, e]))
        have n2 : ¬ t = q2 := fun e => by
          have hin : q2 ∈ l1 := by
            have : teams[k]'hkt = l1[k]'(by omega) := by simp only [h2]; rw [List.getElem_append_left (by omega)]
            rw [← e, ← ht, this]; exact List.getElem_mem _
          rw [h2, List.nodup_append] at hnd
          exact hnd.2.2 q2 hin q2 (List.mem_cons_of_mem _ h3) rfl
        simp [go_sem, hkt, h, h', hp, hq, ht, n1, n2, w2]
        exact ⟨k + 1, by omega, by omega, by omega⟩
  · rw [List.drop_eq_nil_of_le (by omega)] at hbef
    simp [befR] at hbef
end Go.Idl
namespace Go.Idl
set_option linter.all false
open Go.Proofs
set_option maxHeartbeats 8000000
set_option maxRecDepth 40000

theorem made_err {most : Nat} {teams T : List Int} {met : List (Int × Int)} (h : MadeOK most teams met) (hm : most ≤ 12) (hT : T.Sublist teams) (hev : T.length % 2 = 0) : errN T met false = 0 ∧ rightB T met = true := by
  obtain ⟨h1, h2, h3, h4, h5⟩ := h
  have hr : rightB T met = true := by
    simp only [rightB, Bool.and_eq_true, decide_eq_true_eq, List.all_eq_true]
    refine ⟨⟨fun t ht => ?_, h1.sublist hT⟩, fun p hp => ?_⟩
    · have := h2 t (hT.subset ht); simp [numB]; omega
    · obtain ⟨q1, q2, q3⟩ := h4 p hp
      have e1 := h2 _ q1; have e2 := h2 _ q2
      simp [numB]; exact ⟨⟨by omega, by omega⟩, q3⟩
  refine ⟨?_, hr⟩
  have := hT.length_le
  unfold errN
  rw [if_neg (by simp [hr]), if_neg (by omega), if_neg (by omega)]
theorem drT_nodup {teams : List Int} {met : List (Int × Int)} (h : teams.Nodup) : (drT met teams).Nodup := drs_nodupL _ _ (Nat.le_refl _) h
theorem nmb_at {T : List Int} {met : List (Int × Int)} (he : errN T met false = 0) (hn : T.Nodup) {k : Nat} (hk : k < (drT met T).length) : nmbN T met (drT met T)[k] = k ∧ nmbE T met (drT met T)[k] = 0 := by
  have := ix_get (drT_nodup (met := met) hn) hk
  unfold nmbN nmbE
  rw [if_neg (by simp [he]), if_neg (by simp [he]), this]
  exact ⟨rfl, rfl⟩
theorem nth_at {T : List Int} {met : List (Int × Int)} (he : errN T met false = 0) {k : Nat} (hk : k < (drT met T).length) : nthD T met k = (drT met T)[k] ∧ nthE T met k = 0 := by
  have e : nthE T met k = 0 := by unfold nthE; rw [if_neg (by simp [he]), if_neg (by omega)]
  refine ⟨?_, e⟩
  unfold nthD
  rw [if_pos e]; simp [hk]
theorem nth_off {T : List Int} {met : List (Int × Int)} (he : errN T met false = 0) {k : Int} (hk : k < 0 ∨ ((drT met T).length : Int) ≤ k) : nthD T met k = [] ∧ nthE T met k = 6 := by
  have e : nthE T met k = 6 := by unfold nthE; rw [if_neg (by simp [he]), if_pos hk]
  refine ⟨?_, e⟩
  unfold nthD
  rw [if_neg (by rw [e]; decide)]
theorem cntN_eq {T : List Int} {met : List (Int × Int)} (he : errN T met false = 0) : cntN T met = (drT met T).length := by unfold cntN; rw [if_pos he]
theorem drT_le {T : List Int} {met : List (Int × Int)} (hn : T.Nodup) (hl : T.length ≤ 8) : (drT met T).length ≤ 105 := by
  have := cnt_le_df (ok := okT met) T.length T rfl hn
  have h2 : df T.length ≤ 105 := by
    have : ∀ n, n ≤ 8 → df n ≤ 105 := by decide
    exact this _ hl
  exact Nat.le_trans this h2
theorem half2 (n : Nat) (h : n ≤ 2 ^ 30) : IntKind.i64.wrap (IntKind.i64.wrap ((n : Int) / 2) * 2) = ((n / 2 * 2 : Nat) : Int) := by
  have e : ((n : Int) / 2) = ((n / 2 : Nat) : Int) := by omega
  obtain ⟨m, hm⟩ : ∃ m, n / 2 = m := ⟨_, rfl⟩
  have w : IntKind.i64.wrap (m : Int) = m := wrap64 (by omega) (by omega)
  rw [e, hm, w, wrap64 (by omega) (by omega)]; omega
theorem ints_take (l : List Int) (n : Nat) : List.take n (ints l) = ints (l.take n) := by simp [ints, mp]

theorem PairingBack_law (order : List Int) (bits : Int) (ho : ∀ b ∈ order, 0 ≤ b ∧ b ≤ 255) (hol : order.length < 2 ^ 63) (hb : 0 ≤ bits ∧ bits < 2 ^ 64) : F36 8 [.fz 1 (bys order), .int .u64 bits] (fun v => v = .bool true) := by
  refine IFun.of_bodyZ false 5 [5, 6, 7, 8, 9, 10, 11, 12, 13, 14, 16, 18, 46, 47, 48, 49, 93] Tryd.func8 rfl Tryd.call8 rfl fun R hR => ?_
  simp [go_sem]
  refine (Made_fun order bits 8 (by decide) ho hol hb).call (by simp [go_sem]) ?_
  rintro _ ⟨teams, met, hmd, rfl⟩
  obtain ⟨T, hT⟩ : ∃ T, teams.take (teams.length / 2 * 2) = T := ⟨_, rfl⟩
  have hsub : T.Sublist teams := hT ▸ List.take_sublist _ _
  have hTl : T.length = teams.length / 2 * 2 := by rw [← hT]; simp; omega
  have h3 := hmd.2.2.1
  have hh := half2 teams.length (by omega)
  obtain ⟨L, hL⟩ : ∃ L, teams.length / 2 * 2 = L := ⟨_, rfl⟩
  rw [hL] at hT
  rw [hL] at hh hTl
  have hLn : L ≤ teams.length := by omega
  obtain ⟨he, hr⟩ := made_err hmd (by decide) hsub (by omega)
  have hTn : T.Nodup := hmd.1.sublist hsub
  have hml : met.length ≤ 64 := hmd.2.2.2.2
  have hD := drT_le (met := met) hTn (by omega)
  have hcE := cntN_eq he
  obtain ⟨D, hDe⟩ : ∃ D, drT met T = D := ⟨_, rfl⟩
  have hlen : ∀ k (h : k < D.length), D[k].length ≤ 16 ∧ 2 * D[k].length = T.length := fun k h => by
    have := drs_len (ok := okT met) _ T (Nat.le_refl _) D[k] (by rw [show drs (okT met) T = drT met T from rfl, hDe]; exact List.getElem_mem h)
    exact ⟨by omega, this⟩
  simp [go_sem, hh, ints_take, hT, hLn]
  refine (Count_fun T met (by omega) (by omega)).call (by simp [go_sem]) ?_
  rintro _ rfl
  rw [hDe] at hcE hD
  have q1 : ¬ (105 : Int) < D.length := by omega
  have q2 : ¬ (D.length : Int) < 0 := by omega
  rw [he, hcE]
  simp [go_sem, q1, q2]
  refine IWp.loopT (α := Nat × IV) (fun x => (⟨false, 119, 5, [5, 6, 7, 8, 9, 10, 11, 12, 13, 14, 16, 18, 46, 47, 48, 49, 93], glT, [(5, .fz 1 (ints T)), (6, .fz 2 (prs met)), (7, .int .i64 (D.length : Int)), (9, x.2), (47, .int .i64 (D.length : Int)), (48, .int .i64 (x.1 : Int))], []⟩, []))
    (fun x => x.1 ≤ D.length ∧ ((x.1 = 0 ∧ x.2 = .nils) ∨ ∃ j, ∃ h : j < D.length, x.1 = j + 1 ∧ x.2 = .fz 2 (prs D[j]))) (fun x => D.length - x.1) (0, .nils) ⟨by omega, .inl ⟨rfl, rfl⟩⟩ (by simp [go_sem]) ?_
  rintro ⟨k, c⟩ ⟨hk, hc⟩
  simp only at hk hc
  by_cases h : k < D.length
  · have w1 : IntKind.i64.wrap ((k : Int) + 1) = k + 1 := wrap64 (by omega) (by omega)
    obtain ⟨n1, n2⟩ := nth_at he (hDe ▸ h)
    obtain ⟨m1, m2⟩ := nmb_at he hTn (hDe ▸ h)
    obtain ⟨hl1, hl2⟩ := hlen k h
    simp only [hDe] at n1 m1 m2
    have hcl := clean_fun T met D[k] hTn (by omega) (by omega) (by rw [hDe]; exact List.getElem_mem h)
    rcases hc with ⟨rfl, rfl⟩ | ⟨j, hj, hjk, rfl⟩
    · simp [go_sem, h]
      refine (Nth_fun T met ((0 : Nat) : Int) (by omega) (by omega)).call (by simp [go_sem]) ?_
      rintro _ rfl
      rw [n1, n2]
      simp [go_sem]
      refine (Number_fun T met D[0] (by omega) (by omega) (by omega)).call (by simp [go_sem]) ?_
      rintro _ rfl
      rw [m1, m2]
      simp [go_sem]
      refine hcl.call (by simp [go_sem]) ?_
      rintro _ rfl
      simp [go_sem, w1]
      exact ⟨1, _, ⟨⟨rfl, by decide⟩, by simp [go_sem]⟩, ⟨by omega, .inr ⟨0, rfl, h, rfl⟩⟩, by omega⟩
    · simp [go_sem, h]
      refine (Nth_fun T met (k : Int) (by omega) (by omega)).call (by simp [go_sem]) ?_
      rintro _ rfl
      rw [n1, n2]
      simp [go_sem]
      refine (Number_fun T met D[k] (by omega) (by omega) (by omega)).call (by simp [go_sem]) ?_
      rintro _ rfl
      rw [m1, m2]
      simp [go_sem]
      refine hcl.call (by simp [go_sem]) ?_
      rintro _ rfl
      have hj1 : 0 < k := by omega
      have hj1' : (0 : Int) < k := by omega
      simp [go_sem, w1, hj1, hj1']
      refine (before_fun T hTn (by omega) D[j] D[k] (by have := hlen j hj; omega) (by have := hlen j hj; omega) ?_).call (by simp [go_sem]) ?_
      · have := List.pairwise_iff_getElem.1 (drs_sorted (ok := okT met) _ T (Nat.le_refl _) hTn)
        have h2 := this j k (by rw [show drs (okT met) T = drT met T from rfl, hDe]; exact hj) (by rw [show drs (okT met) T = drT met T from rfl, hDe]; exact h) (by omega)
        simpa only [show drs (okT met) T = drT met T from rfl, hDe] using h2
      rintro _ rfl
      simp [go_sem, w1]
      exact ⟨k + 1, _, ⟨⟨rfl, by omega⟩, by simp [go_sem]⟩, ⟨by omega, .inr ⟨k, rfl, h, rfl⟩⟩, by omega⟩
  · simp [go_sem, h]
    have f1 := nth_off he (k := (D.length : Int)) (.inr (by rw [hDe]; omega))
    have f2 := nth_off he (k := -1) (.inl (by decide))
    refine (Nth_fun T met (D.length : Int) (by omega) (by omega)).call (by simp [go_sem]) ?_
    rintro _ rfl
    rw [f1.1, f1.2]
    simp [go_sem]
    refine (Nth_fun T met (-1) (by omega) (by omega)).call (by simp [go_sem]) ?_
    rintro _ rfl
    rw [f2.1, f2.2]
    simp [go_sem]
    refine awake_fun.call (by simp [go_sem]) ?_
    rintro _ rfl
    simp [go_sem]
    exact hR _ _ _ rfl (by simp [go_sem])
end Go.Idl
