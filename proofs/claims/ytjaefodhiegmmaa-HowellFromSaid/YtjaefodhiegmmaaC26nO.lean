import Derived.Test.YtjaefodhiegmmaaC26nM
namespace Go.Idl
set_option linter.all false
open Go.Proofs
set_option maxHeartbeats 4000000
set_option maxRecDepth 20000

def rowF (n : Int) (r i : Nat) (p : Int × Int) : RowV := ⟨r, i + 1, (p.1 + r).tmod n + 1, (p.2 + r).tmod n + 1, (p.1 + p.2 + r).tmod n⟩
def innL (n T : Int) (l : List (Int × Int)) (r i : Nat) : List RowV := ⟨r, 0, 2 * T, r + 1, r⟩ :: ((l.take i).zipIdx.map fun q => rowF n r q.2 q.1)
def rowsL (n T : Int) (l : List (Int × Int)) (R : Nat) : List RowV := (List.range R).flatMap fun r => innL n T l r l.length
theorem innL_succ (n T : Int) (l : List (Int × Int)) (r i : Nat) (h : i < l.length) : innL n T l r (i + 1) = innL n T l r i ++ [rowF n r i l[i]] := by
  unfold innL
  rw [List.take_succ_eq_append_getElem h, List.zipIdx_append]
  have : min i l.length = i := by omega
  simp [this]
theorem innL_zero (n T : Int) (l : List (Int × Int)) (r : Nat) : innL n T l r 0 = [⟨r, 0, 2 * T, r + 1, r⟩] := by simp [innL]
theorem innL_length (n T : Int) (l : List (Int × Int)) (r i : Nat) (h : i ≤ l.length) : (innL n T l r i).length = i + 1 := by simp [innL]; omega
theorem rowsL_succ (n T : Int) (l : List (Int × Int)) (R : Nat) : rowsL n T l (R + 1) = rowsL n T l R ++ innL n T l R l.length := by simp [rowsL, List.range_succ]
theorem rowsL_length (n T : Int) (l : List (Int × Int)) (R : Nat) : (rowsL n T l R).length = R * (l.length + 1) := by
  induction R with
  | zero => simp [rowsL]
  | succ R ih => rw [rowsL_succ, List.length_append, ih, innL_length _ _ _ _ _ (Nat.le_refl _), Nat.add_mul, Nat.one_mul]
def movOf (n rounds : Int) (b : Bool) (l : List (Int × Int)) : Mov := ⟨(n + 1).tdiv 2, rounds, n, if b = true then 1 else (n + 1).tdiv 2, 1, rowsL n ((n + 1).tdiv 2) l rounds.toNat⟩
def FromV (n rounds : Int) (l : List (Int × Int)) (v : IV) : Prop := ∃ b e, ChkV n l b e ∧ ((e ≠ 0 ∧ v = .tup [Mov.zero.v, .int .i64 e]) ∨ (e = 0 ∧ rounds < 1 ∧ v = .tup [Mov.zero.v, .int .i64 2]) ∨ (e = 0 ∧ 1 ≤ rounds ∧ n < rounds ∧ v = .tup [Mov.zero.v, .int .i64 5]) ∨ (e = 0 ∧ 1 ≤ rounds ∧ rounds ≤ n ∧ v = .tup [(movOf n rounds b l).v, .int .i64 0]))

theorem from_fun (n rounds : Int) (l : List (Int × Int)) (hl : l.length ≤ 2 ^ 32) : IFun true Try.prog [] 20 [.int .i64 n, .int .i64 rounds, .fz 2 (prs l)] (FromV n rounds l) := by
  refine IFun.of_bodyZ false 8 [8, 9, 10, 11, 12, 13, 14, 15, 16, 17, 25, 29, 33, 43, 45, 46, 47, 61, 62, 63, 64] Try.func20 rfl Try.call20 rfl fun R hR => ?_
  simp [go_sem]
  refine (check_fun n l hl).callM (by simp [go_sem]) ?_
  rintro _ ⟨b, e, rfl, hc⟩
  simp [go_sem]
  split
  case isFalse he => exact hR _ _ _ ⟨b, e, hc, .inl ⟨he, rfl⟩⟩ (by simp [go_sem, Mov.v, Mov.zero])
  rename_i he
  subst he
  have hcc : ¬ BadN n ∧ (l.length : Int) = (n - 1).tdiv 2 ∧ Good n l := by
    rcases hc with ⟨_, _, h⟩ | ⟨_, _, _, h⟩ | ⟨h1, h2, h3, _⟩
    · omega
    · omega
    · exact ⟨h1, h2, h3⟩
  obtain ⟨hbad, hlen, hg⟩ := hcc
  unfold BadN at hbad
  have hlen2 : (l.length : Int) = (n - 1) / 2 := by rw [hlen, Int.tdiv_eq_ediv_of_nonneg (by omega)]
  have hT : (n + 1).tdiv 2 = (n + 1) / 2 := Int.tdiv_eq_ediv_of_nonneg (by omega)
  split
  · rename_i h1
    exact hR _ _ _ ⟨b, 0, hc, .inr (.inl ⟨rfl, h1, rfl⟩)⟩ (by simp [go_sem, Mov.v, Mov.zero])
  rename_i h1
  split
  · rename_i h2
    exact hR _ _ _ ⟨b, 0, hc, .inr (.inr (.inl ⟨rfl, by omega, h2, rfl⟩))⟩ (by simp [go_sem, Mov.v, Mov.zero])
  rename_i h2
  obtain ⟨T, hTe⟩ : ∃ T, T = (n + 1).tdiv 2 := ⟨_, rfl⟩
  have w1 : IntKind.i64.wrap (n + 1) = n + 1 := wrap64 (by omega) (by omega)
  have w2 : IntKind.i64.wrap T = T := wrap64 (by omega) (by omega)
  rw [w1, ← hTe, w2]
  obtain ⟨C, hC⟩ : ∃ C : Int, C = if b = true then 1 else T := ⟨_, rfl⟩
  have hTb : 2 ≤ T ∧ T ≤ 24 := by omega
  have hin : ∀ (i : Nat) (h : i < l.length), InR n l[i] := fun i h => hg.1 _ (by simp)
  have fin : movOf n rounds b l = ⟨T, rounds, n, C, 1, rowsL n T l rounds.toNat⟩ := by rw [movOf, ← hTe, hC]
  split <;> rename_i hb
  all_goals
    refine IWp.ownNil 5 _ [.rows 6 [[.int .i64 0, .int .i64 0, .int .i64 0, .int .i64 0, .int .i64 0, .nils]], .rows 6 [[.int .i64 T, .int .i64 rounds, .int .i64 n, .int .i64 C, .int .i64 1, .sl 2 0 0 0 none]]] (by decide) (nlL_refl _) (by simp [go_sem, hC, hb]) ?_
    refine IWp.loopT (α := Nat) (fun r => (⟨false, 106, 8, [8, 9, 10, 11, 12, 13, 14, 15, 16, 17, 25, 29, 33, 43, 45, 46, 47, 61, 62, 63, 64], [], [(0, .int .i64 n), (2, .fz 2 (prs l)), (6, .ptr 0 1 0 0), (10, .int .i64 T), (11, .ptr 1 1 0 0), (45, .int .i64 rounds), (46, .int .i64 r)], []⟩,
      [.rows 6 [[.int .i64 0, .int .i64 0, .int .i64 0, .int .i64 0, .int .i64 0, .nils]], .rows 6 [[.int .i64 T, .int .i64 rounds, .int .i64 n, .int .i64 C, .int .i64 1, .sl 2 (rowsL n T l r).length 0 (rowsL n T l r).length none]], .rows 5 (rws (rowsL n T l r))]))
      (fun r => r ≤ rounds.toNat) (fun r => rounds.toNat - r) 0 (by omega) (by simp [go_sem, rowsL]) ?_
    intro r hr
    have hRL := rowsL_length n T l r
    have hRL2 : r * (l.length + 1) ≤ 47 * 24 := Nat.mul_le_mul (by omega) (by omega)
    by_cases h : (r : Int) < rounds
    · have w3 : IntKind.i64.wrap (2 * T) = 2 * T := wrap64 (by omega) (by omega)
      have w4 : IntKind.i64.wrap ((r : Int) + 1) = r + 1 := wrap64 (by omega) (by omega)
      simp [go_sem, h, w3, w4]
      have hlr : (rowsL n T l r).length ≤ 1200 := by omega
      refine ⟨by omega, ?_⟩
      refine IWp.loopT (α := Nat) (fun i => (⟨false, 106, 8, [8, 9, 10, 11, 12, 13, 14, 15, 16, 17, 25, 29, 33, 43, 45, 46, 47, 61, 62, 63, 64], [], [(0, .int .i64 n), (2, .fz 2 (prs l)), (6, .ptr 0 1 0 0), (10, .int .i64 T), (11, .ptr 1 1 0 0), (12, .int .i64 r), (45, .int .i64 rounds), (46, .int .i64 r), (61, .fz 2 (prs l)), (62, .int .i64 l.length), (63, .int .i64 i)], []⟩,
        [.rows 6 [[.int .i64 0, .int .i64 0, .int .i64 0, .int .i64 0, .int .i64 0, .nils]], .rows 6 [[.int .i64 T, .int .i64 rounds, .int .i64 n, .int .i64 C, .int .i64 1, .sl 2 ((rowsL n T l r).length + (i + 1)) 0 ((rowsL n T l r).length + (i + 1)) none]], .rows 5 (rws (rowsL n T l r ++ innL n T l r i)), .dead]))
        (fun i => i ≤ l.length) (fun i => l.length - i) 0 (by omega) (by simp [go_sem, innL_zero, rws_snoc]) ?_
      intro i hi
      by_cases hil : i < l.length
      · have hI := hin i hil
        unfold InR at hI
        obtain ⟨x, hx⟩ : ∃ x, x = l[i].1 := ⟨_, rfl⟩
        obtain ⟨y, hy⟩ : ∃ y, y = l[i].2 := ⟨_, rfl⟩
        rw [← hx, ← hy] at hI
        have hm : ∀ a : Int, 0 ≤ a → 0 ≤ a.tmod n ∧ a.tmod n < n := fun a ha => by
          rw [Int.tmod_eq_emod_of_nonneg ha]; exact ⟨Int.emod_nonneg _ (by omega), Int.emod_lt_of_pos _ (by omega)⟩
        have m1 := hm (x + r) (by omega)
        have m2 := hm (y + r) (by omega)
        have v1 : IntKind.i64.wrap (x + r) = x + r := wrap64 (by omega) (by omega)
        have v2 : IntKind.i64.wrap (y + r) = y + r := wrap64 (by omega) (by omega)
        have v3 : IntKind.i64.wrap (x + y) = x + y := wrap64 (by omega) (by omega)
        have v4 : IntKind.i64.wrap (x + y + r) = x + y + r := wrap64 (by omega) (by omega)
        have v5 : IntKind.i64.wrap ((i : Int) + 1) = i + 1 := wrap64 (by omega) (by omega)
        have v6 : IntKind.i64.wrap ((x + r).tmod n + 1) = (x + r).tmod n + 1 := wrap64 (by omega) (by omega)
        have v7 : IntKind.i64.wrap ((y + r).tmod n + 1) = (y + r).tmod n + 1 := wrap64 (by omega) (by omega)
        have n0 : ¬ n = 0 := by omega
        have hil2 := innL_length n T l r i hi
        simp [go_sem, hil, ← hx, ← hy, v1, v2, v3, v4, v5, v6, v7, n0, hil2]
        refine ⟨by decide +kernel, by omega, i + 1, ⟨rfl, by omega, ?_⟩, by omega, by omega⟩
        rw [innL_succ _ _ _ _ _ hil, ← List.append_assoc, rws_snoc]
        simp only [rowF, ← hx, ← hy]
      · simp [go_sem, hil]
        have hie : i = l.length := by omega
        subst hie
        refine ⟨r + 1, ⟨by rw [w4]; rfl, ?_, by rw [rowsL_succ]⟩, by omega, by omega⟩
        rw [rowsL_succ, List.length_append, innL_length _ _ _ _ _ (Nat.le_refl _)]
    · simp [go_sem, h]
      refine hR _ _ _ ⟨b, 0, hc, .inr (.inr (.inr ⟨rfl, by omega, by omega, rfl⟩))⟩ ?_
      have : r = rounds.toNat := by omega
      subst this
      simp [go_sem, fin, Mov.v]

theorem refFrom_fun (n rounds : Int) (l : List (Int × Int)) (hl : l.length ≤ 2 ^ 32) : IFun true Try.prog [] 30 [.int .i64 n, .int .i64 rounds, .fz 2 (prs l)] (FromV n rounds l) := by
  refine IFun.of_bodyZ false 8 [8, 9, 10, 11, 12, 13, 14, 15, 23, 27, 31, 41, 45, 63] Try.func30 rfl Try.call30 rfl fun R hR => ?_
  simp [go_sem]
  refine (refCheck_fun n l hl).callM (by simp [go_sem]) ?_
  rintro _ ⟨b, e, rfl, hc⟩
  simp [go_sem]
  split
  case isFalse he => exact hR _ _ _ ⟨b, e, hc, .inl ⟨he, rfl⟩⟩ (by simp [go_sem, Mov.v, Mov.zero])
  rename_i he
  subst he
  have hcc : ¬ BadN n ∧ (l.length : Int) = (n - 1).tdiv 2 ∧ Good n l := by
    rcases hc with ⟨_, _, h⟩ | ⟨_, _, _, h⟩ | ⟨h1, h2, h3, _⟩
    · omega
    · omega
    · exact ⟨h1, h2, h3⟩
  obtain ⟨hbad, hlen, hg⟩ := hcc
  unfold BadN at hbad
  have hlen2 : (l.length : Int) = (n - 1) / 2 := by rw [hlen, Int.tdiv_eq_ediv_of_nonneg (by omega)]
  have hT : (n + 1).tdiv 2 = (n + 1) / 2 := Int.tdiv_eq_ediv_of_nonneg (by omega)
  split
  · rename_i h1
    exact hR _ _ _ ⟨b, 0, hc, .inr (.inl ⟨rfl, h1, rfl⟩)⟩ (by simp [go_sem, Mov.v, Mov.zero])
  rename_i h1
  split
  · rename_i h2
    exact hR _ _ _ ⟨b, 0, hc, .inr (.inr (.inl ⟨rfl, by omega, h2, rfl⟩))⟩ (by simp [go_sem, Mov.v, Mov.zero])
  rename_i h2
  obtain ⟨T, hTe⟩ : ∃ T, T = (n + 1).tdiv 2 := ⟨_, rfl⟩
  have w1 : IntKind.i64.wrap (n + 1) = n + 1 := wrap64 (by omega) (by omega)
  have w2 : IntKind.i64.wrap T = T := wrap64 (by omega) (by omega)
  rw [w1, ← hTe, w2]
  obtain ⟨C, hC⟩ : ∃ C : Int, C = if b = true then 1 else T := ⟨_, rfl⟩
  have hTb : 2 ≤ T ∧ T ≤ 24 := by omega
  have hin : ∀ (i : Nat) (h : i < l.length), InR n l[i] := fun i h => hg.1 _ (by simp)
  have fin : movOf n rounds b l = ⟨T, rounds, n, C, 1, rowsL n T l rounds.toNat⟩ := by rw [movOf, ← hTe, hC]
  split <;> rename_i hb
  all_goals
    refine IWp.ownNil 5 _ [.rows 6 [[.int .i64 0, .int .i64 0, .int .i64 0, .int .i64 0, .int .i64 0, .nils]], .rows 6 [[.int .i64 T, .int .i64 rounds, .int .i64 n, .int .i64 C, .int .i64 1, .sl 2 0 0 0 none]]] (by decide) (nlL_refl _) (by simp [go_sem, hC, hb]) ?_
    refine IWp.loopT (α := Nat) (fun r => (⟨false, 105, 8, [8, 9, 10, 11, 12, 13, 14, 15, 23, 27, 31, 41, 45, 63], [], [(0, .int .i64 n), (1, .int .i64 rounds), (2, .fz 2 (prs l)), (6, .ptr 0 1 0 0), (10, .int .i64 T), (11, .ptr 1 1 0 0), (12, .int .i64 r)], []⟩,
      [.rows 6 [[.int .i64 0, .int .i64 0, .int .i64 0, .int .i64 0, .int .i64 0, .nils]], .rows 6 [[.int .i64 T, .int .i64 rounds, .int .i64 n, .int .i64 C, .int .i64 1, .sl 2 (rowsL n T l r).length 0 (rowsL n T l r).length none]], .rows 5 (rws (rowsL n T l r))]))
      (fun r => r ≤ rounds.toNat) (fun r => rounds.toNat - r) 0 (by omega) (by simp [go_sem, rowsL]) ?_
    intro r hr
    have hRL := rowsL_length n T l r
    have hRL2 : r * (l.length + 1) ≤ 47 * 24 := Nat.mul_le_mul (by omega) (by omega)
    by_cases h : (r : Int) < rounds
    · have w3 : IntKind.i64.wrap (2 * T) = 2 * T := wrap64 (by omega) (by omega)
      have w4 : IntKind.i64.wrap ((r : Int) + 1) = r + 1 := wrap64 (by omega) (by omega)
      simp [go_sem, h, w3, w4]
      have hlr : (rowsL n T l r).length ≤ 1200 := by omega
      refine ⟨by omega, ?_⟩
      refine IWp.loopT (α := Nat) (fun i => (⟨false, 105, 8, [8, 9, 10, 11, 12, 13, 14, 15, 23, 27, 31, 41, 45, 63], [], [(0, .int .i64 n), (1, .int .i64 rounds), (2, .fz 2 (prs l)), (6, .ptr 0 1 0 0), (10, .int .i64 T), (11, .ptr 1 1 0 0), (12, .int .i64 r), (13, .int .i64 i)], []⟩,
        [.rows 6 [[.int .i64 0, .int .i64 0, .int .i64 0, .int .i64 0, .int .i64 0, .nils]], .rows 6 [[.int .i64 T, .int .i64 rounds, .int .i64 n, .int .i64 C, .int .i64 1, .sl 2 ((rowsL n T l r).length + (i + 1)) 0 ((rowsL n T l r).length + (i + 1)) none]], .rows 5 (rws (rowsL n T l r ++ innL n T l r i)), .dead]))
        (fun i => i ≤ l.length) (fun i => l.length - i) 0 (by omega) (by simp [go_sem, innL_zero, rws_snoc]) ?_
      intro i hi
      by_cases hil : i < l.length
      · have hI := hin i hil
        unfold InR at hI
        obtain ⟨x, hx⟩ : ∃ x, x = l[i].1 := ⟨_, rfl⟩
        obtain ⟨y, hy⟩ : ∃ y, y = l[i].2 := ⟨_, rfl⟩
        rw [← hx, ← hy] at hI
        have hm : ∀ a : Int, 0 ≤ a → 0 ≤ a.tmod n ∧ a.tmod n < n := fun a ha => by
          rw [Int.tmod_eq_emod_of_nonneg ha]; exact ⟨Int.emod_nonneg _ (by omega), Int.emod_lt_of_pos _ (by omega)⟩
        have m1 := hm (x + r) (by omega)
        have m2 := hm (y + r) (by omega)
        have v1 : IntKind.i64.wrap (x + r) = x + r := wrap64 (by omega) (by omega)
        have v2 : IntKind.i64.wrap (y + r) = y + r := wrap64 (by omega) (by omega)
        have v3 : IntKind.i64.wrap (x + y) = x + y := wrap64 (by omega) (by omega)
        have v4 : IntKind.i64.wrap (x + y + r) = x + y + r := wrap64 (by omega) (by omega)
        have v5 : IntKind.i64.wrap ((i : Int) + 1) = i + 1 := wrap64 (by omega) (by omega)
        have v6 : IntKind.i64.wrap ((x + r).tmod n + 1) = (x + r).tmod n + 1 := wrap64 (by omega) (by omega)
        have v7 : IntKind.i64.wrap ((y + r).tmod n + 1) = (y + r).tmod n + 1 := wrap64 (by omega) (by omega)
        have n0 : ¬ n = 0 := by omega
        have hil2 := innL_length n T l r i hi
        simp [go_sem, hil, ← hx, ← hy, v1, v2, v3, v4, v5, v6, v7, n0, hil2]
        refine ⟨by decide +kernel, by omega, by decide +kernel, i + 1, ⟨rfl, by omega, ?_⟩, by omega, by omega⟩
        rw [innL_succ _ _ _ _ _ hil, ← List.append_assoc, rws_snoc]
        simp only [rowF, ← hx, ← hy]
      · simp [go_sem, hil]
        have hie : i = l.length := by omega
        subst hie
        refine ⟨r + 1, ⟨by rw [w4]; rfl, ?_, by rw [rowsL_succ]⟩, by omega, by omega⟩
        rw [rowsL_succ, List.length_append, innL_length _ _ _ _ _ (Nat.le_refl _)]
    · simp [go_sem, h]
      refine hR _ _ _ ⟨b, 0, hc, .inr (.inr (.inr ⟨rfl, by omega, by omega, rfl⟩))⟩ ?_
      have : r = rounds.toNat := by omega
      subst this
      simp [go_sem, fin, Mov.v]
end Go.Idl
