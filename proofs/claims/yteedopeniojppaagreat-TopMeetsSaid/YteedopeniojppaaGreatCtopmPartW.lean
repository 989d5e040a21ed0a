/-
  TopMeets.
  TopMeets: the law.
-/
import Derived.Test.YteedopeniojppaaGreatCtopmPartU
import Derived.Test.YteedopeniojppaaGreatCtopmPartV
import Derived.Test.YteedopeniojppaaGreatCtopmPartB
import Derived.Test.YteedopeniojppaaGreatIdlPartK
import Derived.Test.YteedopeniojppaaGreatIdlPartH
namespace Go.Idl
set_option linter.all false
open Go.Proofs
set_option maxHeartbeats 16000000
set_option maxRecDepth 40000

theorem kR_get {Z : List Ky} {i : Nat} (h : i < (kR Z).length) : (kR Z)[i] = [.int .i64 (Z[i]'(by simpa using h)).r, .int .i64 (Z[i]'(by simpa using h)).t, .int .i64 (Z[i]'(by simpa using h)).b] := by simp [kR, mp, rowI, ecK]
theorem topMeets_fun (ki ta ro ou bo sw : Int) (hki : 0 ≤ ki ∧ ki < 256) (hta : 0 ≤ ta ∧ ta < 256) (hro : 0 ≤ ro ∧ ro < 256) (hou : 0 ≤ ou ∧ ou < 256) (hbo : 0 ≤ bo ∧ bo < 256) (hsw : 0 ≤ sw ∧ sw < 65536) :
    FN 3 [shpV ki ta ro ou bo sw] (fun v => v = .bool true) := by
  refine IFun.of_bodyW false 16 [22, 62, 65, 66, 67, 68, 74, 75, 76, 77, 91, 119, 124, 125, 126, 127, 145, 170, 200] Tryz.func3 rfl Tryz.call3 rfl fun R hR => ?_
  have cm := tmade_fun ki ta ro ou bo sw hki hta hro hou hbo hsw
  simp only [shpV] at *
  refine IWp.seqI ?_
  simp [go_sem]
  refine IWp.seqI ?_
  simp [go_sem]
  refine cm.callM (by simp [go_sem]) ?_
  rintro _ (⟨M, B, hM, hB1, hB3, hBs, rfl⟩ | ⟨hno, rfl⟩)
  case inr =>
    unfold sesV mvZ
    simp [go_sem]
    obtain ⟨k, hk⟩ : ∃ k, ki % 8 = k := ⟨_, rfl⟩
    rw [hk] at hno
    obtain ⟨n6, n0⟩ := hno
    have e1 : ki.tmod 8 = k := by rw [tm8 hki.1, hk]
    have e2 : ta.tmod 8 = ta % 8 := tm8 hta.1 8
    have w4 : IntKind.u8.wrap k = k := by simp [IntKind.wrap, IntKind.bits, IntKind.signed]; omega
    have w5 : IntKind.u8.wrap (ta % 8) = ta % 8 := by simp [IntKind.wrap, IntKind.bits, IntKind.signed]; omega
    have e3 : (ta % 8).tmod 2 = ta % 8 % 2 := tm8 (by omega) 2
    have w6 : IntKind.u8.wrap (ta % 8 % 2) = ta % 8 % 2 := by simp [IntKind.wrap, IntKind.bits, IntKind.signed]; omega
    refine IWp.seq ?_
    refine IWp.now ?_
    by_cases h0 : k = 0
    · subst h0
      have e4 : ta % 8 % 2 = 0 := by have := n0 rfl; omega
      rw [e4] at e3 w6
      simp [go_sem, e1, e2, w4, w5, e3, w6]
      exact hR _ _ _ rfl (by simp [go_sem])
    · simp [go_sem, e1, w4, n6, h0]
      exact hR _ _ _ rfl (by simp [go_sem, n6, h0])
  have hE : sesE M B = 0 := by
    rw [fair_ses hM.frame hM.fair (Nat.le_refl 49), if_neg]
    have h1 : B ≤ 128 / M.sets := (Int.le_ediv_iff_mul_le (by have := hM.frame.2.2.2.2.1; omega)).2 hBs
    omega
  have ck := keys_fun M B hE (by omega) (by have := hM.len; omega) (fun x hx => by have := hM.fair.rng x hx; have := hM.sets; omega)
  have cs := session_fun M B
  rw [hE] at cs
  simp only [sesV] at *
  simp [go_sem]
  refine IWp.seq ?_
  refine IWp.now ?_
  simp [go_sem]
  refine IWp.seqI ?_
  simp [go_sem]
  refine ck.callF (by simp [go_sem]) ?_
  rintro _ rfl
  have hpos := keys_pos hM (B := B) ⟨hB1, hB3⟩
  have hlex := keys_lex hM (B := B)
  have hlen := keys_len hM (B := B) ⟨hB1, hB3⟩
  have hok := fun i h => keys_ok hM (B := B) ⟨hB1, hB3⟩ (i := i) h
  generalize keysS B M.rows = Z at *
  have hposI : ¬ (Z.length : Int) = 0 := by omega
  have hneZ : ¬ Z = [] := fun e => by rw [e] at hpos; exact absurd hpos (by simp)
  simp [go_sem]
  refine IWp.seq ?_
  refine IWp.seqI ?_
  simp [go_sem]
  refine cs.callF (by simp [go_sem]) ?_
  rintro _ rfl
  have hz0 : ((Z.length : Int) == 0) = false := beq_eq_false_iff_ne.2 hposI
  simp [go_sem, hz0]
  refine IWp.now ?_
  simp [go_sem]
  refine IWp.seqI ?_
  simp [go_sem]
  refine IWp.seqI ?_
  simp [go_sem]
  refine IWp.seq ?_
  refine IWp.seqI ?_
  simp [go_sem]
  refine IWp.block ?_
  refine IWp.loopI (α := Nat × List ((Int × Int) × Int) × List ((Int × Int) × Int)) (fun p => (⟨false, 202, 16, [22, 62, 65, 66, 67, 68, 74, 75, 76, 77, 91, 119, 124, 125, 126, 127, 145, 170, 200], [], [(3, .ptr 1 1 0 0), (5, .fz 3 (kR Z)), (7, .map 2), (8, .map 3), (65, .fz 3 (kR Z)), (66, .int .i64 Z.length), (67, .int .i64 (p.1 : Int))], []⟩, [.dead, .rows 7 [[.int .i64 M.tables, .int .i64 M.rounds, .int .i64 M.sets, .int .i64 M.copies, .int .i64 M.winners, .fz 5 (rws M.rows), .int .i64 B]], .map (enP p.2.1), .map (enP p.2.2)]))
    (fun p => p.1 ≤ Z.length ∧ InvP M.rows B Z p.1 p.2.1 ∧ InvM M.rows B Z p.1 p.2.2) (fun p => Z.length - p.1) (0, [], []) ⟨by simp, fun p b h => absurd rfl h, fun p b h => absurd rfl h⟩ (by simp [go_sem]) ?_
  rintro ⟨i, S, S'⟩ ⟨hi, hP, hQ9⟩
  simp only at hi hP hQ9
  refine IWp.shut fun Q hQ => ?_
  refine IWp.seqI ?_
  simp [go_sem]
  refine IWp.seq ?_
  by_cases h : i < Z.length
  · have v1 : IntKind.i64.wrap ((i : Int) + 1) = ((i + 1 : Nat) : Int) := by rw [wrap64 (by omega) (by omega)]; omega
    obtain ⟨x, hx⟩ := hok i h
    have g1 : ∀ hh, (kR Z)[i]'hh = [.int .i64 Z[i].r, .int .i64 Z[i].t, .int .i64 Z[i].b] := fun hh => kR_get hh
    refine IWp.now ?_
    simp [go_sem, h]
    refine IWp.seq ?_
    refine IWp.block ?_
    refine IWp.seqI ?_
    simp [go_sem, h, g1]
    refine IWp.seqI ?_
    simp [go_sem]
    obtain ⟨z, hz⟩ : ∃ z, Z[i] = z := ⟨_, rfl⟩
    have hx' := hx
    rw [hz] at hx'
    have hxr := hM.fair.rng x hx.mem
    obtain ⟨xr, xt, xn, xe, xs⟩ := x
    simp only [hz]
    refine IWp.meet (T := Unit) (fun _ => (⟨false, 202, 16, [22, 62, 65, 66, 67, 68, 74, 75, 76, 77, 91, 119, 124, 125, 126, 127, 145, 170, 200], [], [(3, .ptr 1 1 0 0), (5, .fz 3 (kR Z)), (7, .map 2), (8, .map 3), (65, .fz 3 (kR Z)), (66, .int .i64 Z.length), (67, .int .i64 (i : Int)), (9, .int .i64 (i : Int)), (10, .ptr 4 1 0 0), (11, .ptr 5 1 0 0)], []⟩, [.dead, .rows 7 [[.int .i64 M.tables, .int .i64 M.rounds, .int .i64 M.sets, .int .i64 M.copies, .int .i64 M.winners, .fz 5 (rws M.rows), .int .i64 B]], .map (enP S), .map (enP S'), .rows 3 [[.int .i64 z.r, .int .i64 z.t, .int .i64 z.b]], .rows 5 [[.int .i64 xr, .int .i64 xt, .int .i64 xn, .int .i64 xe, .int .i64 xs]]])) (fun _ => True) (fun _ _ => ?_) (fun Q2 hN _ _ => ?_)
    case refine_2 =>
      refine IWp.seqI ?_
      simp [go_sem]
      refine IWp.block ?_
      have hLl := hM.len
      refine IWp.loopT (α := Nat) (fun j => (⟨false, 202, 16, [22, 62, 65, 66, 67, 68, 74, 75, 76, 77, 91, 119, 124, 125, 126, 127, 145, 170, 200], [], [(3, .ptr 1 1 0 0), (5, .fz 3 (kR Z)), (7, .map 2), (8, .map 3), (9, .int .i64 (i : Int)), (10, .ptr 4 1 0 0), (11, .ptr 5 1 0 0), (65, .fz 3 (kR Z)), (66, .int .i64 Z.length), (67, .int .i64 (i : Int)), (74, .fz 5 (rws M.rows)), (75, .int .i64 M.rows.length), (76, .int .i64 (j : Int))], []⟩, [.dead, .rows 7 [[.int .i64 M.tables, .int .i64 M.rounds, .int .i64 M.sets, .int .i64 M.copies, .int .i64 M.winners, .fz 5 (rws M.rows), .int .i64 B]], .map (enP S), .map (enP S'), .rows 3 [[.int .i64 z.r, .int .i64 z.t, .int .i64 z.b]], .rows 5 [[.int .i64 0, .int .i64 0, .int .i64 0, .int .i64 0, .int .i64 0]]]))
        (fun j => j ≤ M.rows.length ∧ ∀ q (h : q < M.rows.length), q < j → ¬ (M.rows[q].r = z.r ∧ M.rows[q].t = z.t)) (fun j => M.rows.length - j) 0 ⟨by simp, fun q h hq => absurd hq (by omega)⟩ (by simp [go_sem]) ?_
      rintro j ⟨hj, hno⟩
      by_cases hjl : j < M.rows.length
      · have v2 : IntKind.i64.wrap ((j : Int) + 1) = ((j + 1 : Nat) : Int) := by rw [wrap64 (by omega) (by omega)]; omega
        have hro := row_only hM hx' (List.getElem_mem hjl)
        have hno' : ¬ (M.rows[j].r = z.r ∧ M.rows[j].t = z.t) → ∀ q (h : q < M.rows.length), q < j + 1 → ¬ (M.rows[q].r = z.r ∧ M.rows[q].t = z.t) := fun hn q h hq => by
          by_cases e : q = j
          · subst e; exact hn
          · exact hno q h (by omega)
        obtain ⟨y, hy⟩ : ∃ y, M.rows[j] = y := ⟨_, rfl⟩
        rw [hy] at hro hno'
        by_cases c1 : y.r = z.r
        · by_cases c2 : y.t = z.t
          · have e := hro c1 c2
            subst e
            simp only at c1 c2
            simp [go_sem, hjl, hy, c1, c2, Rw.c]
            exact hN _ _ () (by simp [go_sem, c1, c2]) trivial
          · simp [go_sem, hjl, hy, c1, c2, Rw.c]
            exact ⟨j + 1, v2, ⟨by omega, fun q h hq a b => hno' (fun h => c2 h.2) q h hq ⟨a, b⟩⟩, by omega⟩
        · simp [go_sem, hjl, hy, c1, Rw.c]
          exact ⟨j + 1, v2, ⟨by omega, fun q h hq a b => hno' (fun h => c1 h.1) q h hq ⟨a, b⟩⟩, by omega⟩
      · obtain ⟨q, hq, e⟩ := List.getElem_of_mem hx'.mem
        exact absurd ⟨by rw [e]; exact hx'.r, by rw [e]; exact hx'.t⟩ (hno q hq (by omega))
    have x1 := hx'.ns
    have x2 := hx'.ew
    have x3 := hx'.set
    have x4 := hx'.b1
    have x5 := hx'.b2
    have hsets := hM.sets
    simp only at x1 x2 x3 hxr ⊢
    have a1 : ¬ xn < 1 := by omega
    have a2 : ¬ xe < 1 := by omega
    have a3 : ¬ xn = xe := by omega
    have a4 : ¬ B = 0 := by omega
    have a5 : (z.b - 1).tdiv B = xs := by rw [Int.tdiv_eq_ediv_of_nonneg (by omega)]; exact x3
    have a6 : IntKind.i64.wrap (z.b - 1) = z.b - 1 := wrap64 (by omega) (by omega)
    have a7 : IntKind.i64.wrap xs = xs := wrap64 (by omega) (by omega)
    have a8 : ¬ B = -1 := by omega
    refine IWp.seq ?_
    refine IWp.now ?_
    simp [go_sem, a1, a2, a3, a4, a5, a6, a7]
    refine ⟨by decide +kernel, ?_⟩
    have hPn := InvP.none hM hlex hP h hx (p := xn) (.inl rfl)
    have hPe := InvP.none hM hlex hP h hx (p := xe) (.inr rfl)
    have hP2 := InvP.step hP h hx 1 1
    simp only [hz] at hPn hPe hP2
    have hPe2 : aget (xe, z.b) (aset (xn, z.b) 1 S) = none := by rw [aget_aset, if_neg (by simp; omega)]; exact hPe
    refine IWp.meet (T := Unit) (fun _ => (⟨false, 202, 16, [22, 62, 65, 66, 67, 68, 74, 75, 76, 77, 91, 119, 124, 125, 126, 127, 145, 170, 200], [], [(3, .ptr 1 1 0 0), (5, .fz 3 (kR Z)), (7, .map 2), (8, .map 3), (65, .fz 3 (kR Z)), (66, .int .i64 Z.length), (67, .int .i64 (i : Int)), (9, .int .i64 (i : Int)), (10, .ptr 4 1 0 0), (11, .ptr 5 1 0 0)], []⟩, [.dead, .rows 7 [[.int .i64 M.tables, .int .i64 M.rounds, .int .i64 M.sets, .int .i64 M.copies, .int .i64 M.winners, .fz 5 (rws M.rows), .int .i64 B]], .map (enP (aset (xe, z.b) 1 (aset (xn, z.b) 1 S))), .map (enP S'), .rows 3 [[.int .i64 z.r, .int .i64 z.t, .int .i64 z.b]], .rows 5 [[.int .i64 xr, .int .i64 xt, .int .i64 xn, .int .i64 xe, .int .i64 xs]]])) (fun _ => True) (fun _ _ => ?_) (fun Q2 hN _ _ => ?_)
    case refine_2 =>
      refine IWp.seqI ?_
      simp [go_sem]
      refine IWp.block ?_
      have w1 : IntKind.i64.wrap (0 + 1) = 1 := by decide
      have w1' : IntKind.i64.wrap 1 = 1 := by decide
      have w2' : IntKind.i64.wrap 2 = 2 := by decide
      have w2 : IntKind.i64.wrap (1 + 1) = 2 := by decide
      obtain ⟨S1, hS1⟩ : ∃ S1, aset (xn, z.b) 1 S = S1 := ⟨_, rfl⟩
      rw [hS1] at hN hPe2
      obtain ⟨S2, hS2⟩ : ∃ S2, aset (xe, z.b) 1 S1 = S2 := ⟨_, rfl⟩
      rw [hS2] at hN
      have g1 : aget (xn, z.b) S1 = some 1 := by rw [← hS1, aget_aset, if_pos rfl]
      have g2 : aget (xe, z.b) S2 = some 1 := by rw [← hS2, aget_aset, if_pos rfl]
      refine IWp.loopT (α := Nat × List ((Int × Int) × Int)) (fun p => (⟨false, 202, 16, [22, 62, 65, 66, 67, 68, 74, 75, 76, 77, 91, 119, 124, 125, 126, 127, 145, 170, 200], [], [(3, .ptr 1 1 0 0), (5, .fz 3 (kR Z)), (7, .map 2), (8, .map 3), (9, .int .i64 (i : Int)), (10, .ptr 4 1 0 0), (11, .ptr 5 1 0 0), (65, .fz 3 (kR Z)), (66, .int .i64 Z.length), (67, .int .i64 (i : Int)), (124, .sl 6 2 0 2 none), (125, .int .i64 2), (126, .int .i64 (p.1 : Int))], []⟩, [.dead, .rows 7 [[.int .i64 M.tables, .int .i64 M.rounds, .int .i64 M.sets, .int .i64 M.copies, .int .i64 M.winners, .fz 5 (rws M.rows), .int .i64 B]], .map (enP p.2), .map (enP S'), .rows 3 [[.int .i64 z.r, .int .i64 z.t, .int .i64 z.b]], .rows 5 [[.int .i64 xr, .int .i64 xt, .int .i64 xn, .int .i64 xe, .int .i64 xs]], .rows 1 [[.int .i64 xn], [.int .i64 xe]]]))
        (fun p => (p.1 = 0 ∧ p.2 = S) ∨ (p.1 = 1 ∧ p.2 = S1) ∨ (p.1 = 2 ∧ p.2 = S2)) (fun p => 2 - p.1) (0, S) (.inl ⟨rfl, rfl⟩) (by simp [go_sem]) ?_
      rintro ⟨c, Sc⟩ hc
      rcases hc with ⟨e1, e2⟩ | ⟨e1, e2⟩ | ⟨e1, e2⟩ <;> simp only at e1 e2 <;> subst e1 <;> subst e2
      · simp [go_sem]
        refine Drawn.incr 5 [130, 134] rfl rfl rfl rfl rfl (by decide +kernel) rfl ?_
        simp [go_sem, mget_p, mset_p, hPn, hS1, g1, w1, w1', w2', w2]
        exact ⟨by decide +kernel, 1, S1, ⟨by simp, rfl⟩, .inr (.inl ⟨rfl, rfl⟩), by omega⟩
      · simp [go_sem]
        refine Drawn.incr 5 [130, 134] rfl rfl rfl rfl rfl (by decide +kernel) rfl ?_
        simp [go_sem, mget_p, mset_p, hPe2, hS2, g2, w1, w1', w2', w2]
        exact ⟨by decide +kernel, 2, S2, ⟨by simp, rfl⟩, .inr (.inr ⟨rfl, rfl⟩), by omega⟩
      · simp [go_sem]
        exact hN _ _ () (by simp [go_sem]) trivial
    clear hP hPn hPe hPe2
    generalize aset (xe, z.b) 1 (aset (xn, z.b) 1 S) = S2 at *
    have hMn := fun hn => InvM.none hM hlex hQ9 h hx hn
    have hM2 := InvM.step hQ9 h hx 1
    have hM3 := hQ9.weak
    simp only [hz] at hMn hM2
    refine IWp.meet (T := Bool) (fun b => (⟨false, 202, 16, [22, 62, 65, 66, 67, 68, 74, 75, 76, 77, 91, 119, 124, 125, 126, 127, 145, 170, 200], [], [(3, .ptr 1 1 0 0), (5, .fz 3 (kR Z)), (7, .map 2), (8, .map 3), (65, .fz 3 (kR Z)), (66, .int .i64 Z.length), (67, .int .i64 (i : Int)), (9, .int .i64 (i : Int)), (10, .ptr 4 1 0 0), (11, .ptr 5 1 0 0), (170, .bool b)], []⟩, [.dead, .rows 7 [[.int .i64 M.tables, .int .i64 M.rounds, .int .i64 M.sets, .int .i64 M.copies, .int .i64 M.winners, .fz 5 (rws M.rows), .int .i64 B]], .map (enP S2), .map (enP S'), .rows 3 [[.int .i64 z.r, .int .i64 z.t, .int .i64 z.b]], .rows 5 [[.int .i64 xr, .int .i64 xt, .int .i64 xn, .int .i64 xe, .int .i64 xs]]]))
      (fun b => b = true → i = 0 ∨ ((Z[i - 1]'(by omega)).r ≠ z.r ∨ (Z[i - 1]'(by omega)).t ≠ z.t)) (fun b hb => ?_) (fun Q2 hN _ _ => ?_)
    case refine_2 =>
      by_cases h0 : i = 0
      · subst h0
        have w0 : IntKind.i64.wrap (-1) = -1 := by decide
        refine IWp.now ?_
        simp [go_sem, w0, h, hpos, g1, hz]
        exact ⟨by decide +kernel, hN _ _ true (by simp [go_sem]) fun _ => .inl rfl⟩
      · obtain ⟨q, hq⟩ : ∃ q, i - 1 = q := ⟨_, rfl⟩
        have hql : q < Z.length := by omega
        have w0 : IntKind.i64.wrap ((i : Int) - 1) = (q : Int) := by rw [wrap64 (by omega) (by omega)]; omega
        have h0I : ¬ (i : Int) = 0 := by omega
        have gq : ∀ hh, (kR Z)[q]'hh = [.int .i64 Z[q].r, .int .i64 Z[q].t, .int .i64 Z[q].b] := fun hh => kR_get hh
        simp only [hq] at hN
        obtain ⟨y, hy⟩ : ∃ y, Z[q] = y := ⟨_, rfl⟩
        simp only [hy] at hN gq
        refine IWp.now ?_
        simp [go_sem, w0, h0, h0I, hql, gq]
        refine ⟨by decide +kernel, hN _ _ ((i : Int) == 0 || y.r != z.r || y.t != z.t) (by simp [go_sem]) fun hb => .inr ?_⟩
        simp at hb
        omega
    simp only
    cases b with
    | false =>
      refine IWp.now ?_
      simp [go_sem]
      subst hQ
      refine IWp.now ?_
      simp [go_sem]
      exact ⟨i + 1, S2, S', ⟨v1, rfl, rfl⟩, ⟨by omega, hP2, hM3⟩, by omega⟩
    | true =>
      have hMn2 := hMn (hb rfl)
      obtain ⟨mn, hmn⟩ : ∃ mn, min xn xe = mn := ⟨_, rfl⟩
      obtain ⟨mx, hmx⟩ : ∃ mx, max xn xe = mx := ⟨_, rfl⟩
      have hmn' : (if xe < xn then xe else xn) = mn := by rw [← hmn, Int.min_def]; split <;> split <;> omega
      have hmx' : (if xn < xe then xe else xn) = mx := by rw [← hmx, Int.max_def]; split <;> split <;> omega
      rw [hmn, hmx] at hMn2 hM2
      have w1 : IntKind.i64.wrap (0 + 1) = 1 := by decide
      have w1' : IntKind.i64.wrap 1 = 1 := by decide
      obtain ⟨S3, hS3⟩ : ∃ S3, aset (mn, mx) 1 S' = S3 := ⟨_, rfl⟩
      rw [hS3] at hM2
      have g3 : aget (mn, mx) S3 = some 1 := by rw [← hS3, aget_aset, if_pos rfl]
      refine IWp.now ?_
      simp [go_sem]
      refine Drawn.incr 12 [171, 182] rfl rfl rfl rfl rfl (by decide +kernel) rfl ?_
      simp [go_sem, mget_p, mset_p, hmn', hmx', hMn2, hS3, g3, w1, w1']
      refine ⟨by decide +kernel, ?_⟩
      subst hQ
      refine IWp.now ?_
      simp [go_sem]
      exact ⟨i + 1, S2, S3, ⟨v1, rfl, rfl⟩, ⟨by omega, hP2, hM2⟩, by omega⟩
  · subst hQ
    obtain rfl : i = Z.length := by omega
    refine IWp.now ?_
    simp [go_sem]
    refine IWp.now ?_
    simp [go_sem]
    exact hR _ _ _ rfl (by simp [go_sem])
end Go.Idl
namespace Go.Idl
set_option linter.all false
open Go.Proofs Go.RowKit
set_option maxHeartbeats 4000000
set_option maxRecDepth 40000

structure TShp where
  ki : Int
  ta : Int
  ro : Int
  ou : Int
  bo : Int
  sw : Int
theorem wf16u {z : Int} (h : (Lit.int .u16 z).wf = true) : 0 ≤ z ∧ z < 65536 := by
  have := bounds_u16 h; omega
def ShpOK (q : TShp) : Prop := (0 ≤ q.ki ∧ q.ki < 256) ∧ (0 ≤ q.ta ∧ q.ta < 256) ∧ (0 ≤ q.ro ∧ q.ro < 256) ∧ (0 ≤ q.ou ∧ q.ou < 256) ∧ (0 ≤ q.bo ∧ q.bo < 256) ∧ (0 ≤ q.sw ∧ q.sw < 65536)
theorem fit_shp {cs : List IV} (h : fitL [.int .u8, .int .u8, .int .u8, .int .u8, .int .u8, .int .u16] cs) : ∃ q : {q : TShp // ShpOK q}, cs = [.int .u8 q.1.ki, .int .u8 q.1.ta, .int .u8 q.1.ro, .int .u8 q.1.ou, .int .u8 q.1.bo, .int .u16 q.1.sw] := by
  obtain ⟨a, r1, rfl, w1, h1⟩ := fitL_int h
  obtain ⟨b, r2, rfl, w2, h2⟩ := fitL_int h1
  obtain ⟨c, r3, rfl, w3, h3⟩ := fitL_int h2
  obtain ⟨d, r4, rfl, w4, h4⟩ := fitL_int h3
  obtain ⟨e, r5, rfl, w5, h5⟩ := fitL_int h4
  obtain ⟨f, r6, rfl, w6, h6⟩ := fitL_int h5
  obtain rfl := fitL_nil h6
  exact ⟨⟨⟨a, b, c, d, e, f⟩, wf8 w1, wf8 w2, wf8 w3, wf8 w4, wf8 w5, wf16u w6⟩, rfl⟩
theorem topMeets_law (q : {q : TShp // ShpOK q}) :
    FN 3 [.agg [.int .u8 q.1.ki, .int .u8 q.1.ta, .int .u8 q.1.ro, .int .u8 q.1.ou, .int .u8 q.1.bo, .int .u16 q.1.sw]] (fun v => v = .bool true) :=
  topMeets_fun _ _ _ _ _ _ q.2.1 q.2.2.1 q.2.2.2.1 q.2.2.2.2.1 q.2.2.2.2.2.1 q.2.2.2.2.2.2
end Go.Idl
