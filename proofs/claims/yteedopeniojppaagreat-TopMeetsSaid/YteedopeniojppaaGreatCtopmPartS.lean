/-
  Package turn: Fit ends, at movements whose rows are in range.
-/
import Derived.Test.YteedopeniojppaaGreatCtopmPartQ
import Derived.Test.YteedopeniojppaaGreatCtopmPartB
import Derived.Test.YteedopeniojppaaGreatIdlPartK
namespace Go.Idl
set_option linter.all false
open Go.Proofs
set_option maxHeartbeats 16000000
set_option maxRecDepth 40000

theorem fit_fun (m : Mv) (hT : 1 ≤ m.tables ∧ m.tables ≤ 24) (hN : 1 ≤ m.rounds ∧ m.rounds ≤ 47) (hlen : (m.rows.length : Int) ≤ m.tables * m.rounds)
    (hrow : ∀ x ∈ m.rows, (0 ≤ x.r ∧ x.r < m.rounds) ∧ (0 ≤ x.t ∧ x.t < m.tables) ∧ (0 ≤ x.s ∧ x.s < m.sets) ∧ (0 ≤ x.ns ∧ x.ns ≤ 49) ∧ (0 ≤ x.ew ∧ x.ew ≤ 49)) : FN 31 [m.v] (fun v => ∃ b : Bool, v = .bool b) := by
  refine IFun.of_bodyW false 9 [37, 39, 40, 41, 42, 87, 98, 99, 100, 119] Tryz.func31 rfl Tryz.call31 rfl fun R hR => ?_
  obtain ⟨tb, ro, se, co, wi, L⟩ := m
  simp only [Mv.v] at *
  have hmul : tb * ro ≤ 24 * 47 := Int.mul_le_mul hT.2 hN.2 (by omega) (by omega)
  have h0 : 0 ≤ tb * ro := Int.mul_nonneg (by omega) (by omega)
  have w1 : IntKind.i64.wrap (tb * ro) = tb * ro := wrap64 (by omega) (by omega)
  have t1 : ¬ tb < 1 := by omega
  have t2 : ¬ 24 < tb := by omega
  have t3 : ¬ ro < 1 := by omega
  have t4 : ¬ 47 < ro := by omega
  have t5 : ¬ tb * ro < (L.length : Int) := by omega
  refine IWp.seqI ?_
  simp [go_sem, t1, t2, t3, t4, t5, w1]
  refine IWp.seq ?_
  refine IWp.seqI ?_
  simp [go_sem, t1, t2, t3, t4, t5, w1]
  refine IWp.now ?_
  simp [go_sem]
  refine IWp.seqI ?_
  simp [go_sem]
  refine IWp.seqI ?_
  simp [go_sem]
  refine IWp.seq ?_
  refine IWp.seqI ?_
  simp [go_sem]
  refine IWp.block ?_
  refine IWp.loopI (α := Nat × (Nat → Bool) × (Nat → Bool)) (fun p => (⟨false, 127, 9, [37, 39, 40, 41, 42, 87, 98, 99, 100, 119], [], [(1, .ptr 0 1 0 0), (3, .ptr 1 1 0 0), (4, .ptr 2 1 0 0), (39, .fz 5 (rws L)), (40, .int .i64 L.length), (41, .int .i64 (p.1 : Int))], []⟩, [.rows 6 [[.int .i64 tb, .int .i64 ro, .int .i64 se, .int .i64 co, .int .i64 wi, .fz 5 (rws L)]], .rows 1128 [arr 1128 fun j => .bool (p.2.1 j)], .rows 2350 [arr 2350 fun j => .bool (p.2.2 j)]]))
    (fun p => p.1 ≤ L.length) (fun p => L.length - p.1) (0, fun _ => false, fun _ => false) (by simp) (by simp [go_sem]) ?_
  rintro ⟨i, u, w⟩ hi
  simp only at hi
  refine IWp.shut fun Q hQ => ?_
  refine IWp.seqI ?_
  simp [go_sem]
  refine IWp.seq ?_
  by_cases h : i < L.length
  · have v1 : IntKind.i64.wrap ((i : Int) + 1) = ((i + 1 : Nat) : Int) := by rw [wrap64 (by omega) (by omega)]; omega
    have hx := hrow _ (List.getElem_mem h)
    obtain ⟨x, hxe⟩ : ∃ x, L[i] = x := ⟨_, rfl⟩
    rw [hxe] at hx
    obtain ⟨r, t, ns, ew, s⟩ := x
    simp only at hx
    obtain ⟨⟨r0, r1⟩, ⟨t0, t1'⟩, ⟨s0, s1⟩, ⟨n0, n1⟩, e0, e1⟩ := hx
    obtain ⟨r, rfl⟩ := Int.eq_ofNat_of_zero_le r0
    obtain ⟨t, rfl⟩ := Int.eq_ofNat_of_zero_le t0
    obtain ⟨ns, rfl⟩ := Int.eq_ofNat_of_zero_le n0
    obtain ⟨ew, rfl⟩ := Int.eq_ofNat_of_zero_le e0
    have a1 : ¬ (r : Int) < 0 := by omega
    have a2 : ¬ ro ≤ (r : Int) := by omega
    have a3 : ¬ (t : Int) < 0 := by omega
    have a4 : ¬ tb ≤ (t : Int) := by omega
    have a5 : ¬ s < 0 := by omega
    have a6 : ¬ se ≤ s := by omega
    have a7 : r < 47 := by omega
    have a8 : t < 24 := by omega
    refine IWp.now ?_
    simp [go_sem, h]
    refine IWp.seq ?_
    refine IWp.block ?_
    refine IWp.seqI ?_
    simp [go_sem, h, hxe, Rw.c]
    obtain ⟨k, hk⟩ : ∃ k, r * 24 + t = k := ⟨_, rfl⟩
    have hk2 : k < 1128 := by omega
    have q1 := arr_at (n := 1128) (f := fun j => IV.bool (u j)) (d := IV.tup []) hk2
    refine IWp.seqI ?_
    cases hu : u k with
    | true =>
      simp only [hu] at q1
      simp [go_sem, a1, a2, a3, a4, a5, a6, a7, a8, hk, q1]
      subst hQ
      refine ⟨by omega, by omega, by omega, by decide +kernel, ?_⟩
      simp [go_sem]
      refine hR _ _ _ ⟨false, rfl⟩ ?_
      simp [go_sem]
    | false =>
      simp only [hu] at q1
      simp [go_sem, a1, a2, a3, a4, a5, a6, a7, a8, hk, q1]
      refine ⟨by omega, by omega, by omega, by decide +kernel, ?_⟩
      refine IWp.seqI ?_
      simp [go_sem, a7, a8, hk]
      refine ⟨by omega, by omega, by omega, by decide +kernel, ?_⟩
      rw [arr_put hk2, upF_bool]
      obtain ⟨u', hU⟩ : ∃ u' : Nat → Bool, (arr 1128 fun j => IV.bool (if j = k then true else u j)) = arr 1128 fun j => IV.bool (u' j) := ⟨_, rfl⟩
      rw [hU]
      refine IWp.seqI ?_
      simp [go_sem]
      refine IWp.block ?_
      refine IWp.loopI (α := Nat × (Nat → Bool)) (fun p => (⟨false, 127, 9, [37, 39, 40, 41, 42, 87, 98, 99, 100, 119], [], [(1, .ptr 0 1 0 0), (3, .ptr 1 1 0 0), (4, .ptr 2 1 0 0), (6, .ptr 3 1 0 0), (39, .fz 5 (rws L)), (40, .int .i64 L.length), (41, .int .i64 (i : Int)), (98, .agg [.int .i64 ns, .int .i64 ew]), (99, .int .i64 (p.1 : Int))], []⟩, [.rows 6 [[.int .i64 tb, .int .i64 ro, .int .i64 se, .int .i64 co, .int .i64 wi, .fz 5 (rws L)]], .rows 1128 [arr 1128 fun j => .bool (u' j)], .rows 2350 [arr 2350 fun j => .bool (p.2 j)], .rows 5 [[.int .i64 r, .int .i64 t, .int .i64 ns, .int .i64 ew, .int .i64 s]]]))
        (fun p => p.1 ≤ 2) (fun p => 2 - p.1) (0, w) (by simp) (by simp [go_sem]) ?_
      rintro ⟨c, w'⟩ hc
      simp only at hc
      refine IWp.shut fun Q' hQ' => ?_
      refine IWp.seqI ?_
      simp [go_sem]
      refine IWp.seq ?_
      by_cases hc2 : c < 2
      · have v2 : IntKind.i64.wrap ((c : Int) + 1) = ((c + 1 : Nat) : Int) := by rw [wrap64 (by omega) (by omega)]; omega
        obtain ⟨p, hp, hp9⟩ : ∃ p : Nat, [IV.int .i64 ns, IV.int .i64 ew][c]'(by simpa using hc2) = .int .i64 (p : Int) ∧ p ≤ 49 := by
          rcases (by omega : c = 0 ∨ c = 1) with rfl | rfl
          · exact ⟨ns, rfl, by omega⟩
          · exact ⟨ew, rfl, by omega⟩
        have hc2I : (c : Int) < 2 := by omega
        refine IWp.now ?_
        simp [go_sem, hc2I]
        refine IWp.seq ?_
        refine IWp.block ?_
        refine IWp.seqI ?_
        simp [go_sem, hc2, hp]
        refine ⟨hc2I, ?_⟩
        obtain ⟨q, hq⟩ : ∃ q, r * 50 + p = q := ⟨_, rfl⟩
        have hq2 : q < 2350 := by omega
        have q2 := arr_at (n := 2350) (f := fun j => IV.bool (w' j)) (d := IV.tup []) hq2
        have b1 : ¬ (p : Int) < 0 := by omega
        have b2 : ¬ 49 < (p : Int) := by omega
        have b3 : p < 50 := by omega
        have b4 : ¬ 49 < p := by omega
        refine IWp.seqI ?_
        by_cases hp0 : 0 < p
        · have hp1 : 0 < (p : Int) := by omega
          cases hw : w' q with
          | true =>
            simp only [hw] at q2
            simp [go_sem, hp0, hp1, b1, b2, b3, b4, a7, hq, q2]
            refine ⟨by omega, by omega, by omega, ?_⟩
            subst hQ' hQ
            simp [go_sem]
            refine hR _ _ _ ⟨false, rfl⟩ ?_
            simp [go_sem]
          | false =>
            simp only [hw] at q2
            simp [go_sem, hp0, hp1, b1, b2, b3, b4, a7, hq, q2]
            refine ⟨by omega, by omega, by omega, ?_⟩
            subst hQ'
            refine IWp.now ?_
            simp [go_sem, b3, a7, hq]
            refine ⟨by omega, by omega, by omega, ?_⟩
            rw [arr_put hq2, upF_bool]
            obtain ⟨w2, hW⟩ : ∃ w2 : Nat → Bool, (arr 2350 fun j => IV.bool (if j = q then true else w' j)) = arr 2350 fun j => IV.bool (w2 j) := ⟨_, rfl⟩
            rw [hW]
            refine IWp.now ?_
            simp [go_sem]
            exact ⟨c + 1, v2, by omega, by omega⟩
        · obtain rfl : p = 0 := by omega
          rw [Nat.add_zero] at hq
          simp [go_sem, a7, hq, q2]
          subst hQ'
          refine IWp.now ?_
          simp [go_sem, a7, hq]
          refine ⟨by omega, by omega, ?_⟩
          rw [arr_put hq2, upF_bool]
          obtain ⟨w2, hW⟩ : ∃ w2 : Nat → Bool, (arr 2350 fun j => IV.bool (if j = q then true else w' j)) = arr 2350 fun j => IV.bool (w2 j) := ⟨_, rfl⟩
          rw [hW]
          refine IWp.now ?_
          simp [go_sem]
          exact ⟨c + 1, v2, by omega, by omega⟩
      · subst hQ'
        obtain rfl : c = 2 := by omega
        refine IWp.now ?_
        simp [go_sem]
        refine IWp.now ?_
        subst hQ
        simp [go_sem]
        exact ⟨i + 1, v1, by omega, by omega⟩
  · subst hQ
    obtain rfl : i = L.length := by omega
    refine IWp.now ?_
    simp [go_sem]
    refine IWp.now ?_
    simp [go_sem]
    refine hR _ _ _ ⟨true, rfl⟩ ?_
    simp [go_sem]
end Go.Idl
