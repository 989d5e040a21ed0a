/-
  Chapter 27: WebSmall.
-/
import Derived.Test.YtjmjdjdabmlgeaaC27PartV
import Derived.Test.YtjmjdjdabmlgeaaC27PartS
namespace Go.Idl
set_option linter.all false
open Go.Proofs
set_option maxHeartbeats 16000000
set_option maxRecDepth 40000

theorem makeM_small {k T n : Int} : (Web.makeM k T n).rows.length ≤ 2 ^ 15 ∧ (Web.makeE k T n = 0 → (Web.makeM k T n).rounds ≤ 24) := by
  unfold Web.makeM
  by_cases h : Web.makeE k T n = 0
  · rw [if_pos h]
    have hT : T ≤ 24 ∧ n ≤ 24 := by
      unfold Web.makeE at h
      by_cases hf : Web.findE T k = 0
      · rw [if_neg (by simpa using hf)] at h
        have h24 : 2 ≤ T ∧ T ≤ 24 := by
          unfold Web.findE at hf
          by_cases hx : T < 2 ∨ 24 < T
          · rw [if_pos hx] at hf; cases hf
          · omega
        have hm : Web.most T k ≤ 24 := by unfold Web.most; split <;> omega
        by_cases h1 : n < 1
        · rw [if_pos h1] at h; cases h
        · rw [if_neg h1] at h
          by_cases h2 : Web.most T k < n
          · rw [if_pos h2] at h; cases h
          · omega
      · rw [if_pos hf] at h; exact absurd h hf
    refine ⟨?_, fun _ => hT.2⟩
    simp only [Web.rowsX_length]
    have : n.toNat * T.toNat ≤ 24 * 24 := Nat.mul_le_mul (by omega) (by omega)
    omega
  · rw [if_neg h]
    exact ⟨by decide, fun e => absurd e h⟩
def oddL : List Rw := [⟨0, 1, 0, 0, 3⟩, ⟨0, 1, 0, 0, 3⟩, ⟨0, -2, 0, 0, 3⟩, ⟨0, 4, 0, 0, -3⟩, ⟨0, 6, 0, 0, -3⟩, ⟨1, 1, 0, 0, 3⟩, ⟨1, 1, 0, 0, -3⟩, ⟨1, 4, 0, 0, 3⟩, ⟨2, 4, 0, 0, 9⟩, ⟨2, 1, 0, 0, 4⟩, ⟨1, 7, 0, 0, 4⟩, ⟨1, 7, 0, 0, 9⟩]
theorem webSmall_law : FN 5 [] (fun v => v = .bool true) := by
  refine IFun.of_bodyW false 14 [15, 19, 33, 34, 35, 36, 43, 59, 62, 68, 75, 91, 95, 102, 103, 104, 105, 106, 113] Try.func5 rfl Try.call5 rfl fun R hR => ?_
  refine IWp.seqI ?_
  simp [go_sem]
  refine IWp.seq ?_
  refine IWp.seqI ?_
  simp [go_sem]
  refine IWp.block ?_
  refine IWp.loopI (α := Nat) (fun a => (⟨false, 125, 14, [15, 19, 33, 34, 35, 36, 43, 59, 62, 68, 75, 91, 95, 102, 103, 104, 105, 106, 113], [], [(1, .int .i64 ((a : Int) - 1))], []⟩, []))
    (fun a => a ≤ 28) (fun a => 28 - a) 0 (by simp) (by simp [go_sem]) ?_
  intro a ha
  obtain ⟨T, hT⟩ : ∃ T : Int, (a : Int) - 1 = T := ⟨_, rfl⟩
  simp only [hT]
  refine IWp.seq ?_
  refine IWp.seqI ?_
  simp [go_sem]
  by_cases h : T < 27
  · refine IWp.now ?_
    simp [go_sem, h]
    have v1 : IntKind.i64.wrap (T + 1) = T + 1 := wrap64 (by omega) (by omega)
    refine IWp.seq ?_
    refine IWp.block ?_
    refine IWp.seqI ?_
    simp [go_sem]
    refine IWp.block ?_
    refine IWp.loopI (α := Nat) (fun c => (⟨false, 125, 14, [15, 19, 33, 34, 35, 36, 43, 59, 62, 68, 75, 91, 95, 102, 103, 104, 105, 106, 113], [], [(1, .int .i64 T), (2, .int .u8 (c : Int))], []⟩, []))
      (fun c => c ≤ 5) (fun c => 5 - c) 0 (by simp) (by simp [go_sem]) ?_
    intro c hc
    refine IWp.seq ?_
    refine IWp.seqI ?_
    simp [go_sem]
    by_cases h2 : c < 5
    · have v2 : IntKind.u8.wrap ((c : Int) + 1) = ((c + 1 : Nat) : Int) := by
        rcases (by omega : c = 0 ∨ c = 1 ∨ c = 2 ∨ c = 3 ∨ c = 4) with rfl | rfl | rfl | rfl | rfl <;> decide
      have h2' : (c : Int) < 5 := by omega
      refine IWp.now ?_
      simp [go_sem, h2']
      refine IWp.seq ?_
      refine IWp.block ?_
      refine IWp.seq ?_
      refine IWp.seqI ?_
      simp [go_sem, v1]
      obtain ⟨ns, hns, hnl⟩ : ∃ ns : List Int, [[IV.int .i64 (-1)], [.int .i64 0], [.int .i64 1], [.int .i64 2], [.int .i64 (IntKind.i64.wrap (IntKind.i64.wrap (T.tdiv 2) - 1))], [.int .i64 (IntKind.i64.wrap (T.tdiv 2))], [.int .i64 (IntKind.i64.wrap (IntKind.i64.wrap (T.tdiv 2) + 1))], [.int .i64 T], [.int .i64 (T + 1)]] = ints ns ∧ ns.length = 9 := ⟨[-1, 0, 1, 2, IntKind.i64.wrap (IntKind.i64.wrap (T.tdiv 2) - 1), IntKind.i64.wrap (T.tdiv 2), IntKind.i64.wrap (IntKind.i64.wrap (T.tdiv 2) + 1), T, T + 1], rfl, rfl⟩
      rw [hns]
      have hk : 0 ≤ (c : Int) ∧ (c : Int) < 256 := by omega
      have hT0 : -2 ^ 63 ≤ T ∧ T < 2 ^ 63 := by omega
      refine IWp.block ?_
      refine IWp.loopI (α := Nat) (fun i => (⟨false, 125, 14, [15, 19, 33, 34, 35, 36, 43, 59, 62, 68, 75, 91, 95, 102, 103, 104, 105, 106, 113], [], [(1, .int .i64 T), (2, .int .u8 (c : Int)), (33, .sl 0 9 0 9 none), (34, .int .i64 9), (35, .int .i64 (i : Int))], []⟩, [.rows 1 (ints ns)]))
        (fun i => i ≤ 9) (fun i => 9 - i) 0 (by simp) (by simp [go_sem, hnl]) ?_
      intro i hi
      refine IWp.seqI ?_
      simp [go_sem]
      refine IWp.seq ?_
      by_cases h3 : i < 9
      · have h3' : (i : Int) < 9 := by omega
        have v3 : IntKind.i64.wrap ((i : Int) + 1) = ((i + 1 : Nat) : Int) := by rw [wrap64 (by omega) (by omega)]; omega
        obtain ⟨n, hn⟩ : ∃ n, ns[i]'(by omega) = n := ⟨_, rfl⟩
        have q1 : (ints ns)[i]? = some [.int .i64 n] := by rw [List.getElem?_eq_getElem (by simp; omega), ints_getElem, hn]
        refine IWp.now ?_
        simp [go_sem, h3']
        refine IWp.seq ?_
        refine IWp.block ?_
        refine IWp.seqI ?_
        simp [go_sem, hnl, h3', q1]
        refine ⟨h3, ?_⟩
        refine IWp.seqI ?_
        simp [go_sem]
        refine (makes27_fun T n c hk hT0).callF (by simp [go_sem]) ?_
        rintro _ rfl
        simp [go_sem]
        refine IWp.now ?_
        simp [go_sem]
        refine IWp.now ?_
        simp [go_sem, v3]
        exact ⟨i + 1, rfl, by omega, by omega⟩
      · obtain rfl : i = 9 := by omega
        refine IWp.now ?_
        simp [go_sem]
        have hms := makeM_small (k := c) (T := T) (n := IntKind.i64.wrap ((T + 1).tdiv 2))
        generalize hNN : IntKind.i64.wrap ((T + 1).tdiv 2) = n at *
        have cm := rmake27_fun T n c hk hT0
        have ctl := fun r t hr => tells27_fun (Web.makeM c T n) r t hms.1 hr
        obtain ⟨hm1, hm2⟩ := hms
        generalize Web.makeM c T n = M at *
        generalize Web.makeE c T n = E at *
        obtain ⟨tb, ro, se, co, wi, L⟩ := M
        simp only [Mv.v] at *
        refine IWp.seqI ?_
        simp [go_sem, v1, hNN]
        refine cm.callF (by simp [go_sem]) ?_
        rintro _ rfl
        simp [go_sem]
        refine IWp.seq ?_
        refine IWp.seqI ?_
        simp [go_sem]
        by_cases h4 : E = 0
        · by_cases h5 : T ≤ 6
          · have h5' : ¬ 6 < T := by omega
            refine IWp.now ?_
            simp [go_sem, h4, h5']
            have hro := hm2 h4
            refine IWp.seqI ?_
            simp [go_sem]
            refine IWp.block ?_
            refine IWp.loopI (α := Nat) (fun b => (⟨false, 125, 14, [15, 19, 33, 34, 35, 36, 43, 59, 62, 68, 75, 91, 95, 102, 103, 104, 105, 106, 113], [], [(1, .int .i64 T), (2, .int .u8 (c : Int)), (5, .ptr 1 1 0 0), (7, .int .i64 ((b : Int) - 1))], []⟩, [.dead, .rows 6 [[.int .i64 tb, .int .i64 ro, .int .i64 se, .int .i64 co, .int .i64 wi, .fz 5 (rws L)]]]))
              (fun b => b ≤ 9) (fun b => 9 - b) 0 (by simp) (by simp [go_sem]) ?_
            intro b hb
            obtain ⟨u, hu⟩ : ∃ u : Int, (b : Int) - 1 = u := ⟨_, rfl⟩
            simp only [hu]
            refine IWp.seq ?_
            refine IWp.seqI ?_
            simp [go_sem]
            by_cases h6 : u ≤ T
            · have v4 : IntKind.i64.wrap (u + 1) = u + 1 := wrap64 (by omega) (by omega)
              refine IWp.now ?_
              simp [go_sem, h6]
              refine IWp.seq ?_
              refine IWp.block ?_
              refine IWp.seqI ?_
              simp [go_sem]
              refine IWp.block ?_
              refine IWp.loopI (α := Nat) (fun d => (⟨false, 125, 14, [15, 19, 33, 34, 35, 36, 43, 59, 62, 68, 75, 91, 95, 102, 103, 104, 105, 106, 113], [], [(1, .int .i64 T), (2, .int .u8 (c : Int)), (5, .ptr 1 1 0 0), (7, .int .i64 u), (8, .int .i64 ((d : Int) - 1))], []⟩, [.dead, .rows 6 [[.int .i64 tb, .int .i64 ro, .int .i64 se, .int .i64 co, .int .i64 wi, .fz 5 (rws L)]]]))
                (fun d => d ≤ 30) (fun d => 30 - d) 0 (by simp) (by simp [go_sem]) ?_
              intro d hd
              obtain ⟨r, hr⟩ : ∃ r : Int, (d : Int) - 1 = r := ⟨_, rfl⟩
              simp only [hr]
              refine IWp.seq ?_
              refine IWp.seqI ?_
              simp [go_sem]
              by_cases h7 : r ≤ ro
              · have v5 : IntKind.i64.wrap (r + 1) = r + 1 := wrap64 (by omega) (by omega)
                refine IWp.now ?_
                simp [go_sem, h7]
                refine IWp.seq ?_
                refine IWp.block ?_
                refine IWp.seqI ?_
                simp [go_sem]
                refine (ctl r u (by omega)).callF (by simp [go_sem]) ?_
                rintro _ rfl
                simp [go_sem]
                refine IWp.now ?_
                simp [go_sem]
                refine IWp.now ?_
                simp [go_sem, v5]
                exact ⟨d + 1, by omega, by omega, by omega⟩
              · refine IWp.now ?_
                simp [go_sem, h7]
                refine IWp.now ?_
                simp [go_sem, v4]
                exact ⟨b + 1, by omega, by omega, by omega⟩
            · refine IWp.now ?_
              simp [go_sem, h6]
              refine IWp.now ?_
              simp [go_sem, v2]
              exact ⟨c + 1, by omega, by omega, by omega⟩
          · have h5' : 6 < T := by omega
            refine IWp.now ?_
            simp [go_sem, h4, h5']
            refine IWp.now ?_
            simp [go_sem, v2]
            exact ⟨c + 1, by omega, by omega, by omega⟩
        · refine IWp.now ?_
          simp [go_sem, h4]
          refine IWp.now ?_
          simp [go_sem, v2]
          exact ⟨c + 1, by omega, by omega, by omega⟩
    · have h2' : ¬ (c : Int) < 5 := by omega
      refine IWp.now ?_
      simp [go_sem, h2']
      refine IWp.now ?_
      simp [go_sem, v1]
      exact ⟨a + 1, by omega, by omega, by omega⟩
  · refine IWp.now ?_
    simp [go_sem, h]
    refine IWp.seqI ?_
    simp [go_sem]
    have hod : ∀ r t, -2 ^ 63 ≤ r ∧ r < 2 ^ 63 → ∀ se, FN 13 [(⟨0, 0, se, 0, 0, oddL⟩ : Mv).v, .int .i64 r, .int .i64 t] (fun v => v = .bool true) := fun r t hr se => tells27_fun _ r t (show oddL.length ≤ 2 ^ 15 by decide) hr
    simp only [Mv.v] at hod
    refine IWp.seq ?_
    refine IWp.seqI ?_
    simp [go_sem]
    refine IWp.forget (e0 := ⟨false, 125, 14, [15, 19, 33, 34, 35, 36, 43, 59, 62, 68, 75, 91, 95, 102, 103, 104, 105, 106, 113], [], [(9, .ptr 1 1 0 0), (10, .int .i64 (-1))], []⟩) (σ0 := [.rows 5 (rws oddL), .rows 6 [[.int .i64 0, .int .i64 0, .int .i64 5, .int .i64 0, .int .i64 0, .sl 0 12 0 12 none]]]) (by simp [go_sem]) (by simp [go_sem, oddL, rws, mp, Rw.c]) (by simp) (by simp [go_sem]) ?_
    refine IWp.freeze 0 5 (rws oddL) [(9, .ptr 1 1 0 0), (10, .int .i64 (-1))] [.dead, .rows 6 [[.int .i64 0, .int .i64 0, .int .i64 5, .int .i64 0, .int .i64 0, .fz 5 (rws oddL)]]] rfl (by simp [go_sem]) (by simp [go_sem]) (by simp [go_sem, oddL, rws, mp]) ?_
    refine IWp.block ?_
    refine IWp.loopI (α := Nat) (fun b => (⟨false, 125, 14, [15, 19, 33, 34, 35, 36, 43, 59, 62, 68, 75, 91, 95, 102, 103, 104, 105, 106, 113], [], [(9, .ptr 1 1 0 0), (10, .int .i64 ((b : Int) - 1))], []⟩, [.dead, .rows 6 [[.int .i64 0, .int .i64 0, .int .i64 5, .int .i64 0, .int .i64 0, .fz 5 (rws oddL)]]]))
      (fun b => b ≤ 5) (fun b => 5 - b) 0 (by simp) (by simp [go_sem]) ?_
    intro b hb
    obtain ⟨r, hr⟩ : ∃ r : Int, (b : Int) - 1 = r := ⟨_, rfl⟩
    simp only [hr]
    refine IWp.seq ?_
    refine IWp.seqI ?_
    simp [go_sem]
    by_cases h1 : r < 4
    · have v1 : IntKind.i64.wrap (r + 1) = r + 1 := wrap64 (by omega) (by omega)
      refine IWp.now ?_
      simp [go_sem, h1]
      refine IWp.seq ?_
      refine IWp.block ?_
      refine IWp.seqI ?_
      simp [go_sem]
      refine IWp.block ?_
      refine IWp.loopI (α := Nat) (fun d => (⟨false, 125, 14, [15, 19, 33, 34, 35, 36, 43, 59, 62, 68, 75, 91, 95, 102, 103, 104, 105, 106, 113], [], [(9, .ptr 1 1 0 0), (10, .int .i64 r), (11, .int .i64 ((d : Int) - 3))], []⟩, [.dead, .rows 6 [[.int .i64 0, .int .i64 0, .int .i64 5, .int .i64 0, .int .i64 0, .fz 5 (rws oddL)]]]))
        (fun d => d ≤ 12) (fun d => 12 - d) 0 (by simp) (by simp [go_sem]) ?_
      intro d hd
      obtain ⟨t, ht⟩ : ∃ t : Int, (d : Int) - 3 = t := ⟨_, rfl⟩
      simp only [ht]
      refine IWp.seq ?_
      refine IWp.seqI ?_
      simp [go_sem]
      by_cases h2 : t < 9
      · have v2 : IntKind.i64.wrap (t + 1) = t + 1 := wrap64 (by omega) (by omega)
        refine IWp.now ?_
        simp [go_sem, h2]
        refine IWp.seq ?_
        refine IWp.block ?_
        refine IWp.seqI ?_
        simp [go_sem]
        refine (hod r t (by omega) 5).callF (by simp [go_sem]) ?_
        rintro _ rfl
        simp [go_sem]
        refine IWp.now ?_
        simp [go_sem]
        refine IWp.now ?_
        simp [go_sem, v2]
        exact ⟨d + 1, by omega, by omega, by omega⟩
      · refine IWp.now ?_
        simp [go_sem, h2]
        refine IWp.now ?_
        simp [go_sem, v1]
        exact ⟨b + 1, by omega, by omega, by omega⟩
    · refine IWp.now ?_
      simp [go_sem, h1]
      refine IWp.seq ?_
      refine IWp.seqI ?_
      simp [go_sem]
      obtain ⟨ss, hss, hsl⟩ : ∃ ss : List Int, [[IV.int .i64 (-1)], [.int .i64 0], [.int .i64 1], [.int .i64 4096], [.int .i64 4097], [.int .i64 4611686018427387904]] = ints ss ∧ ss.length = 6 := ⟨[-1, 0, 1, 4096, 4097, 4611686018427387904], rfl, rfl⟩
      rw [hss]
      refine IWp.block ?_
      refine IWp.loopI (α := Nat × Int) (fun x => (⟨false, 125, 14, [15, 19, 33, 34, 35, 36, 43, 59, 62, 68, 75, 91, 95, 102, 103, 104, 105, 106, 113], [], [(9, .ptr 1 1 0 0), (103, .sl 2 6 0 6 none), (104, .int .i64 6), (105, .int .i64 (x.1 : Int))], []⟩, [.dead, .rows 6 [[.int .i64 0, .int .i64 0, .int .i64 x.2, .int .i64 0, .int .i64 0, .fz 5 (rws oddL)]], .rows 1 (ints ss)]))
        (fun x => x.1 ≤ 6) (fun x => 6 - x.1) (0, 5) (by simp) (by simp [go_sem, hsl]) ?_
      rintro ⟨i, se⟩ hi
      simp only at hi
      refine IWp.seqI ?_
      simp [go_sem]
      refine IWp.seq ?_
      by_cases h3 : i < 6
      · have h3' : (i : Int) < 6 := by omega
        have v3 : IntKind.i64.wrap ((i : Int) + 1) = ((i + 1 : Nat) : Int) := by rw [wrap64 (by omega) (by omega)]; omega
        obtain ⟨n, hn⟩ : ∃ n, ss[i]'(by omega) = n := ⟨_, rfl⟩
        have q1 : (ints ss)[i]? = some [.int .i64 n] := by rw [List.getElem?_eq_getElem (by simp; omega), ints_getElem, hn]
        refine IWp.now ?_
        simp [go_sem, h3']
        refine IWp.seq ?_
        refine IWp.block ?_
        refine IWp.seqI ?_
        simp [go_sem, hsl, h3', q1]
        refine ⟨h3, ?_⟩
        refine IWp.seqI ?_
        simp [go_sem]
        refine IWp.seqI ?_
        simp [go_sem]
        refine (hod 0 1 (by omega) n).callF (by simp [go_sem]) ?_
        rintro _ rfl
        simp [go_sem]
        refine IWp.now ?_
        simp [go_sem]
        refine IWp.now ?_
        simp [go_sem, v3]
        exact ⟨i + 1, by omega, by omega, by omega⟩
      · obtain rfl : i = 6 := by omega
        have k1 := makes27_fun 4611686018427387904 1 1 (by decide) (by decide)
        have k2 := makes27_fun 6 4611686018427387904 3 (by decide) (by decide)
        have k3 := makes27_fun 6 (-9223372036854775808) 255 (by decide) (by decide)
        refine IWp.now ?_
        simp [go_sem]
        refine IWp.now ?_
        simp [go_sem]
        refine k1.callF (by simp [go_sem]) ?_
        rintro _ rfl
        simp [go_sem]
        refine k2.callF (by simp [go_sem]) ?_
        rintro _ rfl
        simp [go_sem]
        refine k3.callF (by simp [go_sem]) ?_
        rintro _ rfl
        simp [go_sem]
        refine awake27_fun.callF (by simp [go_sem]) ?_
        rintro _ rfl
        simp [go_sem]
        exact hR _ _ _ rfl (by simp [go_sem])
end Go.Idl
