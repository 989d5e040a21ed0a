/-
  Chapter 38: sorting numbers stably (walk).
  Chapter 38: play.
-/
import Derived.Test.YtnnpdhccblelgaaDoorC38PartP
namespace Go.Idl
set_option linter.all false
open Go.Proofs
set_option maxHeartbeats 16000000
set_option maxRecDepth 40000

theorem stableCmp_calls (l : List Rs) (hl : l.length ≤ 2 ^ 40) :
    ICalls Tryd.prog glT 91 [.sl 0 l.length 0 l.length none, .int .i64 (l.length : Int), play1V] (sortH l (idL l.length))
      (fun _ σ => ∃ A, OrdOf l A ∧ σ = sortH l A) := by
  refine ICalls.forget (ICalls.of_bodyV false 10 [13, 30, 35, 54] Tryd.func91 rfl Tryd.call91 rfl fun R hR => ?_)
  have ci := fun (A : List Nat) (hA : A.length = l.length) (hr : ∀ x ∈ A, x < l.length) lo hi (h1 : lo < hi) (h2 : hi ≤ l.length) h3 => insert_calls l A lo hi h1 (by rw [hA]; exact h2) hr (by omega) (by omega) h3
  have cn := fun (A : List Nat) (lo hi : Nat) (h1 : hi ≤ lo) (h2 : lo < 2 ^ 62) => insert_none l A lo hi h1 h2
  have cm := fun (A : List Nat) (hA : A.length = l.length) (hr : ∀ x ∈ A, x < l.length) a m b h1 h2 (h3 : b ≤ l.length) h4 => symMerge_calls l (by omega) (b - a) A a m b (Nat.le_refl _) h1 h2 (by rw [hA]; exact h3) (by omega) hr h4
  obtain ⟨n, hn⟩ : ∃ n, l.length = n := ⟨_, rfl⟩
  have hrg : ∀ {A : List Nat}, A.Perm (List.range n) → ∀ x ∈ A, x < n := fun hp x hx => by simpa using hp.mem_iff.1 hx
  have hord : ∀ A : List Nat, A.Perm (List.range n) → A.Pairwise (lx (rK l) (iK l)) → OrdOf l A := fun A h1 h2 => ⟨by rw [hn]; exact h1, h2⟩
  rw [hn] at hl ci cm ⊢
  unfold sortH cmpC lC play1V at *
  refine IWp.seqI ?_
  simp [go_sem]
  refine IWp.seqI ?_
  simp [go_sem]
  refine IWp.seqT (α := Nat × List Nat) (fun p => (⟨false, 63, 10, [13, 30, 35, 54], glT, [(0, .sl 0 n 0 n none), (1, .int .i64 (n : Int)), (2, play1V), (6, .int .i64 20), (7, .int .i64 (p.1 : Int))], []⟩, sortH l p.2))
    (fun p => p.1 ≤ n ∧ n < p.1 + 20 ∧ 20 ∣ p.1 ∧ Fst (rK l) (iK l) n 20 p.1 p.2) ?_ ?_
  · simp [go_sem]
    refine IWp.loopT (α := Nat × Nat × List Nat) (fun p => (⟨false, 63, 10, [13, 30, 35, 54], glT, [(0, .sl 0 n 0 n none), (1, .int .i64 (n : Int)), (2, play1V), (6, .int .i64 20), (7, .int .i64 (p.1 : Int)), (8, .int .i64 (p.2.1 : Int))], []⟩, sortH l p.2.2))
      (fun p => p.1 ≤ n ∧ p.2.1 = p.1 + 20 ∧ 20 ∣ p.1 ∧ Fst (rK l) (iK l) n 20 p.1 p.2.2) (fun p => n - p.1) (0, 20, idL n) ⟨by simp, by simp, Nat.dvd_zero _, .start⟩ (by simp [go_sem, sortH, cmpC, lC, play1V]) ?_
    rintro ⟨a, b, A⟩ ⟨hi, hb, hd, hF⟩
    simp only at hi hb hd hF
    unfold sortH cmpC lC play1V
    by_cases h : b ≤ n
    · have h' : (b : Int) ≤ n := by omega
      have cc := ci A hF.len (hrg hF.perm) a b (by omega) h (hF.asc h)
      have v1 : IntKind.i64.wrap ((b : Int) + 20) = ((b + 20 : Nat) : Int) := by rw [wrap64 (by omega) (by omega)]; omega
      rw [hF.len] at cc
      simp [go_sem, h, h']
      refine cc.at [0, 1, 2] (by simp [go_sem]) ?_
      rintro _ _ ⟨B, hB, rfl⟩
      obtain ⟨c, hc⟩ : ∃ c, b + 20 = c := ⟨_, rfl⟩
      rw [hc] at v1
      simp [go_sem, v1]
      refine ⟨b, c, B, ⟨⟨rfl, rfl⟩, rfl⟩, ⟨h, hc.symm, by omega, ?_⟩, by omega⟩
      rw [hb]
      exact hF.step hd (by rw [show min (a + 20) n = b by omega]; exact hB)
    · have h' : ¬ (b : Int) ≤ n := by omega
      simp [go_sem, h, h', sortH, cmpC, lC, play1V]
      exact ⟨a, A, ⟨rfl, rfl⟩, hi, by omega, hd, hF⟩
  rintro ⟨a, A⟩ ⟨hi, hb, hd, hF⟩
  simp only at hi hb hd hF
  unfold sortH cmpC lC play1V
  refine IWp.seqT (α := List Nat) (fun A => (⟨false, 63, 10, [13, 30, 35, 54], glT, [(0, .sl 0 n 0 n none), (1, .int .i64 (n : Int)), (2, play1V), (6, .int .i64 20)], []⟩, sortH l A))
    (fun A => Blks (rK l) (iK l) n 20 0 A) ?_ ?_
  · by_cases h : a < n
    · have cc := ci A hF.len (hrg hF.perm) a n h (Nat.le_refl _) (hF.asc (Nat.le_refl _))
      rw [hF.len] at cc
      simp [go_sem]
      refine cc.at [0, 1, 2] (by simp [go_sem]) ?_
      rintro _ _ ⟨B, hB, rfl⟩
      simp [go_sem, sortH, cmpC, lC, play1V]
      exact ⟨B, rfl, (hF.step hd (by rw [show min (a + 20) n = n by omega]; exact hB)).blks (by omega)⟩
    · have cc := cn A a n (by omega) (by omega)
      rw [hF.len] at cc
      simp [go_sem]
      refine cc.at [0, 1, 2] (by simp [go_sem]) ?_
      rintro _ _ rfl
      simp [go_sem, sortH, cmpC, lC, play1V]
      exact ⟨A, rfl, hF.blks (by omega)⟩
  clear hF hd hb hi A a
  intro A hA
  unfold sortH cmpC lC play1V
  refine IWp.block ?_
  refine IWp.loopI (α := Nat × List Nat) (fun p => (⟨false, 63, 10, [13, 30, 35, 54], glT, [(0, .sl 0 n 0 n none), (1, .int .i64 (n : Int)), (2, play1V), (6, .int .i64 (p.1 : Int))], []⟩, sortH l p.2))
    (fun p => 0 < p.1 ∧ Blks (rK l) (iK l) n p.1 0 p.2) (fun p => n - p.1) (20, A) ⟨by simp, hA⟩ (by simp [go_sem, sortH, cmpC, lC, play1V]) ?_
  rintro ⟨s, A⟩ ⟨hs, hA⟩
  simp only at hs hA
  unfold sortH cmpC lC play1V
  refine IWp.seqI ?_
  by_cases h : s < n
  · have h' : (s : Int) < n := by omega
    simp [go_sem, h, h']
    obtain ⟨D, hD⟩ : ∃ D, 2 * s = D := ⟨_, rfl⟩
    have v1 : IntKind.i64.wrap (2 * (s : Int)) = (D : Int) := by rw [wrap64 (by omega) (by omega)]; omega
    have v2 : IntKind.i64.wrap ((s : Int) * 2) = (D : Int) := by rw [wrap64 (by omega) (by omega)]; omega
    refine IWp.block ?_
    refine IWp.seqI ?_
    simp [go_sem, v1]
    refine IWp.seqT (α := Nat × List Nat) (fun p => (⟨false, 63, 10, [13, 30, 35, 54], glT, [(0, .sl 0 n 0 n none), (1, .int .i64 (n : Int)), (2, play1V), (6, .int .i64 (s : Int)), (7, .int .i64 (p.1 : Int))], []⟩, sortH l p.2))
      (fun p => p.1 ≤ n ∧ n < p.1 + D ∧ D ∣ p.1 ∧ Blks (rK l) (iK l) n s p.1 p.2) ?_ ?_
    · simp [go_sem]
      refine IWp.loopT (α := Nat × Nat × List Nat) (fun p => (⟨false, 63, 10, [13, 30, 35, 54], glT, [(0, .sl 0 n 0 n none), (1, .int .i64 (n : Int)), (2, play1V), (6, .int .i64 (s : Int)), (7, .int .i64 (p.1 : Int)), (8, .int .i64 (p.2.1 : Int))], []⟩, sortH l p.2.2))
        (fun p => p.1 ≤ n ∧ p.2.1 = p.1 + D ∧ D ∣ p.1 ∧ Blks (rK l) (iK l) n s p.1 p.2.2) (fun p => n - p.1) (0, D, A) ⟨by simp, by simp, Nat.dvd_zero _, hA⟩ (by simp [go_sem, sortH, cmpC, lC, play1V]) ?_
      rintro ⟨a, b, A⟩ ⟨hi, hb, hd, hF⟩
      simp only at hi hb hd hF
      unfold sortH cmpC lC play1V
      by_cases hbn : b ≤ n
      · have hbn' : (b : Int) ≤ n := by omega
        have hsa : s ∣ a := Nat.dvd_trans ⟨2, by omega⟩ hd
        have hTw : Two (rK l) (iK l) A a (a + s) b := by
          have b1 := hF.todo a hsa (Nat.le_refl _)
          have b2 := hF.todo (a + s) (Nat.dvd_add hsa (Nat.dvd_refl s)) (by omega)
          rw [show min (a + s) n = a + s by omega] at b1
          rw [show min (a + s + s) n = b by omega] at b2
          exact b1.two b2
        have v3 : IntKind.i64.wrap ((a : Int) + s) = ((a + s : Nat) : Int) := by rw [wrap64 (by omega) (by omega)]; omega
        have v4 : IntKind.i64.wrap ((b : Int) + D) = ((b + D : Nat) : Int) := by rw [wrap64 (by omega) (by omega)]; omega
        have cc := cm A hF.len (hrg hF.perm) a (a + s) b (by omega) (by omega) hbn hTw
        rw [hF.len] at cc
        obtain ⟨M, hM⟩ : ∃ M, a + s = M := ⟨_, rfl⟩
        obtain ⟨c, hc⟩ : ∃ c, b + D = c := ⟨_, rfl⟩
        rw [hM] at v3 cc
        rw [hc] at v4
        simp [go_sem, hbn, hbn', v3]
        refine cc.at [0, 1, 2] (by simp [go_sem]) ?_
        rintro _ _ ⟨B, hB, rfl⟩
        simp [go_sem, v1, v4]
        refine ⟨b, c, B, ⟨⟨rfl, rfl⟩, rfl⟩, ⟨hbn, hc.symm, by rw [hb]; exact Nat.dvd_add hd (Nat.dvd_refl D), ?_⟩, by omega⟩
        rw [hb, ← hD]
        rw [← hD] at hd
        exact hF.step hs hd (by omega) (by rw [show min (a + 2 * s) n = b by omega]; exact hB)
      · have hbn' : ¬ (b : Int) ≤ n := by omega
        simp [go_sem, hbn, hbn', sortH, cmpC, lC, play1V]
        exact ⟨a, A, ⟨rfl, rfl⟩, hi, by omega, hd, hF⟩
    clear hA A
    rintro ⟨a, A⟩ ⟨hi, hb, hd, hF⟩
    simp only at hi hb hd hF
    have v3 : IntKind.i64.wrap ((a : Int) + s) = ((a + s : Nat) : Int) := by rw [wrap64 (by omega) (by omega)]; omega
    unfold sortH cmpC lC play1V
    refine IWp.seqT (α := List Nat) (fun A => (⟨false, 63, 10, [13, 30, 35, 54], glT, [(0, .sl 0 n 0 n none), (1, .int .i64 (n : Int)), (2, play1V), (6, .int .i64 (s : Int))], []⟩, sortH l A))
      (fun A => Blks (rK l) (iK l) n D 0 A) ?_ ?_
    · rw [← hD] at hd
      by_cases hm : a + s < n
      · have hsa : s ∣ a := Nat.dvd_trans ⟨2, by omega⟩ hd
        have hTw : Two (rK l) (iK l) A a (a + s) n := by
          have b1 := hF.todo a hsa (Nat.le_refl _)
          have b2 := hF.todo (a + s) (Nat.dvd_add hsa (Nat.dvd_refl s)) (by omega)
          rw [show min (a + s) n = a + s by omega] at b1
          rw [show min (a + s + s) n = n by omega] at b2
          exact b1.two b2
        have cc := cm A hF.len (hrg hF.perm) a (a + s) n (by omega) hm (Nat.le_refl _) hTw
        rw [hF.len] at cc
        obtain ⟨M, hM⟩ : ∃ M, a + s = M := ⟨_, rfl⟩
        rw [hM] at v3 cc
        have hm1 : M < n := by omega
        have hm2 : (M : Int) < n := by omega
        simp [go_sem, v3, hm1, hm2]
        refine cc.at [0, 1, 2] (by simp [go_sem]) ?_
        rintro _ _ ⟨B, hB, rfl⟩
        simp [go_sem, sortH, cmpC, lC, play1V]
        refine ⟨B, rfl, ?_⟩
        rw [← hD]
        exact (hF.step hs hd (by omega) (by rw [show min (a + 2 * s) n = n by omega]; exact hB)).next hs (Nat.dvd_add hd (Nat.dvd_refl _)) (by omega)
      · obtain ⟨M, hM⟩ : ∃ M, a + s = M := ⟨_, rfl⟩
        rw [hM] at v3
        have hm1 : ¬ M < n := by omega
        have hm2 : ¬ (M : Int) < n := by omega
        simp [go_sem, v3, hm1, hm2, sortH, cmpC, lC, play1V]
        refine ⟨A, rfl, ?_⟩
        rw [← hD]
        exact hF.next hs hd (by omega)
    clear v3 hF hd hb hi A a
    intro A hA
    unfold sortH cmpC lC play1V
    refine IWp.now ?_
    simp [go_sem, v2]
    exact ⟨D, A, ⟨rfl, rfl⟩, ⟨by omega, hA⟩, by omega⟩
  · have h' : ¬ (s : Int) < n := by omega
    simp [go_sem, h, h']
    exact hR _ _ ⟨_, by simp [go_sem], A, hord A hA.perm (hA.all (by omega)), rfl⟩
theorem sortStable_calls (l : List Rs) (hl : l.length ≤ 2 ^ 40) :
    ICalls Tryd.prog glT 77 [.sl 0 l.length 0 l.length none, play1V] (sortH l (idL l.length))
      (fun _ σ => ∃ A, OrdOf l A ∧ σ = sortH l A) := by
  refine ICalls.forget (ICalls.of_bodyE false 4 [] Tryd.func77 rfl Tryd.call77 rfl fun R hR => ?_)
  have cc := stableCmp_calls l hl
  unfold sortH cmpC lC play1V at *
  simp [go_sem]
  refine cc.at [0, 1, 2] (by simp [go_sem]) ?_
  rintro _ _ ⟨A, hA, rfl⟩
  simp [go_sem]
  exact hR _ _ ⟨_, by simp [go_sem], A, hA, rfl⟩
end Go.Idl
namespace Go.Idl
set_option linter.all false
open Go.Proofs
set_option maxHeartbeats 16000000
set_option maxRecDepth 40000

/-- All results are looked at, in the order of numbers A. -/
def plR (r : Nat) (S : List Int) (l : List Rs) : List Nat → Won → Int × Int × Won
  | [], W => (-1, 0, W)
  | i :: A, W => match l[i]? with
    | none => (-1, 0, W)
    | some x => if (tkR r S W x).1 ≠ 0 then ((i : Int), (tkR r S W x).1, W) else plR r S l A (tkR r S W x).2
theorem plR_idx {r : Nat} {S : List Int} {l : List Rs} : ∀ (A : List Nat) (W : Won), (plR r S l A W).2.1 ≠ 0 → 0 ≤ (plR r S l A W).1
  | [], W, h => absurd rfl h
  | i :: A, W, h => by
    unfold plR at h ⊢
    split
    · rename_i e; rw [e] at h; exact absurd rfl h
    · rename_i x e
      rw [e] at h
      simp only at h
      split
      · simp only; omega
      · rename_i hx
        rw [if_neg hx] at h
        exact plR_idx A _ h
/-- Numbers put down as far as i. -/
def idI (k : Nat) : Nat → List Nat
  | 0 => List.replicate k 0
  | i + 1 => (idI k i).set i i
@[simp] theorem idI_length {k : Nat} : ∀ i, (idI k i).length = k
  | 0 => by simp [idI]
  | i + 1 => by simp [idI, idI_length i]
theorem idI_get {k : Nat} : ∀ (i j : Nat) (h : j < (idI k i).length), (idI k i)[j] = if j < i then j else 0
  | 0, j, h => by simp [idI]
  | i + 1, j, h => by
    simp only [idI, List.getElem_set, idI_get i j (by simpa using h)]
    split
    · rw [if_pos (by omega)]; omega
    · split
      · rw [if_pos (by omega)]
      · rw [if_neg (by omega)]
theorem idI_all {k : Nat} : idI k k = idL k := List.ext_getElem (by simp) fun i h1 h2 => by
  rw [idI_get, if_pos (by simpa using h1)]; simp [idL]
def evP (r : Nat) (S : List Int) (W : Won) : Heap := [.dead, .dead, .dead, .map (enW W), evRow r S 3]
/-- play: where there is an event. -/
theorem play_calls (n : Nat) (h1 : 2 ≤ n) (h2 : n ≤ 64) (l : List Rs) (hl : l.length ≤ 1000) (hf : ∀ x ∈ l, FitR x) (A : List Nat) (hA : OrdOf l A) :
    ICalls Tryd.prog glT 61 [.int .i64 (n : Int), .fz 6 (rss l)] [] (fun v σ =>
      ((plR (rnd n) (seedsL n) l A (beg n)).2.1 = 0 ∧ v = .tup [.ptr 4 1 0 0, .int .i64 (-1), .int .i64 0] ∧ σ = evP (rnd n) (seedsL n) (plR (rnd n) (seedsL n) l A (beg n)).2.2) ∨
      ((plR (rnd n) (seedsL n) l A (beg n)).2.1 ≠ 0 ∧ v = .tup [.nilp, .int .i64 (plR (rnd n) (seedsL n) l A (beg n)).1, .int .i64 (plR (rnd n) (seedsL n) l A (beg n)).2.1] ∧ σ = [])) := by
  refine ICalls.forget (ICalls.of_bodyE false 14 [16, 21, 22, 23, 35, 36, 37, 38, 48] Tryd.func61 rfl Tryd.call61 rfl fun R hR => ?_)
  have cs := sortStable_calls l (by omega)
  have cb := begin_calls n h1 h2
  have ct := teams38_fun n
  obtain ⟨r1, r2⟩ := rnd_bd h1
  have hSl := seedsL_len n
  generalize beg n = W0 at *
  generalize seedsL n = S at *
  generalize rnd n = r at *
  have g1 : ¬ (n : Int) < 2 := by omega
  have g2 : ¬ 64 < (n : Int) := by omega
  have g3 : (l.length : Int) ≤ 1099511627776 := by omega
  unfold sortH cmpC lC play1V at *
  simp [go_sem]
  refine ct.callF (by simp [go_sem]) ?_
  rintro _ rfl
  simp [go_sem, g1, g2, g3]
  rw [show List.replicate l.length [IV.int .i64 0] = nts (idI l.length 0) by simp [idI, nts, mp]]
  refine IWp.loopT (α := Nat) (fun i => (⟨false, 53, 14, [16, 21, 22, 23, 35, 36, 37, 38, 48], glT, [(0, .int .i64 n), (3, .ptr 0 1 0 0), (7, .sl 1 l.length 0 l.length none), (21, .int .i64 l.length), (22, .int .i64 (i : Int))], []⟩, [.rows 1 [[.fz 6 (rss l)]], .rows 1 (nts (idI l.length i))]))
    (fun i => i ≤ l.length) (fun i => l.length - i) 0 (by simp) (by simp [go_sem]) ?_
  intro i hi
  by_cases h : i < l.length
  · have v1 : IntKind.i64.wrap ((i : Int) + 1) = ((i + 1 : Nat) : Int) := by rw [wrap64 (by omega) (by omega)]; omega
    have hs : nts (idI l.length (i + 1)) = (nts (idI l.length i)).set i [.int .i64 (i : Int)] := nts_set
    have e1 := nts_at (l := idI l.length i) (i := i) (by simpa using h)
    simp [go_sem, h, e1]
    exact ⟨i + 1, ⟨v1, hs⟩, by omega, by omega⟩
  · obtain rfl : i = l.length := by omega
    rw [idI_all]
    simp [go_sem]
    refine cs.at [1, 2, 0] (by simp [go_sem]) ?_
    rintro _ _ ⟨A', hA', rfl⟩
    obtain rfl := OrdOf.eq hA hA'
    simp [go_sem]
    unfold evH evRow at cb
    refine cb.at [] (by simp [go_sem]) ?_
    rintro _ _ ⟨rfl, rfl⟩
    have hAl : A.length = l.length := by rw [hA.1.length_eq, idL_length]
    simp [go_sem, hAl]
    refine IWp.loopT (α := Nat × Won) (fun p => (⟨false, 53, 14, [16, 21, 22, 23, 35, 36, 37, 38, 48], glT, [(3, .ptr 0 1 0 0), (10, .ptr 4 1 0 0), (35, .sl 1 l.length 0 l.length none), (36, .int .i64 l.length), (37, .int .i64 (p.1 : Int))], []⟩, [.rows 1 [[.fz 6 (rss l)]], .rows 1 (nts A), .dead, .map (enW p.2), evRow r S 3]))
      (fun p => p.1 ≤ l.length ∧ plR r S l (A.drop p.1) p.2 = plR r S l A W0) (fun p => l.length - p.1) (0, W0) ⟨by simp, rfl⟩ (by simp [go_sem, evRow]) ?_
    rintro ⟨i, W⟩ ⟨hi, hp⟩
    simp only at hi hp
    by_cases h : i < l.length
    · have v1 : IntKind.i64.wrap ((i : Int) + 1) = ((i + 1 : Nat) : Int) := by rw [wrap64 (by omega) (by omega)]; omega
      have hiA : i < A.length := by omega
      have hdr : A.drop i = A[i] :: A.drop (i + 1) := List.drop_eq_getElem_cons hiA
      have hAi : A[i] < l.length := by
        have := hA.1.mem_iff.1 (List.getElem_mem hiA)
        simpa [idL] using this
      rw [hdr, plR] at hp
      rw [List.getElem?_eq_getElem hAi] at hp
      simp only at hp
      have ctk := take_calls r S W l[A[i]] ⟨r1, r2⟩ hSl (hf _ (List.getElem_mem hAi))
      unfold evH evRow at ctk
      simp only [Rs.v] at ctk
      generalize tkR r S W l[A[i]] = T at *
      obtain ⟨te, tw⟩ := T
      simp only at hp ctk
      obtain ⟨a, ha⟩ : ∃ a, A[i] = a := ⟨_, rfl⟩
      have e1 : (nts A)[i]?.getD [] = [.int .i64 (a : Int)] := by rw [nts_at hiA]; simp [hiA, ha]
      simp only [ha] at ctk hAi hp
      unfold evRow
      simp [go_sem, h, e1, hAi, ha, hAl, hiA]
      refine ctk.at [3, 4] (by simp [go_sem]) ?_
      rintro _ _ ⟨rfl, rfl⟩
      simp [go_sem]
      by_cases hte : te = 0
      · subst hte
        rw [if_neg (by simp)] at hp
        simp [go_sem]
        exact ⟨i + 1, tw, ⟨v1, rfl⟩, ⟨by omega, hp⟩, by omega⟩
      · rw [if_pos hte] at hp
        simp [go_sem, hte]
        rw [← hp] at hR
        exact hR _ _ ⟨[], by simp [go_sem], .inr ⟨hte, rfl, rfl⟩⟩
    · obtain rfl : i = l.length := by omega
      rw [List.drop_of_length_le (by omega)] at hp
      rw [← hp] at hR
      unfold evRow
      simp [go_sem]
      refine hR _ _ ⟨_, ?_, .inl ⟨rfl, rfl, rfl⟩⟩
      simp [go_sem, evP, evRow, plR]
theorem play_none (n : Int) (h : ¬ (2 ≤ n ∧ n ≤ 64)) (l : List Rs) :
    ICalls Tryd.prog glT 61 [.int .i64 n, .fz 6 (rss l)] [] (fun v σ => v = .tup [.nilp, .int .i64 (-1), .int .i64 380] ∧ σ = []) := by
  refine ICalls.forget (ICalls.of_bodyE false 14 [16, 21, 22, 23, 35, 36, 37, 38, 48] Tryd.func61 rfl Tryd.call61 rfl fun R hR => ?_)
  have ct := teams38_fun n
  simp [go_sem]
  refine ct.callF (by simp [go_sem]) ?_
  rintro _ rfl
  by_cases h1 : 2 ≤ n
  · have h2 : ¬ n ≤ 64 := by omega
    have h2' : 64 < n := by omega
    have h1' : ¬ n < 2 := by omega
    simp [go_sem, h1, h2, h2', h1']
    exact hR _ _ ⟨[], by simp [go_sem], rfl, rfl⟩
  · have h1' : n < 2 := by omega
    simp [go_sem, h1, h1']
    exact hR _ _ ⟨[], by simp [go_sem], rfl, rfl⟩
theorem state_none (n : Int) (h : ¬ (2 ≤ n ∧ n ≤ 64)) (l : List Rs) :
    ICalls Tryd.prog glT 60 [.int .i64 n, .fz 6 (rss l)] [] (fun v σ => v = .tup [.nilp, .int .i64 380] ∧ σ = []) := by
  refine ICalls.forget (ICalls.of_bodyE false 9 [17] Tryd.func60 rfl Tryd.call60 rfl fun R hR => ?_)
  have ct := play_none n h l
  simp [go_sem]
  refine ct.at [] (by simp [go_sem]) ?_
  rintro _ _ ⟨rfl, rfl⟩
  simp [go_sem]
  exact hR _ _ ⟨[], by simp [go_sem], rfl, rfl⟩
theorem state_calls (n : Nat) (h1 : 2 ≤ n) (h2 : n ≤ 64) (l : List Rs) (hl : l.length ≤ 1000) (hf : ∀ x ∈ l, FitR x) (A : List Nat) (hA : OrdOf l A) :
    ICalls Tryd.prog glT 60 [.int .i64 (n : Int), .fz 6 (rss l)] [] (fun v σ =>
      ((plR (rnd n) (seedsL n) l A (beg n)).2.1 = 0 ∧ v = .tup [.ptr 4 1 0 0, .int .i64 0] ∧ σ = evP (rnd n) (seedsL n) (plR (rnd n) (seedsL n) l A (beg n)).2.2) ∨
      ((plR (rnd n) (seedsL n) l A (beg n)).2.1 ≠ 0 ∧ v = .tup [.nilp, .int .i64 2] ∧ σ = [])) := by
  refine ICalls.forget (ICalls.of_bodyE false 9 [17] Tryd.func60 rfl Tryd.call60 rfl fun R hR => ?_)
  have ct := play_calls n h1 h2 l hl hf A hA
  have hi : (plR (rnd n) (seedsL n) l A (beg n)).2.1 ≠ 0 → 0 ≤ (plR (rnd n) (seedsL n) l A (beg n)).1 := plR_idx A (beg n)
  generalize plR (rnd n) (seedsL n) l A (beg n) = Z at *
  obtain ⟨zi, ze, zw⟩ := Z
  simp only at *
  simp [go_sem]
  refine ct.at [] (by simp [go_sem]) ?_
  rintro _ _ (⟨he, rfl, rfl⟩ | ⟨he, rfl, rfl⟩)
  · unfold evP evRow at *
    simp [go_sem]
    refine hR _ _ ⟨_, ?_, .inl ⟨he, rfl, rfl⟩⟩
    simp [go_sem]
  · have hi0 := hi he
    simp [go_sem, hi0]
    exact hR _ _ ⟨[], by simp [go_sem], .inr ⟨he, rfl, rfl⟩⟩
end Go.Idl
