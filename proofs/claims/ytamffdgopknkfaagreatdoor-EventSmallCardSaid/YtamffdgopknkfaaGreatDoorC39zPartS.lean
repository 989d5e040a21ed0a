import Derived.Test.YtamffdgopknkfaaGreatDoorC39zPartR
set_option linter.all false
set_option maxHeartbeats 16000000
set_option maxRecDepth 40000
namespace Go.Idl
open Go.Proofs
theorem stableCmpM_calls (l : List Em) (hl : l.length ≤ 2 ^ 40) :
  ICalls Tryz.prog glT 61 [.sl 0 l.length 0 l.length none, .int .i64 (l.length : Int), ck1V] (sortH9 l (idL9 l.length))
   (fun _ σ => ∃ A, OrdOf9 l A ∧ σ = sortH9 l A) := by
 refine ICalls.forget (ICalls.of_bodyV false 10 [13, 30, 35, 54] Tryz.func61 rfl Tryz.call61 rfl fun R hR => ?_)
 have ci := fun (A : List Nat) (hA : A.length = l.length) (hr : ∀ x ∈ A, x < l.length) lo hi (h1 : lo < hi) (h2 : hi ≤ l.length) h3 => insertM_calls l A lo hi h1 (by rw [hA]; exact h2) hr (by omega) (by omega) h3
 have cn := fun (A : List Nat) (lo hi : Nat) (h1 : hi ≤ lo) (h2 : lo < 2 ^ 62) => insertM_none l A lo hi h1 h2
 have cm := fun (A : List Nat) (hA : A.length = l.length) (hr : ∀ x ∈ A, x < l.length) a m b h1 h2 (h3 : b ≤ l.length) h4 => symMergeM_calls l (by omega) (b - a) A a m b (Nat.le_refl _) h1 h2 (by rw [hA]; exact h3) (by omega) hr h4
 obtain ⟨n, hn⟩ : ∃ n, l.length = n := ⟨_, rfl⟩
 have hrg : ∀ {A : List Nat}, A.Perm (List.range n) → ∀ x ∈ A, x < n := fun hp x hx => by simpa using hp.mem_iff.1 hx
 have hord : ∀ A : List Nat, A.Perm (List.range n) → A.Pairwise (lx (rK9 l) (iK9 l)) → OrdOf9 l A := fun A h1 h2 => ⟨by rw [hn]; exact h1, h2⟩
 rw [hn] at hl ci cm ⊢
 unfold sortH9 lC9 ck1V at *
 refine IWp.seqI ?_
 simp [go_sem]
 refine IWp.seqI ?_
 simp [go_sem]
 refine IWp.seqT (α := Nat × List Nat) (fun p => (⟨false, 63, 10, [13, 30, 35, 54], glT, [(0, .sl 0 n 0 n none), (1, .int .i64 (n : Int)), (2, ck1V), (6, .int .i64 20), (7, .int .i64 (p.1 : Int))], []⟩, sortH9 l p.2))
  (fun p => p.1 ≤ n ∧ n < p.1 + 20 ∧ 20 ∣ p.1 ∧ Fst (rK9 l) (iK9 l) n 20 p.1 p.2) ?_ ?_
 ·simp [go_sem]
  refine IWp.loopT (α := Nat × Nat × List Nat) (fun p => (⟨false, 63, 10, [13, 30, 35, 54], glT, [(0, .sl 0 n 0 n none), (1, .int .i64 (n : Int)), (2, ck1V), (6, .int .i64 20), (7, .int .i64 (p.1 : Int)), (8, .int .i64 (p.2.1 : Int))], []⟩, sortH9 l p.2.2))
   (fun p => p.1 ≤ n ∧ p.2.1 = p.1 + 20 ∧ 20 ∣ p.1 ∧ Fst (rK9 l) (iK9 l) n 20 p.1 p.2.2) (fun p => n - p.1) (0, 20, idL9 n) ⟨by simp, by simp, Nat.dvd_zero _, .start⟩ (by simp [go_sem, sortH9, lC9, ck1V]) ?_
  rintro ⟨a, b, A⟩ ⟨hi, hb, hd, hF⟩
  simp only at hi hb hd hF
  unfold sortH9 lC9 ck1V
  by_cases h : b ≤ n
  ·have h' : (b : Int) ≤ n := by omega
   have cc := ci A hF.len (hrg hF.perm) a b (by omega) h (hF.asc h)
   have v1 : IntKind.i64.wrap ((b : Int) + 20) = ((b + 20 : Nat) : Int) := by rw [wrap64 (by omega) (by omega)]; omega
   rw [hF.len] at cc
   simp [go_sem, h, h']
   refine cc.at [0, 1] (by simp [go_sem]) ?_
   rintro _ _ ⟨B, hB, rfl⟩
   obtain ⟨c, hc⟩ : ∃ c, b + 20 = c := ⟨_, rfl⟩
   rw [hc] at v1
   simp [go_sem, v1]
   refine ⟨b, c, B, ⟨⟨rfl, rfl⟩, rfl⟩, ⟨h, hc.symm, by omega, ?_⟩, by omega⟩
   rw [hb]
   exact hF.step hd (by rw [show min (a + 20) n = b by omega]; exact hB)
  ·have h' : ¬ (b : Int) ≤ n := by omega
   simp [go_sem, h, h', sortH9, lC9, ck1V]
   exact ⟨a, A, ⟨rfl, rfl⟩, hi, by omega, hd, hF⟩
 rintro ⟨a, A⟩ ⟨hi, hb, hd, hF⟩
 simp only at hi hb hd hF
 unfold sortH9 lC9 ck1V
 refine IWp.seqT (α := List Nat) (fun A => (⟨false, 63, 10, [13, 30, 35, 54], glT, [(0, .sl 0 n 0 n none), (1, .int .i64 (n : Int)), (2, ck1V), (6, .int .i64 20)], []⟩, sortH9 l A))
  (fun A => Blks (rK9 l) (iK9 l) n 20 0 A) ?_ ?_
 ·by_cases h : a < n
  ·have cc := ci A hF.len (hrg hF.perm) a n h (Nat.le_refl _) (hF.asc (Nat.le_refl _))
   rw [hF.len] at cc
   simp [go_sem]
   refine cc.at [0, 1] (by simp [go_sem]) ?_
   rintro _ _ ⟨B, hB, rfl⟩
   simp [go_sem, sortH9, lC9, ck1V]
   exact ⟨B, rfl, (hF.step hd (by rw [show min (a + 20) n = n by omega]; exact hB)).blks (by omega)⟩
  ·have cc := cn A a n (by omega) (by omega)
   rw [hF.len] at cc
   simp [go_sem]
   refine cc.at [0, 1] (by simp [go_sem]) ?_
   rintro _ _ rfl
   simp [go_sem, sortH9, lC9, ck1V]
   exact ⟨A, rfl, hF.blks (by omega)⟩
 clear hF hd hb hi A a
 intro A hA
 unfold sortH9 lC9 ck1V
 refine IWp.block ?_
 refine IWp.loopI (α := Nat × List Nat) (fun p => (⟨false, 63, 10, [13, 30, 35, 54], glT, [(0, .sl 0 n 0 n none), (1, .int .i64 (n : Int)), (2, ck1V), (6, .int .i64 (p.1 : Int))], []⟩, sortH9 l p.2))
  (fun p => 0 < p.1 ∧ Blks (rK9 l) (iK9 l) n p.1 0 p.2) (fun p => n - p.1) (20, A) ⟨by simp, hA⟩ (by simp [go_sem, sortH9, lC9, ck1V]) ?_
 rintro ⟨s, A⟩ ⟨hs, hA⟩
 simp only at hs hA
 unfold sortH9 lC9 ck1V
 refine IWp.seqI ?_
 by_cases h : s < n
 ·have h' : (s : Int) < n := by omega
  simp [go_sem, h, h']
  obtain ⟨D, hD⟩ : ∃ D, 2 * s = D := ⟨_, rfl⟩
  have v1 : IntKind.i64.wrap (2 * (s : Int)) = (D : Int) := by rw [wrap64 (by omega) (by omega)]; omega
  have v2 : IntKind.i64.wrap ((s : Int) * 2) = (D : Int) := by rw [wrap64 (by omega) (by omega)]; omega
  refine IWp.block ?_
  refine IWp.seqI ?_
  simp [go_sem, v1]
  refine IWp.seqT (α := Nat × List Nat) (fun p => (⟨false, 63, 10, [13, 30, 35, 54], glT, [(0, .sl 0 n 0 n none), (1, .int .i64 (n : Int)), (2, ck1V), (6, .int .i64 (s : Int)), (7, .int .i64 (p.1 : Int))], []⟩, sortH9 l p.2))
   (fun p => p.1 ≤ n ∧ n < p.1 + D ∧ D ∣ p.1 ∧ Blks (rK9 l) (iK9 l) n s p.1 p.2) ?_ ?_
  ·simp [go_sem]
   refine IWp.loopT (α := Nat × Nat × List Nat) (fun p => (⟨false, 63, 10, [13, 30, 35, 54], glT, [(0, .sl 0 n 0 n none), (1, .int .i64 (n : Int)), (2, ck1V), (6, .int .i64 (s : Int)), (7, .int .i64 (p.1 : Int)), (8, .int .i64 (p.2.1 : Int))], []⟩, sortH9 l p.2.2))
    (fun p => p.1 ≤ n ∧ p.2.1 = p.1 + D ∧ D ∣ p.1 ∧ Blks (rK9 l) (iK9 l) n s p.1 p.2.2) (fun p => n - p.1) (0, D, A) ⟨by simp, by simp, Nat.dvd_zero _, hA⟩ (by simp [go_sem, sortH9, lC9, ck1V]) ?_
   rintro ⟨a, b, A⟩ ⟨hi, hb, hd, hF⟩
   simp only at hi hb hd hF
   unfold sortH9 lC9 ck1V
   by_cases hbn : b ≤ n
   ·have hbn' : (b : Int) ≤ n := by omega
    have hsa : s ∣ a := Nat.dvd_trans ⟨2, by omega⟩ hd
    have hTw : Two (rK9 l) (iK9 l) A a (a + s) b := by
     have b1 := hF.todo a hsa (Nat.le_refl _)
     have b2 := hF.todo (a + s) (Nat.dvd_add hsa (Nat.dvd_refl s)) (by omega)
     rw [show min (a + s) n = a + s by omega] at b1
     rw [show min (a + s + s) n = b by omega] at b2
     exact b1.two b2
    have v3 : IntKind.i64.wrap ((a : Int) + s) = ((a + s : Nat) : Int) := by rw [wrap64 (by omega) (by omega)]; omega
    have v4 : IntKind.i64.wrap ((b : Int) + D) = ((b + D : Nat) : Int) := by rw [wrap64 (by omega) (by omega)]; omega
    have cc := cm A hF.len (hrg hF.perm) a (a + s) b (by omega) (by omega) hbn hTw
    rw [hF.len] at cc
    obtain ⟨M, hM⟩ : ∃ M, a + s = M := ⟨_, rfl⟩
    obtain ⟨c, hc⟩ : ∃ c, b + D = c := ⟨_, rfl⟩
    rw [hM] at v3 cc
    rw [hc] at v4
    simp [go_sem, hbn, hbn', v3]
    refine cc.at [0, 1] (by simp [go_sem]) ?_
    rintro _ _ ⟨B, hB, rfl⟩
    simp [go_sem, v1, v4]
    refine ⟨b, c, B, ⟨⟨rfl, rfl⟩, rfl⟩, ⟨hbn, hc.symm, by rw [hb]; exact Nat.dvd_add hd (Nat.dvd_refl D), ?_⟩, by omega⟩
    rw [hb, ← hD]
    rw [← hD] at hd
    exact hF.step hs hd (by omega) (by rw [show min (a + 2 * s) n = b by omega]; exact hB)
   ·have hbn' : ¬ (b : Int) ≤ n := by omega
    simp [go_sem, hbn, hbn', sortH9, lC9, ck1V]
    exact ⟨a, A, ⟨rfl, rfl⟩, hi, by omega, hd, hF⟩
  clear hA A
  rintro ⟨a, A⟩ ⟨hi, hb, hd, hF⟩
  simp only at hi hb hd hF
  have v3 : IntKind.i64.wrap ((a : Int) + s) = ((a + s : Nat) : Int) := by rw [wrap64 (by omega) (by omega)]; omega
  unfold sortH9 lC9 ck1V
  refine IWp.seqT (α := List Nat) (fun A => (⟨false, 63, 10, [13, 30, 35, 54], glT, [(0, .sl 0 n 0 n none), (1, .int .i64 (n : Int)), (2, ck1V), (6, .int .i64 (s : Int))], []⟩, sortH9 l A))
   (fun A => Blks (rK9 l) (iK9 l) n D 0 A) ?_ ?_
  ·rw [← hD] at hd
   by_cases hm : a + s < n
   ·have hsa : s ∣ a := Nat.dvd_trans ⟨2, by omega⟩ hd
    have hTw : Two (rK9 l) (iK9 l) A a (a + s) n := by
     have b1 := hF.todo a hsa (Nat.le_refl _)
     have b2 := hF.todo (a + s) (Nat.dvd_add hsa (Nat.dvd_refl s)) (by omega)
     rw [show min (a + s) n = a + s by omega] at b1
     rw [show min (a + s + s) n = n by omega] at b2
     exact b1.two b2
    have cc := cm A hF.len (hrg hF.perm) a (a + s) n (by omega) hm (Nat.le_refl _) hTw
    rw [hF.len] at cc
    obtain ⟨M, hM⟩ : ∃ M, a + s = M := ⟨_, rfl⟩
    rw [hM] at v3 cc
    have hm1 : M < n := by omega
    have hm2 : (M : Int) < n := by omega
    simp [go_sem, v3, hm1, hm2]
    refine cc.at [0, 1] (by simp [go_sem]) ?_
    rintro _ _ ⟨B, hB, rfl⟩
    simp [go_sem, sortH9, lC9, ck1V]
    refine ⟨B, rfl, ?_⟩
    rw [← hD]
    exact (hF.step hs hd (by omega) (by rw [show min (a + 2 * s) n = n by omega]; exact hB)).next hs (Nat.dvd_add hd (Nat.dvd_refl _)) (by omega)
   ·obtain ⟨M, hM⟩ : ∃ M, a + s = M := ⟨_, rfl⟩
    rw [hM] at v3
    have hm1 : ¬ M < n := by omega
    have hm2 : ¬ (M : Int) < n := by omega
    simp [go_sem, v3, hm1, hm2, sortH9, lC9, ck1V]
    refine ⟨A, rfl, ?_⟩
    rw [← hD]
    exact hF.next hs hd (by omega)
  clear v3 hF hd hb hi A a
  intro A hA
  unfold sortH9 lC9 ck1V
  refine IWp.now ?_
  simp [go_sem, v2]
  exact ⟨D, A, ⟨rfl, rfl⟩, ⟨by omega, hA⟩, by omega⟩
 ·have h' : ¬ (s : Int) < n := by omega
  simp [go_sem, h, h']
  exact hR _ _ ⟨_, by simp [go_sem], A, hord A hA.perm (hA.all (by omega)), rfl⟩
theorem sortStableM_calls (l : List Em) (hl : l.length ≤ 2 ^ 40) :
  ICalls Tryz.prog glT 38 [.sl 0 l.length 0 l.length none, ck1V] (sortH9 l (idL9 l.length))
   (fun _ σ => ∃ A, OrdOf9 l A ∧ σ = sortH9 l A) := by
 refine ICalls.forget (ICalls.of_bodyE false 4 [] Tryz.func38 rfl Tryz.call38 rfl fun R hR => ?_)
 have cc := stableCmpM_calls l hl
 unfold sortH9 lC9 ck1V at *
 simp [go_sem]
 refine cc.at [0, 1] (by simp [go_sem]) ?_
 rintro _ _ ⟨A, hA, rfl⟩
 simp [go_sem]
 exact hR _ _ ⟨_, by simp [go_sem], A, hA, rfl⟩
end Go.Idl
