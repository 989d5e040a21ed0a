import Derived.Test.YtamffdgopknkfaaGreatDoorC39zPartQ
set_option linter.all false
set_option maxHeartbeats 16000000
set_option maxRecDepth 40000
namespace Go.Idl
open Go.Proofs
theorem half649 {x : Int} (h : 0 ≤ x ∧ x < 2 ^ 63) : IntKind.i64.wrap ((IntKind.u64.wrap x).fdiv 2) = x / 2 := by
 rw [wrapu (by omega) (by omega), Int.fdiv_eq_ediv_of_nonneg _ (by decide), wrap64 (by omega) (by omega)]
theorem cmpM_at (l : List Em) (B : List Nat) (u v N : Nat) (hB : B.length = N) (hu : u < N) (hv : v < N) (hr : ∀ x ∈ B, x < l.length) (hl : l.length < 2 ^ 62) (hlt : B.getD v 0 < B.getD u 0) :
  ∃ C : Int, (C < 0 ↔ lx (rK9 l) (iK9 l) (B.getD u 0) (B.getD v 0)) ∧ ∀ h : Heap, h[1]? = some (lC9 l) → readsOnly Tryz.prog glT 39 [.int .i64 ((B.getD u 0 : Nat) : Int), .int .i64 ((B.getD v 0 : Nat) : Int), .ptr 1 1 0 0] h (.int .i64 C) := by
 have hg : ∀ x, x < N → B.getD x 0 < l.length := fun x hx => hr _ (by rw [show B.getD x 0 = B[x]'(by omega) by simp [show x < B.length by omega]]; exact List.getElem_mem _)
 exact ⟨_, cmpM9_lx hlt, fun h hb => ck1_at l (B.getD u 0) (B.getD v 0) (hg u hu) (hg v hv) hl h hb⟩
theorem symMergeM_calls (l : List Em) (hl : l.length < 2 ^ 62) : ∀ (k : Nat) (A : List Nat) (a m b : Nat), b - a ≤ k → a < m → m < b → b ≤ A.length → A.length < 2 ^ 60 → (∀ x ∈ A, x < l.length) → Two (rK9 l) (iK9 l) A a m b →
  ICalls Tryz.prog glT 82 [.sl 0 A.length 0 A.length none, .int .i64 (a : Int), .int .i64 (m : Int), .int .i64 (b : Int), ck1V] (sortH9 l A)
   (fun _ σ => ∃ B, SegS (rK9 l) (iK9 l) A a b B ∧ σ = sortH9 l B)
 | 0, A, a, m, b, hk, h1, h2, _, _, _, _ => by omega
 | k + 1, A, a, m, b, hk, ham, hmb, hbA, hA, hr, hT => by
  refine ICalls.forget (ICalls.of_bodyV false 25 [28, 33, 50, 58, 80, 85, 103, 110, 140, 151, 171, 185, 199, 213] Tryz.func82 rfl Tryz.call82 rfl fun R hR => ?_)
  have ih := symMergeM_calls l hl k
  have cr := fun (B : List Nat) (hB : B.length = A.length) (s e : Nat) h1 h2 h3 => rotateM_calls l B s m e h1 h2 h3 (by rw [hB]; omega)
  have cp := fun u v N => cmpM_at l A u v N
  obtain ⟨N, hN⟩ : ∃ N, A.length = N := ⟨_, rfl⟩
  rw [hN] at hbA hA cr ⊢
  have v1 : IntKind.i64.wrap ((m : Int) - a) = ((m - a : Nat) : Int) := by rw [wrap64 (by omega) (by omega)]; omega
  have v2 : IntKind.i64.wrap ((b : Int) - m) = ((b - m : Nat) : Int) := by rw [wrap64 (by omega) (by omega)]; omega
  unfold sortH9 lC9 ck1V at *
  refine IWp.seqI ?_
  by_cases c1 : m = a + 1
  ·subst c1
   have g1 : (a + 1 - a : Nat) = 1 := by omega
   have w0 : IntKind.i64.wrap (((a + 1 : Nat) : Int) - a) = 1 := by rw [v1, g1]; rfl
   have hone := fun i B h1 h2 h3 h4 => hT.one1 (i := i) (B := B) h1 h2 h3 h4
   have hrot := fun B k (h : Rot A a (a + 1) (k + 1) B) => h.up
   obtain ⟨M, hM⟩ : ∃ M, a + 1 = M := ⟨_, rfl⟩
   rw [hM] at w0 hmb hT hone hrot
   have hmono := hT.mono1
   simp [go_sem, hM, w0]
   refine IWp.loopT (α := Nat × Nat) (fun p => (⟨false, 220, 25, [28, 33, 50, 58, 80, 85, 103, 110, 140, 151, 171, 185, 199, 213], glT, [(0, .sl 0 N 0 N none), (1, .int .i64 (a : Int)), (4, ck1V), (10, .int .i64 (p.1 : Int)), (11, .int .i64 (p.2 : Int))], []⟩, sortH9 l A))
    (fun p => Src (fun y => lx (rK9 l) (iK9 l) (A.getD y 0) (A.getD a 0)) M b p.1 p.2) (fun p => p.2 - p.1) (M, b) (.start (by omega)) (by simp [go_sem, sortH9, lC9, ck1V]) ?_
   rintro ⟨i, j⟩ hS
   simp only at hS
   obtain ⟨hi, hij, hj⟩ := hS.b
   unfold sortH9 lC9 ck1V
   by_cases h : i < j
   ·have h' : (i : Int) < j := by omega
    obtain ⟨H, hH⟩ : ∃ H, (i + j) / 2 = H := ⟨_, rfl⟩
    have v3 : IntKind.i64.wrap ((i : Int) + j) = ((i + j : Nat) : Int) := by rw [wrap64 (by omega) (by omega)]; omega
    have v4 : IntKind.i64.wrap ((IntKind.u64.wrap ((i : Int) + j)).fdiv 2) = (H : Int) := by rw [half649 (by omega)]; omega
    have v5 : IntKind.i64.wrap ((H : Int) + 1) = ((H + 1 : Nat) : Int) := by rw [wrap64 (by omega) (by omega)]; omega
    have hHb : H < N := by omega
    have haN : a < N := by omega
    obtain ⟨C, hC, cc⟩ := cp H a N hN hHb haN hr hl (hT.lt a H (by omega) (by omega) (by omega) (by omega))
    have e1 := nts_at (l := A) (i := H) (by omega)
    have e2 := nts_at (l := A) (i := a) (by omega)
    have q1 : A[H]'(by omega) = A.getD H 0 := by simp [show H < A.length by omega]
    have q2 : A[a]'(by omega) = A.getD a 0 := by simp [show a < A.length by omega]
    have hup : lx (rK9 l) (iK9 l) (A.getD H 0) (A.getD a 0) → _ := hS.up hmono (H := H) (by omega)
    have hdn : ¬ lx (rK9 l) (iK9 l) (A.getD H 0) (A.getD a 0) → _ := hS.down hmono (H := H) (by omega)
    rw [← hC] at hup hdn
    generalize hP : (fun y => lx (rK9 l) (iK9 l) (A.getD y 0) (A.getD a 0)) = P at *
    generalize A.getD H 0 = X at *
    generalize A.getD a 0 = Y at *
    simp [go_sem, h, h', v3, v4]
    refine Drawn.intro (fun k => if k = 9 then .tup [.junk, .junk, .int .i64 C] else .tup []) ?_
    simp [go_sem, hN, hHb, haN, e1, e2, q1, q2]
    refine ⟨cc _ rfl, by decide +kernel, ?_⟩
    by_cases hc : C < 0
    ·simp [go_sem, hc, v5]
     exact ⟨H + 1, j, ⟨rfl, rfl⟩, hup hc, by omega⟩
    ·simp [go_sem, hc]
     exact ⟨i, H, ⟨rfl, rfl⟩, hdn hc, by omega⟩
   ·obtain rfl : i = j := by omega
    have v3 : IntKind.i64.wrap ((i : Int) - 1) = ((i - 1 : Nat) : Int) := by rw [wrap64 (by omega) (by omega)]; omega
    simp [go_sem]
    refine IWp.loopT (α := Nat × List Nat) (fun p => (⟨false, 220, 25, [28, 33, 50, 58, 80, 85, 103, 110, 140, 151, 171, 185, 199, 213], glT, [(0, .sl 0 N 0 N none), (10, .int .i64 (i : Int)), (13, .int .i64 (p.1 : Int))], []⟩, sortH9 l p.2))
     (fun p => a ≤ p.1 ∧ p.1 + 1 ≤ i ∧ p.2.length = N ∧ Rot A a M (p.1 + 1) p.2) (fun p => i - p.1) (a, A) ⟨Nat.le_refl _, by simp; omega, hN, by simp only; rw [hM]; exact Rot.left⟩ (by simp [go_sem, sortH9, lC9, ck1V]) ?_
    rintro ⟨k, B⟩ ⟨hk1, hk2, hB, hRt⟩
    simp only at hk1 hk2 hB hRt
    unfold sortH9 lC9
    by_cases h2 : k + 1 < i
    ·have h3 : k < i - 1 := by omega
     have h3' : (k : Int) < ((i - 1 : Nat) : Int) := by omega
     have v5 : IntKind.i64.wrap ((k : Int) + 1) = ((k + 1 : Nat) : Int) := by rw [wrap64 (by omega) (by omega)]; omega
     have a1 : k < N := by omega
     have a2 : k + 1 < N := by omega
     have e1 := nts_at (l := B) (i := k) (by omega)
     have e2 := nts_at (l := B) (i := k + 1) (by omega)
     have hnx := hrot B k hRt hk1 (by omega)
     have hsw := nts_swap29 (B := B) (i := k) (j := k + 1)
     have hne : k ≠ k + 1 := by omega
     obtain ⟨J, hJ⟩ : ∃ J, k + 1 = J := ⟨_, rfl⟩
     rw [hJ] at v5 a2 e2 hsw hne hnx
     have q1 : B[k]'(by omega) = B.getD k 0 := by simp [show k < B.length by omega]
     have q2 : B[J]'(by omega) = B.getD J 0 := by simp [show J < B.length by omega]
     have hSl : (swap2 B k J).length = N := by simp [hB]
     generalize B.getD k 0 = X at *
     generalize B.getD J 0 = Y at *
     generalize swap2 B k J = Sw at *
     simp [go_sem, v3, h3, h3', hB, a1, a2, e1, e2, v5, q1, q2]
     refine ⟨by decide +kernel, J, Sw, ⟨rfl, ?_⟩, ⟨by omega, by omega, hSl, by rw [show J + 1 = k + 2 by omega]; exact hnx⟩, by omega⟩
     rw [hsw, List.getElem_set_ne hne, nts_getElem]
     rfl
    ·obtain rfl : k = i - 1 := by omega
     rw [show i - 1 + 1 = i by omega] at hRt
     simp [go_sem, v3]
     exact hR _ _ ⟨_, by simp [go_sem], B, hone i B ⟨hi, hj⟩ (fun y y1 y2 => hS.t y y1 y2) (fun y y1 y2 => hS.f y y1 y2) hRt, rfl⟩
  have c1' : ¬ m - a = 1 := by omega
  have c1'' : ¬ ((m - a : Nat) : Int) = 1 := by omega
  simp [go_sem, v1, c1', c1'']
  refine IWp.seqI ?_
  by_cases c2 : b = m + 1
  ·subst c2
   have g1 : (m + 1 - m : Nat) = 1 := by omega
   have w0 : IntKind.i64.wrap (((m + 1 : Nat) : Int) - m) = 1 := by rw [v2, g1]; rfl
   have hmono := hT.mono2 hmb
   have hone := fun i B h1 h2 h3 h4 => hT.one2 (i := i) (B := B) h1 h2 h3 h4
   have hrot := fun B k (h : Rot A k m (m + 1) B) => h.down
   obtain ⟨M, hM⟩ : ∃ M, m + 1 = M := ⟨_, rfl⟩
   rw [hM] at w0 hT hone hbA hrot
   simp [go_sem, hM, w0]
   refine IWp.loopT (α := Nat × Nat) (fun p => (⟨false, 220, 25, [28, 33, 50, 58, 80, 85, 103, 110, 140, 151, 171, 185, 199, 213], glT, [(0, .sl 0 N 0 N none), (2, .int .i64 (m : Int)), (4, ck1V), (14, .int .i64 (p.1 : Int)), (15, .int .i64 (p.2 : Int))], []⟩, sortH9 l A))
    (fun p => Src (fun y => ¬ lx (rK9 l) (iK9 l) (A.getD m 0) (A.getD y 0)) a m p.1 p.2) (fun p => p.2 - p.1) (a, m) (.start (by omega)) (by simp [go_sem, sortH9, lC9, ck1V]) ?_
   rintro ⟨i, j⟩ hS
   simp only at hS
   obtain ⟨hi, hij, hj⟩ := hS.b
   unfold sortH9 lC9 ck1V
   by_cases h : i < j
   ·have h' : (i : Int) < j := by omega
    obtain ⟨H, hH⟩ : ∃ H, (i + j) / 2 = H := ⟨_, rfl⟩
    have v3 : IntKind.i64.wrap ((i : Int) + j) = ((i + j : Nat) : Int) := by rw [wrap64 (by omega) (by omega)]; omega
    have v4 : IntKind.i64.wrap ((IntKind.u64.wrap ((i : Int) + j)).fdiv 2) = (H : Int) := by rw [half649 (by omega)]; omega
    have v5 : IntKind.i64.wrap ((H : Int) + 1) = ((H + 1 : Nat) : Int) := by rw [wrap64 (by omega) (by omega)]; omega
    have hHb : H < N := by omega
    have haN : m < N := by omega
    obtain ⟨C, hC, cc⟩ := cp m H N hN haN hHb hr hl (hT.lt H m (by omega) (by omega) (by omega) (by omega))
    have e1 := nts_at (l := A) (i := H) (by omega)
    have e2 := nts_at (l := A) (i := m) (by omega)
    have q1 : A[H]'(by omega) = A.getD H 0 := by simp [show H < A.length by omega]
    have q2 : A[m]'(by omega) = A.getD m 0 := by simp [show m < A.length by omega]
    have hup : ¬ lx (rK9 l) (iK9 l) (A.getD m 0) (A.getD H 0) → _ := hS.up hmono (H := H) (by omega)
    have hdn : ¬ ¬ lx (rK9 l) (iK9 l) (A.getD m 0) (A.getD H 0) → _ := hS.down hmono (H := H) (by omega)
    rw [← hC] at hup hdn
    generalize hP : (fun y => ¬ lx (rK9 l) (iK9 l) (A.getD m 0) (A.getD y 0)) = P at *
    generalize A.getD H 0 = X at *
    generalize A.getD m 0 = Y at *
    simp [go_sem, h, h', v3, v4]
    refine Drawn.intro (fun k => if k = 9 then .tup [.junk, .junk, .int .i64 C] else .tup []) ?_
    simp [go_sem, hN, hHb, haN, e1, e2, q1, q2]
    refine ⟨cc _ rfl, by decide +kernel, ?_⟩
    by_cases hc : C < 0
    ·have hc2 : ¬ 0 ≤ C := by omega
     simp [go_sem, hc, hc2]
     exact ⟨i, H, ⟨rfl, rfl⟩, hdn (fun hh => hh hc), by omega⟩
    ·have hc2 : 0 ≤ C := by omega
     simp [go_sem, hc, hc2, v5]
     exact ⟨H + 1, j, ⟨rfl, rfl⟩, hup hc, by omega⟩
   ·obtain rfl : i = j := by omega
    simp [go_sem]
    refine IWp.loopT (α := Nat × List Nat) (fun p => (⟨false, 220, 25, [28, 33, 50, 58, 80, 85, 103, 110, 140, 151, 171, 185, 199, 213], glT, [(0, .sl 0 N 0 N none), (14, .int .i64 (i : Int)), (17, .int .i64 (p.1 : Int))], []⟩, sortH9 l p.2))
     (fun p => i ≤ p.1 ∧ p.1 ≤ m ∧ p.2.length = N ∧ Rot A p.1 m M p.2) (fun p => p.1) (m, A) ⟨by simp; omega, by simp, hN, .right⟩ (by simp [go_sem, sortH9, lC9, ck1V]) ?_
    rintro ⟨k, B⟩ ⟨hk1, hk2, hB, hRt⟩
    simp only at hk1 hk2 hB hRt
    unfold sortH9 lC9
    by_cases h2 : i < k
    ·have h2' : (i : Int) < k := by omega
     have v5 : IntKind.i64.wrap ((k : Int) - 1) = ((k - 1 : Nat) : Int) := by rw [wrap64 (by omega) (by omega)]; omega
     have a1 : k < N := by omega
     have a2 : k - 1 < N := by omega
     have e1 := nts_at (l := B) (i := k) (by omega)
     have e2 := nts_at (l := B) (i := k - 1) (by omega)
     have hnx := hrot B k hRt (by omega) hk2 (by omega)
     have hsw := nts_swap29 (B := B) (i := k) (j := k - 1)
     have hne : k ≠ k - 1 := by omega
     obtain ⟨J, hJ⟩ : ∃ J, k - 1 = J := ⟨_, rfl⟩
     rw [hJ] at v5 a2 e2 hsw hne hnx
     have q1 : B[k]'(by omega) = B.getD k 0 := by simp [show k < B.length by omega]
     have q2 : B[J]'(by omega) = B.getD J 0 := by simp [show J < B.length by omega]
     have hSl : (swap2 B k J).length = N := by simp [hB]
     generalize B.getD k 0 = X at *
     generalize B.getD J 0 = Y at *
     generalize swap2 B k J = Sw at *
     simp [go_sem, h2, h2', hB, a1, a2, e1, e2, v5, q1, q2]
     refine ⟨by decide +kernel, J, Sw, ⟨rfl, ?_⟩, ⟨by omega, by omega, hSl, hnx⟩, by omega⟩
     rw [hsw, List.getElem_set_ne hne, nts_getElem]
     rfl
    ·obtain rfl : k = i := by omega
     simp [go_sem]
     exact hR _ _ ⟨_, by simp [go_sem], B, by rw [hM]; exact hone k B ⟨hi, hj⟩ (fun y y1 y2 => hS.t y y1 y2) (fun y y1 y2 => Classical.not_not.1 (hS.f y y1 y2)) hRt, rfl⟩
  have c2' : ¬ b - m = 1 := by omega
  have c2'' : ¬ ((b - m : Nat) : Int) = 1 := by omega
  simp [go_sem, v2, c2', c2'']
  obtain ⟨mid, hmid⟩ : ∃ mid, (a + b) / 2 = mid := ⟨_, rfl⟩
  obtain ⟨n, hn⟩ : ∃ n, mid + m = n := ⟨_, rfl⟩
  have u1 : IntKind.i64.wrap ((a : Int) + b) = ((a + b : Nat) : Int) := by rw [wrap64 (by omega) (by omega)]; omega
  have u2 : IntKind.i64.wrap ((IntKind.u64.wrap ((a : Int) + b)).fdiv 2) = (mid : Int) := by rw [half649 (by omega)]; omega
  have u3 : IntKind.i64.wrap ((mid : Int) + m) = (n : Int) := by rw [wrap64 (by omega) (by omega)]; omega
  refine IWp.seqI ?_
  simp [go_sem, u1, u2]
  refine IWp.seqI ?_
  simp [go_sem, u3]
  refine IWp.seqI ?_
  simp [go_sem]
  refine IWp.seqT (α := Nat × Nat) (fun p => (⟨false, 220, 25, [28, 33, 50, 58, 80, 85, 103, 110, 140, 151, 171, 185, 199, 213], glT, [(0, .sl 0 N 0 N none), (1, .int .i64 (a : Int)), (2, .int .i64 (m : Int)), (3, .int .i64 (b : Int)), (4, ck1V), (18, .int .i64 (mid : Int)), (19, .int .i64 (n : Int)), (20, .int .i64 (p.1 : Int)), (21, .int .i64 (p.2 : Int))], []⟩, sortH9 l A))
   (fun p => m > mid ∧ p.1 = n - b ∧ p.2 = mid ∨ m ≤ mid ∧ p.1 = a ∧ p.2 = m) ?_ ?_
  ·by_cases c3 : mid < m
   ·have c3' : (mid : Int) < m := by omega
    have u4 : IntKind.i64.wrap ((n : Int) - b) = ((n - b : Nat) : Int) := by rw [wrap64 (by omega) (by omega)]; omega
    simp [go_sem, c3, c3', u4, sortH9, lC9, ck1V]
    refine ⟨n - b, mid, ⟨rfl, rfl⟩, ?_⟩
    omega
   ·have c3' : ¬ (mid : Int) < m := by omega
    simp [go_sem, c3, c3', sortH9, lC9, ck1V]
    refine ⟨a, m, ⟨rfl, rfl⟩, ?_⟩
    omega
  rintro ⟨s0, r0⟩ hsr
  simp only at hsr
  have u4 : IntKind.i64.wrap ((n : Int) - 1) = ((n - 1 : Nat) : Int) := by rw [wrap64 (by omega) (by omega)]; omega
  obtain ⟨p, hp⟩ : ∃ p, n - 1 = p := ⟨_, rfl⟩
  rw [hp] at u4
  have ok : ∀ c, s0 ≤ c → c < r0 → a ≤ c ∧ c < m ∧ m ≤ p - c ∧ p - c < b := fun c d1 d2 => by omega
  have hmono := hT.mono3 (n := n) (s0 := s0) (r0 := r0) (by rw [hp]; exact ok)
  rw [hp] at hmono
  unfold sortH9 lC9 ck1V
  refine IWp.seqI ?_
  simp [go_sem, u4]
  refine IWp.seqT (α := Nat) (fun s => (⟨false, 220, 25, [28, 33, 50, 58, 80, 85, 103, 110, 140, 151, 171, 185, 199, 213], glT, [(0, .sl 0 N 0 N none), (1, .int .i64 (a : Int)), (2, .int .i64 (m : Int)), (3, .int .i64 (b : Int)), (4, ck1V), (18, .int .i64 (mid : Int)), (19, .int .i64 (n : Int)), (20, .int .i64 (s : Int))], []⟩, sortH9 l A))
   (fun s => Src (fun c => ¬ lx (rK9 l) (iK9 l) (A.getD (p - c) 0) (A.getD c 0)) s0 r0 s s) ?_ ?_
  ·simp [go_sem]
   refine IWp.loopT (α := Nat × Nat) (fun q => (⟨false, 220, 25, [28, 33, 50, 58, 80, 85, 103, 110, 140, 151, 171, 185, 199, 213], glT, [(0, .sl 0 N 0 N none), (1, .int .i64 (a : Int)), (2, .int .i64 (m : Int)), (3, .int .i64 (b : Int)), (4, ck1V), (18, .int .i64 (mid : Int)), (19, .int .i64 (n : Int)), (20, .int .i64 (q.1 : Int)), (21, .int .i64 (q.2 : Int)), (22, .int .i64 (p : Int))], []⟩, sortH9 l A))
    (fun q => Src (fun c => ¬ lx (rK9 l) (iK9 l) (A.getD (p - c) 0) (A.getD c 0)) s0 r0 q.1 q.2) (fun q => q.2 - q.1) (s0, r0) (.start (by omega)) (by simp [go_sem, sortH9, lC9, ck1V]) ?_
   rintro ⟨i, j⟩ hS
   simp only at hS
   obtain ⟨hi, hij, hj⟩ := hS.b
   unfold sortH9 lC9 ck1V
   by_cases h : i < j
   ·have h' : (i : Int) < j := by omega
    obtain ⟨H, hH⟩ : ∃ H, (i + j) / 2 = H := ⟨_, rfl⟩
    obtain ⟨o1, o2, o3, o4⟩ := ok H (by omega) (by omega)
    have v3 : IntKind.i64.wrap ((i : Int) + j) = ((i + j : Nat) : Int) := by rw [wrap64 (by omega) (by omega)]; omega
    have v4 : IntKind.i64.wrap ((IntKind.u64.wrap ((i : Int) + j)).fdiv 2) = (H : Int) := by rw [half649 (by omega)]; omega
    have v5 : IntKind.i64.wrap ((H : Int) + 1) = ((H + 1 : Nat) : Int) := by rw [wrap64 (by omega) (by omega)]; omega
    have v6 : IntKind.i64.wrap ((p : Int) - H) = ((p - H : Nat) : Int) := by rw [wrap64 (by omega) (by omega)]; omega
    have hup : ¬ lx (rK9 l) (iK9 l) (A.getD (p - H) 0) (A.getD H 0) → _ := hS.up hmono (H := H) (by omega)
    have hdn : ¬ ¬ lx (rK9 l) (iK9 l) (A.getD (p - H) 0) (A.getD H 0) → _ := hS.down hmono (H := H) (by omega)
    obtain ⟨G, hG⟩ : ∃ G, p - H = G := ⟨_, rfl⟩
    rw [hG] at o3 o4 v6 hup hdn
    have hHb : H < N := by omega
    have hGN : G < N := by omega
    obtain ⟨C, hC, cc⟩ := cp G H N hN hGN hHb hr hl (hT.lt H G (by omega) (by omega) (by omega) (by omega))
    have e1 := nts_at (l := A) (i := H) (by omega)
    have e2 := nts_at (l := A) (i := G) (by omega)
    have q1 : A[H]'(by omega) = A.getD H 0 := by simp [show H < A.length by omega]
    have q2 : A[G]'(by omega) = A.getD G 0 := by simp [show G < A.length by omega]
    rw [← hC] at hup hdn
    generalize hP : (fun c => ¬ lx (rK9 l) (iK9 l) (A.getD (p - c) 0) (A.getD c 0)) = P at *
    generalize A.getD H 0 = X at *
    generalize A.getD G 0 = Y at *
    simp [go_sem, h, h', v3, v4]
    refine Drawn.intro (fun k => if k = 11 then .tup [.junk, .junk, .int .i64 C] else .tup []) ?_
    simp [go_sem, hN, hHb, hGN, e1, e2, q1, q2, v6]
    refine ⟨cc _ rfl, by decide +kernel, ?_⟩
    by_cases hc : C < 0
    ·have hc2 : ¬ 0 ≤ C := by omega
     simp [go_sem, hc, hc2]
     exact ⟨i, H, ⟨rfl, rfl⟩, hdn (fun hh => hh hc), by omega⟩
    ·have hc2 : 0 ≤ C := by omega
     simp [go_sem, hc, hc2, v5]
     exact ⟨H + 1, j, ⟨rfl, rfl⟩, hup hc, by omega⟩
   ·obtain rfl : i = j := by omega
    simp [go_sem, sortH9, lC9, ck1V]
    exact ⟨i, rfl, hS⟩
  intro s hS
  obtain ⟨hs1, _, hs2⟩ := hS.b
  have hst := hS.t
  have hsf : ∀ y, s ≤ y → y < r0 → lx (rK9 l) (iK9 l) (A.getD (p - y) 0) (A.getD y 0) := fun y y1 y2 => Classical.not_not.1 (hS.f y y1 y2)
  clear hS
  obtain ⟨e, he⟩ : ∃ e, n - s = e := ⟨_, rfl⟩
  have hcut := fun B (hB : Rot A s m e B) => hT.cut (n := n) (mid := mid) (s := s) (s0 := s0) (r0 := r0) (B := B) ham hmb hmid.symm hn.symm hsr ⟨hs1, hs2⟩ (fun c d1 d2 => by rw [hp]; exact hst c d1 d2) (fun c d1 d2 => by rw [hp]; exact hsf c d1 d2) (by rw [he]; exact hB)
  rw [he] at hcut
  have u5 : IntKind.i64.wrap ((n : Int) - s) = (e : Int) := by rw [wrap64 (by omega) (by omega)]; omega
  have hsm : s ≤ m := by omega
  have hme : m ≤ e := by omega
  have heb : e ≤ b := by omega
  have has : a ≤ s := by omega
  have hsd : s ≤ mid := by omega
  have hde : mid ≤ e := by omega
  clear hst hsf hmono ok hsr
  unfold sortH9 lC9 ck1V
  refine IWp.seqI ?_
  simp [go_sem, u5]
  refine IWp.seqT (α := List Nat) (fun B => (⟨false, 220, 25, [28, 33, 50, 58, 80, 85, 103, 110, 140, 151, 171, 185, 199, 213], glT, [(0, .sl 0 N 0 N none), (1, .int .i64 (a : Int)), (3, .int .i64 (b : Int)), (4, ck1V), (18, .int .i64 (mid : Int)), (20, .int .i64 (s : Int)), (24, .int .i64 (e : Int))], []⟩, sortH9 l B))
   (fun B => Rot A s m e B) ?_ ?_
  ·by_cases d1 : s < m
   ·have d1' : (s : Int) < m := by omega
    by_cases d2 : m < e
    ·have d2' : (m : Int) < e := by omega
     have cc := cr A hN s e d1 d2 (by omega)
     rw [hN] at cc
     simp [go_sem, d1, d1', d2, d2']
     refine cc.at [0, 1] (by simp [go_sem]) ?_
     rintro _ _ ⟨B, hB, rfl⟩
     simp [go_sem, sortH9, lC9, ck1V]
     exact ⟨B, rfl, hB⟩
    ·have d2' : ¬ (m : Int) < e := by omega
     simp [go_sem, d1, d1', d2, d2', sortH9, lC9, ck1V]
     obtain rfl : m = e := by omega
     exact ⟨A, rfl, .left⟩
   ·have d1' : ¬ (s : Int) < m := by omega
    simp [go_sem, d1, d1', sortH9, lC9, ck1V]
    obtain rfl : s = m := by omega
    exact ⟨A, rfl, .right⟩
  intro B hB
  obtain ⟨t1, t2, t3⟩ := hcut B hB
  have hBN : B.length = N := by rw [hB.len, hN]
  have hBr : ∀ x ∈ B, x < l.length := fun x hx => hr x (hB.perm.mem_iff.1 hx)
  unfold sortH9 lC9 ck1V
  refine IWp.seqT (α := List Nat) (fun C => (⟨false, 220, 25, [28, 33, 50, 58, 80, 85, 103, 110, 140, 151, 171, 185, 199, 213], glT, [(0, .sl 0 N 0 N none), (3, .int .i64 (b : Int)), (4, ck1V), (18, .int .i64 (mid : Int)), (24, .int .i64 (e : Int))], []⟩, sortH9 l C))
   (fun C => SegS (rK9 l) (iK9 l) B a mid C) ?_ ?_
  ·by_cases d1 : a < s
   ·have d1' : (a : Int) < s := by omega
    by_cases d2 : s < mid
    ·have d2' : (s : Int) < mid := by omega
     have cc := ih B a s mid (by omega) d1 d2 (by omega) (by omega) hBr t1
     rw [hBN] at cc
     simp [go_sem, d1, d1', d2, d2']
     refine cc.at [0, 1] (by simp [go_sem]) ?_
     rintro _ _ ⟨C, hC, rfl⟩
     simp [go_sem, sortH9, lC9, ck1V]
     exact ⟨C, rfl, hC⟩
    ·have d2' : ¬ (s : Int) < mid := by omega
     simp [go_sem, d1, d1', d2, d2', sortH9, lC9, ck1V]
     exact ⟨B, rfl, t1.none (.inr (by omega))⟩
   ·have d1' : ¬ (a : Int) < s := by omega
    simp [go_sem, d1, d1', sortH9, lC9, ck1V]
    exact ⟨B, rfl, t1.none (.inl (by omega))⟩
  intro C hC
  have t2' : Two (rK9 l) (iK9 l) C mid e b := t2.keep hde heb fun x x1 x2 => hC.out x (by omega)
  have hCN : C.length = N := by rw [hC.len, hBN]
  have hCr : ∀ x ∈ C, x < l.length := fun x hx => hBr x (hC.perm.mem_iff.1 hx)
  unfold sortH9 lC9 ck1V
  refine IWp.now ?_
  by_cases d1 : mid < e
  ·have d1' : (mid : Int) < e := by omega
   by_cases d2 : e < b
   ·have d2' : (e : Int) < b := by omega
    have cc := ih C mid e b (by omega) d1 d2 (by omega) (by omega) hCr t2'
    rw [hCN] at cc
    simp [go_sem, d1, d1', d2, d2']
    refine cc.at [0, 1] (by simp [go_sem]) ?_
    rintro _ _ ⟨D, hD, rfl⟩
    simp [go_sem]
    exact hR _ _ ⟨_, by simp [go_sem], D, t3 C D hC hD, rfl⟩
   ·have d2' : ¬ (e : Int) < b := by omega
    simp [go_sem, d1, d1', d2, d2']
    exact hR _ _ ⟨_, by simp [go_sem], C, t3 C C hC (t2'.none (.inr (by omega))), rfl⟩
  ·have d1' : ¬ (mid : Int) < e := by omega
   simp [go_sem, d1, d1']
   exact hR _ _ ⟨_, by simp [go_sem], C, t3 C C hC (t2'.none (.inl (by omega))), rfl⟩
end Go.Idl
