import Derived.Test.YteedopeniojppaaGreatDoorCtopePartK
set_option linter.all false
set_option maxHeartbeats 16000000
set_option maxRecDepth 40000
namespace Go.Idl.K38
open Go.Proofs
def rK (l : List Rs) (a : Nat) : Int := ((l[a]?).map Rs.r).getD 0
def iK (l : List Rs) (a : Nat) : Int := ((l[a]?).map Rs.i).getD 0
theorem rK_get {l : List Rs} {a : Nat} (h : a < l.length) : rK l a = l[a].r := by simp [rK, h]
theorem iK_get {l : List Rs} {a : Nat} (h : a < l.length) : iK l a = l[a].i := by simp [iK, h]
def cmpN (l : List Rs) (a b : Nat) : Int := cmpM (rK l a) (iK l a) (rK l b) (iK l b)
def play1V : IV := .func (.func 57) [] [.ptr 1 1 0 0, .ptr 2 1 0 0]
def sortH (l : List Rs) (A : List Nat) : Heap := [.rows 1 (nts A), cmpC, lC l]
theorem play1_at (l : List Rs) (i j : Nat) (hi : i < l.length) (hj : j < l.length) (hl : l.length < 2 ^ 62) (h : Heap) (hb : h[1]? = some cmpC) (hc : h[2]? = some (lC l)) :
  readsOnly Tryz.prog glT 57 [.int .i64 (i : Int), .int .i64 (j : Int), .ptr 1 1 0 0, .ptr 2 1 0 0] h (.int .i64 (cmpN l i j)) := by
 have := play1_ro l i j hi hj hl 1 2 h hb hc
 rw [← rK_get hi, ← rK_get hj, ← iK_get hi, ← iK_get hj] at this
 exact this
theorem insert_calls (l : List Rs) (A0 : List Nat) (lo hi : Nat) (h1 : lo < hi) (h2 : hi ≤ A0.length) (hr : ∀ x ∈ A0, x < l.length) (hl : l.length < 2 ^ 62) (hA : A0.length < 2 ^ 62) (ha : AscN A0 lo hi) :
  ICalls Tryz.prog glT 82 [.sl 0 A0.length 0 A0.length none, .int .i64 (lo : Int), .int .i64 (hi : Int), play1V] (sortH l A0)
   (fun _ σ => ∃ A, SegS (rK l) (iK l) A0 lo hi A ∧ σ = sortH l A) := by
 refine ICalls.forget (ICalls.of_bodyE false 10 [14, 34] Tryz.func82 rfl Tryz.call82 rfl fun R hR => ?_)
 have v0 : IntKind.i64.wrap ((lo : Int) + 1) = ((lo + 1 : Nat) : Int) := by rw [wrap64 (by omega) (by omega)]; omega
 obtain ⟨n, hn⟩ : ∃ n, A0.length = n := ⟨_, rfl⟩
 rw [hn] at h2 hA ⊢
 unfold sortH cmpC lC play1V at *
 simp [go_sem, v0]
 refine IWp.loopT (α := Nat × List Nat) (fun p => (⟨false, 53, 10, [14, 34], glT, [(0, .sl 0 n 0 n none), (1, .int .i64 (lo : Int)), (2, .int .i64 (hi : Int)), (3, play1V), (8, .int .i64 (p.1 : Int))], []⟩, sortH l p.2))
  (fun p => lo + 1 ≤ p.1 ∧ p.1 ≤ hi ∧ SegS (rK l) (iK l) A0 lo p.1 p.2) (fun p => hi - p.1) (lo + 1, A0) ⟨by simp, by simp; omega, .one⟩ (by simp [go_sem, sortH, cmpC, lC, play1V]) ?_
 rintro ⟨i, A⟩ ⟨hi1, hi2, hS⟩
 simp only at hi1 hi2 hS
 by_cases h : i < hi
 ·have hI := hS.ins ha (by omega) h
  have v1 : IntKind.i64.wrap ((i : Int) + 1) = ((i + 1 : Nat) : Int) := by rw [wrap64 (by omega) (by omega)]; omega
  unfold sortH cmpC lC play1V
  simp [go_sem, h]
  refine IWp.loopI (α := Nat × List Nat) (fun p => (⟨false, 53, 10, [14, 34], glT, [(0, .sl 0 n 0 n none), (1, .int .i64 (lo : Int)), (2, .int .i64 (hi : Int)), (3, play1V), (8, .int .i64 (i : Int)), (9, .int .i64 (p.1 : Int))], []⟩, sortH l p.2))
   (fun p => lo ≤ p.1 ∧ p.1 ≤ i ∧ InsN (rK l) (iK l) A0 lo i p.1 p.2) (fun p => p.1) (i, A) ⟨by simp; omega, by simp, hI⟩ (by simp [go_sem, sortH, cmpC, lC, play1V]) ?_
  rintro ⟨j, B⟩ ⟨hj1, hj2, hJ⟩
  simp only at hj1 hj2 hJ
  have hB : B.length = n := by rw [hJ.len, hn]
  have hBr : ∀ x, x < n → B.getD x 0 < l.length := fun x hx => hr _ (hJ.perm.mem_iff.1 (by rw [show B.getD x 0 = B[x]'(by omega) by simp [show x < B.length by omega]]; exact List.getElem_mem _))
  by_cases hj0 : j = lo
  ·subst hj0
   have v2 : (IntKind.i64.wrap ((j : Int) - 1)).toNat = j - 1 := by rw [wrap64 (by omega) (by omega)]; omega
   have a1 : j < n := by omega
   have e1 := nts_at (l := B) (i := j) (by omega)
   have e2 := nts_at (l := B) (i := j - 1) (by omega)
   unfold sortH cmpC lC play1V
   refine IWp.seq ?_
   refine IWp.seqI ?_
   refine Drawn.intro (fun k => .tup []) ?_
   simp [go_sem, hB, a1, e1, e2, v2]
   refine ⟨by decide +kernel, ?_⟩
   refine IWp.now ?_
   simp [go_sem]
   exact ⟨i + 1, B, ⟨v1, rfl⟩, ⟨by omega, by omega, hJ.low⟩, by omega⟩
  ·have v2 : IntKind.i64.wrap ((j : Int) - 1) = ((j - 1 : Nat) : Int) := by rw [wrap64 (by omega) (by omega)]; omega
   have g1 : lo < j := by omega
   have a1 : j < n := by omega
   have a2 : j - 1 < n := by omega
   have e1 := nts_at (l := B) (i := j) (by omega)
   have e2 := nts_at (l := B) (i := j - 1) (by omega)
   have q1 : B[j]'(by omega) = B.getD j 0 := by simp [show j < B.length by omega]
   have q2 : B[j - 1]'(by omega) = B.getD (j - 1) 0 := by simp [show j - 1 < B.length by omega]
   have b1 := hBr j a1
   have b2 := hBr (j - 1) a2
   have hlt := cmpM_lx (K1 := rK l) (K2 := iK l) (hJ.big (j - 1) (by omega) (by omega) (by omega))
   have cc := fun h hb hc => play1_at l (B.getD j 0) (B.getD (j - 1) 0) b1 b2 hl h hb hc
   unfold cmpN at cc
   generalize hC : cmpM (rK l (B.getD j 0)) (iK l (B.getD j 0)) (rK l (B.getD (j - 1) 0)) (iK l (B.getD (j - 1) 0)) = C at *
   have hstep := hJ.step g1 hj2 (by omega)
   have hstop := hJ.stop g1 hj2
   have hsw : nts (swapN B j) = ((nts B).set j [.int .i64 (B.getD (j - 1) 0 : Nat)]).set (j - 1) [.int .i64 (B.getD j 0 : Nat)] := by rw [swapN, nts_set, nts_set]
   generalize B.getD j 0 = X at *
   generalize B.getD (j - 1) 0 = Y at *
   generalize hSw : swapN B j = Sw at *
   unfold sortH cmpC lC play1V
   refine IWp.seq ?_
   refine IWp.seqI ?_
   refine Drawn.intro (fun k => if k = 14 then .tup [.junk, .junk, .int .i64 C] else .tup []) ?_
   simp [go_sem, hB, g1, v2, a1, a2, e1, e2, q1, q2]
   refine ⟨cc _ rfl rfl, by decide +kernel, ?_⟩
   by_cases hx : lx (rK l) (iK l) X Y
   ·have hC0 := hlt.2 hx
    have hI2 := hstep hx
    refine IWp.now ?_
    simp [go_sem, hC0]
    refine IWp.now ?_
    simp [go_sem, hB, g1, v2, a1, a2, e1, e2, q1, q2]
    refine ⟨by decide +kernel, j - 1, Sw, ⟨rfl, ?_⟩, ⟨by omega, by omega, hI2⟩, by omega⟩
    rw [hsw, List.getElem_set_ne (by omega), nts_getElem]
    rfl
   ·have hC0 : ¬ C < 0 := fun h => hx (hlt.1 h)
    have hI2 := hstop hx
    refine IWp.now ?_
    simp [go_sem, hC0]
    exact ⟨i + 1, B, ⟨v1, rfl⟩, ⟨by omega, by omega, hI2⟩, by omega⟩
 ·obtain rfl : i = hi := by omega
  unfold sortH cmpC lC play1V
  simp [go_sem]
  exact hR _ _ ⟨_, by simp [go_sem], A, hS, rfl⟩
def idL (n : Nat) : List Nat := List.range n
@[simp] theorem idL_length {n : Nat} : (idL n).length = n := by simp [idL]
def OrdOf (l : List Rs) (A : List Nat) : Prop := A.Perm (idL l.length) ∧ A.Pairwise (lx (rK l) (iK l))
theorem OrdOf.eq {l : List Rs} {A B : List Nat} (h : OrdOf l A) (h' : OrdOf l B) : A = B :=
 List.Perm.eq_of_pairwise (fun a b _ _ h1 h2 => absurd (lx_trans h1 h2) lx_irr) h.2 h'.2 (h.1.trans h'.1.symm)
theorem insert_none (l : List Rs) (A0 : List Nat) (lo hi : Nat) (h1 : hi ≤ lo) (hlo : lo < 2 ^ 62) :
  ICalls Tryz.prog glT 82 [.sl 0 A0.length 0 A0.length none, .int .i64 (lo : Int), .int .i64 (hi : Int), play1V] (sortH l A0)
   (fun _ σ => σ = sortH l A0) := by
 refine ICalls.forget (ICalls.of_bodyE false 10 [14, 34] Tryz.func82 rfl Tryz.call82 rfl fun R hR => ?_)
 have v0 : IntKind.i64.wrap ((lo : Int) + 1) = ((lo + 1 : Nat) : Int) := by rw [wrap64 (by omega) (by omega)]; omega
 have g1 : ¬ lo + 1 < hi := by omega
 have g2 : ¬ (lo : Int) + 1 < hi := by omega
 unfold sortH cmpC lC play1V at *
 simp [go_sem, v0]
 refine IWp.loopT (α := Unit) (fun p => (⟨false, 53, 10, [14, 34], glT, [(0, .sl 0 A0.length 0 A0.length none), (1, .int .i64 (lo : Int)), (2, .int .i64 (hi : Int)), (3, play1V), (8, .int .i64 ((lo + 1 : Nat) : Int))], []⟩, sortH l A0))
  (fun p => True) (fun p => 0) () trivial (by simp [go_sem, sortH, cmpC, lC, play1V]) ?_
 rintro _ _
 unfold sortH cmpC lC play1V
 simp [go_sem, g1, g2]
 exact hR _ _ ⟨_, by simp [go_sem], rfl⟩
end Go.Idl.K38
namespace Go.Idl.K38
open Go.Proofs
theorem stableCmp_calls (l : List Rs) (hl : l.length ≤ 20) :
  ICalls Tryz.prog glT 61 [.sl 0 l.length 0 l.length none, .int .i64 (l.length : Int), play1V] (sortH l (idL l.length))
   (fun _ σ => ∃ A, OrdOf l A ∧ σ = sortH l A) := by
 refine ICalls.forget (ICalls.of_bodyV false 10 [13, 30, 35, 54] Tryz.func61 rfl Tryz.call61 rfl fun R hR => ?_)
 have ci := fun (A : List Nat) (hA : A.length = l.length) (hr : ∀ x ∈ A, x < l.length) lo hi (h1 : lo < hi) (h2 : hi ≤ l.length) h3 => insert_calls l A lo hi h1 (by rw [hA]; exact h2) hr (by omega) (by omega) h3
 have cn := fun (A : List Nat) (lo hi : Nat) (h1 : hi ≤ lo) (h2 : lo < 2 ^ 62) => insert_none l A lo hi h1 h2
 obtain ⟨n, hn⟩ : ∃ n, l.length = n := ⟨_, rfl⟩
 have hrg : ∀ {A : List Nat}, A.Perm (List.range n) → ∀ x ∈ A, x < n := fun hp x hx => by simpa using hp.mem_iff.1 hx
 have hord : ∀ A : List Nat, A.Perm (List.range n) → A.Pairwise (lx (rK l) (iK l)) → OrdOf l A := fun A h1 h2 => ⟨by rw [hn]; exact h1, h2⟩
 rw [hn] at hl ci ⊢
 unfold sortH cmpC lC play1V at *
 refine IWp.seqI ?_
 simp [go_sem]
 refine IWp.seqI ?_
 simp [go_sem]
 refine IWp.seqT (α := Nat × List Nat) (fun p => (⟨false, 63, 10, [13, 30, 35, 54], glT, [(0, .sl 0 n 0 n none), (1, .int .i64 (n : Int)), (2, play1V), (6, .int .i64 20), (7, .int .i64 (p.1 : Int))], []⟩, sortH l p.2))
  (fun p => p.1 ≤ n ∧ n < p.1 + 20 ∧ 20 ∣ p.1 ∧ Fst (rK l) (iK l) n 20 p.1 p.2) ?_ ?_
 ·simp [go_sem]
  refine IWp.loopT (α := Nat × Nat × List Nat) (fun p => (⟨false, 63, 10, [13, 30, 35, 54], glT, [(0, .sl 0 n 0 n none), (1, .int .i64 (n : Int)), (2, play1V), (6, .int .i64 20), (7, .int .i64 (p.1 : Int)), (8, .int .i64 (p.2.1 : Int))], []⟩, sortH l p.2.2))
   (fun p => p.1 ≤ n ∧ p.2.1 = p.1 + 20 ∧ 20 ∣ p.1 ∧ Fst (rK l) (iK l) n 20 p.1 p.2.2) (fun p => n - p.1) (0, 20, idL n) ⟨by simp, by simp, Nat.dvd_zero _, .start⟩ (by simp [go_sem, sortH, cmpC, lC, play1V]) ?_
  rintro ⟨a, b, A⟩ ⟨hi, hb, hd, hF⟩
  simp only at hi hb hd hF
  unfold sortH cmpC lC play1V
  by_cases h : b ≤ n
  ·have h' : (b : Int) ≤ n := by omega
   have cc := ci A hF.len (hrg hF.perm) a b (by omega) h (hF.asc h)
   have v1 : IntKind.i64.wrap ((b : Int) + 20) = ((b + 20 : Nat) : Int) := by rw [wrap64 (by omega) (by omega)]; omega
   rw [hF.len] at cc
   simp [go_sem, h, h']
   refine cc.at [0, 1, 2] (by simp [go_sem]) ?_
   rintro _ _ ⟨B, hB, rfl⟩
   obtain ⟨c, hc⟩ : ∃ c, b + 20 = c := ⟨_, rfl⟩
   rw [hc] at v1
   simp [go_sem, v1]
   refine ⟨b, c, B, ⟨⟨rfl, rfl⟩, rfl⟩, ⟨h, hc.symm, by omega, ?_⟩, by omega⟩
   rw [hb]
   exact hF.step hd (by rw [show min (a + 20) n = b by omega]; exact hB)
  ·have h' : ¬ (b : Int) ≤ n := by omega
   simp [go_sem, h, h', sortH, cmpC, lC, play1V]
   exact ⟨a, A, ⟨rfl, rfl⟩, hi, by omega, hd, hF⟩
 rintro ⟨a, A⟩ ⟨hi, hb, hd, hF⟩
 simp only at hi hb hd hF
 unfold sortH cmpC lC play1V
 refine IWp.seqT (α := List Nat) (fun A => (⟨false, 63, 10, [13, 30, 35, 54], glT, [(0, .sl 0 n 0 n none), (1, .int .i64 (n : Int)), (2, play1V), (6, .int .i64 20)], []⟩, sortH l A))
  (fun A => Blks (rK l) (iK l) n 20 0 A) ?_ ?_
 ·by_cases h : a < n
  ·have cc := ci A hF.len (hrg hF.perm) a n h (Nat.le_refl _) (hF.asc (Nat.le_refl _))
   rw [hF.len] at cc
   simp [go_sem]
   refine cc.at [0, 1, 2] (by simp [go_sem]) ?_
   rintro _ _ ⟨B, hB, rfl⟩
   simp [go_sem, sortH, cmpC, lC, play1V]
   exact ⟨B, rfl, (hF.step hd (by rw [show min (a + 20) n = n by omega]; exact hB)).blks (by omega)⟩
  ·have cc := cn A a n (by omega) (by omega)
   rw [hF.len] at cc
   simp [go_sem]
   refine cc.at [0, 1, 2] (by simp [go_sem]) ?_
   rintro _ _ rfl
   simp [go_sem, sortH, cmpC, lC, play1V]
   exact ⟨A, rfl, hF.blks (by omega)⟩
 clear hF hd hb hi A a
 intro A hA
 unfold sortH cmpC lC play1V
 refine IWp.block ?_
 refine IWp.loopI (α := Nat × List Nat) (fun p => (⟨false, 63, 10, [13, 30, 35, 54], glT, [(0, .sl 0 n 0 n none), (1, .int .i64 (n : Int)), (2, play1V), (6, .int .i64 (p.1 : Int))], []⟩, sortH l p.2))
  (fun p => p.1 = 20 ∧ Blks (rK l) (iK l) n p.1 0 p.2) (fun p => n - p.1) (20, A) ⟨rfl, hA⟩ (by simp [go_sem, sortH, cmpC, lC, play1V]) ?_
 rintro ⟨s, A⟩ ⟨hs, hA⟩
 simp only at hs hA
 unfold sortH cmpC lC play1V
 refine IWp.seqI ?_
 have h : ¬ s < n := by omega
 have h' : ¬ (s : Int) < n := by omega
 simp [go_sem, h, h']
 exact hR _ _ ⟨_, by simp [go_sem], A, hord A hA.perm (hA.all (by omega)), rfl⟩
theorem sortStable_calls (l : List Rs) (hl : l.length ≤ 20) :
  ICalls Tryz.prog glT 41 [.sl 0 l.length 0 l.length none, play1V] (sortH l (idL l.length))
   (fun _ σ => ∃ A, OrdOf l A ∧ σ = sortH l A) := by
 refine ICalls.forget (ICalls.of_bodyE false 4 [] Tryz.func41 rfl Tryz.call41 rfl fun R hR => ?_)
 have cc := stableCmp_calls l hl
 unfold sortH cmpC lC play1V at *
 simp [go_sem]
 refine cc.at [0, 1, 2] (by simp [go_sem]) ?_
 rintro _ _ ⟨A, hA, rfl⟩
 simp [go_sem]
 exact hR _ _ ⟨_, by simp [go_sem], A, hA, rfl⟩
end Go.Idl.K38
namespace Go.Idl.K38
open Go.Proofs
def plR (r : Nat) (S : List Int) (l : List Rs) : List Nat → Won → Int × Int × Won
 | [], W => (-1, 0, W)
 | i :: A, W => match l[i]? with
  | none => (-1, 0, W)
  | some x => if (tkR r S W x).1 ≠ 0 then ((i : Int), (tkR r S W x).1, W) else plR r S l A (tkR r S W x).2
theorem plR_idx {r : Nat} {S : List Int} {l : List Rs} : ∀ (A : List Nat) (W : Won), (plR r S l A W).2.1 ≠ 0 → 0 ≤ (plR r S l A W).1
 | [], W, h => absurd rfl h
 | i :: A, W, h => by
  unfold plR at h ⊢
  split
  ·rename_i e; rw [e] at h; exact absurd rfl h
  ·rename_i x e
   rw [e] at h
   simp only at h
   split
   ·simp only; omega
   ·rename_i hx
    rw [if_neg hx] at h
    exact plR_idx A _ h
def idI (k : Nat) : Nat → List Nat
 | 0 => List.replicate k 0
 | i + 1 => (idI k i).set i i
@[simp] theorem idI_length {k : Nat} : ∀ i, (idI k i).length = k
 | 0 => by simp [idI]
 | i + 1 => by simp [idI, idI_length i]
theorem idI_get {k : Nat} : ∀ (i j : Nat) (h : j < (idI k i).length), (idI k i)[j] = if j < i then j else 0
 | 0, j, h => by simp [idI]
 | i + 1, j, h => by
  simp only [idI, List.getElem_set, idI_get i j (by simpa using h)]
  split
  ·rw [if_pos (by omega)]; omega
  ·split
   ·rw [if_pos (by omega)]
   ·rw [if_neg (by omega)]
theorem idI_all {k : Nat} : idI k k = idL k := List.ext_getElem (by simp) fun i h1 h2 => by
 rw [idI_get, if_pos (by simpa using h1)]; simp [idL]
def evP (r : Nat) (S : List Int) (W : Won) : Heap := [.dead, .dead, .dead, .map (enW W), evRow r S 3]
theorem play_calls (n : Nat) (h1 : 2 ≤ n) (h2 : n ≤ 64) (l : List Rs) (hl : l.length ≤ 20) (hf : ∀ x ∈ l, FitR x) (A : List Nat) (hA : OrdOf l A) :
  ICalls Tryz.prog glT 36 [.int .i64 (n : Int), .fz 6 (rss l)] [] (fun v σ =>
   ((plR (rnd n) (seedsL n) l A (beg n)).2.1 = 0 ∧ v = .tup [.ptr 4 1 0 0, .int .i64 (-1), .int .i64 0] ∧ σ = evP (rnd n) (seedsL n) (plR (rnd n) (seedsL n) l A (beg n)).2.2) ∨
   ((plR (rnd n) (seedsL n) l A (beg n)).2.1 ≠ 0 ∧ v = .tup [.nilp, .int .i64 (plR (rnd n) (seedsL n) l A (beg n)).1, .int .i64 (plR (rnd n) (seedsL n) l A (beg n)).2.1] ∧ σ = [])) := by
 refine ICalls.forget (ICalls.of_bodyE false 14 [16, 21, 22, 23, 35, 36, 37, 38, 48] Tryz.func36 rfl Tryz.call36 rfl fun R hR => ?_)
 have cs := sortStable_calls l (by omega)
 have cb := begin_calls n h1 h2
 have ct := teams38_fun n
 obtain ⟨r1, r2⟩ := rnd_bd h1
 have hSl := seedsL_len n
 generalize beg n = W0 at *
 generalize seedsL n = S at *
 generalize rnd n = r at *
 have g1 : ¬ (n : Int) < 2 := by omega
 have g2 : ¬ 64 < (n : Int) := by omega
 have g3 : (l.length : Int) ≤ 1099511627776 := by omega
 unfold sortH cmpC lC play1V at *
 simp [go_sem]
 refine ct.callF (by simp [go_sem]) ?_
 rintro _ rfl
 simp [go_sem, g1, g2, g3]
 rw [show List.replicate l.length [IV.int .i64 0] = nts (idI l.length 0) by simp [idI, nts, mp]]
 refine IWp.loopT (α := Nat) (fun i => (⟨false, 53, 14, [16, 21, 22, 23, 35, 36, 37, 38, 48], glT, [(0, .int .i64 n), (3, .ptr 0 1 0 0), (7, .sl 1 l.length 0 l.length none), (21, .int .i64 l.length), (22, .int .i64 (i : Int))], []⟩, [.rows 1 [[.fz 6 (rss l)]], .rows 1 (nts (idI l.length i))]))
  (fun i => i ≤ l.length) (fun i => l.length - i) 0 (by simp) (by simp [go_sem]) ?_
 intro i hi
 by_cases h : i < l.length
 ·have v1 : IntKind.i64.wrap ((i : Int) + 1) = ((i + 1 : Nat) : Int) := by rw [wrap64 (by omega) (by omega)]; omega
  have hs : nts (idI l.length (i + 1)) = (nts (idI l.length i)).set i [.int .i64 (i : Int)] := nts_set
  have e1 := nts_at (l := idI l.length i) (i := i) (by simpa using h)
  simp [go_sem, h, e1]
  exact ⟨i + 1, ⟨v1, hs⟩, by omega, by omega⟩
 ·obtain rfl : i = l.length := by omega
  rw [idI_all]
  simp [go_sem]
  refine cs.at [1, 2, 0] (by simp [go_sem]) ?_
  rintro _ _ ⟨A', hA', rfl⟩
  obtain rfl := OrdOf.eq hA hA'
  simp [go_sem]
  unfold evH evRow at cb
  refine cb.at [] (by simp [go_sem]) ?_
  rintro _ _ ⟨rfl, rfl⟩
  have hAl : A.length = l.length := by rw [hA.1.length_eq, idL_length]
  simp [go_sem, hAl]
  refine IWp.loopT (α := Nat × Won) (fun p => (⟨false, 53, 14, [16, 21, 22, 23, 35, 36, 37, 38, 48], glT, [(3, .ptr 0 1 0 0), (10, .ptr 4 1 0 0), (35, .sl 1 l.length 0 l.length none), (36, .int .i64 l.length), (37, .int .i64 (p.1 : Int))], []⟩, [.rows 1 [[.fz 6 (rss l)]], .rows 1 (nts A), .dead, .map (enW p.2), evRow r S 3]))
   (fun p => p.1 ≤ l.length ∧ plR r S l (A.drop p.1) p.2 = plR r S l A W0) (fun p => l.length - p.1) (0, W0) ⟨by simp, rfl⟩ (by simp [go_sem, evRow]) ?_
  rintro ⟨i, W⟩ ⟨hi, hp⟩
  simp only at hi hp
  by_cases h : i < l.length
  ·have v1 : IntKind.i64.wrap ((i : Int) + 1) = ((i + 1 : Nat) : Int) := by rw [wrap64 (by omega) (by omega)]; omega
   have hiA : i < A.length := by omega
   have hdr : A.drop i = A[i] :: A.drop (i + 1) := List.drop_eq_getElem_cons hiA
   have hAi : A[i] < l.length := by
    have := hA.1.mem_iff.1 (List.getElem_mem hiA)
    simpa [idL] using this
   rw [hdr, plR] at hp
   rw [List.getElem?_eq_getElem hAi] at hp
   simp only at hp
   have ctk := take_calls r S W l[A[i]] ⟨r1, r2⟩ hSl (hf _ (List.getElem_mem hAi))
   unfold evH evRow at ctk
   simp only [Rs.v] at ctk
   generalize tkR r S W l[A[i]] = T at *
   obtain ⟨te, tw⟩ := T
   simp only at hp ctk
   obtain ⟨a, ha⟩ : ∃ a, A[i] = a := ⟨_, rfl⟩
   have e1 : (nts A)[i]?.getD [] = [.int .i64 (a : Int)] := by rw [nts_at hiA]; simp [hiA, ha]
   simp only [ha] at ctk hAi hp
   unfold evRow
   simp [go_sem, h, e1, hAi, ha, hAl, hiA]
   refine ctk.at [3, 4] (by simp [go_sem]) ?_
   rintro _ _ ⟨rfl, rfl⟩
   simp [go_sem]
   by_cases hte : te = 0
   ·subst hte
    rw [if_neg (by simp)] at hp
    simp [go_sem]
    exact ⟨i + 1, tw, ⟨v1, rfl⟩, ⟨by omega, hp⟩, by omega⟩
   ·rw [if_pos hte] at hp
    simp [go_sem, hte]
    rw [← hp] at hR
    exact hR _ _ ⟨[], by simp [go_sem], .inr ⟨hte, rfl, rfl⟩⟩
  ·obtain rfl : i = l.length := by omega
   rw [List.drop_of_length_le (by omega)] at hp
   rw [← hp] at hR
   unfold evRow
   simp [go_sem]
   refine hR _ _ ⟨_, ?_, .inl ⟨rfl, rfl, rfl⟩⟩
   simp [go_sem, evP, evRow, plR]
theorem state_calls (n : Nat) (h1 : 2 ≤ n) (h2 : n ≤ 64) (l : List Rs) (hl : l.length ≤ 20) (hf : ∀ x ∈ l, FitR x) (A : List Nat) (hA : OrdOf l A) :
  ICalls Tryz.prog glT 32 [.int .i64 (n : Int), .fz 6 (rss l)] [] (fun v σ =>
   ((plR (rnd n) (seedsL n) l A (beg n)).2.1 = 0 ∧ v = .tup [.ptr 4 1 0 0, .int .i64 0] ∧ σ = evP (rnd n) (seedsL n) (plR (rnd n) (seedsL n) l A (beg n)).2.2) ∨
   ((plR (rnd n) (seedsL n) l A (beg n)).2.1 ≠ 0 ∧ v = .tup [.nilp, .int .i64 2] ∧ σ = [])) := by
 refine ICalls.forget (ICalls.of_bodyE false 9 [17] Tryz.func32 rfl Tryz.call32 rfl fun R hR => ?_)
 have ct := play_calls n h1 h2 l hl hf A hA
 have hi : (plR (rnd n) (seedsL n) l A (beg n)).2.1 ≠ 0 → 0 ≤ (plR (rnd n) (seedsL n) l A (beg n)).1 := plR_idx A (beg n)
 generalize plR (rnd n) (seedsL n) l A (beg n) = Z at *
 obtain ⟨zi, ze, zw⟩ := Z
 simp only at *
 simp [go_sem]
 refine ct.at [] (by simp [go_sem]) ?_
 rintro _ _ (⟨he, rfl, rfl⟩ | ⟨he, rfl, rfl⟩)
 ·unfold evP evRow at *
  simp [go_sem]
  refine hR _ _ ⟨_, ?_, .inl ⟨he, rfl, rfl⟩⟩
  simp [go_sem]
 ·have hi0 := hi he
  simp [go_sem, hi0]
  exact hR _ _ ⟨[], by simp [go_sem], .inr ⟨he, rfl, rfl⟩⟩
end Go.Idl.K38
namespace Go.Idl.K38
open Go.Proofs
def opM (S : List Int) (W : Won) (q i : Nat) : Option Mt := if (sidW S W q i).2.2 = true ∧ aget ((q : Int), (i : Int)) W = none then some ⟨q, i, (sidW S W q i).1, (sidW S W q i).2.1⟩ else none
def opR (S : List Int) (W : Won) (q i : Nat) : List Mt := (List.range i).filterMap (opM S W q)
def opL (r : Nat) (S : List Int) (W : Won) (k : Nat) : List Mt := (List.range k).flatMap fun q => opR S W q (matN r q)
theorem opR_succ (S : List Int) (W : Won) (q i : Nat) : opR S W q (i + 1) = opR S W q i ++ (opM S W q i).toList := by
 unfold opR
 rw [List.range_succ, List.filterMap_append]
 cases h : opM S W q i <;> simp [h]
theorem opL_succ (r : Nat) (S : List Int) (W : Won) (k : Nat) : opL r S W (k + 1) = opL r S W k ++ opR S W k (matN r k) := by
 unfold opL
 rw [List.range_succ, List.flatMap_append]
 simp
def opT (r : Nat) (S : List Int) (W : Won) (q i : Nat) : List Mt := opL r S W q ++ opR S W q i
theorem opT_zero (r : Nat) (S : List Int) (W : Won) (q : Nat) : opT r S W q 0 = opL r S W q := by simp [opT, opR]
theorem opT_all (r : Nat) (S : List Int) (W : Won) (q : Nat) : opT r S W q (matN r q) = opL r S W (q + 1) := (opL_succ r S W q).symm
theorem opT_succ (r : Nat) (S : List Int) (W : Won) (q i : Nat) : opT r S W q (i + 1) = opT r S W q i ++ (opM S W q i).toList := by
 unfold opT
 rw [opR_succ, List.append_assoc]
theorem opR_len (S : List Int) (W : Won) (q i : Nat) : (opR S W q i).length ≤ i := by
 unfold opR
 exact Nat.le_trans (List.length_filterMap_le ..) (by simp)
theorem opL_len {r : Nat} (hr : r ≤ 6) (S : List Int) (W : Won) : ∀ k, (opL r S W k).length ≤ 32 * k
 | 0 => by simp [opL]
 | k + 1 => by
  rw [opL_succ, List.length_append]
  have h1 := opL_len hr S W k
  have h2 := opR_len S W k (matN r k)
  have h3 := (matN_le hr (k : Int)).1
  omega
theorem opT_len {r : Nat} (hr : r ≤ 6) (S : List Int) (W : Won) (q i : Nat) : (opT r S W q i).length ≤ 32 * q + i := by
 have h1 := opL_len hr S W q
 have h2 := opR_len S W q i
 unfold opT
 rw [List.length_append]
 omega
theorem open_fun (n : Nat) (h1 : 2 ≤ n) (h2 : n ≤ 64) (l : List Rs) (hl : l.length ≤ 20) (hf : ∀ x ∈ l, FitR x) (A : List Nat) (hA : OrdOf l A) :
  FN 17 [.int .i64 (n : Int), .fz 6 (rss l)] (fun v => v = if (plR (rnd n) (seedsL n) l A (beg n)).2.1 = 0 then .tup [.fz 4 (mts (opL (rnd n) (seedsL n) (plR (rnd n) (seedsL n) l A (beg n)).2.2 (rnd n))), .int .i64 0] else .tup [.fz 4 [], .int .i64 2]) := by
 refine IFun.of_bodyZ false 16 [23, 28, 29, 30, 34, 35, 36, 61] Tryz.func17 rfl Tryz.call17 rfl fun R hR => ?_
 have ct := state_calls n h1 h2 l hl hf A hA
 obtain ⟨r1, r2⟩ := rnd_bd h1
 have hSl := seedsL_len n
 generalize plR (rnd n) (seedsL n) l A (beg n) = Z at *
 obtain ⟨zi, ze, W⟩ := Z
 generalize seedsL n = S at *
 generalize rnd n = r at *
 simp only at *
 unfold evP evRow at ct
 simp [go_sem]
 refine ct.at [] (by simp [go_sem]) ?_
 rintro _ _ (⟨he, rfl, rfl⟩ | ⟨he, rfl, rfl⟩)
 ·rw [if_pos he] at hR
  simp [go_sem]
  refine IWp.ownNilS 4 8 (by decide) rfl ?_
  refine IWp.loopT (α := Nat) (fun q => (⟨false, 73, 16, [23, 28, 29, 30, 34, 35, 36, 61], glT, [(6, .ptr 4 1 0 0), (8, .sl 5 (opL r S W q).length 0 (opL r S W q).length none), (28, .int .i64 (r : Int)), (29, .int .i64 (q : Int))], []⟩, [.dead, .dead, .dead, .map (enW W), .rows 3 [[.int .i64 r, .fz 1 (ints S), .map 3]], .rows 4 (mts (opL r S W q))]))
   (fun q => q ≤ r) (fun q => r - q) 0 (by simp) (by simp [go_sem, opL]) ?_
  intro q hq
  by_cases h : q < r
  ·have hmat := (matN_le r2 (q : Int)).1
   have v0 : IntKind.i64.wrap ((q : Int) + 1) = ((q + 1 : Nat) : Int) := by rw [wrap64 (by omega) (by omega)]; omega
   simp [go_sem, h]
   refine (matches_reads r S 3 4 q r2 _ rfl).mono ?_
   rintro _ _ ⟨rfl, rfl⟩
   simp [go_sem]
   refine IWp.loopT (α := Nat) (fun i => (⟨false, 73, 16, [23, 28, 29, 30, 34, 35, 36, 61], glT, [(6, .ptr 4 1 0 0), (8, .sl 5 (opT r S W q i).length 0 (opT r S W q i).length none), (9, .int .i64 (q : Int)), (28, .int .i64 (r : Int)), (29, .int .i64 (q : Int)), (34, .int .i64 (matN r q : Nat)), (35, .int .i64 (i : Int))], []⟩, [.dead, .dead, .dead, .map (enW W), .rows 3 [[.int .i64 r, .fz 1 (ints S), .map 3]], .rows 4 (mts (opT r S W q i))]))
    (fun i => i ≤ matN r q) (fun i => matN r q - i) 0 (by simp) (by simp [go_sem, opT_zero]) ?_
   intro i hi
   by_cases hi' : i < matN r q
   ·have v1 : IntKind.i64.wrap ((i : Int) + 1) = ((i + 1 : Nat) : Int) := by rw [wrap64 (by omega) (by omega)]; omega
    have cS := sides_calls r S W q i (by omega) (by omega) (fun h0 => by
     subst h0
     have hp : 2 ^ r = 2 * 2 ^ (r - 1) := by rw [← Nat.pow_succ']; congr 1; omega
     have := mat_first r1
     rw [show ((0 : Nat) : Int) = 0 from rfl] at hi'
     omega)
    have hok : ∀ (a b : IV), (a, b) ∈ enW W → keyOK Tryz.prog 55 [.int .i64, .int .i64] a = true := fun a b h => ok_w W (a, b) h
    have hmg := mget_w q i W
    have hs := opT_succ r S W q i
    unfold opM at hs
    unfold evH evRow at cS
    generalize sidW S W q i = sd at *
    obtain ⟨sa, sb, so⟩ := sd
    simp only at hs
    have hTl := opT_len r2 S W q i
    generalize opT r S W q i = T at *
    obtain ⟨A, hA⟩ : ∃ A, aget ((q : Int), (i : Int)) W = A := ⟨_, rfl⟩
    rw [hA] at hmg hs
    clear hA
    cases A with
    | none =>
     simp [go_sem, hi', hmg]
     refine ⟨fun a b h => by simpa [go_sem, keyOK] using hok a b h, ?_⟩
     refine cS.at [3, 4] (by simp [go_sem]) ?_
     rintro _ _ ⟨rfl, rfl⟩
     cases so with
     | true =>
      rw [if_pos (by simp)] at hs
      simp [go_sem]
      exact ⟨by omega, i + 1, ⟨⟨by rw [hs]; simp, v1⟩, by rw [hs]; simp [mts_snoc]⟩, by omega, by omega⟩
     | false =>
      rw [if_neg (by simp)] at hs
      simp [go_sem]
      exact ⟨i + 1, ⟨⟨by rw [hs]; simp, v1⟩, by rw [hs]; simp⟩, by omega, by omega⟩
    | some v =>
     obtain ⟨w1, w2⟩ := v
     rw [if_neg (by simp)] at hs
     simp [go_sem, hi', hmg, mkP]
     refine ⟨fun a b h => by simpa [go_sem, keyOK] using hok a b h, ?_⟩
     refine cS.at [3, 4] (by simp [go_sem]) ?_
     rintro _ _ ⟨rfl, rfl⟩
     cases so with
     | true =>
      simp [go_sem]
      exact ⟨i + 1, ⟨⟨by rw [hs]; simp, v1⟩, by rw [hs]; simp⟩, by omega, by omega⟩
     | false =>
      simp [go_sem]
      exact ⟨i + 1, ⟨⟨by rw [hs]; simp, v1⟩, by rw [hs]; simp⟩, by omega, by omega⟩
   ·obtain rfl : i = matN r q := by omega
    simp [go_sem]
    exact ⟨q + 1, ⟨⟨by rw [opT_all], v0⟩, by rw [opT_all]⟩, by omega, by omega⟩
  ·obtain rfl : q = r := by omega
   simp [go_sem]
   exact hR _ _ _ rfl (by simp [go_sem])
 ·rw [if_neg he] at hR
  simp [go_sem]
  exact hR _ _ _ rfl (by simp [go_sem])
end Go.Idl.K38
namespace Go.Idl.K38
open Go.Proofs
def winV (W : Won) (q i : Int) : Int × Int := match aget (q, i) W with | none => (0, 6) | some v => (v.1, 0)
theorem winner_fun (n : Nat) (h1 : 2 ≤ n) (h2 : n ≤ 64) (l : List Rs) (hl : l.length ≤ 20) (hf : ∀ x ∈ l, FitR x) (A : List Nat) (hA : OrdOf l A) (q i : Int) :
  FN 23 [.int .i64 (n : Int), .fz 6 (rss l), .int .i64 q, .int .i64 i] (fun v => v = if (plR (rnd n) (seedsL n) l A (beg n)).2.1 = 0 then .tup [.int .i64 (winV (plR (rnd n) (seedsL n) l A (beg n)).2.2 q i).1, .int .i64 (winV (plR (rnd n) (seedsL n) l A (beg n)).2.2 q i).2] else .tup [.int .i64 0, .int .i64 2]) := by
 refine IFun.of_bodyZ false 14 [21, 35] Tryz.func23 rfl Tryz.call23 rfl fun R hR => ?_
 have ct := state_calls n h1 h2 l hl hf A hA
 generalize plR (rnd n) (seedsL n) l A (beg n) = Z at *
 obtain ⟨zi, ze, W⟩ := Z
 generalize seedsL n = S at *
 generalize rnd n = r at *
 simp only at *
 unfold evP evRow at ct
 simp [go_sem]
 refine ct.at [] (by simp [go_sem]) ?_
 rintro _ _ (⟨he, rfl, rfl⟩ | ⟨he, rfl, rfl⟩)
 ·rw [if_pos he] at hR
  have hok : ∀ (a b : IV), (a, b) ∈ enW W → keyOK Tryz.prog 55 [.int .i64, .int .i64] a = true := fun a b h => ok_w W (a, b) h
  have hmg := mget_w q i W
  unfold winV at hR
  generalize aget (q, i) W = A at *
  cases A with
  | none =>
   simp [go_sem, hmg]
   refine ⟨fun a b h => by simpa [go_sem, keyOK] using hok a b h, ?_⟩
   exact hR _ _ _ rfl (by simp [go_sem])
  | some v =>
   obtain ⟨w1, w2⟩ := v
   simp [go_sem, hmg, mkP]
   refine ⟨fun a b h => by simpa [go_sem, keyOK] using hok a b h, ?_⟩
   exact hR _ _ _ rfl (by simp [go_sem])
 ·rw [if_neg he] at hR
  simp [go_sem]
  exact hR _ _ _ rfl (by simp [go_sem])
end Go.Idl.K38
namespace Go.Idl.K38
open Go.Proofs
theorem enW_get {T : Won} {i : Nat} {kv : IV × IV} (h : (enW T)[i]? = some kv) : ∃ p, T[i]? = some p ∧ kv = (k2 p.1, mkP p.2) := by
 simp only [enW, enM, List.getElem?_map, Option.map_eq_some_iff] at h
 obtain ⟨p, h1, h2⟩ := h
 exact ⟨p, h1, h2.symm⟩
theorem map_eraseIdx38 {α β : Type} (f : α → β) : ∀ (l : List α) (i : Nat), (l.map f).eraseIdx i = (l.eraseIdx i).map f
 | [], _ => rfl
 | _ :: _, 0 => rfl
 | _ :: l, i + 1 => by simp [map_eraseIdx38 f l i]
theorem enW_erase {T : Won} {i : Nat} : (enW T).eraseIdx i = enW (T.eraseIdx i) := map_eraseIdx38 _ T i
theorem enW_nil' {T : Won} (h : enW T = []) : T = [] := by simpa [enW, enM] using h
theorem mem_erase38 {α : Type} : ∀ {l : List α} {i : Nat} {p q : α}, l[i]? = some p → q ∈ l → q = p ∨ q ∈ l.eraseIdx i
 | a :: l, 0, p, q, h, hq => by
  simp at h; subst h
  simpa using hq
 | a :: l, i + 1, p, q, h, hq => by
  simp at h
  rcases List.mem_cons.1 hq with rfl | hq
  ·right; simp
  ·rcases mem_erase38 h hq with rfl | h'
   ·left; rfl
   ·right; simp [h']
structure PlOK (r n : Nat) (W T : Won) (P : List Int) : Prop where
 len : P.length = n
 sub : ∀ e ∈ T, e ∈ W
 put : ∀ e ∈ W, e.2.2 ≠ 0 → e ∈ T ∨ P.getD (e.2.2 - 1).toNat 0 = matN r e.1.1 + 1
 out : ∀ t, P.getD t 0 ≠ 0 → ∃ e ∈ W, e.2.2 = (t : Int) + 1
structure LoseOK (n : Nat) (W : Won) : Prop where
 bd : ∀ e ∈ W, 0 ≤ e.2.2 ∧ e.2.2 ≤ n
 one : ∀ e ∈ W, ∀ e' ∈ W, e.2.2 ≠ 0 → e.2.2 = e'.2.2 → e.1.1 = e'.1.1
theorem PlOK.start {r n : Nat} {W : Won} : PlOK r n W W (List.replicate n 0) := ⟨by simp, fun _ h => h, fun _ h _ => .inl h, fun t h => by
 exfalso; apply h
 simp [List.getD_eq_getElem?_getD, List.getElem?_replicate]
 split <;> rfl⟩
theorem PlOK.skip {r n : Nat} {W T : Won} {P : List Int} {i : Nat} {e : (Int × Int) × (Int × Int)} (h : PlOK r n W T P) (he : T[i]? = some e) (h0 : e.2.2 = 0) : PlOK r n W (T.eraseIdx i) P :=
 ⟨h.len, fun e' h' => h.sub e' (List.mem_of_mem_eraseIdx h'), fun e' h1 h2 => by
  rcases h.put e' h1 h2 with h3 | h3
  ·rcases mem_erase38 he h3 with rfl | h4
   ·exact absurd h0 h2
   ·exact .inl h4
  ·exact .inr h3, h.out⟩
theorem PlOK.step {r n : Nat} {W T : Won} {P : List Int} {i : Nat} {e : (Int × Int) × (Int × Int)} (h : PlOK r n W T P) (hL : LoseOK n W) (he : T[i]? = some e) (h0 : e.2.2 ≠ 0) : PlOK r n W (T.eraseIdx i) (P.set (e.2.2 - 1).toNat (matN r e.1.1 + 1)) := by
 have heW := h.sub e (List.mem_of_getElem? he)
 have hb := hL.bd e heW
 have hl := h.len
 have key : ∀ t, (P.set (e.2.2 - 1).toNat ((matN r e.1.1 : Int) + 1)).getD t 0 = if (e.2.2 - 1).toNat = t then (matN r e.1.1 : Int) + 1 else P.getD t 0 := fun t => by
  simp only [List.getD_eq_getElem?_getD, List.getElem?_set]
  split
  ·rw [if_pos (by omega)]; rfl
  ·rfl
 refine ⟨by simp [hl], fun e' h' => h.sub e' (List.mem_of_mem_eraseIdx h'), fun e' h1 h2 => ?_, fun t ht => ?_⟩
 ·rw [key]
  have hb' := hL.bd e' h1
  split
  ·rename_i hh
   right
   rw [hL.one e heW e' h1 h0 (by omega)]
  ·rename_i hh
   rcases h.put e' h1 h2 with h3 | h3
   ·rcases mem_erase38 he h3 with rfl | h4
    ·exact absurd rfl hh
    ·exact .inl h4
   ·exact .inr h3
 ·rw [key] at ht
  split at ht
  ·rename_i hh
   exact ⟨e, heW, by omega⟩
  ·exact h.out t ht
def plT (r : Nat) (W : Won) (t : Nat) : Int := match W.find? (fun e => decide (e.2.2 = (t : Int) + 1)) with | none => 0 | some e => matN r e.1.1 + 1
theorem PlOK.last {r n : Nat} {W : Won} {P : List Int} (h : PlOK r n W [] P) : P = (List.range n).map (plT r W) := by
 refine List.ext_getElem (by simp [h.len]) fun t h1 h2 => ?_
 rw [List.getElem_map, List.getElem_range]
 have e1 : P[t] = P.getD t 0 := by simp [h1]
 unfold plT
 split
 ·rename_i hf
  rw [List.find?_eq_none] at hf
  rw [e1]
  refine Classical.byContradiction fun hc => ?_
  obtain ⟨e, he1, he2⟩ := h.out t hc
  exact hf e he1 (by simpa using he2)
 ·rename_i e hf
  have hm := List.mem_of_find?_eq_some hf
  have hp := List.find?_some hf
  simp only [decide_eq_true_eq] at hp
  rcases h.put e hm (by omega) with h3 | h3
  ·simp at h3
  ·rw [hp] at h3
   rw [e1, ← h3]
   congr 1
   omega
def placesL (r n : Nat) (W : Won) : List Int := match aget ((r : Int) - 1, 0) W with
 | none => (List.range n).map (plT r W)
 | some v => ((List.range n).map (plT r W)).set (v.1 - 1).toNat 1
theorem places_fun (n : Nat) (h1 : 2 ≤ n) (h2 : n ≤ 64) (l : List Rs) (hl : l.length ≤ 20) (hf : ∀ x ∈ l, FitR x) (A : List Nat) (hA : OrdOf l A)
  (hL : (plR (rnd n) (seedsL n) l A (beg n)).2.1 = 0 → LoseOK n (plR (rnd n) (seedsL n) l A (beg n)).2.2 ∧ ∀ v, aget ((rnd n : Int) - 1, 0) (plR (rnd n) (seedsL n) l A (beg n)).2.2 = some v → 1 ≤ v.1 ∧ v.1 ≤ n) :
  FN 21 [.int .i64 (n : Int), .fz 6 (rss l)] (fun v => v = if (plR (rnd n) (seedsL n) l A (beg n)).2.1 = 0 then .tup [.fz 1 (ints (placesL (rnd n) n (plR (rnd n) (seedsL n) l A (beg n)).2.2)), .int .i64 0] else .tup [.fz 1 [], .int .i64 2]) := by
 refine IFun.of_bodyZ false 13 [20, 28, 30, 36, 61] Tryz.func21 rfl Tryz.call21 rfl fun R hR => ?_
 have ct := state_calls n h1 h2 l hl hf A hA
 obtain ⟨r1, r2⟩ := rnd_bd h1
 generalize plR (rnd n) (seedsL n) l A (beg n) = Z at *
 obtain ⟨zi, ze, W⟩ := Z
 generalize seedsL n = S at *
 generalize rnd n = r at *
 simp only at *
 unfold evP evRow at ct
 simp [go_sem]
 refine ct.at [] (by simp [go_sem]) ?_
 rintro _ _ (⟨he, rfl, rfl⟩ | ⟨he, rfl, rfl⟩)
 ·rw [if_pos he] at hR
  obtain ⟨hL1, hL2⟩ := hL he
  have hok : ∀ (a b : IV), (a, b) ∈ enW W → keyOK Tryz.prog 55 [.int .i64, .int .i64] a = true := fun a b h => ok_w W (a, b) h
  have g1 : (n : Int) ≤ 1099511627776 := by omega
  simp [go_sem, g1]
  rw [show List.replicate n [IV.int .i64 0] = ints (List.replicate n 0) by simp [ints, mp]]
  refine IWp.loopI (α := Option ((Int × Int) × (Int × Int)) × Won × List Int) (fun x => (⟨false, 68, 13, [20, 28, 30, 36, 61], glT, [(6, .ptr 4 1 0 0), (8, .sl 5 n 0 n none), (28, .iter 6)], []⟩, [.dead, .dead, .dead, .dead, .rows 3 [[.int .i64 r, .fz 1 (ints S), .map 3]], .rows 1 (ints x.2.2), .iter (some 3) (enW W) (x.1.map fun p => (k2 p.1, mkP p.2)) (enW x.2.1)]))
   (fun x => PlOK r n W x.2.1 x.2.2) (fun x => x.2.1.length) (none, W, List.replicate n 0) .start (by simp [go_sem]) ?_
  rintro ⟨cur, T, P⟩ hP
  simp only at hP
  refine IWp.seqI ?_
  simp [go_sem]
  refine ⟨fun h => ?_, fun i kv hkv => ?_⟩
  ·obtain rfl := enW_nil' h
   have hl := hP.last
   have hmg := mget_w ((r : Int) - 1) 0 W
   have v1 : IntKind.i64.wrap ((r : Int) - 1) = r - 1 := wrap64 (by omega) (by omega)
   have hPl := hP.len
   unfold placesL at hR
   rw [← hl] at hR
   clear hl
   simp [go_sem]
   refine IWp.revive 6 3 (enW W) rfl rfl ?_
   obtain ⟨A, hA⟩ : ∃ A, aget ((r : Int) - 1, 0) W = A := ⟨_, rfl⟩
   rw [hA] at hmg hR hL2
   refine IWp.now ?_
   cases A with
   | none =>
    simp only at hR
    simp [go_sem, hmg, v1]
    refine ⟨fun a b h => by simpa [go_sem, keyOK] using hok a b h, by decide +kernel, ?_⟩
    exact hR _ _ _ rfl (by simp [go_sem, hPl])
   | some v =>
    obtain ⟨w1, w2⟩ := v
    have hb := hL2 _ rfl
    simp only at hR hb
    have v2 : IntKind.i64.wrap (w1 - 1) = (((w1 - 1).toNat : Nat) : Int) := by rw [wrap64 (by omega) (by omega)]; omega
    obtain ⟨k, hk⟩ : ∃ k, (w1 - 1).toNat = k := ⟨_, rfl⟩
    have hkn : k < n := by omega
    rw [hk] at v2 hR
    have e1 : (ints P)[k]?.getD [] = [.int .i64 (P.getD k 0)] := by
     rw [List.getElem?_eq_getElem (by simp; omega), Option.getD_some, ints_getElem]
     simp [show k < P.length by omega]
    simp [go_sem, hmg, v1, mkP, v2, hkn, hPl, e1]
    refine ⟨fun a b h => by simpa [go_sem, keyOK] using hok a b h, by decide +kernel, ?_⟩
    rw [show (ints P).set k [.int .i64 1] = ints (P.set k 1) from ints_set.symm]
    exact hR _ _ _ rfl (by simp [go_sem, hPl])
  ·obtain ⟨⟨⟨q, j⟩, a, b⟩, hp, rfl⟩ := enW_get hkv
   rw [enW_erase]
   have hbd := hL1.bd _ (hP.sub _ (List.mem_of_getElem? hp))
   have hlt := (List.getElem?_eq_some_iff.1 hp).1
   have hlen : (T.eraseIdx i).length < T.length := by rw [List.length_eraseIdx, if_pos hlt]; omega
   have hPl := hP.len
   have hsk := hP.skip hp
   have hst := hP.step hL1 hp
   simp only at hbd hsk hst
   by_cases hb : b = 0
   ·have hN := hsk hb
    simp [go_sem, k2, mkP]
    refine IWp.now ?_
    simp [go_sem, hb]
    refine ⟨some ((q, j), a, 0), T.eraseIdx i, P, ⟨⟨rfl, ⟨_, _, _, _, rfl, ⟨rfl, rfl⟩, rfl, rfl⟩, rfl⟩, ?_⟩, hN, hlen⟩
    rintro _ _ x x1 x2 x3 _ rfl rfl
    simp [go_sem]
   ·have hN := hst hb
    have v2 : IntKind.i64.wrap (b - 1) = (((b - 1).toNat : Nat) : Int) := by rw [wrap64 (by omega) (by omega)]; omega
    have hmt := (matN_le r2 q).1
    have cM := fun h hb => matches_ro r S 3 4 q r2 h hb
    obtain ⟨m, hm⟩ : ∃ m, matN r q = m := ⟨_, rfl⟩
    rw [hm] at hmt hN cM
    have v3 : IntKind.i64.wrap ((m : Int) + 1) = m + 1 := wrap64 (by omega) (by omega)
    obtain ⟨k, hk⟩ : ∃ k, (b - 1).toNat = k := ⟨_, rfl⟩
    have hkn : k < n := by omega
    rw [hk] at v2 hN
    have e1 : (ints P)[k]?.getD [] = [.int .i64 (P.getD k 0)] := by
     rw [List.getElem?_eq_getElem (by simp; omega), Option.getD_some, ints_getElem]
     simp [show k < P.length by omega]
    simp [go_sem, k2, mkP]
    refine IWp.seqI ?_
    simp [go_sem]
    refine IWp.block ?_
    refine IWp.seqI ?_
    simp [go_sem]
    refine IWp.seqI ?_
    simp [go_sem]
    refine IWp.now ?_
    simp [go_sem, hb]
    refine Drawn.intro (fun k => if k = 7 then .tup [.junk, .junk, .int .i64 (m : Int)] else .tup []) ?_
    simp [go_sem, v2, v3, hkn, hPl, e1]
    refine ⟨cM _ rfl, by decide +kernel, ?_⟩
    refine ⟨some ((q, j), a, b), T.eraseIdx i, P.set k (m + 1), ⟨⟨ints_set, ⟨_, _, _, _, rfl, ⟨rfl, rfl⟩, rfl, rfl⟩, rfl⟩, ?_⟩, hN, hlen⟩
    rintro _ _ x x1 x2 x3 _ rfl rfl
    simp [go_sem]
 ·rw [if_neg he] at hR
  simp [go_sem]
  exact hR _ _ _ rfl (by simp [go_sem])
end Go.Idl.K38
namespace Go.Idl.K38
open Go.Proofs
end Go.Idl.K38
namespace Go.Idl.K38
open Go.Proofs
end Go.Idl.K38
namespace Go.Idl.K38
open Go.Proofs
structure Sm where
 w : Int
 a : Int
 b : Int
 c : Int
def Sm.cells (x : Sm) : List IV := [.int .u8 x.w, .int .u8 x.a, .int .u8 x.b, .int .i8 x.c]
def mkX (m : Mt) (x : Sm) : Rs := ⟨m.r, m.i, x.a, x.b, (mkF x.c (1 + x.a % 3)).1⟩
end Go.Idl.K38
namespace Go.Idl.K38
open Go.Proofs
def resW (x : Rs) (a b : Int) : Int × Int := if cmpI x.f (whF (x.b - x.a)) < 0 ∨ (cmpI x.f (whF (x.b - x.a)) = 0 ∧ b < a) then (b, a) else (a, b)
def val (S : List Int) (l : List Rs) : Nat → Nat → Option (Int × Int)
 | 0, i => if S.getD (2 * i + 1) 0 = 0 then some (S.getD (2 * i) 0, 0) else (l.find? (isM 0 i)).map fun x => resW x (S.getD (2 * i) 0) (S.getD (2 * i + 1) 0)
 | q + 1, i => match l.find? (isM (q + 1) i), val S l q (2 * i), val S l q (2 * i + 1) with
  | some x, some u, some v => some (resW x u.1 v.1)
  | _, _, _ => none
theorem begW_get (S : List Int) (q i : Int) : ∀ k, aget (q, i) (begW S k) = if q = 0 ∧ 0 ≤ i ∧ i < (k : Int) ∧ S.getD (2 * i.toNat + 1) 0 = 0 then some (S.getD (2 * i.toNat) 0, 0) else none
 | 0 => by rw [if_neg (by omega)]; rfl
 | k + 1 => by
  have ih := begW_get S q i k
  unfold begW
  by_cases hb : S.getD (2 * k + 1) 0 = 0
  ·rw [if_pos hb, aget_aset]
   by_cases he : (q, i) = (0, (k : Int))
   ·rw [if_pos he]
    obtain ⟨rfl, rfl⟩ := Prod.mk.inj he
    rw [if_pos ⟨rfl, by omega, by omega, by simpa using hb⟩]
    simp
   ·rw [if_neg he, ih]
    by_cases hc : q = 0 ∧ 0 ≤ i ∧ i < (k : Int) ∧ S.getD (2 * i.toNat + 1) 0 = 0
    ·rw [if_pos hc, if_pos ⟨hc.1, hc.2.1, by omega, hc.2.2.2⟩]
    ·rw [if_neg hc, if_neg]
     rintro ⟨h1, h2, h3, h4⟩
     have : ¬ i = (k : Int) := fun e => he (by rw [h1, e])
     exact hc ⟨h1, h2, by omega, h4⟩
  ·rw [if_neg hb, ih]
   by_cases hc : q = 0 ∧ 0 ≤ i ∧ i < (k : Int) ∧ S.getD (2 * i.toNat + 1) 0 = 0
   ·rw [if_pos hc, if_pos ⟨hc.1, hc.2.1, by omega, hc.2.2.2⟩]
   ·rw [if_neg hc, if_neg]
    rintro ⟨h1, h2, h3, h4⟩
    have : ¬ i = (k : Int) := fun e => by
     subst e
     exact hb (by simpa using h4)
    exact hc ⟨h1, h2, by omega, h4⟩
theorem tk_good {r : Nat} {S : List Int} {W : Won} {x : Rs} {a b : Int} (h1 : ¬ badX r x) (h2 : ((aget (x.r, x.i) W).getD (0, 0)).2 = 0) (h3 : sidW S W x.r.toNat x.i.toNat = (a, b, true)) (ha : a ≠ 0) (hb : b ≠ 0) :
  tkR r S W x = (0, aset (x.r, x.i) (resW x a b) W) := by
 unfold tkR resW
 rw [if_neg h1, if_neg (fun h => h h2), h3, if_neg (fun h => by
  rcases h with h | h | h
  ·cases h
  ·exact ha h
  ·exact hb h)]
 show (if cmpI x.f (whF (x.b - x.a)) < 0 ∨ (cmpI x.f (whF (x.b - x.a)) = 0 ∧ b < a) then (0, aset (x.r, x.i) (b, a) W) else (0, aset (x.r, x.i) (a, b) W)) = _
 by_cases hc : cmpI x.f (whF (x.b - x.a)) < 0 ∨ (cmpI x.f (whF (x.b - x.a)) = 0 ∧ b < a)
 ·rw [if_pos hc, if_pos hc]
 ·rw [if_neg hc, if_neg hc]
end Go.Idl.K38
namespace Go.Idl.K38
open Go.Proofs
def doneB (S : List Int) (l : List Rs) (q i : Nat) : Prop := (q = 0 ∧ S.getD (2 * i + 1) 0 = 0) ∨ ∃ x ∈ l, isM q i x = true
structure GoodL (r : Nat) (S : List Int) (l : List Rs) : Prop where
 right : ∀ x ∈ l, ¬ badX r x
 dist : l.Pairwise fun x y => ¬ (x.r = y.r ∧ x.i = y.i)
 first : ∀ x ∈ l, x.r = 0 → S.getD (2 * x.i.toNat + 1) 0 ≠ 0
 later : ∀ x ∈ l, 0 < x.r → doneB S l (x.r.toNat - 1) (2 * x.i.toNat) ∧ doneB S l (x.r.toNat - 1) (2 * x.i.toNat + 1)
theorem badX_facts {r : Nat} {x : Rs} (h : ¬ badX r x) : 0 ≤ x.r ∧ x.r < r ∧ 0 ≤ x.i ∧ x.i < (matN r x.r : Int) := by
 unfold badX at h
 have h1 : ¬ x.i < 0 := fun e => h (.inl e)
 have h2 : ¬ (matN r x.r : Int) ≤ x.i := fun e => h (.inr (.inl e))
 have h3 : 0 < matN r x.r := by omega
 unfold matN at h3
 split at h3
 ·rename_i hh; exact ⟨hh.1, hh.2, by omega, by omega⟩
 ·omega
theorem isM_key {q i : Nat} {x : Rs} : isM q i x = true ↔ x.r = (q : Int) ∧ x.i = (i : Int) := by simp [isM]
theorem GoodL.find {r : Nat} {S : List Int} {l : List Rs} (h : GoodL r S l) {x : Rs} (hx : x ∈ l) {q i : Nat} (hk : isM q i x = true) : l.find? (isM q i) = some x := by
 have hd := h.dist
 clear h
 induction l with
 | nil => cases hx
 | cons y l ih =>
  rw [List.find?_cons]
  rcases List.mem_cons.1 hx with rfl | hx
  ·rw [hk]
  ·have hy : isM q i y = false := by
    cases e : isM q i y with
    | false => rfl
    | true =>
     obtain ⟨a1, a2⟩ := isM_key.1 e
     obtain ⟨b1, b2⟩ := isM_key.1 hk
     exact absurd ⟨a1.trans b1.symm, a2.trans b2.symm⟩ ((List.pairwise_cons.1 hd).1 x hx)
   rw [hy]
   exact ih hx (List.pairwise_cons.1 hd).2
theorem resW_ne {x : Rs} {a b : Int} (ha : a ≠ 0) (hb : b ≠ 0) : (resW x a b).1 ≠ 0 ∧ (resW x a b).2 ≠ 0 := by
 unfold resW
 split <;> exact ⟨by assumption, by assumption⟩
theorem GoodL.val_some {r : Nat} {S : List Int} {l : List Rs} (h : GoodL r S l) (hS : ∀ i, i < 2 ^ (r - 1) → S.getD (2 * i) 0 ≠ 0) : ∀ q i, (i + 1) * 2 ^ q ≤ 2 ^ (r - 1) → doneB S l q i → ∃ u, val S l q i = some u ∧ u.1 ≠ 0
 | 0, i, hi, hd => by
  have hi' : i < 2 ^ (r - 1) := by omega
  unfold val
  by_cases hb : S.getD (2 * i + 1) 0 = 0
  ·rw [if_pos hb]; exact ⟨_, rfl, hS i hi'⟩
  ·rw [if_neg hb]
   rcases hd with hd | ⟨x, hx, hk⟩
   ·exact absurd hd.2 hb
   ·rw [h.find hx hk]
    exact ⟨_, rfl, (resW_ne (hS i hi') hb).1⟩
 | q + 1, i, hi, hd => by
  rcases hd with hd | ⟨x, hx, hk⟩
  ·exact absurd hd.1 (by omega)
  ·obtain ⟨k1, k2⟩ := isM_key.1 hk
   obtain ⟨d1, d2⟩ := h.later x hx (by omega)
   rw [show x.r.toNat - 1 = q by omega, show x.i.toNat = i by omega] at d1 d2
   have hs2 : 2 ^ (q + 1) = 2 * 2 ^ q := Nat.pow_succ'
   have e : (i + 1) * 2 ^ (q + 1) = (2 * (i + 1)) * 2 ^ q := by rw [hs2, Nat.mul_comm 2 (i + 1), Nat.mul_assoc]
   rw [e] at hi
   obtain ⟨u, hu, hu0⟩ := h.val_some hS q (2 * i) (Nat.le_trans (Nat.mul_le_mul_right _ (by omega)) hi) d1
   obtain ⟨v, hv, hv0⟩ := h.val_some hS q (2 * i + 1) (Nat.le_trans (Nat.mul_le_mul_right _ (by omega)) hi) d2
   refine ⟨resW x u.1 v.1, ?_, (resW_ne hu0 hv0).1⟩
   unfold val
   rw [h.find hx hk, hu, hv]
end Go.Idl.K38
namespace Go.Idl.K38
open Go.Proofs
def doneD (r : Nat) (S : List Int) (l : List Rs) (D : List Nat) (q i : Nat) : Prop := (q = 0 ∧ i < 2 ^ (r - 1) ∧ S.getD (2 * i + 1) 0 = 0) ∨ ∃ j ∈ D, ∃ x, l[j]? = some x ∧ isM q i x = true
structure InvD (r : Nat) (S : List Int) (l : List Rs) (D : List Nat) (W : Won) : Prop where
 yes : ∀ q i : Nat, doneD r S l D q i → aget ((q : Int), (i : Int)) W = val S l q i
 no : ∀ q i : Nat, ¬ doneD r S l D q i → aget ((q : Int), (i : Int)) W = none
theorem InvD.start {r : Nat} {S : List Int} {l : List Rs} : InvD r S l [] (begW S (2 ^ (r - 1))) := by
 refine ⟨fun q i h => ?_, fun q i h => ?_⟩
 ·rcases h with ⟨rfl, h1, h2⟩ | ⟨j, hj, _⟩
  ·rw [begW_get, if_pos ⟨rfl, by omega, by omega, by simpa using h2⟩]
   unfold val
   rw [if_pos h2]
   simp
  ·cases hj
 ·rw [begW_get, if_neg]
  rintro ⟨h1, h2, h3, h4⟩
  exact h (.inl ⟨by omega, by omega, by simpa using h4⟩)
theorem InvD.step {r : Nat} {S : List Int} {l : List Rs} {D A : List Nat} {j : Nat} {W : Won} (hr : 1 ≤ r ∧ r ≤ 6) (hG : GoodL r S l) (hS : ∀ i, i < 2 ^ (r - 1) → S.getD (2 * i) 0 ≠ 0)
  (hO : OrdOf l (D ++ j :: A)) (h : InvD r S l D W) : ∃ x, l[j]? = some x ∧ (tkR r S W x).1 = 0 ∧ InvD r S l (D ++ [j]) (tkR r S W x).2 := by
 have hj : j < l.length := by
  have := hO.1.mem_iff.1 (show j ∈ D ++ j :: A by simp)
  simpa [idL] using this
 obtain ⟨x, hx⟩ : ∃ x, l[j] = x := ⟨_, rfl⟩
 have hxl : x ∈ l := by rw [← hx]; exact List.getElem_mem hj
 have hx? : l[j]? = some x := by rw [List.getElem?_eq_getElem hj, hx]
 refine ⟨x, hx?, ?_⟩
 obtain ⟨f1, f2, f3, f4⟩ := badX_facts (hG.right x hxl)
 obtain ⟨q, hq⟩ : ∃ q : Nat, x.r = q := ⟨x.r.toNat, by omega⟩
 obtain ⟨i, hi⟩ : ∃ i : Nat, x.i = i := ⟨x.i.toNat, by omega⟩
 have hk : isM q i x = true := isM_key.2 ⟨hq, hi⟩
 have hmat : matN r q = 2 ^ (r - 1 - q) := by unfold matN; rw [if_pos (by omega)]; simp
 rw [hq, hi, hmat] at f4
 have hib : (i + 1) * 2 ^ q ≤ 2 ^ (r - 1) := by
  have e : 2 ^ (r - 1) = 2 ^ (r - 1 - q) * 2 ^ q := by rw [← Nat.pow_add]; congr 1; omega
  rw [e]
  exact Nat.mul_le_mul_right _ (by omega)
 have hnd : ¬ doneD r S l D q i := by
  rintro (⟨rfl, h1, h2⟩ | ⟨j', hj', y, hy, hky⟩)
  ·exact hG.first x hxl (by omega) (by rw [show x.i.toNat = i by omega]; exact h2)
  ·have hne : j' ≠ j := fun e => by
    subst e
    exact lx_irr ((List.pairwise_append.1 hO.2).2.2 j' hj' j' (by simp))
   obtain ⟨hj2, rfl⟩ := List.getElem?_eq_some_iff.1 hy
   obtain ⟨y1, y2⟩ := isM_key.1 hky
   have hp := List.pairwise_iff_getElem.1 hG.dist
   rcases Nat.lt_or_gt_of_ne hne with hlt | hlt
   ·exact hp j' j hj2 hj hlt ⟨by rw [hx, y1, hq], by rw [hx, y2, hi]⟩
   ·exact hp j j' hj hj2 hlt ⟨by rw [hx, y1, hq], by rw [hx, y2, hi]⟩
 have h2 : ((aget (x.r, x.i) W).getD (0, 0)).2 = 0 := by rw [hq, hi, h.no q i hnd]; rfl
 have hsd : ∃ a b, sidW S W q i = (a, b, true) ∧ a ≠ 0 ∧ b ≠ 0 ∧ val S l q i = some (resW x a b) := by
  cases q with
  | zero =>
   have hf := hG.first x hxl (by omega)
   rw [show x.i.toNat = i by omega] at hf
   refine ⟨S.getD (2 * i) 0, S.getD (2 * i + 1) 0, by unfold sidW; rw [if_pos rfl], hS i (by omega), hf, ?_⟩
   unfold val
   rw [if_neg hf, hG.find hxl hk]
   rfl
  | succ q =>
   obtain ⟨d1, d2⟩ := hG.later x hxl (by omega)
   rw [show x.r.toNat - 1 = q by omega, show x.i.toNat = i by omega] at d1 d2
   have hs2 : 2 ^ (q + 1) = 2 * 2 ^ q := Nat.pow_succ'
   have e : (i + 1) * 2 ^ (q + 1) = (2 * (i + 1)) * 2 ^ q := by rw [hs2, Nat.mul_comm 2 (i + 1), Nat.mul_assoc]
   rw [e] at hib
   have b1 : (2 * i + 1) * 2 ^ q ≤ 2 ^ (r - 1) := Nat.le_trans (Nat.mul_le_mul_right _ (by omega)) hib
   have b2 : (2 * i + 1 + 1) * 2 ^ q ≤ 2 ^ (r - 1) := Nat.le_trans (Nat.mul_le_mul_right _ (by omega)) hib
   obtain ⟨u, hu, hu0⟩ := hG.val_some hS q (2 * i) b1 d1
   obtain ⟨v, hv, hv0⟩ := hG.val_some hS q (2 * i + 1) b2 d2
   have hdd : ∀ c, (c + 1) * 2 ^ q ≤ 2 ^ (r - 1) → doneB S l q c → doneD r S l D q c := fun c hc hd => by
    rcases hd with ⟨rfl, hb⟩ | ⟨y, hy, hky⟩
    ·exact .inl ⟨rfl, by omega, hb⟩
    ·right
     obtain ⟨j', hj', rfl⟩ := List.getElem_of_mem hy
     obtain ⟨y1, y2⟩ := isM_key.1 hky
     have hmem : j' ∈ D ++ j :: A := hO.1.mem_iff.2 (by simp [idL, hj'])
     refine ⟨j', ?_, _, List.getElem?_eq_getElem hj', hky⟩
     rcases List.mem_append.1 hmem with hm | hm
     ·exact hm
     ·exfalso
      rcases List.mem_cons.1 hm with rfl | hm
      ·rw [hx] at y1; omega
      ·have := (List.pairwise_cons.1 (List.pairwise_append.1 hO.2).2.1).1 j' hm
       unfold lx at this
       rw [rK_get hj, rK_get hj', hx, hq, y1] at this
       omega
   refine ⟨u.1, v.1, ?_, hu0, hv0, ?_⟩
   ·unfold sidW
    have e1 : (((q + 1 : Nat) : Int) - 1, 2 * (i : Int)) = ((q : Int), ((2 * i : Nat) : Int)) := by
     rw [show ((q + 1 : Nat) : Int) - 1 = q by omega, show 2 * (i : Int) = ((2 * i : Nat) : Int) by omega]
    have e2 : (((q + 1 : Nat) : Int) - 1, 2 * (i : Int) + 1) = ((q : Int), ((2 * i + 1 : Nat) : Int)) := by
     rw [show ((q + 1 : Nat) : Int) - 1 = q by omega, show 2 * (i : Int) + 1 = ((2 * i + 1 : Nat) : Int) by omega]
    rw [if_neg (by omega), e1, e2, h.yes q (2 * i) (hdd _ b1 d1), h.yes q (2 * i + 1) (hdd _ b2 d2), hu, hv]
    rfl
   ·unfold val
    rw [hG.find hxl hk, hu, hv]
 obtain ⟨a, b, s1, s2, s3, s4⟩ := hsd
 have ht := tk_good (hG.right x hxl) h2 (a := a) (b := b) (by rw [show x.r.toNat = q by omega, show x.i.toNat = i by omega]; exact s1) s2 s3
 rw [ht]
 refine ⟨rfl, fun q' i' hd => ?_, fun q' i' hd => ?_⟩
 ·show aget ((q' : Int), (i' : Int)) (aset (x.r, x.i) (resW x a b) W) = _
  rw [aget_aset]
  by_cases e : ((q' : Int), (i' : Int)) = (x.r, x.i)
  ·rw [if_pos e]
   obtain ⟨e1, e2⟩ := Prod.mk.inj e
   obtain rfl : q' = q := by omega
   obtain rfl : i' = i := by omega
   exact s4.symm
  ·rw [if_neg e]
   refine h.yes q' i' ?_
   rcases hd with hd | ⟨j', hj', y, hy, hky⟩
   ·exact .inl hd
   ·rcases List.mem_append.1 hj' with hm | hm
    ·exact .inr ⟨j', hm, y, hy, hky⟩
    ·exfalso
     rw [List.mem_singleton.1 hm, hx?] at hy
     obtain rfl := Option.some.inj hy
     obtain ⟨k1, k2⟩ := isM_key.1 hky
     exact e (by rw [k1, k2])
 ·show aget ((q' : Int), (i' : Int)) (aset (x.r, x.i) (resW x a b) W) = _
  rw [aget_aset, if_neg]
  ·refine h.no q' i' fun hd' => hd ?_
   rcases hd' with hd' | ⟨j', hj', y, hy, hky⟩
   ·exact .inl hd'
   ·exact .inr ⟨j', by simp [hj'], y, hy, hky⟩
  ·intro e
   obtain ⟨e1, e2⟩ := Prod.mk.inj e
   exact hd (.inr ⟨j, by simp, x, hx?, isM_key.2 ⟨e1.symm, e2.symm⟩⟩)
theorem plR_good {r : Nat} {S : List Int} {l : List Rs} (hr : 1 ≤ r ∧ r ≤ 6) (hG : GoodL r S l) (hS : ∀ i, i < 2 ^ (r - 1) → S.getD (2 * i) 0 ≠ 0) :
  ∀ (A D : List Nat) (W : Won), OrdOf l (D ++ A) → InvD r S l D W → (plR r S l A W).2.1 = 0 ∧ InvD r S l (D ++ A) (plR r S l A W).2.2
 | [], D, W, _, h => ⟨rfl, by rw [List.append_nil]; exact h⟩
 | j :: A, D, W, hO, h => by
  obtain ⟨x, hx, h1, h2⟩ := h.step hr hG hS hO
  have e : D ++ j :: A = (D ++ [j]) ++ A := by simp
  rw [e] at hO ⊢
  have := plR_good hr hG hS A (D ++ [j]) _ hO h2
  unfold plR
  rw [hx]
  simp only
  rw [if_neg (fun hh => hh h1)]
  exact this
end Go.Idl.K38
namespace Go.Idl.K38
open Go.Proofs
instance (K1 K2 : Nat → Int) (a b : Nat) : Decidable (lx K1 K2 a b) := by unfold lx; infer_instance
def ordN (l : List Rs) : List Nat := (idL l.length).mergeSort (fun a b => decide (¬ lx (rK l) (iK l) b a))
theorem ordN_ok (l : List Rs) : OrdOf l (ordN l) := by
 refine ⟨List.mergeSort_perm _ _, ?_⟩
 have h1 := List.pairwise_mergeSort (le := fun a b => decide (¬ lx (rK l) (iK l) b a)) (fun a b c h1 h2 => by
  simp only [decide_eq_true_eq] at *
  intro h
  unfold lx at *
  omega) (fun a b => by
  simp only [Bool.or_eq_true, decide_eq_true_eq]
  by_cases h : lx (rK l) (iK l) b a
  ·right; intro h'; exact lx_irr (lx_trans h h')
  ·exact .inl h) (idL l.length)
 have h2 : ((idL l.length).mergeSort (fun a b => decide (¬ lx (rK l) (iK l) b a))).Nodup := (List.mergeSort_perm _ _).nodup_iff.2 List.nodup_range
 refine (h1.and h2).imp fun ⟨h3, h4⟩ => ?_
 simp only [decide_eq_true_eq] at h3
 exact lx_total (fun e => h4 e.symm) h3
end Go.Idl.K38
namespace Go.Idl.K38
open Go.Proofs
theorem doneB.more {S : List Int} {l l' : List Rs} {q i : Nat} (h : doneB S l q i) (hl : ∀ x ∈ l, x ∈ l') : doneB S l' q i := by
 rcases h with h | ⟨x, hx, hk⟩
 ·exact .inl h
 ·exact .inr ⟨x, hl x hx, hk⟩
theorem GoodL.snoc {r : Nat} {S : List Int} {l : List Rs} (h : GoodL r S l) {x : Rs} {q i : Nat} (hk : isM q i x = true) (hb : ¬ badX r x) (hn : ¬ doneB S l q i) (hc : 0 < q → doneB S l (q - 1) (2 * i) ∧ doneB S l (q - 1) (2 * i + 1)) : GoodL r S (l ++ [x]) := by
 obtain ⟨k1, k2⟩ := isM_key.1 hk
 have mono : ∀ {q i}, doneB S l q i → doneB S (l ++ [x]) q i := fun hd => hd.more fun y hy => by simp [hy]
 refine ⟨fun y hy => ?_, ?_, fun y hy h0 => ?_, fun y hy h0 => ?_⟩
 ·rcases List.mem_append.1 hy with hy | hy
  ·exact h.right y hy
  ·rw [List.mem_singleton.1 hy]; exact hb
 ·refine List.pairwise_append.2 ⟨h.dist, by simp, fun y hy z hz hh => ?_⟩
  rw [List.mem_singleton.1 hz] at hh
  exact hn (.inr ⟨y, hy, isM_key.2 ⟨hh.1.trans k1, hh.2.trans k2⟩⟩)
 ·rcases List.mem_append.1 hy with hy | hy
  ·exact h.first y hy h0
  ·rw [List.mem_singleton.1 hy] at h0 ⊢
   intro hS
   exact hn (.inl ⟨by omega, by rw [show i = x.i.toNat by omega]; exact hS⟩)
 ·rcases List.mem_append.1 hy with hy | hy
  ·obtain ⟨d1, d2⟩ := h.later y hy h0
   exact ⟨mono d1, mono d2⟩
  ·rw [List.mem_singleton.1 hy] at h0 ⊢
   obtain ⟨d1, d2⟩ := hc (by omega)
   rw [show x.r.toNat - 1 = q - 1 by omega, show x.i.toNat = i by omega]
   exact ⟨mono d1, mono d2⟩
theorem GoodL.perm {r : Nat} {S : List Int} {l l' : List Rs} (h : GoodL r S l) (hp : l'.Perm l) : GoodL r S l' :=
 ⟨fun x hx => h.right x (hp.mem_iff.1 hx), (hp.pairwise_iff (fun hab hba => hab ⟨hba.1.symm, hba.2.symm⟩)).2 h.dist, fun x hx h0 => h.first x (hp.mem_iff.1 hx) h0, fun x hx h0 => by
  obtain ⟨d1, d2⟩ := h.later x (hp.mem_iff.1 hx) h0
  exact ⟨d1.more fun y hy => hp.mem_iff.2 hy, d2.more fun y hy => hp.mem_iff.2 hy⟩⟩
end Go.Idl.K38
namespace Go.Idl.K38
open Go.Proofs
theorem doneD_iff {r : Nat} {S : List Int} {l : List Rs} {A : List Nat} (hO : OrdOf l A) {q i : Nat} (hi : q = 0 → i < 2 ^ (r - 1)) : doneD r S l A q i ↔ doneB S l q i := by
 refine ⟨fun h => ?_, fun h => ?_⟩
 ·rcases h with ⟨h1, _, h3⟩ | ⟨j, _, x, hx, hk⟩
  ·exact .inl ⟨h1, h3⟩
  ·obtain ⟨hj, rfl⟩ := List.getElem?_eq_some_iff.1 hx
   exact .inr ⟨_, List.getElem_mem hj, hk⟩
 ·rcases h with ⟨h1, h3⟩ | ⟨x, hx, hk⟩
  ·exact .inl ⟨h1, hi h1, h3⟩
  ·obtain ⟨j, hj, rfl⟩ := List.getElem_of_mem hx
   exact .inr ⟨j, hO.1.mem_iff.2 (by simp [idL, hj]), _, List.getElem?_eq_getElem hj, hk⟩
theorem open_spec {r : Nat} {S : List Int} {l : List Rs} {A : List Nat} {W : Won} (hG : GoodL r S l) (hS : ∀ i, i < 2 ^ (r - 1) → S.getD (2 * i) 0 ≠ 0) (hO : OrdOf l A) (h : InvD r S l A W) {q i : Nat} (hi : (i + 1) * 2 ^ q ≤ 2 ^ (r - 1)) {m : Mt} (hm : opM S W q i = some m) :
  m.r = q ∧ m.i = i ∧ ¬ doneB S l q i ∧ (0 < q → doneB S l (q - 1) (2 * i) ∧ doneB S l (q - 1) (2 * i + 1)) := by
 unfold opM at hm
 split at hm
 ·rename_i hc
  obtain ⟨c1, c2⟩ := hc
  obtain rfl := Option.some.inj hm
  have hi0 : q = 0 → i < 2 ^ (r - 1) := fun e => by subst e; omega
  refine ⟨rfl, rfl, fun hd => ?_, fun hq => ?_⟩
  ·obtain ⟨u, hu, _⟩ := hG.val_some hS q i hi hd
   rw [h.yes q i ((doneD_iff hO hi0).2 hd), hu] at c2
   cases c2
  ·obtain ⟨k, rfl⟩ : ∃ k, q = k + 1 := ⟨q - 1, by omega⟩
   have hs2 : 2 ^ (k + 1) = 2 * 2 ^ k := Nat.pow_succ'
   have e : (i + 1) * 2 ^ (k + 1) = (2 * (i + 1)) * 2 ^ k := by rw [hs2, Nat.mul_comm 2 (i + 1), Nat.mul_assoc]
   rw [e] at hi
   have b2 : (2 * i + 1 + 1) * 2 ^ k ≤ 2 ^ (r - 1) := Nat.le_trans (Nat.mul_le_mul_right _ (by omega)) hi
   unfold sidW at c1
   have e1 : (((k + 1 : Nat) : Int) - 1, 2 * (i : Int)) = ((k : Int), ((2 * i : Nat) : Int)) := by
    rw [show ((k + 1 : Nat) : Int) - 1 = k by omega, show 2 * (i : Int) = ((2 * i : Nat) : Int) by omega]
   have e2 : (((k + 1 : Nat) : Int) - 1, 2 * (i : Int) + 1) = ((k : Int), ((2 * i + 1 : Nat) : Int)) := by
    rw [show ((k + 1 : Nat) : Int) - 1 = k by omega, show 2 * (i : Int) + 1 = ((2 * i + 1 : Nat) : Int) by omega]
   rw [if_neg (by omega), e1, e2] at c1
   simp only [Bool.and_eq_true] at c1
   have hd : ∀ c : Nat, (k = 0 → c < 2 ^ (r - 1)) → (aget ((k : Int), (c : Int)) W).isSome = true → doneB S l k c := fun c hc hs => by
    refine (doneD_iff hO hc).1 (Classical.byContradiction fun hn => ?_)
    rw [h.no k c hn] at hs
    cases hs
   rw [Nat.add_sub_cancel]
   exact ⟨hd _ (fun e => by subst e; omega) c1.1, hd _ (fun e => by subst e; omega) c1.2⟩
 ·cases hm
end Go.Idl.K38
