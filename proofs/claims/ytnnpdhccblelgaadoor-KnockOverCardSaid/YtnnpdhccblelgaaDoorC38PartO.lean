/-
  Chapter 38: comparing matches.
  Chapter 38: sorting numbers stably (plain).
  Chapter 38: sorting numbers stably: the walk of the insertion sort.
-/
import Derived.Test.YtnnpdhccblelgaaDoorC38PartM
import Derived.Test.YtnnpdhccblelgaaDoorC38PartN
namespace Go.Idl
set_option linter.all false
open Go.Proofs
set_option maxHeartbeats 16000000
set_option maxRecDepth 40000

def cmp3 (a b : Int) : Int := if a < b then -1 else if b < a then 1 else 0
theorem cmp3_bd (a b : Int) : -1 ≤ cmp3 a b ∧ cmp3 a b ≤ 1 := by unfold cmp3; split <;> (try split) <;> omega
theorem isNaN_fun (a : Int) : FN 102 [.int .i64 a] (fun v => v = .bool false) := by
  refine IFun.of_bodyZ false 3 [] Tryd.func102 rfl Tryd.call102 rfl fun R hR => ?_
  simp [go_sem]
  exact hR _ _ _ rfl (by simp [go_sem])
theorem compare_fun (a b : Int) : FN 90 [.int .i64 a, .int .i64 b] (fun v => v = .int .i64 (cmp3 a b)) := by
  refine IFun.of_bodyZ false 7 [11, 12, 13, 16, 19] Tryd.func90 rfl Tryd.call90 rfl fun R hR => ?_
  unfold cmp3 at hR
  simp [go_sem]
  refine (isNaN_fun a).callF (by simp [go_sem]) ?_
  rintro _ rfl
  simp [go_sem]
  refine (isNaN_fun b).callF (by simp [go_sem]) ?_
  rintro _ rfl
  by_cases h1 : a < b
  · rw [if_pos h1] at hR
    simp [go_sem, h1]
    exact hR _ _ _ rfl (by simp [go_sem])
  · rw [if_neg h1] at hR
    by_cases h2 : b < a
    · rw [if_pos h2] at hR
      simp [go_sem, h1, h2]
      exact hR _ _ _ rfl (by simp [go_sem])
    · rw [if_neg h2] at hR
      simp [go_sem, h1, h2]
      exact hR _ _ _ rfl (by simp [go_sem])
theorem or_fun (a b : Int) : FN 89 [.fz 1 [[.int .i64 a], [.int .i64 b]]] (fun v => v = .int .i64 (if a = 0 then b else a)) := by
  refine IFun.of_bodyZ false 6 [6, 7, 8, 9, 14] Tryd.func89 rfl Tryd.call89 rfl fun R hR => ?_
  simp [go_sem]
  refine IWp.loopT (α := Nat) (fun i => (⟨false, 18, 6, [6, 7, 8, 9, 14], glT, [(3, .int .i64 0), (6, .fz 1 [[.int .i64 a], [.int .i64 b]]), (7, .int .i64 2), (8, .int .i64 (i : Int))], []⟩, []))
    (fun i => i ≤ 2 ∧ (0 < i → a = 0) ∧ (1 < i → b = 0)) (fun i => 2 - i) 0 (by simp) (by simp [go_sem]) ?_
  rintro i ⟨hi, h0, h1⟩
  rcases (by omega : i = 0 ∨ i = 1 ∨ i = 2) with rfl | rfl | rfl
  · by_cases ha : a = 0
    · simp [go_sem, ha]
      exact ⟨1, by decide, ⟨by omega, fun h => absurd h (by omega)⟩, by omega⟩
    · rw [if_neg ha] at hR
      simp [go_sem, ha]
      exact hR _ _ _ rfl (by simp [go_sem])
  · by_cases hb : b = 0
    · simp [go_sem, hb]
      exact ⟨2, by decide, ⟨by omega, fun _ => h0 (by omega)⟩, by omega⟩
    · rw [if_pos (h0 (by omega))] at hR
      simp [go_sem, hb]
      exact hR _ _ _ rfl (by simp [go_sem])
  · rw [if_pos (h0 (by omega)), h1 (by omega)] at hR
    simp [go_sem]
    exact hR _ _ _ rfl (by simp [go_sem])
/-- How two matches compare, by round and index. -/
def cmpM (q i q' i' : Int) : Int := if cmp3 q q' = 0 then cmp3 i i' else cmp3 q q'
theorem mcompare_fun (q i a b q' i' a' b' : Int) : FN 76 [.agg [.int .i64 q, .int .i64 i, .int .i64 a, .int .i64 b], .agg [.int .i64 q', .int .i64 i', .int .i64 a', .int .i64 b']] (fun v => v = .int .i64 (cmpM q i q' i')) := by
  refine IFun.of_bodyW false 5 [] Tryd.func76 rfl Tryd.call76 rfl fun R hR => ?_
  have c1 := compare_fun q q'
  have c2 := compare_fun i i'
  have c3 := or_fun (cmp3 q q') (cmp3 i i')
  unfold cmpM at hR
  generalize cmp3 q q' = c at *
  generalize cmp3 i i' = d at *
  refine IWp.seqI ?_
  simp [go_sem]
  refine IWp.seqI ?_
  refine Drawn.intro (fun k => if k = 4 then .int .i64 c else if k = 9 then .int .i64 d else if k = 11 then .int .i64 (if c = 0 then d else c) else .tup []) ?_
  simp [go_sem, c1, c2, c3]
  refine ⟨by decide +kernel, ?_⟩
  refine IWp.now ?_
  simp [go_sem]
  exact hR _ _ _ rfl (by simp [go_sem])
/-- What the closure of play is called with: the captured cells. -/
def cmpC : IObj := .rows 1 [[.func (.func 76) [] []]]
def lC (l : List Rs) : IObj := .rows 1 [[.fz 6 (rss l)]]
theorem play1_reads (l : List Rs) (i j : Nat) (hi : i < l.length) (hj : j < l.length) (hl : l.length < 2 ^ 62) (b c : Nat) (H : Heap) (hb : H[b]? = some cmpC) (hc : H[c]? = some (lC l)) :
    ICalls Tryd.prog glT 78 [.int .i64 (i : Int), .int .i64 (j : Int), .ptr b 1 0 0, .ptr c 1 0 0] H (fun v σ => v = .int .i64 (cmpM l[i].r l[i].i l[j].r l[j].i) ∧ σ = H) := by
  refine ICalls.of_bodyV false 7 [] Tryd.func78 rfl Tryd.call78 rfl fun R hR => ?_
  have c1 := mcompare_fun l[i].r l[i].i 0 0 l[j].r l[j].i 0 0
  generalize hC : cmpM l[i].r l[i].i l[j].r l[j].i = C at *
  have lb : b < H.length := (List.getElem?_eq_some_iff.1 hb).1
  have lc : c < H.length := (List.getElem?_eq_some_iff.1 hc).1
  have n1 : ∀ k, (H.length + k = c) = False := fun k => eq_false (by omega)
  have n2 : ∀ k, (H.length + k = b) = False := fun k => eq_false (by omega)
  have n3 : ∀ k, (c = H.length + k) = False := fun k => eq_false (by omega)
  have n4 : ∀ k, (b = H.length + k) = False := fun k => eq_false (by omega)
  have n5 : (H.length = c) = False := eq_false (by omega)
  have n6 : (H.length = b) = False := eq_false (by omega)
  have n7 : (c = H.length) = False := eq_false (by omega)
  have n8 : (b = H.length) = False := eq_false (by omega)
  clear lb lc
  unfold cmpC at hb
  unfold lC at hc
  refine IWp.seqI ?_
  simp [go_sem]
  refine IWp.seqI ?_
  refine Drawn.intro (fun k => if k = 23 then .int .i64 C else .tup []) ?_
  simp [go_sem, hb, hc, hi, hj, c1, n1, n2, n3, n4, n5, n6, n7, n8]
  refine ⟨by decide +kernel, ?_⟩
  refine IWp.now ?_
  simp [go_sem]
  exact hR _ _ ⟨rfl, rfl⟩
theorem play1_ro (l : List Rs) (i j : Nat) (hi : i < l.length) (hj : j < l.length) (hl : l.length < 2 ^ 62) (b c : Nat) (h : Heap) (hb : h[b]? = some cmpC) (hc : h[c]? = some (lC l)) :
    readsOnly Tryd.prog glT 78 [.int .i64 (i : Int), .int .i64 (j : Int), .ptr b 1 0 0, .ptr c 1 0 0] h (.int .i64 (cmpM l[i].r l[i].i l[j].r l[j].i)) := fun H hH => by
  have h1 := hH b (by simp [go_sem])
  have h2 := hH c (by simp [go_sem])
  rw [show hget h b = some cmpC from hget_some.2 ⟨hb, rfl⟩] at h1
  rw [show hget h c = some (lC l) from hget_some.2 ⟨hc, rfl⟩] at h2
  exact play1_reads l i j hi hj hl b c H (hget_some.1 h1).1 (hget_some.1 h2).1
end Go.Idl
namespace Go.Idl
set_option linter.all false
open Go.Proofs
set_option maxHeartbeats 8000000
set_option maxRecDepth 40000

theorem cmpM_lx {K1 K2 : Nat → Int} {a b : Nat} (h : b < a) : cmpM (K1 a) (K2 a) (K1 b) (K2 b) < 0 ↔ lx K1 K2 a b := by
  unfold cmpM cmp3 lx
  split <;> split <;> (try split) <;> (try split) <;> omega
end Go.Idl
namespace Go.Idl
set_option linter.all false
open Go.Proofs
set_option maxHeartbeats 16000000
set_option maxRecDepth 40000

def rK (l : List Rs) (a : Nat) : Int := ((l[a]?).map Rs.r).getD 0
def iK (l : List Rs) (a : Nat) : Int := ((l[a]?).map Rs.i).getD 0
theorem rK_get {l : List Rs} {a : Nat} (h : a < l.length) : rK l a = l[a].r := by simp [rK, h]
theorem iK_get {l : List Rs} {a : Nat} (h : a < l.length) : iK l a = l[a].i := by simp [iK, h]
def cmpN (l : List Rs) (a b : Nat) : Int := cmpM (rK l a) (iK l a) (rK l b) (iK l b)
def play1V : IV := .func (.func 78) [] [.ptr 1 1 0 0, .ptr 2 1 0 0]
def sortH (l : List Rs) (A : List Nat) : Heap := [.rows 1 (nts A), cmpC, lC l]
theorem play1_at (l : List Rs) (i j : Nat) (hi : i < l.length) (hj : j < l.length) (hl : l.length < 2 ^ 62) (h : Heap) (hb : h[1]? = some cmpC) (hc : h[2]? = some (lC l)) :
    readsOnly Tryd.prog glT 78 [.int .i64 (i : Int), .int .i64 (j : Int), .ptr 1 1 0 0, .ptr 2 1 0 0] h (.int .i64 (cmpN l i j)) := by
  have := play1_ro l i j hi hj hl 1 2 h hb hc
  rw [← rK_get hi, ← rK_get hj, ← iK_get hi, ← iK_get hj] at this
  exact this
theorem insert_calls (l : List Rs) (A0 : List Nat) (lo hi : Nat) (h1 : lo < hi) (h2 : hi ≤ A0.length) (hr : ∀ x ∈ A0, x < l.length) (hl : l.length < 2 ^ 62) (hA : A0.length < 2 ^ 62) (ha : AscN A0 lo hi) :
    ICalls Tryd.prog glT 103 [.sl 0 A0.length 0 A0.length none, .int .i64 (lo : Int), .int .i64 (hi : Int), play1V] (sortH l A0)
      (fun _ σ => ∃ A, SegS (rK l) (iK l) A0 lo hi A ∧ σ = sortH l A) := by
  refine ICalls.forget (ICalls.of_bodyE false 10 [14, 34] Tryd.func103 rfl Tryd.call103 rfl fun R hR => ?_)
  have v0 : IntKind.i64.wrap ((lo : Int) + 1) = ((lo + 1 : Nat) : Int) := by rw [wrap64 (by omega) (by omega)]; omega
  obtain ⟨n, hn⟩ : ∃ n, A0.length = n := ⟨_, rfl⟩
  rw [hn] at h2 hA ⊢
  unfold sortH cmpC lC play1V at *
  simp [go_sem, v0]
  refine IWp.loopT (α := Nat × List Nat) (fun p => (⟨false, 53, 10, [14, 34], glT, [(0, .sl 0 n 0 n none), (1, .int .i64 (lo : Int)), (2, .int .i64 (hi : Int)), (3, play1V), (8, .int .i64 (p.1 : Int))], []⟩, sortH l p.2))
    (fun p => lo + 1 ≤ p.1 ∧ p.1 ≤ hi ∧ SegS (rK l) (iK l) A0 lo p.1 p.2) (fun p => hi - p.1) (lo + 1, A0) ⟨by simp, by simp; omega, .one⟩ (by simp [go_sem, sortH, cmpC, lC, play1V]) ?_
  rintro ⟨i, A⟩ ⟨hi1, hi2, hS⟩
  simp only at hi1 hi2 hS
  by_cases h : i < hi
  · have hI := hS.ins ha (by omega) h
    have v1 : IntKind.i64.wrap ((i : Int) + 1) = ((i + 1 : Nat) : Int) := by rw [wrap64 (by omega) (by omega)]; omega
    unfold sortH cmpC lC play1V
    simp [go_sem, h]
    refine IWp.loopI (α := Nat × List Nat) (fun p => (⟨false, 53, 10, [14, 34], glT, [(0, .sl 0 n 0 n none), (1, .int .i64 (lo : Int)), (2, .int .i64 (hi : Int)), (3, play1V), (8, .int .i64 (i : Int)), (9, .int .i64 (p.1 : Int))], []⟩, sortH l p.2))
      (fun p => lo ≤ p.1 ∧ p.1 ≤ i ∧ InsN (rK l) (iK l) A0 lo i p.1 p.2) (fun p => p.1) (i, A) ⟨by simp; omega, by simp, hI⟩ (by simp [go_sem, sortH, cmpC, lC, play1V]) ?_
    rintro ⟨j, B⟩ ⟨hj1, hj2, hJ⟩
    simp only at hj1 hj2 hJ
    have hB : B.length = n := by rw [hJ.len, hn]
    have hBr : ∀ x, x < n → B.getD x 0 < l.length := fun x hx => hr _ (hJ.perm.mem_iff.1 (by rw [show B.getD x 0 = B[x]'(by omega) by simp [show x < B.length by omega]]; exact List.getElem_mem _))
    by_cases hj0 : j = lo
    · subst hj0
      have v2 : (IntKind.i64.wrap ((j : Int) - 1)).toNat = j - 1 := by rw [wrap64 (by omega) (by omega)]; omega
      have a1 : j < n := by omega
      have e1 := nts_at (l := B) (i := j) (by omega)
      have e2 := nts_at (l := B) (i := j - 1) (by omega)
      unfold sortH cmpC lC play1V
      refine IWp.seq ?_
      refine IWp.seqI ?_
      refine Drawn.intro (fun k => .tup []) ?_
      simp [go_sem, hB, a1, e1, e2, v2]
      refine ⟨by decide +kernel, ?_⟩
      refine IWp.now ?_
      simp [go_sem]
      exact ⟨i + 1, B, ⟨v1, rfl⟩, ⟨by omega, by omega, hJ.low⟩, by omega⟩
    · have v2 : IntKind.i64.wrap ((j : Int) - 1) = ((j - 1 : Nat) : Int) := by rw [wrap64 (by omega) (by omega)]; omega
      have g1 : lo < j := by omega
      have a1 : j < n := by omega
      have a2 : j - 1 < n := by omega
      have e1 := nts_at (l := B) (i := j) (by omega)
      have e2 := nts_at (l := B) (i := j - 1) (by omega)
      have q1 : B[j]'(by omega) = B.getD j 0 := by simp [show j < B.length by omega]
      have q2 : B[j - 1]'(by omega) = B.getD (j - 1) 0 := by simp [show j - 1 < B.length by omega]
      have b1 := hBr j a1
      have b2 := hBr (j - 1) a2
      have hlt := cmpM_lx (K1 := rK l) (K2 := iK l) (hJ.big (j - 1) (by omega) (by omega) (by omega))
      have cc := fun h hb hc => play1_at l (B.getD j 0) (B.getD (j - 1) 0) b1 b2 hl h hb hc
      unfold cmpN at cc
      generalize hC : cmpM (rK l (B.getD j 0)) (iK l (B.getD j 0)) (rK l (B.getD (j - 1) 0)) (iK l (B.getD (j - 1) 0)) = C at *
      have hstep := hJ.step g1 hj2 (by omega)
      have hstop := hJ.stop g1 hj2
      have hsw : nts (swapN B j) = ((nts B).set j [.int .i64 (B.getD (j - 1) 0 : Nat)]).set (j - 1) [.int .i64 (B.getD j 0 : Nat)] := by rw [swapN, nts_set, nts_set]
      generalize B.getD j 0 = X at *
      generalize B.getD (j - 1) 0 = Y at *
      generalize hSw : swapN B j = Sw at *
      unfold sortH cmpC lC play1V
      refine IWp.seq ?_
      refine IWp.seqI ?_
      refine Drawn.intro (fun k => if k = 14 then .tup [.junk, .junk, .int .i64 C] else .tup []) ?_
      simp [go_sem, hB, g1, v2, a1, a2, e1, e2, q1, q2]
      refine ⟨cc _ rfl rfl, by decide +kernel, ?_⟩
      by_cases hx : lx (rK l) (iK l) X Y
      · have hC0 := hlt.2 hx
        have hI2 := hstep hx
        refine IWp.now ?_
        simp [go_sem, hC0]
        refine IWp.now ?_
        simp [go_sem, hB, g1, v2, a1, a2, e1, e2, q1, q2]
        refine ⟨by decide +kernel, j - 1, Sw, ⟨rfl, ?_⟩, ⟨by omega, by omega, hI2⟩, by omega⟩
        rw [hsw, List.getElem_set_ne (by omega), nts_getElem]
        rfl
      · have hC0 : ¬ C < 0 := fun h => hx (hlt.1 h)
        have hI2 := hstop hx
        refine IWp.now ?_
        simp [go_sem, hC0]
        exact ⟨i + 1, B, ⟨v1, rfl⟩, ⟨by omega, by omega, hI2⟩, by omega⟩
  · obtain rfl : i = hi := by omega
    unfold sortH cmpC lC play1V
    simp [go_sem]
    exact hR _ _ ⟨_, by simp [go_sem], A, hS, rfl⟩
/-- The numbers of a list, in order. -/
def idL (n : Nat) : List Nat := List.range n
@[simp] theorem idL_length {n : Nat} : (idL n).length = n := by simp [idL]
theorem ascIdL {n lo hi : Nat} (h : hi ≤ n) : AscN (idL n) lo hi := fun x y h1 h2 h3 => by
  have e1 : (idL n).getD x 0 = x := by simp [idL, show x < n by omega]
  have e2 : (idL n).getD y 0 = y := by simp [idL, show y < n by omega]
  rw [e1, e2]; exact h2
/-- The order in which the results are looked at. -/
def OrdOf (l : List Rs) (A : List Nat) : Prop := A.Perm (idL l.length) ∧ A.Pairwise (lx (rK l) (iK l))
theorem SegS.ord {l : List Rs} {A : List Nat} (h : SegS (rK l) (iK l) (idL l.length) 0 l.length A) : OrdOf l A := ⟨h.perm, by
  have hl : A.length = l.length := by rw [h.len]; simp [idL]
  rw [List.pairwise_iff_getElem]
  intro a b ha hb hab
  have := h.srt a b (by omega) hab (by omega)
  rwa [show A.getD a 0 = A[a] by simp [ha], show A.getD b 0 = A[b] by simp [hb]] at this⟩
theorem OrdOf.eq {l : List Rs} {A B : List Nat} (h : OrdOf l A) (h' : OrdOf l B) : A = B :=
  List.Perm.eq_of_pairwise (fun a b _ _ h1 h2 => absurd (lx_trans h1 h2) lx_irr) h.2 h'.2 (h.1.trans h'.1.symm)
theorem insert_none (l : List Rs) (A0 : List Nat) (lo hi : Nat) (h1 : hi ≤ lo) (hlo : lo < 2 ^ 62) :
    ICalls Tryd.prog glT 103 [.sl 0 A0.length 0 A0.length none, .int .i64 (lo : Int), .int .i64 (hi : Int), play1V] (sortH l A0)
      (fun _ σ => σ = sortH l A0) := by
  refine ICalls.forget (ICalls.of_bodyE false 10 [14, 34] Tryd.func103 rfl Tryd.call103 rfl fun R hR => ?_)
  have v0 : IntKind.i64.wrap ((lo : Int) + 1) = ((lo + 1 : Nat) : Int) := by rw [wrap64 (by omega) (by omega)]; omega
  have g1 : ¬ lo + 1 < hi := by omega
  have g2 : ¬ (lo : Int) + 1 < hi := by omega
  unfold sortH cmpC lC play1V at *
  simp [go_sem, v0]
  refine IWp.loopT (α := Unit) (fun p => (⟨false, 53, 10, [14, 34], glT, [(0, .sl 0 A0.length 0 A0.length none), (1, .int .i64 (lo : Int)), (2, .int .i64 (hi : Int)), (3, play1V), (8, .int .i64 ((lo + 1 : Nat) : Int))], []⟩, sortH l A0))
    (fun p => True) (fun p => 0) () trivial (by simp [go_sem, sortH, cmpC, lC, play1V]) ?_
  rintro _ _
  unfold sortH cmpC lC play1V
  simp [go_sem, g1, g2]
  exact hR _ _ ⟨_, by simp [go_sem], rfl⟩
end Go.Idl
