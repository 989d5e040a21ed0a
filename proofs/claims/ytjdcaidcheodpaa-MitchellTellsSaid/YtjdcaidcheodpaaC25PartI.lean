/-
  Chapter 25: Pairs.
  Chapter 25: the reference's put.
-/
import Derived.Test.YtjdcaidcheodpaaC25PartH
import Derived.Test.YtjdcaidcheodpaaC25PartC
import Derived.Test.YtjdcaidcheodpaaC25PartB
namespace Go.Idl
set_option linter.all false
open Go.Proofs
set_option maxHeartbeats 4000000
set_option maxRecDepth 40000

def rowP (x : Rw) : List Int := (if 0 < x.ns then [x.ns] else []) ++ (if 0 < x.ew then [x.ew] else [])
def allP (L : List Rw) : List Int := L.flatMap rowP
def prs (L : List Rw) : List Int := srt (allP L)
theorem pairs_fun (m : Mv) (hl : m.rows.length ≤ 2 ^ 30) : FN 17 [m.v] (fun v => v = .fz 1 (ints (prs m.rows))) := by
  refine IFun.of_bodyZ false 8 [9, 10, 11, 12, 19, 20, 21, 24] Try.func17 rfl Try.call17 rfl fun R hR => ?_
  obtain ⟨tb, ro, se, co, wi, L⟩ := m
  simp [go_sem, Mv.v]
  refine IWp.ownNilS 1 3 (by decide) (by simp [go_sem]) ?_
  simp at hl
  obtain ⟨M, hMd⟩ : ∃ M : Nat → List Int, M = fun i => allP (L.take i) := ⟨_, rfl⟩
  have hM0 : M 0 = [] := by rw [hMd]; simp [allP]
  have hMl : M L.length = allP L := by rw [hMd]; simp
  have hlen : ∀ l : List Rw, (allP l).length ≤ 2 * l.length := fun l => by
    induction l with
    | nil => simp [allP]
    | cons x l ih =>
      have : (rowP x).length ≤ 2 := by unfold rowP; split <;> split <;> simp
      simp only [allP, List.flatMap_cons, List.length_append, List.length_cons] at ih ⊢
      omega
  have hMlen : ∀ i, (M i).length ≤ 2 ^ 31 := fun i => by
    have := hlen (L.take i)
    rw [hMd]; simp at this ⊢; omega
  simp [go_sem, -List.cons_append]
  refine IWp.loopT (α := Nat) (fun i => (⟨false, 35, 8, [9, 10, 11, 12, 19, 20, 21, 24], [], [(3, .sl 1 (M i).length 0 (M i).length none), (9, .fz 5 (rws L)), (10, .int .i64 L.length), (11, .int .i64 (i : Int))], []⟩, [.dead, .rows 1 (ints (M i))]))
    (fun i => i ≤ L.length) (fun i => L.length - i) 0 (by simp) (by simp [go_sem, hM0]) ?_
  intro i hi
  by_cases h : i < L.length
  · have w1 : IntKind.i64.wrap ((i : Int) + 1) = i + 1 := wrap64 (by omega) (by omega)
    have hs : M (i + 1) = M i ++ rowP L[i] := by
      rw [hMd]
      show allP (L.take (i + 1)) = _
      rw [List.take_succ_eq_append_getElem h]
      unfold allP
      rw [List.flatMap_append]; simp only [List.flatMap_cons, List.flatMap_nil, List.append_nil]
    have hl1 := hMlen i
    have hl2 := hMlen (i + 1)
    generalize hx : L[i] = x at *
    obtain ⟨N, hN⟩ : ∃ N : Nat → List Int, N = fun j => M i ++ (if 1 ≤ j then (if 0 < x.ns then [x.ns] else []) else []) ++ (if 2 ≤ j then (if 0 < x.ew then [x.ew] else []) else []) := ⟨_, rfl⟩
    have hN0 : N 0 = M i := by rw [hN]; simp
    have hN1 : N 1 = N 0 ++ (if 0 < x.ns then [x.ns] else []) := by rw [hN]; simp
    have hN2 : N 2 = N 1 ++ (if 0 < x.ew then [x.ew] else []) := by rw [hN]; simp
    have hNe : M (i + 1) = N 2 := by rw [hs, hN2, hN1, hN0]; simp [rowP]
    have hNl : ∀ j, (N j).length ≤ 2 ^ 31 + 2 := fun j => by
      rw [hN]; simp only [List.length_append]
      have a : ∀ (c d : Prop) [Decidable c] [Decidable d] (z : Int), (if c then (if d then [z] else []) else []).length ≤ 1 := fun c d _ _ z => by split <;> (try split) <;> simp
      have := a (1 ≤ j) (0 < x.ns) x.ns
      have := a (2 ≤ j) (0 < x.ew) x.ew
      omega
    clear hN
    simp [go_sem, h, hx]
    refine IWp.loopT (α := Nat) (fun j => (⟨false, 35, 8, [9, 10, 11, 12, 19, 20, 21, 24], [], [(3, .sl 1 (N j).length 0 (N j).length none), (9, .fz 5 (rws L)), (10, .int .i64 L.length), (11, .int .i64 (i : Int)), (19, .agg [.int .i64 x.ns, .int .i64 x.ew]), (20, .int .i64 (j : Int))], []⟩, [.dead, .rows 1 (ints (N j)), .dead]))
      (fun j => j ≤ 2) (fun j => 2 - j) 0 (by simp) (by simp [go_sem, hN0]) ?_
    intro j hj
    rcases (by omega : j = 0 ∨ j = 1 ∨ j = 2) with rfl | rfl | rfl
    · have := hNl 0
      have hw : IntKind.i64.wrap 1 = 1 := rfl
      by_cases hp : 0 < x.ns
      · rw [if_pos hp] at hN1
        simp [go_sem, hp]
        exact ⟨by omega, 1, ⟨⟨by rw [hN1]; simp, hw⟩, by rw [hN1, ints_snoc]⟩, by omega, by omega⟩
      · rw [if_neg hp, List.append_nil] at hN1
        simp [go_sem, hp]
        exact ⟨1, ⟨⟨by rw [hN1], hw⟩, by rw [hN1]⟩, by omega, by omega⟩
    · have := hNl 1
      have hw : IntKind.i64.wrap 2 = 2 := rfl
      by_cases hp : 0 < x.ew
      · rw [if_pos hp] at hN2
        simp [go_sem, hp]
        exact ⟨by omega, 2, ⟨⟨by rw [hN2]; simp, hw⟩, by rw [hN2, ints_snoc]⟩, by omega, by omega⟩
      · rw [if_neg hp, List.append_nil] at hN2
        simp [go_sem, hp]
        exact ⟨2, ⟨⟨by rw [hN2], hw⟩, by rw [hN2]⟩, by omega, by omega⟩
    · simp [go_sem, w1]
      exact ⟨i + 1, ⟨⟨by rw [hNe], by simp⟩, by rw [hNe]⟩, by omega, by omega⟩
  · have : i = L.length := by omega
    subst this
    have hal : (allP L).length ≤ 2 ^ 31 := by rw [← hMl]; exact hMlen _
    simp [go_sem, hMl]
    refine ICalls.sortA (zs := allP L) (b := 1) sortInt sort0 Try.call32 (by simp [ints]) rfl (by omega) ?_
    have hml : ((allP L).mergeSort fun x y => decide (x ≤ y)).length = (allP L).length := List.length_mergeSort _
    have hpr : prs L = Lib.compact ((allP L).mergeSort fun x y => decide (x ≤ y)) := rfl
    generalize ((allP L).mergeSort fun x y => decide (x ≤ y)) = S at *
    rw [← hml]
    simp [go_sem]
    refine ICalls.compactA (zs := S) (b := 1) compactInt compact0 Try.call33 (by simp) rfl (by omega) ?_
    have hcl := compact_le S
    have hfin : ints (prs L) = mp (fun z => [.int .i64 z]) (Lib.compact S) := by rw [hpr]; rfl
    generalize Lib.compact S = C at *
    have htk : List.take C.length (mp (fun z => [IV.int .i64 z]) (C ++ List.replicate (S.length - C.length) 0)) = mp (fun z => [IV.int .i64 z]) C := by rw [← mp_take]; simp
    have hZ : (C ++ List.replicate (S.length - C.length) 0).length = S.length := by simp; omega
    generalize C ++ List.replicate (S.length - C.length) 0 = Z at *
    rw [← hZ]
    simp [go_sem]
    refine hR _ _ _ rfl ?_
    simp [go_sem, hfin, cutR, htk]
    have hsc : ScR (mp (fun z => [IV.int .i64 z]) C) := mp_sc (by simp [scal])
    exact ⟨⟨by omega, okR_sc hsc⟩, (frzR_sc hsc).symm⟩
end Go.Idl
namespace Go.Idl
set_option linter.all false
open Go.Proofs
set_option maxHeartbeats 4000000
set_option maxRecDepth 40000

def putL (l : List Int) (n : Int) : List Int := if n < 1 then l else l.takeWhile (fun x => decide (x < n)) ++ ((if (l.dropWhile (fun x => decide (x < n))).head? = some n then [] else [n]) ++ l.dropWhile (fun x => decide (x < n)))
theorem put_split {l : List Int} {n : Int} {k : Nat} (hk : k ≤ l.length) (ha : ∀ j (h : j < l.length), j < k → l[j] < n) (hb : ∀ h : k < l.length, ¬ l[k] < n) :
    l.takeWhile (fun x => decide (x < n)) = l.take k ∧ l.dropWhile (fun x => decide (x < n)) = l.drop k := by
  induction l generalizing k with
  | nil => simp
  | cons a l ih =>
    cases k with
    | zero =>
      have := hb (by simp)
      simp at this
      simp [List.takeWhile_cons, List.dropWhile_cons, show ¬ a < n by omega]
    | succ k =>
      have h0 := ha 0 (by simp) (by omega)
      simp at h0
      have := ih (k := k) (by simpa using hk) (fun j h hj => by have := ha (j + 1) (by simpa using h) (by omega); simpa using this) (fun h => by have := hb (by simpa using h); simpa using this)
      simp [List.takeWhile_cons, List.dropWhile_cons, h0, this.1, this.2]
theorem put_fun (l : List Int) (n : Int) (hl : l.length ≤ 2 ^ 31) : ON 55 [.fz 1 (ints l), .int .i64 n] (fun v => v = .fz 1 (ints (putL l n))) := by
  refine IFun.of_bodyZ false 7 [8, 21, 42] Try.func55 rfl Try.call55 rfl fun R hR => ?_
  simp [go_sem]
  by_cases h1 : n < 1
  · simp [go_sem, h1]
    exact hR _ _ _ rfl (by simp [go_sem, putL, h1])
  simp [go_sem, h1]
  refine IWp.ownNilS 1 5 (by decide) (by simp [go_sem]) ?_
  simp [go_sem]
  obtain ⟨T, hT⟩ : ∃ T : Nat → List Int, T = fun k => l.take k := ⟨_, rfl⟩
  have hT0 : T 0 = [] := by rw [hT]; rfl
  have hTl : ∀ k, k ≤ l.length → (T k).length = k := fun k hk => by rw [hT]; simp; omega
  refine IWp.loopT (α := Nat) (fun k => (⟨false, 52, 7, [8, 21, 42], [], [(0, .fz 1 (ints l)), (1, .int .i64 n), (5, .sl 0 (T k).length 0 (T k).length none), (6, .int .i64 (k : Int))], []⟩, [.rows 1 (ints (T k))]))
    (fun k => k ≤ l.length ∧ ∀ j (h : j < l.length), j < k → l[j] < n) (fun k => l.length - k) 0 (by simp) (by simp [go_sem, hT0]) ?_
  rintro k ⟨hk, ha⟩
  have hlk := hTl k hk
  by_cases h : k < l.length ∧ ∃ h : k < l.length, l[k] < n
  · obtain ⟨h, _, h2⟩ := h
    have w1 : IntKind.i64.wrap ((k : Int) + 1) = k + 1 := wrap64 (by omega) (by omega)
    have hs : T (k + 1) = T k ++ [l[k]] := by rw [hT]; exact List.take_succ_eq_append_getElem h
    simp [go_sem, h, h2, w1]
    exact ⟨by omega, k + 1, ⟨⟨by rw [hlk, hTl _ h], by simp⟩, by rw [hs, ints_snoc]⟩, ⟨h, fun j hj h3 => by
      by_cases e : j = k
      · subst e; exact h2
      · exact ha j hj (by omega)⟩, by omega⟩
  · have hb : ∀ h : k < l.length, ¬ l[k] < n := fun h3 h4 => h ⟨h3, h3, h4⟩
    obtain ⟨e1, e2⟩ := put_split hk ha hb
    have hd : List.drop k (List.take l.length (ints l)) = ints (l.drop k) := by rw [List.take_of_length_le (by simp), ints_drop]
    have hdl : (ints (l.drop k)).length = l.length - k := by simp
    have hTT : l.take k = T k := by rw [hT]
    have hP : putL l n = T k ++ ((if (l.drop k).head? = some n then [] else [n]) ++ l.drop k) := by unfold putL; rw [if_neg h1, e1, e2, hTT]
    have hone := ints_one (l := l.drop k)
    by_cases h3 : k < l.length
    · have h4 := hb h3
      have h6 : (l.drop k).head? = some l[k] := by simp [h3]
      rw [h6] at hP
      have hkl : ¬ (k : Int) = l.length := by omega
      have hkl' : ¬ k = l.length := by omega
      by_cases h5 : l[k] = n
      · simp [go_sem, h3, h4, h5, hd, hkl, hkl']
        rw [if_pos (by rw [h5])] at hP
        refine ⟨by omega, ⟨by omega, fun r hr => hone r hr⟩, ?_⟩
        refine hR _ _ _ rfl ?_
        rw [hP]
        simp [go_sem, ← ints_append]
      · simp [go_sem, h3, h4, h5, hd]
        rw [if_neg (by simpa using h5)] at hP
        refine ⟨by omega, by omega, ⟨by omega, fun r hr => hone r hr⟩, ?_⟩
        have hrow : ints (T k) ++ [.int .i64 n] :: ints (l.drop k) = ints (putL l n) := by rw [hP]; simp [ints_append, ints_cons]
        have hlen : (T k).length + 1 + (l.length - k) = (putL l n).length := by rw [hP]; simp; omega
        rw [hrow, hlen]
        refine hR _ _ _ rfl ?_
        simp [go_sem]
    · have : k = l.length := by omega
      subst this
      have h6 : (l.drop l.length).head? = none := by simp
      rw [h6, if_neg (by simp)] at hP
      simp [go_sem]
      refine ⟨by omega, hR _ _ _ rfl ?_⟩
      rw [hP]
      simp [go_sem, ints_append, ints_cons, ints_nil]
end Go.Idl
