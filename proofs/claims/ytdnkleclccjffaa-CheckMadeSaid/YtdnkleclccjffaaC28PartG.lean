/-
  Package mitchell: Pairs.
-/
import Derived.Test.YtdnkleclccjffaaC28PartE
import Derived.Test.YtdnkleclccjffaaC28PartC
import Derived.Test.YtdnkleclccjffaaC28PartB
namespace Go.Idl
set_option linter.all false
open Go.Proofs
set_option maxHeartbeats 4000000
set_option maxRecDepth 40000

def rowP (x : Rw) : List Int := (if 0 < x.ns then [x.ns] else []) ++ (if 0 < x.ew then [x.ew] else [])
def allP (L : List Rw) : List Int := L.flatMap rowP
def prs (L : List Rw) : List Int := srt (allP L)
theorem pairs_fun (m : Mv) (hl : m.rows.length ≤ 2 ^ 30) : FN 27 [m.v] (fun v => v = .fz 1 (ints (prs m.rows))) := by
  refine IFun.of_bodyZ false 8 [9, 10, 11, 12, 19, 20, 21, 24] Try.func27 rfl Try.call27 rfl fun R hR => ?_
  obtain ⟨tb, ro, se, co, wi, L⟩ := m
  simp [go_sem, Mv.v]
  refine IWp.ownNilS 1 3 (by decide) (by simp [go_sem]) ?_
  simp at hl
  obtain ⟨M, hMd⟩ : ∃ M : Nat → List Int, M = fun i => allP (L.take i) := ⟨_, rfl⟩
  have hM0 : M 0 = [] := by rw [hMd]; simp [allP]
  have hMl : M L.length = allP L := by rw [hMd]; simp
  have hlen : ∀ l : List Rw, (allP l).length ≤ 2 * l.length := fun l => by
    induction l with
    | nil => simp [allP]
    | cons x l ih =>
      have : (rowP x).length ≤ 2 := by unfold rowP; split <;> split <;> simp
      simp only [allP, List.flatMap_cons, List.length_append, List.length_cons] at ih ⊢
      omega
  have hMlen : ∀ i, (M i).length ≤ 2 ^ 31 := fun i => by
    have := hlen (L.take i)
    rw [hMd]; simp at this ⊢; omega
  simp [go_sem, -List.cons_append]
  refine IWp.loopT (α := Nat) (fun i => (⟨false, 35, 8, [9, 10, 11, 12, 19, 20, 21, 24], [], [(3, .sl 1 (M i).length 0 (M i).length none), (9, .fz 5 (rws L)), (10, .int .i64 L.length), (11, .int .i64 (i : Int))], []⟩, [.dead, .rows 1 (ints (M i))]))
    (fun i => i ≤ L.length) (fun i => L.length - i) 0 (by simp) (by simp [go_sem, hM0]) ?_
  intro i hi
  by_cases h : i < L.length
  · have w1 : IntKind.i64.wrap ((i : Int) + 1) = i + 1 := wrap64 (by omega) (by omega)
    have hs : M (i + 1) = M i ++ rowP L[i] := by
      rw [hMd]
      show allP (L.take (i + 1)) = _
      rw [List.take_succ_eq_append_getElem h]
      unfold allP
      rw [List.flatMap_append]; simp only [List.flatMap_cons, List.flatMap_nil, List.append_nil]
    have hl1 := hMlen i
    have hl2 := hMlen (i + 1)
    generalize hx : L[i] = x at *
    obtain ⟨N, hN⟩ : ∃ N : Nat → List Int, N = fun j => M i ++ (if 1 ≤ j then (if 0 < x.ns then [x.ns] else []) else []) ++ (if 2 ≤ j then (if 0 < x.ew then [x.ew] else []) else []) := ⟨_, rfl⟩
    have hN0 : N 0 = M i := by rw [hN]; simp
    have hN1 : N 1 = N 0 ++ (if 0 < x.ns then [x.ns] else []) := by rw [hN]; simp
    have hN2 : N 2 = N 1 ++ (if 0 < x.ew then [x.ew] else []) := by rw [hN]; simp
    have hNe : M (i + 1) = N 2 := by rw [hs, hN2, hN1, hN0]; simp [rowP]
    have hNl : ∀ j, (N j).length ≤ 2 ^ 31 + 2 := fun j => by
      rw [hN]; simp only [List.length_append]
      have a : ∀ (c d : Prop) [Decidable c] [Decidable d] (z : Int), (if c then (if d then [z] else []) else []).length ≤ 1 := fun c d _ _ z => by split <;> (try split) <;> simp
      have := a (1 ≤ j) (0 < x.ns) x.ns
      have := a (2 ≤ j) (0 < x.ew) x.ew
      omega
    clear hN
    simp [go_sem, h, hx]
    refine IWp.loopT (α := Nat) (fun j => (⟨false, 35, 8, [9, 10, 11, 12, 19, 20, 21, 24], [], [(3, .sl 1 (N j).length 0 (N j).length none), (9, .fz 5 (rws L)), (10, .int .i64 L.length), (11, .int .i64 (i : Int)), (19, .agg [.int .i64 x.ns, .int .i64 x.ew]), (20, .int .i64 (j : Int))], []⟩, [.dead, .rows 1 (ints (N j)), .dead]))
      (fun j => j ≤ 2) (fun j => 2 - j) 0 (by simp) (by simp [go_sem, hN0]) ?_
    intro j hj
    rcases (by omega : j = 0 ∨ j = 1 ∨ j = 2) with rfl | rfl | rfl
    · have := hNl 0
      have hw : IntKind.i64.wrap 1 = 1 := rfl
      by_cases hp : 0 < x.ns
      · rw [if_pos hp] at hN1
        simp [go_sem, hp]
        exact ⟨by omega, 1, ⟨⟨by rw [hN1]; simp, hw⟩, by rw [hN1, ints_snoc]⟩, by omega, by omega⟩
      · rw [if_neg hp, List.append_nil] at hN1
        simp [go_sem, hp]
        exact ⟨1, ⟨⟨by rw [hN1], hw⟩, by rw [hN1]⟩, by omega, by omega⟩
    · have := hNl 1
      have hw : IntKind.i64.wrap 2 = 2 := rfl
      by_cases hp : 0 < x.ew
      · rw [if_pos hp] at hN2
        simp [go_sem, hp]
        exact ⟨by omega, 2, ⟨⟨by rw [hN2]; simp, hw⟩, by rw [hN2, ints_snoc]⟩, by omega, by omega⟩
      · rw [if_neg hp, List.append_nil] at hN2
        simp [go_sem, hp]
        exact ⟨2, ⟨⟨by rw [hN2], hw⟩, by rw [hN2]⟩, by omega, by omega⟩
    · simp [go_sem, w1]
      exact ⟨i + 1, ⟨⟨by rw [hNe], by simp⟩, by rw [hNe]⟩, by omega, by omega⟩
  · have : i = L.length := by omega
    subst this
    have hal : (allP L).length ≤ 2 ^ 31 := by rw [← hMl]; exact hMlen _
    simp [go_sem, hMl]
    refine ICalls.sortA (zs := allP L) (b := 1) sortInt sort0 Try.call55 (by simp [ints]) rfl (by omega) ?_
    have hml : ((allP L).mergeSort fun x y => decide (x ≤ y)).length = (allP L).length := List.length_mergeSort _
    have hpr : prs L = Lib.compact ((allP L).mergeSort fun x y => decide (x ≤ y)) := rfl
    generalize ((allP L).mergeSort fun x y => decide (x ≤ y)) = S at *
    rw [← hml]
    simp [go_sem]
    refine ICalls.compactA (zs := S) (b := 1) compactInt compact0 Try.call56 (by simp) rfl (by omega) ?_
    have hcl := compact_le S
    have hfin : ints (prs L) = mp (fun z => [.int .i64 z]) (Lib.compact S) := by rw [hpr]; rfl
    generalize Lib.compact S = C at *
    have htk : List.take C.length (mp (fun z => [IV.int .i64 z]) (C ++ List.replicate (S.length - C.length) 0)) = mp (fun z => [IV.int .i64 z]) C := by rw [← mp_take]; simp
    have hZ : (C ++ List.replicate (S.length - C.length) 0).length = S.length := by simp; omega
    generalize C ++ List.replicate (S.length - C.length) 0 = Z at *
    rw [← hZ]
    simp [go_sem]
    refine hR _ _ _ rfl ?_
    simp [go_sem, hfin, cutR, htk]
    have hsc : ScR (mp (fun z => [IV.int .i64 z]) C) := mp_sc (by simp [scal])
    exact ⟨⟨by omega, okR_sc hsc⟩, (frzR_sc hsc).symm⟩
theorem prs_mem {L : List Rw} {p : Int} : p ∈ prs L ↔ 1 ≤ p ∧ ∃ x ∈ L, x.ns = p ∨ x.ew = p := by
  unfold prs
  rw [srt_mem]
  simp only [allP, List.mem_flatMap, rowP, List.mem_append]
  constructor
  · rintro ⟨x, hx, h⟩
    rcases h with h | h
    · split at h <;> simp at h; subst h; exact ⟨by omega, x, hx, .inl rfl⟩
    · split at h <;> simp at h; subst h; exact ⟨by omega, x, hx, .inr rfl⟩
  · rintro ⟨h1, x, hx, rfl | rfl⟩
    · exact ⟨x, hx, .inl (by rw [if_pos (by omega)]; simp)⟩
    · exact ⟨x, hx, .inr (by rw [if_pos (by omega)]; simp)⟩
theorem prs_len (L : List Rw) : (prs L).length ≤ 2 * L.length := by
  have h0 : (prs L).length ≤ (allP L).length := Nat.le_trans (compact_le _) (Nat.le_of_eq (List.length_mergeSort _))
  refine Nat.le_trans h0 ?_
  clear h0
  induction L with
  | nil => simp [allP]
  | cons x l ih =>
    have : (rowP x).length ≤ 2 := by unfold rowP; split <;> split <;> simp
    simp only [allP, List.flatMap_cons, List.length_append, List.length_cons] at ih ⊢
    omega
end Go.Idl
