/-
  Chapter 25: the reference's Without; Where, both.
  Chapter 25: Where, both.
-/
import Derived.Test.YtjdcaidcheodpaaC25PartG
namespace Go.Idl
set_option linter.all false
open Go.Proofs
set_option maxHeartbeats 4000000
set_option maxRecDepth 40000

theorem refWithout_fun (m : Mv) (p : Int) (hl : m.rows.length ≤ 2 ^ 31) : FN 35 [m.v, .int .i64 p] (fun v => v = .tup [(woM p m).v, .int .i64 (woE p m)]) := by
  refine IFun.of_bodyZ false 10 [16, 31, 40, 49] Try.func35 rfl Try.call35 rfl fun R hR => ?_
  obtain ⟨tb, ro, se, co, wi, L⟩ := m
  obtain ⟨g, hg⟩ : ∃ g : Bool, g = decide (1 ≤ p) := ⟨_, rfl⟩
  have hE : woE p ⟨tb, ro, se, co, wi, L⟩ = if (g && hasP' p L) = true then 0 else 6 := by unfold woE; rw [hg]; simp
  have hM : woM p ⟨tb, ro, se, co, wi, L⟩ = if (g && hasP' p L) = true then ⟨tb, ro, se, co, wi, L.map (wF p)⟩ else mvZ := by unfold woM; rw [hE]; split <;> simp
  simp at hl
  simp [go_sem, Mv.v]
  refine IWp.ownNil 5 _ [.rows 6 [[.int .i64 tb, .int .i64 ro, .int .i64 se, .int .i64 co, .int .i64 wi, .fz 5 (rws L)]], .rows 6 [[.int .i64 0, .int .i64 0, .int .i64 0, .int .i64 0, .int .i64 0, .nils]], .rows 6 [[.int .i64 tb, .int .i64 ro, .int .i64 se, .int .i64 co, .int .i64 wi, .sl 3 0 0 0 none]]] (by decide) (nlL_refl _) (by simp [go_sem]) ?_
  simp only [List.cons_append, List.nil_append]
  obtain ⟨W, hW⟩ : ∃ W : Rw → Rw, W = fun x => if 1 ≤ p then wF p x else x := ⟨_, rfl⟩
  obtain ⟨M, hMd⟩ : ∃ M : Nat → List Rw, M = fun i => L.take i := ⟨_, rfl⟩
  have hM0 : M 0 = [] := by rw [hMd]; simp
  have hMl : M L.length = L := by rw [hMd]; simp
  refine IWp.loopT (α := Nat) (fun i => (⟨false, 52, 10, [16, 31, 40, 49], [], [(1, .int .i64 p), (2, .ptr 0 1 0 0), (4, .ptr 1 1 0 0), (6, .ptr 2 1 0 0), (7, .bool (g && hasP' p (M i))), (8, .int .i64 (i : Int))], []⟩, [.rows 6 [[.int .i64 tb, .int .i64 ro, .int .i64 se, .int .i64 co, .int .i64 wi, .fz 5 (rws L)]], .rows 6 [[.int .i64 0, .int .i64 0, .int .i64 0, .int .i64 0, .int .i64 0, .nils]], .rows 6 [[.int .i64 tb, .int .i64 ro, .int .i64 se, .int .i64 co, .int .i64 wi, .sl 3 (M i).length 0 (M i).length none]], .rows 5 (rws ((M i).map W))]))
    (fun i => i ≤ L.length) (fun i => L.length - i) 0 (by simp) (by simp [go_sem, hasP', hM0]) ?_
  intro i hi
  by_cases h : i < L.length
  · have w1 : IntKind.i64.wrap ((i : Int) + 1) = i + 1 := wrap64 (by omega) (by omega)
    have hs : M (i + 1) = M i ++ [L[i]] := by rw [hMd]; exact List.take_succ_eq_append_getElem h
    have hl2 : (M i).length ≤ 2 ^ 31 := by rw [hMd]; simp; omega
    have hWx : W L[i] = if 1 ≤ p then wF p L[i] else L[i] := by rw [hW]
    generalize hx : L[i] = x at *
    have hfd : hasP' p (M (i + 1)) = (hasP' p (M i) || (x.ns == p || x.ew == p)) := by rw [hs]; unfold hasP'; rw [List.any_append]; simp
    have hlen : (M (i + 1)).length = (M i).length + 1 := by rw [hs]; simp
    have hrw : rws ((M (i + 1)).map W) = rws ((M i).map W) ++ [(W x).c] := by rw [hs, List.map_append]; exact rws_snoc
    generalize M i = M' at *
    by_cases hp : 1 ≤ p
    · rw [if_pos hp] at hWx
      rw [show g = true by rw [hg]; simpa using hp]
      by_cases h1 : x.ns = p
      · by_cases h2 : x.ew = p
        · simp [go_sem, h, hx, w1, h1, h2, hp]
          exact ⟨by omega, i + 1, ⟨⟨by rw [hfd]; simp [h1], by simp⟩, hlen, by rw [hrw, hWx]; simp [wF, h1, h2, Rw.c]⟩, by omega, by omega⟩
        · simp [go_sem, h, hx, w1, h1, h2, hp]
          exact ⟨by omega, i + 1, ⟨⟨by rw [hfd]; simp [h1], by simp⟩, hlen, by rw [hrw, hWx]; simp [wF, h1, h2, Rw.c]⟩, by omega, by omega⟩
      · by_cases h2 : x.ew = p
        · simp [go_sem, h, hx, w1, h1, h2, hp]
          exact ⟨by omega, i + 1, ⟨⟨by rw [hfd]; simp [h2], by simp⟩, hlen, by rw [hrw, hWx]; simp [wF, h1, h2, Rw.c]⟩, by omega, by omega⟩
        · simp [go_sem, h, hx, w1, h1, h2, hp]
          exact ⟨by omega, i + 1, ⟨⟨by rw [hfd]; simp [h1, h2], by simp⟩, hlen, by rw [hrw, hWx]; simp [wF, h1, h2, Rw.c]⟩, by omega, by omega⟩
    · rw [if_neg hp] at hWx
      rw [show g = false by rw [hg]; simpa using hp]
      simp [go_sem, h, hx, w1, hp]
      exact ⟨by omega, i + 1, ⟨by simp, hlen, by rw [hrw, hWx]; simp [Rw.c]⟩, by omega, by omega⟩
  · have : i = L.length := by omega
    subst this
    cases hf : (g && hasP' p L) with
    | true =>
      have hp : 1 ≤ p := by
        rw [hg] at hf; simp at hf; exact hf.1
      have hWw : L.map W = L.map (wF p) := by rw [hW]; simp [hp]
      simp [go_sem, hf, hMl, hWw]
      exact hR _ _ _ rfl (by simp [go_sem, hE, hM, hf, Mv.v])
    | false =>
      simp [go_sem, hf, hMl]
      exact hR _ _ _ rfl (by simp [go_sem, hE, hM, hf, Mv.v, mvZ])
end Go.Idl
namespace Go.Idl
set_option linter.all false
open Go.Proofs
set_option maxHeartbeats 4000000
set_option maxRecDepth 40000

theorem find_hit {α : Type} {c : α → Bool} {L : List α} {i : Nat} (h : i < L.length) (h0 : (L.take i).find? c = none) (h1 : c L[i] = true) : L.find? c = some L[i] := by
  conv => lhs; rw [← List.take_append_drop i L]
  rw [List.find?_append, h0, List.drop_eq_getElem_cons h, List.find?_cons_of_pos h1]
  rfl
theorem find_miss {α : Type} {c : α → Bool} {L : List α} {i : Nat} (h : i < L.length) (h0 : (L.take i).find? c = none) (h1 : c L[i] = false) : (L.take (i + 1)).find? c = none := by
  rw [List.take_succ_eq_append_getElem h, List.find?_append, h0]; simp [h1]
def zRw : Rw := ⟨0, 0, 0, 0, 0⟩
def whC (r p : Int) (x : Rw) : Bool := x.r == r && (x.ns == p || x.ew == p)
def wheR (L : List Rw) (r p : Int) : Option Rw := if p < 1 then none else L.find? (whC r p)
def whV (o : Option Rw) : IV := .tup [(o.getD zRw).v, .bool o.isSome]
theorem where_fun (m : Mv) (r p : Int) (hl : m.rows.length ≤ 2 ^ 32) : FN 25 [m.v, .int .i64 r, .int .i64 p] (fun v => v = whV (wheR m.rows r p)) := by
  refine IFun.of_bodyZ false 10 [11, 14, 15, 16, 17, 35] Try.func25 rfl Try.call25 rfl fun R hR => ?_
  by_cases hp : p < 1
  · have ho : wheR m.rows r p = none := by unfold wheR; rw [if_pos hp]
    simp [go_sem, Mv.v, hp]
    exact hR _ _ _ rfl (by simp [go_sem, ho, whV, zRw, Rw.v])
  have ho : wheR m.rows r p = m.rows.find? (whC r p) := by unfold wheR; rw [if_neg hp]
  obtain ⟨tb, ro, se, co, wi, L⟩ := m
  simp at hl ho
  simp [go_sem, Mv.v, hp]
  refine IWp.loopT (α := Nat) (fun i => (⟨false, 39, 10, [11, 14, 15, 16, 17, 35], [], [(1, .int .i64 r), (2, .int .i64 p), (6, .ptr 1 1 0 0), (14, .fz 5 (rws L)), (15, .int .i64 L.length), (16, .int .i64 (i : Int))], []⟩, [.dead, .rows 5 [[.int .i64 0, .int .i64 0, .int .i64 0, .int .i64 0, .int .i64 0]]]))
    (fun i => i ≤ L.length ∧ (L.take i).find? (whC r p) = none) (fun i => L.length - i) 0 (by simp) (by simp [go_sem]) ?_
  rintro i ⟨hi, h0⟩
  by_cases h : i < L.length
  · have w1 : IntKind.i64.wrap ((i : Int) + 1) = i + 1 := wrap64 (by omega) (by omega)
    have hit := find_hit (c := whC r p) h h0
    have miss := find_miss (c := whC r p) h h0
    generalize hx : L[i] = x at *
    by_cases h1 : x.r = r
    · by_cases h2 : x.ns = p
      · have hh := hit (by simp [whC, h1, h2])
        simp [go_sem, h, hx, w1, h1, h2]
        exact hR _ _ _ rfl (by simp [go_sem, ho, hh, whV, Rw.v, h1, h2])
      · by_cases h3 : x.ew = p
        · have hh := hit (by simp [whC, h1, h3])
          simp [go_sem, h, hx, w1, h1, h2, h3]
          exact hR _ _ _ rfl (by simp [go_sem, ho, hh, whV, Rw.v, h1, h3])
        · have hh := miss (by simp [whC, h2, h3])
          simp [go_sem, h, hx, w1, h1, h2, h3]
          exact ⟨i + 1, rfl, ⟨by omega, by simpa using hh⟩, by omega⟩
    · have hh := miss (by simp [whC, h1])
      simp [go_sem, h, hx, w1, h1]
      exact ⟨i + 1, rfl, ⟨by omega, by simpa using hh⟩, by omega⟩
  · have : i = L.length := by omega
    subst this
    rw [List.take_length] at h0
    simp [go_sem]
    exact hR _ _ _ rfl (by simp [go_sem, ho, h0, whV, zRw, Rw.v])
theorem refWhere_fun (m : Mv) (r p : Int) (hl : m.rows.length ≤ 2 ^ 32) : FN 36 [m.v, .int .i64 r, .int .i64 p] (fun v => v = whV (wheR m.rows r p)) := by
  refine IFun.of_bodyZ false 9 [10, 16, 46] Try.func36 rfl Try.call36 rfl fun R hR => ?_
  by_cases hp : p < 1
  · have ho : wheR m.rows r p = none := by unfold wheR; rw [if_pos hp]
    simp [go_sem, Mv.v, hp]
    exact hR _ _ _ rfl (by simp [go_sem, ho, whV, zRw, Rw.v])
  have ho : wheR m.rows r p = m.rows.find? (whC r p) := by unfold wheR; rw [if_neg hp]
  obtain ⟨tb, ro, se, co, wi, L⟩ := m
  simp at hl ho
  simp [go_sem, Mv.v, hp]
  refine IWp.loopT (α := Nat) (fun i => (⟨false, 53, 9, [10, 16, 46], [], [(1, .int .i64 r), (2, .int .i64 p), (3, .ptr 0 1 0 0), (6, .ptr 1 1 0 0), (8, .int .i64 (i : Int))], []⟩, [.rows 6 [[.int .i64 tb, .int .i64 ro, .int .i64 se, .int .i64 co, .int .i64 wi, .fz 5 (rws L)]], .rows 5 [[.int .i64 0, .int .i64 0, .int .i64 0, .int .i64 0, .int .i64 0]]]))
    (fun i => i ≤ L.length ∧ (L.take i).find? (whC r p) = none) (fun i => L.length - i) 0 (by simp) (by simp [go_sem]) ?_
  rintro i ⟨hi, h0⟩
  by_cases h : i < L.length
  · have w1 : IntKind.i64.wrap ((i : Int) + 1) = i + 1 := wrap64 (by omega) (by omega)
    have hit := find_hit (c := whC r p) h h0
    have miss := find_miss (c := whC r p) h h0
    generalize hx : L[i] = x at *
    by_cases h1 : x.r = r
    · by_cases h2 : x.ns = p
      · have hh := hit (by simp [whC, h1, h2])
        simp [go_sem, h, hx, w1, h1, h2]
        exact hR _ _ _ rfl (by simp [go_sem, ho, hh, whV, Rw.v, h1, h2])
      · by_cases h3 : x.ew = p
        · have hh := hit (by simp [whC, h1, h3])
          simp [go_sem, h, hx, w1, h1, h2, h3]
          exact hR _ _ _ rfl (by simp [go_sem, ho, hh, whV, Rw.v, h1, h3])
        · have hh := miss (by simp [whC, h2, h3])
          simp [go_sem, h, hx, w1, h1, h2, h3]
          exact ⟨i + 1, rfl, ⟨by omega, by simpa using hh⟩, by omega⟩
    · have hh := miss (by simp [whC, h1])
      simp [go_sem, h, hx, w1, h1]
      exact ⟨i + 1, rfl, ⟨by omega, by simpa using hh⟩, by omega⟩
  · have : i = L.length := by omega
    subst this
    rw [List.take_length] at h0
    simp [go_sem]
    exact hR _ _ _ rfl (by simp [go_sem, ho, h0, whV, zRw, Rw.v])
end Go.Idl
