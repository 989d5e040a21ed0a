/-
  Chapter 27: Feeds.
-/
import Derived.Test.YtjmjdjdabmlgeaaC27PartC
import Derived.Test.YtjmjdjdabmlgeaaC27PartB
namespace Go.Idl
set_option linter.all false
open Go.Proofs
set_option maxHeartbeats 16000000
set_option maxRecDepth 40000

/-- A map from integers to truth values. -/
def enB (S : List (Int × Bool)) : List (IV × IV) := enM (fun k : Int => .int .i64 k) (fun v : Bool => .bool v) S
theorem mget_b (s : Int) (S : List (Int × Bool)) : mget (.int .i64 s) (enB S) = (aget s S).map fun v => .bool v := mget_en (kf := fun k : Int => .int .i64 k) keI s S
theorem mset_b (s : Int) (v : Bool) (S : List (Int × Bool)) : mset (.int .i64 s) (.bool v) (enB S) = enB (aset s v S) := mset_en (kf := fun k : Int => .int .i64 k) (vf := fun v : Bool => .bool v) keI s v S
@[go_sem] theorem all_enB {S : List (Int × Bool)} {X : IV → Prop} : (∀ (a b : IV), (a, b) ∈ enB S → X a) ↔ ∀ p ∈ S, X (.int .i64 p.1) := by
  simp only [enB, enM, List.mem_map, Prod.mk.injEq]
  constructor
  · intro h p hp; exact h _ _ ⟨p, hp, rfl, rfl⟩
  · rintro h a b ⟨p, hp, rfl, rfl⟩; exact h p hp
@[go_sem] theorem bl_b {n : Nat} {S : List (Int × Bool)} : BlM n (enB S) = True := eq_true (en_bl (fun a => by simp [go_sem]) (fun b => by simp [go_sem]) S)
@[go_sem] theorem enB_nil : enB [] = [] := rfl
/-- Whether a table has a set in a round. -/
def hasB (l : List Rw) (r t s : Int) : Bool := l.any fun x => x.r == r && x.t == t && x.s == s
theorem hasB_iff {l : List Rw} {r t s : Int} : hasB l r t s = true ↔ ∃ x ∈ l, x.r = r ∧ x.t = t ∧ x.s = s := by
  simp [hasB, and_assoc]
def fedB (l : List Rw) (r t : Int) (x : Rw) : Bool := decide (x.r = r - 1 ∧ x.t ≠ t) && hasB l r t x.s
/-- The tables that had a set of a table in the round before. -/
def feedsL (m : Mv) (r t : Int) : List Int := if r = -9223372036854775808 then [] else srt ((m.rows.filter (fedB m.rows r t)).map fun x => x.t)
theorem feeds_fun (m : Mv) (r t : Int) (hl : m.rows.length ≤ 2 ^ 30) (hr : -2 ^ 63 ≤ r ∧ r < 2 ^ 63) : FN 24 [m.v, .int .i64 r, .int .i64 t] (fun v => v = .fz 1 (ints (feedsL m r t))) := by
  refine IFun.of_bodyW false 13 [14, 17, 18, 19, 20, 32, 38, 39, 40, 41, 60] Try.func24 rfl Try.call24 rfl fun R hR => ?_
  obtain ⟨tb, ro, se, co, wi, L⟩ := m
  unfold feedsL at hR
  simp only [Mv.v] at *
  refine IWp.seqI ?_
  simp [go_sem]
  refine IWp.seqI ?_
  by_cases h0 : r = -9223372036854775808
  · rw [if_pos h0] at hR
    simp [go_sem, h0]
    exact hR _ _ _ rfl (by simp [go_sem])
  rw [if_neg h0] at hR
  have w1 : IntKind.i64.wrap (r - 1) = r - 1 := wrap64 (by omega) (by omega)
  simp [go_sem, h0]
  refine IWp.seqI ?_
  simp [go_sem]
  refine IWp.seqT (α := List (Int × Bool)) (fun S => (⟨false, 71, 13, [14, 17, 18, 19, 20, 32, 38, 39, 40, 41, 60], [], [(1, .int .i64 r), (2, .int .i64 t), (3, .ptr 0 1 0 0), (7, .map 1)], []⟩, [.rows 6 [[.int .i64 tb, .int .i64 ro, .int .i64 se, .int .i64 co, .int .i64 wi, .fz 5 (rws L)]], .map (enB S)])) (fun S => ∀ s, (aget s S).getD false = hasB L r t s) ?_ ?_
  · simp [go_sem]
    refine IWp.loopT (α := Nat × List (Int × Bool)) (fun p => (⟨false, 71, 13, [14, 17, 18, 19, 20, 32, 38, 39, 40, 41, 60], [], [(1, .int .i64 r), (2, .int .i64 t), (3, .ptr 0 1 0 0), (7, .map 1), (17, .fz 5 (rws L)), (18, .int .i64 L.length), (19, .int .i64 (p.1 : Int))], []⟩, [.rows 6 [[.int .i64 tb, .int .i64 ro, .int .i64 se, .int .i64 co, .int .i64 wi, .fz 5 (rws L)]], .map (enB p.2)]))
      (fun p => p.1 ≤ L.length ∧ ∀ s, (aget s p.2).getD false = hasB (L.take p.1) r t s) (fun p => L.length - p.1) (0, []) ⟨by simp, fun s => by simp [aget, hasB]⟩ (by simp [go_sem]) ?_
    rintro ⟨i, S⟩ ⟨hi, hS⟩
    simp only at hi hS
    by_cases h : i < L.length
    · have v1 : IntKind.i64.wrap ((i : Int) + 1) = ((i + 1 : Nat) : Int) := by rw [wrap64 (by omega) (by omega)]; omega
      have hsu : ∀ s, hasB (L.take (i + 1)) r t s = (hasB (L.take i) r t s || (L[i].r == r && L[i].t == t && L[i].s == s)) := fun s => by
        unfold hasB
        rw [List.take_succ_eq_append_getElem h, List.any_append]; simp
      obtain ⟨x, hx⟩ : ∃ x, L[i] = x := ⟨_, rfl⟩
      rw [hx] at hsu
      have ms := mset_b x.s true S
      by_cases h1 : x.r = r
      · by_cases h2 : x.t = t
        · simp [go_sem, h, hx, h1, h2, ms]
          refine ⟨i + 1, aset x.s true S, ⟨v1, rfl⟩, ⟨by omega, fun s => ?_⟩, by omega⟩
          rw [aget_aset, hsu]
          by_cases e : s = x.s
          · subst e; simp [h1, h2]
          · rw [if_neg e, hS]
            simp [h1, h2, Ne.symm e]
        · simp [go_sem, h, hx, h1, h2]
          refine ⟨i + 1, S, ⟨v1, rfl⟩, ⟨by omega, fun s => ?_⟩, by omega⟩
          rw [hsu, hS]
          simp [h2]
      · simp [go_sem, h, hx, h1]
        refine ⟨i + 1, S, ⟨v1, rfl⟩, ⟨by omega, fun s => ?_⟩, by omega⟩
        rw [hsu, hS]
        simp [h1]
    · obtain rfl : i = L.length := by omega
      rw [List.take_length] at hS
      simp [go_sem]
      exact ⟨S, rfl, hS⟩
  intro S hS
  refine IWp.seqI ?_
  simp [go_sem]
  refine IWp.ownNilS 1 10 (by decide) rfl ?_
  have hfd : ∀ x, fedB L r t x = (decide (x.r = r - 1 ∧ x.t ≠ t) && (aget x.s S).getD false) := fun x => by unfold fedB; rw [hS]
  obtain ⟨M, hM⟩ : ∃ M : Nat → List Int, M = fun i => ((L.take i).filter (fedB L r t)).map fun x => x.t := ⟨_, rfl⟩
  have hM0 : M 0 = [] := by rw [hM]; simp
  have hMn : M L.length = (L.filter (fedB L r t)).map fun x => x.t := by rw [hM]; simp
  have hMl : ∀ i, (M i).length ≤ L.length := fun i => by
    rw [hM]
    simp only [List.length_map]
    exact Nat.le_trans (List.length_filter_le ..) (by simp; omega)
  have hMs : ∀ i (h : i < L.length), M (i + 1) = M i ++ (if fedB L r t L[i] = true then [L[i].t] else []) := fun i h => by
    rw [hM]
    simp only
    rw [List.take_succ_eq_append_getElem h, List.filter_append, List.map_append]
    by_cases hc : fedB L r t L[i] = true
    · rw [if_pos hc, List.filter_cons_of_pos hc]; simp
    · rw [if_neg hc, List.filter_cons_of_neg hc]; simp
  rw [← hMn] at hR
  clear hM hMn
  refine IWp.now ?_
  simp [go_sem]
  refine IWp.loopT (α := Nat) (fun i => (⟨false, 71, 13, [14, 17, 18, 19, 20, 32, 38, 39, 40, 41, 60], [], [(1, .int .i64 r), (2, .int .i64 t), (7, .map 1), (10, .sl 2 (M i).length 0 (M i).length none), (38, .fz 5 (rws L)), (39, .int .i64 L.length), (40, .int .i64 (i : Int))], []⟩, [.dead, .map (enB S), .rows 1 (ints (M i))]))
    (fun i => i ≤ L.length) (fun i => L.length - i) 0 (by simp) (by simp [go_sem, hM0]) ?_
  intro i hi
  have hml := hMl i
  by_cases h : i < L.length
  · have v1 : IntKind.i64.wrap ((i : Int) + 1) = ((i + 1 : Nat) : Int) := by rw [wrap64 (by omega) (by omega)]; omega
    have hsu := hMs i h
    obtain ⟨x, hx⟩ : ∃ x, L[i] = x := ⟨_, rfl⟩
    rw [hx, hfd] at hsu
    have gs := mget_b x.s S
    by_cases h1 : x.r = r - 1
    · by_cases h2 : x.t = t
      · rw [if_neg (by simp [h2])] at hsu
        rw [List.append_nil] at hsu
        simp [go_sem, h, hx, h1, h2, w1, gs]
        exact ⟨i + 1, ⟨⟨by rw [hsu], v1⟩, by rw [hsu]⟩, by omega, by omega⟩
      · obtain ⟨b, hb⟩ : ∃ b, (aget x.s S).getD false = b := ⟨_, rfl⟩
        cases b with
        | true =>
          rw [if_pos (by simp [h1, h2, hb])] at hsu
          have hs2 : ints (M (i + 1)) = ints (M i) ++ [[.int .i64 x.t]] := by rw [hsu, ints_snoc]
          have hsl : (M (i + 1)).length = (M i).length + 1 := by rw [hsu]; simp
          simp [go_sem, h, hx, h1, h2, w1, gs, hb]
          exact ⟨by omega, i + 1, ⟨⟨hsl.symm, v1⟩, hs2⟩, by omega, by omega⟩
        | false =>
          rw [if_neg (by simp [h1, h2, hb]), List.append_nil] at hsu
          simp [go_sem, h, hx, h1, h2, w1, gs, hb]
          exact ⟨i + 1, ⟨⟨by rw [hsu], v1⟩, by rw [hsu]⟩, by omega, by omega⟩
    · rw [if_neg (by simp [h1]), List.append_nil] at hsu
      simp [go_sem, h, hx, h1, w1, gs]
      exact ⟨i + 1, ⟨⟨by rw [hsu], v1⟩, by rw [hsu]⟩, by omega, by omega⟩
  · obtain rfl : i = L.length := by omega
    simp [go_sem]
    generalize M L.length = W at *
    refine ICalls.sortA (zs := W) (b := 2) sortInt sort0 Try.call48 (by simp [ints]) rfl (by omega) ?_
    have hml : (W.mergeSort fun x y => decide (x ≤ y)).length = W.length := List.length_mergeSort _
    have hpr : srt W = Lib.compact (W.mergeSort fun x y => decide (x ≤ y)) := rfl
    generalize (W.mergeSort fun x y => decide (x ≤ y)) = S at *
    rw [← hml]
    simp [go_sem]
    refine ICalls.compactA (zs := S) (b := 2) compactInt compact0 Try.call49 (by simp) rfl (by omega) ?_
    have hcl := compact_le S
    have hfin : ints (srt W) = mp (fun z => [.int .i64 z]) (Lib.compact S) := by rw [hpr]; rfl
    generalize Lib.compact S = C at *
    have htk : List.take C.length (mp (fun z => [IV.int .i64 z]) (C ++ List.replicate (S.length - C.length) 0)) = mp (fun z => [IV.int .i64 z]) C := by rw [← mp_take]; simp
    have hZ : (C ++ List.replicate (S.length - C.length) 0).length = S.length := by simp; omega
    generalize C ++ List.replicate (S.length - C.length) 0 = Z at *
    rw [← hZ]
    simp [go_sem]
    refine hR _ _ _ rfl ?_
    simp [go_sem, hfin, cutR, htk]
    have hsc : ScR (mp (fun z => [IV.int .i64 z]) C) := mp_sc (by simp [scal])
    exact ⟨⟨by omega, okR_sc hsc⟩, (frzR_sc hsc).symm⟩
end Go.Idl
