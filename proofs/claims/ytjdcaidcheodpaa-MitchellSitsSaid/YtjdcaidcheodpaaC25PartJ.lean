/-
  Chapter 25: makes.
  Chapter 25: the reference's Without; Where, both.
  Chapter 25: the reference's Where.
  Chapter 25: the reference's put.
-/
import Derived.Test.YtjdcaidcheodpaaC25PartI
import Derived.Test.YtjdcaidcheodpaaC25PartD
import Derived.Test.YtjdcaidcheodpaaC25PartF
namespace Go.Idl
set_option linter.all false
open Go.Proofs
set_option maxHeartbeats 4000000
set_option maxRecDepth 40000

theorem makeM_len {k T n : Int} : (makeM k T n).rows.length ≤ 2 ^ 40 := by
  unfold makeM
  split
  · rename_i h
    have hz := makeE_zero h
    have h2 := findE_zero hz.1
    have hf : fewK k = 0 ∨ fewK k = 1 := by unfold fewK; split <;> simp
    show (rowsX k T n.toNat).length ≤ _
    rw [rowsX_length]
    have : n.toNat * T.toNat ≤ 24 * 24 := Nat.mul_le_mul (by omega) (by omega)
    omega
  · simp [mvZ]
theorem roverM_len {T n : Int} : (roverM T n).rows.length ≤ 2 ^ 40 := by
  unfold roverM
  split
  · rename_i h
    have hz : makeE 1 T n = 0 := by
      unfold roverE at h
      split at h
      · omega
      · split at h
        · omega
        · exact h
    have hl := makeM_len (k := 1) (T := T) (n := n)
    unfold makeM at hl
    rw [if_pos hz] at hl
    simpa [mvX] using hl
  · simp [mvZ]
theorem makes_fun (T n k : Int) (hk : 0 ≤ k ∧ k < 256) : FN 11 [.int .i64 T, .int .i64 n, .int .u8 k] (fun v => v = .bool true) := by
  refine IFun.of_bodyZ false 19 [] Try.func11 rfl Try.call11 rfl fun R hR => ?_
  simp [go_sem]
  refine (most_fun T k hk).callF (by simp [go_sem]) ?_
  rintro _ rfl
  simp [go_sem]
  refine (refMost_fun T k hk).callF (by simp [go_sem]) ?_
  rintro _ rfl
  simp [go_sem]
  refine (make_fun T n k hk).callF (by simp [go_sem]) ?_
  rintro _ rfl
  have hlen := makeM_len (k := k) (T := T) (n := n)
  have hlen2 := roverM_len (T := T) (n := n)
  have r1 := refMake_fun T n k hk
  have r2 := rover_fun T n
  have r3 := refRover_fun T n
  generalize makeM k T n = X at *
  generalize roverM T n = Y at *
  have s1 := sameMovement_fun X X (by omega)
  have s2 := sameMovement_fun Y Y (by omega)
  simp only [Mv.v] at r1 r2 r3 s1 s2
  simp [go_sem, Mv.v]
  refine r1.callF (by simp [go_sem]) ?_
  rintro _ rfl
  simp [go_sem]
  refine r2.callF (by simp [go_sem]) ?_
  rintro _ rfl
  simp [go_sem]
  refine r3.callF (by simp [go_sem]) ?_
  rintro _ rfl
  simp [go_sem]
  refine s1.callF (by simp [go_sem]) ?_
  rintro _ rfl
  simp [go_sem]
  refine s2.callF (by simp [go_sem]) ?_
  rintro _ rfl
  simp [go_sem]
  exact hR _ _ _ rfl (by simp [go_sem])
end Go.Idl
namespace Go.Idl
set_option linter.all false
open Go.Proofs
set_option maxHeartbeats 4000000
set_option maxRecDepth 40000

theorem refWithout_fun (m : Mv) (p : Int) (hl : m.rows.length ≤ 2 ^ 31) : FN 35 [m.v, .int .i64 p] (fun v => v = .tup [(woM p m).v, .int .i64 (woE p m)]) := by
  refine IFun.of_bodyZ false 10 [16, 31, 40, 49] Try.func35 rfl Try.call35 rfl fun R hR => ?_
  obtain ⟨tb, ro, se, co, wi, L⟩ := m
  obtain ⟨g, hg⟩ : ∃ g : Bool, g = decide (1 ≤ p) := ⟨_, rfl⟩
  have hE : woE p ⟨tb, ro, se, co, wi, L⟩ = if (g && hasP' p L) = true then 0 else 6 := by unfold woE; rw [hg]; simp
  have hM : woM p ⟨tb, ro, se, co, wi, L⟩ = if (g && hasP' p L) = true then ⟨tb, ro, se, co, wi, L.map (wF p)⟩ else mvZ := by unfold woM; rw [hE]; split <;> simp
  simp at hl
  simp [go_sem, Mv.v]
  refine IWp.ownNil 5 _ [.rows 6 [[.int .i64 tb, .int .i64 ro, .int .i64 se, .int .i64 co, .int .i64 wi, .fz 5 (rws L)]], .rows 6 [[.int .i64 0, .int .i64 0, .int .i64 0, .int .i64 0, .int .i64 0, .nils]], .rows 6 [[.int .i64 tb, .int .i64 ro, .int .i64 se, .int .i64 co, .int .i64 wi, .sl 3 0 0 0 none]]] (by decide) (nlL_refl _) (by simp [go_sem]) ?_
  simp only [List.cons_append, List.nil_append]
  obtain ⟨W, hW⟩ : ∃ W : Rw → Rw, W = fun x => if 1 ≤ p then wF p x else x := ⟨_, rfl⟩
  obtain ⟨M, hMd⟩ : ∃ M : Nat → List Rw, M = fun i => L.take i := ⟨_, rfl⟩
  have hM0 : M 0 = [] := by rw [hMd]; simp
  have hMl : M L.length = L := by rw [hMd]; simp
  refine IWp.loopT (α := Nat) (fun i => (⟨false, 52, 10, [16, 31, 40, 49], [], [(1, .int .i64 p), (2, .ptr 0 1 0 0), (4, .ptr 1 1 0 0), (6, .ptr 2 1 0 0), (7, .bool (g && hasP' p (M i))), (8, .int .i64 (i : Int))], []⟩, [.rows 6 [[.int .i64 tb, .int .i64 ro, .int .i64 se, .int .i64 co, .int .i64 wi, .fz 5 (rws L)]], .rows 6 [[.int .i64 0, .int .i64 0, .int .i64 0, .int .i64 0, .int .i64 0, .nils]], .rows 6 [[.int .i64 tb, .int .i64 ro, .int .i64 se, .int .i64 co, .int .i64 wi, .sl 3 (M i).length 0 (M i).length none]], .rows 5 (rws ((M i).map W))]))
    (fun i => i ≤ L.length) (fun i => L.length - i) 0 (by simp) (by simp [go_sem, hasP', hM0]) ?_
  intro i hi
  by_cases h : i < L.length
  · have w1 : IntKind.i64.wrap ((i : Int) + 1) = i + 1 := wrap64 (by omega) (by omega)
    have hs : M (i + 1) = M i ++ [L[i]] := by rw [hMd]; exact List.take_succ_eq_append_getElem h
    have hl2 : (M i).length ≤ 2 ^ 31 := by rw [hMd]; simp; omega
    have hWx : W L[i] = if 1 ≤ p then wF p L[i] else L[i] := by rw [hW]
    generalize hx : L[i] = x at *
    have hfd : hasP' p (M (i + 1)) = (hasP' p (M i) || (x.ns == p || x.ew == p)) := by rw [hs]; unfold hasP'; rw [List.any_append]; simp
    have hlen : (M (i + 1)).length = (M i).length + 1 := by rw [hs]; simp
    have hrw : rws ((M (i + 1)).map W) = rws ((M i).map W) ++ [(W x).c] := by rw [hs, List.map_append]; exact rws_snoc
    generalize M i = M' at *
    by_cases hp : 1 ≤ p
    · rw [if_pos hp] at hWx
      rw [show g = true by rw [hg]; simpa using hp]
      by_cases h1 : x.ns = p
      · by_cases h2 : x.ew = p
        · simp [go_sem, h, hx, w1, h1, h2, hp]
          exact ⟨by omega, i + 1, ⟨⟨by rw [hfd]; simp [h1], by simp⟩, hlen, by rw [hrw, hWx]; simp [wF, h1, h2, Rw.c]⟩, by omega, by omega⟩
        · simp [go_sem, h, hx, w1, h1, h2, hp]
          exact ⟨by omega, i + 1, ⟨⟨by rw [hfd]; simp [h1], by simp⟩, hlen, by rw [hrw, hWx]; simp [wF, h1, h2, Rw.c]⟩, by omega, by omega⟩
      · by_cases h2 : x.ew = p
        · simp [go_sem, h, hx, w1, h1, h2, hp]
          exact ⟨by omega, i + 1, ⟨⟨by rw [hfd]; simp [h2], by simp⟩, hlen, by rw [hrw, hWx]; simp [wF, h1, h2, Rw.c]⟩, by omega, by omega⟩
        · simp [go_sem, h, hx, w1, h1, h2, hp]
          exact ⟨by omega, i + 1, ⟨⟨by rw [hfd]; simp [h1, h2], by simp⟩, hlen, by rw [hrw, hWx]; simp [wF, h1, h2, Rw.c]⟩, by omega, by omega⟩
    · rw [if_neg hp] at hWx
      rw [show g = false by rw [hg]; simpa using hp]
      simp [go_sem, h, hx, w1, hp]
      exact ⟨by omega, i + 1, ⟨by simp, hlen, by rw [hrw, hWx]; simp [Rw.c]⟩, by omega, by omega⟩
  · have : i = L.length := by omega
    subst this
    cases hf : (g && hasP' p L) with
    | true =>
      have hp : 1 ≤ p := by
        rw [hg] at hf; simp at hf; exact hf.1
      have hWw : L.map W = L.map (wF p) := by rw [hW]; simp [hp]
      simp [go_sem, hf, hMl, hWw]
      exact hR _ _ _ rfl (by simp [go_sem, hE, hM, hf, Mv.v])
    | false =>
      simp [go_sem, hf, hMl]
      exact hR _ _ _ rfl (by simp [go_sem, hE, hM, hf, Mv.v, mvZ])
end Go.Idl
namespace Go.Idl
set_option linter.all false
open Go.Proofs
set_option maxHeartbeats 4000000
set_option maxRecDepth 40000

theorem refWhere_fun (m : Mv) (r p : Int) (hl : m.rows.length ≤ 2 ^ 32) : FN 36 [m.v, .int .i64 r, .int .i64 p] (fun v => v = whV (wheR m.rows r p)) := by
  refine IFun.of_bodyZ false 9 [10, 16, 46] Try.func36 rfl Try.call36 rfl fun R hR => ?_
  by_cases hp : p < 1
  · have ho : wheR m.rows r p = none := by unfold wheR; rw [if_pos hp]
    simp [go_sem, Mv.v, hp]
    exact hR _ _ _ rfl (by simp [go_sem, ho, whV, zRw, Rw.v])
  have ho : wheR m.rows r p = m.rows.find? (whC r p) := by unfold wheR; rw [if_neg hp]
  obtain ⟨tb, ro, se, co, wi, L⟩ := m
  simp at hl ho
  simp [go_sem, Mv.v, hp]
  refine IWp.loopT (α := Nat) (fun i => (⟨false, 53, 9, [10, 16, 46], [], [(1, .int .i64 r), (2, .int .i64 p), (3, .ptr 0 1 0 0), (6, .ptr 1 1 0 0), (8, .int .i64 (i : Int))], []⟩, [.rows 6 [[.int .i64 tb, .int .i64 ro, .int .i64 se, .int .i64 co, .int .i64 wi, .fz 5 (rws L)]], .rows 5 [[.int .i64 0, .int .i64 0, .int .i64 0, .int .i64 0, .int .i64 0]]]))
    (fun i => i ≤ L.length ∧ (L.take i).find? (whC r p) = none) (fun i => L.length - i) 0 (by simp) (by simp [go_sem]) ?_
  rintro i ⟨hi, h0⟩
  by_cases h : i < L.length
  · have w1 : IntKind.i64.wrap ((i : Int) + 1) = i + 1 := wrap64 (by omega) (by omega)
    have hit := find_hit (c := whC r p) h h0
    have miss := find_miss (c := whC r p) h h0
    generalize hx : L[i] = x at *
    by_cases h1 : x.r = r
    · by_cases h2 : x.ns = p
      · have hh := hit (by simp [whC, h1, h2])
        simp [go_sem, h, hx, w1, h1, h2]
        exact hR _ _ _ rfl (by simp [go_sem, ho, hh, whV, Rw.v, h1, h2])
      · by_cases h3 : x.ew = p
        · have hh := hit (by simp [whC, h1, h3])
          simp [go_sem, h, hx, w1, h1, h2, h3]
          exact hR _ _ _ rfl (by simp [go_sem, ho, hh, whV, Rw.v, h1, h3])
        · have hh := miss (by simp [whC, h2, h3])
          simp [go_sem, h, hx, w1, h1, h2, h3]
          exact ⟨i + 1, rfl, ⟨by omega, by simpa using hh⟩, by omega⟩
    · have hh := miss (by simp [whC, h1])
      simp [go_sem, h, hx, w1, h1]
      exact ⟨i + 1, rfl, ⟨by omega, by simpa using hh⟩, by omega⟩
  · have : i = L.length := by omega
    subst this
    rw [List.take_length] at h0
    simp [go_sem]
    exact hR _ _ _ rfl (by simp [go_sem, ho, h0, whV, zRw, Rw.v])
end Go.Idl
namespace Go.Idl
set_option linter.all false
open Go.Proofs
set_option maxHeartbeats 4000000
set_option maxRecDepth 40000

def putL (l : List Int) (n : Int) : List Int := if n < 1 then l else l.takeWhile (fun x => decide (x < n)) ++ ((if (l.dropWhile (fun x => decide (x < n))).head? = some n then [] else [n]) ++ l.dropWhile (fun x => decide (x < n)))
theorem put_split {l : List Int} {n : Int} {k : Nat} (hk : k ≤ l.length) (ha : ∀ j (h : j < l.length), j < k → l[j] < n) (hb : ∀ h : k < l.length, ¬ l[k] < n) :
    l.takeWhile (fun x => decide (x < n)) = l.take k ∧ l.dropWhile (fun x => decide (x < n)) = l.drop k := by
  induction l generalizing k with
  | nil => simp
  | cons a l ih =>
    cases k with
    | zero =>
      have := hb (by simp)
      simp at this
      simp [List.takeWhile_cons, List.dropWhile_cons, show ¬ a < n by omega]
    | succ k =>
      have h0 := ha 0 (by simp) (by omega)
      simp at h0
      have := ih (k := k) (by simpa using hk) (fun j h hj => by have := ha (j + 1) (by simpa using h) (by omega); simpa using this) (fun h => by have := hb (by simpa using h); simpa using this)
      simp [List.takeWhile_cons, List.dropWhile_cons, h0, this.1, this.2]
theorem put_fun (l : List Int) (n : Int) (hl : l.length ≤ 2 ^ 31) : ON 55 [.fz 1 (ints l), .int .i64 n] (fun v => v = .fz 1 (ints (putL l n))) := by
  refine IFun.of_bodyZ false 7 [8, 21, 42] Try.func55 rfl Try.call55 rfl fun R hR => ?_
  simp [go_sem]
  by_cases h1 : n < 1
  · simp [go_sem, h1]
    exact hR _ _ _ rfl (by simp [go_sem, putL, h1])
  simp [go_sem, h1]
  refine IWp.ownNilS 1 5 (by decide) (by simp [go_sem]) ?_
  simp [go_sem]
  obtain ⟨T, hT⟩ : ∃ T : Nat → List Int, T = fun k => l.take k := ⟨_, rfl⟩
  have hT0 : T 0 = [] := by rw [hT]; rfl
  have hTl : ∀ k, k ≤ l.length → (T k).length = k := fun k hk => by rw [hT]; simp; omega
  refine IWp.loopT (α := Nat) (fun k => (⟨false, 52, 7, [8, 21, 42], [], [(0, .fz 1 (ints l)), (1, .int .i64 n), (5, .sl 0 (T k).length 0 (T k).length none), (6, .int .i64 (k : Int))], []⟩, [.rows 1 (ints (T k))]))
    (fun k => k ≤ l.length ∧ ∀ j (h : j < l.length), j < k → l[j] < n) (fun k => l.length - k) 0 (by simp) (by simp [go_sem, hT0]) ?_
  rintro k ⟨hk, ha⟩
  have hlk := hTl k hk
  by_cases h : k < l.length ∧ ∃ h : k < l.length, l[k] < n
  · obtain ⟨h, _, h2⟩ := h
    have w1 : IntKind.i64.wrap ((k : Int) + 1) = k + 1 := wrap64 (by omega) (by omega)
    have hs : T (k + 1) = T k ++ [l[k]] := by rw [hT]; exact List.take_succ_eq_append_getElem h
    simp [go_sem, h, h2, w1]
    exact ⟨by omega, k + 1, ⟨⟨by rw [hlk, hTl _ h], by simp⟩, by rw [hs, ints_snoc]⟩, ⟨h, fun j hj h3 => by
      by_cases e : j = k
      · subst e; exact h2
      · exact ha j hj (by omega)⟩, by omega⟩
  · have hb : ∀ h : k < l.length, ¬ l[k] < n := fun h3 h4 => h ⟨h3, h3, h4⟩
    obtain ⟨e1, e2⟩ := put_split hk ha hb
    have hd : List.drop k (List.take l.length (ints l)) = ints (l.drop k) := by rw [List.take_of_length_le (by simp), ints_drop]
    have hdl : (ints (l.drop k)).length = l.length - k := by simp
    have hTT : l.take k = T k := by rw [hT]
    have hP : putL l n = T k ++ ((if (l.drop k).head? = some n then [] else [n]) ++ l.drop k) := by unfold putL; rw [if_neg h1, e1, e2, hTT]
    have hone := ints_one (l := l.drop k)
    by_cases h3 : k < l.length
    · have h4 := hb h3
      have h6 : (l.drop k).head? = some l[k] := by simp [h3]
      rw [h6] at hP
      have hkl : ¬ (k : Int) = l.length := by omega
      have hkl' : ¬ k = l.length := by omega
      by_cases h5 : l[k] = n
      · simp [go_sem, h3, h4, h5, hd, hkl, hkl']
        rw [if_pos (by rw [h5])] at hP
        refine ⟨by omega, ⟨by omega, fun r hr => hone r hr⟩, ?_⟩
        refine hR _ _ _ rfl ?_
        rw [hP]
        simp [go_sem, ← ints_append]
      · simp [go_sem, h3, h4, h5, hd]
        rw [if_neg (by simpa using h5)] at hP
        refine ⟨by omega, by omega, ⟨by omega, fun r hr => hone r hr⟩, ?_⟩
        have hrow : ints (T k) ++ [.int .i64 n] :: ints (l.drop k) = ints (putL l n) := by rw [hP]; simp [ints_append, ints_cons]
        have hlen : (T k).length + 1 + (l.length - k) = (putL l n).length := by rw [hP]; simp; omega
        rw [hrow, hlen]
        refine hR _ _ _ rfl ?_
        simp [go_sem]
    · have : k = l.length := by omega
      subst this
      have h6 : (l.drop l.length).head? = none := by simp
      rw [h6, if_neg (by simp)] at hP
      simp [go_sem]
      refine ⟨by omega, hR _ _ _ rfl ?_⟩
      rw [hP]
      simp [go_sem, ints_append, ints_cons, ints_nil]
end Go.Idl
