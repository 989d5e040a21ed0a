/-
  The verifier's kit: lists of integers lent, and looked at again.
  Chapter 24: CrossTells.
-/
import Derived.Test.YthjpnfemaefhnaaDoorC24PartC
import Derived.Test.YthjpnfemaefhnaaDoorC24PartW
import Derived.Test.YthjpnfemaefhnaaDoorC24PartI
namespace Go.Idl
set_option linter.all false
open Go.Proofs
set_option maxHeartbeats 4000000
set_option maxRecDepth 40000

def mkI (i : Nat) : Int := 8000024 + i
def mksI (n : Nat) : List Int := (List.range n).map mkI
theorem mksI_succ (n : Nat) : mksI (n + 1) = mksI n ++ [mkI n] := by simp [mksI, List.range_succ]
@[simp] theorem mksI_length (n : Nat) : (mksI n).length = n := by simp [mksI]
theorem lentInts_calls (l : List Int) (hl : l.length ≤ 2 ^ 32) : ICalls Tryd.prog glT 20 [.fz 1 (ints l)] [] (fun v σ => v = .sl 0 (l.length + 12) 0 l.length (some (l.length + 12)) ∧ σ = [.rows 1 (ints (l ++ mksI 12))]) := by
  refine ICalls.forget (ICalls.of_bodyE true 5 [13] Tryd.func20 rfl Tryd.call20 rfl fun R hR => ?_)
  have w1 : IntKind.i64.wrap ((l.length : Int) + 12) = ((l.length + 12 : Nat) : Int) := by rw [wrap64 (by omega) (by omega)]; rfl
  obtain ⟨N, hN⟩ : ∃ N, l.length + 12 = N := ⟨_, rfl⟩
  rw [hN] at w1
  have hLN : l.length ≤ N := by omega
  have hsub : N - l.length = 12 := by omega
  simp [go_sem, w1, hLN, hsub]
  refine ⟨by omega, fun r hr => ints_one r hr, ?_⟩
  refine IWp.loopT (α := Nat) (fun i => (⟨true, 25, 5, [13], glT, [(0, .fz 1 (ints l)), (2, .nils), (3, .sl 0 N 0 (l.length + i) (some N)), (4, .int .i64 (i : Int))], []⟩, [.rows 1 (ints (l ++ (mksI i ++ List.replicate (12 - i) 0)))]))
    (fun i => i ≤ 12) (fun i => 12 - i) 0 (by simp) (by simp [go_sem, ints_append, mksI, ints_cons]) ?_
  intro i hi
  by_cases h : i < 12
  · have h' : (i : Int) < 12 := by omega
    have w2 : IntKind.i64.wrap ((i : Int) + 1) = i + 1 := wrap64 (by omega) (by omega)
    have hr : l.length + i + 1 ≤ N := by omega
    have e1 : (ints (l ++ (mksI i ++ List.replicate (12 - i) 0))).take (l.length + i) = ints (l ++ mksI i) := by
      rw [← ints_take, ← List.append_assoc, List.take_append_of_le_length (by simp), List.take_of_length_le (by simp)]
    have e2 : (ints (l ++ (mksI i ++ List.replicate (12 - i) 0))).drop (l.length + i + 1) = ints (List.replicate (12 - (i + 1)) 0) := by
      rw [← ints_drop, ← List.append_assoc, List.drop_append, List.drop_of_length_le (by simp), List.nil_append, List.drop_replicate]
      congr 2; simp; try omega
    obtain ⟨L, hL⟩ : ∃ L, ints (l ++ (mksI i ++ List.replicate (12 - i) 0)) = L := ⟨_, rfl⟩
    have hLl : L.length = N := by rw [← hL]; simp; omega
    obtain ⟨J, hJ⟩ : ∃ J, l.length + i = J := ⟨_, rfl⟩
    simp only [hL, hJ] at e1 e2 hr ⊢
    simp [go_sem, h', hL, hJ]
    refine (mark_fun 1 i (by omega) (by omega)).callF (by simp [go_sem]) ?_
    rintro _ rfl
    simp [go_sem, w2, hr, hLl, e1, e2]
    refine ⟨i + 1, ⟨⟨by omega, rfl⟩, ?_⟩, by omega, by omega⟩
    rw [mksI_succ, ints_append, ints_append, ints_append, ints_append]
    simp [ints_cons, mkI, go_sem, show 12 - (i + 1) = 11 - i by omega]
  · have : i = 12 := by omega
    subst this
    have e : (l ++ (mksI 12 ++ List.replicate (12 - 12) 0)) = l ++ mksI 12 := by simp
    have e' : N = l.length + 12 := hN.symm
    subst e'
    simp [go_sem]
    refine ⟨by omega, hR _ _ ⟨[.rows 1 (ints (l ++ mksI 12))], ?_, rfl, rfl⟩⟩
    simp [go_sem, e]
def lentI (l : List Int) : IObj := .rows 1 (ints (l ++ mksI 12))
@[go_sem] theorem lentI_take {l m : List Int} : List.take l.length (ints (l ++ m)) = ints l := by rw [← ints_take]; simp
@[go_sem] theorem lentI_cut {l m : List Int} : cutR 0 l.length (ints (l ++ m)) = ints l := by simp [cutR, lentI_take]
theorem keptInts_calls (l : List Int) (hl : l.length ≤ 2 ^ 32) : ICalls Tryd.prog glT 27 [.sl 0 (l.length + 12) 0 l.length (some (l.length + 12)), .fz 1 (ints l)] [lentI l] (fun v σ => v = .bool true ∧ σ = [lentI l]) := by
  refine ICalls.of_bodyE false 7 [11, 20, 57] Tryd.func27 rfl Tryd.call27 rfl fun R hR => ?_
  have w1 : IntKind.i64.wrap ((l.length : Int) + 12) = ((l.length + 12 : Nat) : Int) := by rw [wrap64 (by omega) (by omega)]; rfl
  obtain ⟨N, hN⟩ : ∃ N, l.length + 12 = N := ⟨_, rfl⟩
  obtain ⟨L, hL⟩ : ∃ L, ints (l ++ mksI 12) = L := ⟨_, rfl⟩
  have hLl : L.length = N := by rw [← hL]; simp; omega
  have hLN : l.length ≤ N := by omega
  have hBl : BlR 1 L := by rw [← hL]; simp [go_sem]
  rw [hN] at w1
  simp [go_sem, w1, hLN, hN, hL, hLl, lentI]
  refine IWp.loopT (α := Nat) (fun i => (⟨false, 58, 7, [11, 20, 57], glT, [(1, .fz 1 (ints l)), (5, .sl 0 N 0 N (some N)), (6, .int .i64 (i : Int))], []⟩, [.rows 1 L]))
    (fun i => i ≤ N) (fun i => N - i) 0 (by simp) (by simp [go_sem, ← hL]) ?_
  intro i hi
  by_cases h : i < N
  · have w2 : IntKind.i64.wrap ((i : Int) + 1) = i + 1 := wrap64 (by omega) (by omega)
    have hlt : (i : Int) < N := by omega
    by_cases hx : i < l.length
    · have hx' : (i : Int) < l.length := by omega
      have e1 : ∀ hh : i < L.length, L[i] = [.int .i64 l[i]] := fun hh => by
        subst hL; simp [List.getElem_append_left hx]
      have hx3 : ¬ l.length ≤ i := by omega
      simp [go_sem, hlt, h, hLl]
      refine Drawn.intro (fun k => .tup []) ?_
      simp [go_sem, hx, hx', hx3, hLl, h, e1, hBl, w2]
      exact ⟨by decide +kernel, i + 1, rfl, by omega, by omega⟩
    · have hx' : ¬ (i : Int) < l.length := by omega
      have hx3 : l.length ≤ i := by omega
      obtain ⟨j, hj⟩ : ∃ j, i = l.length + j := ⟨i - l.length, by omega⟩
      have hj12 : j < 12 := by omega
      have w3 : IntKind.i64.wrap ((i : Int) - l.length) = j := by rw [wrap64 (by omega) (by omega)]; omega
      have c := mark_fun 1 (j : Int) (by omega) (by omega)
      have e1 : ∀ hh : i < L.length, L[i] = [.int .i64 (8000024 + j)] := fun hh => by
        subst hL; subst hj
        simp [List.getElem_append_right, mksI, mkI]
      simp [go_sem, hlt, h, hLl]
      refine Drawn.intro (fun k => if k = 30 then .int .i64 (8000024 + j) else .tup []) ?_
      simp [go_sem, hx, hx', hx3, hLl, h, e1, hBl, w2, w3]
      exact ⟨.inl (by simpa using c), by decide +kernel, i + 1, rfl, by omega, by omega⟩
  · have : i = N := by omega
    subst this
    simp [go_sem, hLl]
    exact hR _ _ ⟨rfl, by simp [lentI, hL]⟩
end Go.Idl
namespace Go.Idl
set_option linter.all false
open Go.Proofs
set_option maxHeartbeats 16000000
set_option maxRecDepth 40000

theorem same24_fun (l : List Int) (d : Int) (hl : l.length ≤ 2 ^ 31) (hd : -2 ^ 63 ≤ d ∧ d < 2 ^ 63) : FN 10 [.fz 1 (ints l), .int .i64 d] (fun v => v = .bool true) := by
  refine IFun.of_bodyZ false 18 [59] Tryd.func10 rfl Tryd.call10 rfl fun R hR => ?_
  have c1 := cross_fun l (by omega)
  have c2 := cross24_fun l (by omega)
  have c3 := plain_fun l (by omega)
  have c4 := plain24_fun l (by omega)
  have c5 := datum_fun l d (by omega)
  have c6 := datum24_fun l d (by omega) hd
  have c7 := butler_fun l d (by omega)
  have c8 := butler24_fun l d (by omega) hd
  have hc1 : (crossR l).length ≤ 2 ^ 31 := by unfold crossR; split <;> simp <;> omega
  have hc2 : (plainR l).length ≤ 2 ^ 31 := by unfold plainR; split <;> simp <;> omega
  have hc3 : (butR l d).length ≤ 2 ^ 31 := by unfold butR; split <;> simp <;> omega
  have s1 := sameFracs_fun (crossR l) (crossR l) (by omega)
  have s2 := sameFracs_fun (plainR l) (plainR l) (by omega)
  have s3 := sameInts_fun (butR l d) (butR l d) (by omega)
  rw [decide_eq_true rfl] at s1 s2 s3
  generalize crossR l = X1 at *
  generalize plainR l = X2 at *
  generalize butR l d = X3 at *
  generalize exE l = E at *
  generalize datE l d = G at *
  generalize datI l d = T at *
  simp [go_sem]
  refine (lentInts_calls l (by omega)).at [] (by simp [go_sem]) ?_
  rintro _ _ ⟨rfl, rfl⟩
  simp [go_sem]
  refine c1.callF (by simp [go_sem]) ?_
  rintro _ rfl
  simp [go_sem]
  refine c2.callF (by simp [go_sem]) ?_
  rintro _ rfl
  simp [go_sem]
  refine c3.callF (by simp [go_sem]) ?_
  rintro _ rfl
  simp [go_sem]
  refine c4.callF (by simp [go_sem]) ?_
  rintro _ rfl
  simp [go_sem]
  refine s1.callF (by simp [go_sem]) ?_
  rintro _ rfl
  simp [go_sem]
  refine s2.callF (by simp [go_sem]) ?_
  rintro _ rfl
  simp [go_sem]
  refine c5.callF (by simp [go_sem]) ?_
  rintro _ rfl
  simp [go_sem]
  refine c6.callF (by simp [go_sem]) ?_
  rintro _ rfl
  simp [go_sem]
  refine c7.callF (by simp [go_sem]) ?_
  rintro _ rfl
  simp [go_sem]
  refine c8.callF (by simp [go_sem]) ?_
  rintro _ rfl
  simp [go_sem]
  refine s3.callF (by simp [go_sem]) ?_
  rintro _ rfl
  simp [go_sem]
  refine (keptInts_calls l (by omega)).at [0] (by simp [go_sem, lentI]) ?_
  rintro _ _ ⟨rfl, rfl⟩
  simp [go_sem, lentI]
  exact hR _ _ _ rfl (by simp [go_sem])
theorem crossTells_fun (l : List Int) (d : Int) (hl : l.length < 2 ^ 63) (hd : -2 ^ 63 ≤ d ∧ d < 2 ^ 63) : FN 3 [.fz 1 (ints l), .int .i64 d] (fun v => v = .bool true) := by
  refine IFun.of_bodyZ false 5 [] Tryd.func3 rfl Tryd.call3 rfl fun R hR => ?_
  by_cases h : 40 < l.length
  · have h' : (40 : Int) < l.length := by omega
    simp [go_sem, h, h']
    refine awake24_fun.callF (by simp [go_sem]) ?_
    rintro _ rfl
    simp [go_sem]
    exact hR _ _ _ rfl (by simp [go_sem])
  · have h' : ¬ (40 : Int) < l.length := by omega
    simp [go_sem, h, h']
    refine (same24_fun l d (by omega) hd).callF (by simp [go_sem]) ?_
    rintro _ rfl
    simp [go_sem]
    refine awake24_fun.callF (by simp [go_sem]) ?_
    rintro _ rfl
    simp [go_sem]
    exact hR _ _ _ rfl (by simp [go_sem])
theorem crossTells_law (l : List Int) (d : Int) (h0 : ∀ x ∈ l, (Lit.int .i64 x).wf = true) (h1 : l.length ≤ maxLen) (h2 : (Lit.int .i64 d).wf = true) : FN 3 [.fz 1 (ints l), .int .i64 d] (fun v => v = .bool true) :=
  crossTells_fun l d (by unfold maxLen at h1; omega) (by have := bounds_i64 h2; omega)
end Go.Idl
