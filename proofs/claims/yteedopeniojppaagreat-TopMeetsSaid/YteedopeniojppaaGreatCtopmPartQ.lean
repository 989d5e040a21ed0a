/-
  Package turn: lists of rounds; slices.BinarySearch.
  Package turn: exchange.
-/
import Derived.Test.YteedopeniojppaaGreatCtopmPartB
import Derived.Test.YteedopeniojppaaGreatIdlPartJ
import Derived.Test.YteedopeniojppaaGreatCtopmPartD
namespace Go.Idl
set_option linter.all false
open Go.Proofs
set_option maxHeartbeats 16000000
set_option maxRecDepth 40000

theorem turnList_fun (m : Mv) (l : List Int) (hl : l.length ≤ 2 ^ 30) (hi : Inc l) (hr : ∀ x ∈ l, 0 ≤ x ∧ x < m.rounds) : FN 32 [m.v, .fz 1 (ints l)] (fun v => v = .bool true) := by
  refine IFun.of_bodyZ false 8 [8, 9, 10, 11, 22] Tryz.func32 rfl Tryz.call32 rfl fun R hR => ?_
  obtain ⟨tb, ro, se, co, wi, L⟩ := m
  simp only [Mv.v] at *
  simp [go_sem]
  refine IWp.loopT (α := Nat × Int) (fun p => (⟨false, 25, 8, [8, 9, 10, 11, 22], [], [(2, .ptr 0 1 0 0), (5, .int .i64 p.2), (8, .fz 1 (ints l)), (9, .int .i64 l.length), (10, .int .i64 (p.1 : Int))], []⟩, [.rows 6 [[.int .i64 tb, .int .i64 ro, .int .i64 se, .int .i64 co, .int .i64 wi, .fz 5 (rws L)]]]))
    (fun p => p.1 ≤ l.length ∧ ∀ q (h : q < l.length), p.1 ≤ q → p.2 < l[q]) (fun p => l.length - p.1) (0, -1) ⟨by simp, fun q h _ => by have := (hr _ (List.getElem_mem h)).1; omega⟩ (by simp [go_sem]) ?_
  rintro ⟨i, z⟩ ⟨hil, hz⟩
  simp only at hil hz
  by_cases h : i < l.length
  · have v1 : IntKind.i64.wrap ((i : Int) + 1) = ((i + 1 : Nat) : Int) := by rw [wrap64 (by omega) (by omega)]; omega
    have h1 := hz i h (Nat.le_refl _)
    have h2 := hr _ (List.getElem_mem h)
    have h3 : ∀ q (hq : q < l.length), i + 1 ≤ q → l[i] < l[q] := fun q hq hlt => List.pairwise_iff_getElem.1 hi i q h hq (by omega)
    obtain ⟨x, hx⟩ : ∃ x, l[i] = x := ⟨_, rfl⟩
    rw [hx] at h1 h2
    simp only [hx] at h3
    have h4 : ¬ x ≤ z := by omega
    have h5 : ¬ ro ≤ x := by omega
    simp [go_sem, h, hx, h4, h5]
    exact ⟨i + 1, x, ⟨rfl, v1⟩, ⟨by omega, h3⟩, by omega⟩
  · simp [go_sem, h]
    exact hR _ _ _ rfl (by simp [go_sem])
theorem less_fun (a b : Int) : FN 81 [.int .i64 a, .int .i64 b] (fun v => v = .bool (decide (a < b))) := by
  refine IFun.of_bodyZ false 5 [] Tryz.func81 rfl Tryz.call81 rfl fun R hR => ?_
  simp [go_sem]
  refine (isNaNI_fun a).callF (by simp [go_sem]) ?_
  rintro _ rfl
  simp [go_sem]
  exact hR _ _ _ rfl (by simp [go_sem])
theorem isNaNS_fun (a : Int) : FN 84 [.int .i64 a] (fun v => v = .bool false) := by
  refine IFun.of_bodyZ false 3 [] Tryz.func84 rfl Tryz.call84 rfl fun R hR => ?_
  simp [go_sem]
  exact hR _ _ _ rfl (by simp [go_sem])
theorem search_fun (l : List Int) (t : Int) (hl : l.length ≤ 2 ^ 30) (hi : Inc l) : FN 51 [.fz 1 (ints l), .int .i64 t] (fun v => ∃ i, v = .tup [.int .i64 i, .bool (decide (t ∈ l))]) := by
  refine IFun.of_bodyZ false 10 [15, 27] Tryz.func51 rfl Tryz.call51 rfl fun R hR => ?_
  simp [go_sem]
  refine IWp.loopT (α := Nat × Nat) (fun p => (⟨false, 54, 10, [15, 27], [], [(0, .fz 1 (ints l)), (1, .int .i64 t), (6, .int .i64 l.length), (7, .int .i64 (p.1 : Int)), (8, .int .i64 (p.2 : Int))], []⟩, []))
    (fun p => p.1 ≤ p.2 ∧ p.2 ≤ l.length ∧ (∀ q (h : q < l.length), q < p.1 → l[q] < t) ∧ ∀ q (h : q < l.length), p.2 ≤ q → t ≤ l[q]) (fun p => p.2 - p.1) (0, l.length) ⟨by simp, Nat.le_refl _, fun q h hq => by omega, fun q h hq => by omega⟩ (by simp [go_sem]) ?_
  rintro ⟨i, j⟩ ⟨h1, h2, h3, h4⟩
  simp only at h1 h2 h3 h4
  by_cases h : i < j
  · have w1 : IntKind.i64.wrap ((i : Int) + j) = ((i + j : Nat) : Int) := by rw [wrap64 (by omega) (by omega)]; omega
    obtain ⟨c, hc⟩ : ∃ c, (i + j) / 2 = c := ⟨_, rfl⟩
    have hcl : c < l.length := by omega
    have w2 : IntKind.i64.wrap ((IntKind.u64.wrap ((i : Int) + j)).fdiv 2) = (c : Int) := by
      have e : IntKind.u64.wrap ((i : Int) + j) = ((i + j : Nat) : Int) := by simp [IntKind.wrap, IntKind.bits, IntKind.signed]; omega
      rw [e, Int.fdiv_eq_ediv_of_nonneg _ (by omega), wrap64 (by omega) (by omega)]
      omega
    obtain ⟨x, hx⟩ : ∃ x, l[c] = x := ⟨_, rfl⟩
    have qx : (ints l)[c]?.getD [] = [.int .i64 x] := by rw [List.getElem?_eq_getElem (by simpa using hcl), Option.getD_some, ints_getElem, hx]
    have cl := less_fun x t
    have w3 : IntKind.i64.wrap ((c : Int) + 1) = ((c + 1 : Nat) : Int) := by rw [wrap64 (by omega) (by omega)]; omega
    simp [go_sem, h, w1, w2, hcl, hx, qx]
    refine cl.callF (by simp [go_sem]) ?_
    rintro _ rfl
    by_cases h5 : x < t
    · simp [go_sem, h5, w3]
      refine ⟨c + 1, j, ⟨rfl, rfl⟩, ⟨by omega, h2, fun q hq hqc => ?_, h4⟩, by omega⟩
      rcases Nat.lt_or_ge q c with h6 | h6
      · have := List.pairwise_iff_getElem.1 hi q c hq hcl h6
        rw [hx] at this; omega
      · have : q = c := by omega
        subst this; rw [hx]; exact h5
    · simp [go_sem, h5]
      refine ⟨i, c, ⟨rfl, rfl⟩, ⟨by omega, by omega, h3, fun q hq hqc => ?_⟩, by omega⟩
      rcases Nat.lt_or_ge c q with h6 | h6
      · have := List.pairwise_iff_getElem.1 hi c q hcl hq h6
        rw [hx] at this; omega
      · have : q = c := by omega
        subst this; rw [hx]; omega
  · obtain rfl : i = j := by omega
    by_cases h5 : i < l.length
    · obtain ⟨x, hx⟩ : ∃ x, l[i] = x := ⟨_, rfl⟩
      have qx : (ints l)[i]?.getD [] = [.int .i64 x] := by rw [List.getElem?_eq_getElem (by simpa using h5), Option.getD_some, ints_getElem, hx]
      by_cases h6 : x = t
      · have hm : t ∈ l := by rw [← h6, ← hx]; exact List.getElem_mem h5
        simp [go_sem, h5, hx, qx, h6]
        refine hR _ _ (.tup [.int .i64 (i : Int), .bool (decide (t ∈ l))]) ⟨_, rfl⟩ ?_
        simp [go_sem, hm]
      · have hm : t ∉ l := fun hh => by
          obtain ⟨q, hq, e⟩ := List.mem_iff_getElem.1 hh
          rcases Nat.lt_or_ge q i with h7 | h7
          · have := h3 q hq h7; omega
          · rcases Nat.lt_or_ge i q with h8 | h8
            · have h9 := List.pairwise_iff_getElem.1 hi i q h5 hq h8
              have := h4 i h5 (Nat.le_refl _)
              rw [hx] at h9 this; omega
            · have : q = i := by omega
              subst this; exact h6 (hx.symm.trans e)
        have h6b : (x == t) = false := by simpa using h6
        simp [go_sem, h5, hx, qx, h6, h6b]
        refine (isNaNS_fun x).callF (by simp [go_sem]) ?_
        rintro _ rfl
        simp [go_sem]
        refine hR _ _ (.tup [.int .i64 (i : Int), .bool (decide (t ∈ l))]) ⟨_, rfl⟩ ?_
        simp [go_sem, hm]
    · have hm : t ∉ l := fun hh => by
        obtain ⟨q, hq, e⟩ := List.mem_iff_getElem.1 hh
        have := h3 q hq (by omega); omega
      obtain rfl : i = l.length := by omega
      simp [go_sem]
      refine hR _ _ (.tup [.int .i64 (l.length : Int), .bool (decide (t ∈ l))]) ⟨_, rfl⟩ ?_
      simp [go_sem, hm]
end Go.Idl
namespace Go.Idl
set_option linter.all false
open Go.Proofs
set_option maxHeartbeats 16000000
set_option maxRecDepth 40000

/-- A row with the arrow switched, if its round is one of a list. -/
def swF (l : List Int) (x : Rw) : Rw := if x.r ∈ l then { x with ns := x.ew, ew := x.ns } else x
def swM (l : List Int) (m : Mv) : Mv := { m with rows := m.rows.map (swF l), winners := if l = [] then m.winners else 1 }
def swR (l : List Int) (L : List Rw) (i : Nat) : List Rw := (L.take i).map (swF l) ++ L.drop i
@[simp] theorem swR_length {l : List Int} {L : List Rw} {i : Nat} : (swR l L i).length = L.length := by simp [swR]; omega
theorem swR_zero {l : List Int} {L : List Rw} : swR l L 0 = L := by simp [swR]
theorem swR_all {l : List Int} {L : List Rw} : swR l L L.length = L.map (swF l) := by simp [swR]
theorem swR_get {l : List Int} {L : List Rw} {i q : Nat} (h : q < (swR l L i).length) : (swR l L i)[q] = if q < i then swF l (L[q]'(by simpa using h)) else L[q]'(by simpa using h) := by
  have hq : q < L.length := by simpa using h
  simp only [swR]
  by_cases hi : q < i
  · rw [if_pos hi, List.getElem_append_left (by simp; omega)]; simp
  · rw [if_neg hi, List.getElem_append_right (by simp; omega)]; simp; congr 1; omega
theorem swR_succ {l : List Int} {L : List Rw} {i : Nat} (h : i < L.length) : swR l L (i + 1) = (swR l L i).set i (swF l L[i]) := by
  refine List.ext_getElem (by simp) fun q h1 h2 => ?_
  rw [List.getElem_set, swR_get, swR_get]
  by_cases hq : i = q
  · subst hq; simp
  · have : q < i + 1 ↔ q < i := by omega
    simp [hq, this]
theorem turns_calls (l : List Int) (r : Int) (hl : l.length ≤ 2 ^ 30) (hi : Inc l) : ICalls Tryz.prog [] 50 [.int .i64 r, .ptr 0 1 0 0] [.rows 1 [[.fz 1 (ints l)]]] (fun v σ => v = .bool (decide (r ∈ l)) ∧ σ = [.rows 1 [[.fz 1 (ints l)]]]) := by
  refine ICalls.forget (ICalls.of_bodyE false 6 [] Tryz.func50 rfl Tryz.call50 rfl fun R hR => ?_)
  have cs := search_fun l r hl hi
  simp [go_sem]
  refine cs.callF (by simp [go_sem]) ?_
  rintro _ ⟨i, rfl⟩
  simp [go_sem]
  exact hR _ _ ⟨_, by simp [go_sem], rfl, rfl⟩
theorem exchange_fun (m : Mv) (l : List Int) (hl : l.length ≤ 2 ^ 30) (hi : Inc l) (hml : m.rows.length ≤ 2 ^ 30) : FN 33 [m.v, .fz 1 (ints l)] (fun v => v = (swM l m).v) := by
  refine IFun.of_bodyW false 8 [14, 15, 16, 17, 24, 42] Tryz.func33 rfl Tryz.call33 rfl fun R hR => ?_
  have cc := cloneRows_fun m.rows (by omega)
  have ct := fun r => turns_calls l r hl hi
  obtain ⟨tb, ro, se, co, wi, L⟩ := m
  simp only [Mv.v, swM] at *
  refine IWp.seqI ?_
  simp [go_sem]
  refine IWp.seqI ?_
  simp [go_sem]
  refine IWp.seqI ?_
  simp [go_sem]
  refine cc.callOF (by simp [go_sem]) ?_
  rintro _ rfl
  refine ⟨fun v => v, 5, _, .here, by decide, rfl, by simp [go_sem], ?_⟩
  simp [go_sem]
  refine IWp.seq ?_
  refine IWp.seqI ?_
  simp [go_sem]
  refine IWp.block ?_
  refine IWp.loopI (α := Nat) (fun i => (⟨false, 45, 8, [14, 15, 16, 17, 24, 42], [], [(2, .ptr 0 1 0 0), (3, .ptr 1 1 0 0), (4, .ptr 2 1 0 0), (5, .func (.func 50) [] [.ptr 1 1 0 0]), (14, .sl 3 L.length 0 L.length none), (15, .int .i64 L.length), (16, .int .i64 (i : Int))], []⟩, [.rows 6 [[.int .i64 tb, .int .i64 ro, .int .i64 se, .int .i64 co, .int .i64 wi, .sl 3 L.length 0 L.length none]], .rows 1 [[.fz 1 (ints l)]], .rows 6 [[.int .i64 0, .int .i64 0, .int .i64 0, .int .i64 0, .int .i64 0, .nils]], .rows 5 (rws (swR l L i))]))
    (fun i => i ≤ L.length) (fun i => L.length - i) 0 (by simp) (by simp [go_sem, swR_zero]) ?_
  intro i hi
  have hsl : (swR l L i).length = L.length := swR_length
  refine IWp.seqI ?_
  simp [go_sem]
  refine IWp.seq ?_
  by_cases h : i < L.length
  · have v1 : IntKind.i64.wrap ((i : Int) + 1) = ((i + 1 : Nat) : Int) := by rw [wrap64 (by omega) (by omega)]; omega
    have hs := swR_succ (l := l) h
    have hiM : i < (swR l L i).length := by omega
    have hg : (swR l L i)[i] = L[i] := by rw [swR_get, if_neg (by omega)]
    obtain ⟨x, hx⟩ : ∃ x, L[i] = x := ⟨_, rfl⟩
    rw [hx] at hs hg
    generalize swR l L i = M at *
    have ctx := ct x.r
    refine IWp.now ?_
    simp [go_sem, h]
    refine IWp.seq ?_
    refine IWp.block ?_
    refine IWp.seqI ?_
    simp [go_sem, h, hsl, hiM, hg]
    refine IWp.seqI ?_
    simp [go_sem]
    refine ctx.at [1] (by simp [go_sem]) ?_
    rintro _ _ ⟨rfl, rfl⟩
    simp [go_sem]
    refine IWp.now ?_
    by_cases hm : x.r ∈ l
    · simp [go_sem, hm]
      refine ⟨⟨h, hsl.symm, by omega⟩, ⟨hsl.symm, hiM⟩, ⟨h, hsl.symm, by omega⟩, ⟨hsl.symm, hiM⟩, by decide +kernel, ?_⟩
      refine IWp.now ?_
      simp [go_sem, v1]
      have q1 : (rws M)[i]? = some [.int .i64 x.r, .int .i64 x.t, .int .i64 x.ns, .int .i64 x.ew, .int .i64 x.s] := by
        simp [rws, mp, hiM, hg, Rw.c]
      refine ⟨i + 1, ⟨rfl, ?_⟩, by omega, by omega⟩
      have hil : i < (rws M).length := by simp [rws, mp, hiM]
      have q2 : ∀ Y, ((rws M).set i Y)[i]?.getD [] = Y := fun Y => by rw [List.getElem?_set_self hil]; rfl
      rw [hs, rws_set, q1, q2]
      simp [swF, hm, Rw.c]
    · have hw : swF l x = x := by unfold swF; rw [if_neg hm]
      have hself : M.set i x = M := by rw [← hg]; simp
      simp [go_sem, hm]
      refine IWp.now ?_
      simp [go_sem, v1]
      exact ⟨i + 1, ⟨rfl, by rw [hs, hw, hself]⟩, by omega, by omega⟩
  · obtain rfl : i = L.length := by omega
    refine IWp.now ?_
    simp [go_sem]
    rw [swR_all]
    refine IWp.seq ?_
    refine IWp.seqI ?_
    simp [go_sem]
    by_cases h0 : l = []
    · subst h0
      refine IWp.now ?_
      simp [go_sem]
      refine IWp.now ?_
      simp [go_sem]
      refine hR _ _ _ rfl ?_
      simp [go_sem]
    · have hl0 : 0 < l.length := List.length_pos_iff.2 h0
      refine IWp.now ?_
      simp [go_sem, hl0]
      refine IWp.now ?_
      simp [go_sem]
      refine hR _ _ _ rfl ?_
      simp [go_sem, h0]
theorem turn_fun (m : Mv) (l : List Int) (hl : l.length ≤ 2 ^ 30) (hi : Inc l) (hr : ∀ x ∈ l, 0 ≤ x ∧ x < m.rounds) (hml : m.rows.length ≤ 2 ^ 30) (hb : FN 31 [m.v] (fun v => ∃ b : Bool, v = .bool b)) : ON 17 [m.v, .fz 1 (ints l)] (fun v => ∃ b : Bool, v = .tup [(if b = true then swM l m else mvZ).v, .int .i64 (if b = true then 0 else 290)]) := by
  refine IFun.of_bodyZ false 6 [8, 13] Tryz.func17 rfl Tryz.call17 rfl fun R hR => ?_
  have c1 := turnList_fun m l hl hi hr
  have c2 := exchange_fun m l hl hi hml
  obtain ⟨tb, ro, se, co, wi, L⟩ := m
  simp only [Mv.v, swM, mvZ] at *
  simp [go_sem]
  refine hb.callF (by simp [go_sem]) ?_
  rintro _ ⟨b, rfl⟩
  cases b with
  | false =>
    simp [go_sem]
    exact hR _ _ _ ⟨false, rfl⟩ (by simp [go_sem])
  | true =>
    simp [go_sem]
    refine c1.callF (by simp [go_sem]) ?_
    rintro _ rfl
    simp [go_sem]
    refine c2.callM (by simp [go_sem]) ?_
    rintro _ rfl
    simp [go_sem]
    exact hR _ _ _ ⟨true, rfl⟩ (by simp [go_sem])
end Go.Idl
