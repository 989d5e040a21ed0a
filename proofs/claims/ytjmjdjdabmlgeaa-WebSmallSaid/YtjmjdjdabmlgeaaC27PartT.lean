/-
  Chapter 27: the reference's loads, copies, idle sets.
  Chapter 27: the reference's tables; who has a set.
-/
import Derived.Test.YtjmjdjdabmlgeaaC27PartG
namespace Go.Idl
set_option linter.all false
open Go.Proofs
set_option maxHeartbeats 16000000
set_option maxRecDepth 40000

theorem load27_fun (m : Mv) (r s : Int) (hl : m.rows.length ≤ 2 ^ 30) : FN 53 [m.v, .int .i64 r, .int .i64 s] (fun v => v = .int .i64 (ldN m.rows r s)) := by
  refine IFun.of_bodyZ false 9 [13, 33] Try.func53 rfl Try.call53 rfl fun R hR => ?_
  obtain ⟨tb, ro, se, co, wi, L⟩ := m
  simp only [Mv.v] at *
  simp [go_sem]
  refine IWp.loopT (α := Nat) (fun i => (⟨false, 37, 9, [13, 33], [], [(1, .int .i64 r), (2, .int .i64 s), (3, .ptr 0 1 0 0), (7, .int .i64 (ldN (L.take i) r s)), (8, .int .i64 (i : Int))], []⟩, [.rows 6 [[.int .i64 tb, .int .i64 ro, .int .i64 se, .int .i64 co, .int .i64 wi, .fz 5 (rws L)]]]))
    (fun i => i ≤ L.length) (fun i => L.length - i) 0 (by simp) (by simp [go_sem, ldN]) ?_
  intro i hi
  by_cases h : i < L.length
  · have v1 : IntKind.i64.wrap ((i : Int) + 1) = ((i + 1 : Nat) : Int) := by rw [wrap64 (by omega) (by omega)]; omega
    have hsu := ldN_succ h r s
    have hle := ldN_le (L.take i) r s
    rw [List.length_take] at hle
    obtain ⟨x, hx⟩ : ∃ x, L[i] = x := ⟨_, rfl⟩
    rw [hx] at hsu
    by_cases h1 : x.r = r
    · by_cases h2 : x.s = s
      · have v2 : IntKind.i64.wrap ((ldN (L.take i) r s : Int) + 1) = ((ldN (L.take i) r s + 1 : Nat) : Int) := by rw [wrap64 (by omega) (by omega)]; omega
        rw [if_pos ⟨h1, h2⟩] at hsu
        simp [go_sem, h, hx, h1, h2, v2]
        exact ⟨i + 1, ⟨by rw [hsu]; omega, v1⟩, by omega, by omega⟩
      · rw [if_neg (fun e => h2 e.2)] at hsu
        simp [go_sem, h, hx, h1, h2]
        exact ⟨i + 1, ⟨by rw [hsu]; omega, v1⟩, by omega, by omega⟩
    · rw [if_neg (fun e => h1 e.1)] at hsu
      simp [go_sem, h, hx, h1]
      exact ⟨i + 1, ⟨by rw [hsu]; omega, v1⟩, by omega, by omega⟩
  · obtain rfl : i = L.length := by omega
    rw [List.take_length]
    simp [go_sem]
    exact hR _ _ _ rfl (by simp [go_sem])
theorem loads_range (m : Mv) (r : Int) (h : m.sets ≤ 4096) : loadsL m r = (List.range m.sets.toNat).map fun s : Nat => (ldN m.rows r s : Int) := by
  unfold loadsL
  by_cases h1 : m.sets < 1
  · rw [if_pos (.inl h1), show m.sets.toNat = 0 by omega]; rfl
  · rw [if_neg (by omega)]
theorem refLoads27_fun (m : Mv) (r : Int) (hl : m.rows.length ≤ 2 ^ 30) : FN 33 [m.v, .int .i64 r] (fun v => v = .fz 1 (ints (loadsL m r))) := by
  refine IFun.of_bodyW false 7 [9, 13] Try.func33 rfl Try.call33 rfl fun R hR => ?_
  have cl := fun s => load27_fun m r s hl
  have hr := loads_range m r
  have hlw : 4096 < m.sets → loadsL m r = [] := fun h => by unfold loadsL; rw [if_pos (.inr h)]
  obtain ⟨tb, ro, se, co, wi, L⟩ := m
  simp only [Mv.v] at *
  refine IWp.seqI ?_
  simp [go_sem]
  refine IWp.seqI ?_
  by_cases h2 : 4096 < se
  · rw [hlw h2] at hR
    simp [go_sem, h2]
    refine IWp.now ?_
    simp [go_sem, h2]
    exact hR _ _ _ rfl (by simp [go_sem])
  rw [hr (by omega)] at hR
  obtain ⟨n, hn⟩ : ∃ n : Nat, se.toNat = n := ⟨_, rfl⟩
  rw [hn] at hR
  simp [go_sem, h2]
  refine IWp.seqI ?_
  simp [go_sem, h2]
  refine IWp.seqI ?_
  simp [go_sem, h2]
  refine IWp.ownNilS 1 5 (by decide) rfl ?_
  have hS : ∀ i : Nat, ints ((List.range (i + 1)).map fun s : Nat => (ldN L r s : Int)) = ints ((List.range i).map fun s : Nat => (ldN L r s : Int)) ++ [[.int .i64 (ldN L r i)]] := fun i => by
    rw [List.range_succ, List.map_append, List.map_singleton, ints_snoc]
  refine IWp.now ?_
  simp [go_sem]
  refine IWp.loopT (α := Nat) (fun i => (⟨false, 24, 7, [9, 13], [], [(1, .int .i64 r), (2, .ptr 0 1 0 0), (5, .sl 1 i 0 i none), (6, .int .i64 (i : Int))], []⟩, [.rows 6 [[.int .i64 tb, .int .i64 ro, .int .i64 se, .int .i64 co, .int .i64 wi, .fz 5 (rws L)]], .rows 1 (ints ((List.range i).map fun s : Nat => (ldN L r s : Int)))]))
    (fun i => i ≤ n) (fun i => n - i) 0 (by simp) (by simp [go_sem]) ?_
  intro i hi
  have hlen : ((List.range i).map fun s : Nat => (ldN L r s : Int)).length = i := by simp
  have hs := hS i
  generalize hX : ((List.range i).map fun s : Nat => (ldN L r s : Int)) = X at *
  by_cases h : i < n
  · have v1 : IntKind.i64.wrap ((i : Int) + 1) = ((i + 1 : Nat) : Int) := by rw [wrap64 (by omega) (by omega)]; omega
    have h3 : (i : Int) < se := by omega
    simp [go_sem, h3]
    refine (cl i).callF (by simp [go_sem]) ?_
    rintro _ rfl
    simp [go_sem, hlen]
    exact ⟨by omega, i + 1, ⟨⟨rfl, v1⟩, hs⟩, by omega, by omega⟩
  · obtain rfl : i = n := by omega
    have h3 : ¬ (i : Int) < se := by omega
    simp [go_sem, h3]
    refine IWp.now ?_
    simp [go_sem]
    rw [← hX] at hlen ⊢
    refine hR _ _ _ rfl ?_
    simp [go_sem, hlen]
theorem refIdle27_fun (m : Mv) (r : Int) (hl : m.rows.length ≤ 2 ^ 30) : FN 35 [m.v, .int .i64 r] (fun v => v = .fz 1 (ints (idleL m r))) := by
  refine IFun.of_bodyW false 8 [14, 21] Try.func35 rfl Try.call35 rfl fun R hR => ?_
  have cc := refLoads27_fun m r hl
  have hL := loads_len m r
  unfold idleL at hR
  generalize loadsL m r = L at *
  obtain ⟨tb, ro, se, co, wi, rs⟩ := m
  simp only [Mv.v] at *
  refine IWp.seqI ?_
  simp [go_sem]
  refine IWp.seqI ?_
  simp [go_sem]
  refine IWp.seqI ?_
  simp [go_sem]
  refine cc.callF (by simp [go_sem]) ?_
  rintro _ rfl
  simp [go_sem]
  refine IWp.seqI ?_
  simp [go_sem]
  refine IWp.ownNilS 1 5 (by decide) rfl ?_
  let I : Nat → List Int := fun i => ((List.range i).filter fun s => decide (L.getD s 0 = 0)).map fun s : Nat => (s : Int)
  have hIs : ∀ i, I (i + 1) = I i ++ (if L.getD i 0 = 0 then [(i : Int)] else []) := fun i => by
    simp only [I]
    rw [List.range_succ, List.filter_append, List.map_append]
    by_cases h : L.getD i 0 = 0
    · rw [if_pos h, List.filter_cons_of_pos (by simpa using h)]; simp
    · rw [if_neg h, List.filter_cons_of_neg (by simpa using h)]; simp
  have hIl : ∀ i, (I i).length ≤ i := fun i => by
    simp only [I, List.length_map]
    exact Nat.le_trans (List.length_filter_le ..) (by simp)
  have hI0 : I 0 = [] := rfl
  have hIn : ((List.range L.length).filter fun s => decide (L.getD s 0 = 0)).map (fun s : Nat => (s : Int)) = I L.length := rfl
  rw [hIn] at hR
  generalize I = I at *
  refine IWp.now ?_
  simp [go_sem]
  refine IWp.loopT (α := Nat) (fun i => (⟨false, 27, 8, [14, 21], [], [(5, .sl 1 (I i).length 0 (I i).length none), (6, .fz 1 (ints L)), (7, .int .i64 (i : Int))], []⟩, [.dead, .rows 1 (ints (I i))]))
    (fun i => i ≤ L.length) (fun i => L.length - i) 0 (by simp) (by simp [go_sem, hI0]) ?_
  intro i hi
  have hil := hIl i
  by_cases h : i < L.length
  · have v1 : IntKind.i64.wrap ((i : Int) + 1) = ((i + 1 : Nat) : Int) := by rw [wrap64 (by omega) (by omega)]; omega
    have hs := hIs i
    obtain ⟨x, hx⟩ : ∃ x, L[i] = x := ⟨_, rfl⟩
    rw [show L.getD i 0 = x by simp [h, hx]] at hs
    by_cases h0 : x = 0
    · rw [if_pos h0] at hs
      have hs2 : ints (I (i + 1)) = ints (I i) ++ [[.int .i64 (i : Int)]] := by rw [hs, ints_snoc]
      have hsl : (I (i + 1)).length = (I i).length + 1 := by rw [hs]; simp
      simp [go_sem, h, hx, h0]
      exact ⟨by omega, i + 1, ⟨⟨hsl.symm, v1⟩, hs2⟩, by omega, by omega⟩
    · rw [if_neg h0, List.append_nil] at hs
      simp [go_sem, h, hx, h0]
      exact ⟨i + 1, ⟨⟨by rw [hs], v1⟩, by rw [hs]⟩, by omega, by omega⟩
  · obtain rfl : i = L.length := by omega
    simp [go_sem]
    refine IWp.now ?_
    simp [go_sem]
    exact hR _ _ _ rfl (by simp [go_sem])
theorem refCopies27_fun (m : Mv) (hl : m.rows.length ≤ 2 ^ 30) : FN 36 [m.v] (fun v => ∃ g, v = .int .i64 g ∧ MaxL m.rows g) := by
  refine IFun.of_bodyZ false 6 [10, 29] Try.func36 rfl Try.call36 rfl fun R hR => ?_
  have cl := fun r s => load27_fun m r s hl
  obtain ⟨tb, ro, se, co, wi, L⟩ := m
  simp only [Mv.v] at *
  simp [go_sem]
  refine IWp.loopT (α := Nat × Int) (fun p => (⟨false, 32, 6, [10, 29], [], [(1, .ptr 0 1 0 0), (3, .int .i64 p.2), (4, .int .i64 (p.1 : Int))], []⟩, [.rows 6 [[.int .i64 tb, .int .i64 ro, .int .i64 se, .int .i64 co, .int .i64 wi, .fz 5 (rws L)]]]))
    (fun p => p.1 ≤ L.length ∧ (∀ x ∈ L.take p.1, (ldN L x.r x.s : Int) ≤ p.2) ∧ (p.1 = 0 ∧ p.2 = 0 ∨ ∃ x ∈ L.take p.1, p.2 = ldN L x.r x.s)) (fun p => L.length - p.1) (0, 0) (by simp) (by simp [go_sem]) ?_
  rintro ⟨i, g⟩ ⟨hi, hu, ha⟩
  simp only at hi hu ha
  by_cases h : i < L.length
  · have v1 : IntKind.i64.wrap ((i : Int) + 1) = ((i + 1 : Nat) : Int) := by rw [wrap64 (by omega) (by omega)]; omega
    have htk : L.take (i + 1) = L.take i ++ [L[i]] := List.take_succ_eq_append_getElem h
    have hp : 0 < ldN L L[i].r L[i].s := List.countP_pos_iff.2 ⟨L[i], List.getElem_mem h, by simp⟩
    obtain ⟨x, hx⟩ : ∃ x, L[i] = x := ⟨_, rfl⟩
    rw [hx] at htk hp
    have cx := cl x.r x.s
    obtain ⟨q, hq⟩ : ∃ q, ldN L x.r x.s = q := ⟨_, rfl⟩
    rw [hq] at cx hp
    simp [go_sem, h, hx]
    refine Drawn.intro (fun k => if k = 13 then .int .i64 (q : Int) else .tup []) ?_
    simp [go_sem, h, hx, cx]
    by_cases h3 : g < (q : Int)
    · simp [go_sem, h3]
      refine ⟨by decide +kernel, i + 1, q, ⟨rfl, v1⟩, ⟨by omega, fun y hy => ?_, .inr ⟨x, by rw [htk]; simp, by rw [hq]⟩⟩, by omega⟩
      rw [htk] at hy
      rcases List.mem_append.1 hy with hy | hy
      · have := hu y hy; omega
      · rw [List.mem_singleton] at hy; subst hy; omega
    · simp [go_sem, h3]
      refine ⟨by decide +kernel, i + 1, g, ⟨rfl, v1⟩, ⟨by omega, fun y hy => ?_, .inr ?_⟩, by omega⟩
      · rw [htk] at hy
        rcases List.mem_append.1 hy with hy | hy
        · exact hu y hy
        · rw [List.mem_singleton] at hy; subst hy; omega
      · rcases ha with ⟨_, rfl⟩ | ⟨y, hy, e⟩
        · omega
        · exact ⟨y, by rw [htk]; exact List.mem_append_left _ hy, e⟩
  · obtain rfl : i = L.length := by omega
    rw [List.take_length] at hu ha
    simp [go_sem]
    refine hR _ _ _ ⟨g, rfl, hu, ?_⟩ (by simp [go_sem])
    rcases ha with ⟨h0, rfl⟩ | ha
    · exact .inl ⟨rfl, List.eq_nil_of_length_eq_zero h0⟩
    · exact .inr ha
end Go.Idl
namespace Go.Idl
set_option linter.all false
open Go.Proofs
set_option maxHeartbeats 16000000
set_option maxRecDepth 40000

/-- An element put into a list that increases. -/
def insI (t : Int) : List Int → List Int
  | [] => [t]
  | a :: l => if a < t then a :: insI t l else if a = t then a :: l else t :: a :: l
theorem insI_mem {t x : Int} : ∀ {l : List Int}, x ∈ insI t l ↔ x = t ∨ x ∈ l
  | [] => by simp [insI]
  | a :: l => by
    have ih := insI_mem (t := t) (x := x) (l := l)
    unfold insI
    split
    · rw [List.mem_cons, ih, List.mem_cons]
      constructor
      · rintro (h | h | h)
        · exact .inr (.inl h)
        · exact .inl h
        · exact .inr (.inr h)
      · rintro (h | h | h)
        · exact .inr (.inl h)
        · exact .inl h
        · exact .inr (.inr h)
    · split
      · rename_i h; subst h; simp
      · simp
theorem insI_inc {t : Int} : ∀ {l : List Int}, Inc l → Inc (insI t l)
  | [], _ => by simp [insI, Inc]
  | a :: l, h => by
    obtain ⟨h1, h2⟩ := List.pairwise_cons.1 h
    unfold insI
    split
    · refine List.pairwise_cons.2 ⟨fun x hx => ?_, insI_inc h2⟩
      rcases insI_mem.1 hx with rfl | hx
      · assumption
      · exact h1 x hx
    · split
      · exact h
      · refine List.pairwise_cons.2 ⟨fun x hx => ?_, h⟩
        rcases List.mem_cons.1 hx with rfl | hx
        · omega
        · have := h1 x hx; omega
theorem tabsL_succ {L : List Rw} {i : Nat} (h : i < L.length) : tabsL (L.take (i + 1)) = insI L[i].t (tabsL (L.take i)) := by
  refine srt_eq (insI_inc (tabsL_inc _)) fun x => ?_
  rw [insI_mem, tabsL_mem, List.mem_map, List.take_succ_eq_append_getElem h]
  constructor
  · rintro (rfl | ⟨y, hy, rfl⟩)
    · exact ⟨L[i], List.mem_append_right _ (List.mem_singleton.2 rfl), rfl⟩
    · exact ⟨y, List.mem_append_left _ hy, rfl⟩
  · rintro ⟨y, hy, rfl⟩
    rcases List.mem_append.1 hy with hy | hy
    · exact .inr ⟨y, hy, rfl⟩
    · rw [List.mem_singleton] at hy; subst hy; exact .inl rfl
/-- Up to place q all are less than t. -/
theorem insI_at {t : Int} : ∀ {l : List Int} {q : Nat}, q ≤ l.length → (∀ j (h : j < l.length), j < q → l[j] < t) → (∀ h : q < l.length, ¬ l[q] < t) → insI t l = l.take q ++ (if h : q < l.length then (if l[q] = t then [] else [t]) else [t]) ++ l.drop q
  | [], q, h0, _, _ => by
    obtain rfl : q = 0 := by simpa using h0
    simp [insI]
  | a :: l, 0, _, _, h2 => by
    have := h2 (by simp)
    simp only [List.getElem_cons_zero] at this
    unfold insI
    rw [if_neg this]
    by_cases e : a = t <;> simp [e]
  | a :: l, q + 1, h0, h1, h2 => by
    have ha : a < t := h1 0 (by simp) (by omega)
    have ih := insI_at (t := t) (l := l) (q := q) (by simpa using h0) (fun j h hj => h1 (j + 1) (by simpa using h) (by omega)) (fun h => h2 (by simpa using h))
    unfold insI
    rw [if_pos ha, ih]
    simp
theorem srt_len' (l : List Int) : (srt l).length ≤ l.length := by
  unfold srt
  exact Nat.le_trans (compact_le _) (by rw [List.length_mergeSort]; exact Nat.le_refl _)
theorem tables27_fun (m : Mv) (hl : m.rows.length ≤ 2 ^ 30) : ON 54 [m.v] (fun v => v = .fz 1 (ints (tabsL m.rows))) := by
  refine IFun.of_bodyW false 8 [12, 32, 53] Try.func54 rfl Try.call54 rfl fun R hR => ?_
  obtain ⟨tb, ro, se, co, wi, L⟩ := m
  simp only [Mv.v] at *
  refine IWp.seqI ?_
  simp [go_sem]
  refine IWp.seqI ?_
  simp [go_sem]
  refine IWp.nzS 1 3 rfl rfl ?_
  refine IWp.seq ?_
  refine IWp.seqI ?_
  simp [go_sem]
  refine IWp.block ?_
  refine IWp.loopI (α := Nat) (fun i => (⟨false, 64, 8, [12, 32, 53], [], [(1, .ptr 0 1 0 0), (3, .fz 1 (ints (tabsL (L.take i)))), (4, .int .i64 (i : Int))], []⟩, [.rows 6 [[.int .i64 tb, .int .i64 ro, .int .i64 se, .int .i64 co, .int .i64 wi, .fz 5 (rws L)]]]))
    (fun i => i ≤ L.length) (fun i => L.length - i) 0 (by simp) (by simp [go_sem, show tabsL [] = [] from srt_eq .nil (by simp)]) ?_
  intro i hi
  refine IWp.seq ?_
  refine IWp.seqI ?_
  simp [go_sem]
  by_cases h : i < L.length
  · have v1 : IntKind.i64.wrap ((i : Int) + 1) = ((i + 1 : Nat) : Int) := by rw [wrap64 (by omega) (by omega)]; omega
    obtain ⟨x, hx⟩ : ∃ x, L[i] = x := ⟨_, rfl⟩
    have hsu := tabsL_succ h
    have hol : (tabsL (L.take i)).length ≤ i := Nat.le_trans (srt_len' _) (by simp; omega)
    rw [hx] at hsu
    refine IWp.now ?_
    simp [go_sem, h]
    refine IWp.seq ?_
    refine IWp.block ?_
    refine IWp.seqI ?_
    simp [go_sem, h, hx]
    refine IWp.seqI ?_
    simp [go_sem, h, hx]
    refine IWp.ownNilS 1 6 (by decide) rfl ?_
    refine IWp.seqI ?_
    simp [go_sem]
    generalize hO : tabsL (L.take i) = O at *
    refine IWp.seqT (α := Nat) (fun q => (⟨false, 64, 8, [12, 32, 53], [], [(1, .ptr 0 1 0 0), (3, .fz 1 (ints O)), (4, .int .i64 (i : Int)), (5, .int .i64 x.t), (6, .sl 1 q 0 q none), (7, .int .i64 (q : Int))], []⟩, [.rows 6 [[.int .i64 tb, .int .i64 ro, .int .i64 se, .int .i64 co, .int .i64 wi, .fz 5 (rws L)]], .rows 1 (ints (O.take q))])) (fun q => q ≤ O.length ∧ (∀ j (h : j < O.length), j < q → O[j] < x.t) ∧ ∀ h : q < O.length, ¬ O[q] < x.t) ?_ ?_
    · simp only [yC_block, yC_loop]
      refine IWp.loopI (α := Nat) (fun q => (⟨false, 64, 8, [12, 32, 53], [], [(1, .ptr 0 1 0 0), (3, .fz 1 (ints O)), (4, .int .i64 (i : Int)), (5, .int .i64 x.t), (6, .sl 1 q 0 q none), (7, .int .i64 (q : Int))], []⟩, [.rows 6 [[.int .i64 tb, .int .i64 ro, .int .i64 se, .int .i64 co, .int .i64 wi, .fz 5 (rws L)]], .rows 1 (ints (O.take q))]))
        (fun q => q ≤ O.length ∧ ∀ j (h : j < O.length), j < q → O[j] < x.t) (fun q => O.length - q) 0 ⟨by simp, fun j _ h => by omega⟩ (by simp [go_sem]) ?_
      rintro q ⟨hq, hlt⟩
      have hql : (O.take q).length = q := by rw [List.length_take]; omega
      refine IWp.seq ?_
      refine IWp.seqI ?_
      by_cases h2 : q < O.length
      · obtain ⟨y, hy⟩ : ∃ y, O[q] = y := ⟨_, rfl⟩
        have q1 : (ints O)[q]?.getD [] = [.int .i64 y] := by rw [List.getElem?_eq_getElem (by simpa using h2), Option.getD_some, ints_getElem, hy]
        by_cases h3 : y < x.t
        · have v2 : IntKind.i64.wrap ((q : Int) + 1) = ((q + 1 : Nat) : Int) := by rw [wrap64 (by omega) (by omega)]; omega
          have htk : ints (O.take (q + 1)) = ints (O.take q) ++ [[.int .i64 y]] := by rw [List.take_succ_eq_append_getElem h2, hy, ints_snoc]
          simp [go_sem, h2, hy, h3]
          refine IWp.now ?_
          simp [go_sem, h2, hy]
          refine IWp.now ?_
          simp [go_sem, h2, hy, hql, v2]
          exact ⟨by omega, q + 1, ⟨⟨rfl, rfl⟩, htk⟩, ⟨by omega, fun j hj hjq => by
            rcases Nat.lt_or_ge j q with h4 | h4
            · exact hlt j hj h4
            · have : j = q := by omega
              subst this; rw [hy]; exact h3⟩, by omega⟩
        · simp [go_sem, h2, hy, h3]
          refine IWp.now ?_
          simp [go_sem]
          exact ⟨q, by simp, hq, hlt, fun _ => by rw [hy]; omega⟩
      · obtain rfl : q = O.length := by omega
        simp [go_sem]
        refine IWp.now ?_
        simp [go_sem]
        exact ⟨O.length, by simp, Nat.le_refl _, hlt, fun h => by omega⟩
    rintro q ⟨hq, hlt, hge⟩
    have hql : (O.take q).length = q := by rw [List.length_take]; omega
    have hat := insI_at hq hlt hge
    rw [hat] at hsu
    have hmin : min q O.length = q := by omega
    have hrow : ∀ l : List Int, ∀ r ∈ ints l, r.length = 1 ∧ ∀ x ∈ r, (match x with | .agg _ => false | .tup _ => false | .opt _ _ => false | .junk => false | _ => true) = true := fun l r hr => by
      obtain ⟨z, _, rfl⟩ := List.mem_map.1 hr
      simp
    obtain ⟨Z, hZ0⟩ : ∃ Z, tabsL (L.take (i + 1)) = Z := ⟨_, rfl⟩
    rw [hZ0] at hsu
    have htkZ : List.take Z.length (ints Z) = ints Z := List.take_of_length_le (by simp [ints, mp])
    have hdr : List.drop q (List.take O.length (ints O)) = ints (O.drop q) := by
      rw [List.take_of_length_le (by simp [ints, mp])]
      simp [ints, mp, List.map_drop]
    refine IWp.seq ?_
    refine IWp.seqI ?_
    by_cases h2 : q < O.length
    · obtain ⟨y, hy⟩ : ∃ y, O[q] = y := ⟨_, rfl⟩
      rw [dif_pos h2, hy] at hsu
      have h5 : ¬ q = O.length := by omega
      have h6 : ¬ (q : Int) = (O.length : Int) := by omega
      by_cases h3 : y = x.t
      · rw [if_pos h3, List.append_nil] at hsu
        simp [go_sem, h2, hy, h3, h5, h6]
        refine IWp.now ?_
        simp [go_sem, h6]
        refine IWp.now ?_
        simp [go_sem, h2, hmin, hdr]
        have hZ : ints (O.take q) ++ ints (O.drop q) = ints Z := by rw [hsu]; simp [ints, mp]
        have hZl : q + (O.length - q) = Z.length := by rw [hsu]; simp; omega
        refine ⟨hq, ⟨by omega, hrow _⟩, ?_⟩
        rw [hZ, hZl]
        refine IWp.forget (e0 := ⟨false, 64, 8, [12, 32, 53], [], [(1, .ptr 0 1 0 0), (3, .sl 1 Z.length 0 Z.length none), (4, .int .i64 (i : Int))], []⟩) (σ0 := [.rows 6 [[.int .i64 tb, .int .i64 ro, .int .i64 se, .int .i64 co, .int .i64 wi, .fz 5 (rws L)]], .rows 1 (ints Z)]) (by simp [go_sem]) (by simp [go_sem]) (by simp) (by simp [go_sem]) ?_
        refine IWp.freeze 1 1 (ints Z) [(1, .ptr 0 1 0 0), (3, .fz 1 (ints Z)), (4, .int .i64 (i : Int))] [.rows 6 [[.int .i64 tb, .int .i64 ro, .int .i64 se, .int .i64 co, .int .i64 wi, .fz 5 (rws L)]], .dead] (by simp) (by simp [go_sem]) (by simp [go_sem, htkZ]) (by simp [go_sem]) ?_
        refine IWp.now ?_
        simp [go_sem, v1]
        exact ⟨i + 1, ⟨by rw [hZ0], rfl⟩, by omega, by omega⟩
      · rw [if_neg h3] at hsu
        have h7 : ((q : Int) == (O.length : Int)) = false := by simpa using h6
        have h8 : (y != x.t) = true := by simpa using h3
        simp [go_sem, h2, hy, h3, h5, h6, h7, h8]
        refine IWp.now ?_
        simp [go_sem, h6, h7, h8, hmin]
        refine ⟨by omega, ?_⟩
        refine IWp.now ?_
        simp [go_sem, h2, hmin, hdr]
        have hZ : ints (O.take q) ++ [IV.int .i64 x.t] :: ints (O.drop q) = ints Z := by rw [hsu]; simp [ints, mp]
        have hZl : q + 1 + (O.length - q) = Z.length := by rw [hsu]; simp; omega
        refine ⟨hq, ⟨by omega, hrow _⟩, ?_⟩
        rw [hZ, hZl]
        refine IWp.forget (e0 := ⟨false, 64, 8, [12, 32, 53], [], [(1, .ptr 0 1 0 0), (3, .sl 1 Z.length 0 Z.length none), (4, .int .i64 (i : Int))], []⟩) (σ0 := [.rows 6 [[.int .i64 tb, .int .i64 ro, .int .i64 se, .int .i64 co, .int .i64 wi, .fz 5 (rws L)]], .rows 1 (ints Z), .dead]) (by simp [go_sem]) (by simp [go_sem]) (by simp) (by simp [go_sem]) ?_
        refine IWp.freeze 1 1 (ints Z) [(1, .ptr 0 1 0 0), (3, .fz 1 (ints Z)), (4, .int .i64 (i : Int))] [.rows 6 [[.int .i64 tb, .int .i64 ro, .int .i64 se, .int .i64 co, .int .i64 wi, .fz 5 (rws L)]], .dead, .dead] (by simp) (by simp [go_sem]) (by simp [go_sem, htkZ]) (by simp [go_sem]) ?_
        refine IWp.now ?_
        simp [go_sem, v1]
        exact ⟨i + 1, ⟨by rw [hZ0], rfl⟩, by omega, by omega⟩
    · obtain rfl : q = O.length := by omega
      rw [dif_neg h2] at hsu
      simp [go_sem]
      refine IWp.now ?_
      simp [go_sem, hmin]
      refine ⟨by omega, ?_⟩
      refine IWp.now ?_
      simp [go_sem, hmin, hdr]
      have hZ : ints (O.take O.length) ++ [[IV.int .i64 x.t]] = ints Z := by rw [hsu]; simp [ints, mp]
      have hZl : O.length + 1 = Z.length := by rw [hsu]; simp
      rw [List.take_length] at hZ
      refine ⟨by omega, ?_⟩
      rw [hZ, hZl]
      refine IWp.forget (e0 := ⟨false, 64, 8, [12, 32, 53], [], [(1, .ptr 0 1 0 0), (3, .sl 1 Z.length 0 Z.length none), (4, .int .i64 (i : Int))], []⟩) (σ0 := [.rows 6 [[.int .i64 tb, .int .i64 ro, .int .i64 se, .int .i64 co, .int .i64 wi, .fz 5 (rws L)]], .rows 1 (ints Z), .dead]) (by simp [go_sem]) (by simp [go_sem]) (by simp) (by simp [go_sem]) ?_
      refine IWp.freeze 1 1 (ints Z) [(1, .ptr 0 1 0 0), (3, .fz 1 (ints Z)), (4, .int .i64 (i : Int))] [.rows 6 [[.int .i64 tb, .int .i64 ro, .int .i64 se, .int .i64 co, .int .i64 wi, .fz 5 (rws L)]], .dead, .dead] (by simp) (by simp [go_sem]) (by simp [go_sem, htkZ]) (by simp [go_sem]) ?_
      refine IWp.now ?_
      simp [go_sem, v1]
      exact ⟨i + 1, ⟨by rw [hZ0], rfl⟩, by omega, by omega⟩
  · obtain rfl : i = L.length := by omega
    refine IWp.now ?_
    simp [go_sem]
    refine IWp.now ?_
    simp [go_sem]
    exact hR _ _ _ rfl (by simp [go_sem])
theorem has27_fun (m : Mv) (r t s : Int) (hl : m.rows.length ≤ 2 ^ 30) : FN 55 [m.v, .int .i64 r, .int .i64 t, .int .i64 s] (fun v => v = .bool (hasB m.rows r t s)) := by
  refine IFun.of_bodyZ false 11 [15, 38] Try.func55 rfl Try.call55 rfl fun R hR => ?_
  obtain ⟨tb, ro, se, co, wi, L⟩ := m
  simp only [Mv.v] at *
  simp [go_sem]
  refine IWp.loopT (α := Nat) (fun i => (⟨false, 39, 11, [15, 38], [], [(1, .int .i64 r), (2, .int .i64 t), (3, .int .i64 s), (4, .ptr 0 1 0 0), (9, .int .i64 (i : Int))], []⟩, [.rows 6 [[.int .i64 tb, .int .i64 ro, .int .i64 se, .int .i64 co, .int .i64 wi, .fz 5 (rws L)]]]))
    (fun i => i ≤ L.length ∧ hasB (L.take i) r t s = false) (fun i => L.length - i) 0 (by simp [hasB]) (by simp [go_sem]) ?_
  rintro i ⟨hi, hb⟩
  by_cases h : i < L.length
  · have v1 : IntKind.i64.wrap ((i : Int) + 1) = ((i + 1 : Nat) : Int) := by rw [wrap64 (by omega) (by omega)]; omega
    have hsu : hasB (L.take (i + 1)) r t s = (hasB (L.take i) r t s || (L[i].r == r && L[i].t == t && L[i].s == s)) := by
      unfold hasB
      rw [List.take_succ_eq_append_getElem h, List.any_append]; simp
    have hmem := List.getElem_mem h
    obtain ⟨x, hx⟩ : ∃ x, L[i] = x := ⟨_, rfl⟩
    rw [hx, hb] at hsu
    rw [hx] at hmem
    by_cases h1 : x.r = r
    · by_cases h2 : x.t = t
      · by_cases h3 : x.s = s
        · have hh : hasB L r t s = true := hasB_iff.2 ⟨x, hmem, h1, h2, h3⟩
          rw [hh] at hR
          simp [go_sem, h, hx, h1, h2, h3]
          exact hR _ _ _ rfl (by simp [go_sem])
        · simp [go_sem, h, hx, h1, h2, h3]
          exact ⟨i + 1, v1, ⟨by omega, by rw [hsu]; simp [h3]⟩, by omega⟩
      · simp [go_sem, h, hx, h1, h2]
        exact ⟨i + 1, v1, ⟨by omega, by rw [hsu]; simp [h2]⟩, by omega⟩
    · simp [go_sem, h, hx, h1]
      exact ⟨i + 1, v1, ⟨by omega, by rw [hsu]; simp [h1]⟩, by omega⟩
  · obtain rfl : i = L.length := by omega
    rw [List.take_length] at hb
    rw [hb] at hR
    simp [go_sem]
    exact hR _ _ _ rfl (by simp [go_sem])
end Go.Idl
