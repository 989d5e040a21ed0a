/-
  Chapter 27: Shared at the chapter's example.
  Chapter 27: Shared at the chapter's example.
-/
import Derived.Test.YtjmjdjdabmlgeaaC27PartD
import Derived.Test.YtjmjdjdabmlgeaaC27PartE
import Derived.Test.YtjmjdjdabmlgeaaIdlPartL
namespace Go.Idl
set_option linter.all false
open Go.Proofs
set_option maxHeartbeats 16000000
set_option maxRecDepth 40000

/-- The rows of the example: the appendix movement of four tables. -/
def exL : List Rw := [⟨0, 0, 1, 5, 0⟩, ⟨0, 1, 2, 6, 1⟩, ⟨0, 2, 3, 7, 2⟩, ⟨0, 3, 4, 8, 0⟩, ⟨1, 0, 1, 8, 1⟩, ⟨1, 1, 2, 5, 2⟩, ⟨1, 2, 3, 6, 0⟩, ⟨1, 3, 4, 7, 1⟩]
def exM : Mv := ⟨4, 2, 3, 2, 2, exL⟩
theorem ex_make : Web.makeM 2 4 2 = exM ∧ Web.makeE 2 4 2 = 0 := by decide +kernel
def exI (b n : Nat) : IV := .sl b n 0 n none
/-- What is known of the tables of each set, as far as row i. -/
def exH (i : Nat) : Heap :=
  if i ≤ 4 then [.dead, .map []]
  else if i = 5 then [.dead, .map [(.int .i64 1, exI 13 1)], .dead, .dead, .dead, .dead, .dead, .dead, .dead, .dead, .dead, .dead, .dead, .rows 1 [[.int .i64 0]]]
  else if i = 6 then [.dead, .map [(.int .i64 1, exI 13 1), (.int .i64 2, exI 25 1)], .dead, .dead, .dead, .dead, .dead, .dead, .dead, .dead, .dead, .dead, .dead, .rows 1 [[.int .i64 0]], .dead, .dead, .dead, .dead, .dead, .dead, .dead, .dead, .dead, .dead, .dead, .rows 1 [[.int .i64 1]]]
  else if i = 7 then [.dead, .map [(.int .i64 1, exI 13 1), (.int .i64 2, exI 25 1), (.int .i64 0, exI 37 1)], .dead, .dead, .dead, .dead, .dead, .dead, .dead, .dead, .dead, .dead, .dead, .rows 1 [[.int .i64 0]], .dead, .dead, .dead, .dead, .dead, .dead, .dead, .dead, .dead, .dead, .dead, .rows 1 [[.int .i64 1]], .dead, .dead, .dead, .dead, .dead, .dead, .dead, .dead, .dead, .dead, .dead, .rows 1 [[.int .i64 2]]]
  else [.dead, .map [(.int .i64 1, exI 13 2), (.int .i64 2, exI 25 1), (.int .i64 0, exI 37 1)], .dead, .dead, .dead, .dead, .dead, .dead, .dead, .dead, .dead, .dead, .dead, .rows 1 [[.int .i64 0], [.int .i64 3]], .dead, .dead, .dead, .dead, .dead, .dead, .dead, .dead, .dead, .dead, .dead, .rows 1 [[.int .i64 1]], .dead, .dead, .dead, .dead, .dead, .dead, .dead, .dead, .dead, .dead, .dead, .rows 1 [[.int .i64 2]]]
/-- The entry of a set. -/
def ex3 (k : Int) : IV × IV := (.int .i64 k, if k = 1 then exI 13 2 else if k = 2 then exI 25 1 else exI 37 1)
theorem ex3_get {k : Int} : ∀ {K : List Int}, k ∉ K → mget (.int .i64 k) (K.map ex3) = none
  | [], _ => rfl
  | j :: K, h => by
    simp only [List.mem_cons, not_or] at h
    show (if keq (.int .i64 k) (.int .i64 j) = true then _ else mget (.int .i64 k) (K.map ex3)) = none
    rw [keI, if_neg (by simpa using h.1)]
    exact ex3_get h.2
theorem ex3_bl (K : List Int) : BlM 39 (K.map ex3) := fun e he => by
  obtain ⟨j, _, rfl⟩ := List.mem_map.1 he
  unfold ex3 exI
  split
  · simp [go_sem]
  · split <;> simp [go_sem]
theorem map_eraseIdx27 {α β : Type} (f : α → β) : ∀ (l : List α) (i : Nat), (l.map f).eraseIdx i = (l.eraseIdx i).map f
  | [], _ => rfl
  | _ :: _, 0 => rfl
  | _ :: l, i + 1 => by simp [map_eraseIdx27 f l i]
theorem erase_not {K : List Int} (hn : K.Nodup) {i : Nat} (hi : i < K.length) : K[i] ∉ K.eraseIdx i := fun h => by
  obtain ⟨j, hj, hne, e⟩ := List.mem_eraseIdx_iff_getElem.1 h
  have hp := List.pairwise_iff_getElem.1 hn
  rcases Nat.lt_or_gt_of_ne hne with h1 | h1
  · exact hp j i hj hi h1 e
  · exact hp i j hi hj h1 e.symm
theorem tables27_calls : ICalls Try.prog [] 59 [exM.v, .int .i64 1] [] (fun v σ => v = .map 1 ∧ σ = exH 8) := by
  refine ICalls.forget (ICalls.of_bodyU false 10 [12, 13, 14, 15, 21, 35, 37, 43, 44, 46] Try.func59 rfl Try.call59 rfl fun R hR => ?_)
  have hl : exL.length = 8 := rfl
  simp only [Mv.v, exM] at *
  refine IWp.seqI ?_
  simp [go_sem]
  refine IWp.seqI ?_
  simp [go_sem]
  refine IWp.seqT (α := Unit) (fun _ => (⟨false, 48, 10, [12, 13, 14, 15, 21, 35, 37, 43, 44, 46], [], [(5, .map 1)], []⟩, exH 8)) (fun _ => True) ?_ ?_
  · simp [go_sem, hl]
    refine IWp.loopT (α := Nat) (fun i => (⟨false, 48, 10, [12, 13, 14, 15, 21, 35, 37, 43, 44, 46], [], [(1, .int .i64 1), (5, .map 1), (12, .fz 5 (rws exL)), (13, .int .i64 8), (14, .int .i64 (i : Int))], []⟩, exH i))
      (fun i => i ≤ 8) (fun i => 8 - i) 0 (by simp) (by simp [go_sem, exH]) ?_
    intro i hi
    rcases (by omega : i ≤ 3 ∨ i = 4 ∨ i = 5 ∨ i = 6 ∨ i = 7 ∨ i = 8) with h | rfl | rfl | rfl | rfl | rfl
    · rcases (by omega : i = 0 ∨ i = 1 ∨ i = 2 ∨ i = 3) with rfl | rfl | rfl | rfl
      · have w1 : IntKind.i64.wrap 1 = 1 := rfl
        simp [go_sem, exH, exL, rws, mp, Rw.c, w1]
        exact ⟨1, by simp [go_sem], by omega, by omega⟩
      · have w1 : IntKind.i64.wrap 2 = 2 := rfl
        simp [go_sem, exH, exL, rws, mp, Rw.c, w1]
        exact ⟨2, by simp [go_sem], by omega, by omega⟩
      · have w1 : IntKind.i64.wrap 3 = 3 := rfl
        simp [go_sem, exH, exL, rws, mp, Rw.c, w1]
        exact ⟨3, by simp [go_sem], by omega, by omega⟩
      · have w1 : IntKind.i64.wrap 4 = 4 := rfl
        simp [go_sem, exH, exL, rws, mp, Rw.c, w1]
        exact ⟨4, by simp [go_sem], by omega, by omega⟩
    · have w1 : IntKind.i64.wrap 5 = 5 := rfl
      simp [go_sem, exH, exL, rws, mp, Rw.c, w1, mget, mset, keI, exI]
      exact ⟨by decide +kernel, 5, by simp [go_sem], by omega, by omega⟩
    · have w1 : IntKind.i64.wrap 6 = 6 := rfl
      simp [go_sem, exH, exL, rws, mp, Rw.c, w1, mget, mset, keI, exI]
      exact ⟨by decide +kernel, 6, by simp [go_sem], by omega, by omega⟩
    · have w1 : IntKind.i64.wrap 7 = 7 := rfl
      simp [go_sem, exH, exL, rws, mp, Rw.c, w1, mget, mset, keI, exI]
      exact ⟨by decide +kernel, 7, by simp [go_sem], by omega, by omega⟩
    · have w1 : IntKind.i64.wrap 8 = 8 := rfl
      simp [go_sem, exH, exL, rws, mp, Rw.c, w1, mget, mset, keI, exI]
      exact ⟨by decide +kernel, 8, by simp [go_sem], by omega, by omega⟩
    · simp [go_sem, exH, exI]
  rintro _ _
  have e8 : exH 8 = [.dead, .map [(.int .i64 1, exI 13 2), (.int .i64 2, exI 25 1), (.int .i64 0, exI 37 1)], .dead, .dead, .dead, .dead, .dead, .dead, .dead, .dead, .dead, .dead, .dead, .rows 1 [[.int .i64 0], [.int .i64 3]], .dead, .dead, .dead, .dead, .dead, .dead, .dead, .dead, .dead, .dead, .dead, .rows 1 [[.int .i64 1]], .dead, .dead, .dead, .dead, .dead, .dead, .dead, .dead, .dead, .dead, .dead, .rows 1 [[.int .i64 2]]] := rfl
  rw [e8] at hR
  simp only [e8]
  have h3 : [(IV.int .i64 1, IV.sl 13 2 0 2 none), (.int .i64 2, .sl 25 1 0 1 none), (.int .i64 0, .sl 37 1 0 1 none)] = [(1 : Int), 2, 0].map ex3 := rfl
  refine IWp.seqI ?_
  simp [go_sem, exI]
  rw [h3]
  refine IWp.now ?_
  simp only [yC_loop]
  refine IWp.loopI (α := Option (IV × IV) × List Int) (fun x => (⟨false, 48, 10, [12, 13, 14, 15, 21, 35, 37, 43, 44, 46], [], [(5, .map 1), (35, .iter 38)], []⟩, [.dead, .dead, .dead, .dead, .dead, .dead, .dead, .dead, .dead, .dead, .dead, .dead, .dead, .rows 1 [[.int .i64 0], [.int .i64 3]], .dead, .dead, .dead, .dead, .dead, .dead, .dead, .dead, .dead, .dead, .dead, .rows 1 [[.int .i64 1]], .dead, .dead, .dead, .dead, .dead, .dead, .dead, .dead, .dead, .dead, .dead, .rows 1 [[.int .i64 2]], .iter (some 1) ([1, 2, 0].map ex3) x.1 (x.2.map ex3)]))
    (fun x => x.2.Nodup ∧ ∀ k ∈ x.2, k = 1 ∨ k = 2 ∨ k = 0) (fun x => x.2.length) (none, [1, 2, 0]) (by decide) (by simp [go_sem, ex3, exI]) ?_
  rintro ⟨cur, K⟩ ⟨hnd, hK⟩
  simp only at hnd hK
  refine IWp.seqI ?_
  simp [go_sem]
  unfold nextQ
  refine ⟨fun h => ?_, fun i kv hkv => ?_⟩
  · have hK0 : K = [] := by simpa using h
    subst hK0
    simp [go_sem]
    refine IWp.now ?_
    simp [go_sem]
    refine IWp.revive 38 1 _ rfl rfl ?_
    refine IWp.now ?_
    simp [go_sem]
    exact hR _ _ ⟨_, by simp [go_sem, ex3, exI], rfl, rfl⟩
  · obtain ⟨k, hk, hkv2⟩ : ∃ k, K[i]? = some k ∧ ex3 k = kv := by simpa [List.getElem?_map, Option.map_eq_some_iff] using hkv
    obtain ⟨hi, hki⟩ := List.getElem?_eq_some_iff.1 hk
    have hno := erase_not hnd hi
    rw [hki] at hno
    have hnd2 : (K.eraseIdx i).Nodup := hnd.sublist (List.eraseIdx_sublist ..)
    have hK2 : ∀ k ∈ K.eraseIdx i, k = 1 ∨ k = 2 ∨ k = 0 := fun k h => hK k (List.mem_of_mem_eraseIdx h)
    have hlen : (K.eraseIdx i).length < K.length := by rw [List.length_eraseIdx, if_pos hi]; omega
    have hkc := hK k (by rw [← hki]; exact List.getElem_mem hi)
    rw [map_eraseIdx27]
    generalize K.eraseIdx i = K2 at *
    subst hkv2
    have hg := ex3_get hno
    clear hkv hk hki hi hnd hK hno
    simp [go_sem]
    refine IWp.seqI ?_
    simp [go_sem]
    rcases hkc with rfl | rfl | rfl
    · refine IWp.block ?_
      refine IWp.seqI ?_
      simp [go_sem, ex3, exI]
      refine IWp.seqI ?_
      simp [go_sem]
      refine ICalls.sortA (zs := [0, 3]) (b := 13) sortInt sort0 Try.call48 (by simp [mp]) rfl (by decide) ?_
      rw [show ([0, 3] : List Int).mergeSort (fun x y => decide (x ≤ y)) = [0, 3] from List.mergeSort_of_pairwise (by decide)]
      simp [go_sem, mp]
      refine IWp.regionW 4 rfl rfl fun Q hQ => ?_
      simp [go_sem]
      refine ICalls.compactA (zs := [0, 3]) (b := 13) compactInt compact0 Try.call49 (by simp [mp]) rfl (by decide) ?_
      rw [show Lib.compact ([0, 3] : List Int) = [0, 3] by decide +kernel]
      simp [go_sem, mp]
      refine hQ _ _ ?_
      unfold putQ
      refine ⟨3, 28, [.int .i64], 1, .int .i64 1, .sl 13 2 0 2 none, .sl 13 2 0 2 none, 38, _, _, K2.map ex3, Try.underlying89, by simp [go_sem], rfl, rfl, rfl, by simp [go_sem], rfl, rfl, by simp [go_sem, keyOK], ?_, ?_, rfl, hg, ?_⟩
      · simp [go_sem, keyOK]
      · intro e he
        obtain ⟨j, _, rfl⟩ := List.mem_map.1 he
        simp [go_sem, keyOK, ex3]
      · simp [go_sem, mset, keI]
        exact ⟨none, K2, ⟨⟨rfl, rfl⟩, ex3_bl K2, fun _ _ h => by cases h⟩, ⟨hnd2, hK2⟩, hlen⟩
    · refine IWp.block ?_
      refine IWp.seqI ?_
      simp [go_sem, ex3, exI]
      refine IWp.seqI ?_
      simp [go_sem]
      refine ICalls.sortA (zs := [1]) (b := 25) sortInt sort0 Try.call48 (by simp [mp]) rfl (by decide) ?_
      rw [show ([1] : List Int).mergeSort (fun x y => decide (x ≤ y)) = [1] from List.mergeSort_of_pairwise (by decide)]
      simp [go_sem, mp]
      refine IWp.regionW 4 rfl rfl fun Q hQ => ?_
      simp [go_sem]
      refine ICalls.compactA (zs := [1]) (b := 25) compactInt compact0 Try.call49 (by simp [mp]) rfl (by decide) ?_
      rw [show Lib.compact ([1] : List Int) = [1] by decide +kernel]
      simp [go_sem, mp]
      refine hQ _ _ ?_
      unfold putQ
      refine ⟨3, 28, [.int .i64], 1, .int .i64 2, .sl 25 1 0 1 none, .sl 25 1 0 1 none, 38, _, _, K2.map ex3, Try.underlying89, by simp [go_sem], rfl, rfl, rfl, by simp [go_sem], rfl, rfl, by simp [go_sem, keyOK], ?_, ?_, rfl, hg, ?_⟩
      · simp [go_sem, keyOK]
      · intro e he
        obtain ⟨j, _, rfl⟩ := List.mem_map.1 he
        simp [go_sem, keyOK, ex3]
      · simp [go_sem, mset, keI]
        exact ⟨none, K2, ⟨⟨rfl, rfl⟩, ex3_bl K2, fun _ _ h => by cases h⟩, ⟨hnd2, hK2⟩, hlen⟩
    · refine IWp.block ?_
      refine IWp.seqI ?_
      simp [go_sem, ex3, exI]
      refine IWp.seqI ?_
      simp [go_sem]
      refine ICalls.sortA (zs := [2]) (b := 37) sortInt sort0 Try.call48 (by simp [mp]) rfl (by decide) ?_
      rw [show ([2] : List Int).mergeSort (fun x y => decide (x ≤ y)) = [2] from List.mergeSort_of_pairwise (by decide)]
      simp [go_sem, mp]
      refine IWp.regionW 4 rfl rfl fun Q hQ => ?_
      simp [go_sem]
      refine ICalls.compactA (zs := [2]) (b := 37) compactInt compact0 Try.call49 (by simp [mp]) rfl (by decide) ?_
      rw [show Lib.compact ([2] : List Int) = [2] by decide +kernel]
      simp [go_sem, mp]
      refine hQ _ _ ?_
      unfold putQ
      refine ⟨3, 28, [.int .i64], 1, .int .i64 0, .sl 37 1 0 1 none, .sl 37 1 0 1 none, 38, _, _, K2.map ex3, Try.underlying89, by simp [go_sem], rfl, rfl, rfl, by simp [go_sem], rfl, rfl, by simp [go_sem, keyOK], ?_, ?_, rfl, hg, ?_⟩
      · simp [go_sem, keyOK]
      · intro e he
        obtain ⟨j, _, rfl⟩ := List.mem_map.1 he
        simp [go_sem, keyOK, ex3]
      · simp [go_sem, mset, keI]
        exact ⟨none, K2, ⟨⟨rfl, rfl⟩, ex3_bl K2, fun _ _ h => by cases h⟩, ⟨hnd2, hK2⟩, hlen⟩
end Go.Idl
namespace Go.Idl
set_option linter.all false
open Go.Proofs
set_option maxHeartbeats 16000000
set_option maxRecDepth 40000

/-- The heap of Shared: before the pair is there (false), and then (true). -/
def sm (d : Bool) : List (IV × IV) := if d = true then [(.agg [.int .i64 0, .int .i64 3], .bool true)] else []
def sn (d : Bool) : Nat := if d = true then 1 else 0
def sb (d : Bool) : List (List IV) := if d = true then [[.int .i64 0, .int .i64 3]] else []
@[go_sem] theorem sm_bl {n : Nat} {d : Bool} : BlM n (sm d) = True := eq_true (by cases d <;> simp [sm, go_sem])
@[go_sem] theorem sb_bl {n : Nat} {d : Bool} : BlR n (sb d) = True := eq_true (by cases d <;> simp [sb, go_sem])
def ex3s (k : Int) : IV × IV := (.int .i64 k, if k = 1 then exI 19 2 else if k = 2 then exI 31 1 else exI 43 1)
theorem ex3s_bl {n : Nat} (hn : 44 ≤ n) (K : List Int) : BlM n (K.map ex3s) := fun e he => by
  obtain ⟨j, _, rfl⟩ := List.mem_map.1 he
  unfold ex3s exI
  split
  · simp [go_sem]; omega
  · split <;> simp [go_sem] <;> omega
def fullH (d : Bool) (Y : IObj) (cur : Option (IV × IV)) (K : List Int) : Heap := [.dead, .map (sm d), .rows 1 [[.map 1]], .rows 1 [[.sl 4 (sn d) 0 (sn d) none]], .rows 2 (sb d), Y, .dead, .dead, .dead, .dead, .dead, .dead, .dead, .dead, .dead, .dead, .dead, .dead, .dead, .rows 1 [[.int .i64 0], [.int .i64 3]], .dead, .dead, .dead, .dead, .dead, .dead, .dead, .dead, .dead, .dead, .dead, .rows 1 [[.int .i64 1]], .dead, .dead, .dead, .dead, .dead, .dead, .dead, .dead, .dead, .dead, .dead, .rows 1 [[.int .i64 2]], .iter (some 7) ([1, 2, 0].map ex3s) cur (K.map ex3s)]
def togV (m : Mv) (r : Int) : IV := .func (.func 58) [] [.fptr 6 [[.int .i64 m.tables, .int .i64 m.rounds, .int .i64 m.sets, .int .i64 m.copies, .int .i64 m.winners, .fz 5 (rws m.rows)]] 0 0, .fptr 1 [[.int .i64 r]] 0 0]
theorem together_fun (m : Mv) (r : Int) : ON 44 [m.v, .int .i64 r] (fun v => v = togV m r) := by
  refine IFun.of_bodyZ false 5 [] Try.func44 rfl Try.call44 rfl fun R hR => ?_
  obtain ⟨tb, ro, se, co, wi, L⟩ := m
  simp only [Mv.v, togV] at *
  simp [go_sem]
  exact hR _ _ _ rfl (by simp [go_sem])
theorem together1_calls (l : Nat) (Y : IObj) (hY3 : ∀ n, 6 ≤ n → ObBl n Y) (hYh : Y.isHole = false)
    (hY : ∀ K : List Int, YCalls Try.prog [] l [.agg [.int .i64 0, .int .i64 3]] (fullH false Y (some (ex3s 1)) K) fun r σ' => r = .bool true ∧ fgt (fullH true Y (some (ex3s 1)) K) σ') :
    ICalls Try.prog [] 58 [.func (.yield l) [] [], .fptr 6 [[.int .i64 4, .int .i64 2, .int .i64 3, .int .i64 2, .int .i64 2, .fz 5 (rws exL)]] 0 0, .fptr 1 [[.int .i64 1]] 0 0] ((fullH false Y none []).take 6) fun _ σ' => σ' = (fullH true Y none []).take 6 := by
  refine ICalls.forget (ICalls.of_bodyU false 10 [13, 15, 18, 19, 20, 21, 28, 29, 30, 31, 39] Try.func58 rfl Try.call58 rfl fun R hR => ?_)
  have ct := tables27_calls
  have h8 : exH 8 = [.dead, .map ([1, 2, 0].map ex3), .dead, .dead, .dead, .dead, .dead, .dead, .dead, .dead, .dead, .dead, .dead, .rows 1 [[.int .i64 0], [.int .i64 3]], .dead, .dead, .dead, .dead, .dead, .dead, .dead, .dead, .dead, .dead, .dead, .rows 1 [[.int .i64 1]], .dead, .dead, .dead, .dead, .dead, .dead, .dead, .dead, .dead, .dead, .dead, .rows 1 [[.int .i64 2]]] := rfl
  rw [h8] at ct
  simp only [Mv.v, exM] at ct
  unfold fullH at hY hR
  unfold fullH
  simp only [List.take] at *
  refine IWp.seqI ?_
  simp [go_sem]
  refine ct.at [] (by simp [go_sem]) ?_
  rintro _ _ ⟨rfl, rfl⟩
  simp [go_sem, ex3, exI]
  have hren : renM (piF [] 6) [(IV.int .i64 1, IV.sl 13 2 0 2 none), (.int .i64 2, .sl 25 1 0 1 none), (.int .i64 0, .sl 37 1 0 1 none)] = [(1 : Int), 2, 0].map ex3s := rfl
  rw [hren]
  refine IWp.block ?_
  refine IWp.loopI (α := Option (IV × IV) × List Int) (fun x => (⟨false, 42, 10, [13, 15, 18, 19, 20, 21, 28, 29, 30, 31, 39], [], [(0, .func (.yield l) [] []), (13, .iter 44)], []⟩, [.dead, .map (sm (!decide (1 ∈ x.2))), .rows 1 [[.map 1]], .rows 1 [[.sl 4 (sn (!decide (1 ∈ x.2))) 0 (sn (!decide (1 ∈ x.2))) none]], .rows 2 (sb (!decide (1 ∈ x.2))), Y, .dead, .dead, .dead, .dead, .dead, .dead, .dead, .dead, .dead, .dead, .dead, .dead, .dead, .rows 1 [[.int .i64 0], [.int .i64 3]], .dead, .dead, .dead, .dead, .dead, .dead, .dead, .dead, .dead, .dead, .dead, .rows 1 [[.int .i64 1]], .dead, .dead, .dead, .dead, .dead, .dead, .dead, .dead, .dead, .dead, .dead, .rows 1 [[.int .i64 2]], .iter (some 7) ([1, 2, 0].map ex3s) x.1 (x.2.map ex3s)]))
    (fun x => x.2.Nodup ∧ ∀ k ∈ x.2, k = 1 ∨ k = 2 ∨ k = 0) (fun x => x.2.length) (none, [1, 2, 0]) (by decide) (by simp [go_sem, ex3s, exI, hY3]) ?_
  rintro ⟨cur, K⟩ ⟨hnd, hK⟩
  simp only at hnd hK
  refine IWp.seqI ?_
  simp [go_sem]
  unfold nextQ
  refine ⟨fun h => ?_, fun i kv hkv => ?_⟩
  · have hK0 : K = [] := by simpa using h
    subst hK0
    simp [go_sem]
    refine IWp.now ?_
    simp [go_sem]
    exact hR _ _ ⟨_, by simp [go_sem, hY3, hYh], rfl⟩
  · obtain ⟨k, hk, hkv2⟩ : ∃ k, K[i]? = some k ∧ ex3s k = kv := by simpa [List.getElem?_map, Option.map_eq_some_iff] using hkv
    obtain ⟨hi, hki⟩ := List.getElem?_eq_some_iff.1 hk
    have hno := erase_not hnd hi
    rw [hki] at hno
    have hnd2 : (K.eraseIdx i).Nodup := hnd.sublist (List.eraseIdx_sublist ..)
    have hK2 : ∀ k ∈ K.eraseIdx i, k = 1 ∨ k = 2 ∨ k = 0 := fun k h => hK k (List.mem_of_mem_eraseIdx h)
    have hlen : (K.eraseIdx i).length < K.length := by rw [List.length_eraseIdx, if_pos hi]; omega
    have hkm : k ∈ K := by rw [← hki]; exact List.getElem_mem hi
    have hkc := hK k hkm
    have hm1 : k ≠ 1 → (1 ∉ K ↔ 1 ∉ K.eraseIdx i) := fun hk1 => by
      refine ⟨fun h h' => h (List.mem_of_mem_eraseIdx h'), fun h h' => ?_⟩
      obtain ⟨j, hj, e⟩ := List.getElem_of_mem h'
      refine h (List.mem_eraseIdx_iff_getElem.2 ⟨j, hj, fun e2 => ?_, e⟩)
      subst e2
      exact hk1 (hki.symm.trans e)
    rw [map_eraseIdx27]
    generalize K.eraseIdx i = K2 at *
    subst hkv2
    clear hkv hk hki hi hnd hK
    simp [go_sem]
    refine IWp.seqI ?_
    simp [go_sem]
    rcases hkc with rfl | rfl | rfl
    · have d0 : (!decide (1 ∈ K)) = false := by simpa using hkm
      have d1 : (!decide (1 ∈ K2)) = true := by simpa using hno
      rw [d0]
      have hYK := hY K2
      simp [ex3s, exI] at hYK
      refine IWp.block ?_
      refine IWp.seqI ?_
      simp [go_sem, ex3s, exI]
      refine IWp.seqI ?_
      simp [go_sem]
      refine IWp.block ?_
      refine IWp.loopI (α := Nat) (fun i => (⟨false, 42, 10, [13, 15, 18, 19, 20, 21, 28, 29, 30, 31, 39], [], [(0, .func (.yield l) [] []), (5, .sl 19 2 0 2 none), (13, .iter 44), (18, .sl 19 2 0 2 none), (19, .int .i64 2), (20, .int .i64 (i : Int))], []⟩, [.dead, .map (sm (decide (0 < i))), .rows 1 [[.map 1]], .rows 1 [[.sl 4 (sn (decide (0 < i))) 0 (sn (decide (0 < i))) none]], .rows 2 (sb (decide (0 < i))), Y, .dead, .dead, .dead, .dead, .dead, .dead, .dead, .dead, .dead, .dead, .dead, .dead, .dead, .rows 1 [[.int .i64 0], [.int .i64 3]], .dead, .dead, .dead, .dead, .dead, .dead, .dead, .dead, .dead, .dead, .dead, .rows 1 [[.int .i64 1]], .dead, .dead, .dead, .dead, .dead, .dead, .dead, .dead, .dead, .dead, .dead, .rows 1 [[.int .i64 2]], .iter (some 7) [(.int .i64 1, .sl 19 2 0 2 none), (.int .i64 2, .sl 31 1 0 1 none), (.int .i64 0, .sl 43 1 0 1 none)] (some (.int .i64 1, .sl 19 2 0 2 none)) (K2.map ex3s)]))
        (fun i => i ≤ 2) (fun i => 2 - i) 0 (by simp) (by simp [go_sem, ex3s_bl, hY3]) ?_
      intro i hi
      refine IWp.seqI ?_
      simp [go_sem]
      refine IWp.seqI ?_
      rcases (by omega : i = 0 ∨ i = 1 ∨ i = 2) with rfl | rfl | rfl
      · simp [go_sem]
        refine IWp.seq ?_
        refine IWp.block ?_
        refine IWp.seqI ?_
        simp [go_sem]
        refine IWp.seqI ?_
        have z1 : IntKind.i64.wrap 1 = 1 := by decide
        simp [go_sem, z1]
        refine IWp.block ?_
        refine IWp.loopI (α := Nat) (fun j => (⟨false, 42, 10, [13, 15, 18, 19, 20, 21, 28, 29, 30, 31, 39], [], [(0, .func (.yield l) [] []), (5, .sl 19 2 0 2 none), (7, .int .i64 0), (13, .iter 44), (18, .sl 19 2 0 2 none), (19, .int .i64 2), (20, .int .i64 0), (28, .sl 19 2 1 1 none), (29, .int .i64 1), (30, .int .i64 (j : Int))], []⟩, [.dead, .map (sm (decide (0 < j))), .rows 1 [[.map 1]], .rows 1 [[.sl 4 (sn (decide (0 < j))) 0 (sn (decide (0 < j))) none]], .rows 2 (sb (decide (0 < j))), Y, .dead, .dead, .dead, .dead, .dead, .dead, .dead, .dead, .dead, .dead, .dead, .dead, .dead, .rows 1 [[.int .i64 0], [.int .i64 3]], .dead, .dead, .dead, .dead, .dead, .dead, .dead, .dead, .dead, .dead, .dead, .rows 1 [[.int .i64 1]], .dead, .dead, .dead, .dead, .dead, .dead, .dead, .dead, .dead, .dead, .dead, .rows 1 [[.int .i64 2]], .iter (some 7) [(.int .i64 1, .sl 19 2 0 2 none), (.int .i64 2, .sl 31 1 0 1 none), (.int .i64 0, .sl 43 1 0 1 none)] (some (.int .i64 1, .sl 19 2 0 2 none)) (K2.map ex3s)]))
          (fun j => j ≤ 1) (fun j => 1 - j) 0 (by simp) (by simp [go_sem, ex3s_bl, hY3]) ?_
        intro j hj
        refine IWp.seqI ?_
        simp [go_sem]
        refine IWp.seqI ?_
        rcases (by omega : j = 0 ∨ j = 1) with rfl | rfl
        · simp [go_sem]
          refine IWp.seq ?_
          refine IWp.block ?_
          refine IWp.seqI ?_
          simp [go_sem]
          refine IWp.seqI ?_
          simp [go_sem]
          refine hYK.mono ?_
          rintro _ σ' ⟨rfl, hf⟩
          simp [go_sem]
          refine IWp.now ?_
          simp [go_sem]
          refine IWp.now ?_
          simp [go_sem]
          exact ⟨1, ⟨by decide, by simpa [ex3s, exI] using hf, hY3 _ (by omega), ex3s_bl (by omega) _⟩, by decide, by decide⟩
        · simp [go_sem]
          refine IWp.now ?_
          simp [go_sem, hY3, ex3s_bl]
          exact ⟨1, ⟨by decide, rfl, rfl, rfl⟩, by decide, by decide⟩
      · simp [go_sem]
        refine IWp.seq ?_
        refine IWp.block ?_
        refine IWp.seqI ?_
        simp [go_sem]
        refine IWp.seqI ?_
        have z2 : IntKind.i64.wrap 2 = 2 := by decide
        simp [go_sem, z2]
        refine IWp.block ?_
        refine IWp.loopI (α := Unit) (fun j => (⟨false, 42, 10, [13, 15, 18, 19, 20, 21, 28, 29, 30, 31, 39], [], [(0, .func (.yield l) [] []), (5, .sl 19 2 0 2 none), (7, .int .i64 3), (13, .iter 44), (18, .sl 19 2 0 2 none), (19, .int .i64 2), (20, .int .i64 1), (28, .sl 19 2 2 0 none), (29, .int .i64 0), (30, .int .i64 0)], []⟩, [.dead, .map (sm true), .rows 1 [[.map 1]], .rows 1 [[.sl 4 (sn true) 0 (sn true) none]], .rows 2 (sb true), Y, .dead, .dead, .dead, .dead, .dead, .dead, .dead, .dead, .dead, .dead, .dead, .dead, .dead, .rows 1 [[.int .i64 0], [.int .i64 3]], .dead, .dead, .dead, .dead, .dead, .dead, .dead, .dead, .dead, .dead, .dead, .rows 1 [[.int .i64 1]], .dead, .dead, .dead, .dead, .dead, .dead, .dead, .dead, .dead, .dead, .dead, .rows 1 [[.int .i64 2]], .iter (some 7) [(.int .i64 1, .sl 19 2 0 2 none), (.int .i64 2, .sl 31 1 0 1 none), (.int .i64 0, .sl 43 1 0 1 none)] (some (.int .i64 1, .sl 19 2 0 2 none)) (K2.map ex3s)]))
          (fun j => True) (fun j => 0) () (by simp) (by simp [go_sem, ex3s_bl, hY3]) ?_
        rintro ⟨⟩ -
        refine IWp.seqI ?_
        simp [go_sem]
        refine IWp.now ?_
        simp [go_sem, hY3, ex3s_bl]
        refine IWp.now ?_
        simp [go_sem, hY3, ex3s_bl]
        exact ⟨2, ⟨by decide, rfl, rfl, rfl⟩, by decide, by decide⟩
      · simp [go_sem]
        refine ⟨some (.int .i64 1, .sl 19 2 0 2 none), K2, ?_⟩
        simp [d1, hnd2, hlen, ex3s_bl, hY3, go_sem]
        exact hK2
    · have hm := hm1 (by decide)
      have d1 : decide (1 ∈ K) = decide (1 ∈ K2) := by by_cases h : 1 ∈ K <;> by_cases h2 : 1 ∈ K2 <;> simp_all
      clear hm hm1
      rw [d1]
      generalize hd : decide (1 ∈ K2) = d
      refine IWp.block ?_
      refine IWp.seqI ?_
      simp [go_sem, ex3s, exI]
      refine IWp.seqI ?_
      simp [go_sem]
      refine IWp.block ?_
      refine IWp.loopI (α := Nat) (fun i => (⟨false, 42, 10, [13, 15, 18, 19, 20, 21, 28, 29, 30, 31, 39], [], [(0, .func (.yield l) [] []), (5, .sl 31 1 0 1 none), (13, .iter 44), (18, .sl 31 1 0 1 none), (19, .int .i64 1), (20, .int .i64 (i : Int))], []⟩, [.dead, .map (sm (!d)), .rows 1 [[.map 1]], .rows 1 [[.sl 4 (sn (!d)) 0 (sn (!d)) none]], .rows 2 (sb (!d)), Y, .dead, .dead, .dead, .dead, .dead, .dead, .dead, .dead, .dead, .dead, .dead, .dead, .dead, .rows 1 [[.int .i64 0], [.int .i64 3]], .dead, .dead, .dead, .dead, .dead, .dead, .dead, .dead, .dead, .dead, .dead, .rows 1 [[.int .i64 1]], .dead, .dead, .dead, .dead, .dead, .dead, .dead, .dead, .dead, .dead, .dead, .rows 1 [[.int .i64 2]], .iter (some 7) [(.int .i64 1, .sl 19 2 0 2 none), (.int .i64 2, .sl 31 1 0 1 none), (.int .i64 0, .sl 43 1 0 1 none)] (some (.int .i64 2, .sl 31 1 0 1 none)) (K2.map ex3s)]))
        (fun i => i ≤ 1) (fun i => 1 - i) 0 (by simp) (by simp [go_sem, ex3s_bl, hY3]) ?_
      intro i hi
      refine IWp.seqI ?_
      simp [go_sem]
      refine IWp.seqI ?_
      rcases (by omega : i = 0 ∨ i = 1) with rfl | rfl
      · simp [go_sem]
        refine IWp.seq ?_
        refine IWp.block ?_
        refine IWp.seqI ?_
        simp [go_sem]
        refine IWp.seqI ?_
        have z1 : IntKind.i64.wrap 1 = 1 := by decide
        simp [go_sem, z1]
        refine IWp.block ?_
        refine IWp.loopI (α := Unit) (fun j => (⟨false, 42, 10, [13, 15, 18, 19, 20, 21, 28, 29, 30, 31, 39], [], [(0, .func (.yield l) [] []), (5, .sl 31 1 0 1 none), (7, .int .i64 1), (13, .iter 44), (18, .sl 31 1 0 1 none), (19, .int .i64 1), (20, .int .i64 0), (28, .sl 31 1 1 0 none), (29, .int .i64 0), (30, .int .i64 0)], []⟩, [.dead, .map (sm (!d)), .rows 1 [[.map 1]], .rows 1 [[.sl 4 (sn (!d)) 0 (sn (!d)) none]], .rows 2 (sb (!d)), Y, .dead, .dead, .dead, .dead, .dead, .dead, .dead, .dead, .dead, .dead, .dead, .dead, .dead, .rows 1 [[.int .i64 0], [.int .i64 3]], .dead, .dead, .dead, .dead, .dead, .dead, .dead, .dead, .dead, .dead, .dead, .rows 1 [[.int .i64 1]], .dead, .dead, .dead, .dead, .dead, .dead, .dead, .dead, .dead, .dead, .dead, .rows 1 [[.int .i64 2]], .iter (some 7) [(.int .i64 1, .sl 19 2 0 2 none), (.int .i64 2, .sl 31 1 0 1 none), (.int .i64 0, .sl 43 1 0 1 none)] (some (.int .i64 2, .sl 31 1 0 1 none)) (K2.map ex3s)]))
          (fun j => True) (fun j => 0) () (by simp) (by simp [go_sem, ex3s_bl, hY3]) ?_
        rintro ⟨⟩ -
        refine IWp.seqI ?_
        simp [go_sem]
        refine IWp.now ?_
        simp [go_sem, hY3, ex3s_bl]
        refine IWp.now ?_
        simp [go_sem, hY3, ex3s_bl]
        exact ⟨1, by decide, by decide, by decide⟩
      · simp [go_sem]
        refine ⟨some (.int .i64 2, .sl 31 1 0 1 none), K2, ?_⟩
        simp [hd, hnd2, hlen, ex3s_bl, hY3, go_sem]
        exact hK2
    · have hm := hm1 (by decide)
      have d1 : decide (1 ∈ K) = decide (1 ∈ K2) := by by_cases h : 1 ∈ K <;> by_cases h2 : 1 ∈ K2 <;> simp_all
      clear hm hm1
      rw [d1]
      generalize hd : decide (1 ∈ K2) = d
      refine IWp.block ?_
      refine IWp.seqI ?_
      simp [go_sem, ex3s, exI]
      refine IWp.seqI ?_
      simp [go_sem]
      refine IWp.block ?_
      refine IWp.loopI (α := Nat) (fun i => (⟨false, 42, 10, [13, 15, 18, 19, 20, 21, 28, 29, 30, 31, 39], [], [(0, .func (.yield l) [] []), (5, .sl 43 1 0 1 none), (13, .iter 44), (18, .sl 43 1 0 1 none), (19, .int .i64 1), (20, .int .i64 (i : Int))], []⟩, [.dead, .map (sm (!d)), .rows 1 [[.map 1]], .rows 1 [[.sl 4 (sn (!d)) 0 (sn (!d)) none]], .rows 2 (sb (!d)), Y, .dead, .dead, .dead, .dead, .dead, .dead, .dead, .dead, .dead, .dead, .dead, .dead, .dead, .rows 1 [[.int .i64 0], [.int .i64 3]], .dead, .dead, .dead, .dead, .dead, .dead, .dead, .dead, .dead, .dead, .dead, .rows 1 [[.int .i64 1]], .dead, .dead, .dead, .dead, .dead, .dead, .dead, .dead, .dead, .dead, .dead, .rows 1 [[.int .i64 2]], .iter (some 7) [(.int .i64 1, .sl 19 2 0 2 none), (.int .i64 2, .sl 31 1 0 1 none), (.int .i64 0, .sl 43 1 0 1 none)] (some (.int .i64 0, .sl 43 1 0 1 none)) (K2.map ex3s)]))
        (fun i => i ≤ 1) (fun i => 1 - i) 0 (by simp) (by simp [go_sem, ex3s_bl, hY3]) ?_
      intro i hi
      refine IWp.seqI ?_
      simp [go_sem]
      refine IWp.seqI ?_
      rcases (by omega : i = 0 ∨ i = 1) with rfl | rfl
      · simp [go_sem]
        refine IWp.seq ?_
        refine IWp.block ?_
        refine IWp.seqI ?_
        simp [go_sem]
        refine IWp.seqI ?_
        have z1 : IntKind.i64.wrap 1 = 1 := by decide
        simp [go_sem, z1]
        refine IWp.block ?_
        refine IWp.loopI (α := Unit) (fun j => (⟨false, 42, 10, [13, 15, 18, 19, 20, 21, 28, 29, 30, 31, 39], [], [(0, .func (.yield l) [] []), (5, .sl 43 1 0 1 none), (7, .int .i64 2), (13, .iter 44), (18, .sl 43 1 0 1 none), (19, .int .i64 1), (20, .int .i64 0), (28, .sl 43 1 1 0 none), (29, .int .i64 0), (30, .int .i64 0)], []⟩, [.dead, .map (sm (!d)), .rows 1 [[.map 1]], .rows 1 [[.sl 4 (sn (!d)) 0 (sn (!d)) none]], .rows 2 (sb (!d)), Y, .dead, .dead, .dead, .dead, .dead, .dead, .dead, .dead, .dead, .dead, .dead, .dead, .dead, .rows 1 [[.int .i64 0], [.int .i64 3]], .dead, .dead, .dead, .dead, .dead, .dead, .dead, .dead, .dead, .dead, .dead, .rows 1 [[.int .i64 1]], .dead, .dead, .dead, .dead, .dead, .dead, .dead, .dead, .dead, .dead, .dead, .rows 1 [[.int .i64 2]], .iter (some 7) [(.int .i64 1, .sl 19 2 0 2 none), (.int .i64 2, .sl 31 1 0 1 none), (.int .i64 0, .sl 43 1 0 1 none)] (some (.int .i64 0, .sl 43 1 0 1 none)) (K2.map ex3s)]))
          (fun j => True) (fun j => 0) () (by simp) (by simp [go_sem, ex3s_bl, hY3]) ?_
        rintro ⟨⟩ -
        refine IWp.seqI ?_
        simp [go_sem]
        refine IWp.now ?_
        simp [go_sem, hY3, ex3s_bl]
        refine IWp.now ?_
        simp [go_sem, hY3, ex3s_bl]
        exact ⟨1, by decide, by decide, by decide⟩
      · simp [go_sem]
        refine ⟨some (.int .i64 0, .sl 43 1 0 1 none), K2, ?_⟩
        simp [hd, hnd2, hlen, ex3s_bl, hY3, go_sem]
        exact hK2
end Go.Idl
