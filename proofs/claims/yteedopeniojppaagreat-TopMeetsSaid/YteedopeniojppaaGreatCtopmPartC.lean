/-
  Package mitchell: designs, find, Most, modulo.
  Package mitchell: rows (a function to range over), Collect, Make.
-/
import Derived.Test.YteedopeniojppaaGreatCtopmPartB
namespace Go.Idl
set_option linter.all false
open Go.Proofs
set_option maxHeartbeats 4000000
set_option maxRecDepth 40000

/-- A number that is no numeral, and one of the kinds. -/
def evenK (k : Int) : Bool := k == 2 || k == 3
def fewK (k : Int) : Int := if k = 2 then 1 else 0
def copK (k : Int) : Int := if k = 3 then 2 else 1
def movF (k : Int) : FuncId := if k = 2 then 69 else 67
def setF (k : Int) : FuncId := if k = 3 then 70 else 68
def dsn (k : Int) : List IV := [.bool (evenK k), .int .i64 (fewK k), .int .i64 (copK k), .func (.func (movF k)) [] [], .func (.func (setF k)) [] []]
def dsn0 : List IV := [.bool false, .int .i64 0, .int .i64 0, .nilf, .nilf]
def findE (T k : Int) : Int := if T < 2 ∨ 24 < T ∨ k = 0 ∨ 4 ≤ k then 2 else if evenK k = decide (T % 2 = 0) then 0 else 6
theorem findE_zero {T k : Int} (h : findE T k = 0) : 2 ≤ T ∧ T ≤ 24 ∧ k ≠ 0 ∧ k < 4 ∧ evenK k = decide (T % 2 = 0) := by
  unfold findE at h
  split at h
  · omega
  · split at h
    · rename_i h1 h2; exact ⟨by omega, by omega, by omega, by omega, h2⟩
    · omega
theorem designs_fun : FN 39 [] (fun v => v = .agg (dsn0 ++ dsn 1 ++ dsn 2 ++ dsn 3)) := by
  refine IFun.of_bodyZ false 5 [] Tryz.func39 rfl Tryz.call39 rfl fun R hR => ?_
  simp [go_sem]
  exact hR _ _ _ rfl (by simp [go_sem, dsn, dsn0, movF, setF, evenK, fewK, copK])
theorem rem2 {T : Int} (h : 0 ≤ T) : T.tmod 2 = T % 2 := Int.tmod_eq_emod_of_nonneg h
theorem find_fun (T k : Int) (hk : 0 ≤ k ∧ k < 256) : FN 22 [.int .i64 T, .int .u8 k] (fun v => v = .tup [.agg (if findE T k = 0 then dsn k else dsn0), .int .i64 (findE T k)]) := by
  refine IFun.of_bodyZ false 8 [23, 33] Tryz.func22 rfl Tryz.call22 rfl fun R hR => ?_
  have wk : IntKind.i64.wrap k = k := wrap64 (by omega) (by omega)
  simp [go_sem]
  refine designs_fun.callF (by simp [go_sem]) ?_
  rintro _ rfl
  by_cases h1 : T < 2
  · have he : findE T k = 2 := by unfold findE; rw [if_pos (.inl h1)]
    simp [go_sem, h1, dsn, dsn0, movF, setF, evenK, fewK, copK]
    exact hR _ _ _ rfl (by simp [go_sem, he, dsn0])
  by_cases h2 : 24 < T
  · have he : findE T k = 2 := by unfold findE; rw [if_pos (.inr (.inl h2))]
    simp [go_sem, h1, h2, dsn, dsn0, movF, setF, evenK, fewK, copK]
    exact hR _ _ _ rfl (by simp [go_sem, he, dsn0])
  by_cases h3 : k = 0
  · have he : findE T k = 2 := by unfold findE; rw [if_pos (.inr (.inr (.inl h3)))]
    subst h3
    simp [go_sem, h1, h2, dsn, dsn0, movF, setF, evenK, fewK, copK]
    exact hR _ _ _ rfl (by simp [go_sem, he, dsn0])
  by_cases h4 : 4 ≤ k
  · have he : findE T k = 2 := by unfold findE; rw [if_pos (.inr (.inr (.inr h4)))]
    simp [go_sem, h1, h2, h3, h4, wk, dsn, dsn0, movF, setF, evenK, fewK, copK]
    exact hR _ _ _ rfl (by simp [go_sem, he, dsn0])
  have ht := rem2 (T := T) (by omega)
  have hb : T % 2 = 0 ∨ T % 2 = 1 := by omega
  rcases (by omega : k = 1 ∨ k = 2 ∨ k = 3) with rfl | rfl | rfl
  all_goals
    rcases hb with hb | hb
    · simp [go_sem, h1, h2, h4, wk, ht, hb, dsn, dsn0, movF, setF, evenK, fewK, copK]
      exact hR _ _ _ rfl (by simp [go_sem, findE, h1, h2, hb, dsn, dsn0, movF, setF, evenK, fewK, copK])
    · simp [go_sem, h1, h2, h4, wk, ht, hb, dsn, dsn0, movF, setF, evenK, fewK, copK]
      exact hR _ _ _ rfl (by simp [go_sem, findE, h1, h2, hb, dsn, dsn0, movF, setF, evenK, fewK, copK])
def mostK (T k : Int) : Int := if findE T k = 0 then T - fewK k else 0
theorem most_fun (T k : Int) (hk : 0 ≤ k ∧ k < 256) : FN 7 [.int .i64 T, .int .u8 k] (fun v => v = .tup [.int .i64 (mostK T k), .int .i64 (findE T k)]) := by
  refine IFun.of_bodyZ false 8 [15] Tryz.func7 rfl Tryz.call7 rfl fun R hR => ?_
  simp [go_sem]
  refine (find_fun T k hk).callF (by simp [go_sem]) ?_
  rintro _ rfl
  by_cases he : findE T k = 0
  · have h := findE_zero he
    have hf : fewK k = 0 ∨ fewK k = 1 := by unfold fewK; split <;> simp
    have w1 : IntKind.i64.wrap (T - fewK k) = T - fewK k := wrap64 (by omega) (by omega)
    simp [go_sem, he, dsn, w1]
    exact hR _ _ _ rfl (by simp [go_sem, mostK, he])
  · simp [go_sem, he, dsn0]
    exact hR _ _ _ rfl (by simp [go_sem, mostK, he])
theorem modulo_fun (x n : Int) (hn : 1 ≤ n ∧ n ≤ 1000) (hx : -1000000 ≤ x ∧ x ≤ 1000000) : FN 42 [.int .i64 x, .int .i64 n] (fun v => v = .int .i64 (x % n)) := by
  refine IFun.of_bodyZ false 5 [] Tryz.func42 rfl Tryz.call42 rfl fun R hR => ?_
  have h1 := Int.tmod_lt_of_pos x (b := n) (by omega)
  have h2 := Int.lt_tmod_of_pos x (b := n) (by omega)
  have w1 : IntKind.i64.wrap (x.tmod n + n) = x.tmod n + n := wrap64 (by omega) (by omega)
  have e : (x.tmod n + n).tmod n = x % n := by
    rw [Int.tmod_eq_emod_of_nonneg (by omega), Int.add_emod_right]
    rcases Int.lt_or_le x 0 with h | h
    · rw [Int.tmod_eq_emod]
      have hna : ((n.natAbs : Nat) : Int) = n := by omega
      split <;> simp [hna, Int.sub_emod_right]
    · rw [Int.tmod_eq_emod_of_nonneg h, Int.emod_emod]
  have hn0 : ¬ n = 0 := by omega
  simp [go_sem, w1, hn0, e]
  exact hR _ _ _ rfl (by simp [go_sem])

/-! ### where pairs and sets move -/
def movX (k T r t : Int) : Int := if k = 2 ∧ ¬ r < T / 2 then t - r - 1 else t - r
def setX (k T r t : Int) : Int := if k = 3 ∧ ¬ t < T / 2 then t + r + 1 else t + r
theorem mov_fun (k T r t : Int) (hT : 0 ≤ T ∧ T ≤ 1000) (hr : 0 ≤ r ∧ r ≤ 1000) (ht : 0 ≤ t ∧ t ≤ 1000) : FN (movF k) [.int .i64 T, .int .i64 r, .int .i64 t] (fun v => v = .int .i64 (movX k T r t)) := by
  have w1 : IntKind.i64.wrap (t - r) = t - r := wrap64 (by omega) (by omega)
  have w2 : IntKind.i64.wrap (t - r - 1) = t - r - 1 := wrap64 (by omega) (by omega)
  have hq : T.tdiv 2 = T / 2 := Int.tdiv_eq_ediv_of_nonneg hT.1
  have wq : IntKind.i64.wrap (T / 2) = T / 2 := wrap64 (by omega) (by omega)
  unfold movF
  by_cases hk : k = 2
  · rw [if_pos hk]
    refine IFun.of_bodyZ false 7 [10] Tryz.func69 rfl Tryz.call69 rfl fun R hR => ?_
    by_cases h : r < T / 2
    · simp [go_sem, hq, wq, h, w1]
      exact hR _ _ _ rfl (by simp [go_sem, movX, h])
    · simp [go_sem, hq, wq, h, w1, w2]
      exact hR _ _ _ rfl (by simp [go_sem, movX, h, hk])
  · rw [if_neg hk]
    refine IFun.of_bodyZ false 7 [] Tryz.func67 rfl Tryz.call67 rfl fun R hR => ?_
    simp [go_sem, w1]
    exact hR _ _ _ rfl (by simp [go_sem, movX, hk])
theorem set_fun (k T r t : Int) (hT : 0 ≤ T ∧ T ≤ 1000) (hr : 0 ≤ r ∧ r ≤ 1000) (ht : 0 ≤ t ∧ t ≤ 1000) : FN (setF k) [.int .i64 T, .int .i64 r, .int .i64 t] (fun v => v = .int .i64 (setX k T r t)) := by
  have w1 : IntKind.i64.wrap (t + r) = t + r := wrap64 (by omega) (by omega)
  have w2 : IntKind.i64.wrap (t + r + 1) = t + r + 1 := wrap64 (by omega) (by omega)
  have hq : T.tdiv 2 = T / 2 := Int.tdiv_eq_ediv_of_nonneg hT.1
  have wq : IntKind.i64.wrap (T / 2) = T / 2 := wrap64 (by omega) (by omega)
  unfold setF
  by_cases hk : k = 3
  · rw [if_pos hk]
    refine IFun.of_bodyZ false 7 [10] Tryz.func70 rfl Tryz.call70 rfl fun R hR => ?_
    by_cases h : t < T / 2
    · simp [go_sem, hq, wq, h, w1]
      exact hR _ _ _ rfl (by simp [go_sem, setX, h])
    · simp [go_sem, hq, wq, h, w1, w2]
      exact hR _ _ _ rfl (by simp [go_sem, setX, h, hk])
  · rw [if_neg hk]
    refine IFun.of_bodyZ false 7 [] Tryz.func68 rfl Tryz.call68 rfl fun R hR => ?_
    simp [go_sem, w1]
    exact hR _ _ _ rfl (by simp [go_sem, setX, hk])
def rowX (k T r t : Int) : Rw := ⟨r, t, t + 1, T + 1 + movX k T r t % T, setX k T r t % T⟩
def rowL (k T : Int) (r : Nat) (t : Nat) : List Rw := (List.range t).map fun j : Nat => rowX k T r j
/-- The rows of a movement: of r whole rounds. -/
def rowsX (k T : Int) (r : Nat) : List Rw := (List.range r).flatMap fun i => rowL k T i T.toNat
theorem rowL_succ (k T : Int) (r t : Nat) : rowL k T r (t + 1) = rowL k T r t ++ [rowX k T r t] := by simp [rowL, List.range_succ]
theorem rowsX_succ (k T : Int) (r : Nat) : rowsX k T (r + 1) = rowsX k T r ++ rowL k T r T.toNat := by simp [rowsX, List.range_succ]
@[simp] theorem rowL_length (k T : Int) (r t : Nat) : (rowL k T r t).length = t := by simp [rowL]
theorem rowsX_length (k T : Int) (r : Nat) : (rowsX k T r).length = r * T.toNat := by
  induction r with
  | zero => simp [rowsX]
  | succ r ih => rw [rowsX_succ, List.length_append, ih, rowL_length, Nat.succ_mul]
end Go.Idl
namespace Go.Idl
set_option linter.all false
open Go.Proofs
set_option maxHeartbeats 4000000
set_option maxRecDepth 40000

def seqV (k T : Int) (n : Nat) : IV := .func (.func 41) [] [.fptr 1 [[.int .i64 n]] 0 0, .fptr 1 [[.int .i64 T]] 0 0, .fptr 5 [dsn k] 0 0]
theorem rows_fun (k T : Int) (n : Nat) : FN 24 [.agg (dsn k), .int .i64 T, .int .i64 n] (fun v => v = seqV k T n) := by
  refine IFun.of_bodyZ false 7 [] Tryz.func24 rfl Tryz.call24 rfl fun R hR => ?_
  simp [go_sem, dsn]
  exact hR _ _ _ rfl (by simp [go_sem, seqV, dsn])
theorem rows1 (k : Int) (T n : Nat) (hT : 1 ≤ T ∧ T ≤ 24) (hn : n ≤ 47) (l : Nat) (O Q : Nat → IObj) (Y : IObj) (hO : ∀ i, i ≤ n * T → ObBl 3 (O i) ∧ ObBl 3 (Q i)) (hY3 : ObBl 3 Y) (hYh : ∀ i, (O i).isHole = false ∧ (Q i).isHole = false ∧ Y.isHole = false)
    (hY : ∀ i j, i < n → j < T → YCalls Tryz.prog [] l [(rowX k T i j).v] (O (i * T + j) :: Q (i * T + j) :: Y :: (List.replicate 24 IObj.hole ++ [.rows 5 [(rowX k T i j).c]])) fun r σ' => r = .bool true ∧ fgt [O (i * T + j + 1), Q (i * T + j + 1), Y] σ') :
    ICalls Tryz.prog [] 41 [.func (.yield l) [] [], .fptr 1 [[.int .i64 n]] 0 0, .fptr 1 [[.int .i64 T]] 0 0, .fptr 5 [dsn k] 0 0] [O 0, Q 0, Y] fun _ σ' => σ' = [O (n * T), Q (n * T), Y] := by
  refine ICalls.forget (ICalls.of_bodyE false 8 [8, 9, 10, 12, 13, 14, 43] Tryz.func41 rfl Tryz.call41 rfl fun R hR => ?_)
  have hdsn : ∀ n c, c ∈ dsn k → Bl n c := fun n c hc => by
    simp only [dsn, List.mem_cons, List.not_mem_nil, or_false] at hc
    rcases hc with rfl | rfl | rfl | rfl | rfl <;> simp [go_sem]
  simp [go_sem]
  have hN : ∀ i, i < n → i * T + T ≤ n * T := fun i hi => by
    have := Nat.mul_le_mul_right T (show i + 1 ≤ n by omega)
    rw [Nat.succ_mul] at this; exact this
  refine IWp.loopT (α := Nat) (fun i => (⟨false, 46, 8, [8, 9, 10, 12, 13, 14, 43], [], [(0, .func (.yield l) [] []), (2, .fptr 1 [[.int .i64 T]] 0 0), (3, .fptr 5 [dsn k] 0 0), (8, .int .i64 n), (9, .int .i64 (i : Int))], []⟩, [O (i * T), Q (i * T), Y]))
    (fun i => i ≤ n) (fun i => n - i) 0 (by simp) ?_ ?_
  · have := hO 0 (by omega)
    simp [go_sem, this, hY3]
    exact hdsn _
  intro i hi
  by_cases h : i < n
  · have w1 : IntKind.i64.wrap ((i : Int) + 1) = i + 1 := wrap64 (by omega) (by omega)
    simp [go_sem, h]
    refine IWp.loopT (α := Nat) (fun j => (⟨false, 46, 8, [8, 9, 10, 12, 13, 14, 43], [], [(0, .func (.yield l) [] []), (2, .fptr 1 [[.int .i64 T]] 0 0), (3, .fptr 5 [dsn k] 0 0), (5, .int .i64 (i : Int)), (8, .int .i64 n), (9, .int .i64 (i : Int)), (12, .int .i64 T), (13, .int .i64 (j : Int))], []⟩, [O (i * T + j), Q (i * T + j), Y]))
      (fun j => j ≤ T) (fun j => T - j) 0 (by simp) ?_ ?_
    · have := hO (i * T) (by have := hN i h; omega)
      simp [go_sem, this, hY3]
      exact hdsn _
    intro j hj
    have hN' := hN i h
    have hSj := hO (i * T + j) (by omega)
    have hSi := hO (i * T) (by omega)
    have hh := hYh (i * T + j)
    by_cases hjT : j < T
    · have wj : IntKind.i64.wrap ((j : Int) + 1) = j + 1 := wrap64 (by omega) (by omega)
      have wT : IntKind.i64.wrap ((T : Int) + 1) = T + 1 := wrap64 (by omega) (by omega)
      have hq : 0 ≤ (T : Int) / 2 ∧ (T : Int) / 2 ≤ T := by omega
      have hm : -1000 ≤ movX k T i j ∧ movX k T i j ≤ 1000 := by unfold movX; split <;> omega
      have hs : -1000 ≤ setX k T i j ∧ setX k T i j ≤ 1000 := by unfold setX; split <;> omega
      have c1 := mov_fun k T i j (by omega) (by omega) (by omega)
      have c2 := set_fun k T i j (by omega) (by omega) (by omega)
      have c3 := modulo_fun (movX k T i j) T (by omega) (by omega)
      have c4 := modulo_fun (setX k T i j) T (by omega) (by omega)
      have hS1 := hO (i * T + j + 1) (by omega)
      have hYj := hY i j h hjT
      have hm0 := Int.emod_nonneg (movX k T i j) (b := (T : Int)) (by omega)
      have hm1 := Int.emod_lt_of_pos (movX k T i j) (b := (T : Int)) (by omega)
      have wm : IntKind.i64.wrap ((T : Int) + 1 + movX k T i j % T) = (T : Int) + 1 + movX k T i j % T := wrap64 (by omega) (by omega)
      simp only [Rw.v, Rw.c, rowX] at hYj
      generalize movX k T i j = mv at *
      generalize setX k T i j = sv at *
      generalize mv % (T : Int) = mm at *
      generalize sv % (T : Int) = ss at *
      simp [go_sem, hjT]
      refine Drawn.intro (fun x => if x = 11 then .int .i64 mv else if x = 13 then .int .i64 mm else if x = 20 then .int .i64 sv else if x = 22 then .int .i64 ss else .tup []) ?_
      simp [go_sem, wj, wT, wm, c1, c2, c3, c4, dsn]
      refine ⟨by decide +kernel, hYj.mono ?_⟩
      rintro _ σ' ⟨rfl, hf⟩
      simp [go_sem, wj]
      refine ⟨j + 1, ⟨rfl, hf, hS1.1, hS1.2, hY3⟩, by omega, by omega⟩
    · have : j = T := by omega
      subst this
      have e : i * j + j = (i + 1) * j := by rw [Nat.succ_mul]
      have hx := hO ((i + 1) * j) (by rw [← e]; exact hN')
      simp [go_sem, w1]
      exact ⟨i + 1, ⟨rfl, by simp [go_sem, e], hdsn _, hx.1, hx.2, hY3⟩, by omega, by omega⟩
  · have : i = n := by omega
    subst this
    have hx := hO (i * T) (Nat.le_refl _)
    simp [go_sem]
    refine hR _ _ ⟨[O (i * T), Q (i * T), Y], ?_, rfl⟩
    simp [go_sem, hx, hY3]
theorem rowsX_mid (k : Int) (T i j : Nat) (hj : j < T) : rowsX k T i ++ rowL k T i (j + 1) = (rowsX k T i ++ rowL k T i j) ++ [rowX k T i j] := by rw [rowL_succ, List.append_assoc]
/-- The first m rows. -/
def rowsM (k : Int) (T n m : Nat) : List Rw := (rowsX k T n).take m
theorem rowsX_split (k : Int) (T : Nat) : ∀ (n i : Nat), i ≤ n → ∃ L, rowsX k T n = rowsX k T i ++ L ∧ (i < n → ∃ L', L = rowL k T i T ++ L')
  | 0, i, h => by obtain rfl : i = 0 := by omega
                  exact ⟨[], by simp, fun h => by omega⟩
  | n + 1, i, h => by
    by_cases e : i = n + 1
    · subst e; exact ⟨[], by simp, fun h => by omega⟩
    · obtain ⟨L, h1, h2⟩ := rowsX_split k T n i (by omega)
      refine ⟨L ++ rowL k T n T, by rw [rowsX_succ, h1]; simp, fun _ => ?_⟩
      by_cases e2 : i < n
      · obtain ⟨L', h3⟩ := h2 e2; exact ⟨L' ++ rowL k T n T, by rw [h3]; simp⟩
      · have : i = n := by omega
        subst this
        have hL : L = [] := by have := congrArg List.length h1; simp at this; exact this
        exact ⟨[], by rw [hL]; simp⟩
theorem rowsM_mid {k : Int} {T n i j : Nat} (hi : i < n) (hj : j ≤ T) : rowsM k T n (i * T + j) = rowsX k T i ++ rowL k T i j := by
  obtain ⟨L, h1, h2⟩ := rowsX_split k T n i (by omega)
  obtain ⟨L', rfl⟩ := h2 hi
  have hl : (rowsX k T i).length = i * T := by rw [rowsX_length]; simp
  unfold rowsM
  rw [h1, List.take_append, List.take_of_length_le (by omega), hl, Nat.add_sub_cancel_left, List.take_append_of_le_length (by simp; omega)]
  congr 1
  unfold rowL
  rw [← List.map_take, List.take_range, Nat.min_eq_left hj]
theorem rowsM_succ {k : Int} {T n i j : Nat} (hi : i < n) (hj : j < T) : rowsM k T n (i * T + j + 1) = rowsM k T n (i * T + j) ++ [rowX k T i j] := by
  rw [Nat.add_assoc, rowsM_mid hi (by omega), rowsM_mid hi (by omega), rowsX_mid k T i j hj]
theorem rowsM_all {k : Int} {T n : Nat} : rowsM k T n (n * T) = rowsX k T n := by
  unfold rowsM
  rw [List.take_of_length_le (by rw [rowsX_length]; simp)]
theorem rowsM_len {k : Int} {T n m : Nat} (h : m ≤ n * T) : (rowsM k T n m).length = m := by
  unfold rowsM
  rw [List.length_take, rowsX_length]; simp; omega
theorem appendSeq_fun (k : Int) (T n : Nat) (hT : 1 ≤ T ∧ T ≤ 24) (hn : n ≤ 47) : FN 40 [.nils, seqV k T n] (fun v => v = .fz 5 (rws (rowsX k T n))) := by
  refine IFun.of_bodyZ false 6 [6, 7] Tryz.func40 rfl Tryz.call40 rfl fun R hR => ?_
  simp [go_sem, seqV]
  refine IWp.ownNil 5 [(0, .nils), (1, seqV k T n), (2, .ptr 0 1 0 0), (4, .nils), (6, seqV k T n)] [.rows 1 [[.sl 1 0 0 0 none]]] (by decide) (by simp [go_sem, seqV]) (by simp [go_sem]) ?_
  refine IWp.rangeFunc (g := 41) (cap := [.fptr 1 [[.int .i64 n]] 0 0, .fptr 1 [[.int .i64 T]] 0 0, .fptr 5 [dsn k] 0 0]) (by simp [go_sem, seqV]) (by simp [go_sem, seqV]) fun l r h1 h2 h3 h4 h5 => ?_
  obtain ⟨e, he⟩ : ∃ e : Env, e = ⟨false, 13, 6, [6, 7], [], [(0, .nils), (1, seqV k T n), (2, .ptr 0 1 0 0), (4, .nils), (6, seqV k T n)], []⟩ := ⟨_, rfl⟩
  rw [← he, show e.gl = [] by rw [he]]
  have hbe : ObBl 3 (.yrec l r e) := by
    subst he
    simp [ObBl, go_sem, seqV, dsn]
  have hr0 : rowsM k T n 0 = [] := by simp [rowsM]
  have key := rows1 k T n hT hn l (fun m => .rows 1 [[.sl 1 m 0 m none]]) (fun m => .rows 5 (rws (rowsM k T n m))) (.yrec l r e) (fun i hi => by simp [go_sem]) hbe (fun i => ⟨rfl, rfl, rfl⟩) (fun i j hi hj => ?_)
  · rw [hr0] at key
    refine key.mono ?_
    rintro _ _ rfl
    simp [go_sem, he, h2, h1]
    have hl := rowsX_length k T n
    simp only [Int.toNat_natCast] at hl
    refine hR _ _ _ rfl ?_
    simp [go_sem, rowsM_all, hl]
  · refine YCalls.roundE 2 h1 h2 h3 h4 h5 rfl rfl ?_
    rw [he]
    have hb : i * T + j + 1 ≤ n * T := by have := Nat.mul_le_mul_right T (show i + 1 ≤ n by omega); rw [Nat.succ_mul] at this; omega
    have hb2 : n * T ≤ 47 * 24 := Nat.mul_le_mul hn hT.2
    have hl := rowsM_len (k := k) (T := T) (n := n) (m := i * T + j) (by omega)
    simp [go_sem, Rw.v, hl]
    refine ⟨by omega, ?_⟩
    rw [rowsM_succ hi hj, rws_snoc]
theorem collect_fun (k : Int) (T n : Nat) (hT : 1 ≤ T ∧ T ≤ 24) (hn : n ≤ 47) : FN 23 [seqV k T n] (fun v => v = .fz 5 (rws (rowsX k T n))) := by
  refine IFun.of_bodyZ false 3 [] Tryz.func23 rfl Tryz.call23 rfl fun R hR => ?_
  simp [go_sem, seqV]
  refine (appendSeq_fun k T n hT hn).callOF (by simp [go_sem, seqV, dsn]) ?_
  rintro _ rfl
  refine ⟨fun v => v, 5, _, .here, by decide, rfl, by simp [go_sem], ?_⟩
  simp [go_sem]
  exact hR _ _ _ rfl (by simp [go_sem])
def mvZ : Mv := ⟨0, 0, 0, 0, 0, []⟩
/-- A movement of n rounds. -/
def mvX (k : Int) (T n : Int) : Mv := ⟨T, n, T, copK k, 2, rowsX k T n.toNat⟩
def makeE (k T n : Int) : Int := if findE T k ≠ 0 then findE T k else if n < 1 then 2 else if T - fewK k < n then 5 else 0
def makeM (k T n : Int) : Mv := if makeE k T n = 0 then mvX k T n else mvZ
theorem make_fun (T n k : Int) (hk : 0 ≤ k ∧ k < 256) : FN 9 [.int .i64 T, .int .i64 n, .int .u8 k] (fun v => v = .tup [(makeM k T n).v, .int .i64 (makeE k T n)]) := by
  refine IFun.of_bodyZ false 10 [17, 21, 28] Tryz.func9 rfl Tryz.call9 rfl fun R hR => ?_
  simp [go_sem]
  refine (find_fun T k hk).callF (by simp [go_sem]) ?_
  rintro _ rfl
  by_cases he : findE T k = 0
  case neg =>
    have h0 : makeE k T n = findE T k := by unfold makeE; rw [if_pos he]
    have hm : makeM k T n = mvZ := by unfold makeM; rw [if_neg (by rw [h0]; exact he)]
    simp [go_sem, he, dsn0]
    exact hR _ _ _ rfl (by simp [go_sem, hm, h0, mvZ, Mv.v])
  have h := findE_zero he
  have hf : fewK k = 0 ∨ fewK k = 1 := by unfold fewK; split <;> simp
  by_cases hn : n < 1
  · have h0 : makeE k T n = 2 := by unfold makeE; rw [if_neg (by simp [he]), if_pos hn]
    have hm : makeM k T n = mvZ := by unfold makeM; rw [if_neg (by rw [h0]; decide)]
    simp [go_sem, he, dsn, hn]
    exact hR _ _ _ rfl (by simp [go_sem, hm, h0, mvZ, Mv.v])
  have w1 : IntKind.i64.wrap (T - fewK k) = T - fewK k := wrap64 (by omega) (by omega)
  by_cases hm : T - fewK k < n
  · have h0 : makeE k T n = 5 := by unfold makeE; rw [if_neg (by simp [he]), if_neg hn, if_pos hm]
    have hmm : makeM k T n = mvZ := by unfold makeM; rw [if_neg (by rw [h0]; decide)]
    simp [go_sem, he, dsn, hn, w1, hm]
    exact hR _ _ _ rfl (by simp [go_sem, hmm, h0, mvZ, Mv.v])
  have h0 : makeE k T n = 0 := by unfold makeE; rw [if_neg (by simp [he]), if_neg hn, if_neg hm]
  have hmm : makeM k T n = mvX k T n := by unfold makeM; rw [if_pos h0]
  obtain ⟨t, rfl⟩ : ∃ t : Nat, T = t := ⟨T.toNat, by omega⟩
  obtain ⟨m, rfl⟩ : ∃ m : Nat, n = m := ⟨n.toNat, by omega⟩
  have c1 := rows_fun k t m
  have c2 := collect_fun k t m (by omega) (by omega)
  simp only [seqV, dsn] at c1 c2
  simp [go_sem, he, dsn, hn, w1, hm]
  have hl := rowsX_length k t m
  simp only [Int.toNat_natCast] at hl
  refine Drawn.intro (fun x => if x = 8 then seqV k t m else if x = 9 then .tup [.junk, .fz 5 (rws (rowsX k t m))] else .tup []) ?_
  simp [go_sem, c1, c2, seqV, dsn]
  refine ⟨by decide +kernel, hR _ _ _ rfl ?_⟩
  simp [go_sem, hmm, h0, mvX, Mv.v]
end Go.Idl
