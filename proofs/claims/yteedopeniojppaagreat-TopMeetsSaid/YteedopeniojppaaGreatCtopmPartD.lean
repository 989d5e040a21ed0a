/-
  Package mitchell: Rover.
  Package mitchell: Clone, Without.
-/
import Derived.Test.YteedopeniojppaaGreatCtopmPartC
namespace Go.Idl
set_option linter.all false
open Go.Proofs
set_option maxHeartbeats 4000000
set_option maxRecDepth 40000

theorem rowsX_get {k : Int} {T : Nat} (hT : 0 < T) : ∀ (n q : Nat) (h : q < (rowsX k T n).length), (rowsX k T n)[q] = rowX k T (q / T : Nat) (q % T : Nat)
  | 0, q, h => by rw [rowsX_length] at h; omega
  | n + 1, q, h => by
    have hl : (rowsX k T n).length = n * T := by rw [rowsX_length]; simp
    by_cases hq : q < n * T
    · have := rowsX_get (k := k) hT n q (by omega)
      simp only [rowsX_succ]
      rw [List.getElem_append_left (by omega)]
      exact this
    · have hlt : q < (n + 1) * T := by rw [rowsX_length] at h; simpa using h
      rw [Nat.succ_mul] at hlt
      obtain ⟨s, rfl⟩ : ∃ s, q = n * T + s := ⟨q - n * T, by omega⟩
      have e1 : (n * T + s) / T = n := by rw [Nat.mul_comm, Nat.mul_add_div hT, Nat.div_eq_of_lt (by omega)]; rfl
      have e2 : (n * T + s) % T = s := by rw [Nat.mul_comm, Nat.mul_add_mod, Nat.mod_eq_of_lt (by omega)]
      simp only [rowsX_succ]
      rw [List.getElem_append_right (by omega)]
      rw [e1, e2]
      simp [rowL, hl]
def rovF (T : Int) (x : Rw) : Rw := if x.t = 2 * x.r % T then { x with ns := 2 * T + 1 } else x
/-- The first i rows with the rover. -/
def rovR (T : Int) (L : List Rw) (i : Nat) : List Rw := (L.take i).map (rovF T) ++ L.drop i
@[simp] theorem rovR_length {T : Int} {L : List Rw} {i : Nat} : (rovR T L i).length = L.length := by simp [rovR]; omega
theorem rovR_zero {T : Int} {L : List Rw} : rovR T L 0 = L := by simp [rovR]
theorem rovR_all {T : Int} {L : List Rw} : rovR T L L.length = L.map (rovF T) := by simp [rovR]
theorem rovR_get {T : Int} {L : List Rw} {i q : Nat} (h : q < (rovR T L i).length) : (rovR T L i)[q] = if q < i then rovF T (L[q]'(by simpa using h)) else L[q]'(by simpa using h) := by
  have hq : q < L.length := by simpa using h
  simp only [rovR]
  by_cases hi : q < i
  · rw [if_pos hi, List.getElem_append_left (by simp; omega)]; simp
  · rw [if_neg hi, List.getElem_append_right (by simp; omega)]; simp; congr 1; omega
theorem rovR_succ {T : Int} {L : List Rw} {i : Nat} (h : i < L.length) : rovR T L (i + 1) = (rovR T L i).set i (rovF T L[i]) := by
  refine List.ext_getElem (by simp) fun q h1 h2 => ?_
  rw [List.getElem_set, rovR_get, rovR_get]
  by_cases hq : i = q
  · subst hq; simp
  · have : q < i + 1 ↔ q < i := by omega
    simp [hq, this]
theorem rovR_same {T : Int} {L : List Rw} {i : Nat} (h : i < L.length) (hf : rovF T L[i] = L[i]) : rovR T L (i + 1) = rovR T L i := by
  refine List.ext_getElem (by simp) fun q h1 h2 => ?_
  rw [rovR_get, rovR_get]
  by_cases hq : i = q
  · subst hq; simp [hf]
  · have : q < i + 1 ↔ q < i := by omega
    simp [this]
/-- A round more: one row is another. -/
theorem rovR_round {T n r : Nat} (hT : 0 < T) (hr : r < n) : ∃ h : r * T + 2 * r % T < (rowsX 1 T n).length, rovR T (rowsX 1 T n) ((r + 1) * T) = (rovR T (rowsX 1 T n) (r * T)).set (r * T + 2 * r % T) (rovF T (rowsX 1 T n)[r * T + 2 * r % T]) ∧ rovF T (rowsX 1 T n)[r * T + 2 * r % T] = { (rowsX 1 T n)[r * T + 2 * r % T] with ns := 2 * T + 1 } := by
  have hm := Nat.mod_lt (2 * r) hT
  have hl : (rowsX 1 T n).length = n * T := by rw [rowsX_length]; simp
  have hb : (r + 1) * T ≤ n * T := Nat.mul_le_mul_right T hr
  have e3 : (r + 1) * T = r * T + T := Nat.succ_mul r T
  rw [e3] at hb ⊢
  have hlt : r * T + 2 * r % T < (rowsX 1 T n).length := by omega
  refine ⟨hlt, List.ext_getElem (by simp) fun q h1 h2 => ?_, ?_⟩
  · rw [List.getElem_set, rovR_get, rovR_get]
    have hq : q < (rowsX 1 T n).length := by simpa using h1
    by_cases e : r * T + 2 * r % T = q
    · subst e
      rw [if_pos (by omega), if_pos rfl]
    rw [if_neg e]
    by_cases h3 : q < r * T
    · rw [if_pos h3, if_pos (by omega)]
    rw [if_neg h3]
    by_cases h4 : q < r * T + T
    · rw [if_pos h4, rowsX_get hT]
      obtain ⟨s, rfl⟩ : ∃ s, q = r * T + s := ⟨q - r * T, by omega⟩
      have e1 : (r * T + s) / T = r := by rw [Nat.mul_comm, Nat.mul_add_div hT, Nat.div_eq_of_lt (by omega)]; rfl
      have e2 : (r * T + s) % T = s := by rw [Nat.mul_comm, Nat.mul_add_mod, Nat.mod_eq_of_lt (by omega)]
      rw [e1, e2]
      unfold rovF rowX
      rw [if_neg]
      intro hh
      apply e
      have : (s : Int) = ((2 * r % T : Nat) : Int) := by push_cast; exact hh
      omega
    · rw [if_neg h4]
  · rw [rowsX_get hT]
    have e1 : (r * T + 2 * r % T) / T = r := by rw [Nat.mul_comm r T, Nat.mul_add_div hT, Nat.div_eq_of_lt hm]; rfl
    have e2 : (r * T + 2 * r % T) % T = 2 * r % T := by rw [Nat.mul_comm r T, Nat.mul_add_mod, Nat.mod_eq_of_lt hm]
    rw [e1, e2]
    unfold rovF rowX
    rw [if_pos]
    push_cast
    rfl
def roverE (T n : Int) : Int := if findE T 1 ≠ 0 then findE T 1 else if T % 3 = 0 then 6 else makeE 1 T n
def roverM (T n : Int) : Mv := if roverE T n = 0 then { mvX 1 T n with rows := (rowsX 1 T n.toNat).map (rovF T) } else mvZ
theorem rem3 {T : Int} (h : 0 ≤ T) : T.tmod 3 = T % 3 := Int.tmod_eq_emod_of_nonneg h
theorem makeE_zero {k T n : Int} (h : makeE k T n = 0) : findE T k = 0 ∧ 1 ≤ n ∧ n ≤ T - fewK k := by
  unfold makeE at h
  split at h
  · omega
  · rename_i h1
    split at h
    · omega
    · split at h
      · omega
      · exact ⟨by simpa using h1, by omega, by omega⟩
theorem rowsX_mem {k : Int} {T n : Nat} (hT : 0 < T) {x : Rw} (h : x ∈ rowsX k T n) : ∃ r t : Nat, r < n ∧ t < T ∧ x = rowX k T r t := by
  obtain ⟨q, hq, rfl⟩ := List.mem_iff_getElem.1 h
  rw [rowsX_get hT]
  rw [rowsX_length] at hq
  exact ⟨q / T, q % T, Nat.div_lt_of_lt_mul (by rw [Nat.mul_comm]; simpa using hq), Nat.mod_lt _ hT, rfl⟩
theorem rover_fun (T n : Int) : FN 14 [.int .i64 T, .int .i64 n] (fun v => v = .tup [(roverM T n).v, .int .i64 (roverE T n)]) := by
  refine IFun.of_bodyZ false 12 [18, 23, 32, 37, 38, 39, 56] Tryz.func14 rfl Tryz.call14 rfl fun R hR => ?_
  simp [go_sem]
  refine (find_fun T 1 (by omega)).callF (by simp [go_sem]) ?_
  rintro _ rfl
  by_cases he : findE T 1 = 0
  case neg =>
    have h0 : roverE T n = findE T 1 := by unfold roverE; rw [if_pos he]
    have hm : roverM T n = mvZ := by unfold roverM; rw [if_neg (by rw [h0]; exact he)]
    simp [go_sem, he, dsn0]
    exact hR _ _ _ rfl (by simp [go_sem, hm, h0, mvZ, Mv.v])
  have hz := findE_zero he
  have ht := rem3 (T := T) (by omega)
  by_cases h3 : T % 3 = 0
  · have h0 : roverE T n = 6 := by unfold roverE; rw [if_neg (by simp [he]), if_pos h3]
    have hm : roverM T n = mvZ := by unfold roverM; rw [if_neg (by rw [h0]; decide)]
    simp [go_sem, he, ht, h3, dsn]
    exact hR _ _ _ rfl (by simp [go_sem, hm, h0, mvZ, Mv.v])
  have h0 : roverE T n = makeE 1 T n := by unfold roverE; rw [if_neg (by simp [he]), if_neg h3]
  simp [go_sem, he, ht, h3, dsn]
  by_cases hk : makeE 1 T n = 0
  case neg =>
    have hm : roverM T n = mvZ := by unfold roverM; rw [if_neg (by rw [h0]; exact hk)]
    refine (make_fun T n 1 (by omega)).callF (by simp [go_sem]) ?_
    rintro _ rfl
    have hmm : makeM 1 T n = mvZ := by unfold makeM; rw [if_neg hk]
    simp [go_sem, hk, hmm, mvZ, Mv.v]
    exact hR _ _ _ rfl (by simp [go_sem, hm, h0, mvZ, Mv.v])
  have hz2 := makeE_zero hk
  have hm : roverM T n = { mvX 1 T n with rows := (rowsX 1 T n.toNat).map (rovF T) } := by unfold roverM; rw [if_pos (by rw [h0]; exact hk)]
  have hmm : makeM 1 T n = mvX 1 T n := by unfold makeM; rw [if_pos hk]
  refine (make_fun T n 1 (by omega)).callOF (by simp [go_sem]) ?_
  rintro _ rfl
  rw [hk, hmm]
  obtain ⟨t, rfl⟩ : ∃ t : Nat, T = t := ⟨T.toNat, by omega⟩
  obtain ⟨m, rfl⟩ : ∃ m : Nat, n = m := ⟨n.toNat, by omega⟩
  refine ⟨fun v => .tup ([] ++ .agg ([.int .i64 t, .int .i64 m, .int .i64 t, .int .i64 1, .int .i64 2] ++ v :: []) :: [.int .i64 0]), 5, rws (rowsX 1 t m), .tup [] [.int .i64 0] _ (by simp) (by simp [scal]) (.agg [.int .i64 t, .int .i64 m, .int .i64 t, .int .i64 1, .int .i64 2] [] _ (by simp [scal]) (by simp) .here), by decide, rfl, by simp [go_sem], ?_⟩
  simp [go_sem]
  have hl : (rowsX 1 t m).length = m * t := by rw [rowsX_length]; simp
  have hfin : IV.tup [.agg [.int .i64 t, .int .i64 m, .int .i64 t, .int .i64 1, .int .i64 2, .fz 5 (rws ((rowsX 1 t m).map (rovF t)))], .int .i64 0] = .tup [(roverM t m).v, .int .i64 (roverE t m)] := by rw [hm, h0, hk]; simp [mvX, Mv.v, copK]
  have hmem : ∀ x ∈ rowsX 1 t m, 0 ≤ x.r ∧ x.r < m := fun x hx => by
    obtain ⟨r, t', h1, h2, rfl⟩ := rowsX_mem (k := 1) (by omega) hx
    simp [rowX]; omega
  have hall := rovR_all (T := t) (L := rowsX 1 t m)
  have hm24 : m ≤ 24 := by have := hz2.2.2; simp [fewK] at this; omega
  have hmt : m * t ≤ 24 * 24 := Nat.mul_le_mul hm24 (by omega)
  generalize rowsX 1 t m = L at *
  refine IWp.loopT (α := Nat) (fun i => (⟨false, 65, 12, [18, 23, 32, 37, 38, 39, 56], [], [(0, .int .i64 t), (4, .ptr 0 1 0 0), (8, .ptr 3 1 0 0), (37, .int .i64 L.length), (38, .int .i64 (i : Int))], []⟩, [.rows 6 [[.int .i64 0, .int .i64 0, .int .i64 0, .int .i64 0, .int .i64 0, .nils]], .dead, .rows 5 (rws (rovR t L i)), .rows 6 [[.int .i64 t, .int .i64 m, .int .i64 t, .int .i64 1, .int .i64 2, .sl 2 L.length 0 L.length none]]]))
    (fun i => i ≤ L.length) (fun i => L.length - i) 0 (by simp) (by simp [go_sem, rovR_zero]) ?_
  intro i hi
  by_cases h : i < L.length
  · have w1 : IntKind.i64.wrap ((i : Int) + 1) = i + 1 := wrap64 (by omega) (by omega)
    have hx := hmem L[i] (List.getElem_mem h)
    have hs := rovR_succ (T := t) h
    have hsame := rovR_same (T := t) h
    have hML : (rovR t L i).length = L.length := by simp
    have hiM : i < (rovR t L i).length := by omega
    have hget : (rovR t L i)[i] = L[i] := by rw [rovR_get, if_neg (by omega)]
    generalize rovR t L i = M at *
    generalize L[i] = x at *
    have w2 : IntKind.i64.wrap (2 * x.r) = 2 * x.r := wrap64 (by omega) (by omega)
    have w5 : IntKind.i64.wrap (2 * (t : Int)) = 2 * t := wrap64 (by omega) (by omega)
    have w6 : IntKind.i64.wrap (2 * (t : Int) + 1) = 2 * t + 1 := wrap64 (by omega) (by omega)
    have hmod : (2 * x.r).tmod t = 2 * x.r % t := Int.tmod_eq_emod_of_nonneg (by omega)
    have ht0 : ¬ (t : Int) = 0 := by omega
    have ht0' : ¬ t = 0 := by omega
    by_cases hc : x.t = 2 * x.r % t
    · have hf : rovF t x = { x with ns := 2 * t + 1 } := by unfold rovF; rw [if_pos hc]
      simp [go_sem, h, hML, hiM, hget, w1, w2, hmod, ht0, ht0', ← hc, w5, w6]
      exact ⟨by decide +kernel, i + 1, ⟨by simp, by rw [hs, hf, rws_set]; rfl⟩, by omega, by omega⟩
    · have hf : rovF t x = x := by unfold rovF; rw [if_neg hc]
      simp [go_sem, h, hML, hiM, hget, w1, w2, hmod, ht0, ht0', hc, w5, w6]
      exact ⟨by decide +kernel, i + 1, ⟨by simp, by rw [hsame hf]⟩, by omega, by omega⟩
  · have : i = L.length := by omega
    subst this
    simp [go_sem, hall]
    exact hR _ _ _ rfl (by simp [go_sem, ← hfin, hl, hall])
end Go.Idl
namespace Go.Idl
set_option linter.all false
open Go.Proofs
set_option maxHeartbeats 4000000
set_option maxRecDepth 40000

theorem cloneRows_fun (l : List Rw) (hl : l.length ≤ 2 ^ 32) : FN 30 [.fz 5 (rws l)] (fun v => v = .fz 5 (rws l)) := by
  refine IFun.of_bodyZ false 3 [4] Tryz.func30 rfl Tryz.call30 rfl fun R hR => ?_
  simp [go_sem]
  refine ⟨⟨⟨by omega, rws_one⟩, hR _ _ _ rfl (by simp [go_sem])⟩, fun e => hR _ _ _ rfl (by simp [go_sem, e])⟩
def wF (p : Int) (x : Rw) : Rw := { x with ns := if x.ns = p then 0 else x.ns, ew := if x.ew = p then 0 else x.ew }
def hasP' (p : Int) (l : List Rw) : Bool := l.any fun x => x.ns == p || x.ew == p
def woE (p : Int) (m : Mv) : Int := if 1 ≤ p ∧ hasP' p m.rows = true then 0 else 6
def woM (p : Int) (m : Mv) : Mv := if woE p m = 0 then { m with rows := m.rows.map (wF p) } else mvZ
/-- The first i rows without the pair. -/
def woR (p : Int) (L : List Rw) (i : Nat) : List Rw := (L.take i).map (wF p) ++ L.drop i
@[simp] theorem woR_length {p : Int} {L : List Rw} {i : Nat} : (woR p L i).length = L.length := by simp [woR]; omega
theorem woR_zero {p : Int} {L : List Rw} : woR p L 0 = L := by simp [woR]
theorem woR_all {p : Int} {L : List Rw} : woR p L L.length = L.map (wF p) := by simp [woR]
theorem woR_get {p : Int} {L : List Rw} {i q : Nat} (h : q < (woR p L i).length) : (woR p L i)[q] = if q < i then wF p (L[q]'(by simpa using h)) else L[q]'(by simpa using h) := by
  have hq : q < L.length := by simpa using h
  simp only [woR]
  by_cases hi : q < i
  · rw [if_pos hi, List.getElem_append_left (by simp; omega)]; simp
  · rw [if_neg hi, List.getElem_append_right (by simp; omega)]; simp; congr 1; omega
theorem woR_succ {p : Int} {L : List Rw} {i : Nat} (h : i < L.length) : woR p L (i + 1) = (woR p L i).set i (wF p L[i]) := by
  refine List.ext_getElem (by simp) fun q h1 h2 => ?_
  rw [List.getElem_set, woR_get, woR_get]
  by_cases hq : i = q
  · subst hq; simp
  · have : q < i + 1 ↔ q < i := by omega
    simp [hq, this]
theorem without_fun (m : Mv) (p : Int) (hl : m.rows.length ≤ 2 ^ 32) : FN 16 [m.v, .int .i64 p] (fun v => v = .tup [(woM p m).v, .int .i64 (woE p m)]) := by
  refine IFun.of_bodyZ false 9 [10, 16, 17, 18, 26, 37, 44] Tryz.func16 rfl Tryz.call16 rfl fun R hR => ?_
  by_cases hp : p < 1
  · have h0 : woE p m = 6 := by unfold woE; rw [if_neg (by omega)]
    have hm : woM p m = mvZ := by unfold woM; rw [if_neg (by rw [h0]; decide)]
    simp [go_sem, Mv.v, hp]
    exact hR _ _ _ rfl (by simp [go_sem, hm, h0, mvZ, Mv.v])
  simp [go_sem, Mv.v, hp]
  refine (cloneRows_fun m.rows hl).callOF (by simp [go_sem]) ?_
  rintro _ rfl
  refine ⟨fun v => v, 5, _, .here, by decide, rfl, by simp [go_sem], ?_⟩
  simp [go_sem]
  obtain ⟨tb, ro, se, co, wi, L⟩ := m
  have hE : woE p ⟨tb, ro, se, co, wi, L⟩ = if hasP' p L = true then 0 else 6 := by unfold woE; simp only [show (1 ≤ p) = True from eq_true (by omega), true_and]
  have hM : woM p ⟨tb, ro, se, co, wi, L⟩ = if hasP' p L = true then ⟨tb, ro, se, co, wi, L.map (wF p)⟩ else mvZ := by unfold woM; rw [hE]; split <;> simp
  refine IWp.loopT (α := Nat) (fun i => (⟨false, 49, 9, [10, 16, 17, 18, 26, 37, 44], [], [(1, .int .i64 p), (2, .ptr 0 1 0 0), (4, .ptr 1 1 0 0), (6, .sl 2 L.length 0 L.length none), (7, .bool (hasP' p (L.take i))), (16, .int .i64 L.length), (17, .int .i64 (i : Int))], []⟩, [.rows 6 [[.int .i64 tb, .int .i64 ro, .int .i64 se, .int .i64 co, .int .i64 wi, .fz 5 (rws L)]], .rows 6 [[.int .i64 0, .int .i64 0, .int .i64 0, .int .i64 0, .int .i64 0, .nils]], .rows 5 (rws (woR p L i))]))
    (fun i => i ≤ L.length) (fun i => L.length - i) 0 (by simp) (by simp [go_sem, woR_zero, hasP']) ?_
  intro i hi
  by_cases h : i < L.length
  · have w1 : IntKind.i64.wrap ((i : Int) + 1) = i + 1 := wrap64 (by simp at hl; omega) (by simp at hl; omega)
    have hs := woR_succ (p := p) h
    have hfd : hasP' p (L.take (i + 1)) = (hasP' p (L.take i) || (L[i].ns == p || L[i].ew == p)) := by unfold hasP'; rw [List.take_succ_eq_append_getElem h, List.any_append]; simp
    have hML : (woR p L i).length = L.length := by simp
    have hiM : i < (woR p L i).length := by omega
    have hget : (woR p L i)[i] = L[i] := by rw [woR_get, if_neg (by omega)]
    generalize woR p L i = M at *
    generalize L[i] = x at *
    generalize hasP' p (L.take i) = fd at *
    by_cases h1 : x.ns = p
    · by_cases h2 : x.ew = p
      · simp [go_sem, h, hML, hiM, hget, w1, h1, h2]
        exact ⟨i + 1, ⟨⟨by rw [hfd]; simp [h1, h2], by simp⟩, by rw [hs, rws_set]; simp [wF, h1, h2, Rw.c]⟩, by omega, by omega⟩
      · simp [go_sem, h, hML, hiM, hget, w1, h1, h2]
        exact ⟨i + 1, ⟨⟨by rw [hfd]; simp [h1, h2], by simp⟩, by rw [hs, rws_set]; simp [wF, h1, h2, Rw.c]⟩, by omega, by omega⟩
    · by_cases h2 : x.ew = p
      · simp [go_sem, h, hML, hiM, hget, w1, h1, h2]
        exact ⟨i + 1, ⟨⟨by rw [hfd]; simp [h1, h2], by simp⟩, by rw [hs, rws_set]; simp [wF, h1, h2, Rw.c]⟩, by omega, by omega⟩
      · simp [go_sem, h, hML, hiM, hget, w1, h1, h2]
        have hw : wF p x = x := by unfold wF; rw [if_neg h1, if_neg h2]
        have hself : M.set i x = M := by rw [← hget]; simp
        exact ⟨i + 1, ⟨⟨by rw [hfd]; simp [h1, h2], by simp⟩, by rw [hs, hw, hself]⟩, by omega, by omega⟩
  · have : i = L.length := by omega
    subst this
    cases hf : hasP' p L with
    | true =>
      simp [go_sem, hf, woR_all]
      exact hR _ _ _ rfl (by simp [go_sem, hE, hM, hf, Mv.v])
    | false =>
      simp [go_sem, hf, woR_all]
      exact hR _ _ _ rfl (by simp [go_sem, hE, hM, hf, Mv.v, mvZ])
end Go.Idl
