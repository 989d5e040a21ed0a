/-
  Package mitchell: Rover.
  Package mitchell: Clone, Without.
  Package mitchell: Where.
  Package mitchell: Pairs.
-/
import Derived.Test.YtjdcaidcheodpaaC25PartE
import Derived.Test.YtjdcaidcheodpaaC25PartC
import Derived.Test.YtjdcaidcheodpaaC25PartB
namespace Go.Idl
set_option linter.all false
open Go.Proofs
set_option maxHeartbeats 4000000
set_option maxRecDepth 40000

theorem rowsX_get {k : Int} {T : Nat} (hT : 0 < T) : ∀ (n q : Nat) (h : q < (rowsX k T n).length), (rowsX k T n)[q] = rowX k T (q / T : Nat) (q % T : Nat)
  | 0, q, h => by rw [rowsX_length] at h; omega
  | n + 1, q, h => by
    have hl : (rowsX k T n).length = n * T := by rw [rowsX_length]; simp
    by_cases hq : q < n * T
    · have := rowsX_get (k := k) hT n q (by omega)
      simp only [rowsX_succ]
      rw [List.getElem_append_left (by omega)]
      exact this
    · have hlt : q < (n + 1) * T := by rw [rowsX_length] at h; simpa using h
      rw [Nat.succ_mul] at hlt
      obtain ⟨s, rfl⟩ : ∃ s, q = n * T + s := ⟨q - n * T, by omega⟩
      have e1 : (n * T + s) / T = n := by rw [Nat.mul_comm, Nat.mul_add_div hT, Nat.div_eq_of_lt (by omega)]; rfl
      have e2 : (n * T + s) % T = s := by rw [Nat.mul_comm, Nat.mul_add_mod, Nat.mod_eq_of_lt (by omega)]
      simp only [rowsX_succ]
      rw [List.getElem_append_right (by omega)]
      rw [e1, e2]
      simp [rowL, hl]
def rovF (T : Int) (x : Rw) : Rw := if x.t = 2 * x.r % T then { x with ns := 2 * T + 1 } else x
/-- The first i rows with the rover. -/
def rovR (T : Int) (L : List Rw) (i : Nat) : List Rw := (L.take i).map (rovF T) ++ L.drop i
@[simp] theorem rovR_length {T : Int} {L : List Rw} {i : Nat} : (rovR T L i).length = L.length := by simp [rovR]; omega
theorem rovR_zero {T : Int} {L : List Rw} : rovR T L 0 = L := by simp [rovR]
theorem rovR_all {T : Int} {L : List Rw} : rovR T L L.length = L.map (rovF T) := by simp [rovR]
theorem rovR_get {T : Int} {L : List Rw} {i q : Nat} (h : q < (rovR T L i).length) : (rovR T L i)[q] = if q < i then rovF T (L[q]'(by simpa using h)) else L[q]'(by simpa using h) := by
  have hq : q < L.length := by simpa using h
  simp only [rovR]
  by_cases hi : q < i
  · rw [if_pos hi, List.getElem_append_left (by simp; omega)]; simp
  · rw [if_neg hi, List.getElem_append_right (by simp; omega)]; simp; congr 1; omega
theorem rovR_succ {T : Int} {L : List Rw} {i : Nat} (h : i < L.length) : rovR T L (i + 1) = (rovR T L i).set i (rovF T L[i]) := by
  refine List.ext_getElem (by simp) fun q h1 h2 => ?_
  rw [List.getElem_set, rovR_get, rovR_get]
  by_cases hq : i = q
  · subst hq; simp
  · have : q < i + 1 ↔ q < i := by omega
    simp [hq, this]
theorem rovR_same {T : Int} {L : List Rw} {i : Nat} (h : i < L.length) (hf : rovF T L[i] = L[i]) : rovR T L (i + 1) = rovR T L i := by
  refine List.ext_getElem (by simp) fun q h1 h2 => ?_
  rw [rovR_get, rovR_get]
  by_cases hq : i = q
  · subst hq; simp [hf]
  · have : q < i + 1 ↔ q < i := by omega
    simp [this]
/-- A round more: one row is another. -/
theorem rovR_round {T n r : Nat} (hT : 0 < T) (hr : r < n) : ∃ h : r * T + 2 * r % T < (rowsX 1 T n).length, rovR T (rowsX 1 T n) ((r + 1) * T) = (rovR T (rowsX 1 T n) (r * T)).set (r * T + 2 * r % T) (rovF T (rowsX 1 T n)[r * T + 2 * r % T]) ∧ rovF T (rowsX 1 T n)[r * T + 2 * r % T] = { (rowsX 1 T n)[r * T + 2 * r % T] with ns := 2 * T + 1 } := by
  have hm := Nat.mod_lt (2 * r) hT
  have hl : (rowsX 1 T n).length = n * T := by rw [rowsX_length]; simp
  have hb : (r + 1) * T ≤ n * T := Nat.mul_le_mul_right T hr
  have e3 : (r + 1) * T = r * T + T := Nat.succ_mul r T
  rw [e3] at hb ⊢
  have hlt : r * T + 2 * r % T < (rowsX 1 T n).length := by omega
  refine ⟨hlt, List.ext_getElem (by simp) fun q h1 h2 => ?_, ?_⟩
  · rw [List.getElem_set, rovR_get, rovR_get]
    have hq : q < (rowsX 1 T n).length := by simpa using h1
    by_cases e : r * T + 2 * r % T = q
    · subst e
      rw [if_pos (by omega), if_pos rfl]
    rw [if_neg e]
    by_cases h3 : q < r * T
    · rw [if_pos h3, if_pos (by omega)]
    rw [if_neg h3]
    by_cases h4 : q < r * T + T
    · rw [if_pos h4, rowsX_get hT]
      obtain ⟨s, rfl⟩ : ∃ s, q = r * T + s := ⟨q - r * T, by omega⟩
      have e1 : (r * T + s) / T = r := by rw [Nat.mul_comm, Nat.mul_add_div hT, Nat.div_eq_of_lt (by omega)]; rfl
      have e2 : (r * T + s) % T = s := by rw [Nat.mul_comm, Nat.mul_add_mod, Nat.mod_eq_of_lt (by omega)]
      rw [e1, e2]
      unfold rovF rowX
      rw [if_neg]
      intro hh
      apply e
      have : (s : Int) = ((2 * r % T : Nat) : Int) := by push_cast; exact hh
      omega
    · rw [if_neg h4]
  · rw [rowsX_get hT]
    have e1 : (r * T + 2 * r % T) / T = r := by rw [Nat.mul_comm r T, Nat.mul_add_div hT, Nat.div_eq_of_lt hm]; rfl
    have e2 : (r * T + 2 * r % T) % T = 2 * r % T := by rw [Nat.mul_comm r T, Nat.mul_add_mod, Nat.mod_eq_of_lt hm]
    rw [e1, e2]
    unfold rovF rowX
    rw [if_pos]
    push_cast
    rfl
def roverE (T n : Int) : Int := if findE T 1 ≠ 0 then findE T 1 else if T % 3 = 0 then 6 else makeE 1 T n
def roverM (T n : Int) : Mv := if roverE T n = 0 then { mvX 1 T n with rows := (rowsX 1 T n.toNat).map (rovF T) } else mvZ
theorem rem3 {T : Int} (h : 0 ≤ T) : T.tmod 3 = T % 3 := Int.tmod_eq_emod_of_nonneg h
theorem makeE_zero {k T n : Int} (h : makeE k T n = 0) : findE T k = 0 ∧ 1 ≤ n ∧ n ≤ T - fewK k := by
  unfold makeE at h
  split at h
  · omega
  · rename_i h1
    split at h
    · omega
    · split at h
      · omega
      · exact ⟨by simpa using h1, by omega, by omega⟩
theorem rowsX_mem {k : Int} {T n : Nat} (hT : 0 < T) {x : Rw} (h : x ∈ rowsX k T n) : ∃ r t : Nat, r < n ∧ t < T ∧ x = rowX k T r t := by
  obtain ⟨q, hq, rfl⟩ := List.mem_iff_getElem.1 h
  rw [rowsX_get hT]
  rw [rowsX_length] at hq
  exact ⟨q / T, q % T, Nat.div_lt_of_lt_mul (by rw [Nat.mul_comm]; simpa using hq), Nat.mod_lt _ hT, rfl⟩
theorem rover_fun (T n : Int) : FN 23 [.int .i64 T, .int .i64 n] (fun v => v = .tup [(roverM T n).v, .int .i64 (roverE T n)]) := by
  refine IFun.of_bodyZ false 12 [18, 23, 32, 37, 38, 39, 56] Try.func23 rfl Try.call23 rfl fun R hR => ?_
  simp [go_sem]
  refine (find_fun T 1 (by omega)).callF (by simp [go_sem]) ?_
  rintro _ rfl
  by_cases he : findE T 1 = 0
  case neg =>
    have h0 : roverE T n = findE T 1 := by unfold roverE; rw [if_pos he]
    have hm : roverM T n = mvZ := by unfold roverM; rw [if_neg (by rw [h0]; exact he)]
    simp [go_sem, he, dsn0]
    exact hR _ _ _ rfl (by simp [go_sem, hm, h0, mvZ, Mv.v])
  have hz := findE_zero he
  have ht := rem3 (T := T) (by omega)
  by_cases h3 : T % 3 = 0
  · have h0 : roverE T n = 6 := by unfold roverE; rw [if_neg (by simp [he]), if_pos h3]
    have hm : roverM T n = mvZ := by unfold roverM; rw [if_neg (by rw [h0]; decide)]
    simp [go_sem, he, ht, h3, dsn]
    exact hR _ _ _ rfl (by simp [go_sem, hm, h0, mvZ, Mv.v])
  have h0 : roverE T n = makeE 1 T n := by unfold roverE; rw [if_neg (by simp [he]), if_neg h3]
  simp [go_sem, he, ht, h3, dsn]
  by_cases hk : makeE 1 T n = 0
  case neg =>
    have hm : roverM T n = mvZ := by unfold roverM; rw [if_neg (by rw [h0]; exact hk)]
    refine (make_fun T n 1 (by omega)).callF (by simp [go_sem]) ?_
    rintro _ rfl
    have hmm : makeM 1 T n = mvZ := by unfold makeM; rw [if_neg hk]
    simp [go_sem, hk, hmm, mvZ, Mv.v]
    exact hR _ _ _ rfl (by simp [go_sem, hm, h0, mvZ, Mv.v])
  have hz2 := makeE_zero hk
  have hm : roverM T n = { mvX 1 T n with rows := (rowsX 1 T n.toNat).map (rovF T) } := by unfold roverM; rw [if_pos (by rw [h0]; exact hk)]
  have hmm : makeM 1 T n = mvX 1 T n := by unfold makeM; rw [if_pos hk]
  refine (make_fun T n 1 (by omega)).callOF (by simp [go_sem]) ?_
  rintro _ rfl
  rw [hk, hmm]
  obtain ⟨t, rfl⟩ : ∃ t : Nat, T = t := ⟨T.toNat, by omega⟩
  obtain ⟨m, rfl⟩ : ∃ m : Nat, n = m := ⟨n.toNat, by omega⟩
  refine ⟨fun v => .tup ([] ++ .agg ([.int .i64 t, .int .i64 m, .int .i64 t, .int .i64 1, .int .i64 2] ++ v :: []) :: [.int .i64 0]), 5, rws (rowsX 1 t m), .tup [] [.int .i64 0] _ (by simp) (by simp [scal]) (.agg [.int .i64 t, .int .i64 m, .int .i64 t, .int .i64 1, .int .i64 2] [] _ (by simp [scal]) (by simp) .here), by decide, rfl, by simp [go_sem], ?_⟩
  simp [go_sem]
  have hl : (rowsX 1 t m).length = m * t := by rw [rowsX_length]; simp
  have hfin : IV.tup [.agg [.int .i64 t, .int .i64 m, .int .i64 t, .int .i64 1, .int .i64 2, .fz 5 (rws ((rowsX 1 t m).map (rovF t)))], .int .i64 0] = .tup [(roverM t m).v, .int .i64 (roverE t m)] := by rw [hm, h0, hk]; simp [mvX, Mv.v, copK]
  have hmem : ∀ x ∈ rowsX 1 t m, 0 ≤ x.r ∧ x.r < m := fun x hx => by
    obtain ⟨r, t', h1, h2, rfl⟩ := rowsX_mem (k := 1) (by omega) hx
    simp [rowX]; omega
  have hall := rovR_all (T := t) (L := rowsX 1 t m)
  have hm24 : m ≤ 24 := by have := hz2.2.2; simp [fewK] at this; omega
  have hmt : m * t ≤ 24 * 24 := Nat.mul_le_mul hm24 (by omega)
  generalize rowsX 1 t m = L at *
  refine IWp.loopT (α := Nat) (fun i => (⟨false, 65, 12, [18, 23, 32, 37, 38, 39, 56], [], [(0, .int .i64 t), (4, .ptr 0 1 0 0), (8, .ptr 3 1 0 0), (37, .int .i64 L.length), (38, .int .i64 (i : Int))], []⟩, [.rows 6 [[.int .i64 0, .int .i64 0, .int .i64 0, .int .i64 0, .int .i64 0, .nils]], .dead, .rows 5 (rws (rovR t L i)), .rows 6 [[.int .i64 t, .int .i64 m, .int .i64 t, .int .i64 1, .int .i64 2, .sl 2 L.length 0 L.length none]]]))
    (fun i => i ≤ L.length) (fun i => L.length - i) 0 (by simp) (by simp [go_sem, rovR_zero]) ?_
  intro i hi
  by_cases h : i < L.length
  · have w1 : IntKind.i64.wrap ((i : Int) + 1) = i + 1 := wrap64 (by omega) (by omega)
    have hx := hmem L[i] (List.getElem_mem h)
    have hs := rovR_succ (T := t) h
    have hsame := rovR_same (T := t) h
    have hML : (rovR t L i).length = L.length := by simp
    have hiM : i < (rovR t L i).length := by omega
    have hget : (rovR t L i)[i] = L[i] := by rw [rovR_get, if_neg (by omega)]
    generalize rovR t L i = M at *
    generalize L[i] = x at *
    have w2 : IntKind.i64.wrap (2 * x.r) = 2 * x.r := wrap64 (by omega) (by omega)
    have w5 : IntKind.i64.wrap (2 * (t : Int)) = 2 * t := wrap64 (by omega) (by omega)
    have w6 : IntKind.i64.wrap (2 * (t : Int) + 1) = 2 * t + 1 := wrap64 (by omega) (by omega)
    have hmod : (2 * x.r).tmod t = 2 * x.r % t := Int.tmod_eq_emod_of_nonneg (by omega)
    have ht0 : ¬ (t : Int) = 0 := by omega
    have ht0' : ¬ t = 0 := by omega
    by_cases hc : x.t = 2 * x.r % t
    · have hf : rovF t x = { x with ns := 2 * t + 1 } := by unfold rovF; rw [if_pos hc]
      simp [go_sem, h, hML, hiM, hget, w1, w2, hmod, ht0, ht0', ← hc, w5, w6]
      exact ⟨by decide +kernel, i + 1, ⟨by simp, by rw [hs, hf, rws_set]; rfl⟩, by omega, by omega⟩
    · have hf : rovF t x = x := by unfold rovF; rw [if_neg hc]
      simp [go_sem, h, hML, hiM, hget, w1, w2, hmod, ht0, ht0', hc, w5, w6]
      exact ⟨by decide +kernel, i + 1, ⟨by simp, by rw [hsame hf]⟩, by omega, by omega⟩
  · have : i = L.length := by omega
    subst this
    simp [go_sem, hall]
    exact hR _ _ _ rfl (by simp [go_sem, ← hfin, hl, hall])
end Go.Idl
namespace Go.Idl
set_option linter.all false
open Go.Proofs
set_option maxHeartbeats 4000000
set_option maxRecDepth 40000

theorem cloneRows_fun (l : List Rw) (hl : l.length ≤ 2 ^ 32) : FN 44 [.fz 5 (rws l)] (fun v => v = .fz 5 (rws l)) := by
  refine IFun.of_bodyZ false 3 [4] Try.func44 rfl Try.call44 rfl fun R hR => ?_
  simp [go_sem]
  refine ⟨⟨⟨by omega, rws_one⟩, hR _ _ _ rfl (by simp [go_sem])⟩, fun e => hR _ _ _ rfl (by simp [go_sem, e])⟩
def wF (p : Int) (x : Rw) : Rw := { x with ns := if x.ns = p then 0 else x.ns, ew := if x.ew = p then 0 else x.ew }
def hasP' (p : Int) (l : List Rw) : Bool := l.any fun x => x.ns == p || x.ew == p
def woE (p : Int) (m : Mv) : Int := if 1 ≤ p ∧ hasP' p m.rows = true then 0 else 6
def woM (p : Int) (m : Mv) : Mv := if woE p m = 0 then { m with rows := m.rows.map (wF p) } else mvZ
/-- The first i rows without the pair. -/
def woR (p : Int) (L : List Rw) (i : Nat) : List Rw := (L.take i).map (wF p) ++ L.drop i
@[simp] theorem woR_length {p : Int} {L : List Rw} {i : Nat} : (woR p L i).length = L.length := by simp [woR]; omega
theorem woR_zero {p : Int} {L : List Rw} : woR p L 0 = L := by simp [woR]
theorem woR_all {p : Int} {L : List Rw} : woR p L L.length = L.map (wF p) := by simp [woR]
theorem woR_get {p : Int} {L : List Rw} {i q : Nat} (h : q < (woR p L i).length) : (woR p L i)[q] = if q < i then wF p (L[q]'(by simpa using h)) else L[q]'(by simpa using h) := by
  have hq : q < L.length := by simpa using h
  simp only [woR]
  by_cases hi : q < i
  · rw [if_pos hi, List.getElem_append_left (by simp; omega)]; simp
  · rw [if_neg hi, List.getElem_append_right (by simp; omega)]; simp; congr 1; omega
theorem woR_succ {p : Int} {L : List Rw} {i : Nat} (h : i < L.length) : woR p L (i + 1) = (woR p L i).set i (wF p L[i]) := by
  refine List.ext_getElem (by simp) fun q h1 h2 => ?_
  rw [List.getElem_set, woR_get, woR_get]
  by_cases hq : i = q
  · subst hq; simp
  · have : q < i + 1 ↔ q < i := by omega
    simp [hq, this]
theorem without_fun (m : Mv) (p : Int) (hl : m.rows.length ≤ 2 ^ 32) : FN 20 [m.v, .int .i64 p] (fun v => v = .tup [(woM p m).v, .int .i64 (woE p m)]) := by
  refine IFun.of_bodyZ false 9 [10, 16, 17, 18, 26, 37, 44] Try.func20 rfl Try.call20 rfl fun R hR => ?_
  by_cases hp : p < 1
  · have h0 : woE p m = 6 := by unfold woE; rw [if_neg (by omega)]
    have hm : woM p m = mvZ := by unfold woM; rw [if_neg (by rw [h0]; decide)]
    simp [go_sem, Mv.v, hp]
    exact hR _ _ _ rfl (by simp [go_sem, hm, h0, mvZ, Mv.v])
  simp [go_sem, Mv.v, hp]
  refine (cloneRows_fun m.rows hl).callOF (by simp [go_sem]) ?_
  rintro _ rfl
  refine ⟨fun v => v, 5, _, .here, by decide, rfl, by simp [go_sem], ?_⟩
  simp [go_sem]
  obtain ⟨tb, ro, se, co, wi, L⟩ := m
  have hE : woE p ⟨tb, ro, se, co, wi, L⟩ = if hasP' p L = true then 0 else 6 := by unfold woE; simp only [show (1 ≤ p) = True from eq_true (by omega), true_and]
  have hM : woM p ⟨tb, ro, se, co, wi, L⟩ = if hasP' p L = true then ⟨tb, ro, se, co, wi, L.map (wF p)⟩ else mvZ := by unfold woM; rw [hE]; split <;> simp
  refine IWp.loopT (α := Nat) (fun i => (⟨false, 49, 9, [10, 16, 17, 18, 26, 37, 44], [], [(1, .int .i64 p), (2, .ptr 0 1 0 0), (4, .ptr 1 1 0 0), (6, .sl 2 L.length 0 L.length none), (7, .bool (hasP' p (L.take i))), (16, .int .i64 L.length), (17, .int .i64 (i : Int))], []⟩, [.rows 6 [[.int .i64 tb, .int .i64 ro, .int .i64 se, .int .i64 co, .int .i64 wi, .fz 5 (rws L)]], .rows 6 [[.int .i64 0, .int .i64 0, .int .i64 0, .int .i64 0, .int .i64 0, .nils]], .rows 5 (rws (woR p L i))]))
    (fun i => i ≤ L.length) (fun i => L.length - i) 0 (by simp) (by simp [go_sem, woR_zero, hasP']) ?_
  intro i hi
  by_cases h : i < L.length
  · have w1 : IntKind.i64.wrap ((i : Int) + 1) = i + 1 := wrap64 (by simp at hl; omega) (by simp at hl; omega)
    have hs := woR_succ (p := p) h
    have hfd : hasP' p (L.take (i + 1)) = (hasP' p (L.take i) || (L[i].ns == p || L[i].ew == p)) := by unfold hasP'; rw [List.take_succ_eq_append_getElem h, List.any_append]; simp
    have hML : (woR p L i).length = L.length := by simp
    have hiM : i < (woR p L i).length := by omega
    have hget : (woR p L i)[i] = L[i] := by rw [woR_get, if_neg (by omega)]
    generalize woR p L i = M at *
    generalize L[i] = x at *
    generalize hasP' p (L.take i) = fd at *
    by_cases h1 : x.ns = p
    · by_cases h2 : x.ew = p
      · simp [go_sem, h, hML, hiM, hget, w1, h1, h2]
        exact ⟨i + 1, ⟨⟨by rw [hfd]; simp [h1, h2], by simp⟩, by rw [hs, rws_set]; simp [wF, h1, h2, Rw.c]⟩, by omega, by omega⟩
      · simp [go_sem, h, hML, hiM, hget, w1, h1, h2]
        exact ⟨i + 1, ⟨⟨by rw [hfd]; simp [h1, h2], by simp⟩, by rw [hs, rws_set]; simp [wF, h1, h2, Rw.c]⟩, by omega, by omega⟩
    · by_cases h2 : x.ew = p
      · simp [go_sem, h, hML, hiM, hget, w1, h1, h2]
        exact ⟨i + 1, ⟨⟨by rw [hfd]; simp [h1, h2], by simp⟩, by rw [hs, rws_set]; simp [wF, h1, h2, Rw.c]⟩, by omega, by omega⟩
      · simp [go_sem, h, hML, hiM, hget, w1, h1, h2]
        have hw : wF p x = x := by unfold wF; rw [if_neg h1, if_neg h2]
        have hself : M.set i x = M := by rw [← hget]; simp
        exact ⟨i + 1, ⟨⟨by rw [hfd]; simp [h1, h2], by simp⟩, by rw [hs, hw, hself]⟩, by omega, by omega⟩
  · have : i = L.length := by omega
    subst this
    cases hf : hasP' p L with
    | true =>
      simp [go_sem, hf, woR_all]
      exact hR _ _ _ rfl (by simp [go_sem, hE, hM, hf, Mv.v])
    | false =>
      simp [go_sem, hf, woR_all]
      exact hR _ _ _ rfl (by simp [go_sem, hE, hM, hf, Mv.v, mvZ])
end Go.Idl
namespace Go.Idl
set_option linter.all false
open Go.Proofs
set_option maxHeartbeats 4000000
set_option maxRecDepth 40000

theorem find_hit {α : Type} {c : α → Bool} {L : List α} {i : Nat} (h : i < L.length) (h0 : (L.take i).find? c = none) (h1 : c L[i] = true) : L.find? c = some L[i] := by
  conv => lhs; rw [← List.take_append_drop i L]
  rw [List.find?_append, h0, List.drop_eq_getElem_cons h, List.find?_cons_of_pos h1]
  rfl
theorem find_miss {α : Type} {c : α → Bool} {L : List α} {i : Nat} (h : i < L.length) (h0 : (L.take i).find? c = none) (h1 : c L[i] = false) : (L.take (i + 1)).find? c = none := by
  rw [List.take_succ_eq_append_getElem h, List.find?_append, h0]; simp [h1]
def zRw : Rw := ⟨0, 0, 0, 0, 0⟩
def whC (r p : Int) (x : Rw) : Bool := x.r == r && (x.ns == p || x.ew == p)
def wheR (L : List Rw) (r p : Int) : Option Rw := if p < 1 then none else L.find? (whC r p)
def whV (o : Option Rw) : IV := .tup [(o.getD zRw).v, .bool o.isSome]
theorem where_fun (m : Mv) (r p : Int) (hl : m.rows.length ≤ 2 ^ 32) : FN 25 [m.v, .int .i64 r, .int .i64 p] (fun v => v = whV (wheR m.rows r p)) := by
  refine IFun.of_bodyZ false 10 [11, 14, 15, 16, 17, 35] Try.func25 rfl Try.call25 rfl fun R hR => ?_
  by_cases hp : p < 1
  · have ho : wheR m.rows r p = none := by unfold wheR; rw [if_pos hp]
    simp [go_sem, Mv.v, hp]
    exact hR _ _ _ rfl (by simp [go_sem, ho, whV, zRw, Rw.v])
  have ho : wheR m.rows r p = m.rows.find? (whC r p) := by unfold wheR; rw [if_neg hp]
  obtain ⟨tb, ro, se, co, wi, L⟩ := m
  simp at hl ho
  simp [go_sem, Mv.v, hp]
  refine IWp.loopT (α := Nat) (fun i => (⟨false, 39, 10, [11, 14, 15, 16, 17, 35], [], [(1, .int .i64 r), (2, .int .i64 p), (6, .ptr 1 1 0 0), (14, .fz 5 (rws L)), (15, .int .i64 L.length), (16, .int .i64 (i : Int))], []⟩, [.dead, .rows 5 [[.int .i64 0, .int .i64 0, .int .i64 0, .int .i64 0, .int .i64 0]]]))
    (fun i => i ≤ L.length ∧ (L.take i).find? (whC r p) = none) (fun i => L.length - i) 0 (by simp) (by simp [go_sem]) ?_
  rintro i ⟨hi, h0⟩
  by_cases h : i < L.length
  · have w1 : IntKind.i64.wrap ((i : Int) + 1) = i + 1 := wrap64 (by omega) (by omega)
    have hit := find_hit (c := whC r p) h h0
    have miss := find_miss (c := whC r p) h h0
    generalize hx : L[i] = x at *
    by_cases h1 : x.r = r
    · by_cases h2 : x.ns = p
      · have hh := hit (by simp [whC, h1, h2])
        simp [go_sem, h, hx, w1, h1, h2]
        exact hR _ _ _ rfl (by simp [go_sem, ho, hh, whV, Rw.v, h1, h2])
      · by_cases h3 : x.ew = p
        · have hh := hit (by simp [whC, h1, h3])
          simp [go_sem, h, hx, w1, h1, h2, h3]
          exact hR _ _ _ rfl (by simp [go_sem, ho, hh, whV, Rw.v, h1, h3])
        · have hh := miss (by simp [whC, h2, h3])
          simp [go_sem, h, hx, w1, h1, h2, h3]
          exact ⟨i + 1, rfl, ⟨by omega, by simpa using hh⟩, by omega⟩
    · have hh := miss (by simp [whC, h1])
      simp [go_sem, h, hx, w1, h1]
      exact ⟨i + 1, rfl, ⟨by omega, by simpa using hh⟩, by omega⟩
  · have : i = L.length := by omega
    subst this
    rw [List.take_length] at h0
    simp [go_sem]
    exact hR _ _ _ rfl (by simp [go_sem, ho, h0, whV, zRw, Rw.v])
end Go.Idl
namespace Go.Idl
set_option linter.all false
open Go.Proofs
set_option maxHeartbeats 4000000
set_option maxRecDepth 40000

def rowP (x : Rw) : List Int := (if 0 < x.ns then [x.ns] else []) ++ (if 0 < x.ew then [x.ew] else [])
def allP (L : List Rw) : List Int := L.flatMap rowP
def prs (L : List Rw) : List Int := srt (allP L)
theorem pairs_fun (m : Mv) (hl : m.rows.length ≤ 2 ^ 30) : FN 17 [m.v] (fun v => v = .fz 1 (ints (prs m.rows))) := by
  refine IFun.of_bodyZ false 8 [9, 10, 11, 12, 19, 20, 21, 24] Try.func17 rfl Try.call17 rfl fun R hR => ?_
  obtain ⟨tb, ro, se, co, wi, L⟩ := m
  simp [go_sem, Mv.v]
  refine IWp.ownNilS 1 3 (by decide) (by simp [go_sem]) ?_
  simp at hl
  obtain ⟨M, hMd⟩ : ∃ M : Nat → List Int, M = fun i => allP (L.take i) := ⟨_, rfl⟩
  have hM0 : M 0 = [] := by rw [hMd]; simp [allP]
  have hMl : M L.length = allP L := by rw [hMd]; simp
  have hlen : ∀ l : List Rw, (allP l).length ≤ 2 * l.length := fun l => by
    induction l with
    | nil => simp [allP]
    | cons x l ih =>
      have : (rowP x).length ≤ 2 := by unfold rowP; split <;> split <;> simp
      simp only [allP, List.flatMap_cons, List.length_append, List.length_cons] at ih ⊢
      omega
  have hMlen : ∀ i, (M i).length ≤ 2 ^ 31 := fun i => by
    have := hlen (L.take i)
    rw [hMd]; simp at this ⊢; omega
  simp [go_sem, -List.cons_append]
  refine IWp.loopT (α := Nat) (fun i => (⟨false, 35, 8, [9, 10, 11, 12, 19, 20, 21, 24], [], [(3, .sl 1 (M i).length 0 (M i).length none), (9, .fz 5 (rws L)), (10, .int .i64 L.length), (11, .int .i64 (i : Int))], []⟩, [.dead, .rows 1 (ints (M i))]))
    (fun i => i ≤ L.length) (fun i => L.length - i) 0 (by simp) (by simp [go_sem, hM0]) ?_
  intro i hi
  by_cases h : i < L.length
  · have w1 : IntKind.i64.wrap ((i : Int) + 1) = i + 1 := wrap64 (by omega) (by omega)
    have hs : M (i + 1) = M i ++ rowP L[i] := by
      rw [hMd]
      show allP (L.take (i + 1)) = _
      rw [List.take_succ_eq_append_getElem h]
      unfold allP
      rw [List.flatMap_append]; simp only [List.flatMap_cons, List.flatMap_nil, List.append_nil]
    have hl1 := hMlen i
    have hl2 := hMlen (i + 1)
    generalize hx : L[i] = x at *
    obtain ⟨N, hN⟩ : ∃ N : Nat → List Int, N = fun j => M i ++ (if 1 ≤ j then (if 0 < x.ns then [x.ns] else []) else []) ++ (if 2 ≤ j then (if 0 < x.ew then [x.ew] else []) else []) := ⟨_, rfl⟩
    have hN0 : N 0 = M i := by rw [hN]; simp
    have hN1 : N 1 = N 0 ++ (if 0 < x.ns then [x.ns] else []) := by rw [hN]; simp
    have hN2 : N 2 = N 1 ++ (if 0 < x.ew then [x.ew] else []) := by rw [hN]; simp
    have hNe : M (i + 1) = N 2 := by rw [hs, hN2, hN1, hN0]; simp [rowP]
    have hNl : ∀ j, (N j).length ≤ 2 ^ 31 + 2 := fun j => by
      rw [hN]; simp only [List.length_append]
      have a : ∀ (c d : Prop) [Decidable c] [Decidable d] (z : Int), (if c then (if d then [z] else []) else []).length ≤ 1 := fun c d _ _ z => by split <;> (try split) <;> simp
      have := a (1 ≤ j) (0 < x.ns) x.ns
      have := a (2 ≤ j) (0 < x.ew) x.ew
      omega
    clear hN
    simp [go_sem, h, hx]
    refine IWp.loopT (α := Nat) (fun j => (⟨false, 35, 8, [9, 10, 11, 12, 19, 20, 21, 24], [], [(3, .sl 1 (N j).length 0 (N j).length none), (9, .fz 5 (rws L)), (10, .int .i64 L.length), (11, .int .i64 (i : Int)), (19, .agg [.int .i64 x.ns, .int .i64 x.ew]), (20, .int .i64 (j : Int))], []⟩, [.dead, .rows 1 (ints (N j)), .dead]))
      (fun j => j ≤ 2) (fun j => 2 - j) 0 (by simp) (by simp [go_sem, hN0]) ?_
    intro j hj
    rcases (by omega : j = 0 ∨ j = 1 ∨ j = 2) with rfl | rfl | rfl
    · have := hNl 0
      have hw : IntKind.i64.wrap 1 = 1 := rfl
      by_cases hp : 0 < x.ns
      · rw [if_pos hp] at hN1
        simp [go_sem, hp]
        exact ⟨by omega, 1, ⟨⟨by rw [hN1]; simp, hw⟩, by rw [hN1, ints_snoc]⟩, by omega, by omega⟩
      · rw [if_neg hp, List.append_nil] at hN1
        simp [go_sem, hp]
        exact ⟨1, ⟨⟨by rw [hN1], hw⟩, by rw [hN1]⟩, by omega, by omega⟩
    · have := hNl 1
      have hw : IntKind.i64.wrap 2 = 2 := rfl
      by_cases hp : 0 < x.ew
      · rw [if_pos hp] at hN2
        simp [go_sem, hp]
        exact ⟨by omega, 2, ⟨⟨by rw [hN2]; simp, hw⟩, by rw [hN2, ints_snoc]⟩, by omega, by omega⟩
      · rw [if_neg hp, List.append_nil] at hN2
        simp [go_sem, hp]
        exact ⟨2, ⟨⟨by rw [hN2], hw⟩, by rw [hN2]⟩, by omega, by omega⟩
    · simp [go_sem, w1]
      exact ⟨i + 1, ⟨⟨by rw [hNe], by simp⟩, by rw [hNe]⟩, by omega, by omega⟩
  · have : i = L.length := by omega
    subst this
    have hal : (allP L).length ≤ 2 ^ 31 := by rw [← hMl]; exact hMlen _
    simp [go_sem, hMl]
    refine ICalls.sortA (zs := allP L) (b := 1) sortInt sort0 Try.call32 (by simp [ints]) rfl (by omega) ?_
    have hml : ((allP L).mergeSort fun x y => decide (x ≤ y)).length = (allP L).length := List.length_mergeSort _
    have hpr : prs L = Lib.compact ((allP L).mergeSort fun x y => decide (x ≤ y)) := rfl
    generalize ((allP L).mergeSort fun x y => decide (x ≤ y)) = S at *
    rw [← hml]
    simp [go_sem]
    refine ICalls.compactA (zs := S) (b := 1) compactInt compact0 Try.call33 (by simp) rfl (by omega) ?_
    have hcl := compact_le S
    have hfin : ints (prs L) = mp (fun z => [.int .i64 z]) (Lib.compact S) := by rw [hpr]; rfl
    generalize Lib.compact S = C at *
    have htk : List.take C.length (mp (fun z => [IV.int .i64 z]) (C ++ List.replicate (S.length - C.length) 0)) = mp (fun z => [IV.int .i64 z]) C := by rw [← mp_take]; simp
    have hZ : (C ++ List.replicate (S.length - C.length) 0).length = S.length := by simp; omega
    generalize C ++ List.replicate (S.length - C.length) 0 = Z at *
    rw [← hZ]
    simp [go_sem]
    refine hR _ _ _ rfl ?_
    simp [go_sem, hfin, cutR, htk]
    have hsc : ScR (mp (fun z => [IV.int .i64 z]) C) := mp_sc (by simp [scal])
    exact ⟨⟨by omega, okR_sc hsc⟩, (frzR_sc hsc).symm⟩
theorem prs_mem {L : List Rw} {p : Int} : p ∈ prs L ↔ 1 ≤ p ∧ ∃ x ∈ L, x.ns = p ∨ x.ew = p := by
  unfold prs
  rw [srt_mem]
  simp only [allP, List.mem_flatMap, rowP, List.mem_append]
  constructor
  · rintro ⟨x, hx, h⟩
    rcases h with h | h
    · split at h <;> simp at h; subst h; exact ⟨by omega, x, hx, .inl rfl⟩
    · split at h <;> simp at h; subst h; exact ⟨by omega, x, hx, .inr rfl⟩
  · rintro ⟨h1, x, hx, rfl | rfl⟩
    · exact ⟨x, hx, .inl (by rw [if_pos (by omega)]; simp)⟩
    · exact ⟨x, hx, .inr (by rw [if_pos (by omega)]; simp)⟩
theorem prs_len (L : List Rw) : (prs L).length ≤ 2 * L.length := by
  have h0 : (prs L).length ≤ (allP L).length := Nat.le_trans (compact_le _) (Nat.le_of_eq (List.length_mergeSort _))
  refine Nat.le_trans h0 ?_
  clear h0
  induction L with
  | nil => simp [allP]
  | cons x l ih =>
    have : (rowP x).length ≤ 2 := by unfold rowP; split <;> split <;> simp
    simp only [allP, List.flatMap_cons, List.length_append, List.length_cons] at ih ⊢
    omega
end Go.Idl
