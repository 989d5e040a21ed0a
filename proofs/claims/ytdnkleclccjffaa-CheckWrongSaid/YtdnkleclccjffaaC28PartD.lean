/-
  The verifier's kit: rows kept; lists overwritten.
  slices.Equal at []int.
  The verifier's kit: sessions.
-/
import Derived.Test.YtdnkleclccjffaaC28PartC
namespace Go.Idl
set_option linter.all false
open Go.Proofs
set_option maxHeartbeats 4000000
set_option maxRecDepth 40000

theorem keptRows_calls (l : List Rw) (hl : l.length ≤ 2 ^ 32) : ICalls Try.prog [] 92 [.sl 0 (l.length + 12) 0 l.length (some (l.length + 12)), .fz 5 (rws l)] [lentO l] (fun v σ => v = .bool true ∧ σ = [lentO l]) := by
  refine ICalls.of_bodyE false 7 [11, 20, 57] Try.func92 rfl Try.call92 rfl fun R hR => ?_
  have w1 : IntKind.i64.wrap ((l.length : Int) + 12) = ((l.length + 12 : Nat) : Int) := by rw [wrap64 (by omega) (by omega)]; rfl
  obtain ⟨N, hN⟩ : ∃ N, l.length + 12 = N := ⟨_, rfl⟩
  obtain ⟨L, hL⟩ : ∃ L, rws (l ++ mks 12) = L := ⟨_, rfl⟩
  have hLl : L.length = N := by rw [← hL]; simp; omega
  have hLN : l.length ≤ N := by omega
  have hBl : BlR 1 L := by rw [← hL]; simp [go_sem]
  rw [hN] at w1
  simp [go_sem, w1, hLN, hN, hL, hLl, lentO]
  refine IWp.loopT (α := Nat) (fun i => (⟨false, 58, 7, [11, 20, 57], [], [(1, .fz 5 (rws l)), (5, .sl 0 N 0 N (some N)), (6, .int .i64 (i : Int))], []⟩, [.rows 5 L]))
    (fun i => i ≤ N) (fun i => N - i) 0 (by simp) (by simp [go_sem, ← hL]) ?_
  intro i hi
  by_cases h : i < N
  · have w2 : IntKind.i64.wrap ((i : Int) + 1) = i + 1 := wrap64 (by omega) (by omega)
    have hlt : (i : Int) < N := by omega
    by_cases hx : i < l.length
    · have hx' : (i : Int) < l.length := by omega
      have e1 : ∀ hh : i < L.length, L[i] = [.int .i64 l[i].r, .int .i64 l[i].t, .int .i64 l[i].ns, .int .i64 l[i].ew, .int .i64 l[i].s] := fun hh => by
        subst hL; simp [List.getElem_append_left hx]
      have hx3 : ¬ l.length ≤ i := by omega
      simp [go_sem, hlt, h, hLl]
      refine Drawn.intro (fun k => .tup []) ?_
      simp [go_sem, hx, hx', hx3, hLl, h, e1, hBl, w2]
      exact ⟨by decide +kernel, i + 1, rfl, by omega, by omega⟩
    · have hx' : ¬ (i : Int) < l.length := by omega
      have hx3 : l.length ≤ i := by omega
      obtain ⟨j, hj⟩ : ∃ j, i = l.length + j := ⟨i - l.length, by omega⟩
      have hj12 : j < 12 := by omega
      have w3 : IntKind.i64.wrap ((i : Int) - l.length) = j := by rw [wrap64 (by omega) (by omega)]; omega
      have c := markRow_fun 1 (j : Int) (by omega) (by omega)
      have e1 : ∀ hh : i < L.length, L[i] = [.int .i64 0, .int .i64 0, .int .i64 (8000024 + j), .int .i64 0, .int .i64 0] := fun hh => by
        subst hL; subst hj
        simp [List.getElem_append_right, mks, mkR]
      simp [go_sem, hlt, h, hLl]
      refine Drawn.intro (fun k => if k = 30 then (mkR 1 j).v else .tup []) ?_
      simp [go_sem, hx, hx', hx3, hLl, h, e1, hBl, w2, w3, Rw.v, mkR]
      exact ⟨.inl (by simpa [Rw.v, mkR] using c), by decide +kernel, i + 1, rfl, by omega, by omega⟩
  · have : i = N := by omega
    subst this
    simp [go_sem, hLl]
    exact hR _ _ ⟨rfl, by simp [lentO, hL]⟩
theorem keptMovement_calls (m : Mv) (hl : m.rows.length ≤ 2 ^ 32) : ICalls Try.prog [] 65 [m.o 0, m.v] [lentO m.rows] (fun v σ => v = .bool true ∧ σ = [lentO m.rows]) := by
  refine ICalls.forget (ICalls.of_bodyE false 5 [] Try.func65 rfl Try.call65 rfl fun R hR => ?_)
  simp [go_sem, Mv.o, Mv.v]
  refine (sameMovement_fun m m (by omega)).callF (by simp [go_sem, Mv.v, lentO, cutR]) ?_
  rintro _ rfl
  simp [go_sem]
  refine (keptRows_calls m.rows hl).at [0] (by simp [go_sem]) ?_
  rintro _ _ ⟨rfl, rfl⟩
  simp [go_sem]
  refine hR _ _ ⟨[lentO m.rows], ?_, rfl, rfl⟩
  simp [go_sem]
/-! ### lists overwritten -/
def JR (L : List (List IV)) : Prop := ∀ r ∈ L, r.length = 1
theorem junk_len {c : Nat} : (List.replicate c [IV.junk]).length = c := by simp
theorem overInts_lone (n c : Nat) (hc : n ≤ c) (hn : n ≤ 2 ^ 40) : ICalls Try.prog [] 40 [.sl 0 c 0 n (some c)] [.rows 1 (List.replicate c [.junk])] (fun v _ => v = .tup []) := by
  refine ICalls.of_bodyE false 4 [15] Try.func40 rfl Try.call40 rfl fun R hR => ?_
  have w1 : IntKind.i64.wrap ((n : Int) + 12) = ((n + 12 : Nat) : Int) := by rw [wrap64 (by omega) (by omega)]; rfl
  obtain ⟨N, hN⟩ : ∃ N, n + 12 = N := ⟨_, rfl⟩
  rw [hN] at w1
  obtain ⟨A, hA, hAc, hAN⟩ : ∃ A : Nat, (if N < c then (N : Int) else (c : Int)) = (A : Int) ∧ A ≤ c ∧ A ≤ N := by
    by_cases h : N < c
    · exact ⟨N, by rw [if_pos h], by omega, by omega⟩
    · exact ⟨c, by rw [if_neg h], by omega, by omega⟩
  simp [go_sem, w1, hA, hAc]
  refine IWp.loopT (α := Nat × List (List IV)) (fun x => (⟨false, 23, 4, [15], [], [(2, .sl 0 c 0 A (some c)), (3, .int .i64 (x.1 : Int))], []⟩, [.rows 1 x.2]))
    (fun x => x.1 ≤ A ∧ x.2.length = c ∧ ∀ r ∈ x.2, r.length = 1 ∧ ∀ y ∈ r, Bl 1 y) (fun x => A - x.1) (0, List.replicate c [.junk]) ⟨by omega, by simp, fun r hr => by rw [(List.mem_replicate.1 hr).2]; simp [go_sem]⟩ (by simp [go_sem]; exact fun r hr y hy => by rw [(List.mem_replicate.1 hr).2] at hy; simp at hy; rw [hy]; exact .junk) ?_
  rintro ⟨i, L⟩ ⟨hi, hL, hr⟩
  simp only at hi hL hr
  have hBl : BlR 1 L := fun r h y hy => (hr r h).2 y hy
  by_cases h : i < A
  · have w2 : IntKind.i64.wrap ((i : Int) + 1) = i + 1 := wrap64 (by omega) (by omega)
    have hic : i < c := by omega
    have hLi := (hr L[i] (List.getElem_mem (by omega))).1
    have hAL : A ≤ L.length := by omega
    simp [go_sem, h, hL, hAL]
    refine (mark_fun 2 i (by omega) (by omega)).callF (by simp [go_sem]) ?_
    rintro _ rfl
    have e1 : L[i].tail = [] := List.eq_nil_of_length_eq_zero (by rw [List.length_tail]; omega)
    simp [go_sem, w2, hL, hic, h, hLi, e1]
    have hset : ∀ r ∈ L.set i [IV.int .i64 (9000027 + i)], r.length = 1 ∧ ∀ y ∈ r, Bl 1 y := fun r hr' => by
      rcases List.mem_or_eq_of_mem_set hr' with h1 | rfl
      · exact hr r h1
      · simp [go_sem]
    exact ⟨hAc, i + 1, _, ⟨by omega, rfl, fun r h1 y hy => (hset r h1).2 y hy⟩, ⟨by omega, by simp [hL], hset⟩, by omega⟩
  · have : i = A := by omega
    subst this
    simp [go_sem, hL]
    exact hR _ _ rfl
/-- A list of integers of one's own, overwritten: it is dead behind it. -/
theorem overInts_calls {σ : Heap} {K : IV → Heap → Prop} {b tot i n : Nat} {cap : Option Nat} {rs : List (List IV)} (hb : σ[b]? = some (.rows 1 rs)) (ht : tot = rs.length) (hn : n ≤ 2 ^ 40) (hK : K (.tup []) (hput σ b .dead)) : ICalls Try.prog [] 40 [.sl b tot i n cap] σ K :=
  ICalls.over hb ht (fun g c e => by simp [eget] at e) (fun c hc => overInts_lone n c hc hn) hK
end Go.Idl
namespace Go.Idl
set_option linter.all false
open Go.Proofs
set_option maxHeartbeats 4000000
set_option maxRecDepth 40000

theorem equalInts_fun (a b : List Int) (ha : a.length ≤ 2 ^ 62) : FN 42 [.fz 1 (ints a), .fz 1 (ints b)] (fun v => v = .bool (decide (a = b))) := by
  refine IFun.of_bodyZ false 6 [10, 12, 13, 14, 24] Try.func42 rfl Try.call42 rfl fun R hR => ?_
  by_cases hlen : a.length = b.length
  case neg =>
    have hI : ¬ (a.length : Int) = b.length := by omega
    have e : ¬ a = b := fun e => hlen (by rw [e])
    simp [go_sem, hlen, hI]
    exact hR _ _ _ rfl (by simp [go_sem, e])
  simp [go_sem, hlen]
  refine IWp.loopT (α := Nat) (fun i => (⟨false, 26, 6, [10, 12, 13, 14, 24], [], [(0, .fz 1 (ints a)), (1, .fz 1 (ints b)), (12, .int .i64 b.length), (13, .int .i64 (i : Int))], []⟩, []))
    (fun i => i ≤ a.length ∧ a.take i = b.take i) (fun i => a.length - i) 0 (by simp) (by simp [go_sem]) ?_
  rintro i ⟨hi, he⟩
  by_cases h : i < a.length
  · have h' : i < b.length := by omega
    have w1 : IntKind.i64.wrap ((i : Int) + 1) = i + 1 := wrap64 (by omega) (by omega)
    by_cases hxy : a[i] = b[i]
    · simp [go_sem, h, h', hxy, w1]
      exact ⟨by decide +kernel, i + 1, by omega, ⟨by omega, by rw [List.take_succ_eq_append_getElem h, List.take_succ_eq_append_getElem h', he, hxy]⟩, by omega⟩
    · have e : ¬ a = b := fun e => hxy (by subst e; rfl)
      simp [go_sem, h, h', hxy]
      exact ⟨by decide +kernel, hR _ _ _ rfl (by simp [go_sem, e])⟩
  · have e : a = b := by
      rw [List.take_of_length_le (by omega), List.take_of_length_le (by omega)] at he
      exact he
    have h' : ¬ i < b.length := by omega
    simp [go_sem, h, h']
    exact hR _ _ _ rfl (by simp [go_sem, e])
end Go.Idl
namespace Go.Idl
set_option linter.all false
open Go.Proofs
set_option maxHeartbeats 4000000
set_option maxRecDepth 40000

theorem lentSession_calls (m : Mv) (boards : Int) (hl : m.rows.length ≤ 2 ^ 32) : ICalls Try.prog [] 31 [sesV m boards] [] (fun v σ => v = sesO m boards 4 ∧ σ = [.dead, .dead, .dead, .dead, lentO m.rows]) := by
  refine ICalls.forget (ICalls.of_bodyE true 3 [] Try.func31 rfl Try.call31 rfl fun R hR => ?_)
  simp [go_sem, sesV]
  refine (lentMovement_calls m hl).at [] (by simp [go_sem, Mv.v]) ?_
  rintro _ _ ⟨rfl, rfl⟩
  simp [go_sem, Mv.o]
  refine hR _ _ ⟨[.dead, .dead, .dead, .dead, lentO m.rows], ?_, rfl, rfl⟩
  simp [go_sem, sesO]
theorem sameSession_fun (a b : Mv) (x y : Int) (ha : a.rows.length ≤ 2 ^ 62) : FN 64 [sesV a x, sesV b y] (fun v => v = .bool (decide (a = b) && x == y)) := by
  refine IFun.of_bodyZ false 5 [] Try.func64 rfl Try.call64 rfl fun R hR => ?_
  simp [go_sem, sesV]
  refine (sameMovement_fun a b ha).callF (by simp [go_sem, Mv.v]) ?_
  rintro _ rfl
  by_cases he : a = b
  · simp [go_sem, he]
    exact hR _ _ _ rfl (by simp [go_sem, he])
  · simp [go_sem, he]
    exact hR _ _ _ rfl (by simp [go_sem, he])
theorem keptSession_calls (m : Mv) (boards : Int) (hl : m.rows.length ≤ 2 ^ 32) : ICalls Try.prog [] 41 [sesO m boards 0, sesV m boards] [lentO m.rows] (fun v σ => v = .bool true ∧ σ = [lentO m.rows]) := by
  refine ICalls.forget (ICalls.of_bodyE false 5 [] Try.func41 rfl Try.call41 rfl fun R hR => ?_)
  simp [go_sem, sesO, sesV]
  refine (sameSession_fun m m boards boards (by omega)).callF (by simp [go_sem, sesV, lentO, cutR]) ?_
  rintro _ rfl
  simp [go_sem]
  refine (keptMovement_calls m hl).at [0] (by simp [go_sem, Mv.o, Mv.v]) ?_
  rintro _ _ ⟨rfl, rfl⟩
  simp [go_sem]
  refine hR _ _ ⟨[lentO m.rows], ?_, rfl, rfl⟩
  simp [go_sem]
end Go.Idl
