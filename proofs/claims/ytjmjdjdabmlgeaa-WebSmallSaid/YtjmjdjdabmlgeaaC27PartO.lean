/-
  The verifier's kit: mark, SameInts.
  The verifier's kit: rows lent.
  The verifier's kit: rows kept; lists overwritten.
-/
import Derived.Test.YtjmjdjdabmlgeaaC27PartB
namespace Go.Idl
set_option linter.all false
open Go.Proofs
set_option maxHeartbeats 4000000
set_option maxRecDepth 40000

theorem mark_fun (k i : Int) (hk : 0 ≤ k ∧ k ≤ 10) (hi : 0 ≤ i ∧ i < 2 ^ 60) : FN 56 [.int .i64 k, .int .i64 i] (fun v => v = .int .i64 (1000003 * (k + 7) + i)) := by
  refine IFun.of_bodyZ false 5 [] Try.func56 rfl Try.call56 rfl fun R hR => ?_
  have w1 : IntKind.i64.wrap (k + 7) = k + 7 := wrap64 (by omega) (by omega)
  have w2 : IntKind.i64.wrap (1000003 * (k + 7)) = 1000003 * (k + 7) := wrap64 (by omega) (by omega)
  have w3 : IntKind.i64.wrap (1000003 * (k + 7) + i) = 1000003 * (k + 7) + i := wrap64 (by omega) (by omega)
  simp [go_sem, w1, w2, w3]
  exact hR _ _ _ rfl (by simp [go_sem])
theorem sameInts_fun (a b : List Int) (ha : a.length ≤ 2 ^ 62) : FN 32 [.fz 1 (ints a), .fz 1 (ints b)] (fun v => v = .bool (decide (a = b))) := by
  refine IFun.of_bodyZ false 6 [10, 14, 25] Try.func32 rfl Try.call32 rfl fun R hR => ?_
  by_cases hlen : a.length = b.length
  case neg =>
    have hI : ¬ (a.length : Int) = b.length := by omega
    have e : ¬ a = b := fun e => hlen (by rw [e])
    simp [go_sem, hlen, hI]
    exact hR _ _ _ rfl (by simp [go_sem, e])
  simp [go_sem, hlen]
  refine IWp.loopT (α := Nat) (fun i => (⟨false, 26, 6, [10, 14, 25], [], [(0, .fz 1 (ints a)), (1, .fz 1 (ints b)), (5, .int .i64 (i : Int))], []⟩, []))
    (fun i => i ≤ a.length ∧ a.take i = b.take i) (fun i => a.length - i) 0 (by simp) (by simp [go_sem]) ?_
  rintro i ⟨hi, he⟩
  by_cases h : i < a.length
  · have h' : i < b.length := by omega
    have w1 : IntKind.i64.wrap ((i : Int) + 1) = i + 1 := wrap64 (by omega) (by omega)
    by_cases hxy : a[i] = b[i]
    · simp [go_sem, h, h', hxy, w1]
      exact ⟨by decide +kernel, i + 1, by omega, ⟨by omega, by rw [List.take_succ_eq_append_getElem h, List.take_succ_eq_append_getElem h', he, hxy]⟩, by omega⟩
    · have e : ¬ a = b := fun e => hxy (by subst e; rfl)
      simp [go_sem, h, h', hxy]
      exact ⟨by decide +kernel, hR _ _ _ rfl (by simp [go_sem, e])⟩
  · have e : a = b := by
      rw [List.take_of_length_le (by omega), List.take_of_length_le (by omega)] at he
      exact he
    have h' : ¬ i < b.length := by omega
    simp [go_sem, h, h']
    exact hR _ _ _ rfl (by simp [go_sem, e])
end Go.Idl
namespace Go.Idl
set_option linter.all false
open Go.Proofs
set_option maxHeartbeats 4000000
set_option maxRecDepth 40000

def mkR (k i : Int) : Rw := ⟨0, 0, 1000003 * (k + 7) + i, 0, 0⟩
def mks (n : Nat) : List Rw := (List.range n).map fun i : Nat => mkR 1 i
theorem mks_succ (n : Nat) : mks (n + 1) = mks n ++ [mkR 1 n] := by simp [mks, List.range_succ]
@[simp] theorem mks_length (n : Nat) : (mks n).length = n := by simp [mks]
def zR : Rw := ⟨0, 0, 0, 0, 0⟩
theorem markRow_fun (k i : Int) (hk : 0 ≤ k ∧ k ≤ 10) (hi : 0 ≤ i ∧ i < 2 ^ 60) : FN 65 [.int .i64 k, .int .i64 i] (fun v => v = (mkR k i).v) := by
  refine IFun.of_bodyZ false 5 [] Try.func65 rfl Try.call65 rfl fun R hR => ?_
  simp [go_sem]
  refine (mark_fun k i hk hi).callF (by simp [go_sem]) ?_
  rintro _ rfl
  simp [go_sem]
  exact hR _ _ _ rfl (by simp [go_sem, mkR, Rw.v])

theorem lentRows_calls (l : List Rw) (hl : l.length ≤ 2 ^ 32) : ICalls Try.prog [] 52 [.fz 5 (rws l)] [] (fun v σ => v = .sl 0 (l.length + 12) 0 l.length (some (l.length + 12)) ∧ σ = [.rows 5 (rws (l ++ mks 12))]) := by
  refine ICalls.forget (ICalls.of_bodyE true 5 [13] Try.func52 rfl Try.call52 rfl fun R hR => ?_)
  have w1 : IntKind.i64.wrap ((l.length : Int) + 12) = ((l.length + 12 : Nat) : Int) := by rw [wrap64 (by omega) (by omega)]; rfl
  obtain ⟨N, hN⟩ : ∃ N, l.length + 12 = N := ⟨_, rfl⟩
  rw [hN] at w1
  have hLN : l.length ≤ N := by omega
  have hsub : N - l.length = 12 := by omega
  simp [go_sem, w1, hLN, hsub]
  refine ⟨by omega, fun r hr => rws_one r hr, ?_⟩
  refine IWp.loopT (α := Nat) (fun i => (⟨true, 25, 5, [13], [], [(0, .fz 5 (rws l)), (2, .nils), (3, .sl 0 N 0 (l.length + i) (some N)), (4, .int .i64 (i : Int))], []⟩, [.rows 5 (rws (l ++ (mks i ++ List.replicate (12 - i) zR)))]))
    (fun i => i ≤ 12) (fun i => 12 - i) 0 (by simp) (by simp [go_sem, rws_append, mks, rws_cons, zR]) ?_
  intro i hi
  by_cases h : i < 12
  · have h' : (i : Int) < 12 := by omega
    have w2 : IntKind.i64.wrap ((i : Int) + 1) = i + 1 := wrap64 (by omega) (by omega)
    have hr : l.length + i + 1 ≤ N := by omega
    have e1 : (rws (l ++ (mks i ++ List.replicate (12 - i) zR))).take (l.length + i) = rws (l ++ mks i) := by
      rw [← rws_take, ← List.append_assoc, List.take_append_of_le_length (by simp), List.take_of_length_le (by simp)]
    have e2 : (rws (l ++ (mks i ++ List.replicate (12 - i) zR))).drop (l.length + i + 1) = rws (List.replicate (12 - (i + 1)) zR) := by
      rw [← rws_drop, ← List.append_assoc, List.drop_append, List.drop_of_length_le (by simp), List.nil_append, List.drop_replicate]
      congr 2; simp; try omega
    have e3 : l.length + (mks i).length + (12 - i) = N := by simp; omega
    obtain ⟨L, hL⟩ : ∃ L, rws (l ++ (mks i ++ List.replicate (12 - i) zR)) = L := ⟨_, rfl⟩
    have hLl : L.length = N := by rw [← hL]; simp; omega
    obtain ⟨J, hJ⟩ : ∃ J, l.length + i = J := ⟨_, rfl⟩
    simp only [hL, hJ] at e1 e2 hr ⊢
    simp [go_sem, h', hL, hJ]
    refine (markRow_fun 1 i (by omega) (by omega)).callF (by simp [go_sem]) ?_
    rintro _ rfl
    simp [go_sem, w2, hr, Rw.v, mkR, hLl, e1, e2]
    refine ⟨i + 1, ⟨⟨by omega, rfl⟩, ?_⟩, by omega, by omega⟩
    rw [mks_succ, rws_append, rws_append, rws_append, rws_append]
    simp [rws_cons, mkR, go_sem, show 12 - (i + 1) = 11 - i by omega]
  · have : i = 12 := by omega
    subst this
    have e : (l ++ (mks 12 ++ List.replicate (12 - 12) zR)) = l ++ mks 12 := by simp
    have e' : N = l.length + 12 := hN.symm
    subst e'
    simp [go_sem]
    refine ⟨by omega, hR _ _ ⟨[.rows 5 (rws (l ++ mks 12))], ?_, rfl, rfl⟩⟩
    simp [go_sem, e]

/-- A movement whose rows lie in block b, with room behind them. -/
def Mv.o (m : Mv) (b : Nat) : IV := .agg [.int .i64 m.tables, .int .i64 m.rounds, .int .i64 m.sets, .int .i64 m.copies, .int .i64 m.winners, .sl b (m.rows.length + 12) 0 m.rows.length (some (m.rows.length + 12))]
def sesO (m : Mv) (boards : Int) (b : Nat) : IV := .agg [.int .i64 m.tables, .int .i64 m.rounds, .int .i64 m.sets, .int .i64 m.copies, .int .i64 m.winners, .sl b (m.rows.length + 12) 0 m.rows.length (some (m.rows.length + 12)), .int .i64 boards]
def lentO (l : List Rw) : IObj := .rows 5 (rws (l ++ mks 12))
theorem lentMovement_calls (m : Mv) (hl : m.rows.length ≤ 2 ^ 32) : ICalls Try.prog [] 31 [m.v] [] (fun v σ => v = m.o 2 ∧ σ = [.dead, .dead, lentO m.rows]) := by
  refine ICalls.forget (ICalls.of_bodyE true 3 [] Try.func31 rfl Try.call31 rfl fun R hR => ?_)
  simp [go_sem, Mv.v]
  refine (lentRows_calls m.rows hl).at [] (by simp [go_sem]) ?_
  rintro _ _ ⟨rfl, rfl⟩
  simp [go_sem]
  refine hR _ _ ⟨[.dead, .dead, lentO m.rows], ?_, rfl, rfl⟩
  simp [go_sem, lentO, Mv.o]
@[go_sem] theorem lent_take {l m : List Rw} : List.take l.length (rws (l ++ m)) = rws l := by rw [← rws_take]; simp
@[go_sem] theorem lent_cut {l m : List Rw} : cutR 0 l.length (rws (l ++ m)) = rws l := by simp [cutR, lent_take]
@[go_sem] theorem lentO_plO {l : List Rw} : plO (lentO l) = true := rfl
@[go_sem] theorem lentO_pl {l : List Rw} : plD (lentO l) = true := rfl
@[go_sem] theorem lentO_ren {π : Nat → Nat} {l : List Rw} : renO π (lentO l) = lentO l := by simp [lentO, go_sem]
@[go_sem] theorem lentO_bl {n : Nat} {l : List Rw} : ObBl n (lentO l) = True := by simp [lentO, go_sem]
/-! ### equality -/
theorem sameRows_fun (a b : List Rw) (ha : a.length ≤ 2 ^ 62) : FN 43 [.fz 5 (rws a), .fz 5 (rws b)] (fun v => v = .bool (decide (a = b))) := by
  refine IFun.of_bodyZ false 6 [10, 14, 25] Try.func43 rfl Try.call43 rfl fun R hR => ?_
  by_cases hlen : a.length = b.length
  case neg =>
    have hI : ¬ (a.length : Int) = b.length := by omega
    have e : ¬ a = b := fun e => hlen (by rw [e])
    simp [go_sem, hlen, hI]
    exact hR _ _ _ rfl (by simp [go_sem, e])
  simp [go_sem, hlen]
  refine IWp.loopT (α := Nat) (fun i => (⟨false, 26, 6, [10, 14, 25], [], [(0, .fz 5 (rws a)), (1, .fz 5 (rws b)), (5, .int .i64 (i : Int))], []⟩, []))
    (fun i => i ≤ a.length ∧ a.take i = b.take i) (fun i => a.length - i) 0 (by simp) (by simp [go_sem]) ?_
  rintro i ⟨hi, he⟩
  by_cases h : i < a.length
  · have h' : i < b.length := by omega
    have w1 : IntKind.i64.wrap ((i : Int) + 1) = i + 1 := wrap64 (by omega) (by omega)
    have hx : (a[i] = b[i]) ↔ (a[i].r = b[i].r ∧ a[i].t = b[i].t ∧ a[i].ns = b[i].ns ∧ a[i].ew = b[i].ew ∧ a[i].s = b[i].s) := by
      cases a[i]; cases b[i]; simp
    by_cases hxy : a[i] = b[i]
    · simp [go_sem, h, h', hxy, w1]
      exact ⟨by decide +kernel, i + 1, by omega, ⟨by omega, by rw [List.take_succ_eq_append_getElem h, List.take_succ_eq_append_getElem h', he, hxy]⟩, by omega⟩
    · have e : ¬ a = b := fun e => hxy (by subst e; rfl)
      have hc : (a[i].r == b[i].r && (a[i].t == b[i].t && (a[i].ns == b[i].ns && (a[i].ew == b[i].ew && a[i].s == b[i].s)))) = false := by
        rw [← Bool.not_eq_true]; intro hh; apply hxy; rw [hx]; simpa using hh
      simp [go_sem, h, h', hc]
      exact ⟨by decide +kernel, hR _ _ _ rfl (by simp [go_sem, e])⟩
  · have e : a = b := by
      rw [List.take_of_length_le (by omega), List.take_of_length_le (by omega)] at he
      exact he
    have h' : ¬ i < b.length := by omega
    simp [go_sem, h, h']
    exact hR _ _ _ rfl (by simp [go_sem, e])
theorem mv_eq {a b : Mv} : (a = b) ↔ (a.tables = b.tables ∧ a.rounds = b.rounds ∧ a.sets = b.sets ∧ a.copies = b.copies ∧ a.winners = b.winners ∧ a.rows = b.rows) := by
  cases a; cases b; simp
theorem sameMovement_fun (a b : Mv) (ha : a.rows.length ≤ 2 ^ 62) : FN 19 [a.v, b.v] (fun v => v = .bool (decide (a = b))) := by
  refine IFun.of_bodyZ false 5 [] Try.func19 rfl Try.call19 rfl fun R hR => ?_
  simp [go_sem, Mv.v]
  by_cases hc : (((a.tables = b.tables ∧ a.rounds = b.rounds) ∧ a.sets = b.sets) ∧ a.copies = b.copies) ∧ a.winners = b.winners
  · have he : (a = b) ↔ a.rows = b.rows := by rw [mv_eq]; simp [hc]
    obtain ⟨⟨⟨⟨h1, h2⟩, h3⟩, h4⟩, h5⟩ := hc
    simp only [h1, h2, h3, h4, h5]
    simp [go_sem]
    refine (sameRows_fun a.rows b.rows ha).callF (by simp [go_sem]) ?_
    rintro _ rfl
    simp [go_sem]
    exact hR _ _ _ rfl (by simp [go_sem, he])
  · rw [if_neg hc]
    have he : ¬ a = b := fun e => hc (by subst e; simp)
    exact ⟨by simpa using hc, hR _ _ _ rfl (by simp [go_sem, he])⟩
end Go.Idl
namespace Go.Idl
set_option linter.all false
open Go.Proofs
set_option maxHeartbeats 4000000
set_option maxRecDepth 40000

theorem keptRows_calls (l : List Rw) (hl : l.length ≤ 2 ^ 32) : ICalls Try.prog [] 57 [.sl 0 (l.length + 12) 0 l.length (some (l.length + 12)), .fz 5 (rws l)] [lentO l] (fun v σ => v = .bool true ∧ σ = [lentO l]) := by
  refine ICalls.of_bodyE false 7 [11, 20, 57] Try.func57 rfl Try.call57 rfl fun R hR => ?_
  have w1 : IntKind.i64.wrap ((l.length : Int) + 12) = ((l.length + 12 : Nat) : Int) := by rw [wrap64 (by omega) (by omega)]; rfl
  obtain ⟨N, hN⟩ : ∃ N, l.length + 12 = N := ⟨_, rfl⟩
  obtain ⟨L, hL⟩ : ∃ L, rws (l ++ mks 12) = L := ⟨_, rfl⟩
  have hLl : L.length = N := by rw [← hL]; simp; omega
  have hLN : l.length ≤ N := by omega
  have hBl : BlR 1 L := by rw [← hL]; simp [go_sem]
  rw [hN] at w1
  simp [go_sem, w1, hLN, hN, hL, hLl, lentO]
  refine IWp.loopT (α := Nat) (fun i => (⟨false, 58, 7, [11, 20, 57], [], [(1, .fz 5 (rws l)), (5, .sl 0 N 0 N (some N)), (6, .int .i64 (i : Int))], []⟩, [.rows 5 L]))
    (fun i => i ≤ N) (fun i => N - i) 0 (by simp) (by simp [go_sem, ← hL]) ?_
  intro i hi
  by_cases h : i < N
  · have w2 : IntKind.i64.wrap ((i : Int) + 1) = i + 1 := wrap64 (by omega) (by omega)
    have hlt : (i : Int) < N := by omega
    by_cases hx : i < l.length
    · have hx' : (i : Int) < l.length := by omega
      have e1 : ∀ hh : i < L.length, L[i] = [.int .i64 l[i].r, .int .i64 l[i].t, .int .i64 l[i].ns, .int .i64 l[i].ew, .int .i64 l[i].s] := fun hh => by
        subst hL; simp [List.getElem_append_left hx]
      have hx3 : ¬ l.length ≤ i := by omega
      simp [go_sem, hlt, h, hLl]
      refine Drawn.intro (fun k => .tup []) ?_
      simp [go_sem, hx, hx', hx3, hLl, h, e1, hBl, w2]
      exact ⟨by decide +kernel, i + 1, rfl, by omega, by omega⟩
    · have hx' : ¬ (i : Int) < l.length := by omega
      have hx3 : l.length ≤ i := by omega
      obtain ⟨j, hj⟩ : ∃ j, i = l.length + j := ⟨i - l.length, by omega⟩
      have hj12 : j < 12 := by omega
      have w3 : IntKind.i64.wrap ((i : Int) - l.length) = j := by rw [wrap64 (by omega) (by omega)]; omega
      have c := markRow_fun 1 (j : Int) (by omega) (by omega)
      have e1 : ∀ hh : i < L.length, L[i] = [.int .i64 0, .int .i64 0, .int .i64 (8000024 + j), .int .i64 0, .int .i64 0] := fun hh => by
        subst hL; subst hj
        simp [List.getElem_append_right, mks, mkR]
      simp [go_sem, hlt, h, hLl]
      refine Drawn.intro (fun k => if k = 30 then (mkR 1 j).v else .tup []) ?_
      simp [go_sem, hx, hx', hx3, hLl, h, e1, hBl, w2, w3, Rw.v, mkR]
      exact ⟨.inl (by simpa [Rw.v, mkR] using c), by decide +kernel, i + 1, rfl, by omega, by omega⟩
  · have : i = N := by omega
    subst this
    simp [go_sem, hLl]
    exact hR _ _ ⟨rfl, by simp [lentO, hL]⟩
theorem keptMovement_calls (m : Mv) (hl : m.rows.length ≤ 2 ^ 32) : ICalls Try.prog [] 39 [m.o 0, m.v] [lentO m.rows] (fun v σ => v = .bool true ∧ σ = [lentO m.rows]) := by
  refine ICalls.forget (ICalls.of_bodyE false 5 [] Try.func39 rfl Try.call39 rfl fun R hR => ?_)
  simp [go_sem, Mv.o, Mv.v]
  refine (sameMovement_fun m m (by omega)).callF (by simp [go_sem, Mv.v, lentO, cutR]) ?_
  rintro _ rfl
  simp [go_sem]
  refine (keptRows_calls m.rows hl).at [0] (by simp [go_sem]) ?_
  rintro _ _ ⟨rfl, rfl⟩
  simp [go_sem]
  refine hR _ _ ⟨[lentO m.rows], ?_, rfl, rfl⟩
  simp [go_sem]
/-! ### lists overwritten -/
def JR (L : List (List IV)) : Prop := ∀ r ∈ L, r.length = 1
theorem junk_len {c : Nat} : (List.replicate c [IV.junk]).length = c := by simp
theorem overInts_lone (n c : Nat) (hc : n ≤ c) (hn : n ≤ 2 ^ 40) : ICalls Try.prog [] 38 [.sl 0 c 0 n (some c)] [.rows 1 (List.replicate c [.junk])] (fun v _ => v = .tup []) := by
  refine ICalls.of_bodyE false 4 [15] Try.func38 rfl Try.call38 rfl fun R hR => ?_
  have w1 : IntKind.i64.wrap ((n : Int) + 12) = ((n + 12 : Nat) : Int) := by rw [wrap64 (by omega) (by omega)]; rfl
  obtain ⟨N, hN⟩ : ∃ N, n + 12 = N := ⟨_, rfl⟩
  rw [hN] at w1
  obtain ⟨A, hA, hAc, hAN⟩ : ∃ A : Nat, (if N < c then (N : Int) else (c : Int)) = (A : Int) ∧ A ≤ c ∧ A ≤ N := by
    by_cases h : N < c
    · exact ⟨N, by rw [if_pos h], by omega, by omega⟩
    · exact ⟨c, by rw [if_neg h], by omega, by omega⟩
  simp [go_sem, w1, hA, hAc]
  refine IWp.loopT (α := Nat × List (List IV)) (fun x => (⟨false, 23, 4, [15], [], [(2, .sl 0 c 0 A (some c)), (3, .int .i64 (x.1 : Int))], []⟩, [.rows 1 x.2]))
    (fun x => x.1 ≤ A ∧ x.2.length = c ∧ ∀ r ∈ x.2, r.length = 1 ∧ ∀ y ∈ r, Bl 1 y) (fun x => A - x.1) (0, List.replicate c [.junk]) ⟨by omega, by simp, fun r hr => by rw [(List.mem_replicate.1 hr).2]; simp [go_sem]⟩ (by simp [go_sem]; exact fun r hr y hy => by rw [(List.mem_replicate.1 hr).2] at hy; simp at hy; rw [hy]; exact .junk) ?_
  rintro ⟨i, L⟩ ⟨hi, hL, hr⟩
  simp only at hi hL hr
  have hBl : BlR 1 L := fun r h y hy => (hr r h).2 y hy
  by_cases h : i < A
  · have w2 : IntKind.i64.wrap ((i : Int) + 1) = i + 1 := wrap64 (by omega) (by omega)
    have hic : i < c := by omega
    have hLi := (hr L[i] (List.getElem_mem (by omega))).1
    have hAL : A ≤ L.length := by omega
    simp [go_sem, h, hL, hAL]
    refine (mark_fun 2 i (by omega) (by omega)).callF (by simp [go_sem]) ?_
    rintro _ rfl
    have e1 : L[i].tail = [] := List.eq_nil_of_length_eq_zero (by rw [List.length_tail]; omega)
    simp [go_sem, w2, hL, hic, h, hLi, e1]
    have hset : ∀ r ∈ L.set i [IV.int .i64 (9000027 + i)], r.length = 1 ∧ ∀ y ∈ r, Bl 1 y := fun r hr' => by
      rcases List.mem_or_eq_of_mem_set hr' with h1 | rfl
      · exact hr r h1
      · simp [go_sem]
    exact ⟨hAc, i + 1, _, ⟨by omega, rfl, fun r h1 y hy => (hset r h1).2 y hy⟩, ⟨by omega, by simp [hL], hset⟩, by omega⟩
  · have : i = A := by omega
    subst this
    simp [go_sem, hL]
    exact hR _ _ rfl
/-- A list of integers of one's own, overwritten: it is dead behind it. -/
theorem overInts_calls {σ : Heap} {K : IV → Heap → Prop} {b tot i n : Nat} {cap : Option Nat} {rs : List (List IV)} (hb : σ[b]? = some (.rows 1 rs)) (ht : tot = rs.length) (hn : n ≤ 2 ^ 40) (hK : K (.tup []) (hput σ b .dead)) : ICalls Try.prog [] 38 [.sl b tot i n cap] σ K :=
  ICalls.over hb ht (fun g c e => by simp [eget] at e) (fun c hc => overInts_lone n c hc hn) hK
end Go.Idl
