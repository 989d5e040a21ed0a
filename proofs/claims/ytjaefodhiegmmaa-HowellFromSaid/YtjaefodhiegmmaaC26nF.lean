import Derived.Test.YtjaefodhiegmmaaC26nA
namespace Go.Idl
set_option linter.all false
open Go.Proofs
set_option maxHeartbeats 4000000
set_option maxRecDepth 20000
def w64 (n : Int) : Int := IntKind.i64.wrap n
/-- How often a pair has the number. -/
def hits (n k what : Int) (p : Int × Int) : Int :=
  (if what = 0 ∧ p.1 = k then 1 else 0) + (if what = 0 ∧ p.2 = k then 1 else 0) + (if what = 1 ∧ (w64 (w64 (p.1 + n) - p.2)).tmod n = k then 1 else 0) + (if what = 1 ∧ (w64 (w64 (p.2 + n) - p.1)).tmod n = k then 1 else 0) + (if what = 2 ∧ (w64 (p.1 + p.2)).tmod n = k then 1 else 0)
def timesI (n k what : Int) (l : List (Int × Int)) : Int := (l.map (hits n k what)).sum
theorem times_bd (n k what : Int) (l : List (Int × Int)) : 0 ≤ timesI n k what l ∧ timesI n k what l ≤ 5 * l.length := by
  induction l with
  | nil => simp [timesI]
  | cons p l ih =>
    have : 0 ≤ hits n k what p ∧ hits n k what p ≤ 5 := by unfold hits; omega
    simp only [timesI, List.map_cons, List.sum_cons, List.length_cons] at *
    omega
theorem times_fun (n k what : Int) (l : List (Int × Int)) (hl : l.length ≤ 2 ^ 32) (hn : n ≠ 0) : IFun true Try.prog [] 40 [.int .i64 n, .fz 2 (prs l), .int .i64 k, .int .i64 what] (fun v => v = .int .i64 (timesI n k what l)) := by
  refine IFun.of_body false 9 [9, 10, 11, 12, 16, 35, 44, 59, 74, 87] Try.func40 rfl Try.call40 rfl fun R hR => ?_
  simp [go_sem]
  refine IWp.loopE (α := Nat) (fun i => (⟨false, 91, 9, [9, 10, 11, 12, 16, 35, 44, 59, 74, 87], [], [(0, .int .i64 n), (1, .fz 2 (prs l)), (2, .int .i64 k), (3, .int .i64 what), (9, .int .i64 (timesI n k what (l.take i))), (10, .int .i64 i)], []⟩, [])) (fun i => i ≤ l.length) (fun i => l.length - i) 0 (by omega) (by simp [go_sem, timesI]) ?_
  intro i hi
  by_cases h : i < l.length
  · have hb := times_bd n k what (l.take i)
    have hlen : (l.take i).length = i := by simp; omega
    have hs : timesI n k what (l.take (i + 1)) = timesI n k what (l.take i) + hits n k what l[i] := by
      rw [List.take_succ_eq_append_getElem h]; simp only [timesI, List.map_append, List.map_cons, List.map_nil, List.sum_append, List.sum_cons, List.sum_nil, Int.add_zero]
    rw [hlen] at hb
    simp [go_sem, hasP44, sizeP44, aggP44, hasP3, sizeP3, aggP3, h, hn]
    refine ⟨by decide +kernel, ?_⟩
    have fin : ∀ m, m = timesI n k what (l.take i) + hits n k what l[i] → ∃ y : Nat, (m = timesI n k what (l.take y) ∧ IntKind.i64.wrap (↑i + 1) = ↑y) ∧ y ≤ l.length ∧ l.length - y < l.length - i := fun m hm => ⟨i + 1, ⟨by rw [hm, hs], by rw [wrap64 (by omega) (by omega)]; rfl⟩, by omega, by omega⟩
    unfold hits w64 at fin
    have ws : ∀ c, 0 ≤ c → c ≤ 2 ^ 40 → IntKind.i64.wrap c = c := fun c h1 h2 => wrap64 (by omega) (by omega)
    repeat' split
    all_goals
      apply fin
      repeat (first | rw [if_pos ‹_›] | rw [if_neg ‹_›])
      try simp (disch := omega) only [ws]
    all_goals (try omega)
  · simp [go_sem, h]
    have : i = l.length := by omega
    subst this
    exact hR _ _ _ (.int _ _) (by simp)
end Go.Idl
