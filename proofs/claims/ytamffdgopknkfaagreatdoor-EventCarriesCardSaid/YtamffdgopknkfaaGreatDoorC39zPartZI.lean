/-
  The verifier's kit: lists of integers lent, and looked at again.
  Chapter 39: tells.
-/
import Derived.Test.YtamffdgopknkfaaGreatDoorC39zPartB
import Derived.Test.YtamffdgopknkfaaGreatDoorC39zPartW
import Derived.Test.YtamffdgopknkfaaGreatDoorC39zPartZH
namespace Go.Idl
set_option linter.all false
open Go.Proofs
set_option maxHeartbeats 4000000
set_option maxRecDepth 40000

def mkI (i : Nat) : Int := 8000024 + i
def mksI (n : Nat) : List Int := (List.range n).map mkI
@[simp] theorem mksI_length (n : Nat) : (mksI n).length = n := by simp [mksI]
def lentI (l : List Int) : IObj := .rows 1 (ints (l ++ mksI 12))
@[go_sem] theorem lentI_take {l m : List Int} : List.take l.length (ints (l ++ m)) = ints l := by rw [← ints_take]; simp
@[go_sem] theorem lentI_cut {l m : List Int} : cutR 0 l.length (ints (l ++ m)) = ints l := by simp [cutR, lentI_take]
end Go.Idl
namespace Go.Idl
set_option linter.all false
open Go.Proofs
set_option maxHeartbeats 16000000
set_option maxRecDepth 40000

def fewB (p : Pl) (l : List Em) : Bool := decide (p.s.length ≤ 60) && decide (l.length ≤ 40) && (decide (p.t ≤ 8) || decide (16 < p.t))
theorem few39_fun (p : Pl) (l : List Em) : FN 12 [p.v, .fz 4 (ems l)] (fun v => v = .bool (fewB p l)) := by
  refine IFun.of_bodyZ false 5 [] Tryz.func12 rfl Tryz.call12 rfl fun R hR => ?_
  unfold fewB at hR
  simp only [Pl.v] at *
  by_cases c1 : p.s.length ≤ 60
  · have c1' : (p.s.length : Int) ≤ 60 := by omega
    rw [decide_eq_true c1, Bool.true_and] at hR
    by_cases c2 : l.length ≤ 40
    · have c2' : (l.length : Int) ≤ 40 := by omega
      rw [decide_eq_true c2, Bool.true_and] at hR
      by_cases c3 : p.t ≤ 8
      · rw [decide_eq_true c3, Bool.true_or] at hR
        simp [go_sem, c1, c1', c2, c2', c3]
        exact hR _ _ _ rfl (by simp [go_sem])
      · rw [decide_eq_false c3, Bool.false_or] at hR
        simp [go_sem, c1, c1', c2, c2', c3]
        exact hR _ _ _ rfl (by simp [go_sem])
    · have c2' : ¬ (l.length : Int) ≤ 40 := by omega
      rw [decide_eq_false c2, Bool.false_and] at hR
      simp [go_sem, c1, c1', c2, c2']
      exact hR _ _ _ rfl (by simp [go_sem])
  · have c1' : ¬ (p.s.length : Int) ≤ 60 := by omega
    rw [decide_eq_false c1, Bool.false_and, Bool.false_and] at hR
    simp [go_sem, c1, c1']
    exact hR _ _ _ rfl (by simp [go_sem])
open Go.RowKit in
theorem fit_pl {cs : List IV} (h : fitL [.int .i64, .int .i64, .int .i64, .fz 1 [.int .i64]] cs) : ∃ q : Pl, cs = [.int .i64 q.t, .int .i64 q.r, .int .i64 q.b, .fz 1 (ints q.s)] := by
  obtain ⟨a, r1, rfl, _, h1⟩ := fitL_int h
  obtain ⟨b, r2, rfl, _, h2⟩ := fitL_int h1
  obtain ⟨c, r3, rfl, _, h3⟩ := fitL_int h2
  obtain ⟨d, r4, rfl, f1, h4⟩ := fitL_cons h3
  obtain rfl := fitL_nil h4
  obtain ⟨L, rfl, _, _⟩ := fit_ints f1
  exact ⟨⟨a, b, c, L⟩, rfl⟩
open Go.RowKit in
theorem fit_ems {c : IV} (h : (Shp.fz 4 [.int .i64, .int .i64, .int .i64, .int .i64]).fit c) : ∃ l : List Em, c = .fz 4 (ems l) ∧ (∀ x ∈ l, True) ∧ l.length ≤ maxLen :=
  fit_list (f := Em.c) (fun r hr => by
    obtain ⟨a, r1, rfl, _, h1⟩ := fitL_int hr
    obtain ⟨b, r2, rfl, _, h2⟩ := fitL_int h1
    obtain ⟨c, r3, rfl, _, h3⟩ := fitL_int h2
    obtain ⟨d, r4, rfl, _, h4⟩ := fitL_int h3
    obtain rfl := fitL_nil h4
    exact ⟨⟨a, b, c, d⟩, rfl, trivial⟩) h
end Go.Idl
