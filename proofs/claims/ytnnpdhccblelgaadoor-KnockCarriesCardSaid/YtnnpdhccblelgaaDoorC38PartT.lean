/-
  Chapter 38: KnockCarries: the law.
-/
import Derived.Test.YtnnpdhccblelgaaDoorC38PartR
import Derived.Test.YtnnpdhccblelgaaDoorC38PartL
import Derived.Test.YtnnpdhccblelgaaDoorC38PartB
namespace Go.Idl
set_option linter.all false
open Go.Proofs
set_option maxHeartbeats 16000000
set_option maxRecDepth 40000

theorem fit_frc {cs : List IV} (h : fitL [.int .i64, .int .i64] cs) : ∃ q : {p : Frc // FitF p}, cs = [.int .i64 q.1.num, .int .i64 q.1.den] := by
  obtain ⟨a, r1, rfl, w1, h1⟩ := fitL_int h
  obtain ⟨b, r2, rfl, w2, h2⟩ := fitL_int h1
  obtain rfl := fitL_nil h2
  exact ⟨⟨⟨a, b⟩, wf64 w1, wf64 w2⟩, rfl⟩
theorem knockCarries_law (q : {p : Frc // FitF p}) (m d : Int) (hm : (Lit.int .i64 m).wf = true) (hd : (Lit.int .i64 d).wf = true) : FN 3 [.agg [.int .i64 q.1.num, .int .i64 q.1.den], .int .i64 m, .int .i64 d] (fun v => v = .bool true) := by
  obtain ⟨p, hp⟩ := q
  have cc := carries38_fun p m d hp (wf64 hm) (wf64 hd)
  simp only
  refine IFun.of_bodyZ false 7 [] Tryd.func3 rfl Tryd.call3 rfl fun R hR => ?_
  simp [go_sem]
  refine cc.callF (by simp [go_sem, Frc.v]) ?_
  rintro _ rfl
  simp [go_sem]
  refine awake38_fun.callF (by simp [go_sem]) ?_
  rintro _ rfl
  simp [go_sem]
  exact hR _ _ _ rfl (by simp [go_sem])
end Go.Idl
