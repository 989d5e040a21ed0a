/-
  Chapter 26: the laws that stand on 'tells', 'froms' and 'awake' alone.
-/
import Derived.Test.YtjaefodhiegmmaaC26nR
namespace Go.Idl
set_option linter.all false
open Go.Proofs
set_option maxHeartbeats 4000000
set_option maxRecDepth 40000

theorem lawTells_fun (a b c : Int) : IFun true Try.prog [] 3 [.int .i64 a, .int .i64 b, .int .i64 c] (fun v => v = .bool true) := by
  refine IFun.of_bodyZ false 7 [] Try.func3 rfl Try.call3 rfl fun R hR => ?_
  simp [go_sem]
  refine (tells_fun a b c).callF (by simp [go_sem]) ?_
  rintro _ rfl
  simp [go_sem]
  refine awake_fun.callF (by simp [go_sem]) ?_
  rintro _ rfl
  simp [go_sem]
  exact hR _ _ _ rfl (by simp [go_sem])

theorem lawFroms_fun (n r : Int) (l : List (Int × Int)) : IFun true Try.prog [] 4 [.int .i64 n, .int .i64 r, .fz 2 (prs l)] (fun v => v = .bool true) := by
  refine IFun.of_bodyZ true 7 [] Try.func4 rfl Try.call4 rfl fun R hR => ?_
  simp [go_sem]
  by_cases h : l.length ≤ 60
  · have h' : (l.length : Int) ≤ 60 := by omega
    have h2 : ¬ (60 : Int) < l.length := by omega
    simp [go_sem, h']
    refine (froms_fun n r l (by omega)).callF (by simp [go_sem]) ?_
    rintro _ rfl
    simp [go_sem, h']
    refine awake_fun.callF (by simp [go_sem]) ?_
    rintro _ rfl
    simp [go_sem, h']
    exact hR _ _ _ rfl (by simp [go_sem])
  · have h' : ¬ (l.length : Int) ≤ 60 := by omega
    have h2 : (60 : Int) < l.length := by omega
    simp [go_sem, h', h2]
    refine awake_fun.callF (by simp [go_sem]) ?_
    rintro _ rfl
    simp [go_sem, h']
    exact hR _ _ _ rfl (by simp [go_sem])
end Go.Idl
