/-
  Chapter 36: tells f26.
-/
import Derived.Test.YtpfpgkopbokfgaaDoorC36nO
import Derived.Test.YtpfpgkopbokfgaaDoorC36nL
namespace Go.Idl
set_option linter.all false
open Go.Proofs
set_option maxHeartbeats 8000000
set_option maxRecDepth 40000

theorem nthD_len (teams : List Int) (met : List (Int × Int)) (k : Int) : (nthD teams met k).length ≤ 16 := by
  unfold nthD
  split
  · rename_i h
    have he : errN teams met false = 0 := by
      unfold nthE at h
      split at h
      · rename_i h2; exact absurd h h2
      · rename_i h2; exact Decidable.not_not.1 h2
    obtain ⟨_, hn, _⟩ := errN_zero he
    rw [List.getD_eq_getElem?_getD]
    cases hd : (drT met teams)[k.toNat]? with
    | none => simp
    | some d =>
      have := drs_len (ok := okT met) _ teams (Nat.le_refl _) d (List.mem_of_getElem? hd)
      simp only [Option.getD_some]; omega
  · simp
theorem tells_fun (teams : List Int) (met draw : List (Int × Int)) (a b k : Int) (hl : teams.length ≤ 1000) (hm : met.length ≤ 1000) (hd : draw.length ≤ 1000) :
    F36 26 [.fz 1 (ints teams), .fz 2 (prs met), .fz 2 (prs draw), .int .i64 a, .int .i64 b, .int .i64 k] (fun v => v = .bool true) := by
  refine IFun.of_bodyZ false 13 [13, 14, 15, 16, 17, 18, 19, 20, 21, 22, 23, 24, 25, 26, 27, 56] Tryd.func26 rfl Tryd.call26 rfl fun R hR => ?_
  have hl2 : teams.length ≤ 2 ^ 32 := by omega
  have hm2 : met.length ≤ 2 ^ 32 := by omega
  have hd2 : draw.length ≤ 2 ^ 32 := by omega
  have hth := theirs_fun met (by omega)
  have htd := theirs_fun draw (by omega)
  have hN := nthD_len teams met k
  simp [go_sem]
  refine ⟨⟨by omega, fun r hr => ints_one r hr⟩, ⟨by omega, fun r hr => prs_one r hr⟩, ⟨by omega, fun r hr => prs_one r hr⟩, ?_⟩
  refine (Right_fun teams met hl2 hm2).call (by simp [go_sem]) ?_
  rintro _ rfl
  simp [go_sem]
  refine hth.call (by simp [go_sem]) ?_
  rintro _ rfl
  simp [go_sem]
  refine (refRight_fun teams met hl2 hm2).call (by simp [go_sem]) ?_
  rintro _ rfl
  simp [go_sem]
  refine (Met_fun met a b hm2).call (by simp [go_sem]) ?_
  rintro _ rfl
  simp [go_sem]
  refine hth.call (by simp [go_sem]) ?_
  rintro _ rfl
  simp [go_sem]
  refine (refMet_fun met a b hm2).call (by simp [go_sem]) ?_
  rintro _ rfl
  simp [go_sem]
  refine (Count_fun teams met hl2 hm2).call (by simp [go_sem]) ?_
  rintro _ rfl
  simp [go_sem]
  refine hth.call (by simp [go_sem]) ?_
  rintro _ rfl
  simp [go_sem]
  refine (refCount_fun teams met hl2 hm2).call (by simp [go_sem]) ?_
  rintro _ rfl
  simp [go_sem]
  refine (Nth_fun teams met k hl2 hm2).call (by simp [go_sem]) ?_
  rintro _ rfl
  simp [go_sem]
  refine hth.call (by simp [go_sem]) ?_
  rintro _ rfl
  simp [go_sem]
  refine (refNth_fun teams met k hl2 hm2).call (by simp [go_sem]) ?_
  rintro _ rfl
  simp [go_sem]
  refine (Number_fun teams met draw hl2 hm2 hd2).call (by simp [go_sem]) ?_
  rintro _ rfl
  simp [go_sem]
  refine hth.call (by simp [go_sem]) ?_
  rintro _ rfl
  simp [go_sem]
  refine htd.call (by simp [go_sem]) ?_
  rintro _ rfl
  simp [go_sem]
  refine (refNumber_fun teams met draw hl2 hm2).call (by simp [go_sem]) ?_
  rintro _ rfl
  simp [go_sem]
  refine (ours_fun (nthD teams met k) (by omega)).call (by simp [go_sem]) ?_
  rintro _ rfl
  simp [go_sem]
  refine (is_fun (nthD teams met k) (nthD teams met k) (by omega)).call (by simp [go_sem]) ?_
  rintro _ rfl
  simp [go_sem]
  refine (kept_fun teams met hl2 hm2).call (by simp [go_sem]) ?_
  rintro _ rfl
  simp [go_sem]
  refine (is_fun draw draw hd2).call (by simp [go_sem]) ?_
  rintro _ rfl
  simp [go_sem]
  exact hR _ _ _ rfl (by simp [go_sem])
end Go.Idl
