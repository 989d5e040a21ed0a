/-
  Chapter 36: Count f22.
-/
import Derived.Test.YtpfpgkopbokfgaaDoorC36nE
namespace Go.Idl
set_option linter.all false
open Go.Proofs
set_option maxHeartbeats 4000000
set_option maxRecDepth 40000

/-- Whether two teams can meet; the draws of some teams. -/
def okT (met : List (Int × Int)) (a b : Int) : Bool := !(metB met a b)
def drT (met : List (Int × Int)) (teams : List Int) : List (List (Int × Int)) := drs (okT met) teams
/-- Places as teams. -/
def asT (teams : List Int) (d : List (Nat × Nat)) : List (Int × Int) := d.map fun p => (teams.getD p.1 0, teams.getD p.2 0)
theorem bitsL_full {n : Nat} (h : n ≤ 32) : bitsL (2 ^ n - 1) = List.range n := by
  unfold bitsL
  rw [show 32 = n + (32 - n) by omega, List.range_add, List.filter_append]
  have h1 : List.filter (fun i => Nat.testBit (2 ^ n - 1) i) (List.range n) = List.range n := by
    rw [List.filter_eq_self]
    intro x hx
    rw [Nat.testBit_two_pow_sub_one]; simpa using hx
  have h2 : List.filter (fun i => Nat.testBit (2 ^ n - 1) i) (List.map (fun x => n + x) (List.range (32 - n))) = [] := by
    rw [List.filter_eq_nil_iff]
    intro x hx
    obtain ⟨k, _, rfl⟩ := List.mem_map.1 hx
    rw [Nat.testBit_two_pow_sub_one]; simp
  rw [h1, h2, List.append_nil]
theorem teams_range (teams : List Int) : (List.range teams.length).map (fun i => teams.getD i 0) = teams := by
  apply List.ext_getElem
  · simp
  · intro i h1 h2; simp [h2]
theorem getD_inj {teams : List Int} (hnd : teams.Nodup) {i k : Nat} (hi : i < teams.length) (hk : k < teams.length) (e : teams.getD i 0 = teams.getD k 0) : i = k := by
  simp only [List.getD_eq_getElem?_getD, List.getElem?_eq_getElem hi, List.getElem?_eq_getElem hk, Option.getD_some] at e
  exact nodup_eq hnd hi hk e
/-- The draws of some places are the draws of their teams. -/
theorem drs_teams {teams : List Int} {met : List (Int × Int)} {g : Nat → Nat} (hn : teams.length ≤ 16) (ho : OpenOK teams met g) {l : List Nat} (hnd : l.Nodup) (hl : ∀ i ∈ l, i < teams.length) :
    drT met (l.map fun i => teams.getD i 0) = (drs (okG g) l).map (asT teams) := by
  have h1 : drs (okG g) l = drs (fun a b => okT met (teams.getD a 0) (teams.getD b 0)) l := by
    refine drs_congr l.length l (Nat.le_refl _) hnd fun a ha b hb hab => ?_
    have ha' := hl a ha
    have hb' := hl b hb
    have := (ho a (by omega)).2 b ha'
    rw [okG, this]
    have e : ¬ b = a := fun e => hab e.symm
    simp [okT, hb', e]
  rw [drT, h1]
  exact drs_map (fun i => teams.getD i 0) (fun a b => rfl) l.length l (Nat.le_refl _)
theorem cnt_teams {teams : List Int} {met : List (Int × Int)} {g : Nat → Nat} (hn : teams.length ≤ 16) (ho : OpenOK teams met g) : cntM g (2 ^ teams.length - 1) = (drT met teams).length := by
  have h := drs_teams hn ho (l := List.range teams.length) List.nodup_range (fun i hi => List.mem_range.1 hi)
  rw [teams_range] at h
  rw [h, List.length_map, cntM, bitsL_full (by omega)]; rfl

theorem all_c (teams : List Int) (g : Nat → Nat) (hn : teams.length ≤ 16) : F36 33 [.fptr 17 [tbR teams g] 0 0] (fun v => v = .int .u32 ((2 ^ teams.length - 1 : Nat) : Int)) := all_fun teams (opC g) hn
theorem memo0 {g : Nat → Nat} : MemoC g [(0, 1)] := by
  intro m v h
  simp only [aget] at h
  split at h
  · rename_i e; subst e; rw [cntM_zero]; exact (Option.some.inj h).symm
  · cases h
def cntN (teams : List Int) (met : List (Int × Int)) : Int := if errN teams met false = 0 then (drT met teams).length else 0
theorem Count_fun (teams : List Int) (met : List (Int × Int)) (hl : teams.length ≤ 2 ^ 32) (hm : met.length ≤ 2 ^ 32) : F36 22 [.fz 1 (ints teams), .fz 2 (prs met)] (fun v => v = .tup [.int .i64 (cntN teams met), .int .i64 (errN teams met false)]) := by
  refine IFun.of_bodyZ false 8 [15] Tryd.func22 rfl Tryd.call22 rfl fun R hR => ?_
  simp [go_sem]
  refine (even_fun teams met hl hm).call (by simp [go_sem]) ?_
  rintro v (⟨h1, rfl⟩ | ⟨h1, g, ho, rfl⟩)
  · have e : cntN teams met = 0 := by unfold cntN; rw [if_neg h1]
    simp [go_sem, h1]
    exact hR _ _ _ rfl (by simp [go_sem, e])
  · obtain ⟨hr, hn, hev⟩ := errN_zero h1
    have e : cntN teams met = (cntM g (2 ^ teams.length - 1) : Int) := by unfold cntN; rw [if_pos h1, cnt_teams hn ho]
    have hp : 2 ^ teams.length - 1 < 2 ^ 16 := by
      have : 2 ^ teams.length ≤ 2 ^ 16 := Nat.pow_le_pow_right (by decide) hn
      have : 0 < 2 ^ teams.length := Nat.pow_pos (by decide)
      omega
    simp [go_sem]
    refine (counter_calls teams g).mono ?_
    rintro _ _ ⟨rfl, rfl⟩
    simp [go_sem, cntF, cntH]
    refine (all_c teams g hn).call (by simp [go_sem]) ?_
    rintro _ rfl
    generalize 2 ^ teams.length - 1 = M at *
    simp [go_sem]
    refine (count_calls teams g hn (fun i hi => (ho i hi).1) M hp [(0, 1)] [] memo0 rfl (by simp [go_sem])).mono ?_
    rintro _ _ ⟨rfl, S', _, rfl⟩
    simp [go_sem]
    exact hR _ _ _ rfl (by simp [go_sem, e, h1])
end Go.Idl
