import Derived.Test.YtjaefodhiegmmaaC26nN
namespace Go.Idl
set_option linter.all false
open Go.Proofs
set_option maxHeartbeats 2000000
set_option maxRecDepth 20000

theorem clone_fun (x : Int × Int) (l : List (Int × Int)) (hl : l.length < 2 ^ 31) : IFun true Try.prog [] 24 [.fz 2 (prs (x :: l))] (fun v => v = .fz 2 (prs (x :: l))) := by
  refine IFun.of_bodyZ false 3 [4] Try.func24 rfl Try.call24 rfl fun R hR => ?_
  have hc : prs (x :: l) = [.int .i64 x.1, .int .i64 x.2] :: prs l := rfl
  simp [go_sem, hc]
  refine ⟨⟨by omega, prs_one⟩, hR _ _ _ rfl ?_⟩
  simp [go_sem, hc]

theorem gcd_fun (a b : Int) (ha : 0 ≤ a) (hb : 0 ≤ b) (hb2 : b < 2 ^ 62) : IFun true Try.prog [] 21 [.int .i64 a, .int .i64 b] (fun v => v = .int .i64 (Int.gcd a b)) := by
  refine IFun.of_bodyZ false 5 [6] Try.func21 rfl Try.call21 rfl fun R hR => ?_
  simp [go_sem]
  refine IWp.loopE (α := Int × Int) (fun x => (⟨false, 12, 5, [6], [], [(0, .int .i64 x.1), (1, .int .i64 x.2)], []⟩, [])) (fun x => 0 ≤ x.1 ∧ 0 ≤ x.2 ∧ Int.gcd x.1 x.2 = Int.gcd a b) (fun x => x.2.toNat) (a, b) ⟨by simpa, by simpa, rfl⟩ (by simp [go_sem]) ?_
  rintro ⟨x, y⟩ ⟨hx, hy, hg⟩
  simp only at hx hy hg
  by_cases h : 0 < y
  · simp [go_sem, h]
    refine ⟨by omega, by decide +kernel, y, _, ⟨rfl, rfl⟩, ⟨by omega, ?_, ?_⟩, ?_⟩
    · rw [Int.tmod_eq_emod_of_nonneg hx]; exact Int.emod_nonneg _ (by omega)
    · rw [Int.tmod_eq_emod_of_nonneg hx, ← hg]
      obtain ⟨n, rfl⟩ : ∃ n : Nat, x = n := ⟨_, (Int.toNat_of_nonneg hx).symm⟩
      obtain ⟨m, rfl⟩ : ∃ n : Nat, y = n := ⟨_, (Int.toNat_of_nonneg hy).symm⟩
      have : ((n : Int) % m) = ((n % m : Nat) : Int) := by simp
      rw [this]
      simp only [Int.gcd, Int.natAbs_natCast]
      rw [Nat.gcd_comm m (n % m), ← Nat.gcd_rec, Nat.gcd_comm]
    · have := Int.emod_lt_of_pos x h
      rw [Int.tmod_eq_emod_of_nonneg hx]
      omega
  · simp [go_sem, h]
    have : y = 0 := by omega
    subst this
    refine hR _ _ _ rfl ?_
    simp [go_sem]
    simp at hg
    omega

theorem sameRows_fun (a b : List RowV) (ha : a.length < 2 ^ 32) (hb : b.length < 2 ^ 32) : IFun true Try.prog [] 32 [.fz 5 (rws a), .fz 5 (rws b)] (fun v => v = .bool (decide (a = b))) := by
  refine IFun.of_bodyZ false 6 [10, 14, 25] Try.func32 rfl Try.call32 rfl fun R hR => ?_
  simp [go_sem]
  split
  case isFalse hl => exact hR _ _ _ rfl (by simp [go_sem]; intro h; subst h; exact hl rfl)
  rename_i hl
  refine IWp.loopE (α := Nat) (fun i => (⟨false, 26, 6, [10, 14, 25], [], [(0, .fz 5 (rws a)), (1, .fz 5 (rws b)), (5, .int .i64 i)], []⟩, [])) (fun i => i ≤ a.length ∧ a.take i = b.take i) (fun i => a.length - i) 0 ⟨by omega, by simp⟩ (by simp [go_sem]) ?_
  rintro i ⟨hi, hi2⟩
  have hl' : a.length = b.length := by omega
  by_cases h : i < a.length
  · have h' : i < b.length := by omega
    simp [go_sem, h, h', rws_at h, rws_at h']
    refine ⟨by decide +kernel, ?_⟩
    split
    · rename_i he
      refine hR _ _ _ rfl ?_
      simp [go_sem]
      intro hab; subst hab; simp at he
    · rename_i he
      simp only [not_or, Decidable.not_not] at he
      refine ⟨i + 1, by rw [wrap64 (by omega) (by omega)]; rfl, ⟨by omega, ?_⟩, by omega⟩
      rw [List.take_succ_eq_append_getElem h, List.take_succ_eq_append_getElem h', hi2]
      congr 2
      obtain ⟨h1, h2, h3, h4, h5⟩ := he
      cases hx : a[i] with
      | mk r t n e s => cases hy : b[i] with
        | mk r' t' n' e' s' => rw [hx, hy] at h1 h2 h3 h4 h5; simp only at h1 h2 h3 h4 h5; subst h1 h2 h3 h4 h5; rfl
  · simp [go_sem, h]
    have : i = a.length := by omega
    subst this
    refine hR _ _ _ rfl ?_
    simp [go_sem]
    rw [← List.take_length (l := a), hi2, hl', List.take_length]

theorem sameMovement_fun (a b : Mov) (ha : a.l.length < 2 ^ 32) (hb : b.l.length < 2 ^ 32) : IFun true Try.prog [] 17 [a.v, b.v] (fun v => v = .bool (decide (a = b))) := by
  refine IFun.of_bodyZ false 5 [] Try.func17 rfl Try.call17 rfl fun R hR => ?_
  simp [go_sem, Mov.v]
  obtain ⟨t, r, s, c, w, l⟩ := a
  obtain ⟨t', r', s', c', w', l'⟩ := b
  simp only at *
  split
  · rename_i h
    refine ⟨h, (sameRows_fun l l' ha hb).callM (by simp [go_sem]) ?_⟩
    obtain ⟨⟨⟨⟨rfl, rfl⟩, rfl⟩, rfl⟩, rfl⟩ := h
    rintro _ rfl
    simp [go_sem]
    refine hR _ _ _ rfl ?_
    simp [go_sem]
  · rename_i h
    refine ⟨fun h1 h2 h3 h4 h5 => h ⟨⟨⟨⟨h1, h2⟩, h3⟩, h4⟩, h5⟩, hR _ _ _ rfl ?_⟩
    simp [go_sem]
    exact fun h1 h2 h3 h4 h5 => absurd ⟨⟨⟨⟨h1, h2⟩, h3⟩, h4⟩, h5⟩ h
end Go.Idl
