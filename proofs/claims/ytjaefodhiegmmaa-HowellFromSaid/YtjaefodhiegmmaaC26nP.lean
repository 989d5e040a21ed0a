import Derived.Test.YtjaefodhiegmmaaC26nO
namespace Go.Idl
set_option linter.all false
open Go.Proofs
set_option maxHeartbeats 4000000
set_option maxRecDepth 20000

def hpb (t : Nat) : Bool := isPb (2 * t - 1) && (List.range 7).all fun k => !(Nat.beq (2 * t - 2) (2 ^ k))
theorem isPb_iff {p : Nat} (hp : p ≤ 1000) : isPb p = true ↔ PrimeOK p := by
  refine ⟨fun h => ?_, isPb_of hp⟩
  simp only [isPb, Bool.and_eq_true, Nat.ble_eq, List.all_eq_true, List.mem_range, Bool.or_eq_true, Nat.blt_eq, Bool.not_eq_true'] at h
  obtain ⟨h2, h⟩ := h
  refine ⟨by omega, fun d d1 d2 hd => ?_⟩
  obtain ⟨m, rfl⟩ : ∃ m : Nat, d = m := ⟨d.toNat, by omega⟩
  have hm2 : m * m ≤ p := by have : ((m * m : Nat) : Int) ≤ p := by simpa using d2
                             omega
  have hm : m < 32 := by
    apply Nat.not_le.1
    intro hle
    have : 32 * 32 ≤ m * m := Nat.mul_le_mul hle hle
    omega
  rcases h m hm with (h3 | h3) | h3
  · omega
  · omega
  · rw [Int.tmod_eq_emod_of_nonneg (by omega)] at hd
    have : p % m = 0 := by have : ((p % m : Nat) : Int) = 0 := by simpa using hd
                           omega
    rw [this] at h3
    cases h3
theorem HP_iff {t : Nat} (h1 : 2 ≤ t) (h2 : t ≤ 24) : HP t ↔ hpb t = true := by
  rw [← RPrimeOK_iff]
  unfold RPrimeOK hpb
  rw [prime_all]
  have hp := isPb_iff (p := 2 * t - 1) (by omega)
  rw [show (((2 * t - 1 : Nat)) : Int) = 2 * (t : Int) - 1 by omega] at hp
  rw [Bool.and_eq_true, hp, List.all_eq_true]
  have key : (∀ k : Nat, k < 7 → 2 * (t : Int) - 2 ≠ 2 ^ k) ↔ ∀ x ∈ List.range 7, (!(Nat.beq (2 * t - 2) (2 ^ x))) = true := by
    constructor
    · intro h k hk
      rw [List.mem_range] at hk
      cases hb : Nat.beq (2 * t - 2) (2 ^ k) with
      | false => rfl
      | true =>
        rw [Nat.beq_eq] at hb
        have : ((2 * t - 2 : Nat) : Int) = 2 ^ k := by rw [hb]; simp
        exact absurd (by omega) (h k hk)
    · intro h k hk e
      have := h k (List.mem_range.2 hk)
      have hb : 2 * t - 2 = 2 ^ k := by
        have : ((2 * t - 2 : Nat) : Int) = ((2 ^ k : Nat) : Int) := by rw [show ((2 ^ k : Nat) : Int) = 2 ^ k by simp]; omega
        exact Int.ofNat_inj.1 this
      rw [← Nat.beq_eq] at hb
      rw [hb] at this
      cases this
  exact ⟨fun ⟨_, _, a, b⟩ => ⟨a, key.1 b⟩, fun ⟨a, b⟩ => ⟨by omega, by omega, a, key.2 b⟩⟩
def stN (t : Nat) : List (Int × Int) := if hpb t = true then strgP (rootOf (2 * t - 1)) (2 * t - 1) else opp t (t - 1)
theorem stL_eq {t : Nat} (h1 : 2 ≤ t) (h2 : t ≤ 24) : stL t = stN t := by
  unfold stN
  by_cases h : HP t
  · rw [stL_pos h, if_pos ((HP_iff h1 h2).1 h)]
  · rw [stL_neg h, if_neg fun hb => h ((HP_iff h1 h2).2 hb)]; simp
theorem stN_len : ∀ t : Nat, t < 25 → 2 ≤ t → (stN t).length = t - 1 := by decide +kernel
theorem stL_length {t : Int} (h : 2 ≤ t ∧ t ≤ 24) : (stL t).length ≤ 10000 := by
  obtain ⟨n, rfl⟩ : ∃ n : Nat, t = n := ⟨t.toNat, by omega⟩
  rw [stL_eq (by omega) (by omega), stN_len n (by omega) (by omega)]
  omega
def MakeV (t rounds : Int) (v : IV) : Prop := (¬ (2 ≤ t ∧ t ≤ 24) ∧ v = .tup [Mov.zero.v, .int .i64 2]) ∨ (2 ≤ t ∧ t ≤ 24 ∧ FromV (2 * t - 1) rounds (stL t) v)
/-- The one slice in what From hands back. -/
theorem from_cx {n rounds : Int} {l : List (Int × Int)} {v : IV} (h : FromV n rounds l v) : ∃ (m : Mov) (e : Int), v = .tup [m.v, .int .i64 e] := by
  obtain ⟨b, e, _, ⟨_, rfl⟩ | ⟨_, _, rfl⟩ | ⟨_, _, _, rfl⟩ | ⟨_, _, _, rfl⟩⟩ := h
  · exact ⟨_, _, rfl⟩
  · exact ⟨_, _, rfl⟩
  · exact ⟨_, _, rfl⟩
  · exact ⟨_, _, rfl⟩
theorem mov_cx (m : Mov) (e : Int) : Cx fun v => .tup [.agg [.int .i64 m.t, .int .i64 m.r, .int .i64 m.s, .int .i64 m.c, .int .i64 m.w, v], .int .i64 e] :=
  .tup [] [.int .i64 e] (fun v => .agg [.int .i64 m.t, .int .i64 m.r, .int .i64 m.s, .int .i64 m.c, .int .i64 m.w, v]) (by simp) (by simp [scal]) (.agg [.int .i64 m.t, .int .i64 m.r, .int .i64 m.s, .int .i64 m.c, .int .i64 m.w] [] (fun v => v) (by simp [scal]) (by simp) .here)

theorem make_fun (t rounds : Int) : IFun true Try.prog [] 15 [.int .i64 t, .int .i64 rounds] (MakeV t rounds) := by
  refine IFun.of_bodyZ false 8 [14] Try.func15 rfl Try.call15 rfl fun R hR => ?_
  simp [go_sem]
  refine (starter_fun t).callF (by simp [go_sem]) ?_
  rintro _ (⟨h1, h2, rfl⟩ | ⟨h1, rfl⟩)
  · have w1 : IntKind.i64.wrap (2 * t) = 2 * t := wrap64 (by omega) (by omega)
    have w2 : IntKind.i64.wrap (2 * t - 1) = 2 * t - 1 := wrap64 (by omega) (by omega)
    simp [go_sem, w1, w2]
    refine (from_fun (2 * t - 1) rounds (stL t) (by have := stL_length ⟨h1, h2⟩; omega)).callOF (by simp [go_sem]) ?_
    intro v hv
    obtain ⟨m, e, rfl⟩ := from_cx hv
    refine ⟨_, 5, rws m.l, mov_cx m e, by decide, rfl, by simp [go_sem], ?_⟩
    simp [go_sem]
    refine hR _ _ _ (.inr ⟨h1, h2, hv⟩) ?_
    simp [go_sem, Mov.v]
  · simp [go_sem]
    refine hR _ _ _ (.inl ⟨h1, rfl⟩) ?_
    simp [go_sem, Mov.v, Mov.zero]

theorem refMake_fun (t rounds : Int) : IFun true Try.prog [] 27 [.int .i64 t, .int .i64 rounds] (MakeV t rounds) := by
  refine IFun.of_bodyZ false 8 [14] Try.func27 rfl Try.call27 rfl fun R hR => ?_
  simp [go_sem]
  refine (refStarter_fun t).callF (by simp [go_sem]) ?_
  rintro _ (⟨h1, h2, rfl⟩ | ⟨h1, rfl⟩)
  · have w1 : IntKind.i64.wrap (2 * t) = 2 * t := wrap64 (by omega) (by omega)
    have w2 : IntKind.i64.wrap (2 * t - 1) = 2 * t - 1 := wrap64 (by omega) (by omega)
    simp [go_sem, w1, w2]
    refine (refFrom_fun (2 * t - 1) rounds (stL t) (by have := stL_length ⟨h1, h2⟩; omega)).callOF (by simp [go_sem]) ?_
    intro v hv
    obtain ⟨m, e, rfl⟩ := from_cx hv
    refine ⟨_, 5, rws m.l, mov_cx m e, by decide, rfl, by simp [go_sem], ?_⟩
    simp [go_sem]
    refine hR _ _ _ (.inr ⟨h1, h2, hv⟩) ?_
    simp [go_sem, Mov.v]
  · simp [go_sem]
    refine hR _ _ _ (.inl ⟨h1, rfl⟩) ?_
    simp [go_sem, Mov.v, Mov.zero]
end Go.Idl
