/-
  Chapter 36: even f37; counter f38, drawn f31 and the functions that they make.
-/
import Derived.Test.YtpfpgkopbokfgaaDoorC36nD
namespace Go.Idl
set_option linter.all false
open Go.Proofs
set_option maxHeartbeats 4000000
set_option maxRecDepth 40000

def errN (teams : List Int) (met : List (Int × Int)) (odd : Bool) : Int :=
  if rightB teams met = false then 2 else if 16 < teams.length then 5 else if odd = false ∧ teams.length % 2 = 1 then 360 else 0
def TabV (odd : Bool) (teams : List Int) (met : List (Int × Int)) (v : IV) : Prop :=
  (errN teams met odd ≠ 0 ∧ v = .tup [.nilp, .int .i64 (errN teams met odd)]) ∨
  (errN teams met odd = 0 ∧ ∃ g, OpenOK teams met g ∧ v = .tup [.fptr 17 [tbR teams g] 0 0, .int .i64 0])
theorem errN_zero {teams : List Int} {met : List (Int × Int)} {odd : Bool} (h : errN teams met odd = 0) : rightB teams met = true ∧ teams.length ≤ 16 ∧ (odd = false → teams.length % 2 = 0) := by
  unfold errN at h
  split at h
  · omega
  · rename_i h1
    split at h
    · omega
    · rename_i h2
      split at h
      · omega
      · rename_i h3
        refine ⟨by simpa using h1, by omega, fun ho => ?_⟩
        have : ¬ teams.length % 2 = 1 := fun e => h3 ⟨ho, e⟩
        omega
theorem set_c (teams : List Int) (met : List (Int × Int)) (hl : teams.length ≤ 2 ^ 32) (hm : met.length ≤ 2 ^ 32) : O36 30 [.fz 1 (ints teams), .fz 2 (prs met)] (TabV true teams met) :=
  (set_fun teams met hl hm).mono fun v h => by
    unfold TabV errN
    rcases h with ⟨h1, rfl⟩ | ⟨h1, h2, rfl⟩ | ⟨h1, h2, g, h3, rfl⟩
    · rw [if_pos h1]; exact .inl ⟨by decide, rfl⟩
    · rw [if_neg (by simp [h1]), if_pos h2]; exact .inl ⟨by decide, rfl⟩
    · rw [if_neg (by simp [h1]), if_neg (by omega), if_neg (by simp)]; exact .inr ⟨rfl, g, h3, rfl⟩
theorem even_fun (teams : List Int) (met : List (Int × Int)) (hl : teams.length ≤ 2 ^ 32) (hm : met.length ≤ 2 ^ 32) : O36 37 [.fz 1 (ints teams), .fz 2 (prs met)] (TabV false teams met) := by
  refine IFun.of_bodyZ false 8 [21] Tryd.func37 rfl Tryd.call37 rfl fun R hR => ?_
  simp [go_sem]
  refine (set_fun teams met hl hm).call (by simp [go_sem]) ?_
  intro v hv
  rcases hv with ⟨h1, rfl⟩ | ⟨h1, h2, rfl⟩ | ⟨h1, h2, g, h3, rfl⟩
  · have e : errN teams met false = 2 := by unfold errN; rw [if_pos h1]
    simp [go_sem]
    exact hR _ _ _ (.inl ⟨by rw [e]; decide, rfl⟩) (by simp [go_sem, e])
  · have e : errN teams met false = 5 := by unfold errN; rw [if_neg (by simp [h1]), if_pos h2]
    simp [go_sem]
    exact hR _ _ _ (.inl ⟨by rw [e]; decide, rfl⟩) (by simp [go_sem, e])
  · by_cases hp : teams.length % 2 = 1
    · have e : errN teams met false = 360 := by unfold errN; rw [if_neg (by simp [h1]), if_neg (by omega), if_pos ⟨rfl, hp⟩]
      have hp' : (teams.length : Int).tmod 2 = 1 := by rw [Int.tmod_eq_emod_of_nonneg (by omega)]; omega
      simp [go_sem, hp']
      exact hR _ _ _ (.inl ⟨by rw [e]; decide, rfl⟩) (by simp [go_sem, e])
    · have e : errN teams met false = 0 := by unfold errN; rw [if_neg (by simp [h1]), if_neg (by omega), if_neg (fun h => hp h.2)]
      have hp' : (teams.length : Int).tmod 2 = 0 := by rw [Int.tmod_eq_emod_of_nonneg (by omega)]; omega
      simp [go_sem, hp']
      exact hR _ _ _ (.inr ⟨e, g, h3, rfl⟩) (by simp [go_sem])

@[go_sem] theorem fgt_self {τ : Heap} : fgt τ τ = True := eq_true (fgt_refl τ)
theorem memo_set {g : Nat → Nat} {S : List (Nat × Nat)} {m : Nat} (h : ∀ m' v, aget m' S = some v → v = cntL (fun a b => Nat.testBit (g a) b) (bitsL m')) : ∀ m' v, aget m' (aset m (cntL (fun a b => Nat.testBit (g a) b) (bitsL m)) S) = some v → v = cntL (fun a b => Nat.testBit (g a) b) (bitsL m') := by
  intro m' v hv
  rw [aget_aset] at hv
  split at hv
  · rename_i e; subst e; exact (Option.some.inj hv).symm
  · exact h m' v hv
/-! ### the function that counts -/
/-- Whether two places can meet. -/
def okG (g : Nat → Nat) (a b : Nat) : Bool := Nat.testBit (g a) b
def cntM (g : Nat → Nat) (m : Nat) : Nat := cntL (okG g) (bitsL m)
def enU (S : List (Nat × Nat)) : List (IV × IV) := enM (fun k : Nat => .int .u32 (k : Int)) (fun v : Nat => .int .i64 (v : Int)) S
def MemoC (g : Nat → Nat) (S : List (Nat × Nat)) : Prop := ∀ m v, aget m S = some v → v = cntM g m
/-- The heap of a counter that was made on an empty heap: the table's pointer, the known, the function itself. -/
def cntH (teams : List Int) (g : Nat → Nat) (S : List (Nat × Nat)) : Heap :=
  [.rows 1 [[.fptr 17 [tbR teams g] 0 0]], .map (enU S), .rows 1 [[.map 1]], .rows 1 [[.func (.func 48) [] [.ptr 2 1 0 0, .ptr 0 1 0 0, .ptr 3 1 0 0]]]]
def cntF : IV := .func (.func 48) [] [.ptr 2 1 0 0, .ptr 0 1 0 0, .ptr 3 1 0 0]
theorem counter_calls (teams : List Int) (g : Nat → Nat) : ICalls Tryd.prog glT 38 [.fptr 17 [tbR teams g] 0 0] [] (fun v σ => v = cntF ∧ σ = cntH teams g [(0, 1)]) := by
  refine ICalls.of_bodyE false 5 [] Tryd.func38 rfl Tryd.call38 rfl fun R hR => ?_
  simp [go_sem]
  exact hR _ _ ⟨rfl, rfl⟩

theorem ku32 (a b : Nat) : keq (.int .u32 (a : Int)) (.int .u32 (b : Int)) = decide (a = b) := by
  show (match ceqs [IV.int .u32 (a : Int)] [IV.int .u32 (b : Int)] with | some b => b | none => false) = _
  simp [ceqs, ceq]
  exact decide_eq_decide.2 (by omega)
theorem mget_u (m : Nat) (S : List (Nat × Nat)) : mget (.int .u32 (m : Int)) (enU S) = (aget m S).map fun v : Nat => .int .i64 (v : Int) := mget_en (kf := fun k : Nat => .int .u32 (k : Int)) ku32 m S
theorem mset_u (m v : Nat) (S : List (Nat × Nat)) : mset (.int .u32 (m : Int)) (.int .i64 (v : Int)) (enU S) = enU (aset m v S) := mset_en (kf := fun k : Nat => .int .u32 (k : Int)) (vf := fun v : Nat => .int .i64 (v : Int)) ku32 m v S
theorem ok_u (S : List (Nat × Nat)) : ∀ e ∈ enU S, keyOK Tryd.prog 66 [.int .u32] e.1 = true := en_ok (fun a => by simp [go_sem, keyOK]) S
@[go_sem] theorem bl_u {n : Nat} {S : List (Nat × Nat)} : BlM n (enU S) = True := eq_true (en_bl (fun a => by simp [go_sem]) (fun b => by simp [go_sem]) S)
@[go_sem] theorem enU_len {S : List (Nat × Nat)} : (enU S).length = S.length := by simp [enU, enM]

theorem cntM_zero (g : Nat → Nat) : cntM g 0 = 1 := by rw [cntM, bitsL_zero, cntL_nil]
theorem cntM_rec {g : Nat → Nat} {m : Nat} (h0 : m ≠ 0) (h : m < 2 ^ 32) : cntM g m = ((bitsL ((m &&& (m - 1)) &&& g (tz m))).map fun b => cntM g (anb (m &&& (m - 1)) (2 ^ b))).sum := by
  have hr : m &&& (m - 1) < 2 ^ 32 := and_lt h
  unfold cntM
  generalize hrr : m &&& (m - 1) = r at hr ⊢
  rw [bitsL_clear h0 h, hrr, cntL_nodup _ (bitsL_nodup _), bitsL_and]
  show (List.map _ (List.filter (okG g (tz m)) (bitsL r))).sum = (List.map _ (List.filter (okG g (tz m)) (bitsL r))).sum
  congr 1
  apply List.map_congr_left
  intro b _
  rw [bitsL_anb b hr]
theorem bits_len {m n : Nat} (h : m < 2 ^ n) (hn : n ≤ 32) : (bitsL m).length ≤ n := by
  have : bitsL m = (List.range n).filter fun i => Nat.testBit m i := by
    unfold bitsL
    rw [show 32 = n + (32 - n) by omega, List.range_add, List.filter_append]
    have hnil : List.filter (fun i => Nat.testBit m i) (List.map (fun x => n + x) (List.range (32 - n))) = [] := by
     rw [List.filter_eq_nil_iff]
     intro x hx
     obtain ⟨k, _, rfl⟩ := List.mem_map.1 hx
     rw [Nat.testBit_lt_two_pow (Nat.lt_of_lt_of_le h (Nat.pow_le_pow_right (by decide) (by omega)))]
     simp
    rw [hnil, List.append_nil]
  rw [this]
  exact Nat.le_trans (List.length_filter_le _ _) (by simp)
theorem cntM_le {g : Nat → Nat} {m : Nat} (h : m < 2 ^ 16) : cntM g m ≤ 4294967296 := by
  have := bits_len h (by decide)
  exact cntL_le 8 _ (by omega) (by omega)

theorem count_calls (teams : List Int) (g : Nat → Nat) (hn : teams.length ≤ 16) (hg : ∀ i, i < 16 → g i < 2 ^ 32) : ∀ (m : Nat), m < 2 ^ 16 → ∀ (S : List (Nat × Nat)) (τ : Heap), MemoC g S → aget 0 S = some 1 → HeBl (τ.length + 4) τ →
    ICalls Tryd.prog glT 48 [.int .u32 (m : Int), .ptr 2 1 0 0, .ptr 0 1 0 0, .ptr 3 1 0 0] (cntH teams g S ++ τ) (fun v σ' => v = .int .i64 (cntM g m : Int) ∧ ∃ S', (MemoC g S' ∧ aget 0 S' = some 1) ∧ σ' = cntH teams g S' ++ τ) := by
  intro m
  induction m using Nat.strongRecOn with
  | _ m ih =>
    intro hm S τ hS hS0 hτ
    refine ICalls.of_bodyE false 12 [18, 34] Tryd.func48 rfl Tryd.call48 rfl fun R hR => ?_
    have hok : ∀ (S : List (Nat × Nat)) (a b : IV), (a, b) ∈ enU S → keyOK Tryd.prog 66 [.int .u32] a = true := fun S a b h => ok_u S (a, b) h
    cases hk : aget m S with
    | some v =>
      have := hS m v hk
      simp [go_sem, cntH, mget_u, hk]
      exact ⟨fun a b h => by simpa [go_sem] using hok S a b h, hR _ _ ⟨by rw [this], S, ⟨hS, hS0⟩, rfl⟩⟩
    | none =>
      have hm0 : m ≠ 0 := fun e => by subst e; rw [hS0] at hk; cases hk
      have hm32 : m < 2 ^ 32 := by omega
      have hrec := cntM_rec (g := g) hm0 hm32
      have hrl : m &&& (m - 1) < m := Nat.lt_of_le_of_lt Nat.and_le_right (by omega)
      have htz := (tz_spec hm0 hm32)
      have htz16 : tz m < 16 := by
        have h1 := htz.2.1
        apply Decidable.byContradiction
        intro hc
        rw [Nat.testBit_lt_two_pow (Nat.lt_of_lt_of_le hm (Nat.pow_le_pow_right (by decide) (by omega)))] at h1
        cases h1
      have hbound := cntM_le (g := g) hm
      simp [go_sem, cntH, mget_u, hk]
      refine ⟨fun a b h => by simpa [go_sem] using hok S a b h, ?_⟩
      refine (split_fun m hm0 hm32).call (by simp [go_sem]) ?_
      rintro _ rfl
      generalize tz m = a at *
      generalize m &&& (m - 1) = r at *
      have hr32 : r < 2 ^ 32 := by omega
      have ha := hg a htz16
      have e1 := u32_and hr32 ha
      obtain ⟨o0, ho0⟩ : ∃ o, r &&& g a = o := ⟨_, rfl⟩
      have ho32 : o0 < 2 ^ 32 := by rw [← ho0]; exact and_lt hr32
      rw [ho0] at e1 hrec
      simp [go_sem, tbR_at htz16, tbR_get htz16, e1]
      refine ⟨by omega, by omega, ?_⟩
      refine IWp.loopT (α := Nat × Nat × List (Nat × Nat)) (fun x => (⟨false, 53, 12, [18, 34], glT, [(0, .int .u32 (m : Int)), (1, .ptr 2 1 0 0), (3, .ptr 3 1 0 0), (9, .int .u32 (r : Int)), (10, .int .i64 (x.2.1 : Int)), (11, .int .u32 (x.1 : Int))], []⟩, cntH teams g x.2.2 ++ τ))
        (fun x => x.1 < 2 ^ 32 ∧ x.2.1 + ((bitsL x.1).map fun b => cntM g (anb r (2 ^ b))).sum = cntM g m ∧ MemoC g x.2.2 ∧ aget 0 x.2.2 = some 1) (fun x => x.1) (o0, 0, S) ⟨ho32, by simp [hrec], hS, hS0⟩ (by simp [go_sem, cntH, hτ]) ?_
      rintro ⟨o, acc, S1⟩ ⟨ho, hsum, hS1, hS10⟩
      simp only at ho hsum hS1 hS10
      by_cases h0 : o = 0
      · subst h0
        rw [bitsL_zero] at hsum
        simp at hsum
        subst hsum
        simp [go_sem, cntH]
        rw [mset_u]
        exact ⟨fun a b h => by simpa [go_sem] using hok S1 a b h, hR _ _ ⟨rfl, aset m (cntM g m) S1, ⟨memo_set hS1, by rw [aget_aset, if_neg (fun e => hm0 e.symm)]; exact hS10⟩, rfl⟩⟩
      · have n1 := u32_neg h0 ho
        have n1' : IntKind.u32.wrap (-(o : Int)) = ((2 ^ 32 - o : Nat) : Int) := by rw [← n1]; simp
        obtain ⟨K, hK⟩ : ∃ K, 2 ^ 32 - o = K := ⟨_, rfl⟩
        have n2 := u32_and ho (b := K) (by omega)
        rw [← hK, low_bit h0 ho] at n2
        rw [hK] at n1 n1' n2
        have n3 := u32_pred h0 ho
        obtain ⟨L, hL⟩ : ∃ L, o - 1 = L := ⟨_, rfl⟩
        have n4 := u32_and ho (b := L) (by omega)
        have hcl := bitsL_clear h0 ho
        rw [hL] at n3 hcl
        have hlt : o &&& L < o := Nat.lt_of_le_of_lt Nat.and_le_right (by omega)
        obtain ⟨o2, ho2⟩ : ∃ o2, o &&& L = o2 := ⟨_, rfl⟩
        rw [ho2] at n4 hcl hlt
        rw [hcl, List.map_cons, List.sum_cons] at hsum
        have n5 : bitsOf .andNot .u32 (r : Int) ((2 ^ tz o : Nat) : Int) = ((anb r (2 ^ tz o) : Nat) : Int) := u32_andNot
        obtain ⟨P2, hP2⟩ : ∃ P2, 2 ^ tz o = P2 := ⟨_, rfl⟩
        rw [hP2] at n2 n5 hsum
        obtain ⟨q, hq⟩ : ∃ q, anb r P2 = q := ⟨_, rfl⟩
        rw [hq] at n5 hsum
        have hqm : q < m := by rw [← hq, ← hP2]; exact Nat.lt_of_le_of_lt (anb_le hr32) hrl
        simp [go_sem, cntH, h0, n1, n1', n2, n5]
        refine (ih q hqm (by omega) S1 τ hS1 hS10 hτ).mono ?_
        rintro _ _ ⟨rfl, S2, ⟨hS2, hS20⟩, rfl⟩
        have w1 : IntKind.i64.wrap ((acc : Int) + (cntM g q : Int)) = ((acc + cntM g q : Nat) : Int) := by rw [wrap64 (by omega) (by omega)]; omega
        simp [go_sem, cntH, n3, n4]
        exact ⟨o2, acc + cntM g q, S2, ⟨⟨w1, rfl⟩, rfl, hτ⟩, ⟨by omega, by rw [Nat.add_assoc]; exact hsum, hS2, hS20⟩, hlt⟩
end Go.Idl
