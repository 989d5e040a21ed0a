/-
  Chapter 25: MitchellFull.
-/
import Derived.Test.YtjdcaidcheodpaaC25PartO
import Derived.Test.YtjdcaidcheodpaaC25PartN
namespace Go.Idl
set_option linter.all false
open Go.Proofs
set_option maxHeartbeats 8000000
set_option maxRecDepth 40000

theorem rowL_pw {k : Int} {T r : Nat} {R : Rw → Rw → Prop} (h : ∀ t t' : Nat, t < T → t' < T → t ≠ t' → R (rowX k T r t) (rowX k T r t')) : (rowL k T r T).Pairwise R := by
  unfold rowL
  rw [List.pairwise_map]
  refine (List.nodup_range (n := T)).imp_of_mem ?_
  intro a b ha hb hne
  exact h a b (List.mem_range.1 ha) (List.mem_range.1 hb) hne
theorem countP_is_one {α : Type} {P : α → Bool} {L : List α} (h : L.Pairwise fun x y => ¬ (P x = true ∧ P y = true)) (he : ∃ x ∈ L, P x = true) : L.countP P = 1 := by
  have h1 := countP_one h
  have h2 : 0 < L.countP P := List.countP_pos_iff.2 he
  omega
theorem rowL_ns {k : Int} {T r : Nat} {p : Int} : (rowL k T r T).countP (fun x => x.ns == p) = if 1 ≤ p ∧ p ≤ T then 1 else 0 := by
  by_cases h : 1 ≤ p ∧ p ≤ T
  · rw [if_pos h]
    refine countP_is_one (rowL_pw fun t t' h1 h2 hne => ?_) ⟨rowX k T r (p - 1).toNat, ?_, ?_⟩
    · rintro ⟨a, b⟩
      unfold rowX at a b
      simp only [beq_iff_eq] at a b
      omega
    · unfold rowL
      exact List.mem_map.2 ⟨(p - 1).toNat, List.mem_range.2 (by omega), rfl⟩
    · unfold rowX
      simp only [beq_iff_eq]
      omega
  · rw [if_neg h, List.countP_eq_zero]
    intro x hx
    obtain ⟨t, ht, rfl⟩ := List.mem_map.1 hx
    have := List.mem_range.1 ht
    unfold rowX
    simp only [beq_iff_eq]
    omega
theorem rowL_ew {k : Int} {T r n : Nat} {p : Int} (hD : Dsg k T) (hn : (n : Int) ≤ T - fewK k) (hr : r < n) : (rowL k T r T).countP (fun x => x.ew == p) = if T + 1 ≤ p ∧ p ≤ 2 * T then 1 else 0 := by
  have hT : (0 : Int) < T := by have := hD.2; omega
  by_cases h : T + 1 ≤ p ∧ p ≤ 2 * T
  · rw [if_pos h]
    obtain ⟨d, hd⟩ : ∃ d : Int, ∀ t : Int, movX k T r t = t - d := by
      unfold movX
      by_cases hc : k = 2 ∧ ¬ (r : Int) < (T : Int) / 2
      · exact ⟨r + 1, fun t => by rw [if_pos hc]; omega⟩
      · exact ⟨r, fun t => by rw [if_neg hc]⟩
    have m1 := Int.emod_nonneg (p - T - 1 + d) (show (T : Int) ≠ 0 by omega)
    have m2 := Int.emod_lt_of_pos (p - T - 1 + d) hT
    refine countP_is_one (rowL_pw fun t t' h1 h2 hne => ?_) ⟨rowX k T r ((p - T - 1 + d) % T).toNat, ?_, ?_⟩
    · rintro ⟨a, b⟩
      unfold rowX at a b
      simp only [beq_iff_eq] at a b
      have := movX_inj (k := k) (T := T) (n := n) (r := r) (t := t) (t' := t') hD hn (by omega) (by omega) (by omega) (by omega)
      omega
    · unfold rowL
      exact List.mem_map.2 ⟨((p - T - 1 + d) % T).toNat, List.mem_range.2 (by omega), rfl⟩
    · unfold rowX
      simp only [beq_iff_eq]
      rw [hd, Int.toNat_of_nonneg m1, Int.sub_emod, Int.emod_emod, ← Int.sub_emod, show p - T - 1 + d - d = p - T - 1 by omega, Int.emod_eq_of_lt (by omega) (by omega)]
      omega
  · rw [if_neg h, List.countP_eq_zero]
    intro x hx
    obtain ⟨t, ht, rfl⟩ := List.mem_map.1 hx
    have m1 := Int.emod_nonneg (movX k T r t) (show (T : Int) ≠ 0 by omega)
    have m2 := Int.emod_lt_of_pos (movX k T r t) hT
    unfold rowX
    simp only [beq_iff_eq]
    omega
def cntP (L : List Rw) (p : Int) : Int := (L.countP (fun x => x.ns == p) : Int) + L.countP (fun x => x.ew == p)
theorem cnt_rows {k : Int} {T N : Nat} (hD : Dsg k T) (hN : (N : Int) ≤ T - fewK k) {p : Int} : ∀ n, n ≤ N → cntP (rowsX k T n) p = if 1 ≤ p ∧ p ≤ 2 * T then n else 0 := by
  intro n
  induction n with
  | zero => intro _; simp [rowsX, cntP]
  | succ n ih =>
    intro hn
    have h1 := ih (by omega)
    have h2 := rowL_ns (k := k) (T := T) (r := n) (p := p)
    have h3 := rowL_ew (k := k) (T := T) (r := n) (n := N) (p := p) hD hN (by omega)
    unfold cntP at h1 ⊢
    simp only [rowsX_succ, List.countP_append, Int.toNat_natCast, h2, h3]
    generalize (rowsX k T n).countP (fun x => x.ns == p) = u at *
    generalize (rowsX k T n).countP (fun x => x.ew == p) = v at *
    clear h2 h3
    split at h1 <;> (repeat' split) <;> omega
theorem prs_rows {k : Int} {T N : Nat} (hD : Dsg k T) (hN : (N : Int) ≤ T - fewK k) (h1 : 1 ≤ N) : (prs (rowsX k T N)).length = 2 * T := by
  have e : prs (rowsX k T N) = (List.range (2 * T)).map fun i : Nat => (i : Int) + 1 := by
    refine Inc.ext (srt_inc _) ?_ fun p => ?_
    · unfold Inc
      rw [List.pairwise_map]
      exact (List.pairwise_lt_range (n := 2 * T)).imp fun h => by omega
    · rw [prs_mem]
      have hc := cnt_rows hD hN (p := p) N (Nat.le_refl _)
      constructor
      · rintro ⟨h2, x, hx, h3⟩
        have := (fair_rows hD hN).rng x hx
        exact List.mem_map.2 ⟨(p - 1).toNat, List.mem_range.2 (by omega), by omega⟩
      · intro h2
        obtain ⟨i, hi, rfl⟩ := List.mem_map.1 h2
        have := List.mem_range.1 hi
        rw [if_pos (by omega)] at hc
        refine ⟨by omega, ?_⟩
        unfold cntP at hc
        by_cases h3 : 0 < (rowsX k T N).countP (fun x => x.ns == (i : Int) + 1)
        · obtain ⟨x, hx, hp⟩ := List.countP_pos_iff.1 h3
          exact ⟨x, hx, .inl (by simpa using hp)⟩
        · have h4 : 0 < (rowsX k T N).countP (fun x => x.ew == (i : Int) + 1) := by omega
          obtain ⟨x, hx, hp⟩ := List.countP_pos_iff.1 h4
          exact ⟨x, hx, .inr (by simpa using hp)⟩
  rw [e]; simp
theorem mitchellFull_fun (t k : Int) (ht : 0 ≤ t ∧ t < 256) (hk : 0 ≤ k ∧ k < 256) : FN 4 [.int .u8 t, .int .u8 k] (fun v => v = .bool true) := by
  refine IFun.of_bodyZ false 15 [16, 46, 53, 54, 55, 56, 78, 107] Try.func4 rfl Try.call4 rfl fun R hR => ?_
  have e1 : k.tmod 3 = k % 3 := Int.tmod_eq_emod_of_nonneg hk.1
  have w1 : IntKind.u8.wrap (k % 3) = k % 3 := by rw [IntKind.wrap_u8]; omega
  have w2 : IntKind.u8.wrap (1 + k % 3) = 1 + k % 3 := by rw [IntKind.wrap_u8]; omega
  obtain ⟨K, hK⟩ : ∃ K, 1 + k % 3 = K := ⟨_, rfl⟩
  have hKr : K = 1 ∨ K = 2 ∨ K = 3 := by omega
  have w2' : IntKind.u8.wrap K = K := by rw [IntKind.wrap_u8]; omega
  simp [go_sem, e1, w1, w2', hK]
  refine awake_fun25.callF (by simp [go_sem]) ?_
  rintro _ rfl
  simp [go_sem, e1, w1, w2', hK]
  refine (made_fun t 0 K ht (by omega) (by omega)).callM (by simp [go_sem]) ?_
  rintro _ rfl
  obtain ⟨T, N, hM, _, _, hJ, _⟩ := made_is (t := t) (r := 0) (k := K) ht.1 (by omega) (by omega)
  rw [show max (K % 4) 1 = K by omega] at hJ
  rw [hJ] at hM
  obtain ⟨h1, h2, h3, h4, h5, h6⟩ := hM.head
  have hD := hM.dsg
  have hle := hM.le
  have hT2 := hD.2
  generalize mdM t 0 K = M at *
  generalize decide (mdK t K = 0) = rov at *
  obtain ⟨ta, ro, se, co, wi, L⟩ := M
  simp only at h1 h2 h3 h4 h5 h6
  subst h1 h3 h4
  have hfew : fewK K = 0 ∨ fewK K = 1 := by unfold fewK; split <;> simp
  have hmost : mostK T K = T - fewK K := by unfold mostK; rw [if_pos (findE_dsg hD (by omega))]
  obtain ⟨n, hn⟩ : ∃ n : Nat, (T : Int) - fewK K = n := ⟨((T : Int) - fewK K).toNat, by omega⟩
  rw [hn] at hmost
  have hn1 : 1 ≤ n := by omega
  have hnT : (n : Int) ≤ T - fewK K := by omega
  have hF := fair_rows (n := n) hD hnT
  have hF2 : Fair T n T (copK K) (2 * T + 1) (rowsX K T n) := ⟨fun x hx => by have := hF.rng x hx; omega, hF.pw, hF.load⟩
  have hb : n * T ≤ 24 * 24 := Nat.mul_le_mul (by omega) hle
  have hLl : (rowsX K T n).length = n * T := by rw [rowsX_length]; simp
  have cf := fair_fun ⟨T, n, T, copK K, 2, rowsX K T n⟩ hF2 (by omega) (by simp [hLl]; omega)
  have cp := pairs_fun ⟨T, n, T, copK K, 2, rowsX K T n⟩ (by simp [hLl]; omega)
  have hpr := prs_rows hD hnT hn1
  have hcnt := fun p => cnt_rows hD hnT (p := p) n (Nat.le_refl _)
  simp only [Mv.v] at cf cp
  simp [go_sem, Mv.v]
  refine (most_fun T K (by omega)).callF (by simp [go_sem]) ?_
  rintro _ rfl
  rw [hmost, findE_dsg hD (by omega)]
  simp [go_sem]
  refine (make_fun T n K (by omega)).callF (by simp [go_sem]) ?_
  rintro _ rfl
  rw [makeE_dsg hD (by omega) (by omega) hnT, makeM_dsg hD (by omega) (by omega) hnT, Int.toNat_natCast]
  have w3 : IntKind.i64.wrap (2 * (T : Int)) = 2 * T := wrap64 (by omega) (by omega)
  have w4 : IntKind.i64.wrap (2 * (T : Int) + 1) = ((2 * T + 1 : Nat) : Int) := by rw [wrap64 (by omega) (by omega)]; push_cast; rfl
  have w0 : IntKind.i64.wrap 0 = 0 := rfl
  obtain ⟨S, hS⟩ : ∃ S, 2 * T + 1 = S := ⟨_, rfl⟩
  rw [hS] at w4
  have hrng := hF.rng
  have hns : ∀ x ∈ rowsX K T n, 1 ≤ x.ns := fun x hx => by
    obtain ⟨r, t, _, _, rfl⟩ := rowsX_mem (by omega) hx
    unfold rowX; simp only; omega
  generalize rowsX K T n = X at *
  simp [go_sem, Mv.v, w0]
  refine cf.callF (by simp [go_sem]) ?_
  rintro _ rfl
  simp [go_sem, w3, w4]
  refine ⟨by omega, ?_⟩
  obtain ⟨g, hg⟩ : ∃ g : Nat → Nat → Int, g = fun i (p : Nat) => cntP (X.take i) p := ⟨_, rfl⟩
  have hg0 : ∀ p, g 0 p = 0 := fun p => by rw [hg]; simp [cntP]
  have hgX : ∀ p, g X.length p = cntP X p := fun p => by rw [hg]; simp
  have hgs : ∀ i (h : i < X.length) p, g (i + 1) p = g i p + (if X[i].ns = p then 1 else 0) + if X[i].ew = p then 1 else 0 := fun i h p => by
    rw [hg]
    simp only [cntP, take_countP h, beq_iff_eq]
    split <;> split <;> simp <;> omega
  have hgb : ∀ i p, 0 ≤ g i p ∧ g i p ≤ 2000 := fun i p => by
    rw [hg]
    simp only [cntP]
    have a := List.countP_le_length (p := fun x : Rw => x.ns == (p : Int)) (l := X.take i)
    have b := List.countP_le_length (p := fun x : Rw => x.ew == (p : Int)) (l := X.take i)
    rw [List.length_take] at a b
    omega
  clear hg
  rw [ar_rep (v := .int .i64 0)]
  refine IWp.loopT (α := Nat) (fun i => (⟨false, 115, 15, [16, 46, 53, 54, 55, 56, 78, 107], [], [(5, .int .u8 K), (6, .ptr 0 1 0 0), (7, .int .i64 n), (9, .ptr 1 1 0 0), (11, .sl 2 S 0 S none), (53, .fz 5 (rws X)), (54, .int .i64 X.length), (55, .int .i64 (i : Int))], []⟩,
      [.rows 6 [[.int .i64 T, .int .i64 ro, .int .i64 T, .int .i64 co, .int .i64 2, .fz 5 (rws L)]], .rows 6 [[.int .i64 T, .int .i64 n, .int .i64 T, .int .i64 (copK K), .int .i64 2, .fz 5 (rws X)]], .rows 1 (ar S fun p => .int .i64 (g i p))]))
    (fun i => i ≤ X.length) (fun i => X.length - i) 0 (by simp) (by simp [go_sem, hg0]) ?_
  intro i hi
  by_cases h : i < X.length
  · have wi : IntKind.i64.wrap ((i : Int) + 1) = i + 1 := wrap64 (by omega) (by omega)
    have hr := hrng X[i] (List.getElem_mem h)
    have hn1x := hns X[i] (List.getElem_mem h)
    have hs := hgs i h
    have gb := hgb i
    generalize hx : X[i] = x at *
    obtain ⟨a, ha⟩ : ∃ a : Nat, x.ns = a := ⟨x.ns.toNat, by omega⟩
    obtain ⟨b, hb2⟩ : ∃ b : Nat, x.ew = b := ⟨x.ew.toNat, by omega⟩
    simp only [ha, hb2] at hs hr hn1x
    have haS : a < S := by omega
    have hbS : b < S := by omega
    have wa : IntKind.i64.wrap (g i a + 1) = g i a + 1 := wrap64 (by have := gb a; omega) (by have := gb a; omega)
    have wb : IntKind.i64.wrap (g i b + 1) = g i b + 1 := wrap64 (by have := gb b; omega) (by have := gb b; omega)
    have hab : ¬ b = a := fun e => by have := hr.2.2.2.2.2 (by rw [e]); omega
    simp [go_sem, h, hx, ha, hb2, haS, hbS, wa, wb, wi, ar_set, upF_int, hab]
    refine ⟨i + 1, ⟨by simp, ?_⟩, by omega, by omega⟩
    congr 1
    funext j
    rw [hs j]
    by_cases b1 : j = b
    · subst b1
      have : ¬ (a : Int) = j := by omega
      simp [this]
    · by_cases b2 : j = a
      · subst b2
        have : ¬ (b : Int) = j := by omega
        simp [this, b1]
      · have c1 : ¬ (a : Int) = j := by omega
        have c2 : ¬ (b : Int) = j := by omega
        simp [b1, b2, c1, c2]
  have : i = X.length := by omega
  subst this
  have hkk : K = 2 ↔ fewK K = 1 := by unfold fewK; split <;> omega
  simp [go_sem]
  refine IWp.loopT (α := Nat) (fun p => (⟨false, 115, 15, [16, 46, 53, 54, 55, 56, 78, 107], [], [(5, .int .u8 K), (6, .ptr 0 1 0 0), (7, .int .i64 n), (9, .ptr 1 1 0 0), (11, .sl 2 S 0 S none), (14, .int .i64 (p : Int))], []⟩,
      [.rows 6 [[.int .i64 T, .int .i64 ro, .int .i64 T, .int .i64 co, .int .i64 2, .fz 5 (rws L)]], .rows 6 [[.int .i64 T, .int .i64 n, .int .i64 T, .int .i64 (copK K), .int .i64 2, .fz 5 (rws X)]], .rows 1 (ar S fun p => .int .i64 (g X.length p))]))
    (fun p => 1 ≤ p ∧ p ≤ S) (fun p => S - p) 1 (by omega) (by simp [go_sem]) ?_
  rintro p ⟨hp1, hp2⟩
  by_cases h2 : p < S
  · have wp : IntKind.i64.wrap ((p : Int) + 1) = p + 1 := wrap64 (by omega) (by omega)
    have hgp : g X.length p = n := by rw [hgX, hcnt, if_pos (by omega)]
    have hpI : (p : Int) ≤ 2 * T := by omega
    by_cases hk2 : K = 2
    · have hnn : (n : Int) = T - 1 := by have := hkk.1 hk2; omega
      have w5 : IntKind.i64.wrap ((T : Int) - 1) = n := by rw [hnn]; exact wrap64 (by omega) (by omega)
      simp [go_sem, w3, hpI, h2, hgp, hk2, w5, wp]
      exact ⟨p + 1, by simp, by omega, by omega⟩
    · have hnn : n = T := by have := (not_congr hkk).1 hk2; omega
      simp [go_sem, w3, hpI, h2, hgp, hk2, hnn, wp]
      exact ⟨p + 1, by simp, by omega, by omega⟩
  · have hpI : ¬ (p : Int) ≤ 2 * T := by omega
    simp [go_sem, w3, hpI]
    have hp0 := prs_len X
    generalize prs X = A at *
    refine Drawn.intro (fun k => if k = 1 then .fz 1 (ints A) else .tup []) ?_
    simp [go_sem, cp, hpr, w3]
    exact ⟨by decide +kernel, hR _ _ _ rfl (by simp [go_sem])⟩
theorem mitchellFull_law (t k : Int) (h0 : (Lit.int .u8 t).wf = true) (h1 : (Lit.int .u8 k).wf = true) : FN 4 [.int .u8 t, .int .u8 k] (fun v => v = .bool true) := mitchellFull_fun t k (wf8 h0) (wf8 h1)
end Go.Idl
