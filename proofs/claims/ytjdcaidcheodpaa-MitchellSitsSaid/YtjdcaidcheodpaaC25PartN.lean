/-
  Chapter 25: roving; MitchellBegins.
-/
import Derived.Test.YtjdcaidcheodpaaC25PartL
import Derived.Test.YtjdcaidcheodpaaC25PartC
import Derived.Test.YtjdcaidcheodpaaC25PartG
import Derived.Test.YtjdcaidcheodpaaC25PartH
namespace Go.Idl
set_option linter.all false
open Go.Proofs
set_option maxHeartbeats 8000000
set_option maxRecDepth 40000

theorem made_roving {M : Mv} {K : Int} {rov : Bool} {T N : Nat} (h : IsMade M K rov T N) : (2 * (T : Int) + 1 ∈ prs M.rows) = (rov = true) := by
  have hT : 0 < T := by have := h.dsg.2; omega
  apply propext
  rw [prs_mem]
  cases rov with
  | true =>
    simp only [iff_true]
    obtain ⟨_, _, _, h6⟩ := h.yes rfl
    refine ⟨by omega, rovF T (rowX 1 T 0 0), ?_, .inl ?_⟩
    · rw [h6]
      refine List.mem_map.2 ⟨_, ?_, rfl⟩
      rw [List.mem_iff_getElem]
      refine ⟨0, by rw [rowsX_length]; have := h.n1; simp; exact Nat.mul_pos (by omega) hT, ?_⟩
      rw [rowsX_get hT]; simp
    · rw [rovF_r.2.2.2.2]
      simp [rowX]
  | false =>
    simp only [Bool.false_eq_true, iff_false]
    rintro ⟨_, x, hx, e⟩
    rw [h.no rfl] at hx
    have := (fair_rows (n := N) h.dsg h.nT).rng x hx
    omega
theorem roving_fun {M : Mv} {K : Int} {rov : Bool} {T N : Nat} (h : IsMade M K rov T N) : FN 22 [M.v] (fun v => v = .bool rov) := by
  refine IFun.of_bodyZ false 3 [] Try.func22 rfl Try.call22 rfl fun R hR => ?_
  have hl := h.len
  have hp := prs_len M.rows
  have c1 := pairs_fun M (by omega)
  have c2 := containsInts_fun (prs M.rows) (2 * T + 1) (by omega)
  have hr : decide (2 * (T : Int) + 1 ∈ prs M.rows) = rov := by
    have := made_roving h
    cases rov <;> simpa using this
  rw [hr] at c2
  have ht := h.head.1
  have hT := h.le
  obtain ⟨ta, ro, se, co, wi, L⟩ := M
  simp only at ht
  subst ht
  have w1 : IntKind.i64.wrap (2 * (T : Int)) = 2 * T := wrap64 (by omega) (by omega)
  have w2 : IntKind.i64.wrap (2 * (T : Int) + 1) = 2 * T + 1 := wrap64 (by omega) (by omega)
  simp only [Mv.v] at c1
  generalize prs L = A at *
  simp [go_sem, Mv.v]
  refine Drawn.intro (fun k => if k = 1 then .fz 1 (ints A) else if k = 6 then .bool rov else .tup []) ?_
  simp [go_sem, c1, w1, w2]
  refine ⟨.inl (by simpa using c2), by decide +kernel, hR _ _ _ rfl (by simp [go_sem])⟩
theorem rowsX_take {k : Int} {T n m : Nat} (h : m ≤ n) : (rowsX k T n).take (m * T) = rowsX k T m := by
  obtain ⟨L, h1, _⟩ := rowsX_split k T n m h
  rw [h1, List.take_append_of_le_length (by rw [rowsX_length]; simp), List.take_of_length_le (by rw [rowsX_length]; simp)]
theorem mitchellBegins_fun (t r k l : Int) (ht : 0 ≤ t ∧ t < 256) (hr : 0 ≤ r ∧ r < 256) (hk : 0 ≤ k ∧ k < 256) (hl : 0 ≤ l ∧ l < 256) : FN 8 [.int .u8 t, .int .u8 r, .int .u8 k, .int .u8 l] (fun v => v = .bool true) := by
  refine IFun.of_bodyZ false 13 [14, 26] Try.func8 rfl Try.call8 rfl fun R hR => ?_
  simp [go_sem]
  refine awake_fun25.callF (by simp [go_sem]) ?_
  rintro _ rfl
  simp [go_sem]
  refine (made_fun t r k ht hr hk).callM (by simp [go_sem]) ?_
  rintro _ rfl
  obtain ⟨T, N, hM, _, _, hK, _⟩ := made_is (t := t) (r := r) (k := k) ht.1 hr.1 hk.1
  have rv := roving_fun hM
  obtain ⟨h1, h2, h3, h4, h5, h6⟩ := hM.head
  have hlen := hM.len
  have hn1 := hM.n1
  have hnT := hM.nT
  have hle := hM.le
  have hNT := hM.nle
  generalize hMM : mdM t r k = M at *
  generalize hrov : decide (mdK t k = 0) = rov at *
  obtain ⟨ta, ro, se, co, wi, L⟩ := M
  simp only at h1 h2 h3 h4 h5 h6
  subst h1 h2 h3 h4
  have e1 : l.tmod N = l % N := Int.tmod_eq_emod_of_nonneg hl.1
  have hm0 := Int.emod_nonneg l (show (N : Int) ≠ 0 by omega)
  have hm1 := Int.emod_lt_of_pos l (show (0 : Int) < N by omega)
  obtain ⟨n, hn⟩ : ∃ n : Nat, 1 + l % (N : Int) = n := ⟨(1 + l % (N : Int)).toNat, by omega⟩
  have w1 : IntKind.i64.wrap l = l := wrap64 (by omega) (by omega)
  have w2 : IntKind.i64.wrap (l % N) = l % N := wrap64 (by omega) (by omega)
  have w3 : IntKind.i64.wrap (1 + l % N) = n := by rw [← hn]; exact wrap64 (by omega) (by omega)
  have hN0 : ¬ (N : Int) = 0 := by omega
  have hN0' : ¬ N = 0 := by omega
  simp [go_sem, Mv.v, e1, w1, w2, w3, hN0, hN0']
  refine rv.callF (by simp [go_sem, Mv.v]) ?_
  rintro _ rfl
  have hnN : 1 ≤ n ∧ n ≤ N := by omega
  have hnm : n * T ≤ N * T := Nat.mul_le_mul_right T hnN.2
  have hnm2 : n * T ≤ 24 * 24 := Nat.mul_le_mul (by omega) (by omega)
  have w4 : IntKind.i64.wrap ((n : Int) * T) = ((n * T : Nat) : Int) := by rw [wrap64 (by omega) (by omega)]; push_cast; rfl
  have hcut : ∀ X : List Rw, L.take (n * T) = X → List.take (n * T) (rws L) = rws X := fun X e => by rw [← e, rws_take]
  obtain ⟨q, hq⟩ : ∃ q, n * T = q := ⟨_, rfl⟩
  rw [hq] at w4 hcut hnm hnm2
  have ql : q ≤ L.length := by omega
  cases rov with
  | true =>
    obtain ⟨hK1, hT3, _, hMe⟩ := hM.yes rfl
    have hD := hM.dsg
    rw [hK1] at hD
    simp only [Mv.mk.injEq, true_and] at hMe
    obtain ⟨rfl, hL⟩ := hMe
    simp [go_sem]
    refine (rover_fun T n).callF (by simp [go_sem]) ?_
    rintro _ rfl
    rw [roverE_dsg hD (by omega) (by omega) (by omega) (by omega), roverM_dsg hD (by omega) (by omega) (by omega) (by omega), Int.toNat_natCast]
    have hX : L.take q = (rowsX 1 T n).map (rovF T) := by rw [hL, ← List.map_take, ← hq, rowsX_take hnN.2]
    have hX2 := hcut _ hX
    have cs := sameMovement_fun ⟨T, n, T, 1, 2, (rowsX 1 T n).map (rovF T)⟩ ⟨T, n, T, 1, 2, (rowsX 1 T n).map (rovF T)⟩ (by simp [rowsX_length]; omega)
    simp only [Mv.v] at cs
    simp [go_sem, Mv.v, w4, ql, hX2]
    refine ⟨by decide +kernel, ?_⟩
    refine cs.callF (by simp [go_sem]) ?_
    rintro _ rfl
    simp [go_sem]
    exact hR _ _ _ rfl (by simp [go_sem])
  | false =>
    have hMe := hM.no rfl
    simp only [Mv.mk.injEq, true_and] at hMe
    obtain ⟨rfl, hL⟩ := hMe
    have e2 : k.tmod 4 = k % 4 := Int.tmod_eq_emod_of_nonneg hk.1
    have w5 : IntKind.u8.wrap (k % 4) = k % 4 := by rw [IntKind.wrap_u8]; omega
    have hmx : (if k % 4 < 1 then 1 else k % 4) = max (mdK t k) 1 := by rw [hK, Int.max_def]; split <;> split <;> omega
    have hD := hM.dsg
    generalize max (mdK t k) 1 = K at *
    have hKr : 0 ≤ K ∧ K < 256 := by have := hD.1; omega
    simp [go_sem, e2, w5, hmx]
    refine (make_fun T n K hKr).callF (by simp [go_sem]) ?_
    rintro _ rfl
    rw [makeE_dsg hD (by omega) (by omega) (by omega), makeM_dsg hD (by omega) (by omega) (by omega), Int.toNat_natCast]
    have hX : L.take q = rowsX K T n := by rw [hL, ← hq, rowsX_take hnN.2]
    have hX2 := hcut _ hX
    have cs := sameMovement_fun ⟨T, n, T, copK K, 2, rowsX K T n⟩ ⟨T, n, T, copK K, 2, rowsX K T n⟩ (by simp [rowsX_length]; omega)
    simp only [Mv.v] at cs
    simp [go_sem, Mv.v, w4, ql, hX2]
    refine ⟨by decide +kernel, ?_⟩
    refine cs.callF (by simp [go_sem]) ?_
    rintro _ rfl
    simp [go_sem]
    exact hR _ _ _ rfl (by simp [go_sem])
theorem mitchellBegins_law (t r k l : Int) (h0 : (Lit.int .u8 t).wf = true) (h1 : (Lit.int .u8 r).wf = true) (h2 : (Lit.int .u8 k).wf = true) (h3 : (Lit.int .u8 l).wf = true) : FN 8 [.int .u8 t, .int .u8 r, .int .u8 k, .int .u8 l] (fun v => v = .bool true) := mitchellBegins_fun t r k l (wf8 h0) (wf8 h1) (wf8 h2) (wf8 h3)
end Go.Idl
