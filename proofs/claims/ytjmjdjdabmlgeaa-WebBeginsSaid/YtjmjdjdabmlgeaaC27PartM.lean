/-
  Chapter 27: WebBegins.
-/
import Derived.Test.YtjmjdjdabmlgeaaC27PartI
import Derived.Test.YtjmjdjdabmlgeaaC27PartK
import Derived.Test.YtjmjdjdabmlgeaaC27PartB
import Derived.Test.YtjmjdjdabmlgeaaC27PartL
namespace Go.Idl
set_option linter.all false
open Go.Proofs
set_option maxHeartbeats 8000000
set_option maxRecDepth 40000

theorem webX_take {k : Int} {T : Nat} : ∀ {n N : Nat}, n ≤ N → (Web.rowsX k T N).take (n * T) = Web.rowsX k T n
  | n, 0, h => by obtain rfl : n = 0 := by omega
                  simp [Web.rowsX]
  | n, N + 1, h => by
    by_cases e : n = N + 1
    · subst e
      exact List.take_of_length_le (by rw [Web.rowsX_length]; omega)
    · have hle : n * T ≤ (Web.rowsX k T N).length := by rw [Web.rowsX_length]; exact Nat.mul_le_mul_right T (by omega)
      simp only [Web.rowsX]
      rw [List.take_append_of_le_length hle]
      exact webX_take (by omega)
theorem webBegins_fun (t r k l : Int) (ht : 0 ≤ t ∧ t < 256) (hr : 0 ≤ r ∧ r < 256) (hk : 0 ≤ k ∧ k < 256) (hl : 0 ≤ l ∧ l < 256) : FN 7 [.int .u8 t, .int .u8 r, .int .u8 k, .int .u8 l] (fun v => v = .bool true) := by
  refine IFun.of_bodyW false 14 [15] Try.func7 rfl Try.call7 rfl fun R hR => ?_
  have cm := wmade_fun t r k ht hr hk
  obtain ⟨T, N, S, hM⟩ := made27 t r k ht.1 hr.1 hk.1
  have hW := hM.wk
  have hN1 := hM.n1
  have hT2 := hW.2
  have hN24 := hM.n24
  rw [hM.eq] at cm
  have hnm := hM.nm
  have hSe := hM.s
  have hK : Web.mK k = 1 ∨ Web.mK k = 2 ∨ Web.mK k = 3 := by unfold Web.mK; omega
  obtain ⟨n, hn⟩ : ∃ n : Nat, 1 + l % (N : Int) = n := ⟨(1 + l % (N : Int)).toNat, by have := Int.emod_nonneg l (show (N : Int) ≠ 0 by omega); omega⟩
  have hnN : 1 ≤ n ∧ n ≤ N := by
    have := Int.emod_nonneg l (show (N : Int) ≠ 0 by omega)
    have := Int.emod_lt_of_pos l (show 0 < (N : Int) by omega)
    omega
  have e1 : l.tmod N = l % N := Int.tmod_eq_emod_of_nonneg hl.1
  have w0 : IntKind.i64.wrap l = l := wrap64 (by omega) (by omega)
  have w1 : IntKind.i64.wrap (l % N) = l % N := by
    have := Int.emod_nonneg l (show (N : Int) ≠ 0 by omega)
    have := Int.emod_lt_of_pos l (show 0 < (N : Int) by omega)
    exact wrap64 (by omega) (by omega)
  have w2 : IntKind.i64.wrap (1 + l % N) = (n : Int) := by rw [hn]; exact wrap64 (by omega) (by omega)
  have hnT : n * T ≤ 24 * 24 := Nat.mul_le_mul (by omega) (by omega)
  have hnT2 : n * T ≤ N * T := Nat.mul_le_mul_right T hnN.2
  have w3 : IntKind.i64.wrap ((n : Int) * T) = ((n * T : Nat) : Int) := by rw [← Int.natCast_mul]; exact wrap64 (by omega) (by omega)
  obtain ⟨q, hq⟩ : ∃ q, n * T = q := ⟨_, rfl⟩
  have hf : Web.findE T (Web.mK k) = 0 := by
    obtain ⟨h, h2⟩ := hW
    unfold Web.findE
    rcases h with ⟨h, h3⟩ | ⟨h, h3⟩ | h <;> simp [h] <;> omega
  have hmE : Web.makeE (Web.mK k) T n = 0 := by
    unfold Web.makeE
    rw [if_neg (by simpa using hf), if_neg (by omega), if_neg (by omega)]
  have ck := wmake_fun T n (Web.mK k) (by omega)
  have hmM : Web.makeM (Web.mK k) T n = ⟨T, n, S, Web.cops T (Web.mK k), 2, Web.rowsX (Web.mK k) T n⟩ := by
    unfold Web.makeM
    rw [if_pos hmE, hSe]
    simp
  rw [hmM, hmE] at ck
  have hX := webX_take (k := Web.mK k) (T := T) hnN.2
  have hll := Web.rowsX_length (k := Web.mK k) (T := T) N
  have hll2 := Web.rowsX_length (k := Web.mK k) (T := T) n
  have cs := sameMovement_fun ⟨T, n, S, Web.cops T (Web.mK k), 2, Web.rowsX (Web.mK k) T n⟩ ⟨T, n, S, Web.cops T (Web.mK k), 2, Web.rowsX (Web.mK k) T n⟩ (by simp only; omega)
  rw [hq] at w3 hX hnT2
  clear hM hmE hmM hf
  generalize Web.rowsX (Web.mK k) T N = L at *
  generalize Web.rowsX (Web.mK k) T n = L2 at *
  generalize Web.cops T (Web.mK k) = C at *
  generalize Web.mK k = K at *
  have hql : q ≤ L.length := by omega
  simp only [Mv.v] at *
  refine IWp.seqI ?_
  simp [go_sem]
  refine IWp.seqI ?_
  simp [go_sem]
  refine awake27_fun.callF (by simp [go_sem]) ?_
  rintro _ rfl
  simp [go_sem]
  refine IWp.seqI ?_
  simp [go_sem]
  refine cm.callM (by simp [go_sem]) ?_
  rintro _ rfl
  simp [go_sem]
  have hN0 : ¬ N = 0 := by omega
  have hmx : (if (N : Int) < 1 then (1 : Int) else (N : Int)) = N := by rw [if_neg (by omega)]
  have hmx2 : max (N : Int) 1 = N := by omega
  refine IWp.seqI ?_
  simp [go_sem, e1, w0, w1, w2, hN0, hmx, hmx2]
  refine IWp.seqI ?_
  simp [go_sem]
  refine ck.callF (by simp [go_sem]) ?_
  rintro _ rfl
  simp [go_sem]
  have hX2 : (rws L).take q = rws L2 := by rw [← rws_take, hX]
  refine IWp.seqI ?_
  simp [go_sem, w3, hql, hX2]
  refine ⟨by decide +kernel, ?_⟩
  refine IWp.now ?_
  simp [go_sem]
  refine cs.callF (by simp [go_sem]) ?_
  rintro _ rfl
  simp [go_sem]
  exact hR _ _ _ rfl (by simp [go_sem])
theorem webBegins_law (t r k l : Int) (h0 : (Lit.int .u8 t).wf = true) (h1 : (Lit.int .u8 r).wf = true) (h2 : (Lit.int .u8 k).wf = true) (h3 : (Lit.int .u8 l).wf = true) : FN 7 [.int .u8 t, .int .u8 r, .int .u8 k, .int .u8 l] (fun v => v = .bool true) := webBegins_fun t r k l (wf8 h0) (wf8 h1) (wf8 h2) (wf8 h3)
end Go.Idl
