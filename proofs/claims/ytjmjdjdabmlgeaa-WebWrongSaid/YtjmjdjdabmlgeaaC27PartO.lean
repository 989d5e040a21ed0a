/-
  Chapter 27: WebWrong.
-/
import Derived.Test.YtjmjdjdabmlgeaaC27PartI
import Derived.Test.YtjmjdjdabmlgeaaC27PartK
import Derived.Test.YtjmjdjdabmlgeaaC27PartB
import Derived.Test.YtjmjdjdabmlgeaaC27PartL
namespace Go.Idl
set_option linter.all false
open Go.Proofs
set_option maxHeartbeats 8000000
set_option maxRecDepth 40000

/-- Numbers that there are not, and what is said of them. -/
structure Bad where
  t : Int
  n : Int
  k : Int
  e : Int
def Bad.c (x : Bad) : List IV := [.int .i64 x.t, .int .i64 x.n, .int .u8 x.k, .int .i64 x.e]
def bads (l : List Bad) : List (List IV) := mp Bad.c l
@[simp] theorem bads_length (l : List Bad) : (bads l).length = l.length := mp_length
@[go_sem] theorem ScR_bads {l : List Bad} : ScR (bads l) = True := eq_true (mp_sc (by simp [scal, Bad.c]))
@[go_sem] theorem ClR_bads {l : List Bad} : ClR (bads l) = True := eq_true (ScR.cl (mp_sc (by simp [scal, Bad.c])))
@[go_sem] theorem BlR_bads {n : Nat} {l : List Bad} : BlR n (bads l) = True := eq_true (ScR.bl (mp_sc (by simp [scal, Bad.c])))
@[simp] theorem bads_getElem (l : List Bad) (i : Nat) (h : i < (bads l).length) : (bads l)[i] = [.int .i64 (l[i]'(by simpa using h)).t, .int .i64 (l[i]'(by simpa using h)).n, .int .u8 (l[i]'(by simpa using h)).k, .int .i64 (l[i]'(by simpa using h)).e] := by simp [bads, mp, Bad.c]
def Bad.ok (x : Bad) : Prop := (0 ≤ x.k ∧ x.k < 256) ∧ Web.makeE x.k x.t x.n = (if x.t = 25 then 2 else x.e) ∧ x.e ≠ 0
theorem or_one27 {T : Int} (h : 0 ≤ T ∧ T ≤ 24) : bitsOf .or .i64 T 1 = if T % 2 = 1 then T else T + 1 := by
  obtain ⟨n, rfl⟩ : ∃ n : Nat, T = n := ⟨T.toNat, by omega⟩
  have : ∀ m : Fin 25, bitsOf .or .i64 (m.val : Int) 1 = if (m.val : Int) % 2 = 1 then (m.val : Int) else m.val + 1 := by decide +kernel
  exact this ⟨n, by omega⟩
theorem webWrong_fun (n t k : Int) (hn : -2 ^ 63 ≤ n ∧ n < 2 ^ 63) (ht : 0 ≤ t ∧ t < 256) (hk : 0 ≤ k ∧ k < 256) : FN 9 [.int .i64 n, .int .u8 t, .int .u8 k] (fun v => v = .bool true) := by
  refine IFun.of_bodyW false 16 [17, 30, 75, 76, 77, 78, 83, 104] Try.func9 rfl Try.call9 rfl fun R hR => ?_
  have cm := wmade_fun t 0 k ht (by decide) hk
  obtain ⟨T, N, S, hM⟩ := made27 t 0 k ht.1 (by decide) hk.1
  have hW := hM.wk
  have hT2 := hW.2
  rw [hM.eq] at cm
  have hK : Web.mK k = 1 ∨ Web.mK k = 2 ∨ Web.mK k = 3 := by unfold Web.mK; omega
  have hf : Web.findE T (Web.mK k) = 0 := by
    obtain ⟨h, h2⟩ := hW
    unfold Web.findE
    rcases h with ⟨h, h3⟩ | ⟨h, h3⟩ | h <;> simp [h] <;> omega
  have hmp : 1 ≤ Web.most T (Web.mK k) ∧ Web.most T (Web.mK k) ≤ 24 := by
    have := hM.n1; have := hM.nm; have := Web.most_le hW; omega
  have co := wmost_fun T (Web.mK k) (by omega)
  rw [if_pos hf, hf] at co
  clear hM
  generalize Web.rowsX (Web.mK k) T N = L at *
  generalize Web.cops T (Web.mK k) = C at *
  generalize Web.mK k = K at *
  generalize hmo : Web.most T K = mo at *
  simp only [Mv.v] at *
  refine IWp.seqI ?_
  simp [go_sem]
  refine IWp.seqI ?_
  simp [go_sem]
  refine awake27_fun.callF (by simp [go_sem]) ?_
  rintro _ rfl
  simp [go_sem]
  refine IWp.seqI ?_
  simp [go_sem]
  refine cm.callM (by simp [go_sem]) ?_
  rintro _ rfl
  simp [go_sem]
  refine IWp.seqI ?_
  simp [go_sem]
  refine IWp.seqT (α := Int) (fun f => (⟨false, 112, 16, [17, 30, 75, 76, 77, 78, 83, 104], [], [(0, .int .i64 n), (2, .int .u8 k), (7, .ptr 0 1 0 0), (8, .int .u8 K), (9, .int .i64 f)], []⟩, [.rows 6 [[.int .i64 T, .int .i64 N, .int .i64 S, .int .i64 C, .int .i64 2, .fz 5 (rws L)]]])) (fun f => (f < 2 ∨ 24 < f) ∧ (-2 ^ 63 ≤ f ∧ f < 2 ^ 63)) ?_ ?_
  · by_cases h : 2 ≤ n
    · by_cases h' : n ≤ 24
      · have w : IntKind.i64.wrap (n + 24) = n + 24 := wrap64 (by omega) (by omega)
        simp [go_sem, h, h', w]
        omega
      · simp [go_sem, h, h']
        omega
    · simp [go_sem, h]
      omega
  rintro f ⟨hf1, hf2⟩
  have e1 : k.tmod 252 = k % 252 := Int.tmod_eq_emod_of_nonneg hk.1
  have v1 : IntKind.u8.wrap (k % 252) = k % 252 := by rw [IntKind.wrap_u8]; omega
  have v2 : IntKind.u8.wrap (4 + k % 252) = 4 + k % 252 := by rw [IntKind.wrap_u8]; omega
  have v3 : IntKind.i64.wrap (mo + 1) = mo + 1 := wrap64 (by omega) (by omega)
  obtain ⟨q, hq⟩ : ∃ q : Int, bitsOf .or .i64 (T : Int) 1 = q := ⟨_, rfl⟩
  have hq2 := or_one27 (T := T) (by omega)
  rw [hq] at hq2
  obtain ⟨big, hbig⟩ : ∃ big, (if n < mo + 1 then mo + 1 else n) = big := ⟨_, rfl⟩
  obtain ⟨sml, hsml⟩ : ∃ sml, (if 0 < n then 0 else n) = sml := ⟨_, rfl⟩
  refine IWp.seqI ?_
  simp [go_sem]
  refine co.callF (by simp [go_sem]) ?_
  rintro _ rfl
  simp [go_sem]
  refine IWp.seq ?_
  refine IWp.seqI ?_
  simp [go_sem, e1, v1, v2, v3, hq, hbig, hsml]
  have hf6 : ∀ T0 : Int, 2 ≤ T0 → T0 ≤ 24 → T0 % 2 = 1 → ∀ K0 n0, (K0 = 1 ∨ K0 = 2) → Web.makeE K0 T0 n0 = 6 := fun T0 a b c K0 n0 hk0 => by
    have : Web.findE T0 K0 = 6 := by
      unfold Web.findE
      rw [if_neg (by omega)]
      rcases hk0 with rfl | rfl <;> simp [c]
    unfold Web.makeE
    rw [if_pos (by rw [this]; decide), this]
  have hf2' : ∀ T0 : Int, (T0 < 2 ∨ 24 < T0) → ∀ K0 n0, Web.makeE K0 T0 n0 = 2 := fun T0 a K0 n0 => by
    have : Web.findE T0 K0 = 2 := by unfold Web.findE; rw [if_pos a]
    unfold Web.makeE
    rw [if_pos (by rw [this]; decide), this]
  have hf3 : ∀ K0 : Int, (K0 = 0 ∨ 4 ≤ K0) → ∀ T0 n0, Web.makeE K0 T0 n0 = 2 := fun K0 a T0 n0 => by
    have : Web.findE T0 K0 = 2 := by
      unfold Web.findE
      split
      · rfl
      · rw [if_neg (by omega), if_neg (by omega), if_neg (by omega)]
    unfold Web.makeE
    rw [if_pos (by rw [this]; decide), this]
  have hsm : sml < 1 := by rw [← hsml]; split <;> omega
  have hbi : mo < big := by rw [← hbig]; split <;> omega
  have hes : Web.makeE K T sml = 2 := by unfold Web.makeE; rw [if_neg (by simpa using hf), if_pos hsm]
  have heb : Web.makeE K T big = 5 := by unfold Web.makeE; rw [if_neg (by simpa using hf), if_neg (by omega), if_pos (by rw [hmo]; exact hbi)]
  have h22 : Web.makeE 2 2 1 = 6 := by decide
  have hq25 : q = 25 ∨ (2 ≤ q ∧ q ≤ 24 ∧ q % 2 = 1) := by rw [hq2]; split <;> omega
  have hT25 : ¬ (T : Int) = 25 := by omega
  have hX : ∀ x ∈ ([⟨f, 1, K, 2⟩, ⟨T, 1, 4 + k % 252, 2⟩, ⟨T, 1, 0, 2⟩, ⟨T, sml, K, 2⟩, ⟨T, big, K, 5⟩, ⟨q, 1, 1, 6⟩, ⟨q, 0, 2, 6⟩, ⟨2, 1, 2, 6⟩] : List Bad), x.ok := by
    intro x hx
    simp only [List.mem_cons, List.not_mem_nil, or_false] at hx
    unfold Bad.ok
    rcases hx with rfl | rfl | rfl | rfl | rfl | rfl | rfl | rfl
    · exact ⟨by simp only; omega, by simp only [hf2' f hf1]; split <;> rfl, by simp⟩
    · exact ⟨by simp only; omega, by simp only [hf3 _ (.inr (show 4 ≤ 4 + k % 252 by omega))]; split <;> rfl, by simp⟩
    · exact ⟨by simp, by simp only [hf3 0 (.inl rfl)]; split <;> rfl, by simp⟩
    · exact ⟨by simp only; omega, by simp only [hes]; split <;> rfl, by simp⟩
    · exact ⟨by simp only; omega, by simp only [heb]; rw [if_neg hT25], by simp⟩
    · refine ⟨by simp, ?_, by simp⟩
      simp only
      rcases hq25 with h | h
      · rw [if_pos h]; exact hf2' q (by omega) _ _
      · rw [if_neg (by omega)]; exact hf6 q h.1 h.2.1 h.2.2 _ _ (.inl rfl)
    · refine ⟨by simp, ?_, by simp⟩
      simp only
      rcases hq25 with h | h
      · rw [if_pos h]; exact hf2' q (by omega) _ _
      · rw [if_neg (by omega)]; exact hf6 q h.1 h.2.1 h.2.2 _ _ (.inr rfl)
    · exact ⟨by decide, by decide, by decide⟩
  rw [show ([[.int .i64 f, .int .i64 1, .int .u8 K, .int .i64 2], [.int .i64 T, .int .i64 1, .int .u8 (4 + k % 252), .int .i64 2], [.int .i64 T, .int .i64 1, .int .u8 0, .int .i64 2], [.int .i64 T, .int .i64 sml, .int .u8 K, .int .i64 2], [.int .i64 T, .int .i64 big, .int .u8 K, .int .i64 5], [.int .i64 q, .int .i64 1, .int .u8 1, .int .i64 6], [.int .i64 q, .int .i64 0, .int .u8 2, .int .i64 6], [.int .i64 2, .int .i64 1, .int .u8 2, .int .i64 6]] : List (List IV)) = bads [⟨f, 1, K, 2⟩, ⟨T, 1, 4 + k % 252, 2⟩, ⟨T, 1, 0, 2⟩, ⟨T, sml, K, 2⟩, ⟨T, big, K, 5⟩, ⟨q, 1, 1, 6⟩, ⟨q, 0, 2, 6⟩, ⟨2, 1, 2, 6⟩] from rfl]
  generalize hXe : ([⟨f, 1, K, 2⟩, ⟨T, 1, 4 + k % 252, 2⟩, ⟨T, 1, 0, 2⟩, ⟨T, sml, K, 2⟩, ⟨T, big, K, 5⟩, ⟨q, 1, 1, 6⟩, ⟨q, 0, 2, 6⟩, ⟨2, 1, 2, 6⟩] : List Bad) = X at hX
  have hX8 : X.length = 8 := by rw [← hXe]; rfl
  have cz := sameMovement_fun ⟨0, 0, 0, 0, 0, []⟩ ⟨0, 0, 0, 0, 0, []⟩ (by decide)
  simp only [Mv.v, decide_true, rws_nil] at cz
  refine IWp.block ?_
  refine IWp.loopI (α := Nat) (fun i => (⟨false, 112, 16, [17, 30, 75, 76, 77, 78, 83, 104], [], [(10, .int .i64 mo), (11, .int .i64 0), (75, .sl 1 8 0 8 none), (76, .int .i64 8), (77, .int .i64 (i : Int))], []⟩, [.dead, .rows 4 (bads X)]))
    (fun i => i ≤ 8) (fun i => 8 - i) 0 (by simp) (by simp [go_sem]) ?_
  intro i hi
  refine IWp.seqI ?_
  simp [go_sem]
  refine IWp.seqI ?_
  by_cases h : i < 8
  · have hiX : i < X.length := by omega
    have wi : IntKind.i64.wrap ((i : Int) + 1) = ((i + 1 : Nat) : Int) := by rw [wrap64 (by omega) (by omega)]; omega
    have hI : (i : Int) < 8 := by omega
    have hok := hX X[i] (List.getElem_mem hiX)
    generalize hx : X[i] = x at hok
    obtain ⟨a, b, c, d⟩ := x
    obtain ⟨k1, k2, k3⟩ := hok
    simp only at k1 k2 k3
    have ck := wmake_fun a b c k1
    simp [go_sem, h, hI]
    refine IWp.seq ?_
    refine IWp.block ?_
    refine IWp.seqI ?_
    simp [go_sem, h, hI, hiX, hx, hX8]
    by_cases h25 : a = 25
    · rw [if_pos h25] at k2
      have hM0 : Web.makeM c a b = ⟨0, 0, 0, 0, 0, []⟩ := by unfold Web.makeM; rw [if_neg (by rw [k2]; decide)]
      rw [k2, hM0] at ck
      simp only [Mv.v, rws_nil] at ck
      subst h25
      refine IWp.seqI ?_
      simp [go_sem]
      refine IWp.seqI ?_
      simp [go_sem]
      refine ck.callF (by simp [go_sem]) ?_
      rintro _ rfl
      simp [go_sem]
      refine IWp.now ?_
      simp [go_sem]
      refine cz.callF (by simp [go_sem]) ?_
      rintro _ rfl
      simp [go_sem]
      refine IWp.now ?_
      simp [go_sem, wi]
      exact ⟨i + 1, by simp, by omega, by omega⟩
    · rw [if_neg h25] at k2
      have hM0 : Web.makeM c a b = ⟨0, 0, 0, 0, 0, []⟩ := by unfold Web.makeM; rw [if_neg (by rw [k2]; exact k3)]
      rw [k2, hM0] at ck
      simp only [Mv.v, rws_nil] at ck
      refine IWp.seqI ?_
      simp [go_sem, h25]
      refine IWp.seqI ?_
      simp [go_sem]
      refine ck.callF (by simp [go_sem]) ?_
      rintro _ rfl
      simp [go_sem]
      refine IWp.now ?_
      simp [go_sem]
      refine cz.callF (by simp [go_sem]) ?_
      rintro _ rfl
      simp [go_sem]
      refine IWp.now ?_
      simp [go_sem, wi]
      exact ⟨i + 1, by simp, by omega, by omega⟩
  · obtain rfl : i = 8 := by omega
    simp [go_sem]
    have hmp1 : 1 ≤ mo := hmp.1
    refine IWp.now ?_
    simp [go_sem, hmp1]
    exact hR _ _ _ rfl (by simp [go_sem])
theorem webWrong_law (n t k : Int) (h0 : (Lit.int .i64 n).wf = true) (h1 : (Lit.int .u8 t).wf = true) (h2 : (Lit.int .u8 k).wf = true) : FN 9 [.int .i64 n, .int .u8 t, .int .u8 k] (fun v => v = .bool true) := webWrong_fun n t k (wf64 h0) (wf8 h1) (wf8 h2)
end Go.Idl
