/-
  Chapter 27: WebMoves.
-/
import Derived.Test.YtjmjdjdabmlgeaaC27PartI
import Derived.Test.YtjmjdjdabmlgeaaC27PartK
import Derived.Test.YtjmjdjdabmlgeaaC27PartB
namespace Go.Idl
set_option linter.all false
open Go.Proofs
set_option maxHeartbeats 8000000
set_option maxRecDepth 40000

theorem webMoves_fun (t r k : Int) (ht : 0 ≤ t ∧ t < 256) (hr : 0 ≤ r ∧ r < 256) (hk : 0 ≤ k ∧ k < 256) : FN 8 [.int .u8 t, .int .u8 r, .int .u8 k] (fun v => v = .bool true) := by
  refine IFun.of_bodyW false 12 [13, 22, 23, 24, 25, 45, 48, 71, 114, 136] Try.func8 rfl Try.call8 rfl fun R hR => ?_
  have cm := wmade_fun t r k ht hr hk
  obtain ⟨T, N, S, hM⟩ := made27 t r k ht.1 hr.1 hk.1
  have hW := hM.wk
  have hN1 := hM.n1
  have hT2 := hW.2
  have hN24 := hM.n24
  have hS24 := hM.s24
  rw [hM.eq] at cm
  have hSe := hM.s
  have hS0 := Web.sets_pos hW
  rw [hSe] at hS0
  have hK : Web.mK k = 1 ∨ Web.mK k = 2 ∨ Web.mK k = 3 := by unfold Web.mK; omega
  have hNT : N * T ≤ 24 * 24 := Nat.mul_le_mul (by omega) (by omega)
  have hll := Web.rowsX_length (k := Web.mK k) (T := T) N
  have hL := Web.rowsX_get (k := Web.mK k) (T := T) (by omega) N
  clear hM
  generalize Web.rowsX (Web.mK k) T N = L at *
  generalize Web.cops T (Web.mK k) = C at *
  generalize Web.mK k = K at *
  simp only [Mv.v] at *
  refine IWp.seqI ?_
  simp [go_sem]
  refine IWp.seqI ?_
  simp [go_sem]
  refine awake27_fun.callF (by simp [go_sem]) ?_
  rintro _ rfl
  simp [go_sem]
  refine IWp.seqI ?_
  simp [go_sem]
  refine cm.callM (by simp [go_sem]) ?_
  rintro _ rfl
  simp [go_sem]
  refine IWp.seqI ?_
  simp [go_sem]
  refine IWp.loopI (α := Nat) (fun q => (⟨false, 138, 12, [13, 22, 23, 24, 25, 45, 48, 71, 114, 136], [], [(7, .ptr 0 1 0 0), (8, .int .u8 K), (22, .fz 5 (rws L)), (23, .int .i64 (L.length : Int)), (24, .int .i64 (q : Int))], []⟩, [.rows 6 [[.int .i64 (T : Int), .int .i64 (N : Int), .int .i64 (S : Int), .int .i64 C, .int .i64 2, .fz 5 (rws L)]]]))
    (fun q => q ≤ L.length) (fun q => L.length - q) 0 (by simp) (by simp [go_sem]) ?_
  intro q hq
  refine IWp.seqI ?_
  simp [go_sem]
  refine IWp.seqI ?_
  by_cases h : q < L.length
  · have w1 : IntKind.i64.wrap ((q : Int) + 1) = ((q + 1 : Nat) : Int) := by rw [wrap64 (by omega) (by omega)]; omega
    simp [go_sem, h]
    refine IWp.seq ?_
    refine IWp.block ?_
    refine IWp.seqI ?_
    have hx := hL q h
    obtain ⟨rr, hrr⟩ : ∃ rr, q / T = rr := ⟨_, rfl⟩
    obtain ⟨tt, htt⟩ : ∃ tt, q % T = tt := ⟨_, rfl⟩
    have htT : tt < T := by rw [← htt]; exact Nat.mod_lt _ (by omega)
    have hrN : rr < N := by rw [← hrr]; exact Nat.div_lt_of_lt_mul (by rw [Nat.mul_comm]; omega)
    have hqe : rr * T + tt = q := by rw [← hrr, ← htt, Nat.mul_comm]; exact Nat.div_add_mod q T
    rw [hrr, htt] at hx
    obtain ⟨ew, hew⟩ : ∃ ew : Int, T + 1 + ((tt : Int) - rr + T) % T = ew := ⟨_, rfl⟩
    obtain ⟨s, hs⟩ : ∃ s : Int, (if K = 3 then (rr : Int) else ((tt : Int) + rr) % S) = s := ⟨_, rfl⟩
    have hx2 : Web.row K T rr tt = ⟨rr, tt, tt + 1, ew, s⟩ := by unfold Web.row; rw [hew, hSe, hs]
    rw [hx2] at hx
    have w2 : IntKind.i64.wrap ((tt : Int) + 1) = (tt : Int) + 1 := wrap64 (by omega) (by omega)
    have w3 : IntKind.i64.wrap ((T : Int) + 1) = (T : Int) + 1 := wrap64 (by omega) (by omega)
    have w4 : IntKind.i64.wrap ((T : Int) + 1 + tt) = (T : Int) + 1 + tt := wrap64 (by omega) (by omega)
    have hs3 : K = 3 → s = rr := fun e => by rw [← hs, if_pos e]
    simp [go_sem, h, hx, w2]
    refine IWp.seqI ?_
    have g1 : K = 3 → ¬ ¬ s = (rr : Int) := fun e => by simp [hs3 e]
    have hc : (K == 3 && s != (rr : Int)) = false := by
      by_cases e : K = 3
      · simp [e, hs3 e]
      · simp [e]
    have hsn : ¬ K = 3 → s = ((tt : Int) + rr) % S := fun e => by rw [← hs, if_neg e]
    by_cases h3 : K = 3
    · obtain rfl := hs3 h3
      subst h3
      simp [go_sem, w2]
      by_cases h0 : rr = 0
      · subst h0
        have he : ew = (T : Int) + 1 + tt := by
          rw [← hew, show (tt : Int) - ((0 : Nat) : Int) + T = tt + T by omega, Int.add_emod_right, Int.emod_eq_of_lt (by omega) (by omega)]
        subst he
        refine IWp.seqI ?_
        simp [go_sem, w3, w4]
        refine ⟨by decide +kernel, ?_⟩
        refine IWp.now ?_
        simp [go_sem, w1]
        exact ⟨q + 1, by simp, by omega, by omega⟩
      · refine IWp.seqI ?_
        simp [go_sem, h0]
        obtain ⟨r1, hr1⟩ : ∃ r1, rr = r1 + 1 := ⟨rr - 1, by omega⟩
        obtain ⟨lo, hlo⟩ : ∃ lo, r1 * T = lo := ⟨_, rfl⟩
        have hhi : rr * T = lo + T := by rw [hr1, Nat.succ_mul, hlo]
        have hle : lo + T ≤ L.length := by
          have := Nat.mul_le_mul_right T (show rr ≤ N by omega)
          omega
        have v1 : IntKind.i64.wrap ((rr : Int) - 1) = (r1 : Int) := by rw [wrap64 (by omega) (by omega)]; omega
        have v2 : IntKind.i64.wrap ((r1 : Int) * T) = (lo : Int) := by rw [← Int.natCast_mul, hlo]; exact wrap64 (by omega) (by omega)
        have v3 : IntKind.i64.wrap ((rr : Int) * T) = ((lo + T : Nat) : Int) := by rw [← Int.natCast_mul, hhi]; exact wrap64 (by omega) (by omega)
        have hle2 : lo ≤ lo + T := by omega
        have hle3 : (lo : Int) + T ≤ L.length := by omega
        have hsub : lo + T - lo = T := by omega
        refine IWp.seqI ?_
        have hto : ((lo : Int) + T).toNat = lo + T := by omega
        obtain ⟨B, hB⟩ : ∃ B, (L.take (lo + T)).drop lo = B := ⟨_, rfl⟩
        have hBr : List.drop lo (List.take (lo + T) (rws L)) = rws B := by rw [← hB, rws_drop, rws_take]
        have hBl : B.length = T := by rw [← hB]; simp; omega
        have hBg : ∀ p (hp : p < B.length), B[p] = Web.row 3 T r1 p := fun p hp => by
          subst hB
          rw [List.getElem_drop, List.getElem_take, hL]
          have e1 : (lo + p) / T = r1 := by rw [← hlo, Nat.mul_comm, Nat.mul_add_div (by omega), Nat.div_eq_of_lt (by omega)]; rfl
          have e2 : (lo + p) % T = p := by rw [← hlo, Nat.mul_comm, Nat.mul_add_mod, Nat.mod_eq_of_lt (by omega)]
          rw [e1, e2]
        simp [go_sem, v1, v2, v3, hle, hle2, hle3, hsub, hto, hBr]
        refine ⟨by omega, ?_⟩
        obtain ⟨p, hp⟩ : ∃ p : Nat, (if tt = 0 then T - 1 else tt - 1) = p := ⟨_, rfl⟩
        have hpT : p < T := by split at hp <;> omega
        have hpB : p < B.length := by omega
        have v4 : IntKind.i64.wrap ((tt : Int) + T) = (tt : Int) + T := wrap64 (by omega) (by omega)
        have v5 : IntKind.i64.wrap ((tt : Int) + T - 1) = (tt : Int) + T - 1 := wrap64 (by omega) (by omega)
        have v6 : ((tt : Int) + T - 1).tmod T = (p : Int) := by
          rw [Int.tmod_eq_emod_of_nonneg (by omega)]
          by_cases e : tt = 0
          · rw [if_pos e] at hp
            rw [Int.emod_eq_of_lt (by omega) (by omega)]; omega
          · rw [if_neg e] at hp
            rw [show (tt : Int) + T - 1 = (tt - 1 : Int) + T by omega, Int.add_emod_right, Int.emod_eq_of_lt (by omega) (by omega)]; omega
        have v7 : IntKind.i64.wrap (p : Int) = p := wrap64 (by omega) (by omega)
        have v8 : (q : Int).tmod T = (tt : Int) := by rw [Int.tmod_eq_emod_of_nonneg (by omega), ← Int.natCast_emod, htt]
        have v9 : IntKind.i64.wrap (tt : Int) = tt := wrap64 (by omega) (by omega)
        have hpe : B[p].ew = ew := by
          rw [hBg p hpB, ← hew]
          show (T : Int) + 1 + ((p : Int) - r1 + T) % T = _
          congr 1
          by_cases e : tt = 0
          · rw [if_pos e] at hp
            rw [show (tt : Int) - rr + T = T - 1 - r1 by omega, show (p : Int) - r1 + T = (T - 1 - r1 : Int) + T by omega, Int.add_emod_right]
          · rw [if_neg e] at hp
            rw [show (tt : Int) - rr + T = (p : Int) - r1 + T by omega]
        have hT0 : ¬ T = 0 := by omega
        have hT0' : ¬ (T : Int) = 0 := by omega
        refine IWp.seqI ?_
        simp [go_sem, v4, v5, v6, v7, v8, v9, hpB, hpe, hT0, hT0', h, hx]
        refine ⟨by decide +kernel, ?_⟩
        by_cases h1 : tt + 1 < T
        · have h2 : (tt : Int) + 1 < T := by omega
          have hb : tt + 1 < B.length := by omega
          have hto2 : ((tt : Int) + 1).toNat = tt + 1 := by omega
          refine IWp.now ?_
          simp [go_sem, w2, h1, h2, hb, hto2]
          refine ⟨by decide +kernel, ?_⟩
          refine IWp.now ?_
          simp [go_sem, w1]
          exact ⟨q + 1, by simp, by omega, by omega⟩
        · have h2 : ¬ (tt : Int) + 1 < T := by omega
          have hto2 : ((tt : Int) + 1).toNat = tt + 1 := by omega
          have hnone : (rws B)[tt + 1]? = none := List.getElem?_eq_none (by simp; omega)
          refine IWp.now ?_
          simp [go_sem, w2, h1, h2, hto2, hnone]
          refine ⟨by decide +kernel, ?_⟩
          refine IWp.now ?_
          simp [go_sem, w1]
          exact ⟨q + 1, by simp, by omega, by omega⟩
    · have hsn := hsn h3
      have hS1 : ¬ S = 0 := by omega
      have hS2 : ¬ (S : Int) = 0 := by omega
      simp [go_sem, w2, h3]
      by_cases h0 : rr = 0
      · subst h0
        have he : ew = (T : Int) + 1 + tt := by
          rw [← hew, show (tt : Int) - ((0 : Nat) : Int) + T = tt + T by omega, Int.add_emod_right, Int.emod_eq_of_lt (by omega) (by omega)]
        subst he
        have hsz : s = (tt : Int) % S := by rw [hsn]; simp
        have u1 : (tt : Int).tmod S = s := by rw [hsz]; exact Int.tmod_eq_emod_of_nonneg (by omega)
        have hs1 := Int.emod_nonneg (tt : Int) hS2
        have hs2 := Int.emod_lt_of_pos (tt : Int) hS0
        have u2 : IntKind.i64.wrap s = s := by rw [hsz]; exact wrap64 (by omega) (by omega)
        refine IWp.seqI ?_
        simp [go_sem, w3, w4, h3, u1, u2, hS1, hS2]
        refine ⟨by decide +kernel, ?_⟩
        refine IWp.now ?_
        simp [go_sem, w1]
        exact ⟨q + 1, by simp, by omega, by omega⟩
      · refine IWp.seqI ?_
        simp [go_sem, h0]
        obtain ⟨r1, hr1⟩ : ∃ r1, rr = r1 + 1 := ⟨rr - 1, by omega⟩
        obtain ⟨lo, hlo⟩ : ∃ lo, r1 * T = lo := ⟨_, rfl⟩
        have hhi : rr * T = lo + T := by rw [hr1, Nat.succ_mul, hlo]
        have hle : lo + T ≤ L.length := by
          have := Nat.mul_le_mul_right T (show rr ≤ N by omega)
          omega
        have v1 : IntKind.i64.wrap ((rr : Int) - 1) = (r1 : Int) := by rw [wrap64 (by omega) (by omega)]; omega
        have v2 : IntKind.i64.wrap ((r1 : Int) * T) = (lo : Int) := by rw [← Int.natCast_mul, hlo]; exact wrap64 (by omega) (by omega)
        have v3 : IntKind.i64.wrap ((rr : Int) * T) = ((lo + T : Nat) : Int) := by rw [← Int.natCast_mul, hhi]; exact wrap64 (by omega) (by omega)
        have hle2 : lo ≤ lo + T := by omega
        have hle3 : (lo : Int) + T ≤ L.length := by omega
        have hsub : lo + T - lo = T := by omega
        refine IWp.seqI ?_
        have hto : ((lo : Int) + T).toNat = lo + T := by omega
        obtain ⟨B, hB⟩ : ∃ B, (L.take (lo + T)).drop lo = B := ⟨_, rfl⟩
        have hBr : List.drop lo (List.take (lo + T) (rws L)) = rws B := by rw [← hB, rws_drop, rws_take]
        have hBl : B.length = T := by rw [← hB]; simp; omega
        have hBg : ∀ p (hp : p < B.length), B[p] = Web.row K T r1 p := fun p hp => by
          subst hB
          rw [List.getElem_drop, List.getElem_take, hL]
          have e1 : (lo + p) / T = r1 := by rw [← hlo, Nat.mul_comm, Nat.mul_add_div (by omega), Nat.div_eq_of_lt (by omega)]; rfl
          have e2 : (lo + p) % T = p := by rw [← hlo, Nat.mul_comm, Nat.mul_add_mod, Nat.mod_eq_of_lt (by omega)]
          rw [e1, e2]
        simp [go_sem, v1, v2, v3, hle, hle2, hle3, hsub, hto, hBr]
        refine ⟨by omega, ?_⟩
        obtain ⟨p, hp⟩ : ∃ p : Nat, (if tt = 0 then T - 1 else tt - 1) = p := ⟨_, rfl⟩
        have hpT : p < T := by split at hp <;> omega
        have hpB : p < B.length := by omega
        have v4 : IntKind.i64.wrap ((tt : Int) + T) = (tt : Int) + T := wrap64 (by omega) (by omega)
        have v5 : IntKind.i64.wrap ((tt : Int) + T - 1) = (tt : Int) + T - 1 := wrap64 (by omega) (by omega)
        have v6 : ((tt : Int) + T - 1).tmod T = (p : Int) := by
          rw [Int.tmod_eq_emod_of_nonneg (by omega)]
          by_cases e : tt = 0
          · rw [if_pos e] at hp
            rw [Int.emod_eq_of_lt (by omega) (by omega)]; omega
          · rw [if_neg e] at hp
            rw [show (tt : Int) + T - 1 = (tt - 1 : Int) + T by omega, Int.add_emod_right, Int.emod_eq_of_lt (by omega) (by omega)]; omega
        have v7 : IntKind.i64.wrap (p : Int) = p := wrap64 (by omega) (by omega)
        have v8 : (q : Int).tmod T = (tt : Int) := by rw [Int.tmod_eq_emod_of_nonneg (by omega), ← Int.natCast_emod, htt]
        have v9 : IntKind.i64.wrap (tt : Int) = tt := wrap64 (by omega) (by omega)
        have hpe : B[p].ew = ew := by
          rw [hBg p hpB, ← hew]
          show (T : Int) + 1 + ((p : Int) - r1 + T) % T = _
          congr 1
          by_cases e : tt = 0
          · rw [if_pos e] at hp
            rw [show (tt : Int) - rr + T = T - 1 - r1 by omega, show (p : Int) - r1 + T = (T - 1 - r1 : Int) + T by omega, Int.add_emod_right]
          · rw [if_neg e] at hp
            rw [show (tt : Int) - rr + T = (p : Int) - r1 + T by omega]
        have hT0 : ¬ T = 0 := by omega
        have hT0' : ¬ (T : Int) = 0 := by omega
        refine IWp.seqI ?_
        simp [go_sem, v4, v5, v6, v7, v8, v9, hpB, hpe, hT0, hT0', h, hx]
        refine ⟨by decide +kernel, ?_⟩
        by_cases h1 : tt + 1 < T
        · have h2 : (tt : Int) + 1 < T := by omega
          have hb : tt + 1 < B.length := by omega
          have hb2 : B[tt + 1].s = s := by
            rw [hBg _ hb]
            show (if K = 3 then _ else _) = _
            rw [if_neg h3, hSe, hsn]
            congr 1
            omega
          have hto2 : ((tt : Int) + 1).toNat = tt + 1 := by omega
          refine IWp.now ?_
          simp [go_sem, h3, w2, h1, h2, hb, hb2, hto2]
          refine ⟨by omega, by decide +kernel, ?_⟩
          refine IWp.now ?_
          simp [go_sem, w1]
          exact ⟨q + 1, by simp, by omega, by omega⟩
        · have h2 : ¬ (tt : Int) + 1 < T := by omega
          have hto2 : ((tt : Int) + 1).toNat = tt + 1 := by omega
          have hnone : (rws B)[tt + 1]? = none := List.getElem?_eq_none (by simp; omega)
          refine IWp.now ?_
          simp [go_sem, h3, w2, h1, h2, hto2, hnone]
          refine ⟨by decide +kernel, ?_⟩
          refine IWp.now ?_
          simp [go_sem, w1]
          exact ⟨q + 1, by simp, by omega, by omega⟩
  · obtain rfl : q = L.length := by omega
    simp [go_sem]
    refine IWp.now ?_
    simp [go_sem]
    exact hR _ _ _ rfl (by simp [go_sem])
theorem webMoves_law (t r k : Int) (h0 : (Lit.int .u8 t).wf = true) (h1 : (Lit.int .u8 r).wf = true) (h2 : (Lit.int .u8 k).wf = true) : FN 8 [.int .u8 t, .int .u8 r, .int .u8 k] (fun v => v = .bool true) := webMoves_fun t r k (wf8 h0) (wf8 h1) (wf8 h2)
end Go.Idl
