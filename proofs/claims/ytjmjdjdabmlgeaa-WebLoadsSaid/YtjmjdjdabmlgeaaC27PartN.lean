/-
  Chapter 27: the made movements are fair; the greatest load (plain).
  Chapter 27: WebFair.
-/
import Derived.Test.YtjmjdjdabmlgeaaC27PartM
import Derived.Test.YtjmjdjdabmlgeaaC27PartC
import Derived.Test.YtjmjdjdabmlgeaaC27PartF
import Derived.Test.YtjmjdjdabmlgeaaC27PartL
import Derived.Test.YtjmjdjdabmlgeaaC27PartB
namespace Go.Idl
set_option linter.all false
open Go.Proofs Web
set_option maxHeartbeats 4000000
set_option maxRecDepth 40000

theorem rowL_sub (k : Int) (T : Nat) : ∀ n, 1 ≤ n → (Web.rowL k T 0 T).Sublist (Web.rowsX k T n)
  | 0, h => by omega
  | 1, _ => by simp [Web.rowsX]
  | n + 2, _ => (rowL_sub k T (n + 1) (by omega)).trans (by simp only [Web.rowsX]; exact List.sublist_append_left ..)
theorem row_zero {k : Int} {T n : Nat} (hT : 0 < T) (hn : 1 ≤ n) : Web.row k T 0 0 ∈ Web.rowsX k T n :=
  (rowL_sub k T n hn).mem (List.mem_map.2 ⟨0, by simpa using hT, rfl⟩)
theorem sets_lt {k : Int} {T : Nat} (hW : Wk k T) (h3 : k ≠ 3) : Web.sets T k < T := by
  obtain ⟨h, h2⟩ := hW
  unfold Web.sets
  rcases h with ⟨rfl, h⟩ | ⟨rfl, h⟩ | rfl
  · simp; omega
  · simp; omega
  · exact absurd rfl h3
theorem web_max {k : Int} {T n : Nat} (hW : Wk k T) (hn : (n : Int) ≤ Web.most T k) (h1 : 1 ≤ n) : MaxL (Web.rowsX k T n) (Web.cops T k) := by
  have hF := Web.fair_rows hW hn
  have hT : 0 < T := by have := hW.2; omega
  refine ⟨fun x hx => hF.load x.r x.s, .inr ⟨Web.row k T 0 0, row_zero hT h1, ?_⟩⟩
  have hup := hF.load (Web.row k T 0 0).r (Web.row k T 0 0).s
  refine Int.le_antisymm ?_ hup
  have hsub := (rowL_sub k T n h1).countP_le (p := rsB (Web.row k T 0 0).r (Web.row k T 0 0).s)
  have key : Web.cops T k ≤ ((Web.rowL k T 0 T).countP (rsB (Web.row k T 0 0).r (Web.row k T 0 0).s) : Int) := by
    by_cases h3 : k = 3
    · subst h3
      have : (Web.rowL 3 T 0 T).countP (rsB (Web.row 3 T 0 0).r (Web.row 3 T 0 0).s) = (Web.rowL 3 T 0 T).length := List.countP_eq_length.2 fun x hx => by
        obtain ⟨j, _, rfl⟩ := List.mem_map.1 hx
        simp [rsB, Web.row]
      rw [this, Web.rowL_length]
      simp [Web.cops]
    · have hS := Web.sets_pos hW
      have hlt := sets_lt hW h3
      obtain ⟨S, hSe⟩ : ∃ S : Nat, Web.sets T k = S := ⟨(Web.sets T k).toNat, by omega⟩
      have hc : Web.cops T k = 2 := by unfold Web.cops; rw [if_neg h3]
      rw [hc]
      unfold Web.rowL
      rw [List.countP_map]
      obtain ⟨p, hp⟩ : ∃ p : Nat → Bool, p = rsB (Web.row k T 0 0).r (Web.row k T 0 0).s ∘ Web.row k T 0 := ⟨_, rfl⟩
      rw [← hp]
      have p0 : p 0 = true := by rw [hp]; simp [rsB]
      have pS : p S = true := by rw [hp]; simp [rsB, Web.row, h3, hSe]
      have a1 := (List.range_sublist.2 (show S + 1 ≤ T by omega)).countP_le (p := p)
      have a2 := (List.range_sublist.2 (show 1 ≤ S by omega)).countP_le (p := p)
      rw [List.range_succ, List.countP_append, List.countP_singleton, if_pos pS] at a1
      have a3 : (List.range 1).countP p = 1 := by rw [List.range_succ]; simp [p0]
      omega
  exact Int.le_trans key (Int.ofNat_le.2 hsub)
theorem web_grid {k : Int} {T n : Nat} (hW : Wk k T) : Grid T n (Web.rowsX k T n) := by
  have hT : 0 < T := by have := hW.2; omega
  refine ⟨by rw [Web.rowsX_length], fun i j hi hj => ?_, fun x hx => ?_⟩
  · have hl : i * T + j < (Web.rowsX k T n).length := by rw [Web.rowsX_length]; exact grid_lt hi hj
    have e1 : (i * T + j) / T = i := by rw [Nat.mul_comm, Nat.mul_add_div hT, Nat.div_eq_of_lt hj]; rfl
    have e2 : (i * T + j) % T = j := by rw [Nat.mul_comm, Nat.mul_add_mod, Nat.mod_eq_of_lt hj]
    refine ⟨hl, ?_⟩
    rw [Web.rowsX_get hT, e1, e2]
    exact ⟨rfl, rfl⟩
  · obtain ⟨r, t, hr, ht, rfl⟩ := Web.rowsX_mem hT hx
    have m1 := Int.emod_nonneg ((t : Int) - r + T) (show (T : Int) ≠ 0 by omega)
    unfold Web.row
    simp only
    omega
/-- What Made has made. -/
structure Made27 (t r k : Int) (T N S : Nat) : Prop where
  wk : Wk (Web.mK k) T
  n1 : 1 ≤ N
  nm : (N : Int) ≤ Web.most T (Web.mK k)
  n24 : N ≤ 24
  s : Web.sets T (Web.mK k) = S
  s24 : S ≤ 24
  eq : Web.mM t r k = ⟨T, N, S, Web.cops T (Web.mK k), 2, Web.rowsX (Web.mK k) T N⟩
theorem made27 (t r k : Int) (ht : 0 ≤ t) (hr : 0 ≤ r) (hk : 0 ≤ k) : ∃ T N S : Nat, Made27 t r k T N S := by
  obtain ⟨h2, h24, hf, hm⟩ := Web.mT_ok ht hk
  have hW := Web.wk_of hf
  have hS := Web.sets_pos hW
  have hml := Web.most_le hW
  have e1 := Int.emod_nonneg r (show Web.most (Web.mT t k) (Web.mK k) ≠ 0 by omega)
  have e2 := Int.emod_lt_of_pos r (show 0 < Web.most (Web.mT t k) (Web.mK k) by omega)
  have hN : Web.mN t r k = 1 + r % Web.most (Web.mT t k) (Web.mK k) := rfl
  have hE : Web.makeE (Web.mK k) (Web.mT t k) (Web.mN t r k) = 0 := by
    unfold Web.makeE
    rw [if_neg (by simpa using hf), if_neg (by omega), if_neg (by omega)]
  have hS24 : Web.sets (Web.mT t k) (Web.mK k) ≤ 24 := by
    unfold Web.sets
    split
    · omega
    · split <;> omega
  have hM : Web.mM t r k = ⟨Web.mT t k, Web.mN t r k, Web.sets (Web.mT t k) (Web.mK k), Web.cops (Web.mT t k) (Web.mK k), 2, Web.rowsX (Web.mK k) (Web.mT t k).toNat (Web.mN t r k).toNat⟩ := by
    unfold Web.mM Web.makeM
    rw [if_pos hE]
  obtain ⟨T, hT⟩ : ∃ T : Nat, Web.mT t k = T := ⟨(Web.mT t k).toNat, by omega⟩
  obtain ⟨N, hNe⟩ : ∃ N : Nat, Web.mN t r k = N := ⟨(Web.mN t r k).toNat, by omega⟩
  obtain ⟨S, hSe⟩ : ∃ S : Nat, Web.sets (Web.mT t k) (Web.mK k) = S := ⟨(Web.sets (Web.mT t k) (Web.mK k)).toNat, by omega⟩
  rw [hNe, hSe, hT] at hM
  rw [hT] at hW hml e1 e2 hSe hN hS24
  refine ⟨T, N, S, hW, by omega, by omega, by omega, hSe, by omega, by simpa using hM⟩
end Go.Idl
namespace Go.Idl
set_option linter.all false
open Go.Proofs
set_option maxHeartbeats 8000000
set_option maxRecDepth 40000

theorem sets_odd {k : Int} {T : Int} (hW : Web.Wk k T) (h3 : k ≠ 3) : Web.sets T k % 2 = 1 := by
  obtain ⟨h, h2⟩ := hW
  unfold Web.sets
  rcases h with ⟨rfl, h⟩ | ⟨rfl, h⟩ | rfl
  · simp; omega
  · simp; omega
  · exact absurd rfl h3
theorem webFair_fun (t r k : Int) (ht : 0 ≤ t ∧ t < 256) (hr : 0 ≤ r ∧ r < 256) (hk : 0 ≤ k ∧ k < 256) : FN 6 [.int .u8 t, .int .u8 r, .int .u8 k] (fun v => v = .bool true) := by
  refine IFun.of_bodyW false 9 [10, 42] Try.func6 rfl Try.call6 rfl fun R hR => ?_
  have cm := wmade_fun t r k ht hr hk
  obtain ⟨T, N, S, hM⟩ := made27 t r k ht.1 hr.1 hk.1
  have hW := hM.wk
  have hN1 := hM.n1
  have hT2 := hW.2
  rw [hM.eq] at cm
  have cf := fair27_fun T N S (Web.cops T (Web.mK k)) 2 (Web.rowsX (Web.mK k) T N) (by omega) hM.n24 hM.s24 (by rw [← hM.s]; exact Web.fair_rows hW hM.nm) (web_grid hW)
  have hl : (Web.rowsX (Web.mK k) T N).length ≤ 24 * 24 := by rw [Web.rowsX_length]; exact Nat.mul_le_mul hM.n24 (by omega)
  have cc := copies_fun ⟨T, N, S, Web.cops T (Web.mK k), 2, Web.rowsX (Web.mK k) T N⟩ (by simp only; omega)
  have hmx := web_max hW hM.nm hN1
  have cc' := cc.mono (fun v (h : ∃ g, v = .int .i64 g ∧ MaxL (Web.rowsX (Web.mK k) T N) g) => show v = .int .i64 (Web.cops T (Web.mK k)) from by obtain ⟨g, h1, h2⟩ := h; rw [h1, h2.eq hmx])
  have hso := fun h => sets_odd hW h
  rw [hM.s] at hso
  have hcp : Web.cops T (Web.mK k) = if Web.mK k = 3 then (T : Int) else 2 := rfl
  have hK : Web.mK k = 1 ∨ Web.mK k = 2 ∨ Web.mK k = 3 := by unfold Web.mK; omega
  clear hM
  generalize Web.rowsX (Web.mK k) T N = L at *
  generalize Web.cops T (Web.mK k) = C at *
  generalize Web.mK k = K at *
  simp only [Mv.v] at *
  refine IWp.seqI ?_
  simp [go_sem]
  refine IWp.seqI ?_
  simp [go_sem]
  refine awake27_fun.callF (by simp [go_sem]) ?_
  rintro _ rfl
  simp [go_sem]
  refine IWp.seqI ?_
  simp [go_sem]
  refine cm.callM (by simp [go_sem]) ?_
  rintro _ rfl
  simp [go_sem]
  have t1 : ¬ (T : Int) < 2 := by omega
  have t2 : ¬ (N : Int) < 1 := by omega
  have t3 : ¬ C < C := by omega
  have t4 : (S : Int).tmod 2 = (S : Int) % 2 := Int.tmod_eq_emod_of_nonneg (by omega)
  have t5 : IntKind.i64.wrap ((S : Int) % 2) = (S : Int) % 2 := wrap64 (by omega) (by omega)
  have t6 : ¬ N = 0 := by omega
  have t7 : ¬ T < 2 := by omega
  refine IWp.seqI ?_
  simp [go_sem, t1, t2, t6, t7]
  refine Drawn.intro (fun x => if x = 15 then .bool true else if x = 20 then .int .i64 C else .tup []) ?_
  simp [go_sem, t1, t2, t3, t6, t7, cf, cc']
  refine ⟨by decide +kernel, ?_⟩
  rcases hK with rfl | rfl | rfl
  · have h1 := hso (by decide)
    rw [if_neg (by decide)] at hcp
    subst hcp
    refine IWp.now ?_
    simp [go_sem]
    refine Drawn.intro (fun x => if x = 11 then .int .i64 2 else if x = 26 then .int .i64 2 else .tup []) ?_
    simp [go_sem, cc', t4, t5, h1]
    exact ⟨by decide +kernel, hR _ _ _ rfl (by simp [go_sem])⟩
  · have h1 := hso (by decide)
    rw [if_neg (by decide)] at hcp
    subst hcp
    refine IWp.now ?_
    simp [go_sem]
    refine Drawn.intro (fun x => if x = 11 then .int .i64 2 else if x = 26 then .int .i64 2 else .tup []) ?_
    simp [go_sem, cc', t4, t5, h1]
    exact ⟨by decide +kernel, hR _ _ _ rfl (by simp [go_sem])⟩
  · rw [if_pos rfl] at hcp
    subst hcp
    refine IWp.now ?_
    simp [go_sem]
    refine Drawn.intro (fun x => if x = 11 then .int .i64 T else if x = 26 then .int .i64 T else .tup []) ?_
    simp [go_sem, cc', t4, t5]
    exact ⟨by decide +kernel, hR _ _ _ rfl (by simp [go_sem])⟩
theorem webFair_law (t r k : Int) (h0 : (Lit.int .u8 t).wf = true) (h1 : (Lit.int .u8 r).wf = true) (h2 : (Lit.int .u8 k).wf = true) : FN 6 [.int .u8 t, .int .u8 r, .int .u8 k] (fun v => v = .bool true) := webFair_fun t r k (wf8 h0) (wf8 h1) (wf8 h2)
end Go.Idl
