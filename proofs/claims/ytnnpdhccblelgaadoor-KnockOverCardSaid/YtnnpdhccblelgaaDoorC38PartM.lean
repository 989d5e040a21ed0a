/-
  Chapter 38: the event: take.
  Chapter 38: the event: take, where the result can be one.
-/
import Derived.Test.YtnnpdhccblelgaaDoorC38PartF
import Derived.Test.YtnnpdhccblelgaaDoorC38PartK
namespace Go.Idl
set_option linter.all false
open Go.Proofs
set_option maxHeartbeats 16000000
set_option maxRecDepth 40000

theorem ICalls.of_bodyV {P : Program} {gl : List (Nat × IV)} {f : FuncId} {fn : Func} {c : Code} {args : List IV} {σ : Heap} {K : IV → Heap → Prop} (x : Bool) (m : Nat) (ex : List Nat) (hf : P.funcs[f]? = some fn) (hb : fn.body = some c)
    (hcall : ∀ (args : Array Value) (w : World), (callFunc f args).run P w = .ok (.enter f args) w) (hn : Nat.ble args.length fn.ntmps = true)
    (h : ∀ R : IV → Heap → Prop, (∀ r σ', K r σ' → R r σ') → IWp P c (retQ P fn.results.toList R) ⟨x, fn.ntmps, m, ex, gl, enum 0 args, []⟩ σ) : ICalls P gl f args σ K :=
  ICalls.of_body x m ex hf hb hcall hn (h _ fun _ _ h => h)
/-- A result that cannot be one. -/
def badX (r : Nat) (x : Rs) : Prop := x.i < 0 ∨ (matN r x.r : Int) ≤ x.i ∨ x.a < 0 ∨ 100000 < x.a ∨ x.b < 0 ∨ 100000 < x.b ∨ withinB x.f (-100000) 100000 = false
instance (r : Nat) (x : Rs) : Decidable (badX r x) := by unfold badX; infer_instance
/-- What is made of the next result: the error, and who has won then. -/
def tkR (r : Nat) (S : List Int) (W : Won) (x : Rs) : Int × Won :=
  if badX r x then (381, W)
  else if ((aget (x.r, x.i) W).getD (0, 0)).2 ≠ 0 then (382, W)
  else if (sidW S W x.r.toNat x.i.toNat).2.2 = false ∨ (sidW S W x.r.toNat x.i.toNat).1 = 0 ∨ (sidW S W x.r.toNat x.i.toNat).2.1 = 0 then (383, W)
  else if cmpI x.f (whF (x.b - x.a)) < 0 ∨ (cmpI x.f (whF (x.b - x.a)) = 0 ∧ (sidW S W x.r.toNat x.i.toNat).2.1 < (sidW S W x.r.toNat x.i.toNat).1) then (0, aset (x.r, x.i) ((sidW S W x.r.toNat x.i.toNat).2.1, (sidW S W x.r.toNat x.i.toNat).1) W)
  else (0, aset (x.r, x.i) ((sidW S W x.r.toNat x.i.toNat).1, (sidW S W x.r.toNat x.i.toNat).2.1) W)
def FitR (x : Rs) : Prop := (-2 ^ 63 ≤ x.r ∧ x.r < 2 ^ 63) ∧ (-2 ^ 63 ≤ x.i ∧ x.i < 2 ^ 63) ∧ (-2 ^ 63 ≤ x.a ∧ x.a < 2 ^ 63) ∧ (-2 ^ 63 ≤ x.b ∧ x.b < 2 ^ 63) ∧ FitF x.f
theorem matN_le {r : Nat} (h : r ≤ 6) (q : Int) : matN r q ≤ 32 ∧ (0 < matN r q → 0 ≤ q ∧ q < r) := by
  unfold matN
  split
  · refine ⟨?_, fun _ => by omega⟩
    exact Nat.le_trans (Nat.pow_le_pow_right (by decide) (show r - 1 - q.toNat ≤ 5 by omega)) (by decide)
  · exact ⟨by decide, fun h => by omega⟩
theorem matches_ro (r : Nat) (S : List Int) (m b : Nat) (q : Int) (hr : r ≤ 6) (h : Heap) (hb : h[b]? = some (evRow r S m)) : readsOnly Tryd.prog glT 45 [.ptr b 1 0 0, .int .i64 q] h (.int .i64 (matN r q)) := fun H hH => by
  have h1 := hH b (by simp [go_sem])
  rw [show hget h b = some (evRow r S m) from hget_some.2 ⟨hb, rfl⟩] at h1
  exact matches_reads r S m b q hr H (hget_some.1 h1).1
theorem take_bad (r : Nat) (S : List Int) (W : Won) (x : Rs) (hr : 1 ≤ r ∧ r ≤ 6) (hx : FitR x) (hbad : badX r x) : ICalls Tryd.prog glT 79 [.ptr 1 1 0 0, x.v] (evH r S W)
    (fun v σ => v = .int .i64 (tkR r S W x).1 ∧ σ = evH r S (tkR r S W x).2) := by
  refine ICalls.forget (ICalls.of_bodyV false 13 [56, 76, 96, 110, 121] Tryd.func79 rfl Tryd.call79 rfl fun R hR => ?_)
  obtain ⟨f1, f2, f3, f4, f5⟩ := hx
  have cR := right_fun x.f f5.1 f5.2
  have cW := within38_fun x.f (-100000) 100000 f5 (by decide) (by decide)
  obtain ⟨m1, m2⟩ := matN_le hr.2 x.r
  have cM := fun h hb => matches_ro r S 0 1 x.r hr.2 h hb
  have hrw : rightB x.f = false → withinB x.f (-100000) 100000 = false := fun h => by unfold withinB; rw [h]; rfl
  have wl1 : IntKind.i64.wrap (-100000) = -100000 := by decide
  have e : tkR r S W x = (381, W) := by unfold tkR; rw [if_pos hbad]
  rw [e] at hR
  unfold badX at hbad
  have hR2 : R (.int .i64 381) (evH r S W ++ [.rows 6 [x.c]]) := hR _ _ ⟨evH r S W, by simp [go_sem, evH, evRow], rfl, rfl⟩
  clear hR
  obtain ⟨q, i, a, b, ⟨u, w⟩⟩ := x
  simp only [Frc.v, Rs.c] at *
  generalize rightB _ = RB at *
  generalize withinB _ _ _ = WB at *
  obtain ⟨m, hm⟩ : ∃ m, matN r q = m := ⟨_, rfl⟩
  rw [hm] at m1 m2 cM hbad
  simp only [evH, evRow, Rs.v] at *
  refine IWp.seqI ?_
  simp [go_sem]
  refine IWp.seqI ?_
  refine Drawn.intro (fun k => if k = 9 then .tup [.junk, .junk, .int .i64 (m : Int)] else if k = 35 then .bool RB else if k = 41 then .bool WB else .tup []) ?_
  by_cases b1 : i < 0
  · simp [go_sem, b1]
    refine ⟨by decide +kernel, ?_⟩
    exact hR2
  by_cases b2 : (m : Int) ≤ i
  · simp [go_sem, b1, b2]
    refine ⟨cM _ rfl, by decide +kernel, ?_⟩
    exact hR2
  by_cases b3 : a < 0
  · simp [go_sem, b1, b2, b3]
    refine ⟨cM _ rfl, by decide +kernel, ?_⟩
    exact hR2
  by_cases b4 : 100000 < a
  · simp [go_sem, b1, b2, b3, b4]
    refine ⟨cM _ rfl, by decide +kernel, ?_⟩
    exact hR2
  by_cases b5 : b < 0
  · simp [go_sem, b1, b2, b3, b4, b5]
    refine ⟨cM _ rfl, by decide +kernel, ?_⟩
    exact hR2
  by_cases b6 : 100000 < b
  · simp [go_sem, b1, b2, b3, b4, b5, b6]
    refine ⟨cM _ rfl, by decide +kernel, ?_⟩
    exact hR2
  cases RB with
  | false =>
    simp [go_sem, b1, b2, b3, b4, b5, b6, cR]
    refine ⟨cM _ rfl, by decide +kernel, ?_⟩
    exact hR2
  | true =>
    have hWB : WB = false := by
      rcases hbad with h | h | h | h | h | h | h
      all_goals first | exact h | (exfalso; omega)
    subst hWB
    simp [go_sem, b1, b2, b3, b4, b5, b6, cR, cW]
    refine ⟨cM _ rfl, by decide +kernel, ?_⟩
    exact hR2
end Go.Idl
namespace Go.Idl
set_option linter.all false
open Go.Proofs
set_option maxHeartbeats 16000000
set_option maxRecDepth 40000

theorem take_good (r : Nat) (S : List Int) (W : Won) (x : Rs) (hr : 1 ≤ r ∧ r ≤ 6) (hS : S.length = 2 ^ r) (hx : FitR x) (hbad : ¬ badX r x) : ICalls Tryd.prog glT 79 [.ptr 1 1 0 0, x.v] (evH r S W)
    (fun v σ => v = .int .i64 (tkR r S W x).1 ∧ σ = evH r S (tkR r S W x).2) := by
  refine ICalls.forget (ICalls.of_bodyV false 13 [56, 76, 96, 110, 121] Tryd.func79 rfl Tryd.call79 rfl fun R hR => ?_)
  obtain ⟨f1, f2, f3, f4, f5⟩ := hx
  have cR := right_fun x.f f5.1 f5.2
  have cW := within38_fun x.f (-100000) 100000 f5 (by decide) (by decide)
  obtain ⟨m1, m2⟩ := matN_le hr.2 x.r
  have cM := fun h hb => matches_ro r S 0 1 x.r hr.2 h hb
  have hrw : rightB x.f = false → withinB x.f (-100000) 100000 = false := fun h => by unfold withinB; rw [h]; rfl
  have wl1 : IntKind.i64.wrap (-100000) = -100000 := by decide
  have hg : ¬ x.i < 0 ∧ ¬ (matN r x.r : Int) ≤ x.i ∧ ¬ x.a < 0 ∧ ¬ 100000 < x.a ∧ ¬ x.b < 0 ∧ ¬ 100000 < x.b ∧ withinB x.f (-100000) 100000 = true := by
    unfold badX at hbad
    refine ⟨fun h => hbad (by simp [h]), fun h => hbad (by simp [h]), fun h => hbad (by simp [h]), fun h => hbad (by simp [h]), fun h => hbad (by simp [h]), fun h => hbad (by simp [h]), ?_⟩
    cases h : withinB x.f (-100000) 100000 with
    | true => rfl
    | false => exact absurd (by simp [h]) hbad
  obtain ⟨b1, b2, b3, b4, b5, b6, b7⟩ := hg
  have hRt : rightB x.f = true := by
    cases h : rightB x.f with
    | true => rfl
    | false => have := hrw h; rw [b7] at this; cases this
  have e : tkR r S W x = (if ((aget (x.r, x.i) W).getD (0, 0)).2 ≠ 0 then (382, W)
    else if (sidW S W x.r.toNat x.i.toNat).2.2 = false ∨ (sidW S W x.r.toNat x.i.toNat).1 = 0 ∨ (sidW S W x.r.toNat x.i.toNat).2.1 = 0 then (383, W)
    else if cmpI x.f (whF (x.b - x.a)) < 0 ∨ (cmpI x.f (whF (x.b - x.a)) = 0 ∧ (sidW S W x.r.toNat x.i.toNat).2.1 < (sidW S W x.r.toNat x.i.toNat).1) then (0, aset (x.r, x.i) ((sidW S W x.r.toNat x.i.toNat).2.1, (sidW S W x.r.toNat x.i.toNat).1) W)
    else (0, aset (x.r, x.i) ((sidW S W x.r.toNat x.i.toNat).1, (sidW S W x.r.toNat x.i.toNat).2.1) W)) := by unfold tkR; rw [if_neg hbad]
  clear hbad
  rw [hRt] at cR
  rw [b7] at cW
  obtain ⟨hq1, hq2⟩ := m2 (by omega)
  have cC := cmpG_fun x.f (whF (x.b - x.a)) f5 (whF_fit (by omega))
  rw [show cmpR x.f (whF (x.b - x.a)) = (cmpI x.f (whF (x.b - x.a)), 0) by unfold cmpR; rw [if_pos ⟨hRt, whF_right _⟩]] at cC
  have cw2 := whole38_fun (x.b - x.a)
  have cS := sides_calls r S W x.r.toNat x.i.toNat (by omega) (by omega) (fun h0 => by
    have e0 : x.r = 0 := by omega
    have : matN r x.r = 2 ^ (r - 1) := by rw [e0]; exact mat_first hr.1
    have h2 : 2 ^ r = 2 * 2 ^ (r - 1) := by rw [← Nat.pow_succ']; congr 1; omega
    rw [hS, h2]; omega)
  rw [show ((x.r.toNat : Nat) : Int) = x.r by omega, show ((x.i.toNat : Nat) : Int) = x.i by omega] at cS
  have hok : ∀ (a b : IV), (a, b) ∈ enW W → keyOK Tryd.prog 91 [.int .i64, .int .i64] a = true := fun a b h => ok_w W (a, b) h
  have hmg := mget_w x.r x.i W
  have hms := fun c d => mset_w x.r x.i c d W
  rw [e] at hR
  clear e
  generalize sidW S W x.r.toNat x.i.toNat = sd at *
  generalize cmpI x.f (whF (x.b - x.a)) = C at *
  obtain ⟨sa, sb, so⟩ := sd
  obtain ⟨q, i, a, b, ⟨u, w⟩⟩ := x
  simp only [Frc.v, Rs.c, whF] at *
  have wd : IntKind.i64.wrap (b - a) = b - a := wrap64 (by omega) (by omega)
  obtain ⟨m, hm⟩ : ∃ m, matN r q = m := ⟨_, rfl⟩
  rw [hm] at m1 m2 cM b2
  simp only [evH, evRow, Rs.v] at *
  refine IWp.seqI ?_
  simp [go_sem]
  refine IWp.seqI ?_
  refine Drawn.intro (fun k => if k = 9 then .tup [.junk, .junk, .int .i64 (m : Int)] else if k = 35 then .bool true else if k = 41 then .bool true else .tup []) ?_
  simp [go_sem, b1, b2, b3, b4, b5, b6, cR, cW]
  refine ⟨cM _ rfl, by decide +kernel, ?_⟩
  obtain ⟨A, hA⟩ : ∃ A, aget (q, i) W = A := ⟨_, rfl⟩
  rw [hA] at hmg hR
  refine IWp.seqI ?_
  simp [go_sem]
  refine IWp.seqT (α := Unit) (fun _ => (⟨false, 132, 13, [56, 76, 96, 110, 121], glT, [(0, .ptr 1 1 0 0), (3, .ptr 2 1 0 0), (5, .ptr 3 1 0 0)], []⟩, [.map (enW W), evRow r S 0, .rows 6 [[.int .i64 q, .int .i64 i, .int .i64 a, .int .i64 b, .int .i64 u, .int .i64 w]], .rows 2 [[.int .i64 q, .int .i64 i]]])) (fun _ => (A.getD (0, 0)).2 = 0) ?_ ?_
  · cases A with
    | none =>
      simp [go_sem, hmg, evRow]
      exact ⟨fun a b h => by simpa [go_sem, keyOK] using hok a b h, by decide +kernel⟩
    | some v =>
      obtain ⟨v1, v2⟩ := v
      by_cases hv : v2 = 0
      · simp [go_sem, hmg, evRow, mkP, hv]
        exact ⟨fun a b h => by simpa [go_sem, keyOK] using hok a b h, by decide +kernel⟩
      · simp [go_sem, hmg, evRow, mkP, hv]
        refine ⟨fun a b h => by simpa [go_sem, keyOK] using hok a b h, by decide +kernel, ?_⟩
        refine hR _ _ ⟨_, ?_, ?_, rfl⟩
        · simp [go_sem, hv]
        · simp [hv]
  rintro _ hA0
  rw [if_neg (show ¬ (A.getD (0, 0)).2 ≠ 0 from fun h => h hA0)] at hR
  clear hA hA0 hmg
  refine IWp.seqI ?_
  simp [go_sem, evRow]
  refine cS.at [0, 1] (by simp [go_sem]) ?_
  rintro _ _ ⟨rfl, rfl⟩
  simp [go_sem]
  by_cases hb : so = false ∨ sa = 0 ∨ sb = 0
  · rw [if_pos hb] at hR
    refine IWp.now ?_
    rcases hb with hb | hb | hb
    · simp [go_sem, hb]
      refine hR _ _ ⟨_, ?_, rfl, rfl⟩
      simp [go_sem]
    · cases so with
      | false =>
        simp [go_sem, hb]
        refine hR _ _ ⟨_, ?_, rfl, rfl⟩
        simp [go_sem]
      | true =>
        simp [go_sem, hb]
        refine hR _ _ ⟨_, ?_, rfl, rfl⟩
        simp [go_sem]
    · cases so with
      | false =>
        simp [go_sem, hb]
        refine hR _ _ ⟨_, ?_, rfl, rfl⟩
        simp [go_sem]
      | true =>
        by_cases ha : sa = 0
        · simp [go_sem, hb, ha]
          refine hR _ _ ⟨_, ?_, rfl, rfl⟩
          simp [go_sem]
        · simp [go_sem, hb, ha]
          refine hR _ _ ⟨_, ?_, rfl, rfl⟩
          simp [go_sem]
  · rw [if_neg hb] at hR
    obtain ⟨g1, g2, g3⟩ : so = true ∧ ¬ sa = 0 ∧ ¬ sb = 0 := ⟨by cases so with | true => rfl | false => exact absurd (Or.inl rfl) hb, fun h => hb (Or.inr (Or.inl h)), fun h => hb (Or.inr (Or.inr h))⟩
    clear hb
    subst g1
    refine IWp.seqI ?_
    simp [go_sem, g2, g3]
    refine IWp.seqI ?_
    refine Drawn.intro (fun k => if k = 7 then .agg [.int .i64 (b - a), .int .i64 1] else if k = 8 then .tup [.int .i64 C, .int .i64 0] else .tup []) ?_
    simp [go_sem, wd, cw2, cC]
    refine ⟨by decide +kernel, ?_⟩
    refine IWp.seqI ?_
    simp [go_sem]
    by_cases hc : C < 0 ∨ C = 0 ∧ sb < sa
    · rw [if_pos hc] at hR
      have hm := hms sb sa
      refine IWp.now ?_
      by_cases hc1 : C < 0
      · simp [go_sem, hc1, hm]
        refine ⟨fun a b h => by simpa [go_sem, keyOK] using hok a b h, by decide +kernel, hR _ _ ⟨_, ?_, rfl, rfl⟩⟩
        simp [go_sem]
      · obtain ⟨hc2, hc3⟩ : C = 0 ∧ sb < sa := by omega
        simp [go_sem, hc1, hc2, hc3, hm]
        refine ⟨fun a b h => by simpa [go_sem, keyOK] using hok a b h, by decide +kernel, hR _ _ ⟨_, ?_, rfl, rfl⟩⟩
        simp [go_sem]
    · rw [if_neg hc] at hR
      have hm := hms sa sb
      refine IWp.now ?_
      have hc1 : ¬ C < 0 := by omega
      by_cases hc2 : C = 0
      · have hc3 : ¬ sb < sa := by omega
        simp [go_sem, hc1, hc2, hc3, hm]
        refine ⟨fun a b h => by simpa [go_sem, keyOK] using hok a b h, by decide +kernel, hR _ _ ⟨_, ?_, rfl, rfl⟩⟩
        simp [go_sem]
      · simp [go_sem, hc1, hc2, hm]
        refine ⟨fun a b h => by simpa [go_sem, keyOK] using hok a b h, by decide +kernel, hR _ _ ⟨_, ?_, rfl, rfl⟩⟩
        simp [go_sem]
theorem take_calls (r : Nat) (S : List Int) (W : Won) (x : Rs) (hr : 1 ≤ r ∧ r ≤ 6) (hS : S.length = 2 ^ r) (hx : FitR x) : ICalls Tryd.prog glT 79 [.ptr 1 1 0 0, x.v] (evH r S W)
    (fun v σ => v = .int .i64 (tkR r S W x).1 ∧ σ = evH r S (tkR r S W x).2) := by
  by_cases h : badX r x
  · exact take_bad r S W x hr hx h
  · exact take_good r S W x hr hS hx h
end Go.Idl
