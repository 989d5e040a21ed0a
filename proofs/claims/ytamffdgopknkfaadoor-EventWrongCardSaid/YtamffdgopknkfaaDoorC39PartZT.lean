/-
  Chapter 39: errors: what all functions return where the check fails.
-/
import Derived.Test.YtamffdgopknkfaaDoorC39PartZS
import Derived.Test.YtamffdgopknkfaaDoorC39PartT
import Derived.Test.YtamffdgopknkfaaDoorIdlPartM
namespace Go.Idl
set_option linter.all false
open Go.Proofs
set_option maxHeartbeats 16000000
set_option maxRecDepth 40000

theorem evCarryErr_fun (p : Pl) (l : List Em) (a b u v n : Int) (h : ArgE p l) (he : (chkR p l).2 ≠ 0) :
    FN 27 [p.v, .fz 4 (ems l), .int .i64 a, .int .i64 b, .agg [.int .i64 u, .int .i64 v], .int .i64 n] (fun r => r = .tup [.agg [.int .i64 0, .int .i64 0], .int .i64 (chkR p l).2]) := by
  refine IFun.of_bodyW false 21 [28, 53, 55, 56, 57, 58, 61, 74, 99] Tryd.func27 rfl Tryd.call27 rfl fun R hR => ?_
  have cc := Check_fun p l h.t h.s h.l
  simp only [Pl.v] at *
  refine IWp.now ?_
  simp [go_sem]
  refine cc.callF (by simp [go_sem]) ?_
  rintro _ rfl
  simp [go_sem, he]
  exact hR _ _ _ rfl (by simp [go_sem])
theorem errors39_fun (p : Pl) (l : List Em) (ix E index : Int) (h : ArgE p l) (hc : chkR p l = (ix, E)) (hE : E ≠ 0) (hi9 : index = ix ∨ (index = -2 ∧ 0 ≤ ix)) :
    FN 25 [p.v, .fz 4 (ems l), .int .i64 E, .int .i64 index] (fun v => v = .bool true) := by
  refine IFun.of_bodyW false 26 [77, 78, 79, 80, 85] Tryd.func25 rfl Tryd.call25 rfl fun R hR => ?_
  have hc2 : (chkR p l).2 = E := by rw [hc]
  have c1 := Check_fun p l h.t h.s h.l
  rw [hc] at c1
  have c2 := Draw9_fun p l 0 h
  rw [show drawE p l 0 = ([], 0, E) by unfold drawE; rw [if_pos (by rw [hc2]; exact hE), hc2]] at c2
  have c3 := Open_fun p l h
  rw [show openE p l = ([], E) by unfold openE; rw [if_pos (by rw [hc2]; exact hE), hc2]] at c3
  have c4 := Table_fun p l h
  rw [show tableE p l = ([], E) by unfold tableE; rw [if_pos (by rw [hc2]; exact hE), hc2]] at c4
  have c5 := Over_fun p l h
  rw [show overE p l = (false, E) by unfold overE; rw [if_pos (by rw [hc2]; exact hE), hc2]] at c5
  have c6 := Qualify_fun p l 1 h
  rw [show qualE p l 1 = ([], E) by unfold qualE; rw [if_pos (by rw [hc2]; exact hE), hc2]] at c6
  have c7 := evCarryErr_fun p l 1 2 1 1 10 h (by rw [hc2]; exact hE)
  rw [hc2] at c7
  clear hc hc2 h
  simp only [Pl.v, drawV] at *
  refine IWp.now ?_
  simp [go_sem]
  refine c1.callF (by simp [go_sem]) ?_
  rintro _ rfl
  simp [go_sem]
  refine c2.callM (by simp [go_sem]) ?_
  rintro _ rfl
  simp [go_sem]
  refine c3.callF (by simp [go_sem]) ?_
  rintro _ rfl
  simp [go_sem]
  refine c4.callF (by simp [go_sem]) ?_
  rintro _ rfl
  simp [go_sem]
  refine c5.callF (by simp [go_sem]) ?_
  rintro _ rfl
  simp [go_sem]
  refine c6.callF (by simp [go_sem]) ?_
  rintro _ rfl
  simp [go_sem]
  refine c7.callF (by simp [go_sem]) ?_
  rintro _ rfl
  simp [go_sem]
  refine IWp.loopT (α := Nat) (fun i => (⟨false, 98, 26, [77, 78, 79, 80, 85], glT, [(2, .int .i64 E), (3, .int .i64 index), (9, .int .i64 ix), (77, .sl 2 7 0 7 none), (78, .int .i64 7), (79, .int .i64 (i : Int))], []⟩, [.dead, .dead, .rows 1 [[.int .i64 E], [.int .i64 E], [.int .i64 E], [.int .i64 E], [.int .i64 E], [.int .i64 E], [.int .i64 E]]]))
    (fun i => i ≤ 7) (fun i => 7 - i) 0 (by omega) (by simp [go_sem]) ?_
  intro i hi
  have w : ∀ k : Int, 0 ≤ k → k < 100 → IntKind.i64.wrap k = k := fun k h1 h2 => wrap64 (by omega) (by omega)
  rcases (by omega : i = 0 ∨ i = 1 ∨ i = 2 ∨ i = 3 ∨ i = 4 ∨ i = 5 ∨ i = 6 ∨ i = 7) with rfl | rfl | rfl | rfl | rfl | rfl | rfl | rfl
  · simp [go_sem]; exact ⟨1, by decide, by omega, by omega⟩
  · simp [go_sem]; exact ⟨2, by decide, by omega, by omega⟩
  · simp [go_sem]; exact ⟨3, by decide, by omega, by omega⟩
  · simp [go_sem]; exact ⟨4, by decide, by omega, by omega⟩
  · simp [go_sem]; exact ⟨5, by decide, by omega, by omega⟩
  · simp [go_sem]; exact ⟨6, by decide, by omega, by omega⟩
  · simp [go_sem]; exact ⟨7, by decide, by omega, by omega⟩
  · rcases hi9 with rfl | ⟨rfl, h9⟩
    · simp [go_sem]
      exact hR _ _ _ rfl (by simp [go_sem])
    · have n1 : ¬ ix = -2 := by omega
      have n2 : (ix == -2) = false := by rw [beq_eq_false_iff_ne]; exact n1
      simp [go_sem, n1, n2, h9]
      exact hR _ _ _ rfl (by simp [go_sem])
theorem swap_not : ∀ {d : List (Int × Int)}, (endsP d).Nodup → ∀ {a b : Int}, (a, b) ∈ d → (b, a) ∉ d
  | q :: d, h, a, b, h1, h2 => by
    simp only [endsP, List.flatMap_cons, List.cons_append, List.nil_append, List.nodup_cons, List.mem_cons, not_or] at h
    rcases List.mem_cons.1 h1 with e1 | h1
    · rcases List.mem_cons.1 h2 with e2 | h2
      · rw [← e1] at e2
        exact h.1.1 (by rw [← e1]; exact (Prod.mk.inj e2).2)
      · exact h.1.2 (by rw [← e1]; exact (mem_endsP h2).2)
    · rcases List.mem_cons.1 h2 with e2 | h2
      · exact h.1.2 (by rw [← e2]; exact (mem_endsP h1).2)
      · exact swap_not h.2.2 h1 h2
theorem eventWrong_fun (x : Sk) (hx : FitK x) (at9 way n : Int) (ha : 0 ≤ at9 ∧ at9 < 256) (hw : 0 ≤ way ∧ way < 256) (hn : -2 ^ 63 ≤ n ∧ n < 2 ^ 63) :
    FN 8 [.agg x.cells, .int .u8 at9, .int .u8 way, .int .i64 n] (fun v => v = .bool true) := by
  refine IFun.of_bodyW false 16 [17, 30, 40, 56, 60, 65, 70, 80, 88, 96, 116, 129] Tryd.func8 rfl Tryd.call8 rfl fun R hR => ?_
  have cm := made39_fun x hx
  obtain ⟨hf, he⟩ := bX_full hx.M
  have hP := hf.part he
  have hln := mX_len hx.M
  have hbd := pX_bd x
  have hlx : lX x = mB 0 (bX x) := rfl
  have hsl : 1 ≤ (pX x).s.length ∧ (pX x).s.length ≤ 5 := scX_len x.L
  have cl := cloneEms_fun (lX x) (by omega)
  have hB2 : (bX x).length ≤ 6 ∧ 1 ≤ (bX x).length := ⟨hln.1, hln.2.1⟩
  generalize hp : pX x = p at *
  generalize bX x = B at *
  generalize lX x = l at *
  have hln1 : 1 ≤ l.length := hln.2.2.1
  have hln2 : l.length ≤ 24 := hln.2.2.2.1
  have hl0 : ¬ l = [] := fun e => by rw [e] at hln1; simp at hln1
  have hl00 : ¬ l.length = 0 := by omega
  have hl0i : ¬ (l.length : Int) = 0 := by omega
  have hl0b : ((l.length : Int) == 0) = false := by rw [beq_eq_false_iff_ne]; exact hl0i
  -- where
  obtain ⟨aa, haa⟩ : ∃ c : Nat, at9 = c := ⟨at9.toNat, by omega⟩
  obtain ⟨I, hI⟩ : ∃ C, aa % l.length = C := ⟨_, rfl⟩
  have hIl : I < l.length := by rw [← hI]; exact Nat.mod_lt _ (by omega)
  have tmI : at9.tmod (l.length : Int) = (I : Int) := by rw [Int.tmod_eq_emod_of_nonneg (by omega), haa, ← hI]; omega
  have wa : IntKind.i64.wrap at9 = at9 := wrap64 (by omega) (by omega)
  -- which way
  have tmw : way.tmod 9 = way % 9 := Int.tmod_eq_emod_of_nonneg (by omega)
  have hw9 : 0 ≤ way % 9 ∧ way % 9 < 9 := by omega
  have ww : ∀ k : Int, 0 ≤ k → k < 9 → IntKind.u8.wrap k = k := fun k h1 h2 => by
    rcases (by omega : k = 0 ∨ k = 1 ∨ k = 2 ∨ k = 3 ∨ k = 4 ∨ k = 5 ∨ k = 6 ∨ k = 7 ∨ k = 8) with rfl | rfl | rfl | rfl | rfl | rfl | rfl | rfl | rfl <;> decide
  have tw : IntKind.u8.wrap (way.tmod 9) = way % 9 := by rw [tmw]; exact ww _ hw9.1 hw9.2
  obtain ⟨m, hm⟩ : ∃ m, l[I] = m := ⟨_, rfl⟩
  generalize way % 9 = w at *
  simp only [Pl.v, Sk.cells] at *
  refine IWp.seqI ?_
  simp [go_sem]
  refine IWp.seqI ?_
  simp [go_sem]
  refine awake39_fun.callF (by simp [go_sem]) ?_
  rintro _ rfl
  simp [go_sem]
  refine IWp.seqI ?_
  simp [go_sem]
  refine cm.callF (by simp [go_sem]) ?_
  rintro _ rfl
  simp [go_sem]
  refine IWp.seqI ?_
  simp [go_sem, hl0, hl00, hl0i, hl0b]
  refine IWp.seqI ?_
  simp [go_sem]
  refine cl.callOF (by simp [go_sem]) ?_
  rintro _ rfl
  refine ⟨fun v => v, 4, _, .here, by decide, rfl, by simp [go_sem], ?_⟩
  simp [go_sem]
  have hm9 : (ems l)[I]?.getD [] = [.int .i64 m.r, .int .i64 m.a, .int .i64 m.b, .int .i64 m.m] := by
    rw [List.getElem?_eq_getElem (by simpa using hIl), Option.getD_some, ems_getElem]; simp [hm]
  have arg : ∀ (q : Pl) (l' : List Em), (plB q = true → q.t ≤ 12) → q.s = p.s → l'.length ≤ 30 → ArgE q l' := fun q l' h1 h2 h3 => ⟨h1, by rw [h2]; omega, by omega⟩
  have bad2 : ∀ q : Pl, plB q = false → ∀ l', q.s = p.s → l'.length ≤ 30 → FN 25 [q.v, .fz 4 (ems l'), .int .i64 2, .int .i64 (-1)] (fun v => v = .bool true) := fun q hq l' h2 h3 =>
    errors39_fun q l' (-1) 2 (-1) (arg q l' (fun h => by rw [hq] at h; cases h) h2 h3) (chkR_bad hq) (by decide) (.inl rfl)
  have hplt := plB_t hf.pl
  have okP : ∀ l' : List Em, l'.length ≤ 30 → ArgE p l' := fun l' h3 => arg p l' (fun _ => by omega) rfl h3
  have hbI : ¬ badM p m ∧ m.r < (B.length : Int) ∧ (m.a, m.b) ∈ (B.getD m.r.toNat Er0).draw := by
    have := hP.fine (e := m) (by rw [← hlx, ← hm]; exact List.getElem_mem hIl)
    exact this
  have hIl' : I < (mB 0 B).length := by rw [← hlx]; exact hIl
  have hmI : (mB 0 B)[I] = m := by
    have : ∀ (L : List Em) (hL : L = l) (h1 : I < L.length), L[I] = l[I] := by rintro _ rfl _; rfl
    rw [this (mB 0 B) hlx.symm hIl', hm]
  obtain ⟨J, hJ⟩ : ∃ J, l.length - 1 = J := ⟨_, rfl⟩
  have hJl : J < l.length := by omega
  have wJ : IntKind.i64.wrap ((l.length : Int) - 1) = (J : Int) := by rw [wrap64 (by omega) (by omega)]; omega
  obtain ⟨mz, hmz⟩ : ∃ m, l[J] = m := ⟨_, rfl⟩
  have hmz9 : (ems l)[J]?.getD [] = [.int .i64 mz.r, .int .i64 mz.a, .int .i64 mz.b, .int .i64 mz.m] := by
    rw [List.getElem?_eq_getElem (by simpa using hJl), Option.getD_some, ems_getElem]; simp [hmz]
  clear hP
  rcases (by omega : w = 0 ∨ w = 1 ∨ w = 2 ∨ w = 3 ∨ w = 4 ∨ w = 5 ∨ w = 6 ∨ w = 7 ∨ w = 8) with rfl | rfl | rfl | rfl | rfl | rfl | rfl | rfl | rfl
  · have c := bad2 ⟨if 1 < n then 1 else n, p.r, p.b, p.s⟩ (by rw [← Bool.not_eq_true]; intro h; have := (plB_t h).1; simp only at this; split at this <;> omega) l rfl (by omega)
    simp only [Pl.v] at c
    refine IWp.now ?_
    simp [go_sem, hl0, hl00, hl0i, hl0b, wa, tmI, tmw, tw]
    refine c.callF (by simp [go_sem]) ?_
    rintro _ rfl
    simp [go_sem]
    exact hR _ _ _ rfl (by simp [go_sem])
  · have c := bad2 ⟨p.t, if n < 16 then 16 else n, p.b, p.s⟩ (by rw [← Bool.not_eq_true]; intro h; have := (plB_t h).2.2.2.1; simp only at this; split at this <;> omega) l rfl (by omega)
    simp only [Pl.v] at c
    refine IWp.now ?_
    simp [go_sem, hl0, hl00, hl0i, hl0b, wa, tmI, tmw, tw]
    refine c.callF (by simp [go_sem]) ?_
    rintro _ rfl
    simp [go_sem]
    exact hR _ _ _ rfl (by simp [go_sem])
  · have w2 : IntKind.i64.wrap (2 * (p.s.length : Int)) = 2 * (p.s.length : Int) := wrap64 (by omega) (by omega)
    have w3 : IntKind.i64.wrap (2 * (p.s.length : Int) + 1) = 2 * (p.s.length : Int) + 1 := wrap64 (by omega) (by omega)
    have c := bad2 ⟨p.t, p.r, if n < 2 * (p.s.length : Int) + 1 then 2 * (p.s.length : Int) + 1 else n, p.s⟩ (by rw [← Bool.not_eq_true]; intro h; have := (plB_t h).2.2.2.2.2.2; simp only at this; split at this <;> omega) l rfl (by omega)
    simp only [Pl.v] at c
    refine IWp.now ?_
    simp [go_sem, hl0, hl00, hl0i, hl0b, wa, tmI, tmw, tw, w2, w3]
    refine c.callF (by simp [go_sem]) ?_
    rintro _ rfl
    simp [go_sem]
    exact hR _ _ _ rfl (by simp [go_sem])
  · have hset : (ems l).set I [.int .i64 (if -1 < n then -1 else n), .int .i64 m.a, .int .i64 m.b, .int .i64 m.m] = ems (l.set I ⟨if -1 < n then -1 else n, m.a, m.b, m.m⟩) := by rw [ems_set]; rfl
    have hc := hf.before he hIl' (e' := ⟨if -1 < n then -1 else n, m.a, m.b, m.m⟩) (by simp only; split <;> omega)
    rw [← hlx] at hc
    have c := errors39_fun p _ I 390 I (okP _ (by simp; omega)) hc (by decide) (.inl rfl)
    simp only [Pl.v] at c
    refine IWp.now ?_
    simp [go_sem, hl0, hl00, hl0i, hl0b, wa, tmI, tmw, tw, hIl, hm, hm9, hset]
    refine c.callF (by simp [go_sem]) ?_
    rintro _ rfl
    simp [go_sem]
    exact hR _ _ _ rfl (by simp [go_sem])
  · have hset : (ems l).set I [.int .i64 m.r, .int .i64 m.a, .int .i64 m.b, .int .i64 (if n < 1000001 then 1000001 else n)] = ems (l.set I ⟨m.r, m.a, m.b, if n < 1000001 then 1000001 else n⟩) := by rw [ems_set]; rfl
    have hmr9 : mrB (if n < 1000001 then 1000001 else n) = false := by unfold mrB; split <;> simp <;> omega
    have hc := hf.wrong he hIl' (e' := ⟨m.r, m.a, m.b, if n < 1000001 then 1000001 else n⟩) (by rw [hmI]) (by unfold isMm; simp only; rw [hmr9]; simp) (.inl (.inr (.inr hmr9)))
    rw [← hlx] at hc
    have c := errors39_fun p _ I 390 I (okP _ (by simp; omega)) hc (by decide) (.inl rfl)
    simp only [Pl.v] at c
    refine IWp.now ?_
    simp [go_sem, hl0, hl00, hl0i, hl0b, wa, tmI, tmw, tw, hIl, hm, hm9, hset]
    refine c.callF (by simp [go_sem]) ?_
    rintro _ rfl
    simp [go_sem]
    exact hR _ _ _ rfl (by simp [go_sem])
  · have hset : (ems l).set I [.int .i64 m.r, .int .i64 m.b, .int .i64 m.a, .int .i64 m.m] = ems (l.set I ⟨m.r, m.b, m.a, m.m⟩) := by rw [ems_set]; rfl
    obtain ⟨R9, hR9⟩ : ∃ R9 : Nat, m.r = R9 := ⟨m.r.toNat, by have := hbI.1; unfold badM at this; omega⟩
    have hRl : R9 < B.length := by have := hbI.2.1; omega
    have hends := (chain_nodup hf.chain (List.getElem?_eq_getElem hRl)).2
    have hdm : (m.a, m.b) ∈ B[R9].draw := by
      have := hbI.2.2
      rw [hR9, Int.toNat_natCast] at this
      simpa [hRl] using this
    have hne := ends_ne hends hdm
    have hnb : (m.b, m.a) ∉ B[R9].draw := fun h => by
      obtain ⟨i1, h1, e1⟩ := List.mem_iff_getElem.1 hdm
      have := swap_not hends hdm h
      exact this
    have hc := hf.wrong he hIl' (e' := ⟨m.r, m.b, m.a, m.m⟩) (by rw [hmI]) (by
        rw [hmI]
        unfold isMm isM
        simp only [decide_true, Bool.true_and, Prod.mk.injEq]
        rw [decide_eq_false (fun h => hne h.2)]
        rfl) (.inr (by
        simp only
        rw [hR9, Int.toNat_natCast]
        simpa [hRl] using hnb))
    rw [← hlx] at hc
    have c := errors39_fun p _ I 390 I (okP _ (by simp; omega)) hc (by decide) (.inl rfl)
    simp only [Pl.v] at c
    refine IWp.now ?_
    simp [go_sem, hl0, hl00, hl0i, hl0b, wa, tmI, tmw, tw, hIl, hm, hm9, hset]
    refine ⟨by decide +kernel, ?_⟩
    refine c.callF (by simp [go_sem]) ?_
    rintro _ rfl
    simp [go_sem]
    exact hR _ _ _ rfl (by simp [go_sem])
  · have hc := hf.twice he (by omega)
    have hJB : (mB 0 B)[(mB 0 B).length - 1]'(by omega) = mz := by
      have : ∀ (L : List Em) (hL : L = l) (h1 : L.length - 1 < L.length), L[L.length - 1] = l[J] := by
        rintro _ rfl h1
        congr 1
      rw [this (mB 0 B) hlx.symm (by omega), hmz]
    rw [hJB, ← hlx] at hc
    have hsn : ems (l ++ [mz]) = ems l ++ [[.int .i64 mz.r, .int .i64 mz.a, .int .i64 mz.b, .int .i64 mz.m]] := ems_snoc
    have c := errors39_fun p _ l.length 391 l.length (okP _ (by simp; omega)) hc (by decide) (.inl rfl)
    simp only [Pl.v] at c
    have tke : (ems l).take l.length = ems l := List.take_of_length_le (by simp)
    have hcut : ∀ X, cutR 0 (l.length + 1) (ems l ++ [.int .i64 mz.r, .int .i64 mz.a, .int .i64 mz.b, .int .i64 mz.m] :: X) = ems (l ++ [mz]) := fun X => by
      unfold cutR
      rw [List.drop_zero, hsn, show l.length + 1 = (ems l).length + 1 by simp, List.take_length_add_append]
      rfl
    refine IWp.room 10 2 4 (ems l) rfl (by simp [go_sem]) (by simp [go_sem]) fun cap hcap => ?_
    simp only [ems_length] at hcap ⊢
    obtain ⟨D, rfl⟩ : ∃ D, cap = l.length + D := ⟨cap - l.length, by omega⟩
    rw [Nat.add_sub_cancel_left]
    rcases Nat.eq_zero_or_pos D with rfl | hD
    · have n9 : ¬ l.length + 1 ≤ l.length := by omega
      have d9 : decide (l.length + 1 ≤ l.length) = false := decide_eq_false n9
      refine IWp.now ?_
      simp [go_sem, hl0, hl00, hl0i, hl0b, wa, tmI, tmw, tw, wJ, hJl, hmz, hmz9, n9, d9]
      refine ⟨by omega, ?_⟩
      rw [tke, ← hsn]
      refine c.callF (by simp [go_sem]) ?_
      rintro _ rfl
      simp [go_sem]
      exact hR _ _ _ rfl (by simp [go_sem])
    · have n9 : l.length + 1 ≤ l.length + D := by omega
      have d9 : decide (l.length + 1 ≤ l.length + D) = true := decide_eq_true n9
      have e9 : (ems l ++ List.replicate D [.junk, .junk, .junk, .junk])[J]?.getD [] = [.int .i64 mz.r, .int .i64 mz.a, .int .i64 mz.b, .int .i64 mz.m] := by
        rw [List.getElem?_append_left (by simpa using hJl)]; exact hmz9
      have j9 : J < l.length + D := by omega
      refine IWp.now ?_
      simp [go_sem, hl0, hl00, hl0i, hl0b, wa, tmI, tmw, tw, wJ, hJl, hmz, hmz9, n9, d9, e9, j9]
      refine ⟨by omega, ?_⟩
      have hD9 : D = l.length + D - (l.length + 1) + 1 := by omega
      refine c.callF (by simp [go_sem, hcut]; exact hD9) ?_
      rintro _ rfl
      simp [go_sem]
      exact hR _ _ _ rfl (by simp [go_sem])
  · have w1 : IntKind.i64.wrap (p.t + 1) = p.t + 1 := wrap64 (by omega) (by omega)
    have hset : (ems l).set I [.int .i64 m.r, .int .i64 (if n < p.t + 1 then p.t + 1 else n), .int .i64 m.b, .int .i64 m.m] = ems (l.set I ⟨m.r, if n < p.t + 1 then p.t + 1 else n, m.b, m.m⟩) := by rw [ems_set]; rfl
    obtain ⟨A9, hA9⟩ : ∃ A9, (if n < p.t + 1 then p.t + 1 else n) = A9 := ⟨_, rfl⟩
    have hA : p.t < A9 := by rw [← hA9]; split <;> omega
    rw [hA9] at hset
    obtain ⟨R9, hR9⟩ : ∃ R9 : Nat, m.r = R9 := ⟨m.r.toNat, by have := hbI.1; unfold badM at this; omega⟩
    have hRl : R9 < B.length := by have := hbI.2.1; omega
    have hdm : (m.a, m.b) ∈ B[R9].draw := by
      have := hbI.2.2
      rw [hR9, Int.toNat_natCast] at this
      simpa [hRl] using this
    have hg9 : B[R9]? = some B[R9] := List.getElem?_eq_getElem hRl
    have hma := (chain_ok hf.chain hg9).mem hdm
    rw [ordT_mem, ordT_mem] at hma
    have hma := hma.1
    simp only at hma
    have hnb : (A9, m.b) ∉ B[R9].draw := fun h => by
      have := (chain_ok hf.chain hg9).mem h
      rw [ordT_mem, ordT_mem] at this
      have := this.1
      simp only at this
      omega
    have hc := hf.wrong he hIl' (e' := ⟨m.r, A9, m.b, m.m⟩) (by rw [hmI]) (by
        rw [hmI]
        unfold isMm isM
        simp only [decide_true, Bool.true_and, Prod.mk.injEq]
        rw [decide_eq_false (fun h => by omega)]
        rfl) (.inr (by
        simp only
        rw [hR9, Int.toNat_natCast]
        simpa [hRl] using hnb))
    rw [← hlx] at hc
    have c := errors39_fun p _ I 390 I (okP _ (by simp; omega)) hc (by decide) (.inl rfl)
    simp only [Pl.v] at c
    refine IWp.now ?_
    simp [go_sem, hl0, hl00, hl0i, hl0b, wa, tmI, tmw, tw, hIl, hm, hm9, w1, hA9, hset]
    refine c.callF (by simp [go_sem]) ?_
    rintro _ rfl
    simp [go_sem]
    exact hR _ _ _ rfl (by simp [go_sem])
  · have h0l : 0 < l.length := by omega
    have h0L : 0 < (mB 0 B).length := by rw [← hlx]; omega
    obtain ⟨m0, hm0⟩ : ∃ m, l[0] = m := ⟨_, rfl⟩
    have hm08 : (ems l)[0]?.getD [] = [.int .i64 m0.r, .int .i64 m0.a, .int .i64 m0.b, .int .i64 m0.m] := by
      rw [List.getElem?_eq_getElem (by simpa using h0l), Option.getD_some, ems_getElem]; simp [hm0]
    have hset : (ems l).set 0 [.int .i64 (if n < p.r then p.r else n), .int .i64 m0.a, .int .i64 m0.b, .int .i64 m0.m] = ems (l.set 0 ⟨if n < p.r then p.r else n, m0.a, m0.b, m0.m⟩) := by rw [ems_set]; rfl
    obtain ⟨hc1, hc2⟩ := hf.late he h0L (e' := ⟨if n < p.r then p.r else n, m0.a, m0.b, m0.m⟩) (by simp only; split <;> omega)
    rw [← hlx] at hc1 hc2
    have hlast : mz.r = (B.length : Int) - 1 := by
      have h9 := hf.last9 (List.length_pos_iff.1 hB2.2) h0L
      have : ∀ (L : List Em) (hL : L = l) (h1 : L.length - 1 < L.length), L[L.length - 1] = l[J] := by
        rintro _ rfl h1
        congr 1
      rw [this (mB 0 B) hlx.symm (by omega), hmz] at h9
      exact h9
    refine IWp.now ?_
    simp [go_sem, hl0, hl00, hl0i, hl0b, wa, tmI, tmw, tw, wJ, hJl, hmz, hmz9, h0l, hm0, hm08, hset]
    by_cases hB1 : B.length = 1
    · have hz : ¬ 0 < mz.r := by omega
      have c := errors39_fun p _ 0 390 0 (okP _ (by simp; omega)) (hc1 hB1) (by decide) (.inl rfl)
      simp only [Pl.v] at c
      simp [hz]
      refine c.callF (by simp [go_sem]) ?_
      rintro _ rfl
      simp [go_sem]
      exact hR _ _ _ rfl (by simp [go_sem])
    · have hz : 0 < mz.r := by omega
      obtain ⟨k, hk⟩ := hc2 (by omega)
      have c := errors39_fun p _ k 392 (-2) (okP _ (by simp; omega)) hk (by decide) (.inr ⟨rfl, by omega⟩)
      simp only [Pl.v] at c
      simp [hz]
      refine c.callF (by simp [go_sem]) ?_
      rintro _ rfl
      simp [go_sem]
      exact hR _ _ _ rfl (by simp [go_sem])
theorem eventWrong_law (q : {x : Sk // FitK x}) (a w n : Int) (h1 : (Lit.int .u8 a).wf = true) (h2 : (Lit.int .u8 w).wf = true) (h3 : (Lit.int .i64 n).wf = true) :
    FN 8 [.agg [.int .u8 q.1.a, .int .u8 q.1.b, .int .u8 q.1.c, .fz 1 (bys .u8 q.1.L), .fz 1 (bys .i8 q.1.M)], .int .u8 a, .int .u8 w, .int .i64 n] (fun v => v = .bool true) := eventWrong_fun q.1 q.2 a w n (wf8 h1) (wf8 h2) (wf64 h3)
end Go.Idl
