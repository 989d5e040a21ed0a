/-
  Chapter 39: EventMeets.
-/
import Derived.Test.YtamffdgopknkfaaDoorC39PartZA
import Derived.Test.YtamffdgopknkfaaDoorC39PartZK
namespace Go.Idl
set_option linter.all false
open Go.Proofs
set_option maxHeartbeats 16000000
set_option maxRecDepth 40000

theorem agetN {α β : Type} [DecidableEq α] {k : α} {S : List (α × β)} (h : k ∉ S.map (·.1)) : aget k S = none := by
  have := aget_none.2 h
  cases hq : aget k S with
  | none => rfl
  | some v => rw [hq] at this; cases this
theorem asetN {α β : Type} [DecidableEq α] {k : α} {v : β} {S : List (α × β)} (h : k ∉ S.map (·.1)) : aset k v S = S ++ [(k, v)] := aset_keys k v S (aget_none.2 h)
theorem eventMeets_fun (x : Sk) (hx : FitK x) : FN 3 [.agg x.cells] (fun v => v = .bool true) := by
  refine IFun.of_bodyW false 31 [32, 81, 84, 85, 86, 87, 128, 130, 134, 148, 167, 171, 194, 197, 198, 199, 200, 218, 238] Tryd.func3 rfl Tryd.call3 rfl fun R hR => ?_
  have cm := made39_fun x hx
  obtain ⟨hf, he⟩ := bX_full hx.M
  have hP := hf.part he
  have hln := mX_len hx.M
  have hbd := pX_bd x
  have hlx : lX x = mB 0 (bX x) := rfl
  have hsl : 1 ≤ (pX x).s.length ∧ (pX x).s.length ≤ 5 := scX_len x.L
  have ct := Table_fun (pX x) (lX x) (argX (by omega))
  have ck := Check_fun (pX x) (lX x) (argX (x := x) (l := lX x) (by omega)).t (argX (x := x) (l := lX x) (by omega)).s (by omega)
  have cv := Over_fun (pX x) (lX x) (argX (by omega))
  have cd (n : Int) := Draw9_fun (pX x) (lX x) n (argX (by omega))
  generalize hp : pX x = p at *
  generalize bX x = B at *
  generalize lX x = l at *
  have hov := hf.ovrd
  rw [hlx, hP.table, hov, ← hlx] at ct
  rw [hlx, hP.chk, ← hlx] at ck
  rw [hlx, hP.overE, hov, ← hlx] at cv
  have htl : (tabL9 p B).length = p.t.toNat := tabL9_length
  simp only [Pl.v, Sk.cells] at *
  refine IWp.now ?_
  simp [go_sem]
  refine awake39_fun.callF (by simp [go_sem]) ?_
  rintro _ rfl
  simp [go_sem]
  refine cm.callF (by simp [go_sem]) ?_
  rintro _ rfl
  simp [go_sem]
  refine ck.callF (by simp [go_sem]) ?_
  rintro _ rfl
  simp [go_sem]
  refine cv.callF (by simp [go_sem]) ?_
  rintro _ rfl
  simp [go_sem]
  refine ct.callF (by simp [go_sem]) ?_
  rintro _ rfl
  have w0 : IntKind.i64.wrap 0 = 0 := by decide
  have hmt : max p.t 0 = p.t := by omega
  simp [go_sem, htl, w0, hmt]
  have hap := hf.apart
  have hin := mB_in_nodup hf.keys hf.ends 0
  rw [← hlx] at hap hin
  have hln2 : l.length ≤ 24 := hln.2.2.2.1
  obtain ⟨T, hT⟩ : ∃ T : Nat, p.t = T := ⟨p.t.toNat, by omega⟩
  obtain ⟨F1, hF1⟩ : ∃ F : Nat → List ((Int × Int) × Int), ∀ i, F i = (l.take i).map fun m => (mmE m, (1 : Int)) := ⟨_, fun _ => rfl⟩
  obtain ⟨F2, hF2⟩ : ∃ F : Nat → List ((Int × Int) × Int), ∀ i, F i = ((l.take i).flatMap inE).map fun k => (k, (1 : Int)) := ⟨_, fun _ => rfl⟩
  have f10 : F1 0 = [] := by rw [hF1]; rfl
  have f20 : F2 0 = [] := by rw [hF2]; rfl
  refine IWp.loopT (α := Nat) (fun i => (⟨false, 274, 31, [32, 81, 84, 85, 86, 87, 128, 130, 134, 148, 167, 171, 194, 197, 198, 199, 200, 218, 238], glT, [(3, .ptr 1 1 0 0), (4, .fz 4 (ems l)), (10, .fz 6 (lns (tabL9 p B))), (12, .map 2), (13, .map 3), (84, .fz 4 (ems l)), (85, .int .i64 l.length), (86, .int .i64 (i : Int))], []⟩, [.dead, .rows 4 [[.int .i64 p.t, .int .i64 p.r, .int .i64 p.b, .fz 1 (ints p.s)]], .map (enP (F1 i)), .map (enP (F2 i))]))
    (fun i => i ≤ l.length) (fun i => l.length - i) 0 (by omega) (by simp [go_sem, f10, f20]) ?_
  intro i hi
  by_cases hil : i < l.length
  · have wi : IntKind.i64.wrap ((i : Int) + 1) = i + 1 := wrap64 (by omega) (by omega)
    obtain ⟨m, hm⟩ : ∃ m, l[i] = m := ⟨_, rfl⟩
    obtain ⟨m1, m2, m3, m4⟩ := m
    have e1 : (if m3 < m2 then m3 else m2) = min m2 m3 := by split <;> omega
    have e2 : (if m2 < m3 then m3 else m2) = max m2 m3 := by split <;> omega
    have sn : l.take (i + 1) = l.take i ++ [⟨m1, m2, m3, m4⟩] := by rw [List.take_succ_eq_append_getElem hil, hm]
    have hap2 : ((l.take (i + 1)).map mmE).Nodup := by rw [List.map_take]; exact hap.sublist (List.take_sublist _ _)
    have hin2 : ((l.take (i + 1)).flatMap inE).Nodup := (List.nodup_append.1 (show ((l.take (i + 1)).flatMap inE ++ (l.drop (i + 1)).flatMap inE).Nodup by rw [← List.flatMap_append, List.take_append_drop]; exact hin)).1
    rw [sn, List.map_append, List.nodup_append] at hap2
    rw [sn, List.flatMap_append, List.nodup_append] at hin2
    have k1 : (min m2 m3, max m2 m3) ∉ ((l.take i).map fun m => (mmE m, (1 : Int))).map (·.1) := by
      rw [List.map_map]
      exact fun hc => hap2.2.2 _ hc (min m2 m3, max m2 m3) (List.mem_singleton.2 rfl) rfl
    have k2 : (m1, m2) ∉ (((l.take i).flatMap inE).map fun k => (k, (1 : Int))).map (·.1) := by
      rw [List.map_map, show ((fun x : (Int × Int) × Int => x.1) ∘ fun k => (k, (1 : Int))) = id from rfl, List.map_id]
      exact fun hc => hin2.2.2 _ hc (m1, m2) (by simp [inE]) rfl
    have n1 := agetN k1
    have a1 := asetN (v := (1 : Int)) k1
    have k3 : (m1, m3) ∉ ((((l.take i).flatMap inE).map fun k => (k, (1 : Int))) ++ [((m1, m2), (1 : Int))]).map (·.1) := by
      rw [List.map_append, List.map_map, show ((fun x : (Int × Int) × Int => x.1) ∘ fun k => (k, (1 : Int))) = id from rfl, List.map_id]
      intro hc
      rcases List.mem_append.1 hc with hc | hc
      · exact hin2.2.2 _ hc (m1, m3) (by simp [inE]) rfl
      · have h9 := hin2.2.1
        simp [inE] at h9
        simp at hc
        exact h9 hc.symm
    have n3 := agetN k3
    have a3 := asetN (v := (1 : Int)) k3
    have n2 := agetN k2
    have a2 := asetN (v := (1 : Int)) k2
    have g1 : F1 (i + 1) = F1 i ++ [((min m2 m3, max m2 m3), (1 : Int))] := by rw [hF1, hF1, sn]; simp [mmE]
    have g2 : F2 (i + 1) = F2 i ++ [((m1, m2), (1 : Int))] ++ [((m1, m3), (1 : Int))] := by rw [hF2, hF2, sn]; simp [inE]
    rw [← hF1] at n1 a1
    rw [← hF2] at n2 a2 n3 a3
    clear k1 k2 k3
    have w1 : IntKind.i64.wrap (0 + 1) = 1 := by decide
    have w1' : IntKind.i64.wrap 1 = 1 := by decide
    simp [go_sem, hil, hm, e1, e2]
    refine Drawn.incr 12 [90, 101] rfl rfl rfl rfl rfl (by decide +kernel) rfl ?_
    simp [go_sem, e1, e2, mget_p, mset_p, n1, a1, w1, w1']
    refine ⟨by decide +kernel, ?_⟩
    refine Drawn.incr 6 [106, 111] rfl rfl rfl rfl rfl (by decide +kernel) rfl ?_
    simp [go_sem, mget_p, mset_p, n2, a2, w1, w1']
    refine ⟨by decide +kernel, ?_⟩
    refine Drawn.incr 6 [116, 121] rfl rfl rfl rfl rfl (by decide +kernel) rfl ?_
    simp [go_sem, mget_p, mset_p, n3, a3, wi, w1, w1']
    refine ⟨by decide +kernel, ?_⟩
    exact ⟨i + 1, ⟨by omega, by rw [g1], by rw [g2]; simp⟩, by omega, by omega⟩
  obtain rfl : i = l.length := by omega
  have fe1 : ∀ e ∈ F1 l.length, e.2 = 1 := by
    intro e he
    rw [hF1] at he
    obtain ⟨m, _, rfl⟩ := List.mem_map.1 he
    rfl
  have fe2 : F2 l.length = (l.flatMap inE).map fun k => (k, (1 : Int)) := by rw [hF2, List.take_length]
  clear hF1 hF2 f10 f20
  generalize F1 l.length = S1 at *
  generalize F2 l.length = S2 at *
  obtain ⟨TB, hTB⟩ : ∃ TB, tabL9 p B = TB := ⟨_, rfl⟩
  rw [hTB] at htl ⊢
  simp [go_sem]
  refine IWp.loopT (α := Option ((Int × Int) × Int) × List ((Int × Int) × Int)) (fun x => (⟨false, 274, 31, [32, 81, 84, 85, 86, 87, 128, 130, 134, 148, 167, 171, 194, 197, 198, 199, 200, 218, 238], glT, [(3, .ptr 1 1 0 0), (4, .fz 4 (ems l)), (10, .fz 6 (lns TB)), (13, .map 3), (128, .iter 4)], []⟩, [.dead, .rows 4 [[.int .i64 p.t, .int .i64 p.r, .int .i64 p.b, .fz 1 (ints p.s)]], .dead, .map (enP S2), .iter (some 2) (enP S1) (x.1.map fun e => (k2 e.1, .int .i64 e.2)) (enP x.2)]))
    (fun x => ∀ e ∈ x.2, e.2 = 1) (fun x => x.2.length) (none, S1) fe1 (by simp [go_sem]) ?_
  rintro ⟨cur, T9⟩ hI
  simp only at hI
  simp [go_sem]
  refine ⟨fun h => ?_, fun k kv hkv => ?_⟩
  rotate_left
  · obtain ⟨⟨⟨a, b⟩, c⟩, hp9, rfl⟩ := enP_get hkv
    rw [enP_erase]
    have hlt := (List.getElem?_eq_some_iff.1 hp9).1
    have hlen : (T9.eraseIdx k).length < T9.length := by rw [List.length_eraseIdx, if_pos hlt]; omega
    have hc : c = 1 := hI _ (List.mem_of_getElem? hp9)
    subst hc
    simp [go_sem, k2]
    refine ⟨some ((a, b), 1), T9.eraseIdx k, ⟨⟨rfl, rfl⟩, ?_⟩, fun a b c h => hI _ (List.mem_of_mem_eraseIdx h), hlen⟩
    rintro _ _ x x1 x2 _ rfl rfl
    simp [go_sem]
  have hBl : 0 < B.length := by omega
  have hBne : B ≠ [] := List.length_pos_iff.1 hBl
  have hl1 : 1 ≤ l.length := by omega
  obtain ⟨J, hJ⟩ : ∃ J, l.length - 1 = J := ⟨_, rfl⟩
  have hJl : J < l.length := by omega
  have hlast : l[J].r = (B.length : Int) - 1 := by
    have h9 := hf.last hBne (by rw [← hlx]; omega)
    have : ∀ (L : List Em) (hL : L = l) (h1 : J < L.length), L[J].r = (l[J]).r := by rintro _ rfl _; rfl
    rw [← this (mB 0 B) hlx.symm (by rw [← hlx]; omega), ← h9]
    congr 2
    rw [← hlx]; omega
  obtain ⟨mz, hmz⟩ : ∃ m, l[J] = m := ⟨_, rfl⟩
  rw [hmz] at hlast
  obtain ⟨z1, z2, z3, z4⟩ := mz
  simp only at hlast
  have wJ : IntKind.i64.wrap ((l.length : Int) - 1) = (J : Int) := by rw [wrap64 (by omega) (by omega)]; omega
  have hl0' : ¬ l = [] := fun e => by rw [e] at hl1; simp at hl1
  have hl0i : (0 : Int) < l.length := by omega
  have hl0n : 0 < l.length := by omega
  have hBn : B.length ≤ 6 := by omega
  simp [go_sem]
  refine IWp.loopT (α := Nat) (fun j => (⟨false, 274, 31, [32, 81, 84, 85, 86, 87, 128, 130, 134, 148, 167, 171, 194, 197, 198, 199, 200, 218, 238], glT, [(3, .ptr 1 1 0 0), (4, .fz 4 (ems l)), (10, .fz 6 (lns TB)), (13, .map 3), (18, .int .i64 (j : Int))], []⟩, [.dead, .rows 4 [[.int .i64 p.t, .int .i64 p.r, .int .i64 p.b, .fz 1 (ints p.s)]], .dead, .map (enP S2), .dead]))
    (fun j => j ≤ B.length) (fun j => B.length - j) 0 (by omega) (by simp [go_sem]) ?_
  intro j hj
  by_cases hjB : j < B.length
  · have wj : IntKind.i64.wrap ((j : Int) + 1) = j + 1 := wrap64 (by omega) (by omega)
    have c1 := cd j
    obtain ⟨r, hr⟩ : ∃ r, B[j] = r := ⟨_, rfl⟩
    have hg : B[j]? = some r := by rw [List.getElem?_eq_getElem hjB, hr]
    have hdr : drawE p l j = (r.draw, r.bye, 0) := by
      rw [hlx, hP.draw, if_neg (by omega), Int.toNat_natCast, List.getD_eq_getElem?_getD, hg]; rfl
    rw [hdr] at c1
    simp only [drawV] at c1
    have hby := chain_bye hf.chain hg
    have hlook := fun (T : Int) (hT : 1 ≤ T ∧ T ≤ p.t) => hf.look hg hT
    rw [← hlx] at hlook
    rw [← fe2] at hlook
    obtain ⟨d, y, M⟩ := r
    simp only at c1 hby hlook
    have hle : (j : Int) ≤ z1 := by omega
    have hbt : (decide (0 < y) != (p.t.tmod 2 == 1)) = false := by
      have : p.t.tmod 2 = p.t % 2 := Int.tmod_eq_emod_of_nonneg (by omega)
      rw [this]
      rcases Nat.mod_two_eq_zero_or_one p.t.toNat with hq | hq
      · have := hby.1 hq
        have h2 : p.t % 2 = 0 := by omega
        rw [this, h2]; decide
      · have := (hby.2 hq).1
        have h2 : p.t % 2 = 1 := by omega
        rw [h2, decide_eq_true (show 0 < y by omega)]; decide
    simp [go_sem, hl0', hl0i, hl0n, wJ, hJl, hmz, hle]
    refine c1.callM (by simp [go_sem]) ?_
    rintro _ rfl
    simp [go_sem, hbt]
    refine IWp.loopT (α := Nat) (fun t => (⟨false, 274, 31, [32, 81, 84, 85, 86, 87, 128, 130, 134, 148, 167, 171, 194, 197, 198, 199, 200, 218, 238], glT, [(3, .ptr 1 1 0 0), (4, .fz 4 (ems l)), (10, .fz 6 (lns TB)), (13, .map 3), (18, .int .i64 (j : Int)), (20, .int .i64 y), (22, .int .i64 ((t : Int) + 1))], []⟩, [.dead, .rows 4 [[.int .i64 p.t, .int .i64 p.r, .int .i64 p.b, .fz 1 (ints p.s)]], .dead, .map (enP S2), .dead]))
      (fun t => t ≤ T) (fun t => T - t) 0 (by omega) (by simp [go_sem]) ?_
    intro t ht
    by_cases htT : t < T
    · have wt : IntKind.i64.wrap ((t : Int) + 1 + 1) = (t : Int) + 1 + 1 := wrap64 (by omega) (by omega)
      have hlk := hlook ((t : Int) + 1) (by omega)
      have hle2 : (t : Int) + 1 ≤ p.t := by omega
      by_cases hb : (t : Int) + 1 = y
      · rw [if_pos hb] at hlk
        subst hb
        simp [go_sem, hle2, mget_p, hlk, wt]
        exact ⟨t + 1, by omega, by omega, by omega⟩
      · rw [if_neg hb] at hlk
        simp [go_sem, hle2, mget_p, hlk, hb, wt]
        exact ⟨t + 1, by omega, by omega, by omega⟩
    obtain rfl : t = T := by omega
    have hle3 : ¬ (t : Int) + 1 ≤ p.t := by omega
    simp [go_sem, hle3, wj]
    exact ⟨j + 1, by omega, by omega, by omega⟩
  obtain rfl : j = B.length := by omega
  have hle4 : ¬ (B.length : Int) ≤ z1 := by omega
  have hline := fun (k : Nat) (y : Ln) (hy : (tabL9 p B)[k]? = some y) => hf.line hy
  have hlineM := fun (k : Nat) (y : Ln) (hy : (tabL9 p B)[k]? = some y) => hf.lineM hy
  obtain ⟨sm1, sm2, sm3⟩ := hf.sums
  have sm4 := hf.byes
  have sm5 := hf.byeN
  have hbb := (plB_t hf.pl).2.2.2.2.2
  rw [hTB] at hline hlineM sm1 sm2 sm3 sm4
  rw [← hlx] at hline hlineM sm1 sm3
  obtain ⟨E, hE⟩ : ∃ E, (byeT B).length = E := ⟨_, rfl⟩
  rw [hE] at sm1 sm4 sm5
  have hSl : p.s.length ≤ 5 := hsl.2
  have hv1 : 2 * p.s.length * l.length ≤ 10 * 24 := Nat.mul_le_mul (by omega) (by omega)
  obtain ⟨V, hV⟩ : ∃ V : Nat, 2 * p.s.length * l.length = V := ⟨_, rfl⟩
  have hVi : 2 * (p.s.length : Int) * l.length = V := by rw [← hV]; simp
  rw [hV] at hv1
  rw [hVi] at sm1 hline
  have htl2 : TB.length = T := by omega
  have hEB : E ≤ 6 := by
    rcases Nat.mod_two_eq_zero_or_one p.t.toNat with hq | hq
    · rw [hq] at sm5; omega
    · rw [hq] at sm5; omega
  have hbE : 0 ≤ p.b * E ∧ p.b * E ≤ 60 := by
    refine ⟨Int.mul_nonneg hbb.1 (by omega), ?_⟩
    have h1 := Int.mul_le_mul_of_nonneg_right (a := p.b) (b := 10) (c := (E : Int)) (by omega) (by omega)
    omega
  obtain ⟨W, hW⟩ : ∃ W, p.b * (E : Int) = W := ⟨_, rfl⟩
  rw [hW] at sm1 hbE
  have hbnd : ∀ x ∈ TB, (0 ≤ x.points ∧ x.points ≤ 250) ∧ (-24000000 ≤ x.margin ∧ x.margin ≤ 24000000) ∧ (0 ≤ yeL x ∧ yeL x ≤ 1) ∧ (0 ≤ x.played ∧ x.played ≤ 6) := fun x hx => by
    obtain ⟨k, hk⟩ := List.getElem?_of_mem hx
    have h1 := hline k x hk
    have h2 := hlineM k x hk
    have h3 : 0 ≤ yeL x ∧ yeL x ≤ 1 := by unfold yeL; split <;> omega
    omega
  simp [go_sem, hl0', hl0i, hl0n, wJ, hJl, hmz, hle4]
  refine IWp.loopT (α := Nat) (fun k => (⟨false, 274, 31, [32, 81, 84, 85, 86, 87, 128, 130, 134, 148, 167, 171, 194, 197, 198, 199, 200, 218, 238], glT, [(3, .ptr 1 1 0 0), (4, .fz 4 (ems l)), (18, .int .i64 B.length), (24, .int .i64 ((TB.take k).map (·.points)).sum), (25, .int .i64 ((TB.take k).map (·.margin)).sum), (26, .int .i64 ((TB.take k).map yeL).sum), (27, .int .i64 ((TB.take k).map (·.played)).sum), (197, .fz 6 (lns TB)), (198, .int .i64 TB.length), (199, .int .i64 (k : Int))], []⟩, [.dead, .rows 4 [[.int .i64 p.t, .int .i64 p.r, .int .i64 p.b, .fz 1 (ints p.s)]], .dead, .dead, .dead]))
    (fun k => k ≤ T) (fun k => T - k) 0 (by omega) (by simp [go_sem]) ?_
  intro k hk
  by_cases hkT : k < T
  · have wk : IntKind.i64.wrap ((k : Int) + 1) = k + 1 := wrap64 (by omega) (by omega)
    have hkB : k < TB.length := by omega
    have s1 := sum_take (g := (·.points)) hkB
    have s2 := sum_take (g := (·.margin)) hkB
    have s3 := sum_take (g := yeL) hkB
    have s4 := sum_take (g := (·.played)) hkB
    have t1 := sum_bdL (g := (·.points)) (L := TB.take k) fun x hx => (hbnd x (List.mem_of_mem_take hx)).1
    have t2 := sum_bdL (g := (·.margin)) (L := TB.take k) fun x hx => (hbnd x (List.mem_of_mem_take hx)).2.1
    have t3 := sum_bdL (g := yeL) (L := TB.take k) fun x hx => (hbnd x (List.mem_of_mem_take hx)).2.2.1
    have t4 := sum_bdL (g := (·.played)) (L := TB.take k) fun x hx => (hbnd x (List.mem_of_mem_take hx)).2.2.2
    have tl : (TB.take k).length = k := by simp; omega
    rw [tl] at t1 t2 t3 t4
    have hb9 := hbnd TB[k] (List.getElem_mem hkB)
    have hln9 := hline k TB[k] (List.getElem?_eq_getElem hkB)
    generalize ((TB.take k).map (·.points)).sum = X1 at *
    generalize ((TB.take k).map (·.margin)).sum = X2 at *
    generalize ((TB.take k).map yeL).sum = X3 at *
    generalize ((TB.take k).map (·.played)).sum = X4 at *
    obtain ⟨y, hy⟩ : ∃ y, TB[k] = y := ⟨_, rfl⟩
    rw [hy] at s1 s2 s3 s4 hb9 hln9
    obtain ⟨y1, y2, y3, y4, y5, y6⟩ := y
    rw [List.map_take] at s1 s2 s3 s4
    simp only [yeL] at s1 s2 s3 s4 hb9 hln9
    have w1 : IntKind.i64.wrap (X1 + y4) = X1 + y4 := wrap64 (by omega) (by omega)
    have w2 : IntKind.i64.wrap (X2 + y5) = X2 + y5 := wrap64 (by omega) (by omega)
    have w4 : IntKind.i64.wrap (X4 + y3) = X4 + y3 := wrap64 (by omega) (by omega)
    have n4 : ¬ y4 < 0 := by omega
    have e2 : y2 = (k : Int) + 1 := hln9.1
    subst e2
    cases y6
    case false =>
      simp only [Bool.false_eq_true, if_false] at *
      have e3 : y3 = (B.length : Int) := by omega
      subst e3
      simp [go_sem, hkT, hkB, hy, w1, w2, w4, wk, n4]
      refine ⟨by decide +kernel, k + 1, ⟨by rw [s1], by rw [s2], by rw [s3]; omega, by rw [s4], by omega⟩, by omega, by omega⟩
    case true =>
      simp only [if_true] at *
      have w3 : IntKind.i64.wrap (X3 + 1) = X3 + 1 := wrap64 (by omega) (by omega)
      have w5 : IntKind.i64.wrap ((B.length : Int) - 1) = (B.length : Int) - 1 := wrap64 (by omega) (by omega)
      have e3 : y3 = (B.length : Int) - 1 := by omega
      subst e3
      simp [go_sem, hkT, hkB, hy, w1, w2, w3, w4, w5, wk, n4]
      refine ⟨by decide +kernel, k + 1, ⟨by rw [s1], by rw [s2], by rw [s3], by rw [s4], by omega⟩, by omega, by omega⟩
  obtain rfl : k = T := by omega
  rw [List.take_of_length_le (by omega), sm1, sm2, sm3, sm4]
  have x1 : IntKind.i64.wrap (2 * (p.s.length : Int)) = 2 * (p.s.length : Int) := wrap64 (by omega) (by omega)
  have x2 : IntKind.i64.wrap (2 * (p.s.length : Int) * l.length) = V := by rw [hVi]; exact wrap64 (by omega) (by omega)
  have x3 : IntKind.i64.wrap (p.b * (E : Int)) = W := by rw [hW]; exact wrap64 (by omega) (by omega)
  have x4 : IntKind.i64.wrap ((V : Int) + W) = V + W := wrap64 (by omega) (by omega)
  have x5 : IntKind.i64.wrap (2 * (l.length : Int)) = 2 * (l.length : Int) := wrap64 (by omega) (by omega)
  have tm : p.t.tmod 2 = p.t % 2 := Int.tmod_eq_emod_of_nonneg (by omega)
  have x6 : IntKind.i64.wrap ((B.length : Int) * p.t.tmod 2) = (E : Int) := by
    have e0 : (B.length : Int) * (p.t % 2) = (E : Int) := by
      rw [sm5, Int.natCast_mul]
      congr 1
      omega
    rw [tm, e0]
    exact wrap64 (by omega) (by omega)
  simp [go_sem, htl2, x1, x2, x3, x4, x5, x6]
  exact hR _ _ _ rfl (by simp [go_sem])
theorem eventMeets_law (q : {x : Sk // FitK x}) : FN 3 [.agg [.int .u8 q.1.a, .int .u8 q.1.b, .int .u8 q.1.c, .fz 1 (bys .u8 q.1.L), .fz 1 (bys .i8 q.1.M)]] (fun v => v = .bool true) := eventMeets_fun q.1 q.2
end Go.Idl
