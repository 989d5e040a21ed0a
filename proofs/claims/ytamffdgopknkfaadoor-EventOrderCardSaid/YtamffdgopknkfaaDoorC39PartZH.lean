/-
  Chapter 39: EventOrder.
-/
import Derived.Test.YtamffdgopknkfaaDoorC39PartZG
import Derived.Test.YtamffdgopknkfaaDoorC39PartZF
namespace Go.Idl
set_option linter.all false
open Go.Proofs
set_option maxHeartbeats 16000000
set_option maxRecDepth 40000

theorem drawE_len {p : Pl} {l : List Em} (h : ArgE p l) (n : Int) : (drawE p l n).1.length ≤ 6 := by
  unfold drawE
  split
  · simp
  · split
    · simp
    · rename_i h1 h2
      have hc : (chkR p l).2 = 0 := by simpa using h1
      have hj : n.toNat < (rchd p l).length := by omega
      have := (rchd_er (l := l) (plB_ok (chkR_pl hc) (h.t (chkR_pl hc))).1 (j := n.toNat) (r := (rchd p l)[n.toNat]) (List.getElem?_eq_getElem hj)).2
      rw [List.getD_eq_getElem?_getD, List.getElem?_eq_getElem hj, Option.getD_some]
      exact this
theorem eventOrder_fun (x : Sk) (hx : FitK x) (n cut : Int) (hn : 0 ≤ n ∧ n < 256) (hc : 0 ≤ cut ∧ cut < 256) : FN 7 [.agg x.cells, .int .u8 n, .int .u8 cut] (fun v => v = .bool true) := by
  refine IFun.of_bodyZ false 33 [34, 47, 100, 140, 142, 143, 144, 178, 180, 181, 182, 183, 205] Tryd.func7 rfl Tryd.call7 rfl fun R hR => ?_
  have cm := made39_fun x hx
  obtain ⟨hf, he⟩ := bX_full hx.M
  have hP := hf.part he
  have hln := mX_len hx.M
  have hbd := pX_bd x
  have hlx : lX x = mB 0 (bX x) := rfl
  have ct (l : List Em) (hl : l.length ≤ 2 ^ 30) := Table_fun (pX x) l (argX hl)
  have ck (l : List Em) (hl : l.length ≤ 2 ^ 30) := Check_fun (pX x) l (argX (x := x) hl).t (argX (x := x) hl).s hl
  have co (l : List Em) (hl : l.length ≤ 2 ^ 30) := Open_fun (pX x) l (argX hl)
  have cv (l : List Em) (hl : l.length ≤ 2 ^ 30) := Over_fun (pX x) l (argX hl)
  have cd (l : List Em) (n : Int) (hl : l.length ≤ 2 ^ 30) := Draw9_fun (pX x) l n (argX hl)
  generalize hp : pX x = p at *
  generalize bX x = B at *
  generalize lX x = l at *
  have hov := hf.ovrd
  have hl0 : l ≠ [] := fun e => by rw [e] at hln; simp at hln
  have hln2 : l.length ≤ 24 := hln.2.2.2.1
  have hln1 : 1 ≤ l.length := hln.2.2.1
  -- where it is turned
  obtain ⟨nn, hnn⟩ : ∃ c : Nat, n = c := ⟨n.toNat, by omega⟩
  obtain ⟨K, hK⟩ : ∃ C, nn % l.length = C := ⟨_, rfl⟩
  have hKl : K < l.length := by rw [← hK]; exact Nat.mod_lt _ (by omega)
  have tmK : n.tmod (l.length : Int) = (K : Int) := by rw [Int.tmod_eq_emod_of_nonneg (by omega), hnn, ← hK]; omega
  have wn : IntKind.i64.wrap n = n := wrap64 (by omega) (by omega)
  -- where it is cut
  obtain ⟨cc, hcc⟩ : ∃ c : Nat, cut = c := ⟨cut.toNat, by omega⟩
  obtain ⟨C, hC⟩ : ∃ C, cc % (l.length + 1) = C := ⟨_, rfl⟩
  have hCl : C ≤ l.length := by rw [← hC]; have := Nat.mod_lt cc (show 0 < l.length + 1 by omega); omega
  have tmC : cut.tmod ((l.length : Int) + 1) = (C : Int) := by rw [Int.tmod_eq_emod_of_nonneg (by omega), hcc, ← hC, show (l.length : Int) + 1 = ((l.length + 1 : Nat) : Int) by omega]; omega
  have wc : IntKind.i64.wrap cut = cut := wrap64 (by omega) (by omega)
  have cc1 := concatEms_fun (l.drop K) (l.take K) (by simp; omega) (by simp; omega)
  obtain ⟨Q, hQ⟩ : ∃ Q, l.drop K ++ l.take K = Q := ⟨_, rfl⟩
  have hQp : Q.Perm l := by rw [← hQ]; exact List.perm_append_comm.trans (by rw [List.take_append_drop])
  have hQl : Q.length = l.length := hQp.length_eq
  rw [hQ, ems_drop, ems_take] at cc1
  simp only [Pl.v, Sk.cells] at *
  have hl0' : ¬ (l.length : Int) = 0 := by omega
  have hl0'' : ¬ l.length = 0 := by omega
  simp [go_sem]
  refine awake39_fun.callF (by simp [go_sem]) ?_
  rintro _ rfl
  simp [go_sem]
  refine cm.callF (by simp [go_sem]) ?_
  rintro _ rfl
  simp [go_sem, hl0, hl0', hl0'', wn, tmK]
  have tke : (ems l).take l.length = ems l := List.take_of_length_le (by simp)
  obtain ⟨H, hH⟩ : ∃ H, Q.length / 2 = H := ⟨_, rfl⟩
  have wH : IntKind.i64.wrap ((Q.length : Int) / 2) = (H : Int) := by rw [wrap64 (by omega) (by omega)]; omega
  have hHl : H ≤ Q.length := by omega
  have hHi : (H : Int) ≤ Q.length := by omega
  have cr := reverseEms_calls Q H Q.length rfl hHl (by omega)
  refine Drawn.intro (fun k => if k = 7 then .tup [.junk, .fz 4 (ems Q)] else .tup []) ?_
  simp [go_sem, hKl, Nat.le_of_lt hKl, tke, wH, hHl]
  refine ⟨⟨⟨by rw [← ems_drop]; simp [go_sem], by rw [← ems_take]; simp [go_sem]⟩, cc1⟩, by decide +kernel, ?_⟩
  refine cr.at [9] (by simp [go_sem]) ?_
  rintro _ _ ⟨M, hM, rfl⟩
  have hMp := hM.trans hQp
  have hMl : M.length = Q.length := hM.length_eq
  have c1 := ct l (by omega)
  have c2 := ct M (by omega)
  have c3 := ck M (by omega)
  rw [hlx] at hMp
  obtain ⟨m1, m2⟩ := hP.perm hMp
  rw [m1] at c3
  rw [m2, ← hlx] at c2
  obtain ⟨TB, hTB⟩ : ∃ TB, tableE p l = (TB, 0) := ⟨(tabL9 p B), by rw [hlx, hP.table, hov]⟩
  rw [hTB] at c1 c2
  simp only [Pl.v] at c1 c2 c3
  have hTl : TB.length ≤ 9 := by
    have e : (tableE p l).1 = TB := by rw [hTB]
    rw [← e, hlx, hP.table]
    simp only [tabL9_length]
    omega
  have ceq := equalLns_fun TB TB (by omega)
  obtain ⟨OP, ov, hO⟩ := hf.partOf he (he.ne hf.pl (by omega)) (C := C) (by rw [← hlx]; exact hCl)
  rw [← hlx] at hO
  have hpl : (l.take C).length = C := by simp; omega
  have c4 := co (l.take C) (by omega)
  have c5 := cv (l.take C) (by omega)
  rw [hO.opn] at c4
  rw [hO.over] at c5
  have hi1 := hO.iff1
  have hi2 := hO.iff2
  rw [hpl] at hi2
  have w9 : IntKind.i64.wrap ((l.length : Int) + 1) = (l.length : Int) + 1 := wrap64 (by omega) (by omega)
  have hn9 : ¬ (l.length : Int) + 1 = 0 := by omega
  have hCi : (C : Int) ≤ l.length := by omega
  simp only [Pl.v, List.nil_append] at c1 c2 c3 c4 c5
  rw [ems_take] at c4 c5
  simp [go_sem]
  refine c1.callF (by simp [go_sem]) ?_
  rintro _ rfl
  simp [go_sem]
  refine c2.callF (by simp [go_sem, hMl]) ?_
  rintro _ rfl
  simp [go_sem]
  refine c3.callF (by simp [go_sem, hMl]) ?_
  rintro _ rfl
  have w0 : IntKind.i64.wrap 0 = 0 := by decide
  simp [go_sem, w0]
  refine ceq.callF (by simp [go_sem]) ?_
  rintro _ rfl
  simp [go_sem, wc, w9, hn9, tmC, hCl, hCi]
  have hcl : ClR ((ems l).take C) = True := by rw [← ems_take]; simp [go_sem]
  refine c4.callF (by simp [go_sem, hcl]) ?_
  rintro _ rfl
  simp [go_sem]
  refine c5.callF (by simp [go_sem, hcl]) ?_
  rintro _ rfl
  have g1 : ((OP.length : Int) == 0) = ov := by rw [hi1, Bool.eq_iff_iff]; simp
  have g2 : (((min C l.length : Nat) : Int) == (l.length : Int)) = ov := by rw [hi2, Bool.eq_iff_iff]; simp; omega
  simp [go_sem, w0, g1, g2]
  rw [← ems_take]
  have hal : ∀ j : Nat, ArgE p (l.take C) ∧ True := fun _ => ⟨by rw [← hp]; exact argX (by omega), trivial⟩
  obtain ⟨PT, hPT⟩ : ∃ PT, l.take C = PT := ⟨_, rfl⟩
  rw [hPT] at hO hpl hal ⊢
  refine IWp.loopT (α := Nat) (fun i => (⟨false, 207, 33, [34, 47, 100, 140, 142, 143, 144, 178, 180, 181, 182, 183, 205], glT, [(7, .ptr 1 1 0 0), (8, .fz 4 (ems l)), (18, .fz 4 (ems PT)), (19, .fz 2 (prs OP)), (142, .int .i64 p.r), (143, .int .i64 (i : Int))], []⟩, [.dead, .rows 4 [[.int .i64 p.t, .int .i64 p.r, .int .i64 p.b, .fz 1 (ints p.s)]], .dead, .dead, .dead, .dead, .dead, .dead, .dead, .dead]))
    (fun i => i ≤ p.r.toNat) (fun i => p.r.toNat - i) 0 (by omega) (by simp [go_sem]) ?_
  intro i hi
  by_cases hir : i < p.r.toNat
  · have wi : IntKind.i64.wrap ((i : Int) + 1) = i + 1 := wrap64 (by omega) (by omega)
    have hir' : (i : Int) < p.r := by omega
    have c6 := cd PT i (by omega)
    have c7 := cd l i (by omega)
    have hdr := hO.draw i
    have hdl := drawE_len (hal 0).1 (i : Int)
    generalize drawE p PT i = u at *
    generalize drawE p l i = v at *
    obtain ⟨u1, u2, u3⟩ := u
    obtain ⟨v1, v2, v3⟩ := v
    simp only at hdr hdl
    simp only [drawV] at c6 c7
    simp [go_sem, hir', w0]
    refine c6.callM (by simp [go_sem]) ?_
    rintro _ rfl
    simp [go_sem]
    refine c7.callM (by simp [go_sem]) ?_
    rintro _ rfl
    by_cases hu : u3 = 0
    · have := hdr hu
      simp only [Prod.mk.injEq] at this
      obtain ⟨rfl, rfl, rfl⟩ := this
      have ce := equalPrs_fun v1 v1 (by omega)
      simp [go_sem, hu]
      refine ce.callF (by simp [go_sem]) ?_
      rintro _ rfl
      simp [go_sem, wi]
      exact ⟨i + 1, by omega, by omega, by omega⟩
    · have hu2 : (u3 == 0) = false := by rw [beq_eq_false_iff_ne]; exact hu
      simp [go_sem, hu, hu2, wi]
      exact ⟨i + 1, by omega, by omega, by omega⟩
  have hir' : ¬ (i : Int) < p.r := by omega
  simp [go_sem, hir']
  refine IWp.loopT (α := Nat) (fun j => (⟨false, 207, 33, [34, 47, 100, 140, 142, 143, 144, 178, 180, 181, 182, 183, 205], glT, [(8, .fz 4 (ems l)), (18, .fz 4 (ems PT)), (180, .fz 2 (prs OP)), (181, .int .i64 OP.length), (182, .int .i64 (j : Int))], []⟩, [.dead, .dead, .dead, .dead, .dead, .dead, .dead, .dead, .dead, .dead]))
    (fun j => j ≤ OP.length) (fun j => OP.length - j) 0 (by omega) (by simp [go_sem]) ?_
  intro j hj
  by_cases hjO : j < OP.length
  · obtain ⟨q, hq⟩ : ∃ q, OP[j] = q := ⟨_, rfl⟩
    obtain ⟨m, hm1, hm2⟩ := hO.next j q (by rw [List.getElem?_eq_getElem hjO, hq])
    rw [hpl] at hm1
    obtain ⟨hCj, hm3⟩ := List.getElem?_eq_some_iff.1 hm1
    have wj : IntKind.i64.wrap ((j : Int) + 1) = j + 1 := wrap64 (by omega) (by omega)
    obtain ⟨m1, m2, m3, m4⟩ := m
    obtain ⟨q1, q2⟩ := q
    simp only [Prod.mk.injEq] at hm2
    obtain ⟨rfl, rfl⟩ := hm2
    have wC : IntKind.i64.wrap ((C : Int) + j) = ((C + j : Nat) : Int) := by rw [wrap64 (by omega) (by omega)]; omega
    obtain ⟨G, hG⟩ : ∃ G, C + j = G := ⟨_, rfl⟩
    rw [hG] at wC
    simp only [hG] at hm3 hCj
    simp [go_sem, hjO, hq, hpl, wC, hCj, hm3, wj]
    exact ⟨j + 1, by omega, by omega, by omega⟩
  obtain rfl : j = OP.length := by omega
  simp [go_sem]
  exact hR _ _ _ rfl (by simp [go_sem])
theorem eventOrder_law (q : {x : Sk // FitK x}) (n cut : Int) (h : (Lit.int .u8 n).wf = true) (h2 : (Lit.int .u8 cut).wf = true) : FN 7 [.agg [.int .u8 q.1.a, .int .u8 q.1.b, .int .u8 q.1.c, .fz 1 (bys .u8 q.1.L), .fz 1 (bys .i8 q.1.M)], .int .u8 n, .int .u8 cut] (fun v => v = .bool true) := eventOrder_fun q.1 q.2 n cut (wf8 h) (wf8 h2)
end Go.Idl
