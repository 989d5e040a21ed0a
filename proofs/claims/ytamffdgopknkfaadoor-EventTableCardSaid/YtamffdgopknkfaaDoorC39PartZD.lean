/-
  Chapter 39: EventTable.
-/
import Derived.Test.YtamffdgopknkfaaDoorC39PartZA
import Derived.Test.YtamffdgopknkfaaDoorC39PartZC
namespace Go.Idl
set_option linter.all false
open Go.Proofs
set_option maxHeartbeats 16000000
set_option maxRecDepth 40000

theorem pM_bd (S : List Int) (T : Int) (m : Em) : 0 ≤ pM S T m ∧ pM S T m ≤ 2 * S.length := by
  unfold pM pA
  have := pt_bd S m.m
  split
  · exact this.1
  · split
    · exact this.2
    · omega
theorem mM_bd (T : Int) (m : Em) (h : mrB m.m = true) : -1000000 ≤ mM T m ∧ mM T m ≤ 1000000 := by
  unfold mM mA
  simp only [mrB, Bool.and_eq_true, decide_eq_true_eq] at h
  split
  · exact h
  · split <;> simp <;> omega
theorem sum_bd {α : Type} {f : α → Int} {a b : Int} : ∀ {l : List α}, (∀ x ∈ l, a ≤ f x ∧ f x ≤ b) → a * l.length ≤ (l.map f).sum ∧ (l.map f).sum ≤ b * l.length
  | [], _ => by simp
  | x :: l, h => by
    have h1 := h x (List.mem_cons_self ..)
    have h2 := sum_bd fun y hy => h y (List.mem_cons_of_mem _ hy)
    simp only [List.map_cons, List.sum_cons, List.length_cons]
    rw [show ((l.length + 1 : Nat) : Int) = (l.length : Int) + 1 by omega, Int.mul_add, Int.mul_add]
    omega
theorem eventTable_fun (x : Sk) (hx : FitK x) (n : Int) (hn : 0 ≤ n ∧ n < 256) : FN 4 [.agg x.cells, .int .u8 n] (fun v => v = .bool true) := by
  refine IFun.of_bodyZ false 24 [25, 50, 51, 52, 53, 54, 59, 62, 63, 64, 65, 78, 80, 81, 92, 113, 115, 153, 175, 176, 177, 178, 179, 189] Tryd.func4 rfl Tryd.call4 rfl fun R hR => ?_
  have cm := made39_fun x hx
  obtain ⟨hf, he⟩ := bX_full hx.M
  have hP := hf.part he
  have hln := mX_len hx.M
  have hbd := pX_bd x
  have hlx : lX x = mB 0 (bX x) := rfl
  have hsl := scX_len x.L
  have hps : (pX x).s = scX x.L := rfl
  have ct := Table_fun (pX x) (lX x) (argX (by omega))
  have cq (n : Int) := Qualify_fun (pX x) (lX x) n (argX (by omega))
  have hsc := (plB_t hf.pl).2.2.2.2.1
  have hbb := (plB_t hf.pl).2.2.2.2.2
  have cp (m : Int) := Points_fun (pX x).s m (by rw [hps]; omega)
  rw [← hps] at hsl
  clear hps
  generalize hp : pX x = p at *
  generalize bX x = B at *
  generalize lX x = l at *
  have hov := hf.ovrd
  have q1 : tableE p l = (tabL9 p B, 0) := by rw [hlx, hP.table, hov]
  rw [q1] at ct
  have htw := hf.two
  have hmr : ∀ m ∈ l, mrB m.m = true := fun m hm => by
    rw [hlx] at hm
    obtain ⟨j, r, h1, _, h3⟩ := mB_mem hm
    exact (hf.okr (List.mem_of_getElem? h1)).ok _ h3 |>.2
  have hget (i : Nat) (y : Ln) (hy : (tabL9 p B)[i]? = some y) : y.points = (if y.bye = true then p.b else 0) + (l.map (pM p.s y.team)).sum ∧ y.margin = (l.map (mM y.team)).sum := by
    obtain ⟨k, _, e⟩ := tabL9_get htw hy
    have hle := byC_le hf.chain (T := (k : Int) + 1) (by omega)
    have e1 : y.points = ((mB 0 B).map (pM p.s ((k : Int) + 1))).sum + p.b * byC ((k : Int) + 1) B := by rw [e]; rfl
    have e2 : y.bye = decide (0 < byC ((k : Int) + 1) B) := by rw [e]; rfl
    have e3 : y.team = (k : Int) + 1 := by rw [e]; rfl
    have e4 : y.margin = ((mB 0 B).map (mM ((k : Int) + 1))).sum := by rw [e]; rfl
    rw [hlx, e1, e2, e3, e4]
    refine ⟨?_, rfl⟩
    rcases (by omega : byC ((k : Int) + 1) B = 0 ∨ byC ((k : Int) + 1) B = 1) with h | h
    · rw [h]; simp
    · rw [h]; simp; omega
  have hord := fun (i : Nat) (z y : Ln) (hz : (tabL9 p B)[i]? = some z) (hy : (tabL9 p B)[i + 1]? = some y) => tabL9_ord hz hy
  have htl : (tabL9 p B).length = p.t.toNat := tabL9_length
  obtain ⟨T, hT⟩ : ∃ T : Nat, p.t = T := ⟨p.t.toNat, by omega⟩
  obtain ⟨K, hK⟩ : ∃ K : Nat, 1 + n % (T : Int) = K := ⟨(1 + n % (T : Int)).toNat, by have := Int.emod_nonneg n (b := (T : Int)) (by omega); omega⟩
  have hK2 : 1 ≤ K ∧ K ≤ T := by
    have h1 := Int.emod_nonneg n (b := (T : Int)) (by omega)
    have h2 := Int.emod_lt_of_pos n (b := (T : Int)) (by omega)
    omega
  have q2 : qualE p l K = (((tabL9 p B).take K).map (·.team), 0) := by
    rw [hlx, hP.qual, hov, if_neg (by simp), if_neg (by omega), Int.toNat_natCast]
  have cq1 := cq K
  rw [q2] at cq1
  clear q1 q2 cq
  simp only [Pl.v, Sk.cells, hT, Int.toNat_natCast] at *
  generalize tabL9 p B = TB at *
  have hT0 : ¬ (T : Int) = 0 := by omega
  have wn : IntKind.i64.wrap n = n := wrap64 (by omega) (by omega)
  have tm : n.tmod (T : Int) = n % (T : Int) := Int.tmod_eq_emod_of_nonneg (by omega)
  have wK : IntKind.i64.wrap (1 + n.tmod (T : Int)) = K := by rw [tm, hK]; exact wrap64 (by omega) (by omega)
  simp [go_sem]
  refine awake39_fun.callF (by simp [go_sem]) ?_
  rintro _ rfl
  simp [go_sem]
  refine cm.callF (by simp [go_sem]) ?_
  rintro _ rfl
  simp [go_sem]
  refine ct.callF (by simp [go_sem]) ?_
  rintro _ rfl
  simp [go_sem, htl]
  have hln2 : l.length ≤ 24 := hln.2.2.2.1
  have hb2 : 0 ≤ p.b ∧ p.b ≤ 100 := by omega
  refine IWp.loopT (α := Nat) (fun i => (⟨false, 191, 24, [25, 50, 51, 52, 53, 54, 59, 62, 63, 64, 65, 78, 80, 81, 92, 113, 115, 153, 175, 176, 177, 178, 179, 189], glT, [(1, .int .u8 n), (5, .ptr 1 1 0 0), (6, .fz 4 (ems l)), (8, .fz 6 (lns TB)), (51, .fz 6 (lns TB)), (52, .int .i64 T), (53, .int .i64 (i : Int))], []⟩, [.dead, .rows 4 [[.int .i64 T, .int .i64 p.r, .int .i64 p.b, .fz 1 (ints p.s)]]]))
    (fun i => i ≤ T) (fun i => T - i) 0 (by omega) (by simp [go_sem]) ?_
  intro i hi
  by_cases hiT : i < T
  · have wi : IntKind.i64.wrap ((i : Int) + 1) = i + 1 := wrap64 (by omega) (by omega)
    have hiB : i < TB.length := by omega
    obtain ⟨y, hy⟩ : ∃ y, TB[i] = y := ⟨_, rfl⟩
    have hg := hget i y (by rw [List.getElem?_eq_getElem hiB, hy])
    obtain ⟨y1, y2, y3, y4, y5, y6⟩ := y
    simp only at hg
    cases y6
    case false =>
      simp only [Bool.false_eq_true, if_false, if_true] at hg
      simp [go_sem, hiT, hiB, hy]
      obtain ⟨st, hst⟩ : ∃ st : Int, (0 : Int) = st := ⟨_, rfl⟩
      rw [hst] at hg
      have hst2 : 0 ≤ st ∧ st ≤ 100 := by omega
      refine IWp.loopT (α := Nat) (fun j => (⟨false, 191, 24, [25, 50, 51, 52, 53, 54, 59, 62, 63, 64, 65, 78, 80, 81, 92, 113, 115, 153, 175, 176, 177, 178, 179, 189], glT, [(1, .int .u8 n), (5, .ptr 1 1 0 0), (6, .fz 4 (ems l)), (8, .fz 6 (lns TB)), (10, .int .i64 (i : Int)), (11, .ptr 2 1 0 0), (12, .int .i64 (st + ((l.map (pM p.s y1)).take j).sum)), (13, .int .i64 ((l.map (mM y1)).take j).sum), (51, .fz 6 (lns TB)), (52, .int .i64 T), (53, .int .i64 (i : Int)), (62, .fz 4 (ems l)), (63, .int .i64 l.length), (64, .int .i64 (j : Int))], []⟩, [.dead, .rows 4 [[.int .i64 T, .int .i64 p.r, .int .i64 p.b, .fz 1 (ints p.s)]], .rows 6 [[.int .i64 y1, .int .i64 y2, .int .i64 y3, .int .i64 y4, .int .i64 y5, .bool false]]]))
        (fun j => j ≤ l.length) (fun j => l.length - j) 0 (by omega) (by simp [go_sem, ← hst]) ?_
      intro j hj
      by_cases hjl : j < l.length
      · have wj : IntKind.i64.wrap ((j : Int) + 1) = j + 1 := wrap64 (by omega) (by omega)
        obtain ⟨m, hm⟩ : ∃ m, l[j] = m := ⟨_, rfl⟩
        have hmm : m ∈ l := by rw [← hm]; exact List.getElem_mem _
        have sn : ∀ f : Em → Int, ((l.map f).take (j + 1)).sum = ((l.map f).take j).sum + f m := fun f => by
          rw [← List.map_take, ← List.map_take, List.take_succ_eq_append_getElem hjl, hm]; simp
        have b1 := sum_bd (f := pM p.s y1) (a := 0) (b := 100) (l := l.take j) fun z _ => by have := pM_bd p.s y1 z; omega
        have b2 := sum_bd (f := mM y1) (a := -1000000) (b := 1000000) (l := l.take j) fun z hz => mM_bd y1 z (hmr z (List.mem_of_mem_take hz))
        have tl : (l.take j).length = j := by simp; omega
        rw [tl, List.map_take] at b1 b2
        have c1 := cp m.m
        rw [ptsV, if_pos ⟨hsc, hmr m hmm⟩] at c1
        have pb := pt_bd p.s m.m
        have mb := mrB_bd (hmr m hmm)
        obtain ⟨m1, m2, m3, m4⟩ := m
        simp only at *
        have e1 : ((l.map (pM p.s y1)).take (j + 1)).sum = ((l.map (pM p.s y1)).take j).sum + (if y1 = m2 then ptA p.s m4 else if y1 = m3 then ptB p.s m4 else 0) := sn (pM p.s y1)
        have e2 : ((l.map (mM y1)).take (j + 1)).sum = ((l.map (mM y1)).take j).sum + (if y1 = m2 then m4 else if y1 = m3 then -m4 else 0) := sn (mM y1)
        clear sn
        generalize ((l.map (pM p.s y1)).take j).sum = X1 at *
        generalize ((l.map (mM y1)).take j).sum = X2 at *
        simp [go_sem, hjl, hm]
        refine c1.callF (by simp [go_sem]) ?_
        rintro _ rfl
        generalize ptA p.s m4 = u1 at *
        generalize ptB p.s m4 = u2 at *
        by_cases d1 : y1 = m2
        · rw [if_pos d1] at e1 e2
          have w1 : IntKind.i64.wrap (st + X1 + u1) = st + (X1 + u1) := by rw [wrap64 (by omega) (by omega)]; omega
          have w2 : IntKind.i64.wrap (X2 + m4) = X2 + m4 := wrap64 (by omega) (by omega)
          simp [go_sem, d1, w1, w2, wj]
          refine ⟨by decide +kernel, j + 1, ⟨by rw [← d1, e1], by rw [← d1, e2], by omega⟩, by omega, by omega⟩
        rw [if_neg d1] at e1 e2
        by_cases d2 : y1 = m3
        · rw [if_pos d2] at e1 e2
          have w1 : IntKind.i64.wrap (st + X1 + u2) = st + (X1 + u2) := by rw [wrap64 (by omega) (by omega)]; omega
          have w2 : IntKind.i64.wrap (X2 - m4) = X2 - m4 := wrap64 (by omega) (by omega)
          have d1' : ¬ m3 = m2 := fun e => d1 (by rw [d2, e])
          simp [go_sem, d1', d2, w1, w2, wj]
          refine ⟨by decide +kernel, j + 1, ⟨by rw [← d2, e1], by rw [← d2, e2]; omega, by omega⟩, by omega, by omega⟩
        rw [if_neg d2] at e1 e2
        simp [go_sem, d1, d2, wj]
        refine ⟨j + 1, ⟨by omega, by omega, by omega⟩, by omega, by omega⟩
      obtain rfl : j = l.length := by omega
      rw [List.take_of_length_le (by simp), List.take_of_length_le (by simp), ← hg.1, ← hg.2]
      rcases i with _ | i
      · simp [go_sem]
        exact ⟨1, by decide, by omega, by omega⟩
      have hiB' : i < TB.length := by omega
      obtain ⟨z, hz⟩ : ∃ z, TB[i] = z := ⟨_, rfl⟩
      have ho := hord i z ⟨y1, y2, y3, y4, y5, false⟩ (by rw [List.getElem?_eq_getElem hiB', hz]) (by rw [List.getElem?_eq_getElem hiB, hy])
      obtain ⟨z1, z2, z3, z4, z5, z6⟩ := z
      simp only at ho
      have wi2 : IntKind.i64.wrap ((i : Int) + 1 - 1) = i := by rw [wrap64 (by omega) (by omega)]; omega
      have wi3 : IntKind.i64.wrap ((i : Int) + 1 + 1) = i + 2 := by rw [wrap64 (by omega) (by omega)]; omega
      have wi4 : IntKind.i64.wrap (i : Int) = i := wrap64 (by omega) (by omega)
      have gp : (0 : Int) < (i : Int) + 1 := by omega
      rcases ho with ho | ⟨ho, ho2 | ⟨ho2, ho3⟩⟩
      · have n1 : ¬ z4 < y4 := by omega
        have n2 : (z4 == y4) = false := by rw [beq_eq_false_iff_ne]; omega
        have n3 : ¬ z4 = y4 := by omega
        simp [go_sem, gp, wi2, wi3, wi4, hiB', hz, n1, n2, n3]
        exact ⟨i + 2, by omega, by omega, by omega⟩
      · have n1 : ¬ z5 < y5 := by omega
        have n2 : (z5 == y5) = false := by rw [beq_eq_false_iff_ne]; omega
        have n3 : ¬ z5 = y5 := by omega
        simp [go_sem, gp, wi2, wi3, wi4, hiB', hz, ho, n1, n2, n3]
        exact ⟨i + 2, by omega, by omega, by omega⟩
      · have n1 : ¬ y1 < z1 := by omega
        simp [go_sem, gp, wi2, wi3, wi4, hiB', hz, ho, ho2, n1]
        exact ⟨i + 2, by omega, by omega, by omega⟩
    case true =>
      simp only [Bool.false_eq_true, if_false, if_true] at hg
      simp [go_sem, hiT, hiB, hy]
      obtain ⟨st, hst⟩ : ∃ st : Int, p.b = st := ⟨_, rfl⟩
      rw [hst] at hg
      have hst2 : 0 ≤ st ∧ st ≤ 100 := by omega
      refine IWp.loopT (α := Nat) (fun j => (⟨false, 191, 24, [25, 50, 51, 52, 53, 54, 59, 62, 63, 64, 65, 78, 80, 81, 92, 113, 115, 153, 175, 176, 177, 178, 179, 189], glT, [(1, .int .u8 n), (5, .ptr 1 1 0 0), (6, .fz 4 (ems l)), (8, .fz 6 (lns TB)), (10, .int .i64 (i : Int)), (11, .ptr 2 1 0 0), (12, .int .i64 (st + ((l.map (pM p.s y1)).take j).sum)), (13, .int .i64 ((l.map (mM y1)).take j).sum), (51, .fz 6 (lns TB)), (52, .int .i64 T), (53, .int .i64 (i : Int)), (62, .fz 4 (ems l)), (63, .int .i64 l.length), (64, .int .i64 (j : Int))], []⟩, [.dead, .rows 4 [[.int .i64 T, .int .i64 p.r, .int .i64 p.b, .fz 1 (ints p.s)]], .rows 6 [[.int .i64 y1, .int .i64 y2, .int .i64 y3, .int .i64 y4, .int .i64 y5, .bool true]]]))
        (fun j => j ≤ l.length) (fun j => l.length - j) 0 (by omega) (by simp [go_sem, ← hst]) ?_
      intro j hj
      by_cases hjl : j < l.length
      · have wj : IntKind.i64.wrap ((j : Int) + 1) = j + 1 := wrap64 (by omega) (by omega)
        obtain ⟨m, hm⟩ : ∃ m, l[j] = m := ⟨_, rfl⟩
        have hmm : m ∈ l := by rw [← hm]; exact List.getElem_mem _
        have sn : ∀ f : Em → Int, ((l.map f).take (j + 1)).sum = ((l.map f).take j).sum + f m := fun f => by
          rw [← List.map_take, ← List.map_take, List.take_succ_eq_append_getElem hjl, hm]; simp
        have b1 := sum_bd (f := pM p.s y1) (a := 0) (b := 100) (l := l.take j) fun z _ => by have := pM_bd p.s y1 z; omega
        have b2 := sum_bd (f := mM y1) (a := -1000000) (b := 1000000) (l := l.take j) fun z hz => mM_bd y1 z (hmr z (List.mem_of_mem_take hz))
        have tl : (l.take j).length = j := by simp; omega
        rw [tl, List.map_take] at b1 b2
        have c1 := cp m.m
        rw [ptsV, if_pos ⟨hsc, hmr m hmm⟩] at c1
        have pb := pt_bd p.s m.m
        have mb := mrB_bd (hmr m hmm)
        obtain ⟨m1, m2, m3, m4⟩ := m
        simp only at *
        have e1 : ((l.map (pM p.s y1)).take (j + 1)).sum = ((l.map (pM p.s y1)).take j).sum + (if y1 = m2 then ptA p.s m4 else if y1 = m3 then ptB p.s m4 else 0) := sn (pM p.s y1)
        have e2 : ((l.map (mM y1)).take (j + 1)).sum = ((l.map (mM y1)).take j).sum + (if y1 = m2 then m4 else if y1 = m3 then -m4 else 0) := sn (mM y1)
        clear sn
        generalize ((l.map (pM p.s y1)).take j).sum = X1 at *
        generalize ((l.map (mM y1)).take j).sum = X2 at *
        simp [go_sem, hjl, hm]
        refine c1.callF (by simp [go_sem]) ?_
        rintro _ rfl
        generalize ptA p.s m4 = u1 at *
        generalize ptB p.s m4 = u2 at *
        by_cases d1 : y1 = m2
        · rw [if_pos d1] at e1 e2
          have w1 : IntKind.i64.wrap (st + X1 + u1) = st + (X1 + u1) := by rw [wrap64 (by omega) (by omega)]; omega
          have w2 : IntKind.i64.wrap (X2 + m4) = X2 + m4 := wrap64 (by omega) (by omega)
          simp [go_sem, d1, w1, w2, wj]
          refine ⟨by decide +kernel, j + 1, ⟨by rw [← d1, e1], by rw [← d1, e2], by omega⟩, by omega, by omega⟩
        rw [if_neg d1] at e1 e2
        by_cases d2 : y1 = m3
        · rw [if_pos d2] at e1 e2
          have w1 : IntKind.i64.wrap (st + X1 + u2) = st + (X1 + u2) := by rw [wrap64 (by omega) (by omega)]; omega
          have w2 : IntKind.i64.wrap (X2 - m4) = X2 - m4 := wrap64 (by omega) (by omega)
          have d1' : ¬ m3 = m2 := fun e => d1 (by rw [d2, e])
          simp [go_sem, d1', d2, w1, w2, wj]
          refine ⟨by decide +kernel, j + 1, ⟨by rw [← d2, e1], by rw [← d2, e2]; omega, by omega⟩, by omega, by omega⟩
        rw [if_neg d2] at e1 e2
        simp [go_sem, d1, d2, wj]
        refine ⟨j + 1, ⟨by omega, by omega, by omega⟩, by omega, by omega⟩
      obtain rfl : j = l.length := by omega
      rw [List.take_of_length_le (by simp), List.take_of_length_le (by simp), ← hg.1, ← hg.2]
      rcases i with _ | i
      · simp [go_sem]
        exact ⟨1, by decide, by omega, by omega⟩
      have hiB' : i < TB.length := by omega
      obtain ⟨z, hz⟩ : ∃ z, TB[i] = z := ⟨_, rfl⟩
      have ho := hord i z ⟨y1, y2, y3, y4, y5, true⟩ (by rw [List.getElem?_eq_getElem hiB', hz]) (by rw [List.getElem?_eq_getElem hiB, hy])
      obtain ⟨z1, z2, z3, z4, z5, z6⟩ := z
      simp only at ho
      have wi2 : IntKind.i64.wrap ((i : Int) + 1 - 1) = i := by rw [wrap64 (by omega) (by omega)]; omega
      have wi3 : IntKind.i64.wrap ((i : Int) + 1 + 1) = i + 2 := by rw [wrap64 (by omega) (by omega)]; omega
      have wi4 : IntKind.i64.wrap (i : Int) = i := wrap64 (by omega) (by omega)
      have gp : (0 : Int) < (i : Int) + 1 := by omega
      rcases ho with ho | ⟨ho, ho2 | ⟨ho2, ho3⟩⟩
      · have n1 : ¬ z4 < y4 := by omega
        have n2 : (z4 == y4) = false := by rw [beq_eq_false_iff_ne]; omega
        have n3 : ¬ z4 = y4 := by omega
        simp [go_sem, gp, wi2, wi3, wi4, hiB', hz, n1, n2, n3]
        exact ⟨i + 2, by omega, by omega, by omega⟩
      · have n1 : ¬ z5 < y5 := by omega
        have n2 : (z5 == y5) = false := by rw [beq_eq_false_iff_ne]; omega
        have n3 : ¬ z5 = y5 := by omega
        simp [go_sem, gp, wi2, wi3, wi4, hiB', hz, ho, n1, n2, n3]
        exact ⟨i + 2, by omega, by omega, by omega⟩
      · have n1 : ¬ y1 < z1 := by omega
        simp [go_sem, gp, wi2, wi3, wi4, hiB', hz, ho, ho2, n1]
        exact ⟨i + 2, by omega, by omega, by omega⟩
  obtain rfl : i = T := by omega
  simp [go_sem, wn, wK, hT0]
  refine ⟨by omega, ?_⟩
  obtain ⟨Q, hQ⟩ : ∃ Q : List Int, (TB.take K).map (·.team) = Q := ⟨_, rfl⟩
  rw [hQ] at cq1
  have hQl : Q.length = K := by rw [← hQ]; simp; omega
  have hQg : ∀ (j : Nat) (hh : j < TB.length) (h2 : j < Q.length), Q[j] = TB[j].team := fun j hh h2 => by subst hQ; simp
  clear hQ
  refine cq1.callF (by simp [go_sem]) ?_
  rintro _ rfl
  simp [go_sem, hQl, htl, hK2.2]
  refine IWp.loopT (α := Nat) (fun j => (⟨false, 191, 24, [25, 50, 51, 52, 53, 54, 59, 62, 63, 64, 65, 78, 80, 81, 92, 113, 115, 153, 175, 176, 177, 178, 179, 189], glT, [(8, .fz 6 (lns TB)), (176, .fz 1 (ints Q)), (177, .int .i64 K), (178, .int .i64 (j : Int))], []⟩, [.dead, .dead]))
    (fun j => j ≤ K) (fun j => K - j) 0 (by omega) (by simp [go_sem, hQl, htl]) ?_
  intro j hj
  by_cases hjK : j < K
  · have wj : IntKind.i64.wrap ((j : Int) + 1) = j + 1 := wrap64 (by omega) (by omega)
    have hjB : j < TB.length := by omega
    have hjt : j < Q.length := by omega
    have h1 := hQg j hjB hjt
    simp [go_sem, hjK, hjB, hjt, wj, h1]
    exact ⟨j + 1, by omega, by omega, by omega⟩
  obtain rfl : j = K := by omega
  simp [go_sem]
  exact hR _ _ _ rfl (by simp [go_sem])
theorem eventTable_law (q : {x : Sk // FitK x}) (n : Int) (h : (Lit.int .u8 n).wf = true) : FN 4 [.agg [.int .u8 q.1.a, .int .u8 q.1.b, .int .u8 q.1.c, .fz 1 (bys .u8 q.1.L), .fz 1 (bys .i8 q.1.M)], .int .u8 n] (fun v => v = .bool true) := eventTable_fun q.1 q.2 n (wf8 h)
end Go.Idl
