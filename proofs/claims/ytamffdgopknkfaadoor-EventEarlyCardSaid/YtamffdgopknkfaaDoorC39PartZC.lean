/-
  Chapter 39: what Made returns; EventEarly.
  Chapter 39: a sketch as an argument; the law EventEarly.
-/
import Derived.Test.YtamffdgopknkfaaDoorC39PartZA
import Derived.Test.YtamffdgopknkfaaDoorC39PartZ
import Derived.Test.YtamffdgopknkfaaDoorIdlPartH
namespace Go.Idl
set_option linter.all false
open Go.Proofs
set_option maxHeartbeats 16000000
set_option maxRecDepth 40000

theorem mX_len {x : Sk} (h : ∀ m ∈ x.M, -128 ≤ m ∧ m < 128) : (bX x).length ≤ 6 ∧ 1 ≤ (bX x).length ∧ 1 ≤ (lX x).length ∧ (lX x).length ≤ 24 ∧ ((lX x).length = (bX x).length * ((pX x).t.toNat / 2)) := by
  obtain ⟨hf, he⟩ := bX_full h
  have hb := pX_bd x
  have hl := hf.len
  have hne := he.ne hf.pl (by omega)
  have hpos : 0 < (bX x).length := List.length_pos_iff.2 hne
  have hml := mB_le hf 0
  have : (lX x).length = (bX x).length * ((pX x).t.toNat / 2) := hml
  have h1 : 1 ≤ (pX x).t.toNat / 2 := by omega
  have h4 : (pX x).t.toNat / 2 ≤ 4 := by omega
  refine ⟨by omega, by omega, ?_, ?_, this⟩
  · rw [this]; exact Nat.mul_pos hpos h1
  · rw [this]; exact Nat.le_trans (Nat.mul_le_mul (by omega : (bX x).length ≤ 6) h4) (by omega)
theorem argX {x : Sk} {l : List Em} (hl : l.length ≤ 2 ^ 30) : ArgE (pX x) l := ⟨fun _ => by have := pX_bd x; omega, by have := scX_len x.L; show (scX x.L).length ≤ _; omega, hl⟩
/-- How often the numbers below n come. -/
def tlyL (n : Nat) (A : List Int) : List Int := (List.range n).map fun j : Nat => ((A.count (j : Int) : Nat) : Int)
@[simp] theorem tlyL_length {n : Nat} {A : List Int} : (tlyL n A).length = n := by simp [tlyL]
theorem tlyL_get {n : Nat} {A : List Int} {j : Nat} (h : j < (tlyL n A).length) : (tlyL n A)[j] = ((A.count (j : Int) : Nat) : Int) := by simp [tlyL]
theorem tlyL_nil (n : Nat) : ints (tlyL n []) = List.replicate n [.int .i64 0] := by
  apply List.ext_getElem (by simp)
  intro i h1 h2
  simp [tlyL]
theorem tlyL_snoc {n : Nat} {A : List Int} {a : Nat} : (tlyL n A).set a (((A.count (a : Int) : Nat) : Int) + 1) = tlyL n (A ++ [(a : Int)]) := by
  apply List.ext_getElem (by simp)
  intro i h1 h2
  rw [List.getElem_set]
  split
  · rename_i e
    subst e
    rw [tlyL_get]; simp [List.count_append]
  · rename_i e
    rw [tlyL_get, tlyL_get]
    have : ¬ (a : Int) = (i : Int) := by omega
    simp [List.count_append, List.count_cons, this]
theorem eventEarly_fun (x : Sk) (hx : FitK x) (cut : Int) (hc : 0 ≤ cut ∧ cut < 256) : FN 5 [.agg x.cells, .int .u8 cut] (fun v => v = .bool true) := by
  refine IFun.of_bodyZ false 27 [28, 41, 97, 98, 99, 100, 110, 119, 120, 121, 122, 126] Tryd.func5 rfl Tryd.call5 rfl fun R hR => ?_
  have cm := made39_fun x hx
  obtain ⟨hf, he⟩ := bX_full hx.M
  have hP := hf.part he
  have hln := mX_len hx.M
  have hbd := pX_bd x
  have hlx : lX x = mB 0 (bX x) := rfl
  have ca (l : List Em) (n : Int) (hl : l.length ≤ 2 ^ 30) := Qualify_fun (pX x) l n (argX hl)
  have cd (l : List Em) (n : Int) (hl : l.length ≤ 2 ^ 30) := Draw9_fun (pX x) l n (argX hl)
  generalize hp : pX x = p at *
  generalize bX x = B at *
  generalize lX x = l at *
  have hl0 : l ≠ [] := fun e => by rw [e] at hln; simp at hln
  obtain ⟨c, hcn⟩ : ∃ c : Nat, cut = c := ⟨cut.toNat, by omega⟩
  obtain ⟨C, hC⟩ : ∃ C, c % l.length = C := ⟨_, rfl⟩
  have hCl : C < l.length := by rw [← hC]; exact Nat.mod_lt _ (by omega)
  have tm : cut.tmod (l.length : Int) = (C : Int) := by rw [Int.tmod_eq_emod_of_nonneg (by omega), hcn, ← hC]; omega
  have wc : IntKind.i64.wrap cut = cut := wrap64 (by omega) (by omega)
  have q1 : qualE p (l.take C) 1 = ([], 392) := by
    have h1 : C < (mB 0 B).length := by rw [← hlx]; exact hCl
    obtain ⟨C1, r, k, D, e1, e2, e3⟩ := cut_spec h1
    rw [hlx, ← e3]
    subst e1
    rw [mB_cut (by omega), (hf.cut e2).qual, ovrd_cut hf e2, if_pos (by simp)]
  have hov := hf.ovrd
  have q2 : qualE p l p.t = ((tabL9 p B).map (·.team), 0) := by
    rw [hlx, hP.qual, hov, if_neg (by simp), if_neg (by omega), List.take_of_length_le (by rw [tabL9_length]; omega)]
  have q3 : qualE p l 0 = ([], 2) := by rw [hlx, hP.qual, hov, if_neg (by simp), if_pos (by omega)]
  have q4 : qualE p l (p.t + 1) = ([], 2) := by rw [hlx, hP.qual, hov, if_neg (by simp), if_pos (by omega)]
  have q5 : drawE p l (-1) = ([], 0, 6) := by rw [hlx, hP.draw, if_pos (by omega)]
  have q6 : drawE p l p.r = ([], 0, 6) := by rw [hlx, hP.draw, if_pos (by have := hf.len; omega)]
  have c1 := ca (l.take C) 1 (by simp; omega)
  have c2 := ca l p.t (by omega)
  have c3 := ca l 0 (by omega)
  have c4 := ca l (p.t + 1) (by omega)
  have c5 := cd l (-1) (by omega)
  have c6 := cd l p.r (by omega)
  rw [q1] at c1
  rw [q2] at c2
  rw [q3] at c3
  rw [q4] at c4
  rw [q5] at c5
  rw [q6] at c6
  have wt : IntKind.i64.wrap (p.t + 1) = p.t + 1 := wrap64 (by omega) (by omega)
  rw [ems_take] at c1
  simp only [Pl.v, Sk.cells, drawV] at *
  simp [go_sem]
  refine awake39_fun.callF (by simp [go_sem]) ?_
  rintro _ rfl
  simp [go_sem]
  refine cm.callF (by simp [go_sem]) ?_
  rintro _ rfl
  have hl0' : ¬ (l.length : Int) = 0 := by omega
  have hl0'' : ¬ l.length = 0 := by omega
  simp [go_sem, hl0]
  refine Drawn.intro (fun k => if k = 8 then .tup [.fz 1 [], .int .i64 392] else .tup []) ?_
  simp [go_sem, wc, tm, hCl, Nat.le_of_lt hCl, hl0, hl0', hl0'']
  refine ⟨⟨by rw [← ems_take]; simp [go_sem], .inl c1⟩, by decide +kernel, ?_⟩
  refine c2.callF (by simp [go_sem]) ?_
  rintro _ rfl
  simp [go_sem]
  refine c3.callF (by simp [go_sem]) ?_
  rintro _ rfl
  simp [go_sem, wt]
  refine c4.callF (by simp [go_sem]) ?_
  rintro _ rfl
  simp [go_sem]
  refine c5.callM (by simp [go_sem]) ?_
  rintro _ rfl
  simp [go_sem]
  refine c6.callM (by simp [go_sem]) ?_
  rintro _ rfl
  obtain ⟨T, hT⟩ : ∃ T : Nat, p.t = T := ⟨p.t.toNat, by omega⟩
  have hper := tabL9_teams p B
  have htl : ((tabL9 p B).map (·.team)).length = T := by rw [List.length_map, tabL9_length]; omega
  rw [hT] at hper hbd wt
  rw [Int.toNat_natCast] at hper
  generalize (tabL9 p B).map (·.team) = A at *
  have hAm : ∀ a ∈ A, ∃ n : Nat, a = n ∧ 1 ≤ n ∧ n ≤ T := fun a ha => by
    have := hper.mem_iff.1 ha
    simp only [List.mem_map, List.mem_range] at this
    obtain ⟨i, hi, rfl⟩ := this
    exact ⟨i + 1, by omega, by omega, by omega⟩
  have hcnt : ∀ n : Nat, 1 ≤ n → n ≤ T → A.count (n : Int) = 1 := fun n h1 h2 => by
    rw [hper.count_eq]
    refine Nat.le_antisymm (List.nodup_iff_count.1 (range1_nodup T) _) (List.count_pos_iff.2 ?_)
    simp only [List.mem_map, List.mem_range]; exact ⟨n - 1, by omega, by omega⟩
  have hTn : ((T : Int) + 1).toNat = T + 1 := by omega
  simp only [hT, List.length_map] at *
  have g1 : (0 : Int) ≤ (T : Int) + 1 ∧ (T : Int) + 1 ≤ 1099511627776 := by omega
  simp [go_sem, wt, g1, hTn]
  rw [← tlyL_nil]
  refine IWp.loopT (α := Nat) (fun i => (⟨false, 150, 27, [28, 41, 97, 98, 99, 100, 110, 119, 120, 121, 122, 126], glT, [(5, .ptr 1 1 0 0), (9, .int .i64 392), (11, .int .i64 0), (13, .int .i64 2), (15, .int .i64 2), (18, .int .i64 6), (21, .int .i64 6), (22, .sl 2 (T + 1) 0 (T + 1) none), (97, .fz 1 (ints A)), (98, .int .i64 T), (99, .int .i64 (i : Int))], []⟩, [.dead, .rows 4 [[.int .i64 T, .int .i64 p.r, .int .i64 p.b, .fz 1 (ints p.s)]], .rows 1 (ints (tlyL (T + 1) (A.take i)))]))
    (fun i => i ≤ T) (fun i => T - i) 0 (by omega) (by simp [go_sem, htl]) ?_
  intro i hi
  by_cases hiT : i < T
  · have wi : IntKind.i64.wrap ((i : Int) + 1) = i + 1 := wrap64 (by omega) (by omega)
    have hiA : i < A.length := by omega
    obtain ⟨a, ha, ha1, ha2⟩ := hAm A[i] (List.getElem_mem _)
    have sn : A.take (i + 1) = A.take i ++ [(a : Int)] := by rw [List.take_succ_eq_append_getElem hiA, ha]
    have hle : (A.take i).count (a : Int) ≤ i := Nat.le_trans List.count_le_length (by simp; omega)
    have hs := tlyL_snoc (n := T + 1) (A := A.take i) (a := a)
    rw [← sn] at hs
    have hg : ∀ hh : a < (tlyL (T + 1) (A.take i)).length, (tlyL (T + 1) (A.take i))[a]'hh = (((A.take i).count (a : Int) : Nat) : Int) := fun hh => tlyL_get hh
    generalize hQ : tlyL (T + 1) (A.take i) = Q at *
    have hQl : Q.length = T + 1 := by rw [← hQ]; simp
    generalize (A.take i).count (a : Int) = K at *
    have wk : IntKind.i64.wrap ((K : Int) + 1) = K + 1 := wrap64 (by omega) (by omega)
    have n1 : ¬ (a : Int) < 1 := by omega
    have n2 : ¬ (T : Int) < a := by omega
    have n3 : a < T + 1 := by omega
    simp [go_sem, hiT, hiA, ha, wi, wk, n1, n2, n3, hg, hQl]
    refine ⟨by omega, i + 1, ⟨by omega, ?_⟩, by omega, by omega⟩
    rw [← hs, ints_set]
  obtain rfl : i = T := by omega
  rw [List.take_of_length_le (by omega)]
  have g2 : (1 : Int) ≤ (i : Int) + 1 := by omega
  simp [go_sem, g2]
  have hg : ∀ (j : Nat) (hh : j < (tlyL (i + 1) A).length), 1 ≤ j → (tlyL (i + 1) A)[j]'hh = 1 := fun j hh h1 => by
    rw [tlyL_get, hcnt j h1 (by simp at hh; omega)]; rfl
  have hQl : (tlyL (i + 1) A).length = i + 1 := by simp
  generalize tlyL (i + 1) A = Q at *
  refine IWp.loopT (α := Nat) (fun j => (⟨false, 150, 27, [28, 41, 97, 98, 99, 100, 110, 119, 120, 121, 122, 126], glT, [(9, .int .i64 392), (11, .int .i64 0), (13, .int .i64 2), (15, .int .i64 2), (18, .int .i64 6), (21, .int .i64 6), (119, .sl 2 (i + 1) 1 i none), (120, .int .i64 i), (121, .int .i64 (j : Int))], []⟩, [.dead, .dead, .rows 1 (ints Q)]))
    (fun j => j ≤ i) (fun j => i - j) 0 (by omega) (by simp [go_sem]) ?_
  intro j hj
  by_cases hji : j < i
  · have wj : IntKind.i64.wrap ((j : Int) + 1) = j + 1 := wrap64 (by omega) (by omega)
    have hjQ : 1 + j < Q.length := by omega
    have h1 := hg (1 + j) hjQ (by omega)
    have hjQ2 : 1 + j < i + 1 := by omega
    simp [go_sem, hji, wj, hjQ, hjQ2, h1, hQl]
    exact ⟨by omega, j + 1, by omega, by omega, by omega⟩
  obtain rfl : j = i := by omega
  simp [go_sem]
  exact hR _ _ _ rfl (by simp [go_sem])
end Go.Idl
namespace Go.Idl
set_option linter.all false
open Go.Proofs Go.RowKit
set_option maxHeartbeats 8000000

theorem wfi8 {x : Int} (h : (Lit.int .i8 x).wf = true) : -128 ≤ x ∧ x < 128 := by
  have h2 : IntKind.i8.min ≤ x ∧ x ≤ IntKind.i8.max := by simpa [Lit.wf] using h
  have e1 : IntKind.i8.min = -128 := by decide
  have e2 : IntKind.i8.max = 127 := by decide
  omega
theorem fit_sk {cs : List IV} (h : fitL [.int .u8, .int .u8, .int .u8, .fz 1 [.int .u8], .fz 1 [.int .i8]] cs) : ∃ q : {x : Sk // FitK x}, cs = [.int .u8 q.1.a, .int .u8 q.1.b, .int .u8 q.1.c, .fz 1 (bys .u8 q.1.L), .fz 1 (bys .i8 q.1.M)] := by
  obtain ⟨a, r1, rfl, w1, h1⟩ := fitL_int h
  obtain ⟨b, r2, rfl, w2, h2⟩ := fitL_int h1
  obtain ⟨c, r3, rfl, w3, h3⟩ := fitL_int h2
  obtain ⟨d, r4, rfl, f1, h4⟩ := fitL_cons h3
  obtain ⟨e, r5, rfl, f2, h5⟩ := fitL_cons h4
  obtain rfl := fitL_nil h5
  obtain ⟨L, rfl, l1, l2⟩ := fit_bys f1
  obtain ⟨M, rfl, m1, m2⟩ := fit_bys f2
  unfold maxLen at l2 m2
  exact ⟨⟨⟨a, b, c, L, M⟩, wf8 w1, wf8 w2, wf8 w3, fun n hn => wf8 (l1 n hn), fun n hn => wfi8 (m1 n hn), by simp only; omega, by simp only; omega⟩, rfl⟩
theorem eventEarly_law (q : {x : Sk // FitK x}) (cut : Int) (h : (Lit.int .u8 cut).wf = true) : FN 5 [.agg [.int .u8 q.1.a, .int .u8 q.1.b, .int .u8 q.1.c, .fz 1 (bys .u8 q.1.L), .fz 1 (bys .i8 q.1.M)], .int .u8 cut] (fun v => v = .bool true) := eventEarly_fun q.1 q.2 cut (wf8 h)
end Go.Idl
