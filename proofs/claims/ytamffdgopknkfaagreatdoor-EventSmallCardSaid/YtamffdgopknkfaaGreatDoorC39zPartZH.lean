import Derived.Test.YtamffdgopknkfaaGreatDoorC39zPartZG
set_option linter.all false
set_option maxHeartbeats 16000000
set_option maxRecDepth 40000
namespace Go.Idl
open Go.Proofs
theorem StM.of_chk {p : Pl} {l : List Em} (h : (chkR p l).2 = 0) : StM p l := by
 have hp := chkR_pl h
 have e : chkR p l = chkP p l (rchd p l) (ordM l) [] := by unfold chkR; rw [if_pos hp]
 rw [e] at h
 exact chk_state (ordM_ok l) h
theorem st39_c {p : Pl} {l : List Em} (h : ArgE p l) (he : (chkR p l).2 = 0) (rd : Int) : FN 23 [p.v, .fz 4 (ems l), .int .i64 rd] (fun v => v = stV p (rst p l rd p.r.toNat 0 [])) := by
 have hpl := plB_ok (chkR_pl he) (h.t (chkR_pl he))
 have hr := hpl.2
 exact state39_fun p l rd hpl.1 ⟨by omega, by omega⟩ h.l (StM.of_chk he).good.mr
theorem refDraw39_fun (p : Pl) (l : List Em) (n : Int) (h : ArgE p l) : ON 26 [p.v, .fz 4 (ems l), .int .i64 n] (fun v => v = drawV (drawE p l n)) := by
 refine IFun.of_bodyZ false 15 [22, 31, 42] Tryz.func26 rfl Tryz.call26 rfl fun R hR => ?_
 have cc := refCheck_fun p l h.t h.s h.l
 have fin : ∀ (r : IV) (σ : Heap) (q : List (Int × Int) × Int × Int), drawE p l n = q → frzOK true 4 σ r ∧ nz 4 (frzV 4 σ r) (drawV q) → R r σ := fun r σ q e h => hR r σ _ rfl (by rw [e]; exact h)
 clear hR
 by_cases he : (chkR p l).2 = 0
 case neg =>
  simp only [Pl.v] at *
  simp [go_sem]
  refine cc.callF (by simp [go_sem]) ?_
  rintro _ rfl
  simp [go_sem, he]
  exact fin _ _ ([], 0, (chkR p l).2) (by unfold drawE; rw [if_pos he]) (by simp [go_sem, drawV])
 have cs := st39_c h he n
 have hE : drawE p l n = if n < 0 ∨ ((rchd p l).length : Int) ≤ n then ([], 0, 6) else (((rchd p l).getD n.toNat Er0).draw, ((rchd p l).getD n.toNat Er0).bye, 0) := by unfold drawE; rw [if_neg (by simp [he])]
 have hle : (rchd p l).length ≤ p.r.toNat := reach_len p l _ _ _
 have hg := (StM.of_chk he).good
 simp only [Pl.v] at *
 simp [go_sem]
 refine cc.callF (by simp [go_sem]) ?_
 rintro _ rfl
 by_cases h1 : n < 0
 ·rw [if_pos (.inl h1)] at hE
  simp [go_sem, he, h1]
  exact fin _ _ _ hE (by simp [go_sem, drawV])
 obtain ⟨k1, k2⟩ := ref_draw hg (rd := n) (by omega)
 by_cases h2 : p.r ≤ n
 ·rw [if_pos (.inr (by omega))] at hE
  simp [go_sem, he, h1, h2]
  exact fin _ _ _ hE (by simp [go_sem, drawV])
 generalize rst p l n p.r.toNat 0 [] = z at *
 obtain ⟨bf, d, y, ok⟩ := z
 simp only [stV] at cs k1 k2
 simp [go_sem, he, h1, h2]
 refine cs.callF (by simp [go_sem]) ?_
 rintro _ rfl
 cases ok with
 | false =>
  rw [if_pos (.inr (by
   have : ¬ n.toNat < (rchd p l).length := fun h => by have := k1.2 h; cases this
   omega))] at hE
  simp [go_sem]
  exact fin _ _ _ hE (by simp [go_sem, drawV])
 | true =>
  have hlt := k1.1 rfl
  rw [if_neg (by omega), ← (k2 rfl).1, ← (k2 rfl).2] at hE
  simp [go_sem]
  exact fin _ _ _ hE (by simp [go_sem, drawV])
theorem refTable39_fun (p : Pl) (l : List Em) (h : ArgE p l) : ON 28 [p.v, .fz 4 (ems l)] (fun v => v = .tup [.fz 6 (lns (tableE p l).1), .int .i64 (tableE p l).2]) := by
 refine IFun.of_bodyZ false 12 [19] Tryz.func28 rfl Tryz.call28 rfl fun R hR => ?_
 have cc := refCheck_fun p l h.t h.s h.l
 unfold tableE at hR
 by_cases he : (chkR p l).2 = 0
 case neg =>
  rw [if_pos he] at hR
  simp only [Pl.v] at *
  simp [go_sem]
  refine cc.callF (by simp [go_sem]) ?_
  rintro _ rfl
  simp [go_sem, he]
  exact hR _ _ _ rfl (by simp [go_sem])
 have cs := st39_c h he p.r
 have hr := (plB_ok (chkR_pl he) (h.t (chkR_pl he))).2
 have ht := ref_table (StM.of_chk he).good (by omega)
 rw [if_neg (by simp [he]), ← ht] at hR
 generalize rst p l p.r p.r.toNat 0 [] = z at *
 obtain ⟨bf, d, y, ok⟩ := z
 simp only [stV] at cs hR
 simp only [Pl.v] at *
 simp [go_sem]
 refine cc.callF (by simp [go_sem]) ?_
 rintro _ rfl
 simp [go_sem, he]
 refine cs.callF (by simp [go_sem]) ?_
 rintro _ rfl
 simp [go_sem]
 exact hR _ _ _ rfl (by simp [go_sem])
end Go.Idl
namespace Go.Idl
open Go.Proofs
theorem refOpen39_fun (p : Pl) (l : List Em) (h : ArgE p l) : FN 7 [p.v, .fz 4 (ems l)] (fun v => v = .tup [.fz 2 (prs (openE p l).1), .int .i64 (openE p l).2]) := by
 refine IFun.of_bodyW false 17 [24, 29, 47, 61] Tryz.func7 rfl Tryz.call7 rfl fun R hR => ?_
 have cc := refCheck_fun p l h.t h.s h.l
 unfold openE at hR
 by_cases he : (chkR p l).2 = 0
 case neg =>
  rw [if_pos he] at hR
  simp only [Pl.v] at *
  refine IWp.now ?_
  simp [go_sem]
  refine cc.callF (by simp [go_sem]) ?_
  rintro _ rfl
  simp [go_sem, he]
  exact hR _ _ _ rfl (by simp [go_sem])
 have cs := fun rd => st39_c h he rd
 have hpl := plB_ok (chkR_pl he) (h.t (chkR_pl he))
 have hr := hpl.2
 have hpt := hpl.1.t
 have hll := h.l
 have ho := ref_open (StM.of_chk he).good (by omega)
 have hE : (if (chkR p l).2 ≠ 0 then (([] : List (Int × Int)), (chkR p l).2) else if (rchd p l).length = 0 then ([], 0) else (opnR (lastR p l), 0)) = ((List.range p.r.toNat).flatMap (opnF p l), 0) := by
  rw [if_neg (by simp [he]), ho]
  split <;> rfl
 rw [hE] at hR
 obtain ⟨O, hO⟩ : ∃ O : Nat → List (Int × Int), ∀ q, O q = (List.range q).flatMap (opnF p l) := ⟨_, fun _ => rfl⟩
 have o0 : O 0 = [] := by rw [hO]; rfl
 have os : ∀ q, O (q + 1) = O q ++ opnF p l q := fun q => by rw [hO, hO, List.range_succ, List.flatMap_append]; simp
 have hop : ∀ q, (opnF p l q).length ≤ 12 := fun q => by
  unfold opnF
  split
  ·have h1 := List.length_filter_le (fun x => (fnd l q x).isNone) (rst p l q p.r.toNat 0 []).2.1
   have h2 := rst_len (p := p) (l := l) (rd := q) p.r.toNat 0 []
   omega
  ·simp
 have ol : ∀ q, (O q).length ≤ 12 * q := fun q => by
  induction q with
  | zero => rw [o0]; simp
  | succ q ih => rw [os, List.length_append]; have := hop q; omega
 rw [← hO] at hR
 clear hO ho hE
 obtain ⟨RR, hRR⟩ : ∃ RR : Nat, p.r = RR := ⟨p.r.toNat, by omega⟩
 have hRt : p.r.toNat = RR := by omega
 rw [hRt] at hR
 simp only [Pl.v] at *
 refine IWp.seqI ?_
 simp [go_sem]
 refine IWp.seqI ?_
 simp [go_sem]
 refine cc.callF (by simp [go_sem]) ?_
 rintro _ rfl
 simp [go_sem, he]
 refine IWp.seqI ?_
 simp [go_sem, he]
 rw [hRR]
 refine IWp.ownNilS 2 8 (by decide) (by simp [go_sem]) ?_
 simp [go_sem]
 refine IWp.seqT (α := Unit) (fun _ => (⟨false, 70, 17, [24, 29, 47, 61], glT, [(8, .sl 1 (O RR).length 0 (O RR).length none)], []⟩, [.dead, .rows 2 (prs (O RR))])) (fun _ => True) ?_ ?_
 ·simp [go_sem]
  refine IWp.shut fun Q hQ => ?_
  refine IWp.loopI (α := Nat) (fun q => (⟨false, 70, 17, [24, 29, 47, 61], glT, [(1, .fz 4 (ems l)), (2, .ptr 0 1 0 0), (8, .sl 1 (O q).length 0 (O q).length none), (9, .int .i64 (q : Int))], []⟩, [.rows 4 [[.int .i64 p.t, .int .i64 (RR : Int), .int .i64 p.b, .fz 1 (ints p.s)]], .rows 2 (prs (O q))]))
   (fun q => q ≤ RR) (fun q => RR - q) 0 (by omega) (by simp [go_sem, o0]) ?_
  intro q hq
  by_cases hqR : q < RR
  ·have hqI : (q : Int) < RR := by omega
   have wq : IntKind.i64.wrap ((q : Int) + 1) = q + 1 := wrap64 (by omega) (by omega)
   have c1 := cs q
   have hos := os q
   have hol := ol q
   have hrl := rst_len (p := p) (l := l) (rd := q) p.r.toNat 0 []
   unfold opnF at hos
   obtain ⟨⟨bf, d, y, ok⟩, hst⟩ : ∃ z, rst p l q p.r.toNat 0 [] = z := ⟨_, rfl⟩
   rw [hst] at c1 hos hrl
   simp only [stV, hRR] at c1 hos hrl
   obtain ⟨O', hO'⟩ : ∃ O', O (q + 1) = O' := ⟨_, rfl⟩
   rw [hO'] at hos
   generalize O q = O1 at *
   refine IWp.seqI ?_
   simp [go_sem, hqI, hqR]
   refine IWp.seq ?_
   refine IWp.block ?_
   refine IWp.seqI ?_
   simp [go_sem]
   refine c1.callF (by simp [go_sem]) ?_
   rintro _ rfl
   simp [go_sem]
   refine IWp.seqI ?_
   simp [go_sem]
   refine IWp.block ?_
   cases ok with
   | false =>
    rw [if_neg (by simp), List.append_nil] at hos
    refine IWp.loopI (α := Unit) (fun _ => (⟨false, 70, 17, [24, 29, 47, 61], glT, [(1, .fz 4 (ems l)), (2, .ptr 0 1 0 0), (8, .sl 1 O1.length 0 O1.length none), (9, .int .i64 (q : Int)), (11, .fz 2 (prs d)), (13, .bool false), (14, .int .i64 0)], []⟩, [.rows 4 [[.int .i64 p.t, .int .i64 (RR : Int), .int .i64 p.b, .fz 1 (ints p.s)]], .rows 2 (prs O1)]))
     (fun _ => True) (fun _ => 0) () trivial (by simp [go_sem]) ?_
    rintro _ _
    refine IWp.now ?_
    simp [go_sem]
    refine IWp.now ?_
    simp [go_sem, wq]
    exact ⟨q + 1, ⟨⟨by rw [hO', hos], by omega⟩, by rw [hO', hos]⟩, by omega, by omega⟩
   | true =>
    rw [if_pos rfl] at hos
    refine IWp.loopI (α := Nat) (fun i => (⟨false, 70, 17, [24, 29, 47, 61], glT, [(1, .fz 4 (ems l)), (2, .ptr 0 1 0 0), (8, .sl 1 (O1 ++ (d.take i).filter fun x => (fnd l q x).isNone).length 0 (O1 ++ (d.take i).filter fun x => (fnd l q x).isNone).length none), (9, .int .i64 (q : Int)), (11, .fz 2 (prs d)), (13, .bool true), (14, .int .i64 (i : Int))], []⟩, [.rows 4 [[.int .i64 p.t, .int .i64 (RR : Int), .int .i64 p.b, .fz 1 (ints p.s)]], .rows 2 (prs (O1 ++ (d.take i).filter fun x => (fnd l q x).isNone))]))
     (fun i => i ≤ d.length) (fun i => d.length - i) 0 (by omega) (by simp [go_sem]) ?_
    intro i hi
    by_cases hid : i < d.length
    ·have wi : IntKind.i64.wrap ((i : Int) + 1) = i + 1 := wrap64 (by omega) (by omega)
     have cf := find39_fun l (q : Int) d[i] (by omega)
     have hsn : O1 ++ (d.take (i + 1)).filter (fun x => (fnd l q x).isNone) = (O1 ++ (d.take i).filter (fun x => (fnd l q x).isNone)) ++ if (fnd l q d[i]).isNone = true then [d[i]] else [] := by
      rw [List.take_succ_eq_append_getElem hid, List.filter_append, List.append_assoc]
      congr 2
      rw [List.filter_cons]
      split <;> rfl
     have hgl : (O1 ++ (d.take i).filter (fun x => (fnd l q x).isNone)).length ≤ 2 ^ 20 := by
      have := List.length_filter_le (fun x => (fnd l q x).isNone) (d.take i)
      rw [List.length_append]
      simp at this
      omega
     have hin : (fnd l q d[i]).isNone = !(fnd l q d[i]).isSome := by cases fnd l q d[i] <;> rfl
     rw [hin] at hsn
     obtain ⟨fo, hfo⟩ : ∃ fo : Bool, (fnd l q d[i]).isSome = fo := ⟨_, rfl⟩
     rw [hfo] at cf hsn
     obtain ⟨G', hG'⟩ : ∃ G', O1 ++ (d.take (i + 1)).filter (fun x => (fnd l q x).isNone) = G' := ⟨_, rfl⟩
     rw [hG'] at hsn
     generalize O1 ++ (d.take i).filter (fun x => (fnd l q x).isNone) = G at *
     refine IWp.now ?_
     simp [go_sem, hid]
     refine cf.callF (by simp [go_sem]) ?_
     rintro _ rfl
     cases fo with
     | true =>
      simp only [Bool.not_true, Bool.false_eq_true, if_false, List.append_nil] at hsn
      simp [go_sem, wi]
      exact ⟨i + 1, ⟨⟨by rw [← List.length_append, hG', hsn], by omega⟩, by rw [hG', hsn]⟩, by omega, by omega⟩
     | false =>
      simp only [Bool.not_false, if_true] at hsn
      simp [go_sem, hid, wi]
      exact ⟨by omega, i + 1, ⟨⟨by rw [← List.length_append, hG', hsn]; simp, by omega⟩, by rw [hG', hsn, prs_snoc]⟩, by omega, by omega⟩
    ·obtain rfl : i = d.length := by omega
     rw [List.take_length, ← hos]
     refine IWp.now ?_
     simp [go_sem]
     refine IWp.now ?_
     simp [go_sem, wq]
     exact ⟨q + 1, ⟨⟨by rw [hO'], by omega⟩, by rw [hO']⟩, by omega, by omega⟩
  ·obtain rfl : q = RR := by omega
   refine IWp.now ?_
   simp [go_sem]
   rw [hQ]
   simp [go_sem]
 rintro _ _
 refine IWp.now ?_
 simp [go_sem]
 exact hR _ _ _ rfl (by simp [go_sem])
theorem refOver39_fun (p : Pl) (l : List Em) (h : ArgE p l) : FN 29 [p.v, .fz 4 (ems l)] (fun v => v = .tup [.bool (overE p l).1, .int .i64 (overE p l).2]) := by
 refine IFun.of_bodyZ false 8 [] Tryz.func29 rfl Tryz.call29 rfl fun R hR => ?_
 have co := refOpen39_fun p l h
 have hov := over_open (p := p) (l := l)
 unfold openE at co
 unfold overE at hR
 simp only [Pl.v] at *
 by_cases he : (chkR p l).2 = 0
 case neg =>
  rw [if_pos he] at hR co
  have heb : ((chkR p l).2 == 0) = false := by rw [beq_eq_false_iff_ne]; exact he
  simp [go_sem]
  refine co.callF (by simp [go_sem]) ?_
  rintro _ rfl
  simp [go_sem, he, heb]
  exact hR _ _ _ rfl (by simp [go_sem])
 rw [if_neg (by simp [he])] at hR co
 obtain ⟨O, hO⟩ : ∃ O, (if (rchd p l).length = 0 then [] else opnR (lastR p l)) = O := ⟨_, rfl⟩
 rw [hO] at hov
 have e : (if (rchd p l).length = 0 then (([] : List (Int × Int)), (0 : Int)) else (opnR (lastR p l), 0)) = (O, 0) := by rw [← hO]; split <;> rfl
 rw [e] at co
 have e2 : decide ((rchd p l).length = (ovrd (rchd p l)).length) = ((O.length : Int) == 0) := by
  rw [Bool.eq_iff_iff]
  simp only [decide_eq_true_eq, beq_iff_eq]
  rw [hov]
  constructor
  ·rintro rfl; rfl
  ·intro h9; exact List.eq_nil_of_length_eq_zero (by omega)
 rw [e2] at hR
 simp [go_sem]
 refine co.callF (by simp [go_sem]) ?_
 rintro _ rfl
 simp [go_sem]
 exact hR _ _ _ rfl (by simp [go_sem])
theorem refQual39_fun (p : Pl) (l : List Em) (n : Int) (h : ArgE p l) : FN 30 [p.v, .fz 4 (ems l), .int .i64 n] (fun v => v = .tup [.fz 1 (ints (qualE p l n).1), .int .i64 (qualE p l n).2]) := by
 refine IFun.of_bodyW false 14 [21, 24, 32, 41] Tryz.func30 rfl Tryz.call30 rfl fun R hR => ?_
 have co := refOver39_fun p l h
 have ct := refTable39_fun p l h
 unfold qualE at hR
 unfold overE at co
 unfold tableE at ct
 by_cases he : (chkR p l).2 = 0
 case neg =>
  rw [if_pos he] at hR co
  simp only [Pl.v] at *
  refine IWp.now ?_
  simp [go_sem]
  refine co.callF (by simp [go_sem]) ?_
  rintro _ rfl
  simp [go_sem, he]
  exact hR _ _ _ rfl (by simp [go_sem])
 have hpt := (plB_ok (chkR_pl he) (h.t (chkR_pl he))).1.t
 rw [if_neg (by simp [he])] at hR co ct
 have htl := tabL9_length (p := p) (l := ovrd (rchd p l))
 by_cases h1 : (rchd p l).length = (ovrd (rchd p l)).length
 case neg =>
  rw [if_pos h1] at hR
  rw [decide_eq_false h1] at co
  simp only [Pl.v] at *
  refine IWp.now ?_
  simp [go_sem]
  refine co.callF (by simp [go_sem]) ?_
  rintro _ rfl
  simp [go_sem]
  exact hR _ _ _ rfl (by simp [go_sem])
 rw [if_neg (by simp [h1])] at hR
 rw [decide_eq_true h1] at co
 generalize tabL9 p (ovrd (rchd p l)) = TB at *
 simp only [Pl.v] at *
 refine IWp.seqI ?_
 simp [go_sem]
 refine IWp.seqI ?_
 simp [go_sem]
 refine co.callF (by simp [go_sem]) ?_
 rintro _ rfl
 simp [go_sem]
 refine IWp.seqI ?_
 simp [go_sem]
 refine IWp.seqI ?_
 simp [go_sem]
 refine IWp.seqI ?_
 by_cases h2 : n < 1
 ·rw [if_pos (.inl h2)] at hR
  simp [go_sem, h2]
  exact hR _ _ _ rfl (by simp [go_sem])
 by_cases h3 : p.t < n
 ·rw [if_pos (.inr h3)] at hR
  simp [go_sem, h2, h3]
  exact hR _ _ _ rfl (by simp [go_sem])
 rw [if_neg (by omega)] at hR
 obtain ⟨N, rfl⟩ : ∃ N : Nat, n = N := ⟨n.toNat, by omega⟩
 rw [Int.toNat_natCast] at hR
 simp [go_sem, h2, h3]
 refine IWp.seqI ?_
 simp [go_sem]
 refine ct.callM (by simp [go_sem]) ?_
 rintro _ rfl
 simp [go_sem]
 refine IWp.seqI ?_
 simp [go_sem]
 refine IWp.ownNilS 1 12 (by decide) (by simp [go_sem]) ?_
 refine IWp.now ?_
 simp [go_sem]
 refine IWp.loopT (α := Nat) (fun k => (⟨false, 53, 14, [21, 24, 32, 41], glT, [(2, .int .i64 (N : Int)), (10, .fz 6 (lns TB)), (12, .sl 1 k 0 k none), (13, .int .i64 (k : Int))], []⟩, [.dead, .rows 1 (ints ((TB.take k).map (·.team)))]))
  (fun k => k ≤ N) (fun k => N - k) 0 (by omega) (by simp [go_sem]) ?_
 intro k hk
 by_cases hkn : k < N
 ·have w1 : IntKind.i64.wrap ((k : Int) + 1) = k + 1 := wrap64 (by omega) (by omega)
  have hkl : k < TB.length := by omega
  have hsn : ints ((TB.take (k + 1)).map (·.team)) = ints ((TB.take k).map (·.team)) ++ [[.int .i64 TB[k].team]] := by
   rw [List.take_succ_eq_append_getElem hkl, List.map_append, List.map_cons, List.map_nil, ints_snoc]
  have hln : min k TB.length = k := by omega
  rw [List.map_take, List.map_take] at hsn
  simp [go_sem, hkn, hkl, w1, hln]
  exact ⟨by omega, k + 1, ⟨⟨rfl, by omega⟩, hsn⟩, by omega, by omega⟩
 ·obtain rfl : k = N := by omega
  have hln : min k TB.length = k := by omega
  simp [go_sem]
  exact hR _ _ _ rfl (by simp [go_sem, hln])
end Go.Idl
