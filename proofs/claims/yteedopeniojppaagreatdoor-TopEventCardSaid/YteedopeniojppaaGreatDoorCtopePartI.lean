import Derived.Test.YteedopeniojppaaGreatDoorCtopePartH
set_option linter.all false
set_option maxHeartbeats 16000000
set_option maxRecDepth 40000
namespace Go.Idl
open Go.Proofs
def idI9 (k : Nat) : Nat → List Nat
 | 0 => List.replicate k 0
 | i + 1 => (idI9 k i).set i i
@[simp] theorem idI9_length {k : Nat} : ∀ i, (idI9 k i).length = k
 | 0 => by simp [idI9]
 | i + 1 => by simp [idI9, idI9_length i]
theorem idI9_get {k : Nat} : ∀ (i j : Nat) (h : j < (idI9 k i).length), (idI9 k i)[j] = if j < i then j else 0
 | 0, j, h => by simp [idI9]
 | i + 1, j, h => by
  simp only [idI9, List.getElem_set, idI9_get i j (by simpa using h)]
  split
  ·rw [if_pos (by omega)]; omega
  ·split
   ·rw [if_pos (by omega)]
   ·rw [if_neg (by omega)]
theorem idI9_all {k : Nat} : idI9 k k = idL9 k := List.ext_getElem (by simp) fun i h1 h2 => by
 rw [idI9_get, if_pos (by simpa using h1)]; simp [idL9]
theorem ord9_eq {l : List Em} {A : List Nat} (h : OrdOf9 l A) : A = ordM l := by
 refine OrdM.eq ⟨by simpa [idL9] using h.1, ?_⟩ (ordM_ok l)
 refine h.2.imp fun {a b} hab => ?_
 unfold lx rK9 iK9 at hab
 omega
def k39 (k : Int × Int × Int) : IV := .agg [.int .i64 k.1, .int .i64 k.2.1, .int .i64 k.2.2, .int .i64 0]
def en39 (S : List ((Int × Int × Int) × Bool)) : List (IV × IV) := enM k39 (fun v : Bool => .bool v) S
theorem ke39 (a b : Int × Int × Int) : keq (k39 a) (k39 b) = decide (a = b) := by
 obtain ⟨a1, a2, a3⟩ := a
 obtain ⟨b1, b2, b3⟩ := b
 show (match ceqs [IV.int .i64 a1, IV.int .i64 a2, IV.int .i64 a3, IV.int .i64 0] [IV.int .i64 b1, IV.int .i64 b2, IV.int .i64 b3, IV.int .i64 0] with | some b => b | none => false) = _
 simp [ceqs, ceq, Prod.mk.injEq]
 by_cases h1 : a1 = b1 <;> by_cases h2 : a2 = b2 <;> by_cases h3 : a3 = b3 <;> simp [h1, h2, h3]
theorem mget_39 (a b c : Int) (S : List ((Int × Int × Int) × Bool)) : mget (.agg [.int .i64 a, .int .i64 b, .int .i64 c, .int .i64 0]) (en39 S) = (aget (a, b, c) S).map fun v => .bool v := mget_en (kf := k39) ke39 (a, b, c) S
theorem mset_39 (a b c : Int) (v : Bool) (S : List ((Int × Int × Int) × Bool)) : mset (.agg [.int .i64 a, .int .i64 b, .int .i64 c, .int .i64 0]) (.bool v) (en39 S) = en39 (aset (a, b, c) v S) := mset_en (kf := k39) (vf := fun v : Bool => .bool v) ke39 (a, b, c) v S
@[go_sem] theorem all_en39 {S : List ((Int × Int × Int) × Bool)} {X : IV → Prop} : (∀ (a b : IV), (a, b) ∈ en39 S → X a) ↔ ∀ p ∈ S, X (.agg [.int .i64 p.1.1, .int .i64 p.1.2.1, .int .i64 p.1.2.2, .int .i64 0]) := by
 simp only [en39, enM, List.mem_map, Prod.mk.injEq, k39]
 constructor
 ·intro h p hp; exact h _ _ ⟨p, hp, rfl, rfl⟩
 ·rintro h a b ⟨p, hp, rfl, rfl⟩; exact h p hp
@[go_sem] theorem bl_39 {n : Nat} {S : List ((Int × Int × Int) × Bool)} : BlM n (en39 S) = True := eq_true (en_bl (fun a => by simp [go_sem, k39]) (fun b => by simp [go_sem]) S)
@[go_sem] theorem en39_nil : en39 [] = [] := rfl
def seS (se : List (Int × Int × Int)) : List ((Int × Int × Int) × Bool) := se.map fun k => (k, true)
theorem seS_get (k : Int × Int × Int) : ∀ se : List (Int × Int × Int), aget k (seS se) = if k ∈ se then some true else none
 | [] => rfl
 | x :: se => by
  have ih := seS_get k se
  unfold seS at ih ⊢
  simp only [List.map_cons, aget, ih, List.mem_cons]
  by_cases h : k = x
  ·simp [h]
  ·rw [if_neg h]; simp [h]
theorem seS_set {k : Int × Int × Int} {se : List (Int × Int × Int)} (h : k ∉ se) : aset k true (seS se) = seS (se ++ [k]) := by
 rw [aset_keys _ _ _ (by rw [seS_get, if_neg h]; rfl)]
 simp [seS]
theorem plB_ok {p : Pl} (h : plB p = true) (ht : p.t ≤ 12) : PlOK p ∧ 1 ≤ p.r ∧ p.r ≤ 15 := by
 unfold plB at h
 simp only [Bool.and_eq_true, decide_eq_true_eq] at h
 exact ⟨⟨⟨h.1.1.1.1.1.1, ht⟩, h.1.1.2, h.1.2, h.2⟩, h.1.1.1.1.2, h.1.1.1.2⟩
theorem Check_fun (p : Pl) (l : List Em) (ht : plB p = true → p.t ≤ 12) (hs : p.s.length ≤ 2 ^ 32) (hl : l.length ≤ 20) : FN 25 [p.v, .fz 4 (ems l)] (fun v => v = .tup [.int .i64 (chkR p l).1, .int .i64 (chkR p l).2]) := by
 refine IFun.of_bodyW false 15 [17, 22, 23, 24, 41, 42, 43, 44, 58, 76, 83, 98] Tryz.func25 rfl Tryz.call25 rfl fun R hR => ?_
 have cr := evRight_fun p hs
 have hL : chkR p l = if plB p = true then chkP p l (rchd p l) (ordM l) [] else (-1, 2) := rfl
 generalize chkR p l = Z at *
 simp only [Pl.v] at *
 refine IWp.seqI ?_
 simp [go_sem]
 refine IWp.seqI ?_
 simp [go_sem]
 refine cr.callF (by simp [go_sem]) ?_
 rintro _ rfl
 cases hb : plB p with
 | false =>
  rw [if_neg (by rw [hb]; simp)] at hL
  subst hL
  simp [go_sem]
  exact hR _ _ _ rfl (by simp [go_sem])
 | true =>
 rw [if_pos hb] at hL
 obtain ⟨hp, hpr⟩ := plB_ok hb (ht hb)
 have crn := rounds_fun p l hp hpr (by omega)
 simp only [Pl.v] at crn
 have cs := sortStableM_calls l (by omega)
 simp [go_sem]
 obtain ⟨n, hn⟩ : ∃ n, l.length = n := ⟨_, rfl⟩
 have hn30 : n ≤ 2 ^ 30 := by omega
 have hso : ∀ B : List Nat, OrdOf9 l B → B = ordM l := fun B h => ord9_eq h
 have hAl : (ordM l).length = n := by rw [(ordM_ok l).1.length_eq, List.length_range, hn]
 have hAm : ∀ i ∈ ordM l, i < n := fun i hi => by rw [← hn]; simpa using (ordM_ok l).1.mem_iff.1 hi
 have hrl : (rchd p l).length ≤ 15 := by have := reach_len p l p.r.toNat 0 []; unfold rchd; omega
 have hrd : ∀ (j : Nat) (r : Er), (rchd p l)[j]? = some r → r.draw.length ≤ 6 := fun j r h => (rchd_er hp h).2
 rw [hn] at cs
 generalize ordM l = A at *
 generalize rchd p l = all at *
 refine IWp.seqI ?_
 simp [go_sem, hn]
 refine ⟨by omega, ?_⟩
 rw [show List.replicate n [IV.int .i64 0] = nts (idI9 n 0) by simp [idI9, nts, mp]]
 refine IWp.seqT (α := Unit) (fun _ => (⟨false, 106, 15, [17, 22, 23, 24, 41, 42, 43, 44, 58, 76, 83, 98], glT, [(2, .ptr 0 1 0 0), (3, .ptr 1 1 0 0), (6, .sl 2 n 0 n none)], []⟩, [.rows 4 [[.int .i64 p.t, .int .i64 p.r, .int .i64 p.b, .fz 1 (ints p.s)]], .rows 1 [[.fz 4 (ems l)]], .rows 1 (nts (idL9 n))])) (fun _ => True) ?_ ?_
 ·simp [go_sem]
  refine IWp.loopT (α := Nat) (fun i => (⟨false, 106, 15, [17, 22, 23, 24, 41, 42, 43, 44, 58, 76, 83, 98], glT, [(2, .ptr 0 1 0 0), (3, .ptr 1 1 0 0), (6, .sl 2 n 0 n none), (22, .int .i64 n), (23, .int .i64 (i : Int))], []⟩, [.rows 4 [[.int .i64 p.t, .int .i64 p.r, .int .i64 p.b, .fz 1 (ints p.s)]], .rows 1 [[.fz 4 (ems l)]], .rows 1 (nts (idI9 n i))]))
   (fun i => i ≤ n) (fun i => n - i) 0 (by omega) (by simp [go_sem]) ?_
  intro i hi
  by_cases h : i < n
  ·have w1 : IntKind.i64.wrap ((i : Int) + 1) = i + 1 := wrap64 (by omega) (by omega)
   have hs2 : nts (idI9 n (i + 1)) = (nts (idI9 n i)).set i [.int .i64 (i : Int)] := nts_set
   have e1 := nts_at (l := idI9 n i) (i := i) (by simpa using h)
   simp [go_sem, h, w1, e1]
   exact ⟨i + 1, ⟨by omega, hs2⟩, by omega, by omega⟩
  ·obtain rfl : i = n := by omega
   rw [idI9_all]
   simp [go_sem]
 rintro _ _
 unfold sortH9 lC9 ck1V at cs
 refine IWp.seqI ?_
 simp [go_sem]
 refine cs.at [2, 1] (by simp [go_sem]) ?_
 rintro _ _ ⟨B, hB, rfl⟩
 have hBA : A = B := (hso B hB).symm
 subst hBA
 clear hso cs hB
 simp [go_sem]
 refine IWp.seqI ?_
 simp [go_sem]
 refine crn.callM (by simp [go_sem]) ?_
 rintro _ rfl
 simp [go_sem]
 refine IWp.seqI ?_
 simp [go_sem]
 refine IWp.seqI ?_
 simp [go_sem]
 refine ⟨hAl.symm, ?_⟩
 refine IWp.shut fun Q hQ => ?_
 refine IWp.loopI (α := Nat) (fun k => (⟨false, 106, 15, [17, 22, 23, 24, 41, 42, 43, 44, 58, 76, 83, 98], glT, [(2, .ptr 0 1 0 0), (3, .ptr 1 1 0 0), (8, .fz 3 (rds all)), (10, .map 3), (41, .sl 2 n 0 n none), (42, .int .i64 n), (43, .int .i64 (k : Int))], []⟩, [.rows 4 [[.int .i64 p.t, .int .i64 p.r, .int .i64 p.b, .fz 1 (ints p.s)]], .rows 1 [[.fz 4 (ems l)]], .rows 1 (nts A), .map (en39 (seS ((A.take k).map fun i => key3 (l.getD i Em0))))]))
  (fun k => k ≤ n ∧ Z = chkP p l all (A.drop k) ((A.take k).map fun i => key3 (l.getD i Em0))) (fun k => n - k) 0 ⟨by omega, by simpa using hL⟩ (by simp [go_sem, seS]) ?_
 rintro k ⟨hk, hZ⟩
 refine IWp.seqI ?_
 by_cases h : k < n
 ·have w1 : IntKind.i64.wrap ((k : Int) + 1) = k + 1 := wrap64 (by omega) (by omega)
  have hkA : k < A.length := by omega
  have hiA := hAm _ (List.getElem_mem hkA)
  have hsn : (A.take (k + 1)).map (fun i => key3 (l.getD i Em0)) = (A.take k).map (fun i => key3 (l.getD i Em0)) ++ [key3 (l.getD A[k] Em0)] := by
   rw [List.take_succ_eq_append_getElem hkA, List.map_append]; rfl
  have e1 : (nts A)[k]?.getD [] = [.int .i64 (A[k] : Int)] := by
   have := nts_at (l := A) (i := k) hkA
   simpa [hkA] using this
  rw [List.drop_eq_getElem_cons hkA, chkP] at hZ
  generalize (A.take k).map (fun i => key3 (l.getD i Em0)) = se at *
  obtain ⟨i, hi⟩ : ∃ i, A[k] = i := ⟨_, rfl⟩
  rw [hi] at hiA hsn e1 hZ
  have e1' : ∀ hh, (nts A)[k]'hh = [.int .i64 (i : Int)] := fun hh => by rw [List.getElem?_eq_getElem hh, Option.getD_some] at e1; exact e1
  have hil : i < l.length := by omega
  have hgi : l.getD i Em0 = l[i] := by simp [hil]
  rw [hgi] at hsn hZ
  obtain ⟨m, hm⟩ : ∃ m, l[i] = m := ⟨_, rfl⟩
  rw [hm] at hsn hZ
  have cm := marginRight_fun m.m
  unfold badM at hZ
  obtain ⟨r, a, b, mg⟩ := m
  simp only [key3] at hZ hsn cm
  simp [go_sem, h]
  refine IWp.seqI ?_
  simp [go_sem]
  refine IWp.seq ?_
  refine IWp.block ?_
  refine IWp.seqI ?_
  simp [go_sem, hkA, hAl, h, e1, e1']
  refine IWp.seqI ?_
  simp [go_sem, hil, hn, hiA, hm]
  refine IWp.seqI ?_
  simp [go_sem]
  refine IWp.seq ?_
  refine IWp.block ?_
  have bad : ∀ (σ : Heap) (E : Int), Z = ((i : Int), E) → R (.tup [.int .i64 (i : Int), .int .i64 E]) σ := fun σ E hE => hR _ _ _ rfl (by simp [go_sem, hE])
  clear hR
  have stop1 : (r < 0 ∨ p.r ≤ r ∨ mrB mg = false) → Z = ((i : Int), 390) := fun hbd => by rw [hZ, if_pos hbd]
  refine IWp.seqI ?_
  by_cases c1 : r < 0
  ·have hz := stop1 (.inl c1)
   simp [go_sem, c1]
   refine IWp.now ?_
   simp [go_sem]
   rw [hQ]
   simp [go_sem]
   exact bad _ _ hz
  by_cases c2 : p.r ≤ r
  ·have hz := stop1 (.inr (.inl c2))
   simp [go_sem, c1, c2]
   refine IWp.now ?_
   simp [go_sem]
   rw [hQ]
   simp [go_sem]
   exact bad _ _ hz
  simp [go_sem, c1, c2]
  refine cm.callF (by simp [go_sem]) ?_
  rintro _ rfl
  cases c3 : mrB mg with
  | false =>
   have hz := stop1 (.inr (.inr c3))
   simp [go_sem]
   refine IWp.now ?_
   simp [go_sem]
   rw [hQ]
   simp [go_sem]
   exact bad _ _ hz
  | true =>
  have hnb : ¬ (r < 0 ∨ p.r ≤ r ∨ mrB mg = false) := by
   simp [c3]; omega
  rw [if_neg hnb] at hZ
  clear stop1
  simp [go_sem]
  refine IWp.now ?_
  by_cases c4 : (all.length : Int) ≤ r
  ·rw [if_pos c4] at hZ
   simp [go_sem, c4]
   rw [hQ]
   simp [go_sem]
   exact bad _ _ hZ
  rw [if_neg c4] at hZ
  obtain ⟨j, hj⟩ : ∃ j : Nat, r = j := ⟨r.toNat, by omega⟩
  subst hj
  have hjl : j < all.length := by omega
  have hjr := hrd j all[j] (List.getElem?_eq_getElem hjl)
  rw [Int.toNat_natCast, show all.getD j Er0 = all[j] by simp [hjl]] at hZ
  obtain ⟨x, hx⟩ : ∃ x, all[j] = x := ⟨_, rfl⟩
  rw [hx] at hjr hZ
  obtain ⟨d, y, M⟩ := x
  simp only at hjr hZ
  have cc := containsPairs_fun d a b (by omega)
  simp [go_sem, c4, hjl]
  refine Drawn.intro (fun k => if k = 11 then .bool (decide ((a, b) ∈ d)) else .tup []) ?_
  simp [go_sem, hjl, hx, cc]
  refine ⟨by decide +kernel, ?_⟩
  by_cases c5 : (a, b) ∈ d
  case neg =>
   rw [if_pos c5] at hZ
   simp [go_sem, c5]
   rw [hQ]
   simp [go_sem]
   exact bad _ _ hZ
  rw [if_neg (by simp [c5])] at hZ
  have hget := seS_get ((j : Int), a, b) se
  have hset := fun h => seS_set (k := ((j : Int), a, b)) (se := se) h
  generalize seS se = S at *
  by_cases c6 : ((j : Int), a, b) ∈ se
  ·rw [if_pos c6] at hZ hget
   simp [go_sem, c5, mget_39, hget]
   rw [hQ]
   simp [go_sem]
   exact bad _ _ hZ
  rw [if_neg c6] at hZ hget
  have hset := hset c6
  simp [go_sem, c5, mget_39, hget]
  refine IWp.now ?_
  simp [go_sem, mset_39, hset]
  refine IWp.now ?_
  simp [go_sem, w1]
  have hsn' : List.take (k + 1) (List.map (fun i => key3 (l[i]?.getD Em0)) A) = se ++ [((j : Int), a, b)] := by
   rw [← List.map_take]; exact hsn
  exact ⟨k + 1, ⟨by omega, by rw [hsn']⟩, ⟨by omega, by rw [hsn']; exact hZ⟩, by omega⟩
 ·obtain rfl : k = n := by omega
  rw [List.drop_of_length_le (by omega), chkP] at hZ
  simp [go_sem]
  refine IWp.now ?_
  simp [go_sem]
  rw [hQ]
  simp [go_sem]
  refine IWp.now ?_
  simp [go_sem]
  exact hR _ _ _ rfl (by simp [go_sem, hZ])
end Go.Idl
namespace Go.Idl
open Go.Proofs
theorem chkR_pl {p : Pl} {l : List Em} (h : (chkR p l).2 = 0) : plB p = true := by
 unfold chkR at h
 cases hb : plB p with
 | true => rfl
 | false => rw [if_neg (by simp [hb])] at h; simp at h
def stR (p : Pl) (l : List Em) : List Er × List Er × Int := if (chkR p l).2 ≠ 0 then ([], [], (chkR p l).2) else (rchd p l, ovrd (rchd p l), 0)
theorem stR_ok {p : Pl} {l : List Em} (h : (chkR p l).2 = 0) : stR p l = (rchd p l, ovrd (rchd p l), 0) := by unfold stR; rw [if_neg (by simp [h])]
theorem stR_er {p : Pl} {l : List Em} (h : (chkR p l).2 ≠ 0) : stR p l = ([], [], (chkR p l).2) := by unfold stR; rw [if_pos h]
structure ArgE (p : Pl) (l : List Em) : Prop where
 t : plB p = true → p.t ≤ 12
 s : p.s.length ≤ 2 ^ 32
 l : l.length ≤ 20
theorem state_fun (p : Pl) (l : List Em) (h : ArgE p l) : ON 15 [p.v, .fz 4 (ems l)] (fun v => v = .tup [.fz 3 (rds (stR p l).1), .fz 3 (rds (stR p l).2.1), .int .i64 (stR p l).2.2]) := by
 refine IFun.of_bodyZ false 11 [18] Tryz.func15 rfl Tryz.call15 rfl fun R hR => ?_
 have cc := Check_fun p l h.t h.s h.l
 simp only [Pl.v] at *
 simp [go_sem]
 refine cc.callF (by simp [go_sem]) ?_
 rintro _ rfl
 by_cases he : (chkR p l).2 = 0
 ·obtain ⟨hp, hpr⟩ := plB_ok (chkR_pl he) (h.t (chkR_pl he))
  have cr := rounds_fun p l hp hpr (by have := h.l; omega)
  rw [stR_ok he] at hR
  simp only [Pl.v] at cr
  simp [go_sem, he]
  refine cr.callM (by simp [go_sem]) ?_
  rintro _ rfl
  simp [go_sem]
  exact hR _ _ _ rfl (by simp [go_sem])
 ·rw [stR_er he] at hR
  simp [go_sem, he]
  exact hR _ _ _ rfl (by simp [go_sem])
theorem st_draws {p : Pl} {l : List Em} (h : ArgE p l) : ∀ (j : Nat) (r : Er), (stR p l).1[j]? = some r → ErOK p r ∧ r.draw.length ≤ 6 := by
 intro j r hr
 by_cases he : (chkR p l).2 = 0
 ·rw [stR_ok he] at hr
  exact rchd_er (plB_ok (chkR_pl he) (h.t (chkR_pl he))).1 hr
 ·rw [stR_er he] at hr; simp at hr
theorem st_len (p : Pl) (l : List Em) : (stR p l).1.length ≤ p.r.toNat ∧ (stR p l).2.1.length ≤ (stR p l).1.length := by
 have := reach_len p l p.r.toNat 0 []
 unfold stR
 split
 ·simp
 ·simp only [rchd]; refine ⟨this, ?_⟩; unfold ovrd; simp; omega
theorem Draw9_fun (p : Pl) (l : List Em) (n : Int) (h : ArgE p l) : ON 12 [p.v, .fz 4 (ems l), .int .i64 n] (fun v => v = drawV (drawE p l n)) := by
 refine IFun.of_bodyZ false 12 [20, 29] Tryz.func12 rfl Tryz.call12 rfl fun R hR => ?_
 have cs := state_fun p l h
 simp only [Pl.v] at *
 have fin : ∀ (r : IV) (σ : Heap) (q : List (Int × Int) × Int × Int), drawE p l n = q → frzOK true 4 σ r ∧ nz 4 (frzV 4 σ r) (drawV q) → R r σ := fun r σ q e h => hR r σ _ rfl (by rw [e]; exact h)
 clear hR
 simp [go_sem]
 refine cs.callM (by simp [go_sem]) ?_
 rintro _ rfl
 by_cases he : (chkR p l).2 = 0
 case neg =>
  rw [stR_er he]
  simp [go_sem, he]
  exact fin _ _ ([], 0, (chkR p l).2) (by unfold drawE; rw [if_pos he]) (by simp [go_sem, drawV])
 rw [stR_ok he]
 have hE : drawE p l n = if n < 0 ∨ ((rchd p l).length : Int) ≤ n then ([], 0, 6) else (((rchd p l).getD n.toNat Er0).draw, ((rchd p l).getD n.toNat Er0).bye, 0) := by unfold drawE; rw [if_neg (by simp [he])]
 generalize rchd p l = all at *
 by_cases h1 : n < 0
 ·rw [if_pos (.inl h1)] at hE
  simp [go_sem, h1]
  exact fin _ _ _ hE (by simp [go_sem, drawV])
 by_cases h2 : (all.length : Int) ≤ n
 ·rw [if_pos (.inr h2)] at hE
  simp [go_sem, h1, h2]
  exact fin _ _ _ hE (by simp [go_sem, drawV])
 rw [if_neg (by omega)] at hE
 obtain ⟨j, rfl⟩ : ∃ j : Nat, n = j := ⟨n.toNat, by omega⟩
 have hj : j < all.length := by omega
 rw [Int.toNat_natCast, show all.getD j Er0 = all[j] by simp [hj]] at hE
 obtain ⟨x, hx⟩ : ∃ x, all[j] = x := ⟨_, rfl⟩
 rw [hx] at hE
 obtain ⟨d, y, M⟩ := x
 simp [go_sem, h1, h2, hj, hx]
 exact ⟨by decide +kernel, fin _ _ _ hE (by simp [go_sem, drawV])⟩
theorem Over_fun (p : Pl) (l : List Em) (h : ArgE p l) : FN 11 [p.v, .fz 4 (ems l)] (fun v => v = .tup [.bool (overE p l).1, .int .i64 (overE p l).2]) := by
 refine IFun.of_bodyZ false 9 [17] Tryz.func11 rfl Tryz.call11 rfl fun R hR => ?_
 have cs := state_fun p l h
 simp only [Pl.v] at *
 simp [go_sem]
 refine cs.callM (by simp [go_sem]) ?_
 rintro _ rfl
 unfold overE at hR
 by_cases he : (chkR p l).2 = 0
 case neg =>
  rw [stR_er he]
  rw [if_pos he] at hR
  simp [go_sem, he]
  exact hR _ _ _ rfl (by simp [go_sem])
 rw [stR_ok he]
 rw [if_neg (by simp [he])] at hR
 generalize (rchd p l) = all at *
 by_cases hx : all.length = (ovrd all).length
 ·simp [go_sem, hx]
  exact hR _ _ _ rfl (by simp [go_sem, hx])
 ·have hx' : ¬ (all.length : Int) = (ovrd all).length := by omega
  have e2 : ((all.length : Int) == ((ovrd all).length : Int)) = false := by rw [beq_eq_false_iff_ne]; exact hx'
  simp [go_sem, hx, hx', e2]
  exact hR _ _ _ rfl (by simp [go_sem, hx])
theorem tabL9_length {p : Pl} {l : List Er} : (tabL9 p l).length = p.t.toNat := by simp [tabL9]
theorem ov_er {p : Pl} {l : List Em} (h : ArgE p l) (he : (chkR p l).2 = 0) : ∀ r ∈ ovrd (rchd p l), ErOK p r := fun r hr => by
 unfold ovrd at hr
 exact rchd_erM (plB_ok (chkR_pl he) (h.t (chkR_pl he))).1 r (List.mem_of_mem_take hr)
theorem ov_len {p : Pl} {l : List Em} (h : ArgE p l) (he : (chkR p l).2 = 0) : (ovrd (rchd p l)).length ≤ 15 := by
 have h1 := (plB_ok (chkR_pl he) (h.t (chkR_pl he))).2
 have := reach_len p l p.r.toNat 0 []
 unfold ovrd rchd; simp; omega
theorem Table_fun (p : Pl) (l : List Em) (h : ArgE p l) : FN 7 [p.v, .fz 4 (ems l)] (fun v => v = .tup [.fz 6 (lns (tableE p l).1), .int .i64 (tableE p l).2]) := by
 refine IFun.of_bodyZ false 9 [17] Tryz.func7 rfl Tryz.call7 rfl fun R hR => ?_
 have cs := state_fun p l h
 unfold tableE at hR
 by_cases he : (chkR p l).2 = 0
 case neg =>
  simp only [Pl.v] at *
  simp [go_sem]
  refine cs.callM (by simp [go_sem]) ?_
  rintro _ rfl
  rw [stR_er he]
  rw [if_pos he] at hR
  simp [go_sem, he]
  exact hR _ _ _ rfl (by simp [go_sem])
 have ct := table_fun p (ovrd (rchd p l)) (plB_ok (chkR_pl he) (h.t (chkR_pl he))).1 (by have := ov_len h he; omega) (ov_er h he)
 simp only [Pl.v] at *
 simp [go_sem]
 refine cs.callM (by simp [go_sem]) ?_
 rintro _ rfl
 rw [stR_ok he]
 rw [if_neg (by simp [he])] at hR
 simp [go_sem]
 refine ct.callOF (by simp [go_sem]) ?_
 rintro _ rfl
 refine ⟨fun v => v, 6, _, .here, by decide, rfl, by simp [go_sem], ?_⟩
 simp [go_sem]
 exact hR _ _ _ rfl (by simp [go_sem])
theorem Open_fun (p : Pl) (l : List Em) (h : ArgE p l) : FN 13 [p.v, .fz 4 (ems l)] (fun v => v = .tup [.fz 2 (prs (openE p l).1), .int .i64 (openE p l).2]) := by
 refine IFun.of_bodyZ false 15 [28, 37, 38, 39, 40, 51] Tryz.func13 rfl Tryz.call13 rfl fun R hR => ?_
 have cs := state_fun p l h
 have hdr := st_draws h
 have hln := st_len p l
 unfold openE at hR
 simp only [Pl.v] at *
 simp [go_sem]
 refine cs.callM (by simp [go_sem]) ?_
 rintro _ rfl
 by_cases he : (chkR p l).2 = 0
 case neg =>
  rw [stR_er he]
  rw [if_pos he] at hR
  simp [go_sem, he]
  exact hR _ _ _ rfl (by simp [go_sem])
 have hpr := (plB_ok (chkR_pl he) (h.t (chkR_pl he))).2
 rw [stR_ok he] at hdr hln ⊢
 rw [if_neg (by simp [he])] at hR
 unfold lastR at hR
 simp only at hdr hln
 generalize rchd p l = all at *
 by_cases h0 : all.length = 0
 ·rw [if_pos h0] at hR
  have : all = [] := List.eq_nil_of_length_eq_zero h0
  subst this
  simp [go_sem]
  exact hR _ _ _ rfl (by simp [go_sem])
 rw [if_neg h0] at hR
 obtain ⟨J, hJ⟩ : ∃ J, all.length - 1 = J := ⟨_, rfl⟩
 have hJl : J < all.length := by omega
 have w1 : IntKind.i64.wrap ((all.length : Int) - 1) = (J : Int) := by rw [wrap64 (by omega) (by omega)]; omega
 have hdJ := hdr J all[J] (List.getElem?_eq_getElem hJl)
 rw [hJ, show all.getD J Er0 = all[J] by simp [hJl]] at hR
 obtain ⟨x, hx⟩ : ∃ x, all[J] = x := ⟨_, rfl⟩
 rw [hx] at hR hdJ
 obtain ⟨d, y, M⟩ := x
 unfold opnR at hR
 simp only at hR hdJ
 have h0' : ¬ (all.length : Int) = 0 := by omega
 have h0'' : ¬ all = [] := fun e => h0 (by rw [e]; rfl)
 have h00 : ((all.length : Int) == 0) = false := by rw [beq_eq_false_iff_ne]; exact h0'
 clear hdr
 simp [go_sem, h0, h0', h0'', h00, w1, hJl, hx]
 refine IWp.ownNilS 2 10 (by decide) (by simp [go_sem]) ?_
 refine IWp.loopT (α := Nat) (fun i => (⟨false, 58, 15, [28, 37, 38, 39, 40, 51], glT, [(9, .ptr 1 1 0 0), (10, .sl 2 ((d.take i).filter fun x => (aget x M).isNone).length 0 ((d.take i).filter fun x => (aget x M).isNone).length none), (37, .fz 2 (prs d)), (38, .int .i64 d.length), (39, .int .i64 (i : Int))], []⟩, [.dead, .rows 3 [[.fz 2 (prs d), .int .i64 y, .fm (enP M)]], .rows 2 (prs ((d.take i).filter fun x => (aget x M).isNone))]))
  (fun i => i ≤ d.length) (fun i => d.length - i) 0 (by omega) (by simp [go_sem]) ?_
 intro i hi
 by_cases hid : i < d.length
 ·have w2 : IntKind.i64.wrap ((i : Int) + 1) = i + 1 := wrap64 (by omega) (by omega)
  have hsn : (d.take (i + 1)).filter (fun x => (aget x M).isNone) = (d.take i).filter (fun x => (aget x M).isNone) ++ if (aget d[i] M).isNone = true then [d[i]] else [] := by
   rw [List.take_succ_eq_append_getElem hid, List.filter_append]
   congr 1
   simp only [List.filter_cons, List.filter_nil]
  have hfl : ((d.take i).filter fun x => (aget x M).isNone).length ≤ 6 := by
   have := List.length_filter_le (fun x => (aget x M).isNone) (d.take i)
   simp at this; omega
  generalize (d.take i).filter (fun x => (aget x M).isNone) = F at *
  obtain ⟨q, hq⟩ : ∃ q, d[i] = q := ⟨_, rfl⟩
  rw [hq] at hsn
  obtain ⟨a, b⟩ := q
  cases hg : aget (a, b) M with
  | some v =>
   rw [if_neg (by simp [hg]), List.append_nil] at hsn
   simp [go_sem, hid, hq, mget_p, hg, w2]
   exact ⟨i + 1, ⟨⟨by rw [hsn], by omega⟩, by rw [hsn]⟩, by omega, by omega⟩
  | none =>
   rw [if_pos (by simp [hg])] at hsn
   simp [go_sem, hid, hq, mget_p, hg, w2]
   refine ⟨by omega, i + 1, ⟨⟨by rw [hsn]; simp, by omega⟩, by rw [hsn, prs_snoc]⟩, by omega, by omega⟩
 ·obtain rfl : i = d.length := by omega
  rw [List.take_length]
  simp [go_sem]
  exact hR _ _ _ rfl (by simp [go_sem])
theorem Qualify_fun (p : Pl) (l : List Em) (n : Int) (h : ArgE p l) : FN 8 [p.v, .fz 4 (ems l), .int .i64 n] (fun v => v = .tup [.fz 1 (ints (qualE p l n).1), .int .i64 (qualE p l n).2]) := by
 refine IFun.of_bodyZ false 14 [21, 25, 31, 46, 47, 48, 49] Tryz.func8 rfl Tryz.call8 rfl fun R hR => ?_
 have cs := state_fun p l h
 unfold qualE at hR
 by_cases he : (chkR p l).2 = 0
 case neg =>
  rw [if_pos he] at hR
  simp only [Pl.v] at *
  simp [go_sem]
  refine cs.callM (by simp [go_sem]) ?_
  rintro _ rfl
  rw [stR_er he]
  simp [go_sem, he]
  exact hR _ _ _ rfl (by simp [go_sem])
 have hpl := plB_ok (chkR_pl he) (h.t (chkR_pl he))
 have ct := table_fun p (ovrd (rchd p l)) hpl.1 (by have := ov_len h he; omega) (ov_er h he)
 have htl := tabL9_length (p := p) (l := ovrd (rchd p l))
 have hpt := hpl.1.t
 rw [if_neg (by simp [he])] at hR
 simp only [Pl.v] at *
 simp [go_sem]
 refine cs.callM (by simp [go_sem]) ?_
 rintro _ rfl
 rw [stR_ok he]
 generalize tabL9 p (ovrd (rchd p l)) = TB at *
 generalize (rchd p l) = all at *
 by_cases h1 : all.length = (ovrd all).length
 case neg =>
  rw [if_pos h1] at hR
  have h1' : ¬ (all.length : Int) = (ovrd all).length := by omega
  have e2 : ((all.length : Int) != ((ovrd all).length : Int)) = true := by rw [bne_iff_ne]; exact h1'
  simp [go_sem, h1, h1', e2]
  exact hR _ _ _ rfl (by simp [go_sem])
 rw [if_neg (by simp [h1])] at hR
 by_cases h2 : n < 1
 ·rw [if_pos (.inl h2)] at hR
  simp [go_sem, ← h1, h2]
  exact hR _ _ _ rfl (by simp [go_sem])
 by_cases h3 : p.t < n
 ·rw [if_pos (.inr h3)] at hR
  simp [go_sem, ← h1, h2, h3]
  exact hR _ _ _ rfl (by simp [go_sem])
 rw [if_neg (by omega)] at hR
 obtain ⟨N, rfl⟩ : ∃ N : Nat, n = N := ⟨n.toNat, by omega⟩
 rw [Int.toNat_natCast] at hR
 have g1 : (N : Int) ≤ 1099511627776 := by omega
 have hNT : N ≤ TB.length := by omega
 have hTl : (TB.take N).length = N := by simp; omega
 simp [go_sem, ← h1, h2, h3, g1]
 refine ct.callF (by simp [go_sem]) ?_
 rintro _ rfl
 simp [go_sem, hNT]
 rw [← lns_take]
 generalize TB.take N = T9 at *
 refine IWp.loopT (α := Nat) (fun k => (⟨false, 59, 14, [21, 25, 31, 46, 47, 48, 49], glT, [(11, .sl 1 k 0 k none), (46, .fz 6 (lns T9)), (47, .int .i64 N), (48, .int .i64 (k : Int))], []⟩, [.dead, .rows 1 (ints ((T9.take k).map (·.team)))]))
  (fun k => k ≤ N) (fun k => N - k) 0 (by omega) (by simp [go_sem, hTl]) ?_
 intro k hk
 by_cases hkn : k < N
 ·have w1 : IntKind.i64.wrap ((k : Int) + 1) = k + 1 := wrap64 (by omega) (by omega)
  have hkl : k < T9.length := by omega
  have hsn : ints ((T9.take (k + 1)).map (·.team)) = ints ((T9.take k).map (·.team)) ++ [[.int .i64 T9[k].team]] := by
   rw [List.take_succ_eq_append_getElem hkl, List.map_append, List.map_cons, List.map_nil, ints_snoc]
  obtain ⟨x, hx⟩ : ∃ x, T9[k] = x := ⟨_, rfl⟩
  rw [hx] at hsn
  obtain ⟨x1, x2, x3, x4, x5, x6⟩ := x
  rw [List.map_take, List.map_take] at hsn
  simp [go_sem, hkn, hkl, hx, w1, hTl]
  exact ⟨⟨by omega, by omega⟩, k + 1, ⟨⟨rfl, by omega⟩, hsn⟩, by omega, by omega⟩
 ·obtain rfl : k = N := by omega
  rw [show T9.take k = T9 from List.take_of_length_le (by omega)]
  simp [go_sem]
  exact hR _ _ _ rfl (by simp [go_sem, hTl])
end Go.Idl
namespace Go.Idl
open Go.Proofs
def rowM (n : Nat) (S : List ((Int × Int) × Int)) : List Em := S.map fun e => ⟨n, e.1.1, e.1.2, e.2⟩
def mB : Nat → List Er → List Em
 | _, [] => []
 | n, r :: B => rowM n r.mg ++ mB (n + 1) B
@[simp] theorem rowM_length {n : Nat} {S : List ((Int × Int) × Int)} : (rowM n S).length = S.length := by simp [rowM]
theorem mB_append : ∀ (n : Nat) (A B : List Er), mB n (A ++ B) = mB n A ++ mB (n + A.length) B
 | n, [], B => by simp [mB]
 | n, r :: A, B => by
  simp only [List.cons_append, mB, mB_append (n + 1) A B, List.length_cons, List.append_assoc]
  rw [show n + 1 + A.length = n + (A.length + 1) by omega]
theorem rowM_r {n : Nat} {S : List ((Int × Int) × Int)} {e : Em} (h : e ∈ rowM n S) : e.r = n ∧ ((e.a, e.b), e.m) ∈ S := by
 obtain ⟨⟨⟨a, b⟩, m⟩, hx, rfl⟩ := List.mem_map.1 h
 exact ⟨rfl, hx⟩
theorem mB_mem : ∀ {n : Nat} {B : List Er} {e : Em}, e ∈ mB n B → ∃ (j : Nat) (r : Er), B[j]? = some r ∧ e.r = ((n + j : Nat) : Int) ∧ ((e.a, e.b), e.m) ∈ r.mg
 | n, r :: B, e, h => by
  simp only [mB, List.mem_append] at h
  rcases h with h | h
  ·exact ⟨0, r, rfl, rowM_r h⟩
  ·obtain ⟨j, r', h1, h2, h3⟩ := mB_mem h
   exact ⟨j + 1, r', by simpa using h1, by rw [h2]; congr 1; omega, h3⟩
theorem mgs_skip {n : Int} {d : List (Int × Int)} : ∀ {l : List Em} {S : List ((Int × Int) × Int)}, (∀ e ∈ l, e.r ≠ n) → l.foldl (mgStep n d) S = S
 | [], _, _ => rfl
 | e :: l, S, h => by
  have : mgStep n d S e = S := by
   unfold mgStep
   rw [if_neg]
   rintro ⟨_, h2, _⟩
   exact h e (List.mem_cons_self ..) h2
  rw [List.foldl_cons, this]
  exact mgs_skip fun e he => h e (List.mem_cons_of_mem _ he)
theorem mgs_rowM {n : Nat} {d : List (Int × Int)} : ∀ {S T : List ((Int × Int) × Int)}, (T.map (·.1) ++ S.map (·.1)).Nodup → (∀ e ∈ S, e.1 ∈ d ∧ mrB e.2 = true) → (rowM n S).foldl (mgStep n d) T = T ++ S
 | [], T, _, _ => by simp [rowM]
 | ⟨⟨a, b⟩, m⟩ :: S, T, h1, h2 => by
  have hn : (a, b) ∉ T.map (·.1) := fun hc => by
   rw [List.nodup_append] at h1
   exact h1.2.2 _ hc _ (List.mem_cons_self ..) rfl
  have hq := aget_none.2 hn
  have hm := h2 _ (List.mem_cons_self ..)
  have : mgStep n d T ⟨n, a, b, m⟩ = T ++ [((a, b), m)] := by
   unfold mgStep
   rw [if_pos ⟨hq, rfl, hm.2, hm.1⟩]
   exact aset_keys _ _ _ hq
  have ih := mgs_rowM (n := n) (d := d) (S := S) (T := T ++ [((a, b), m)]) (by simpa using h1) fun e he => h2 e (List.mem_cons_of_mem _ he)
  simp only [rowM, List.map_cons, List.foldl_cons] at ih ⊢
  rw [this, ih]; simp
structure OKr (r : Er) : Prop where
 nd : (r.mg.map (·.1)).Nodup
 ok : ∀ e ∈ r.mg, e.1 ∈ r.draw ∧ mrB e.2 = true
theorem mgs_mB {n : Nat} {B : List Er} {j : Nat} {r : Er} (h : B[j]? = some r) (hr : OKr r) : mgs (mB n B) ((n + j : Nat) : Int) r.draw = r.mg := by
 obtain ⟨hj, e⟩ := List.getElem?_eq_some_iff.1 h
 have hB : B = B.take j ++ r :: B.drop (j + 1) := by
  rw [← e, List.getElem_cons_drop, List.take_append_drop]
 rw [hB, mB_append]
 unfold mgs
 have hl : (B.take j).length = j := by simp; omega
 have s1 : (mB n (B.take j)).foldl (mgStep ((n + j : Nat) : Int) r.draw) [] = [] := mgs_skip fun x hx => by
  obtain ⟨i, r', h1, h2, _⟩ := mB_mem hx
  obtain ⟨hi, _⟩ := List.getElem?_eq_some_iff.1 h1
  rw [hl] at hi
  omega
 rw [List.foldl_append, s1, hl]
 simp only [mB]
 rw [List.foldl_append, mgs_rowM (by simpa using hr.nd) hr.ok, List.nil_append]
 refine mgs_skip fun x hx => ?_
 obtain ⟨i, r', _, h2, _⟩ := mB_mem hx
 omega
def ChainR (p : Pl) : List Er → List Er → Prop
 | _, [] => True
 | bf, r :: B => drawR (ordT p bf) (metT bf) (byeT bf) = (r.draw, r.bye, 0) ∧ ChainR p (bf ++ [r]) B
theorem chain_append {p : Pl} : ∀ {A B bf : List Er}, ChainR p bf (A ++ B) ↔ ChainR p bf A ∧ ChainR p (bf ++ A) B
 | [], B, bf => by simp [ChainR]
 | r :: A, B, bf => by
  simp only [List.cons_append, ChainR, chain_append (A := A), and_assoc]
  rw [show bf ++ [r] ++ A = bf ++ r :: A by simp]
theorem chain_get {p : Pl} : ∀ {B bf : List Er} {j : Nat} {r : Er}, ChainR p bf B → B[j]? = some r → drawR (ordT p (bf ++ B.take j)) (metT (bf ++ B.take j)) (byeT (bf ++ B.take j)) = (r.draw, r.bye, 0)
 | r :: B, bf, 0, r', h, e => by
  simp only [List.getElem?_cons_zero, Option.some.injEq] at e
  subst e
  simpa using h.1
 | r :: B, bf, j + 1, r', h, e => by
  have := chain_get h.2 (j := j) (by simpa using e)
  simpa using this
theorem chain_ok {p : Pl} {B : List Er} {j : Nat} {r : Er} (h : ChainR p [] B) (e : B[j]? = some r) : DrawOK (ordT p (B.take j)) (metT (B.take j)) (byeT (B.take j)) r.draw r.bye := by
 have h1 := chain_get h e
 rw [List.nil_append] at h1
 have := drawR_ok (met := metT (B.take j)) (byes := byeT (B.take j)) (ordT_nodup p (B.take j)) (by rw [h1])
 rwa [h1] at this
theorem chain_nodup {p : Pl} {B : List Er} {j : Nat} {r : Er} (h : ChainR p [] B) (e : B[j]? = some r) : r.draw.Nodup ∧ (endsP r.draw).Nodup := by
 have := (chain_ok h e).nodup (ordT_nodup p _)
 exact ⟨(endsP_nodup this).1, this⟩
theorem chain_len {p : Pl} {B : List Er} {j : Nat} {r : Er} (h : ChainR p [] B) (e : B[j]? = some r) : r.draw.length = p.t.toNat / 2 := by
 have := (chain_ok h e).len
 rwa [ordT_length] at this
theorem reach_chain {p : Pl} {l : List Em} : ∀ (B : List Er) (k n : Nat) (bf : List Er), ChainR p bf B → (∀ (j : Nat) (r : Er), B[j]? = some r → mgs l ((n + j : Nat) : Int) r.draw = r.mg) → (∀ (j : Nat) (r : Er), B[j]? = some r → j + 1 < B.length → r.over = true) → B.length ≤ k →
  ((∀ r ∈ B, r.over = true) → B.length = k ∨ (drawR (ordT p (bf ++ B)) (metT (bf ++ B)) (byeT (bf ++ B))).2.2 ≠ 0) → reach p l k n bf = B
 | [], 0, n, bf, _, _, _, _, _ => rfl
 | [], k + 1, n, bf, _, _, _, _, h5 => by
  rcases h5 (by simp) with h | h
  ·simp at h
  ·unfold reach
   rw [List.append_nil] at h
   simp only
   rw [if_pos h]
 | r :: B, 0, n, bf, _, _, _, h4, _ => by simp at h4
 | r :: B, k + 1, n, bf, h1, h2, h3, h4, h5 => by
  unfold reach
  simp only
  rw [h1.1]
  simp only
  have e0 : mgs l (n : Int) r.draw = r.mg := h2 0 r rfl
  rw [if_neg (by simp), e0]
  by_cases ho : r.over = true
  ·have := reach_chain B k (n + 1) (bf ++ [r]) h1.2 (fun j r' hr => by rw [show n + 1 + j = n + (j + 1) by omega]; exact h2 (j + 1) r' (by simpa using hr)) (fun j r' hr hj => h3 (j + 1) r' (by simpa using hr) (by simpa using hj)) (by simpa using h4) (fun ha => by
     have := h5 (fun x hx => by
      rcases List.mem_cons.1 hx with rfl | hx
      ·exact ho
      ·exact ha x hx)
     simpa using this)
   have hr : (⟨r.draw, r.bye, r.mg⟩ : Er) = r := rfl
   rw [hr, if_pos ho, this]
  ·have hB : B = [] := by
    rcases B with _ | ⟨x, B⟩
    ·rfl
    ·exact absurd (h3 0 r rfl (by simp)) ho
   have hr : (⟨r.draw, r.bye, r.mg⟩ : Er) = r := rfl
   rw [hr, if_neg ho, hB]
structure PartB (p : Pl) (B : List Er) : Prop where
 pl : plB p = true
 chain : ChainR p [] B
 ok : ∀ r ∈ B, OKr r
 len : B.length ≤ p.r.toNat
 over : ∀ (j : Nat) (r : Er), B[j]? = some r → j + 1 < B.length → r.over = true
 fin : (∀ r ∈ B, r.over = true) → B.length = p.r.toNat ∨ (drawR (ordT p B) (metT B) (byeT B)).2.2 ≠ 0
theorem PartB.rchd {p : Pl} {B : List Er} (h : PartB p B) : rchd p (mB 0 B) = B := by
 refine reach_chain B p.r.toNat 0 [] h.chain (fun j r hr => ?_) h.over h.len ?_
 ·exact mgs_mB hr (h.ok r (List.mem_of_getElem? hr))
 ·simpa using h.fin
theorem mB_keys : ∀ {n : Nat} {B : List Er}, (∀ r ∈ B, (r.mg.map (·.1)).Nodup) → ((mB n B).map key3).Nodup
 | _, [], _ => by simp [mB]
 | n, r :: B, h => by
  simp only [mB, List.map_append]
  rw [List.nodup_append]
  refine ⟨?_, mB_keys fun x hx => h x (List.mem_cons_of_mem _ hx), ?_⟩
  ·have := h r (List.mem_cons_self ..)
   rw [rowM, List.map_map]
   rw [List.Nodup, List.pairwise_map] at this ⊢
   refine this.imp fun hab hc => hab ?_
   simp only [Function.comp, key3, Prod.mk.injEq, true_and] at hc
   exact Prod.ext hc.1 hc.2
  ·intro a ha b hb hab
   obtain ⟨x, hx, rfl⟩ := List.mem_map.1 ha
   obtain ⟨y, hy, rfl⟩ := List.mem_map.1 hb
   obtain ⟨h1, _⟩ := rowM_r hx
   obtain ⟨j, _, _, h2, _⟩ := mB_mem hy
   have : x.r = y.r := congrArg Prod.fst hab
   omega
theorem map_ordM {α : Type} (l : List Em) (f : Em → α) : ((ordM l).map fun i => f (l.getD i Em0)).Perm (l.map f) := by
 have h1 := ((ordM_ok l).1).map fun i => f (l.getD i Em0)
 have h2 : ((List.range l.length).map fun i => f (l.getD i Em0)) = l.map f := by
  apply List.ext_getElem (by simp)
  intro i h1 h2
  simp at h1
  simp [h1]
 rwa [h2] at h1
def FineM (p : Pl) (all : List Er) (e : Em) : Prop := ¬ badM p e ∧ e.r < (all.length : Int) ∧ (e.a, e.b) ∈ (all.getD e.r.toNat Er0).draw
theorem chk_pass {p : Pl} {l : List Em} {all : List Er} : ∀ (A : List Nat) (C : List Nat) (se : List (Int × Int × Int)), (∀ i ∈ A, FineM p all (l.getD i Em0)) → (se ++ A.map fun i => key3 (l.getD i Em0)).Nodup →
  chkP p l all (A ++ C) se = chkP p l all C (se ++ A.map fun i => key3 (l.getD i Em0))
 | [], C, se, _, _ => by simp
 | i :: A, C, se, h1, h2 => by
  obtain ⟨a1, a2, a3⟩ := h1 i (List.mem_cons_self ..)
  have a4 : ((l.getD i Em0).r, (l.getD i Em0).a, (l.getD i Em0).b) ∉ se := fun hc => by
   rw [List.nodup_append] at h2
   exact h2.2.2 _ hc _ (List.mem_cons_self ..) rfl
  rw [List.cons_append]
  conv => lhs; unfold chkP
  rw [if_neg a1, if_neg (by omega), if_neg (not_not_intro a3), if_neg a4]
  have := chk_pass (p := p) (l := l) (all := all) A C (se ++ [key3 (l.getD i Em0)]) (fun j hj => h1 j (List.mem_cons_of_mem _ hj)) (by simpa using h2)
  rw [List.map_cons, show se ++ key3 (l.getD i Em0) :: A.map (fun i => key3 (l.getD i Em0)) = se ++ [key3 (l.getD i Em0)] ++ A.map (fun i => key3 (l.getD i Em0)) by simp]
  exact this
theorem chk_ok {p : Pl} {l : List Em} (hp : plB p = true) (hk : (l.map key3).Nodup) (h : ∀ e ∈ l, FineM p (rchd p l) e) : chkR p l = (-1, 0) := by
 unfold chkR
 rw [if_pos hp]
 have := chk_pass (p := p) (l := l) (all := rchd p l) (ordM l) [] [] (fun i hi => h _ (getD_mem9 (by simpa using (ordM_ok l).1.mem_iff.1 hi))) (by
  rw [List.nil_append]
  exact (map_ordM l key3).nodup_iff.2 hk)
 rw [List.append_nil] at this
 rw [this]; rfl
theorem PartB.fine {p : Pl} {B : List Er} (h : PartB p B) {e : Em} (he : e ∈ mB 0 B) : FineM p B e := by
 obtain ⟨j, r, h1, h2, h3⟩ := mB_mem he
 obtain ⟨hj, hq⟩ := List.getElem?_eq_some_iff.1 h1
 have hr := (h.ok r (List.mem_of_getElem? h1)).ok _ h3
 have hl := h.len
 refine ⟨?_, by omega, ?_⟩
 ·unfold badM
  simp only at hr
  rintro (hc | hc | hc)
  ·omega
  ·omega
  ·rw [hr.2] at hc; cases hc
 ·have : e.r.toNat = j := by omega
  rw [this, List.getD_eq_getElem?_getD, h1]
  exact hr.1
theorem PartB.chk {p : Pl} {B : List Er} (h : PartB p B) : chkR p (mB 0 B) = (-1, 0) :=
 chk_ok h.pl (mB_keys fun r hr => (h.ok r hr).nd) fun e he => by rw [h.rchd]; exact h.fine he
structure FullB (p : Pl) (B : List Er) : Prop where
 pl : plB p = true
 chain : ChainR p [] B
 keys : ∀ r ∈ B, r.mg.map (·.1) = r.draw
 mr : ∀ r ∈ B, ∀ e ∈ r.mg, mrB e.2 = true
 len : B.length ≤ p.r.toNat
def EndB (p : Pl) (B : List Er) : Prop := B.length = p.r.toNat ∨ (drawR (ordT p B) (metT B) (byeT B)).2.2 ≠ 0
theorem FullB.mgl {p : Pl} {B : List Er} (h : FullB p B) {r : Er} (hr : r ∈ B) : r.mg.length = r.draw.length := by
 have := congrArg List.length (h.keys r hr)
 simpa using this
theorem FullB.ov {p : Pl} {B : List Er} (h : FullB p B) {r : Er} (hr : r ∈ B) : r.over = true := over_iff9.2 (h.mgl hr)
theorem FullB.okr {p : Pl} {B : List Er} (h : FullB p B) {r : Er} (hr : r ∈ B) : OKr r := by
 obtain ⟨j, hj⟩ := List.getElem?_of_mem hr
 refine ⟨by rw [h.keys r hr]; exact (chain_nodup h.chain hj).1, fun e he => ⟨?_, h.mr r hr e he⟩⟩
 rw [← h.keys r hr]
 exact List.mem_map_of_mem he
theorem FullB.part {p : Pl} {B : List Er} (h : FullB p B) (he : EndB p B) : PartB p B :=
 ⟨h.pl, h.chain, fun r hr => h.okr hr, h.len, fun j r hr _ => h.ov (List.mem_of_getElem? hr), fun _ => he⟩
theorem plB_t {p : Pl} (h : plB p = true) : 2 ≤ p.t ∧ p.t ≤ 16 ∧ 1 ≤ p.r ∧ p.r ≤ 15 ∧ scB p.s = true ∧ 0 ≤ p.b ∧ p.b ≤ 2 * p.s.length := by
 unfold plB at h
 simp only [Bool.and_eq_true, decide_eq_true_eq] at h
 obtain ⟨⟨⟨⟨⟨⟨h1, h2⟩, h3⟩, h4⟩, h5⟩, h6⟩, h7⟩ := h
 exact ⟨h1, h2, h3, h4, h5, h6, h7⟩
theorem FullB.next {p : Pl} {B : List Er} (h : FullB p B) (hl : B.length < p.r.toNat) {d : List (Int × Int)} {y : Int} (hd : drawR (ordT p B) (metT B) (byeT B) = (d, y, 0)) : PartB p (B ++ [⟨d, y, []⟩]) := by
 have hc : ChainR p [] (B ++ [⟨d, y, []⟩]) := chain_append.2 ⟨h.chain, by simp [ChainR, hd]⟩
 have hlen : d.length = p.t.toNat / 2 := chain_len hc (j := B.length) (r := ⟨d, y, []⟩) (by simp)
 have ht := plB_t h.pl
 refine ⟨h.pl, hc, fun r hr => ?_, by simp; omega, fun j r hr hj => ?_, fun ha => ?_⟩
 ·rcases List.mem_append.1 hr with hr | hr
  ·exact h.okr hr
  ·rw [List.mem_singleton.1 hr]; exact ⟨by simp, by simp⟩
 ·simp at hj
  rw [List.getElem?_append_left hj] at hr
  exact h.ov (List.mem_of_getElem? hr)
 ·have h9 : 0 = d.length := over_iff9.1 (ha ⟨d, y, []⟩ (by simp))
  omega
theorem mB_next {B : List Er} {d : List (Int × Int)} {y : Int} : mB 0 (B ++ [⟨d, y, []⟩]) = mB 0 B := by
 rw [mB_append]; simp [mB, rowM]
end Go.Idl
namespace Go.Idl
open Go.Proofs
theorem PartB.table {p : Pl} {B : List Er} (h : PartB p B) : tableE p (mB 0 B) = (tabL9 p (ovrd B), 0) := by
 unfold tableE; rw [h.chk, if_neg (by simp), h.rchd]
theorem FullB.ovrd {p : Pl} {B : List Er} (h : FullB p B) : ovrd B = B := ovrd_all fun r hr => h.ov hr
theorem FullB.left {p : Pl} {C D : List Er} (h : FullB p (C ++ D)) : FullB p C :=
 ⟨h.pl, (chain_append.1 h.chain).1, fun r hr => h.keys r (List.mem_append_left _ hr), fun r hr => h.mr r (List.mem_append_left _ hr), by have := h.len; simp at this; omega⟩
theorem tabL9_teams (p : Pl) (B : List Er) : ((tabL9 p B).map (·.team)).Perm ((List.range p.t.toNat).map fun i : Nat => (i : Int) + 1) := ordT_perm p B
end Go.Idl
namespace Go.Idl
open Go.Proofs
theorem snoc_ind {α : Type} {P : List α → Prop} (h0 : P []) (h1 : ∀ l x, P l → P (l ++ [x])) : ∀ l, P l := by
 intro l
 have : ∀ m : List α, P m.reverse := by
  intro m
  induction m with
  | nil => exact h0
  | cons x m ih => rw [List.reverse_cons]; exact h1 _ _ ih
 have := this l.reverse
 rwa [List.reverse_reverse] at this
def pA (S : List Int) (T : Int) (e : (Int × Int) × Int) : Int := if T = e.1.1 then ptA S e.2 else if T = e.1.2 then ptB S e.2 else 0
def mA (T : Int) (e : (Int × Int) × Int) : Int := if T = e.1.1 then e.2 else if T = e.1.2 then -e.2 else 0
def nA (T : Int) (e : (Int × Int) × Int) : Int := if T = e.1.1 ∨ T = e.1.2 then 1 else 0
theorem addE_get {S : List Int} {L : List Ln} {e : (Int × Int) × Int} {k : Nat} (h1 : 1 ≤ e.1.1) (h2 : 1 ≤ e.1.2) (hne : e.1.1 ≠ e.1.2) :
  (addE S L e)[k]? = (L[k]?).map fun x => { x with played := x.played + nA ((k : Int) + 1) e, points := x.points + pA S ((k : Int) + 1) e, margin := x.margin + mA ((k : Int) + 1) e } := by
 unfold addE
 rw [upL_get, upL_get]
 have i1 : (e.1.1 - 1).toNat = k ↔ (k : Int) + 1 = e.1.1 := by omega
 have i2 : (e.1.2 - 1).toNat = k ↔ (k : Int) + 1 = e.1.2 := by omega
 unfold nA pA mA
 simp only [i1, i2]
 by_cases c1 : (k : Int) + 1 = e.1.1
 ·have c2 : ¬ (k : Int) + 1 = e.1.2 := fun h => hne (by rw [← c1, h])
  simp only [c1, c2, if_true, true_or]
  rw [if_neg hne]
  cases L[k]? <;> simp [addA]
 ·by_cases c2 : (k : Int) + 1 = e.1.2
  ·have hne' : ¬ e.1.2 = e.1.1 := fun h => hne h.symm
   simp only [c1, c2, if_true, if_false, hne', or_true]
   cases L[k]? with
   | none => rfl
   | some x => simp only [Option.map_some, addB]; rfl
  ·simp only [c1, c2, if_false, or_self]
   cases L[k]? <;> simp
def TwoE (e : (Int × Int) × Int) : Prop := 1 ≤ e.1.1 ∧ 1 ≤ e.1.2 ∧ e.1.1 ≠ e.1.2
theorem foldE_get {S : List Int} {k : Nat} : ∀ {A : List ((Int × Int) × Int)} {L : List Ln}, (∀ e ∈ A, TwoE e) →
  (A.foldl (addE S) L)[k]? = (L[k]?).map fun x => { x with played := x.played + (A.map (nA ((k : Int) + 1))).sum, points := x.points + (A.map (pA S ((k : Int) + 1))).sum, margin := x.margin + (A.map (mA ((k : Int) + 1))).sum }
 | [], L, _ => by cases h : L[k]? <;> simp [h]
 | e :: A, L, h => by
  have he := h e (List.mem_cons_self ..)
  rw [List.foldl_cons, foldE_get fun x hx => h x (List.mem_cons_of_mem _ hx), addE_get he.1 he.2.1 he.2.2]
  cases L[k]? with
  | none => rfl
  | some x =>
   simp only [Option.map_some, List.map_cons, List.sum_cons]
   congr 2 <;> omega
def byB (T : Int) (r : Er) : Bool := decide (0 < r.bye) && decide (T = r.bye)
theorem addR_get {p : Pl} {L : List Ln} {r : Er} {k : Nat} (h : ∀ e ∈ r.mg, TwoE e) :
  (addR p L r)[k]? = (L[k]?).map fun x => { x with played := x.played + (r.mg.map (nA ((k : Int) + 1))).sum, points := x.points + (r.mg.map (pA p.s ((k : Int) + 1))).sum + (if byB ((k : Int) + 1) r = true then p.b else 0), margin := x.margin + (r.mg.map (mA ((k : Int) + 1))).sum, bye := x.bye || byB ((k : Int) + 1) r } := by
 unfold addR addY byB
 by_cases hb : 0 < r.bye
 ·rw [if_pos hb, upL_get, foldE_get h]
  have i1 : (r.bye - 1).toNat = k ↔ (k : Int) + 1 = r.bye := by omega
  simp only [i1]
  by_cases c : (k : Int) + 1 = r.bye
  ·rw [if_pos c]
   cases L[k]? <;> simp [c, hb]
  ·rw [if_neg c]
   cases L[k]? <;> simp [c]
 ·rw [if_neg hb, foldE_get h]
  cases L[k]? <;> simp [hb]
def pM (S : List Int) (T : Int) (m : Em) : Int := pA S T ((m.a, m.b), m.m)
def mM (T : Int) (m : Em) : Int := mA T ((m.a, m.b), m.m)
def nM (T : Int) (m : Em) : Int := nA T ((m.a, m.b), m.m)
theorem rowM_map {α : Type} {n : Nat} {S : List ((Int × Int) × Int)} {f : (Int × Int) × Int → α} : (rowM n S).map (fun m => f ((m.a, m.b), m.m)) = S.map f := by
 rw [rowM, List.map_map]; rfl
def byC (T : Int) (B : List Er) : Nat := B.countP (byB T)
def lineT (p : Pl) (T : Int) (B : List Er) : Ln := ⟨T, 0, ((mB 0 B).map (nM T)).sum, ((mB 0 B).map (pM p.s T)).sum + p.b * byC T B, ((mB 0 B).map (mM T)).sum, decide (0 < byC T B)⟩
theorem tabU_get {p : Pl} {k : Nat} (hk : k < p.t.toNat) : ∀ B : List Er, (∀ r ∈ B, ∀ e ∈ r.mg, TwoE e) → (tabU p B)[k]? = some (lineT p ((k : Int) + 1) B) := by
 apply snoc_ind
 ·intro _
  simp [tabU, lns0, lineT, mB, byC, hk]
 ·intro B r ih h
  rw [tabU_snoc, addR_get fun e he => h r (by simp) e he, ih fun q hq => h q (List.mem_append_left _ hq)]
  have e1 : ∀ f : Em → Int, ((mB 0 (B ++ [r])).map f).sum = ((mB 0 B).map f).sum + ((rowM B.length r.mg).map f).sum := fun f => by
   rw [mB_append]; simp [mB]
  have e2 : byC ((k : Int) + 1) (B ++ [r]) = byC ((k : Int) + 1) B + if byB ((k : Int) + 1) r = true then 1 else 0 := by
   unfold byC; rw [List.countP_append, List.countP_cons, List.countP_nil]; simp
  simp only [Option.map_some, lineT, e1, e2]
  have n1 : (rowM B.length r.mg).map (nM ((k : Int) + 1)) = r.mg.map (nA ((k : Int) + 1)) := rowM_map
  have n2 : (rowM B.length r.mg).map (pM p.s ((k : Int) + 1)) = r.mg.map (pA p.s ((k : Int) + 1)) := rowM_map
  have n3 : (rowM B.length r.mg).map (mM ((k : Int) + 1)) = r.mg.map (mA ((k : Int) + 1)) := rowM_map
  rw [n1, n2, n3]
  cases hb : byB ((k : Int) + 1) r with
  | true =>
   simp only [if_true, Bool.or_true]
   congr 2
   rw [show ((byC ((k : Int) + 1) B + 1 : Nat) : Int) = (byC ((k : Int) + 1) B : Int) + 1 by omega, Int.mul_add]; omega
  | false =>
   simp only [Bool.false_eq_true, if_false, Bool.or_false, Nat.add_zero]
   congr 2; omega
theorem chain_mem {p : Pl} {B : List Er} {j : Nat} {r : Er} (h : ChainR p [] B) (e : B[j]? = some r) {x : Int × Int} (hx : x ∈ r.draw) : (1 ≤ x.1 ∧ x.1 ≤ p.t) ∧ (1 ≤ x.2 ∧ x.2 ≤ p.t) ∧ x.1 ≠ x.2 := by
 have h1 := (chain_ok h e).mem hx
 rw [ordT_mem, ordT_mem] at h1
 exact ⟨h1.1, h1.2, ends_ne (chain_nodup h e).2 hx⟩
theorem FullB.two {p : Pl} {B : List Er} (h : FullB p B) : ∀ r ∈ B, ∀ e ∈ r.mg, TwoE e := fun r hr e he => by
 obtain ⟨j, hj⟩ := List.getElem?_of_mem hr
 have hx : e.1 ∈ r.draw := by rw [← h.keys r hr]; exact List.mem_map_of_mem he
 have := chain_mem h.chain hj hx
 exact ⟨this.1.1, this.2.1.1, this.2.2⟩
theorem chain_bye {p : Pl} {B : List Er} {j : Nat} {r : Er} (h : ChainR p [] B) (e : B[j]? = some r) : (p.t.toNat % 2 = 0 → r.bye = 0) ∧ (p.t.toNat % 2 = 1 → (1 ≤ r.bye ∧ r.bye ≤ p.t) ∧ r.bye ∉ byeT (B.take j)) := by
 have h1 := chain_ok h e
 refine ⟨fun hq => h1.ev (by rw [ordT_length]; exact hq), fun hq => ?_⟩
 have h2 := h1.od (by rw [ordT_length]; exact hq)
 rw [ordT_mem] at h2
 exact h2
theorem byC_count (T : Int) (hT : 0 < T) : ∀ B : List Er, byC T B = (byeT B).count T := by
 apply snoc_ind
 ·rfl
 ·intro B r ih
  unfold byC at ih ⊢
  rw [List.countP_append, byeT_snoc, List.count_append, ih, List.countP_cons, List.countP_nil]
  congr 1
  unfold byB
  by_cases h : 0 < r.bye
  ·by_cases h2 : T = r.bye
   ·subst h2; simp [hT]
   ·have h3 : ¬ r.bye = T := fun e => h2 e.symm
    simp [h, h2, List.count_cons, h3]
  ·simp [h]
theorem chain_byes {p : Pl} {B : List Er} (h : ChainR p [] B) : (byeT B).Nodup := by
 have : ∀ n, n ≤ B.length → (byeT (B.take n)).Nodup := by
  intro n
  induction n with
  | zero => intro _; simp [byeT]
  | succ n ih =>
   intro hn
   have hg : B[n]? = some B[n] := List.getElem?_eq_getElem (by omega)
   rw [List.take_succ_eq_append_getElem (by omega), byeT_snoc, List.nodup_append]
   refine ⟨ih (by omega), by split <;> simp, fun a ha b hb => ?_⟩
   split at hb
   ·rename_i hp
    rw [List.mem_singleton] at hb
    have := chain_bye h hg
    rcases Nat.mod_two_eq_zero_or_one p.t.toNat with hq | hq
    ·have := this.1 hq; omega
    ·rw [hb]; rintro rfl
     exact (this.2 hq).2 ha
   ·simp at hb
 have h2 := this B.length (Nat.le_refl _)
 rwa [List.take_length] at h2
theorem byC_le {p : Pl} {B : List Er} (h : ChainR p [] B) {T : Int} (hT : 0 < T) : byC T B ≤ 1 := by
 rw [byC_count T hT]; exact List.nodup_iff_count.1 (chain_byes h) T
theorem tabL9_get {p : Pl} {B : List Er} (h : ∀ r ∈ B, ∀ e ∈ r.mg, TwoE e) {i : Nat} {y : Ln} (hy : (tabL9 p B)[i]? = some y) : ∃ k : Nat, k < p.t.toNat ∧ y = { lineT p ((k : Int) + 1) B with place := (i : Int) + 1 } := by
 unfold tabL9 at hy
 obtain ⟨hi, e⟩ := List.getElem?_eq_some_iff.1 hy
 rw [plcLn_get] at e
 have hi' : i < (srtLn (tabU p B)).length := by simpa using hi
 have hm : (srtLn (tabU p B))[i] ∈ tabU p B := (srtLn_perm _).mem_iff.1 (List.getElem_mem hi')
 obtain ⟨k, hk, hkk⟩ := List.mem_iff_getElem.1 hm
 have hk' : k < p.t.toNat := by simpa using hk
 have h1 := tabU_get hk' B h
 rw [List.getElem?_eq_getElem hk] at h1
 refine ⟨k, hk', ?_⟩
 rw [← e, ← hkk, Option.some.inj h1]
 simp
theorem tabL9_ord {p : Pl} {B : List Er} {i : Nat} {z y : Ln} (hz : (tabL9 p B)[i]? = some z) (hy : (tabL9 p B)[i + 1]? = some y) : y.points < z.points ∨ y.points = z.points ∧ (y.margin < z.margin ∨ y.margin = z.margin ∧ z.team < y.team) := by
 unfold tabL9 at hz hy
 obtain ⟨hi, e⟩ := List.getElem?_eq_some_iff.1 hz
 obtain ⟨hj, f⟩ := List.getElem?_eq_some_iff.1 hy
 rw [plcLn_get] at e f
 have hp := List.pairwise_iff_getElem.1 (srtLn_sorted (tabU_nodup p B)) i (i + 1) (by simpa using hi) (by simpa using hj) (by omega)
 rw [← e, ← f]
 exact hp
end Go.Idl
namespace Go.Idl
open Go.Proofs
def mmP (x : Int × Int) : Int × Int := (min x.1 x.2, max x.1 x.2)
theorem mmP_eq {x y : Int × Int} (h : mmP x = mmP y) : x = y ∨ x = (y.2, y.1) := by
 obtain ⟨a, b⟩ := x
 obtain ⟨c, d⟩ := y
 simp only [mmP, Prod.mk.injEq] at h ⊢
 omega
theorem endsP_apart {d : List (Int × Int)} (h : (endsP d).Nodup) : (d.map mmP).Nodup := by
 rw [List.Nodup, List.pairwise_map]
 have h1 := (endsP_nodup h).1
 induction d with
 | nil => exact List.Pairwise.nil
 | cons q d ih =>
  simp only [endsP, List.flatMap_cons, List.cons_append, List.nil_append, List.nodup_cons, List.mem_cons, not_or] at h
  rw [List.pairwise_cons]
  rw [List.nodup_cons] at h1
  refine ⟨fun x hx hc => ?_, ih h.2.2 h1.2⟩
  have hm := mem_endsP hx
  rcases mmP_eq hc with e | e
  ·rw [e] at h; exact h.1.2 hm.1
  ·rw [e] at h; exact h.1.2 hm.2
theorem met_apart {p : Pl} {B : List Er} (h : ChainR p [] B) : ((metT B).map mmP).Nodup := by
 have : ∀ n, n ≤ B.length → ((metT (B.take n)).map mmP).Nodup := by
  intro n
  induction n with
  | zero => intro _; simp [metT]
  | succ n ih =>
   intro hn
   have hg : B[n]? = some B[n] := List.getElem?_eq_getElem (by omega)
   have hk := chain_ok h hg
   rw [List.take_succ_eq_append_getElem (by omega), metT_snoc, List.map_append, List.nodup_append]
   refine ⟨ih (by omega), endsP_apart (chain_nodup h hg).2, fun a ha b hb hab => ?_⟩
   obtain ⟨x, hx, rfl⟩ := List.mem_map.1 ha
   obtain ⟨y, hy, rfl⟩ := List.mem_map.1 hb
   have hf := hk.fresh y hy
   unfold metB at hf
   rw [List.any_eq_false] at hf
   apply hf x hx
   rcases mmP_eq hab with e | e
   ·simp [e]
   ·simp [e]
 have h2 := this B.length (Nat.le_refl _)
 rwa [List.take_length] at h2
theorem chain_plays {p : Pl} {B : List Er} {j : Nat} {r : Er} (h : ChainR p [] B) (e : B[j]? = some r) {T : Int} (hT : 1 ≤ T ∧ T ≤ p.t) : T ∈ endsP r.draw ↔ T ≠ r.bye := by
 have h1 := chain_ok h e
 have hm : T ∈ ordT p (B.take j) := (ordT_mem p _ T).2 hT
 have hp := h1.perm
 rw [ordT_length] at hp
 rcases Nat.mod_two_eq_zero_or_one p.t.toNat with hq | hq
 ·rw [if_neg (by omega), List.append_nil] at hp
  have := (chain_bye h e).1 hq
  rw [hp.mem_iff]
  exact ⟨fun _ => by omega, fun _ => hm⟩
 ·rw [if_pos hq] at hp
  have hn := hp.nodup_iff.2 (ordT_nodup p _)
  rw [List.nodup_append] at hn
  have h2 := hp.mem_iff.2 hm
  rw [List.mem_append, List.mem_singleton] at h2
  constructor
  ·intro hc hb; exact hn.2.2 T hc r.bye (by simp) hb
  ·intro hb; exact h2.resolve_right hb
theorem sum_set {g : Ln → Int} : ∀ {L : List Ln} {i : Nat} {x : Ln} (h : i < L.length), ((L.set i x).map g).sum = (L.map g).sum - g L[i] + g x
 | y :: L, 0, x, _ => by simp; omega
 | y :: L, i + 1, x, h => by
  have h' : i < L.length := by simpa using h
  have := sum_set (g := g) (x := x) h'
  simp only [List.set_cons_succ, List.map_cons, List.sum_cons, List.getElem_cons_succ]
  omega
theorem sum_upL {g : Ln → Int} {L : List Ln} {i : Nat} {f : Ln → Ln} (h : i < L.length) : ((upL L i f).map g).sum = (L.map g).sum + (g (f L[i]) - g L[i]) := by
 unfold upL
 rw [sum_set h, show L.getD i Ln0 = L[i] by simp [h]]
 omega
theorem sum_addE {S : List Int} {L : List Ln} {e : (Int × Int) × Int} (h1 : 1 ≤ e.1.1 ∧ e.1.1 ≤ L.length) (h2 : 1 ≤ e.1.2 ∧ e.1.2 ≤ L.length) :
  ((addE S L e).map (·.points)).sum = (L.map (·.points)).sum + 2 * S.length ∧ ((addE S L e).map (·.margin)).sum = (L.map (·.margin)).sum ∧ ((addE S L e).map (·.played)).sum = (L.map (·.played)).sum + 2 := by
 unfold addE
 have i1 : (e.1.1 - 1).toNat < L.length := by omega
 have i2 : (e.1.2 - 1).toNat < (upL L (e.1.1 - 1).toNat (addA S e.2)).length := by simp; omega
 have hs := pt_sum S e.2
 refine ⟨?_, ?_, ?_⟩
 ·rw [sum_upL i2, sum_upL i1]; simp only [addA, addB]; omega
 ·rw [sum_upL i2, sum_upL i1]; simp only [addA, addB]; omega
 ·rw [sum_upL i2, sum_upL i1]; simp only [addA, addB]; omega
theorem sum_foldE {S : List Int} : ∀ {A : List ((Int × Int) × Int)} {L : List Ln}, (∀ e ∈ A, (1 ≤ e.1.1 ∧ e.1.1 ≤ L.length) ∧ 1 ≤ e.1.2 ∧ e.1.2 ≤ L.length) →
  ((A.foldl (addE S) L).map (·.points)).sum = (L.map (·.points)).sum + 2 * S.length * A.length ∧ ((A.foldl (addE S) L).map (·.margin)).sum = (L.map (·.margin)).sum ∧ ((A.foldl (addE S) L).map (·.played)).sum = (L.map (·.played)).sum + 2 * A.length
 | [], L, _ => by simp
 | e :: A, L, h => by
  have he := h e (List.mem_cons_self ..)
  obtain ⟨k1, k2, k3⟩ := sum_foldE (S := S) (A := A) (L := addE S L e) fun x hx => by rw [addE_length]; exact h x (List.mem_cons_of_mem _ hx)
  obtain ⟨a1, a2, a3⟩ := sum_addE (S := S) he.1 he.2
  rw [List.foldl_cons, k1, k2, k3, a1, a2, a3]
  simp only [List.length_cons]
  refine ⟨?_, trivial, by omega⟩
  rw [show ((A.length + 1 : Nat) : Int) = (A.length : Int) + 1 by omega, Int.mul_add]; omega
theorem sum_addR {p : Pl} {L : List Ln} {r : Er} (hm : ∀ e ∈ r.mg, (1 ≤ e.1.1 ∧ e.1.1 ≤ L.length) ∧ 1 ≤ e.1.2 ∧ e.1.2 ≤ L.length) (hb : r.bye ≤ L.length) :
  ((addR p L r).map (·.points)).sum = (L.map (·.points)).sum + 2 * p.s.length * r.mg.length + (if 0 < r.bye then p.b else 0) ∧ ((addR p L r).map (·.margin)).sum = (L.map (·.margin)).sum ∧ ((addR p L r).map (·.played)).sum = (L.map (·.played)).sum + 2 * r.mg.length := by
 obtain ⟨k1, k2, k3⟩ := sum_foldE (S := p.s) hm
 unfold addR addY
 split
 ·have hi : (r.bye - 1).toNat < (r.mg.foldl (addE p.s) L).length := by rw [foldE_length]; omega
  refine ⟨?_, ?_, ?_⟩
  ·rw [sum_upL hi, k1]; simp only; omega
  ·rw [sum_upL hi, k2]; simp only; omega
  ·rw [sum_upL hi, k3]; simp only; omega
 ·refine ⟨by rw [k1]; omega, k2, k3⟩
theorem sum_tabU {p : Pl} : ∀ B : List Er, (∀ r ∈ B, (∀ e ∈ r.mg, (1 ≤ e.1.1 ∧ e.1.1 ≤ p.t) ∧ 1 ≤ e.1.2 ∧ e.1.2 ≤ p.t) ∧ r.bye ≤ p.t) →
  ((tabU p B).map (·.points)).sum = 2 * p.s.length * (mB 0 B).length + p.b * (byeT B).length ∧ ((tabU p B).map (·.margin)).sum = 0 ∧ ((tabU p B).map (·.played)).sum = 2 * (mB 0 B).length := by
 apply snoc_ind
 ·intro _
  have : ∀ n, ((lns0 n).map (·.points)).sum = 0 ∧ ((lns0 n).map (·.margin)).sum = 0 ∧ ((lns0 n).map (·.played)).sum = 0 := fun n => by
   unfold lns0
   simp only [List.map_map, Function.comp_def]
   have : ∀ m : List Nat, (m.map fun _ => (0 : Int)).sum = 0 := fun m => by induction m with
    | nil => rfl
    | cons a m ih => simp [ih]
   exact ⟨this _, this _, this _⟩
  have h := this p.t.toNat
  simp only [tabU, List.foldl_nil, mB, byeT, List.flatMap_nil, List.length_nil]
  exact ⟨by rw [h.1]; simp, h.2.1, by rw [h.2.2]; simp⟩
 ·intro B r ih h
  obtain ⟨k1, k2, k3⟩ := ih fun q hq => h q (List.mem_append_left _ hq)
  obtain ⟨hm, hb⟩ := h r (by simp)
  have ht : ((tabU p B).length : Int) = p.t ∨ p.t < 0 := by rw [tabU_length]; omega
  rcases ht with ht | ht
  ·obtain ⟨a1, a2, a3⟩ := sum_addR (p := p) (L := tabU p B) (r := r) (fun e he => by have := hm e he; omega) (by omega)
   rw [tabU_snoc, a1, a2, a3, k1, k2, k3]
   have e1 : (mB 0 (B ++ [r])).length = (mB 0 B).length + r.mg.length := by rw [mB_append]; simp [mB]
   have e2 : (byeT (B ++ [r])).length = (byeT B).length + if 0 < r.bye then 1 else 0 := by rw [byeT_snoc]; split <;> simp
   rw [e1, e2]
   refine ⟨?_, by omega, by omega⟩
   rw [show (((mB 0 B).length + r.mg.length : Nat) : Int) = ((mB 0 B).length : Int) + r.mg.length by omega, Int.mul_add]
   split
   ·rw [show (((byeT B).length + 1 : Nat) : Int) = ((byeT B).length : Int) + 1 by omega, Int.mul_add]; omega
   ·simp only [Nat.add_zero]; omega
  ·have hmn : r.mg = [] := List.eq_nil_iff_forall_not_mem.2 fun e he => by have := hm e he; omega
   have hbn : ¬ 0 < r.bye := by omega
   have e0 : addR p (tabU p B) r = tabU p B := by unfold addR addY; rw [if_neg hbn, hmn]; rfl
   rw [tabU_snoc, e0, k1, k2, k3]
   have e1 : (mB 0 (B ++ [r])).length = (mB 0 B).length := by rw [mB_append]; simp [mB, hmn]
   have e2 : (byeT (B ++ [r])).length = (byeT B).length := by rw [byeT_snoc, if_neg hbn]; simp
   rw [e1, e2]
   exact ⟨rfl, rfl, rfl⟩
end Go.Idl
