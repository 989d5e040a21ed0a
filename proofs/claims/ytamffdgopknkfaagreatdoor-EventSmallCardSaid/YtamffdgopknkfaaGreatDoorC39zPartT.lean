import Derived.Test.YtamffdgopknkfaaGreatDoorC39zPartS
set_option linter.all false
set_option maxHeartbeats 16000000
set_option maxRecDepth 40000
namespace Go.Idl
open Go.Proofs
def idI9 (k : Nat) : Nat → List Nat
 | 0 => List.replicate k 0
 | i + 1 => (idI9 k i).set i i
@[simp] theorem idI9_length {k : Nat} : ∀ i, (idI9 k i).length = k
 | 0 => by simp [idI9]
 | i + 1 => by simp [idI9, idI9_length i]
theorem idI9_get {k : Nat} : ∀ (i j : Nat) (h : j < (idI9 k i).length), (idI9 k i)[j] = if j < i then j else 0
 | 0, j, h => by simp [idI9]
 | i + 1, j, h => by
  simp only [idI9, List.getElem_set, idI9_get i j (by simpa using h)]
  split
  ·rw [if_pos (by omega)]; omega
  ·split
   ·rw [if_pos (by omega)]
   ·rw [if_neg (by omega)]
theorem idI9_all {k : Nat} : idI9 k k = idL9 k := List.ext_getElem (by simp) fun i h1 h2 => by
 rw [idI9_get, if_pos (by simpa using h1)]; simp [idL9]
theorem ord9_eq {l : List Em} {A : List Nat} (h : OrdOf9 l A) : A = ordM l := by
 refine OrdM.eq ⟨by simpa [idL9] using h.1, ?_⟩ (ordM_ok l)
 refine h.2.imp fun {a b} hab => ?_
 unfold lx rK9 iK9 at hab
 omega
def k39 (k : Int × Int × Int) : IV := .agg [.int .i64 k.1, .int .i64 k.2.1, .int .i64 k.2.2, .int .i64 0]
def en39 (S : List ((Int × Int × Int) × Bool)) : List (IV × IV) := enM k39 (fun v : Bool => .bool v) S
theorem ke39 (a b : Int × Int × Int) : keq (k39 a) (k39 b) = decide (a = b) := by
 obtain ⟨a1, a2, a3⟩ := a
 obtain ⟨b1, b2, b3⟩ := b
 show (match ceqs [IV.int .i64 a1, IV.int .i64 a2, IV.int .i64 a3, IV.int .i64 0] [IV.int .i64 b1, IV.int .i64 b2, IV.int .i64 b3, IV.int .i64 0] with | some b => b | none => false) = _
 simp [ceqs, ceq, Prod.mk.injEq]
 by_cases h1 : a1 = b1 <;> by_cases h2 : a2 = b2 <;> by_cases h3 : a3 = b3 <;> simp [h1, h2, h3]
theorem mget_39 (a b c : Int) (S : List ((Int × Int × Int) × Bool)) : mget (.agg [.int .i64 a, .int .i64 b, .int .i64 c, .int .i64 0]) (en39 S) = (aget (a, b, c) S).map fun v => .bool v := mget_en (kf := k39) ke39 (a, b, c) S
theorem mset_39 (a b c : Int) (v : Bool) (S : List ((Int × Int × Int) × Bool)) : mset (.agg [.int .i64 a, .int .i64 b, .int .i64 c, .int .i64 0]) (.bool v) (en39 S) = en39 (aset (a, b, c) v S) := mset_en (kf := k39) (vf := fun v : Bool => .bool v) ke39 (a, b, c) v S
@[go_sem] theorem all_en39 {S : List ((Int × Int × Int) × Bool)} {X : IV → Prop} : (∀ (a b : IV), (a, b) ∈ en39 S → X a) ↔ ∀ p ∈ S, X (.agg [.int .i64 p.1.1, .int .i64 p.1.2.1, .int .i64 p.1.2.2, .int .i64 0]) := by
 simp only [en39, enM, List.mem_map, Prod.mk.injEq, k39]
 constructor
 ·intro h p hp; exact h _ _ ⟨p, hp, rfl, rfl⟩
 ·rintro h a b ⟨p, hp, rfl, rfl⟩; exact h p hp
@[go_sem] theorem bl_39 {n : Nat} {S : List ((Int × Int × Int) × Bool)} : BlM n (en39 S) = True := eq_true (en_bl (fun a => by simp [go_sem, k39]) (fun b => by simp [go_sem]) S)
@[go_sem] theorem en39_nil : en39 [] = [] := rfl
def seS (se : List (Int × Int × Int)) : List ((Int × Int × Int) × Bool) := se.map fun k => (k, true)
theorem seS_get (k : Int × Int × Int) : ∀ se : List (Int × Int × Int), aget k (seS se) = if k ∈ se then some true else none
 | [] => rfl
 | x :: se => by
  have ih := seS_get k se
  unfold seS at ih ⊢
  simp only [List.map_cons, aget, ih, List.mem_cons]
  by_cases h : k = x
  ·simp [h]
  ·rw [if_neg h]; simp [h]
theorem seS_set {k : Int × Int × Int} {se : List (Int × Int × Int)} (h : k ∉ se) : aset k true (seS se) = seS (se ++ [k]) := by
 rw [aset_keys _ _ _ (by rw [seS_get, if_neg h]; rfl)]
 simp [seS]
theorem plB_ok {p : Pl} (h : plB p = true) (ht : p.t ≤ 12) : PlOK p ∧ 1 ≤ p.r ∧ p.r ≤ 15 := by
 unfold plB at h
 simp only [Bool.and_eq_true, decide_eq_true_eq] at h
 exact ⟨⟨⟨h.1.1.1.1.1.1, ht⟩, h.1.1.2, h.1.2, h.2⟩, h.1.1.1.1.2, h.1.1.1.2⟩
theorem Check_fun (p : Pl) (l : List Em) (ht : plB p = true → p.t ≤ 12) (hs : p.s.length ≤ 2 ^ 32) (hl : l.length ≤ 2 ^ 30) : FN 17 [p.v, .fz 4 (ems l)] (fun v => v = .tup [.int .i64 (chkR p l).1, .int .i64 (chkR p l).2]) := by
 refine IFun.of_bodyW false 15 [17, 22, 23, 24, 41, 42, 43, 44, 58, 76, 83, 98] Tryz.func17 rfl Tryz.call17 rfl fun R hR => ?_
 have cr := evRight_fun p hs
 have hL : chkR p l = if plB p = true then chkP p l (rchd p l) (ordM l) [] else (-1, 2) := rfl
 generalize chkR p l = Z at *
 simp only [Pl.v] at *
 refine IWp.seqI ?_
 simp [go_sem]
 refine IWp.seqI ?_
 simp [go_sem]
 refine cr.callF (by simp [go_sem]) ?_
 rintro _ rfl
 cases hb : plB p with
 | false =>
  rw [if_neg (by rw [hb]; simp)] at hL
  subst hL
  simp [go_sem]
  exact hR _ _ _ rfl (by simp [go_sem])
 | true =>
 rw [if_pos hb] at hL
 obtain ⟨hp, hpr⟩ := plB_ok hb (ht hb)
 have crn := rounds_fun p l hp hpr (by omega)
 simp only [Pl.v] at crn
 have cs := sortStableM_calls l (by omega)
 simp [go_sem]
 obtain ⟨n, hn⟩ : ∃ n, l.length = n := ⟨_, rfl⟩
 have hn30 : n ≤ 2 ^ 30 := by omega
 have hso : ∀ B : List Nat, OrdOf9 l B → B = ordM l := fun B h => ord9_eq h
 have hAl : (ordM l).length = n := by rw [(ordM_ok l).1.length_eq, List.length_range, hn]
 have hAm : ∀ i ∈ ordM l, i < n := fun i hi => by rw [← hn]; simpa using (ordM_ok l).1.mem_iff.1 hi
 have hrl : (rchd p l).length ≤ 15 := by have := reach_len p l p.r.toNat 0 []; unfold rchd; omega
 have hrd : ∀ (j : Nat) (r : Er), (rchd p l)[j]? = some r → r.draw.length ≤ 6 := fun j r h => (rchd_er hp h).2
 rw [hn] at cs
 generalize ordM l = A at *
 generalize rchd p l = all at *
 refine IWp.seqI ?_
 simp [go_sem, hn]
 refine ⟨by omega, ?_⟩
 rw [show List.replicate n [IV.int .i64 0] = nts (idI9 n 0) by simp [idI9, nts, mp]]
 refine IWp.seqT (α := Unit) (fun _ => (⟨false, 106, 15, [17, 22, 23, 24, 41, 42, 43, 44, 58, 76, 83, 98], glT, [(2, .ptr 0 1 0 0), (3, .ptr 1 1 0 0), (6, .sl 2 n 0 n none)], []⟩, [.rows 4 [[.int .i64 p.t, .int .i64 p.r, .int .i64 p.b, .fz 1 (ints p.s)]], .rows 1 [[.fz 4 (ems l)]], .rows 1 (nts (idL9 n))])) (fun _ => True) ?_ ?_
 ·simp [go_sem]
  refine IWp.loopT (α := Nat) (fun i => (⟨false, 106, 15, [17, 22, 23, 24, 41, 42, 43, 44, 58, 76, 83, 98], glT, [(2, .ptr 0 1 0 0), (3, .ptr 1 1 0 0), (6, .sl 2 n 0 n none), (22, .int .i64 n), (23, .int .i64 (i : Int))], []⟩, [.rows 4 [[.int .i64 p.t, .int .i64 p.r, .int .i64 p.b, .fz 1 (ints p.s)]], .rows 1 [[.fz 4 (ems l)]], .rows 1 (nts (idI9 n i))]))
   (fun i => i ≤ n) (fun i => n - i) 0 (by omega) (by simp [go_sem]) ?_
  intro i hi
  by_cases h : i < n
  ·have w1 : IntKind.i64.wrap ((i : Int) + 1) = i + 1 := wrap64 (by omega) (by omega)
   have hs2 : nts (idI9 n (i + 1)) = (nts (idI9 n i)).set i [.int .i64 (i : Int)] := nts_set
   have e1 := nts_at (l := idI9 n i) (i := i) (by simpa using h)
   simp [go_sem, h, w1, e1]
   exact ⟨i + 1, ⟨by omega, hs2⟩, by omega, by omega⟩
  ·obtain rfl : i = n := by omega
   rw [idI9_all]
   simp [go_sem]
 rintro _ _
 unfold sortH9 lC9 ck1V at cs
 refine IWp.seqI ?_
 simp [go_sem]
 refine cs.at [2, 1] (by simp [go_sem]) ?_
 rintro _ _ ⟨B, hB, rfl⟩
 have hBA : A = B := (hso B hB).symm
 subst hBA
 clear hso cs hB
 simp [go_sem]
 refine IWp.seqI ?_
 simp [go_sem]
 refine crn.callM (by simp [go_sem]) ?_
 rintro _ rfl
 simp [go_sem]
 refine IWp.seqI ?_
 simp [go_sem]
 refine IWp.seqI ?_
 simp [go_sem]
 refine ⟨hAl.symm, ?_⟩
 refine IWp.shut fun Q hQ => ?_
 refine IWp.loopI (α := Nat) (fun k => (⟨false, 106, 15, [17, 22, 23, 24, 41, 42, 43, 44, 58, 76, 83, 98], glT, [(2, .ptr 0 1 0 0), (3, .ptr 1 1 0 0), (8, .fz 3 (rds all)), (10, .map 3), (41, .sl 2 n 0 n none), (42, .int .i64 n), (43, .int .i64 (k : Int))], []⟩, [.rows 4 [[.int .i64 p.t, .int .i64 p.r, .int .i64 p.b, .fz 1 (ints p.s)]], .rows 1 [[.fz 4 (ems l)]], .rows 1 (nts A), .map (en39 (seS ((A.take k).map fun i => key3 (l.getD i Em0))))]))
  (fun k => k ≤ n ∧ Z = chkP p l all (A.drop k) ((A.take k).map fun i => key3 (l.getD i Em0))) (fun k => n - k) 0 ⟨by omega, by simpa using hL⟩ (by simp [go_sem, seS]) ?_
 rintro k ⟨hk, hZ⟩
 refine IWp.seqI ?_
 by_cases h : k < n
 ·have w1 : IntKind.i64.wrap ((k : Int) + 1) = k + 1 := wrap64 (by omega) (by omega)
  have hkA : k < A.length := by omega
  have hiA := hAm _ (List.getElem_mem hkA)
  have hsn : (A.take (k + 1)).map (fun i => key3 (l.getD i Em0)) = (A.take k).map (fun i => key3 (l.getD i Em0)) ++ [key3 (l.getD A[k] Em0)] := by
   rw [List.take_succ_eq_append_getElem hkA, List.map_append]; rfl
  have e1 : (nts A)[k]?.getD [] = [.int .i64 (A[k] : Int)] := by
   have := nts_at (l := A) (i := k) hkA
   simpa [hkA] using this
  rw [List.drop_eq_getElem_cons hkA, chkP] at hZ
  generalize (A.take k).map (fun i => key3 (l.getD i Em0)) = se at *
  obtain ⟨i, hi⟩ : ∃ i, A[k] = i := ⟨_, rfl⟩
  rw [hi] at hiA hsn e1 hZ
  have e1' : ∀ hh, (nts A)[k]'hh = [.int .i64 (i : Int)] := fun hh => by rw [List.getElem?_eq_getElem hh, Option.getD_some] at e1; exact e1
  have hil : i < l.length := by omega
  have hgi : l.getD i Em0 = l[i] := by simp [hil]
  rw [hgi] at hsn hZ
  obtain ⟨m, hm⟩ : ∃ m, l[i] = m := ⟨_, rfl⟩
  rw [hm] at hsn hZ
  have cm := marginRight_fun m.m
  unfold badM at hZ
  obtain ⟨r, a, b, mg⟩ := m
  simp only [key3] at hZ hsn cm
  simp [go_sem, h]
  refine IWp.seqI ?_
  simp [go_sem]
  refine IWp.seq ?_
  refine IWp.block ?_
  refine IWp.seqI ?_
  simp [go_sem, hkA, hAl, h, e1, e1']
  refine IWp.seqI ?_
  simp [go_sem, hil, hn, hiA, hm]
  refine IWp.seqI ?_
  simp [go_sem]
  refine IWp.seq ?_
  refine IWp.block ?_
  have bad : ∀ (σ : Heap) (E : Int), Z = ((i : Int), E) → R (.tup [.int .i64 (i : Int), .int .i64 E]) σ := fun σ E hE => hR _ _ _ rfl (by simp [go_sem, hE])
  clear hR
  have stop1 : (r < 0 ∨ p.r ≤ r ∨ mrB mg = false) → Z = ((i : Int), 390) := fun hbd => by rw [hZ, if_pos hbd]
  refine IWp.seqI ?_
  by_cases c1 : r < 0
  ·have hz := stop1 (.inl c1)
   simp [go_sem, c1]
   refine IWp.now ?_
   simp [go_sem]
   rw [hQ]
   simp [go_sem]
   exact bad _ _ hz
  by_cases c2 : p.r ≤ r
  ·have hz := stop1 (.inr (.inl c2))
   simp [go_sem, c1, c2]
   refine IWp.now ?_
   simp [go_sem]
   rw [hQ]
   simp [go_sem]
   exact bad _ _ hz
  simp [go_sem, c1, c2]
  refine cm.callF (by simp [go_sem]) ?_
  rintro _ rfl
  cases c3 : mrB mg with
  | false =>
   have hz := stop1 (.inr (.inr c3))
   simp [go_sem]
   refine IWp.now ?_
   simp [go_sem]
   rw [hQ]
   simp [go_sem]
   exact bad _ _ hz
  | true =>
  have hnb : ¬ (r < 0 ∨ p.r ≤ r ∨ mrB mg = false) := by
   simp [c3]; omega
  rw [if_neg hnb] at hZ
  clear stop1
  simp [go_sem]
  refine IWp.now ?_
  by_cases c4 : (all.length : Int) ≤ r
  ·rw [if_pos c4] at hZ
   simp [go_sem, c4]
   rw [hQ]
   simp [go_sem]
   exact bad _ _ hZ
  rw [if_neg c4] at hZ
  obtain ⟨j, hj⟩ : ∃ j : Nat, r = j := ⟨r.toNat, by omega⟩
  subst hj
  have hjl : j < all.length := by omega
  have hjr := hrd j all[j] (List.getElem?_eq_getElem hjl)
  rw [Int.toNat_natCast, show all.getD j Er0 = all[j] by simp [hjl]] at hZ
  obtain ⟨x, hx⟩ : ∃ x, all[j] = x := ⟨_, rfl⟩
  rw [hx] at hjr hZ
  obtain ⟨d, y, M⟩ := x
  simp only at hjr hZ
  have cc := containsPairs_fun d a b (by omega)
  simp [go_sem, c4, hjl]
  refine Drawn.intro (fun k => if k = 11 then .bool (decide ((a, b) ∈ d)) else .tup []) ?_
  simp [go_sem, hjl, hx, cc]
  refine ⟨by decide +kernel, ?_⟩
  by_cases c5 : (a, b) ∈ d
  case neg =>
   rw [if_pos c5] at hZ
   simp [go_sem, c5]
   rw [hQ]
   simp [go_sem]
   exact bad _ _ hZ
  rw [if_neg (by simp [c5])] at hZ
  have hget := seS_get ((j : Int), a, b) se
  have hset := fun h => seS_set (k := ((j : Int), a, b)) (se := se) h
  generalize seS se = S at *
  by_cases c6 : ((j : Int), a, b) ∈ se
  ·rw [if_pos c6] at hZ hget
   simp [go_sem, c5, mget_39, hget]
   rw [hQ]
   simp [go_sem]
   exact bad _ _ hZ
  rw [if_neg c6] at hZ hget
  have hset := hset c6
  simp [go_sem, c5, mget_39, hget]
  refine IWp.now ?_
  simp [go_sem, mset_39, hset]
  refine IWp.now ?_
  simp [go_sem, w1]
  have hsn' : List.take (k + 1) (List.map (fun i => key3 (l[i]?.getD Em0)) A) = se ++ [((j : Int), a, b)] := by
   rw [← List.map_take]; exact hsn
  exact ⟨k + 1, ⟨by omega, by rw [hsn']⟩, ⟨by omega, by rw [hsn']; exact hZ⟩, by omega⟩
 ·obtain rfl : k = n := by omega
  rw [List.drop_of_length_le (by omega), chkP] at hZ
  simp [go_sem]
  refine IWp.now ?_
  simp [go_sem]
  rw [hQ]
  simp [go_sem]
  refine IWp.now ?_
  simp [go_sem]
  exact hR _ _ _ rfl (by simp [go_sem, hZ])
end Go.Idl
namespace Go.Idl
open Go.Proofs
theorem chkR_pl {p : Pl} {l : List Em} (h : (chkR p l).2 = 0) : plB p = true := by
 unfold chkR at h
 cases hb : plB p with
 | true => rfl
 | false => rw [if_neg (by simp [hb])] at h; simp at h
def stR (p : Pl) (l : List Em) : List Er × List Er × Int := if (chkR p l).2 ≠ 0 then ([], [], (chkR p l).2) else (rchd p l, ovrd (rchd p l), 0)
theorem stR_ok {p : Pl} {l : List Em} (h : (chkR p l).2 = 0) : stR p l = (rchd p l, ovrd (rchd p l), 0) := by unfold stR; rw [if_neg (by simp [h])]
theorem stR_er {p : Pl} {l : List Em} (h : (chkR p l).2 ≠ 0) : stR p l = ([], [], (chkR p l).2) := by unfold stR; rw [if_pos h]
structure ArgE (p : Pl) (l : List Em) : Prop where
 t : plB p = true → p.t ≤ 12
 s : p.s.length ≤ 2 ^ 32
 l : l.length ≤ 2 ^ 30
theorem state_fun (p : Pl) (l : List Em) (h : ArgE p l) : ON 36 [p.v, .fz 4 (ems l)] (fun v => v = .tup [.fz 3 (rds (stR p l).1), .fz 3 (rds (stR p l).2.1), .int .i64 (stR p l).2.2]) := by
 refine IFun.of_bodyZ false 11 [18] Tryz.func36 rfl Tryz.call36 rfl fun R hR => ?_
 have cc := Check_fun p l h.t h.s h.l
 simp only [Pl.v] at *
 simp [go_sem]
 refine cc.callF (by simp [go_sem]) ?_
 rintro _ rfl
 by_cases he : (chkR p l).2 = 0
 ·obtain ⟨hp, hpr⟩ := plB_ok (chkR_pl he) (h.t (chkR_pl he))
  have cr := rounds_fun p l hp hpr (by have := h.l; omega)
  rw [stR_ok he] at hR
  simp only [Pl.v] at cr
  simp [go_sem, he]
  refine cr.callM (by simp [go_sem]) ?_
  rintro _ rfl
  simp [go_sem]
  exact hR _ _ _ rfl (by simp [go_sem])
 ·rw [stR_er he] at hR
  simp [go_sem, he]
  exact hR _ _ _ rfl (by simp [go_sem])
theorem st_draws {p : Pl} {l : List Em} (h : ArgE p l) : ∀ (j : Nat) (r : Er), (stR p l).1[j]? = some r → ErOK p r ∧ r.draw.length ≤ 6 := by
 intro j r hr
 by_cases he : (chkR p l).2 = 0
 ·rw [stR_ok he] at hr
  exact rchd_er (plB_ok (chkR_pl he) (h.t (chkR_pl he))).1 hr
 ·rw [stR_er he] at hr; simp at hr
theorem st_len (p : Pl) (l : List Em) : (stR p l).1.length ≤ p.r.toNat ∧ (stR p l).2.1.length ≤ (stR p l).1.length := by
 have := reach_len p l p.r.toNat 0 []
 unfold stR
 split
 ·simp
 ·simp only [rchd]; refine ⟨this, ?_⟩; unfold ovrd; simp; omega
theorem Draw9_fun (p : Pl) (l : List Em) (n : Int) (h : ArgE p l) : ON 15 [p.v, .fz 4 (ems l), .int .i64 n] (fun v => v = drawV (drawE p l n)) := by
 refine IFun.of_bodyZ false 12 [20, 29] Tryz.func15 rfl Tryz.call15 rfl fun R hR => ?_
 have cs := state_fun p l h
 simp only [Pl.v] at *
 have fin : ∀ (r : IV) (σ : Heap) (q : List (Int × Int) × Int × Int), drawE p l n = q → frzOK true 4 σ r ∧ nz 4 (frzV 4 σ r) (drawV q) → R r σ := fun r σ q e h => hR r σ _ rfl (by rw [e]; exact h)
 clear hR
 simp [go_sem]
 refine cs.callM (by simp [go_sem]) ?_
 rintro _ rfl
 by_cases he : (chkR p l).2 = 0
 case neg =>
  rw [stR_er he]
  simp [go_sem, he]
  exact fin _ _ ([], 0, (chkR p l).2) (by unfold drawE; rw [if_pos he]) (by simp [go_sem, drawV])
 rw [stR_ok he]
 have hE : drawE p l n = if n < 0 ∨ ((rchd p l).length : Int) ≤ n then ([], 0, 6) else (((rchd p l).getD n.toNat Er0).draw, ((rchd p l).getD n.toNat Er0).bye, 0) := by unfold drawE; rw [if_neg (by simp [he])]
 generalize rchd p l = all at *
 by_cases h1 : n < 0
 ·rw [if_pos (.inl h1)] at hE
  simp [go_sem, h1]
  exact fin _ _ _ hE (by simp [go_sem, drawV])
 by_cases h2 : (all.length : Int) ≤ n
 ·rw [if_pos (.inr h2)] at hE
  simp [go_sem, h1, h2]
  exact fin _ _ _ hE (by simp [go_sem, drawV])
 rw [if_neg (by omega)] at hE
 obtain ⟨j, rfl⟩ : ∃ j : Nat, n = j := ⟨n.toNat, by omega⟩
 have hj : j < all.length := by omega
 rw [Int.toNat_natCast, show all.getD j Er0 = all[j] by simp [hj]] at hE
 obtain ⟨x, hx⟩ : ∃ x, all[j] = x := ⟨_, rfl⟩
 rw [hx] at hE
 obtain ⟨d, y, M⟩ := x
 simp [go_sem, h1, h2, hj, hx]
 exact ⟨by decide +kernel, fin _ _ _ hE (by simp [go_sem, drawV])⟩
theorem Over_fun (p : Pl) (l : List Em) (h : ArgE p l) : FN 19 [p.v, .fz 4 (ems l)] (fun v => v = .tup [.bool (overE p l).1, .int .i64 (overE p l).2]) := by
 refine IFun.of_bodyZ false 9 [17] Tryz.func19 rfl Tryz.call19 rfl fun R hR => ?_
 have cs := state_fun p l h
 simp only [Pl.v] at *
 simp [go_sem]
 refine cs.callM (by simp [go_sem]) ?_
 rintro _ rfl
 unfold overE at hR
 by_cases he : (chkR p l).2 = 0
 case neg =>
  rw [stR_er he]
  rw [if_pos he] at hR
  simp [go_sem, he]
  exact hR _ _ _ rfl (by simp [go_sem])
 rw [stR_ok he]
 rw [if_neg (by simp [he])] at hR
 generalize (rchd p l) = all at *
 by_cases hx : all.length = (ovrd all).length
 ·simp [go_sem, hx]
  exact hR _ _ _ rfl (by simp [go_sem, hx])
 ·have hx' : ¬ (all.length : Int) = (ovrd all).length := by omega
  have e2 : ((all.length : Int) == ((ovrd all).length : Int)) = false := by rw [beq_eq_false_iff_ne]; exact hx'
  simp [go_sem, hx, hx', e2]
  exact hR _ _ _ rfl (by simp [go_sem, hx])
theorem tabL9_length {p : Pl} {l : List Er} : (tabL9 p l).length = p.t.toNat := by simp [tabL9]
theorem ov_er {p : Pl} {l : List Em} (h : ArgE p l) (he : (chkR p l).2 = 0) : ∀ r ∈ ovrd (rchd p l), ErOK p r := fun r hr => by
 unfold ovrd at hr
 exact rchd_erM (plB_ok (chkR_pl he) (h.t (chkR_pl he))).1 r (List.mem_of_mem_take hr)
theorem ov_len {p : Pl} {l : List Em} (h : ArgE p l) (he : (chkR p l).2 = 0) : (ovrd (rchd p l)).length ≤ 15 := by
 have h1 := (plB_ok (chkR_pl he) (h.t (chkR_pl he))).2
 have := reach_len p l p.r.toNat 0 []
 unfold ovrd rchd; simp; omega
theorem Table_fun (p : Pl) (l : List Em) (h : ArgE p l) : FN 16 [p.v, .fz 4 (ems l)] (fun v => v = .tup [.fz 6 (lns (tableE p l).1), .int .i64 (tableE p l).2]) := by
 refine IFun.of_bodyZ false 9 [17] Tryz.func16 rfl Tryz.call16 rfl fun R hR => ?_
 have cs := state_fun p l h
 unfold tableE at hR
 by_cases he : (chkR p l).2 = 0
 case neg =>
  simp only [Pl.v] at *
  simp [go_sem]
  refine cs.callM (by simp [go_sem]) ?_
  rintro _ rfl
  rw [stR_er he]
  rw [if_pos he] at hR
  simp [go_sem, he]
  exact hR _ _ _ rfl (by simp [go_sem])
 have ct := table_fun p (ovrd (rchd p l)) (plB_ok (chkR_pl he) (h.t (chkR_pl he))).1 (by have := ov_len h he; omega) (ov_er h he)
 simp only [Pl.v] at *
 simp [go_sem]
 refine cs.callM (by simp [go_sem]) ?_
 rintro _ rfl
 rw [stR_ok he]
 rw [if_neg (by simp [he])] at hR
 simp [go_sem]
 refine ct.callOF (by simp [go_sem]) ?_
 rintro _ rfl
 refine ⟨fun v => v, 6, _, .here, by decide, rfl, by simp [go_sem], ?_⟩
 simp [go_sem]
 exact hR _ _ _ rfl (by simp [go_sem])
theorem Open_fun (p : Pl) (l : List Em) (h : ArgE p l) : FN 27 [p.v, .fz 4 (ems l)] (fun v => v = .tup [.fz 2 (prs (openE p l).1), .int .i64 (openE p l).2]) := by
 refine IFun.of_bodyZ false 15 [28, 37, 38, 39, 40, 51] Tryz.func27 rfl Tryz.call27 rfl fun R hR => ?_
 have cs := state_fun p l h
 have hdr := st_draws h
 have hln := st_len p l
 unfold openE at hR
 simp only [Pl.v] at *
 simp [go_sem]
 refine cs.callM (by simp [go_sem]) ?_
 rintro _ rfl
 by_cases he : (chkR p l).2 = 0
 case neg =>
  rw [stR_er he]
  rw [if_pos he] at hR
  simp [go_sem, he]
  exact hR _ _ _ rfl (by simp [go_sem])
 have hpr := (plB_ok (chkR_pl he) (h.t (chkR_pl he))).2
 rw [stR_ok he] at hdr hln ⊢
 rw [if_neg (by simp [he])] at hR
 unfold lastR at hR
 simp only at hdr hln
 generalize rchd p l = all at *
 by_cases h0 : all.length = 0
 ·rw [if_pos h0] at hR
  have : all = [] := List.eq_nil_of_length_eq_zero h0
  subst this
  simp [go_sem]
  exact hR _ _ _ rfl (by simp [go_sem])
 rw [if_neg h0] at hR
 obtain ⟨J, hJ⟩ : ∃ J, all.length - 1 = J := ⟨_, rfl⟩
 have hJl : J < all.length := by omega
 have w1 : IntKind.i64.wrap ((all.length : Int) - 1) = (J : Int) := by rw [wrap64 (by omega) (by omega)]; omega
 have hdJ := hdr J all[J] (List.getElem?_eq_getElem hJl)
 rw [hJ, show all.getD J Er0 = all[J] by simp [hJl]] at hR
 obtain ⟨x, hx⟩ : ∃ x, all[J] = x := ⟨_, rfl⟩
 rw [hx] at hR hdJ
 obtain ⟨d, y, M⟩ := x
 unfold opnR at hR
 simp only at hR hdJ
 have h0' : ¬ (all.length : Int) = 0 := by omega
 have h0'' : ¬ all = [] := fun e => h0 (by rw [e]; rfl)
 have h00 : ((all.length : Int) == 0) = false := by rw [beq_eq_false_iff_ne]; exact h0'
 clear hdr
 simp [go_sem, h0, h0', h0'', h00, w1, hJl, hx]
 refine IWp.ownNilS 2 10 (by decide) (by simp [go_sem]) ?_
 refine IWp.loopT (α := Nat) (fun i => (⟨false, 58, 15, [28, 37, 38, 39, 40, 51], glT, [(9, .ptr 1 1 0 0), (10, .sl 2 ((d.take i).filter fun x => (aget x M).isNone).length 0 ((d.take i).filter fun x => (aget x M).isNone).length none), (37, .fz 2 (prs d)), (38, .int .i64 d.length), (39, .int .i64 (i : Int))], []⟩, [.dead, .rows 3 [[.fz 2 (prs d), .int .i64 y, .fm (enP M)]], .rows 2 (prs ((d.take i).filter fun x => (aget x M).isNone))]))
  (fun i => i ≤ d.length) (fun i => d.length - i) 0 (by omega) (by simp [go_sem]) ?_
 intro i hi
 by_cases hid : i < d.length
 ·have w2 : IntKind.i64.wrap ((i : Int) + 1) = i + 1 := wrap64 (by omega) (by omega)
  have hsn : (d.take (i + 1)).filter (fun x => (aget x M).isNone) = (d.take i).filter (fun x => (aget x M).isNone) ++ if (aget d[i] M).isNone = true then [d[i]] else [] := by
   rw [List.take_succ_eq_append_getElem hid, List.filter_append]
   congr 1
   simp only [List.filter_cons, List.filter_nil]
  have hfl : ((d.take i).filter fun x => (aget x M).isNone).length ≤ 6 := by
   have := List.length_filter_le (fun x => (aget x M).isNone) (d.take i)
   simp at this; omega
  generalize (d.take i).filter (fun x => (aget x M).isNone) = F at *
  obtain ⟨q, hq⟩ : ∃ q, d[i] = q := ⟨_, rfl⟩
  rw [hq] at hsn
  obtain ⟨a, b⟩ := q
  cases hg : aget (a, b) M with
  | some v =>
   rw [if_neg (by simp [hg]), List.append_nil] at hsn
   simp [go_sem, hid, hq, mget_p, hg, w2]
   exact ⟨i + 1, ⟨⟨by rw [hsn], by omega⟩, by rw [hsn]⟩, by omega, by omega⟩
  | none =>
   rw [if_pos (by simp [hg])] at hsn
   simp [go_sem, hid, hq, mget_p, hg, w2]
   refine ⟨by omega, i + 1, ⟨⟨by rw [hsn]; simp, by omega⟩, by rw [hsn, prs_snoc]⟩, by omega, by omega⟩
 ·obtain rfl : i = d.length := by omega
  rw [List.take_length]
  simp [go_sem]
  exact hR _ _ _ rfl (by simp [go_sem])
theorem Qualify_fun (p : Pl) (l : List Em) (n : Int) (h : ArgE p l) : FN 18 [p.v, .fz 4 (ems l), .int .i64 n] (fun v => v = .tup [.fz 1 (ints (qualE p l n).1), .int .i64 (qualE p l n).2]) := by
 refine IFun.of_bodyZ false 14 [21, 25, 31, 46, 47, 48, 49] Tryz.func18 rfl Tryz.call18 rfl fun R hR => ?_
 have cs := state_fun p l h
 unfold qualE at hR
 by_cases he : (chkR p l).2 = 0
 case neg =>
  rw [if_pos he] at hR
  simp only [Pl.v] at *
  simp [go_sem]
  refine cs.callM (by simp [go_sem]) ?_
  rintro _ rfl
  rw [stR_er he]
  simp [go_sem, he]
  exact hR _ _ _ rfl (by simp [go_sem])
 have hpl := plB_ok (chkR_pl he) (h.t (chkR_pl he))
 have ct := table_fun p (ovrd (rchd p l)) hpl.1 (by have := ov_len h he; omega) (ov_er h he)
 have htl := tabL9_length (p := p) (l := ovrd (rchd p l))
 have hpt := hpl.1.t
 rw [if_neg (by simp [he])] at hR
 simp only [Pl.v] at *
 simp [go_sem]
 refine cs.callM (by simp [go_sem]) ?_
 rintro _ rfl
 rw [stR_ok he]
 generalize tabL9 p (ovrd (rchd p l)) = TB at *
 generalize (rchd p l) = all at *
 by_cases h1 : all.length = (ovrd all).length
 case neg =>
  rw [if_pos h1] at hR
  have h1' : ¬ (all.length : Int) = (ovrd all).length := by omega
  have e2 : ((all.length : Int) != ((ovrd all).length : Int)) = true := by rw [bne_iff_ne]; exact h1'
  simp [go_sem, h1, h1', e2]
  exact hR _ _ _ rfl (by simp [go_sem])
 rw [if_neg (by simp [h1])] at hR
 by_cases h2 : n < 1
 ·rw [if_pos (.inl h2)] at hR
  simp [go_sem, ← h1, h2]
  exact hR _ _ _ rfl (by simp [go_sem])
 by_cases h3 : p.t < n
 ·rw [if_pos (.inr h3)] at hR
  simp [go_sem, ← h1, h2, h3]
  exact hR _ _ _ rfl (by simp [go_sem])
 rw [if_neg (by omega)] at hR
 obtain ⟨N, rfl⟩ : ∃ N : Nat, n = N := ⟨n.toNat, by omega⟩
 rw [Int.toNat_natCast] at hR
 have g1 : (N : Int) ≤ 1099511627776 := by omega
 have hNT : N ≤ TB.length := by omega
 have hTl : (TB.take N).length = N := by simp; omega
 simp [go_sem, ← h1, h2, h3, g1]
 refine ct.callF (by simp [go_sem]) ?_
 rintro _ rfl
 simp [go_sem, hNT]
 rw [← lns_take]
 generalize TB.take N = T9 at *
 refine IWp.loopT (α := Nat) (fun k => (⟨false, 59, 14, [21, 25, 31, 46, 47, 48, 49], glT, [(11, .sl 1 k 0 k none), (46, .fz 6 (lns T9)), (47, .int .i64 N), (48, .int .i64 (k : Int))], []⟩, [.dead, .rows 1 (ints ((T9.take k).map (·.team)))]))
  (fun k => k ≤ N) (fun k => N - k) 0 (by omega) (by simp [go_sem, hTl]) ?_
 intro k hk
 by_cases hkn : k < N
 ·have w1 : IntKind.i64.wrap ((k : Int) + 1) = k + 1 := wrap64 (by omega) (by omega)
  have hkl : k < T9.length := by omega
  have hsn : ints ((T9.take (k + 1)).map (·.team)) = ints ((T9.take k).map (·.team)) ++ [[.int .i64 T9[k].team]] := by
   rw [List.take_succ_eq_append_getElem hkl, List.map_append, List.map_cons, List.map_nil, ints_snoc]
  obtain ⟨x, hx⟩ : ∃ x, T9[k] = x := ⟨_, rfl⟩
  rw [hx] at hsn
  obtain ⟨x1, x2, x3, x4, x5, x6⟩ := x
  rw [List.map_take, List.map_take] at hsn
  simp [go_sem, hkn, hkl, hx, w1, hTl]
  exact ⟨⟨by omega, by omega⟩, k + 1, ⟨⟨rfl, by omega⟩, hsn⟩, by omega, by omega⟩
 ·obtain rfl : k = N := by omega
  rw [show T9.take k = T9 from List.take_of_length_le (by omega)]
  simp [go_sem]
  exact hR _ _ _ rfl (by simp [go_sem, hTl])
end Go.Idl
