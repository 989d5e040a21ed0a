import Derived.Test.YtamffdgopknkfaaGreatDoorC39zPartL
set_option linter.all false
set_option maxHeartbeats 16000000
set_option maxRecDepth 40000
namespace Go.Idl
open Go.Proofs
def putL (P : List Ln) (x : Ln) (R : List Ln) (j : Nat) : List Ln := P.take j ++ x :: (P.drop j ++ R)
theorem putL_length {P R : List Ln} {x : Ln} {j : Nat} : (putL P x R j).length = P.length + 1 + R.length := by
 simp [putL]; omega
theorem putL_at {P R : List Ln} {x : Ln} {j : Nat} (h : j ≤ P.length) : (putL P x R j).getD j Ln0 = x := by
 have hl : (P.take j).length = j := by simp; omega
 unfold putL
 rw [List.getD_eq_getElem?_getD, List.getElem?_append_right (by omega), hl]; simp
theorem set_two {T R : List Ln} {p x : Ln} : ((T ++ p :: x :: R).set (T.length + 1) p).set T.length x = T ++ x :: p :: R := by
 rw [List.set_append_right _ _ (by omega), show T.length + 1 - T.length = 1 by omega, List.set_append_right _ _ (Nat.le_refl _), Nat.sub_self]
 rfl
theorem putL_split {P R : List Ln} {x : Ln} {j : Nat} (h : j < P.length) : putL P x R (j + 1) = P.take j ++ P.getD j Ln0 :: x :: (P.drop (j + 1) ++ R) ∧ putL P x R j = P.take j ++ x :: P.getD j Ln0 :: (P.drop (j + 1) ++ R) := by
 have hp : P.getD j Ln0 = P[j] := by simp [h]
 unfold putL
 rw [hp]
 exact ⟨by rw [List.take_succ_eq_append_getElem h, List.append_assoc]; rfl, by rw [List.drop_eq_getElem_cons h]; rfl⟩
theorem putL_pre {P R : List Ln} {x : Ln} {j : Nat} (h : j < P.length) : (putL P x R (j + 1)).getD j Ln0 = P.getD j Ln0 := by
 have hl : (P.take j).length = j := by simp; omega
 rw [(putL_split h).1, List.getD_eq_getElem?_getD, List.getElem?_append_right (by omega), hl]; simp
theorem putL_swap {P R : List Ln} {x : Ln} {j : Nat} (h : j < P.length) : ((putL P x R (j + 1)).set (j + 1) (P.getD j Ln0)).set j x = putL P x R j := by
 have hl : (P.take j).length = j := by simp; omega
 rw [(putL_split h).1, (putL_split h).2]
 have := set_two (T := P.take j) (R := P.drop (j + 1) ++ R) (p := P.getD j Ln0) (x := x)
 rwa [hl] at this
theorem putL_end {P R : List Ln} {x : Ln} : putL P x R P.length = P ++ x :: R := by simp [putL]
def srtI (L : List Ln) (i : Nat) : List Ln := srtLn (L.take i) ++ L.drop i
theorem srtI_one {L : List Ln} (h : 0 < L.length) : srtI L 1 = L := by
 cases L with
 | nil => simp at h
 | cons x l => simp [srtI, srtLn, insLn]
theorem srtI_all {L : List Ln} : srtI L L.length = srtLn L := by simp [srtI]
theorem srtI_put {L : List Ln} {i : Nat} (h : i < L.length) : srtI L i = putL (srtLn (L.take i)) (L.getD i Ln0) (L.drop (i + 1)) i := by
 have hl : (srtLn (L.take i)).length = i := by simp; omega
 have := putL_end (P := srtLn (L.take i)) (R := L.drop (i + 1)) (x := L.getD i Ln0)
 rw [hl] at this
 rw [this, srtI, List.drop_eq_getElem_cons h]
 simp [h]
theorem nodup_take {L : List Ln} (hn : (L.map (·.team)).Nodup) (i : Nat) : ((L.take i).map (·.team)).Nodup := by
 rw [List.map_take]; exact hn.sublist (List.take_sublist _ _)
theorem srtI_stop {L : List Ln} (hn : (L.map (·.team)).Nodup) {i j : Nat} (h : i < L.length) (hj : j ≤ i) (h1 : ∀ y ∈ (srtLn (L.take i)).drop j, lnLt (L.getD i Ln0) y)
  (h2 : j = 0 ∨ ¬ lnLt (L.getD i Ln0) ((srtLn (L.take i)).getD (j - 1) Ln0)) : putL (srtLn (L.take i)) (L.getD i Ln0) (L.drop (i + 1)) j = srtI L (i + 1) := by
 have hl : (srtLn (L.take i)).length = i := by simp; omega
 have hs := srtLn_sorted (nodup_take hn i)
 have hp := srtLn_perm (L.take i)
 have hx : ∀ y ∈ srtLn (L.take i), (L.getD i Ln0).team ≠ y.team := fun y hy e => by
  have hy2 := hp.mem_iff.1 hy
  obtain ⟨q, hq, rfl⟩ := List.mem_iff_getElem.1 hy2
  simp only [List.length_take] at hq
  rw [List.getElem_take] at e
  have e1 : (L.map (·.team))[q]'(by simp; omega) = (L.map (·.team))[i]'(by simpa using h) := by
   simp only [List.getElem_map]; rw [← e]; simp [h]
  have := nodup_eq hn (by simp; omega) (by simpa using h) e1
  omega
 generalize hX : L.getD i Ln0 = x at *
 have hX' : L[i] = x := by rw [← hX]; simp [h]
 generalize hP : srtLn (L.take i) = P at *
 have hsplit : P.take j ++ P.drop j = P := List.take_append_drop j P
 have hlow : ∀ y ∈ P.take j, lnLt y x := fun y hy => by
  rcases h2 with rfl | h2
  ·simp at hy
  ·have hj0 : j - 1 < P.length ∨ j = 0 := by omega
   rcases hj0 with hj1 | rfl
   ·have hg : P.getD (j - 1) Ln0 = P[j - 1] := by simp [hj1]
    rw [hg] at h2
    have h3 := lnLt_total (hx _ (List.getElem_mem hj1)) h2
    obtain ⟨q, hq, rfl⟩ := List.mem_iff_getElem.1 hy
    rw [List.getElem_take]
    simp only [List.length_take] at hq
    by_cases e : q = j - 1
    ·subst e; exact h3
    ·exact lnLt_trans (List.pairwise_iff_getElem.1 hs q (j - 1) (by omega) hj1 (by omega)) h3
   ·simp at hy
 have hperm : (P.take j ++ x :: P.drop j).Perm (L.take (i + 1)) := by
  rw [List.take_succ_eq_append_getElem h, hX']
  refine List.perm_middle.trans ?_
  rw [hsplit]
  exact ((hp.cons x)).trans (List.perm_append_comm (l₁ := [x]))
 have hsort : (P.take j ++ x :: P.drop j).Pairwise lnLt := by
  rw [List.pairwise_append, List.pairwise_cons]
  refine ⟨hs.sublist (List.take_sublist _ _), ⟨h1, hs.sublist (List.drop_sublist _ _)⟩, fun a ha b hb => ?_⟩
  rcases List.mem_cons.1 hb with rfl | hb
  ·exact hlow a ha
  ·exact lnLt_trans (hlow a ha) (h1 b hb)
 have := srtLn_unique hperm hsort (nodup_take hn (i + 1))
 unfold putL srtI
 rw [← this]; simp
def cmpLV : IV := .func (.func 59) [] []
theorem insLines_calls (L : List Ln) (h0 : 0 < L.length) (hl : L.length ≤ 16) (hn : (L.map (·.team)).Nodup) :
  ICalls Tryz.prog glT 98 [.sl 0 L.length 0 L.length none, .int .i64 0, .int .i64 L.length, cmpLV] [.rows 6 (lns L)] fun _ σ => σ = [.rows 6 (lns (srtLn L))] := by
 refine ICalls.forget (ICalls.of_bodyE false 10 [14, 34] Tryz.func98 rfl Tryz.call98 rfl fun R hR => ?_)
 obtain ⟨n, hLn⟩ : ∃ n, L.length = n := ⟨_, rfl⟩
 have hall := srtI_all (L := L)
 rw [hLn] at h0 hl hall ⊢
 unfold cmpLV at *
 have v0 : IntKind.i64.wrap 1 = 1 := by decide
 simp [go_sem, v0]
 refine IWp.loopT (α := Nat) (fun i => (⟨false, 53, 10, [14, 34], glT, [(0, .sl 0 n 0 n none), (1, .int .i64 0), (2, .int .i64 (n : Int)), (3, cmpLV), (8, .int .i64 (i : Int))], []⟩, [.rows 6 (lns (srtI L i))]))
  (fun i => 1 ≤ i ∧ i ≤ n) (fun i => n - i) 1 ⟨by omega, by omega⟩ (by simp [go_sem, cmpLV, srtI_one (show 0 < L.length by omega)]) ?_
 rintro i ⟨hi1, hi⟩
 by_cases h : i < n
 ·have hput := srtI_put (L := L) (i := i) (by omega)
  have hstop := fun j hj => srtI_stop hn (i := i) (j := j) (by omega) hj
  have hpl : (srtLn (L.take i)).length = i := by simp; omega
  have hR0 : (L.drop (i + 1)).length = n - (i + 1) := by simp; omega
  have v1 : IntKind.i64.wrap ((i : Int) + 1) = ((i + 1 : Nat) : Int) := by rw [wrap64 (by omega) (by omega)]; omega
  rw [hput]
  generalize L.getD i Ln0 = x at *
  generalize srtLn (L.take i) = P at *
  generalize L.drop (i + 1) = T at *
  have hlen : ∀ j, (putL P x T j).length = n := fun j => by rw [putL_length]; omega
  unfold cmpLV
  simp [go_sem, h]
  refine IWp.loopI (α := Nat) (fun j => (⟨false, 53, 10, [14, 34], glT, [(0, .sl 0 n 0 n none), (1, .int .i64 0), (2, .int .i64 (n : Int)), (3, cmpLV), (8, .int .i64 (i : Int)), (9, .int .i64 (j : Int))], []⟩, [.rows 6 (lns (putL P x T j))]))
   (fun j => j ≤ i ∧ ∀ y ∈ P.drop j, lnLt x y) (fun j => j) i ⟨by omega, fun y hy => by rw [List.drop_of_length_le (by omega)] at hy; cases hy⟩ (by simp [go_sem, cmpLV]) ?_
  rintro j ⟨hj, hbig⟩
  have hB := hlen j
  cases j with
  | zero =>
   have v2 : (IntKind.i64.wrap (-1)).toNat = 0 := by decide
   have e1 := lns_at (l := putL P x T 0) (i := 0) (by omega)
   have hfin := hstop 0 (by omega) hbig (.inl rfl)
   unfold cmpLV
   refine IWp.seq ?_
   refine IWp.seqI ?_
   refine Drawn.intro (fun k => .tup []) ?_
   simp [go_sem, hB, h0, e1, v2]
   refine ⟨by decide +kernel, ?_⟩
   refine IWp.now ?_
   simp [go_sem]
   exact ⟨i + 1, ⟨v1, by rw [hfin]⟩, ⟨by omega, by omega⟩, by omega⟩
  | succ j =>
   have v2 : IntKind.i64.wrap (j : Int) = (j : Int) := wrap64 (by omega) (by omega)
   have a1 : j + 1 < n := by omega
   have a2 : j < n := by omega
   have e1 := lns_at (l := putL P x T (j + 1)) (i := j + 1) (by omega)
   have e2 := lns_at (l := putL P x T (j + 1)) (i := j) (by omega)
   rw [putL_at (by omega)] at e1
   rw [putL_pre (by omega)] at e2
   have c1 := table1_fun x (P.getD j Ln0)
   have hcl := cmpL_lt x (P.getD j Ln0)
   have hsw := putL_swap (P := P) (R := T) (x := x) (j := j) (by omega)
   have hstop' := hstop (j + 1) hj hbig
   rw [Nat.add_sub_cancel] at hstop'
   have hpj : P.getD j Ln0 = P[j]'(by omega) := by simp [show j < P.length by omega]
   have hnext : lnLt x (P.getD j Ln0) → ∀ y ∈ P.drop j, lnLt x y := fun hx y hy => by
    rw [List.drop_eq_getElem_cons (by omega)] at hy
    rcases List.mem_cons.1 hy with rfl | hy
    ·rwa [← hpj]
    ·exact hbig y hy
   clear hpj
   have q1 : ∀ hh, (lns (putL P x T (j + 1)))[j + 1]'hh = x.c := fun hh => by
    rw [lns_getElem]; have := putL_at (P := P) (R := T) (x := x) (j := j + 1) (by omega)
    rw [List.getD_eq_getElem?_getD, List.getElem?_eq_getElem (by omega), Option.getD_some] at this
    rw [this]; rfl
   have q2 : ∀ hh, (lns (putL P x T (j + 1)))[j]'hh = (P.getD j Ln0).c := fun hh => by
    rw [lns_getElem]; have := putL_pre (P := P) (R := T) (x := x) (j := j) (by omega)
    rw [List.getD_eq_getElem?_getD, List.getElem?_eq_getElem (by omega), Option.getD_some] at this
    rw [this]; rfl
   have hsw2 : ((lns (putL P x T (j + 1))).set (j + 1) (P.getD j Ln0).c).set j x.c = lns (putL P x T j) := by rw [← hsw, lns_set, lns_set]
   generalize P.getD j Ln0 = y at *
   generalize hC : cmpL x y = C at *
   generalize putL P x T (j + 1) = B at *
   obtain ⟨x1, x2, x3, x4, x5, x6⟩ := x
   obtain ⟨y1, y2, y3, y4, y5, y6⟩ := y
   simp only [Ln.c, Ln.v] at *
   unfold cmpLV
   refine IWp.seq ?_
   refine IWp.seqI ?_
   refine Drawn.intro (fun k => if k = 14 then .int .i64 C else .tup []) ?_
   simp [go_sem, hB, v2, a1, a2, e1, e2, q1, q2, c1]
   refine ⟨by omega, by decide +kernel, ?_⟩
   by_cases hx : C < 0
   ·have hI2 := hnext (hcl.1 hx)
    refine IWp.now ?_
    simp [go_sem, hx]
    refine IWp.now ?_
    simp [go_sem, hB, v2, a1, a2, e1, e2, q1, q2]
    refine ⟨by omega, by decide +kernel, j, ⟨rfl, ?_⟩, ⟨by omega, hI2⟩, by omega⟩
    exact hsw2.symm
   ·have hfin := hstop' (.inr fun hc => hx (hcl.2 hc))
    refine IWp.now ?_
    simp [go_sem, hx]
    exact ⟨i + 1, ⟨v1, by rw [hfin]⟩, ⟨by omega, by omega⟩, by omega⟩
 ·obtain rfl : i = n := by omega
  unfold cmpLV
  simp [go_sem]
  rw [hall]
  exact hR _ _ ⟨_, by simp [go_sem], rfl⟩
theorem pdqLines_calls (L : List Ln) (lim : Int) (h0 : 0 < L.length) (hl : L.length ≤ 12) (hn : (L.map (·.team)).Nodup) :
  ICalls Tryz.prog glT 79 [.sl 0 L.length 0 L.length none, .int .i64 0, .int .i64 L.length, .int .i64 lim, cmpLV] [.rows 6 (lns L)] fun _ σ => σ = [.rows 6 (lns (srtLn L))] := by
 refine ICalls.forget (ICalls.of_bodyE false 21 [25, 32, 39, 56, 75, 80, 97, 125] Tryz.func79 rfl Tryz.call79 rfl fun R hR => ?_)
 have ci := insLines_calls L h0 (by omega) hn
 generalize srtLn L = L' at *
 obtain ⟨n, hll⟩ : ∃ n, L.length = n := ⟨_, rfl⟩
 rw [hll] at h0 hl ci ⊢
 unfold cmpLV at *
 simp [go_sem]
 refine IWp.loopT (α := Unit) (fun p => (⟨false, 148, 21, [25, 32, 39, 56, 75, 80, 97, 125], glT, [(0, .sl 0 n 0 n none), (1, .int .i64 0), (2, .int .i64 (n : Int)), (3, .int .i64 lim), (4, .func (.func 59) [] []), (10, .bool true), (11, .bool true)], []⟩, [.rows 6 (lns L)]))
  (fun p => True) (fun p => 0) () trivial (by simp [go_sem]) ?_
 rintro _ _
 have z1 : IntKind.i64.wrap (n : Int) = (n : Int) := wrap64 (by omega) (by omega)
 have g1 : (n : Int) ≤ 12 := by omega
 simp [go_sem, z1, g1, hll]
 refine ci.at [0] (by simp [go_sem]) ?_
 rintro _ _ rfl
 simp [go_sem]
 exact hR _ _ ⟨_, by simp [go_sem], rfl⟩
theorem sortLines_calls (L : List Ln) (h0 : 0 < L.length) (hl : L.length ≤ 12) (hn : (L.map (·.team)).Nodup) :
  ICalls Tryz.prog glT 58 [.sl 0 L.length 0 L.length none, cmpLV] [.rows 6 (lns L)] fun _ σ => σ = [.rows 6 (lns (srtLn L))] := by
 refine ICalls.forget (ICalls.of_bodyE false 5 [] Tryz.func58 rfl Tryz.call58 rfl fun R hR => ?_)
 have cl := len_fun L.length (by omega)
 have ci := pdqLines_calls L (Lib.bitLen L.length) h0 hl hn
 generalize srtLn L = L' at *
 obtain ⟨n, hll⟩ : ∃ n, L.length = n := ⟨_, rfl⟩
 rw [hll] at h0 hl cl ci ⊢
 unfold cmpLV at *
 have z1 : IntKind.u64.wrap (n : Int) = (n : Int) := by simp [IntKind.wrap, IntKind.bits, IntKind.signed]; omega
 simp [go_sem, z1, hll]
 refine cl.callF (by simp [go_sem]) ?_
 rintro _ rfl
 simp [go_sem]
 refine ci.at [0] (by simp [go_sem]) ?_
 rintro _ _ rfl
 simp [go_sem]
 exact hR _ _ ⟨_, by simp [go_sem], rfl⟩
end Go.Idl
