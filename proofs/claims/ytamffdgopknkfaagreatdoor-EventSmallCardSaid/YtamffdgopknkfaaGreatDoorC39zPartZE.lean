import Derived.Test.YtamffdgopknkfaaGreatDoorC39zPartN
set_option linter.all false
set_option maxHeartbeats 8000000
set_option maxRecDepth 40000
namespace Go.Idl
open Go.Proofs
theorem refScale_fun (S : List Int) (hl : S.length ≤ 2 ^ 32) : FN 49 [.fz 1 (ints S)] (fun v => v = .bool (scB S)) := by
 refine IFun.of_bodyZ false 4 [11, 15, 45] Tryz.func49 rfl Tryz.call49 rfl fun R hR => ?_
 have fin : ∀ b : Bool, scB S = b → ∀ σ, frzOK false 4 σ (.bool b) ∧ nz 4 (frzV 4 σ (.bool b)) (.bool b) → R (.bool b) σ := fun b hb σ h => hR _ _ _ (by rw [hb]) h
 by_cases h1 : S.length < 1
 ·have : S = [] := List.eq_nil_of_length_eq_zero (by omega)
  subst this
  simp [go_sem]
  exact fin false (by decide) _ (by simp [go_sem])
 have h1'' : ¬ S = [] := fun e => by subst e; simp at h1
 have h0 : ¬ (S.length : Int) = 0 := by omega
 have h00 : ((S.length : Int) == 0) = false := by rw [beq_eq_false_iff_ne]; exact h0
 have h000 : ¬ S.length = 0 := by omega
 by_cases h2 : 50 < S.length
 ·have h2' : (50 : Int) < S.length := by omega
  simp [go_sem, h0, h00, h000, h2', h1'']
  exact fin false (by unfold scB; simp; omega) _ (by simp [go_sem])
 have h2' : ¬ (50 : Int) < S.length := by omega
 have hsc : scB S = scGo 0 S := by
  unfold scB
  rw [decide_eq_true (by omega), decide_eq_true (by omega)]; rfl
 simp [go_sem, h0, h00, h000, h2', h1'']
 refine IWp.loopT (α := Nat) (fun i => (⟨false, 46, 4, [11, 15, 45], glT, [(0, .fz 1 (ints S)), (3, .int .i64 (i : Int))], []⟩, []))
  (fun i => i ≤ S.length ∧ scGo 0 (S.take i) = true) (fun i => S.length - i) 0 ⟨by omega, rfl⟩ (by simp [go_sem]) ?_
 rintro i ⟨hi, hg⟩
 by_cases h : i < S.length
 ·have w1 : IntKind.i64.wrap ((i : Int) + 1) = i + 1 := wrap64 (by omega) (by omega)
  have hs := scGo_succ h
  rw [hg] at hs
  unfold befS at hs
  rcases i with _ | i
  ·simp only [if_pos] at hs
   have z0 : IntKind.i64.wrap (0 : Int) = 0 := by decide
   have z1 : IntKind.i64.wrap (0 - 1 : Int) = -1 := by decide
   have z2 : IntKind.i64.wrap (-1 : Int) = -1 := by decide
   have z3 : (ints S)[0]? = some [.int .i64 S[0]] := by rw [List.getElem?_eq_getElem (by simpa using h)]; simp
   have w9 : IntKind.i64.wrap (1 : Int) = 1 := by decide
   simp [go_sem, h, z1, z2, w9]
   refine ⟨by decide +kernel, ?_⟩
   by_cases c1 : S[0] < (1 : Int) ∨ (1000000 : Int) < S[0]
   ·have : scGo 0 (S.take (0 + 1)) = false := by rw [hs]; simp; omega
    rw [if_pos c1]
    exact fin false (by rw [hsc]; exact scGo_false this) _ (by simp [go_sem])
   ·rw [if_neg c1]
    refine ⟨1, by omega, ⟨by omega, ?_⟩, by omega⟩
    rw [hs]; simp; omega
  ·have h' : i < S.length := by omega
   rw [if_neg (by omega), show i + 1 - 1 = i by omega, show S.getD i 0 = S[i] by simp [h']] at hs
   have wi2 : IntKind.i64.wrap ((i : Int) + 1 - 1) = i := by rw [wrap64 (by omega) (by omega)]; omega
   have wi4 : IntKind.i64.wrap (i : Int) = i := wrap64 (by omega) (by omega)
   have wi3 : IntKind.i64.wrap ((i : Int) + 1 + 1) = i + 2 := by rw [wrap64 (by omega) (by omega)]; omega
   have gp : (0 : Int) < (i : Int) + 1 := by omega
   have hpos : 1 ≤ S[i] := by
    have : scGo 0 (S.take (i + 1)) = true := hg
    rw [scGo_succ h'] at this
    simp only [Bool.and_eq_true, decide_eq_true_eq] at this
    have hb : 0 ≤ befS S i := by
     unfold befS
     split
     ·omega
     ·rename_i hne
      have h8 : i - 1 < S.length := by omega
      have h9 : scGo 0 (S.take (i - 1 + 1)) = true := by rw [show i - 1 + 1 = i by omega]; exact this.1.1
      have key : ∀ (b : Int) (L : List Int), 0 ≤ b → scGo b L = true → ∀ x ∈ L, 1 ≤ x := by
       intro b L
       induction L generalizing b with
       | nil => intro _ _ x hx; cases hx
       | cons y L ih =>
        intro hb hs x hx
        simp only [scGo, Bool.and_eq_true, decide_eq_true_eq] at hs
        rcases List.mem_cons.1 hx with rfl | hx
        ·omega
        ·exact ih y (by omega) hs.2 x hx
      have := key 0 _ (by decide) h9 S[i - 1] (by rw [List.take_succ_eq_append_getElem h8]; exact List.mem_append_right _ (List.mem_singleton.2 rfl))
      simp [h8]; omega
    omega
   have hI : (i : Int) + 1 < S.length := by omega
   have hI0 : (0 : Int) ≤ (i : Int) + 1 := by omega
   have iT : ((i : Int) + 1).toNat = i + 1 := by omega
   simp [go_sem, h, h', hI, hI0, iT, gp, wi2, wi3, wi4]
   refine ⟨by decide +kernel, ?_⟩
   by_cases c1 : (S[i + 1] < (1 : Int) ∨ (1000000 : Int) < S[i + 1]) ∨ S[i + 1] ≤ S[i]
   ·have : scGo 0 (S.take (i + 1 + 1)) = false := by rw [hs]; simp; omega
    rw [if_pos c1]
    exact fin false (by rw [hsc]; exact scGo_false this) _ (by simp [go_sem])
   ·rw [if_neg c1]
    refine ⟨i + 2, by omega, ⟨by omega, ?_⟩, by omega⟩
    rw [show i + 2 = i + 1 + 1 from rfl, hs]; simp; omega
 ·obtain rfl : i = S.length := by omega
  rw [List.take_length] at hg
  simp [go_sem, h]
  exact fin true (by rw [hsc]; exact hg) _ (by simp [go_sem])
theorem scGo_pos : ∀ {b : Int} {L : List Int}, 0 ≤ b → scGo b L = true → ∀ x ∈ L, 1 ≤ x ∧ x ≤ 1000000
 | b, y :: L, hb, hs, x, hx => by
  simp only [scGo, Bool.and_eq_true, decide_eq_true_eq] at hs
  rcases List.mem_cons.1 hx with rfl | hx
  ·omega
  ·exact scGo_pos (b := y) (by omega) hs.2 x hx
theorem refPts_fun (S : List Int) (m : Int) (hl : S.length ≤ 2 ^ 32) : FN 46 [.fz 1 (ints S), .int .i64 m] (fun v => v = ptsV S m) := by
 refine IFun.of_bodyZ false 10 [20, 28, 36, 47] Tryz.func46 rfl Tryz.call46 rfl fun R hR => ?_
 have cr := refScale_fun S hl
 have w0 : IntKind.i64.wrap (-1000000) = -1000000 := by decide
 unfold ptsV at hR
 simp [go_sem]
 refine cr.callF (by simp [go_sem]) ?_
 rintro _ rfl
 cases hs : scB S with
 | false =>
  rw [if_neg (by simp [hs])] at hR
  simp [go_sem]
  exact hR _ _ _ rfl (by simp [go_sem])
 | true =>
 obtain ⟨hl1, hl2⟩ := scB_len hs
 by_cases h1 : m < -1000000
 ·rw [if_neg (by rw [mrB_iff]; omega)] at hR
  simp [go_sem, h1]
  exact hR _ _ _ rfl (by simp [go_sem])
 by_cases h2 : 1000000 < m
 ·rw [if_neg (by rw [mrB_iff]; omega)] at hR
  simp [go_sem, h1, h2]
  exact hR _ _ _ rfl (by simp [go_sem])
 rw [if_pos ⟨hs, mrB_iff.2 (by omega)⟩] at hR
 have hpos := scGo_pos (b := 0) (L := S) (by decide) (by unfold scB at hs; simp only [Bool.and_eq_true] at hs; exact hs.2)
 simp [go_sem, h1, h2]
 refine IWp.loopT (α := Nat) (fun i => (⟨false, 54, 10, [20, 28, 36, 47], glT, [(0, .fz 1 (ints S)), (1, .int .i64 m), (7, .int .i64 ((S.length : Int) + moreI (S.take i) m)), (8, .int .i64 ((S.length : Int) - moreI (S.take i) m)), (9, .int .i64 (i : Int))], []⟩, []))
  (fun i => i ≤ S.length) (fun i => S.length - i) 0 (by omega) (by simp [go_sem, moreI, cntS]) ?_
 intro i hi
 by_cases hlt : i < S.length
 ·have w1 : IntKind.i64.wrap ((i : Int) + 1) = i + 1 := wrap64 (by omega) (by omega)
  have hx := hpos S[i] (List.getElem_mem hlt)
  have hc : moreI (S.take (i + 1)) m = moreI (S.take i) m + if S[i] ≤ m then 1 else if S[i] ≤ -m then -1 else 0 := by
   have : cntS (S.take (i + 1)) m = cntS (S.take i) m + if S[i] ≤ max m (-m) then 1 else 0 := by
    unfold cntS
    rw [List.take_succ_eq_append_getElem hlt, List.countP_append]
    simp [List.countP_cons]
   unfold moreI
   rw [this]
   split <;> split <;> split <;> omega
  have hb : -(i : Int) ≤ moreI (S.take i) m ∧ moreI (S.take i) m ≤ i := by
   have := cntS_le (S.take i) m
   simp only [List.length_take] at this
   unfold moreI; split <;> omega
  have wm : IntKind.i64.wrap (0 - m) = -m := by rw [wrap64 (by omega) (by omega)]; omega
  have wm' : IntKind.i64.wrap (-m) = -m := wrap64 (by omega) (by omega)
  generalize moreI (S.take i) m = C at *
  have u1 : IntKind.i64.wrap ((S.length : Int) + C + 1) = (S.length : Int) + C + 1 := wrap64 (by omega) (by omega)
  have u2 : IntKind.i64.wrap ((S.length : Int) - C - 1) = (S.length : Int) - C - 1 := wrap64 (by omega) (by omega)
  have u3 : IntKind.i64.wrap ((S.length : Int) + C - 1) = (S.length : Int) + C - 1 := wrap64 (by omega) (by omega)
  have u4 : IntKind.i64.wrap ((S.length : Int) - C + 1) = (S.length : Int) - C + 1 := wrap64 (by omega) (by omega)
  by_cases c1 : S[i] ≤ m
  ·rw [if_pos c1] at hc
   have c2 : ¬ S[i] ≤ -m := by omega
   simp [go_sem, hlt, c1, c2, w1, wm, wm', u1, u2]
   exact ⟨i + 1, ⟨by omega, by omega, by omega⟩, by omega, by omega⟩
  ·rw [if_neg c1] at hc
   by_cases c2 : S[i] ≤ -m
   ·rw [if_pos c2] at hc
    simp [go_sem, hlt, c1, c2, w1, wm, wm', u3, u4]
    exact ⟨i + 1, ⟨by omega, by omega, by omega⟩, by omega, by omega⟩
   ·rw [if_neg c2] at hc
    simp [go_sem, hlt, c1, c2, w1, wm, wm']
    exact ⟨i + 1, by omega, by omega, by omega⟩
 ·obtain rfl : i = S.length := by omega
  rw [List.take_length]
  unfold ptA ptB at hR
  simp [go_sem]
  exact hR _ _ _ rfl (by simp [go_sem])
theorem find39_fun (l : List Em) (n : Int) (x : Int × Int) (hl : l.length ≤ 2 ^ 32) : FN 24 [.fz 4 (ems l), .int .i64 n, .agg [.int .i64 x.1, .int .i64 x.2]] (fun v => v = .tup [.int .i64 ((fnd l n x).getD 0), .bool (fnd l n x).isSome]) := by
 refine IFun.of_bodyZ false 9 [12, 41] Tryz.func24 rfl Tryz.call24 rfl fun R hR => ?_
 obtain ⟨a, b⟩ := x
 have fin : ∀ (r : IV) (σ : Heap) (o : Option Int), fnd l n (a, b) = o → frzOK false 4 σ r ∧ nz 4 (frzV 4 σ r) (.tup [.int .i64 (o.getD 0), .bool o.isSome]) → R r σ := fun r σ o e h => hR r σ _ rfl (by rw [e]; exact h)
 clear hR
 simp [go_sem]
 refine IWp.loopT (α := Nat) (fun i => (⟨false, 47, 9, [12, 41], glT, [(0, .fz 4 (ems l)), (1, .int .i64 n), (5, .ptr 0 1 0 0), (8, .int .i64 (i : Int))], []⟩, [.rows 2 [[.int .i64 a, .int .i64 b]]]))
  (fun i => i ≤ l.length ∧ fnd l n (a, b) = fnd (l.drop i) n (a, b)) (fun i => l.length - i) 0 ⟨by omega, by simp⟩ (by simp [go_sem]) ?_
 rintro i ⟨hi, hf⟩
 by_cases h : i < l.length
 ·have w1 : IntKind.i64.wrap ((i : Int) + 1) = i + 1 := wrap64 (by omega) (by omega)
  rw [List.drop_eq_getElem_cons h] at hf
  obtain ⟨m, hm⟩ : ∃ m, l[i] = m := ⟨_, rfl⟩
  rw [hm] at hf
  obtain ⟨m1, m2, m3, m4⟩ := m
  unfold fnd at hf
  rw [List.find?_cons] at hf
  by_cases c1 : m1 = n
  ·by_cases c2 : m2 = a
   ·by_cases c3 : m3 = b
    ·rw [show isM n (a, b) ⟨m1, m2, m3, m4⟩ = true by simp [isM, c1, c2, c3]] at hf
     simp [go_sem, h, hm, c1, c2, c3]
     exact ⟨by decide +kernel, fin _ _ (some m4) hf (by simp [go_sem])⟩
    ·rw [show isM n (a, b) ⟨m1, m2, m3, m4⟩ = false by simp [isM, c3]] at hf
     have c3' : (m3 == b) = false := by rw [beq_eq_false_iff_ne]; exact c3
     simp [go_sem, h, hm, c1, c2, c3, c3', w1]
     exact ⟨by decide +kernel, i + 1, by omega, ⟨by omega, hf⟩, by omega⟩
   ·rw [show isM n (a, b) ⟨m1, m2, m3, m4⟩ = false by simp [isM, c2]] at hf
    have c2' : (m2 == a) = false := by rw [beq_eq_false_iff_ne]; exact c2
    simp [go_sem, h, hm, c1, c2, c2', w1]
    exact ⟨by decide +kernel, i + 1, by omega, ⟨by omega, hf⟩, by omega⟩
  ·rw [show isM n (a, b) ⟨m1, m2, m3, m4⟩ = false by simp [isM, c1]] at hf
   have c1' : (m1 == n) = false := by rw [beq_eq_false_iff_ne]; exact c1
   simp [go_sem, h, hm, c1, c1', w1]
   exact ⟨by decide +kernel, i + 1, by omega, ⟨by omega, hf⟩, by omega⟩
 ·obtain rfl : i = l.length := by omega
  rw [List.drop_length] at hf
  simp [go_sem]
  exact fin _ _ none hf (by simp [go_sem])
theorem before39_fun (x y : Ln) : FN 44 [x.v, y.v] (fun v => v = .bool (decide (lnLt x y))) := by
 refine IFun.of_bodyZ false 5 [9, 19] Tryz.func44 rfl Tryz.call44 rfl fun R hR => ?_
 obtain ⟨x1, x2, x3, x4, x5, x6⟩ := x
 obtain ⟨y1, y2, y3, y4, y5, y6⟩ := y
 unfold lnLt at hR
 simp only [Ln.v] at *
 by_cases c1 : x4 = y4
 ·by_cases c2 : x5 = y5
  ·have e : decide (y4 < x4 ∨ y4 = x4 ∧ (y5 < x5 ∨ y5 = x5 ∧ x1 < y1)) = decide (x1 < y1) := decide_eq_decide.2 (by omega)
   rw [e] at hR
   simp [go_sem, c1, c2]
   exact hR _ _ _ rfl (by simp [go_sem])
  ·have e : decide (y4 < x4 ∨ y4 = x4 ∧ (y5 < x5 ∨ y5 = x5 ∧ x1 < y1)) = decide (y5 < x5) := decide_eq_decide.2 (by omega)
   rw [e] at hR
   have c2' : (x5 != y5) = true := by rw [bne_iff_ne]; exact c2
   simp [go_sem, c1, c2, c2']
   exact hR _ _ _ rfl (by simp [go_sem])
 ·have e : decide (y4 < x4 ∨ y4 = x4 ∧ (y5 < x5 ∨ y5 = x5 ∧ x1 < y1)) = decide (y4 < x4) := decide_eq_decide.2 (by omega)
  rw [e] at hR
  have c1' : (x4 != y4) = true := by rw [bne_iff_ne]; exact c1
  simp [go_sem, c1, c1']
  exact hR _ _ _ rfl (by simp [go_sem])
theorem refRight39_fun (p : Pl) (hl : p.s.length ≤ 2 ^ 32) : FN 32 [p.v] (fun v => v = .bool (plB p)) := by
 refine IFun.of_bodyZ false 3 [] Tryz.func32 rfl Tryz.call32 rfl fun R hR => ?_
 have cr := refScale_fun p.s hl
 have w2 : IntKind.i64.wrap (2 * (p.s.length : Int)) = 2 * (p.s.length : Int) := wrap64 (by omega) (by omega)
 have e : plB p = (decide (2 ≤ p.t) && decide (p.t ≤ 16) && decide (1 ≤ p.r) && decide (p.r ≤ 15) && scB p.s && decide (0 ≤ p.b) && decide (p.b ≤ 2 * p.s.length)) := rfl
 obtain ⟨t, r, b, S⟩ := p
 simp only [Pl.v] at *
 by_cases c1 : 1 < t
 ·by_cases c2 : t < 17
  ·by_cases c3 : 0 < r
   ·by_cases c4 : r < 16
    ·rw [decide_eq_true (show 2 ≤ t by omega), decide_eq_true (show t ≤ 16 by omega), decide_eq_true (show 1 ≤ r by omega), decide_eq_true (show r ≤ 15 by omega), Bool.true_and, Bool.true_and, Bool.true_and, Bool.true_and] at e
     rw [e] at hR
     simp [go_sem, c1, c2, c3, c4]
     refine cr.callF (by simp [go_sem]) ?_
     rintro _ rfl
     cases hs : scB S with
     | false =>
      rw [hs] at hR
      simp [go_sem]
      exact hR _ _ _ rfl (by simp [go_sem])
     | true =>
      rw [hs] at hR
      by_cases c5 : 0 ≤ b
      ·have e5 : decide (0 ≤ b) = true := decide_eq_true c5
       rw [e5] at hR
       simp [go_sem, c5, w2]
       exact hR _ _ _ rfl (by simp [go_sem])
      ·have e5 : decide (0 ≤ b) = false := decide_eq_false c5
       rw [e5] at hR
       simp [go_sem, c5]
       exact hR _ _ _ rfl (by simp [go_sem])
    ·rw [show plB ⟨t, r, b, S⟩ = false by rw [e]; simp; omega] at hR
     simp [go_sem, c1, c2, c3, c4]
     exact hR _ _ _ rfl (by simp [go_sem])
   ·rw [show plB ⟨t, r, b, S⟩ = false by rw [e]; simp; omega] at hR
    simp [go_sem, c1, c2, c3]
    exact hR _ _ _ rfl (by simp [go_sem])
  ·rw [show plB ⟨t, r, b, S⟩ = false by rw [e]; simp; omega] at hR
   simp [go_sem, c1, c2]
   exact hR _ _ _ rfl (by simp [go_sem])
 ·rw [show plB ⟨t, r, b, S⟩ = false by rw [e]; simp; omega] at hR
  simp [go_sem, c1]
  exact hR _ _ _ rfl (by simp [go_sem])
end Go.Idl
namespace Go.Idl
open Go.Proofs
def zp (x : Ln) : Ln := { x with place := 0 }
def cntB (U : List Ln) (x : Ln) : Nat := U.countP fun y => decide (lnLt y x)
def wpl (U : List Ln) (x : Ln) : Ln := { x with place := (cntB U x : Int) + 1 }
theorem cntB_zp (U : List Ln) (x : Ln) : cntB (U.map zp) (zp x) = cntB U x := by
 unfold cntB
 rw [List.countP_map]
 rfl
theorem wpl_zp (U : List Ln) : U.map (wpl U) = (U.map zp).map (wpl (U.map zp)) := by
 rw [List.map_map]
 apply List.map_congr_left
 intro x _
 simp only [Function.comp, wpl, cntB_zp]
 rfl
theorem zp_wpl (U : List Ln) : (U.map (wpl U)).map zp = U.map zp := by
 rw [List.map_map]
 apply List.map_congr_left
 intro x _
 rfl
def wpI (U : List Ln) (i : Nat) : List Ln := (U.take i).map (wpl U) ++ U.drop i
@[simp] theorem wpI_length (U : List Ln) (i : Nat) : (wpI U i).length = U.length := by simp [wpI]; omega
theorem wpI_zp (U : List Ln) (i : Nat) : (wpI U i).map zp = U.map zp := by
 unfold wpI
 rw [List.map_append, List.map_map]
 conv => rhs; rw [← List.take_append_drop i U, List.map_append]
 congr 1
theorem wpI_cnt (U : List Ln) (i : Nat) (x : Ln) : cntB (wpI U i) x = cntB U x := by
 rw [← cntB_zp, wpI_zp, cntB_zp]
theorem wpI_get {U : List Ln} {i : Nat} (h : i < U.length) (hh : i < (wpI U i).length) : (wpI U i)[i] = U[i] := by
 have hl : ((U.take i).map (wpl U)).length = i := by simp; omega
 have e : (wpI U i)[i]? = some U[i] := by
  unfold wpI
  rw [List.getElem?_append_right (by omega), hl, Nat.sub_self, List.getElem?_drop]
  simp [h]
 rw [List.getElem?_eq_getElem hh] at e
 exact Option.some.inj e
theorem wpI_step {U : List Ln} {i : Nat} (h : i < U.length) : (wpI U i).set i (wpl U U[i]) = wpI U (i + 1) := by
 have hl : ((U.take i).map (wpl U)).length = i := by simp; omega
 unfold wpI
 rw [List.set_append_right _ _ (by omega), hl, Nat.sub_self, List.drop_eq_getElem_cons h, List.set_cons_zero, List.take_succ_eq_append_getElem h, List.map_append, List.append_assoc]
 rfl
theorem wpI_all (U : List Ln) : wpI U U.length = U.map (wpl U) := by simp [wpI]
theorem wpI_zero (U : List Ln) : wpI U 0 = U := by simp [wpI]
theorem srt_cnt {L : List Ln} (hn : (L.map (·.team)).Nodup) {k : Nat} (hk : k < (srtLn L).length) : cntB L (srtLn L)[k] = k := by
 have hp := srtLn_perm L
 have hs := srtLn_sorted hn
 have e : cntB L (srtLn L)[k] = cntB (srtLn L) (srtLn L)[k] := (hp.countP_eq _).symm
 rw [e]
 generalize srtLn L = S at *
 have irr : ∀ x : Ln, ¬ lnLt x x := fun x => by unfold lnLt; omega
 have asy : ∀ x y : Ln, lnLt x y → ¬ lnLt y x := fun x y => by unfold lnLt; omega
 have hS : S = S.take k ++ S[k] :: S.drop (k + 1) := by rw [List.getElem_cons_drop, List.take_append_drop]
 have key : ∀ (A : List Ln) (x : Ln) (B : List Ln), (A ++ x :: B).Pairwise lnLt → cntB (A ++ x :: B) x = A.length := by
  intro A x B h
  rw [List.pairwise_append, List.pairwise_cons] at h
  unfold cntB
  rw [List.countP_append, List.countP_cons, List.countP_eq_length.2 fun y hy => decide_eq_true (h.2.2 y hy x (List.mem_cons_self ..)), List.countP_eq_zero.2 fun y hy => by simpa using asy x y (h.2.1.1 y hy)]
  simp [irr]
 have hl : (S.take k).length = k := by simp; omega
 have := key (S.take k) S[k] (S.drop (k + 1)) (by rw [← hS]; exact hs)
 rw [← hS, hl] at this
 exact this
theorem filter_one {α : Type} {p : α → Bool} : ∀ {L : List α} {k : Nat} (hk : k < L.length), (∀ j (hj : j < L.length), p L[j] = decide (j = k)) → L.filter p = [L[k]]
 | x :: L, 0, _, h => by
  have h0 := h 0 (by simp)
  simp only [List.getElem_cons_zero] at h0
  rw [List.filter_cons, h0]
  simp only [decide_true, if_true, List.getElem_cons_zero, List.cons.injEq, true_and]
  rw [List.filter_eq_nil_iff]
  intro y hy hc
  obtain ⟨j, hj, rfl⟩ := List.mem_iff_getElem.1 hy
  have := h (j + 1) (by simpa using hj)
  simp only [List.getElem_cons_succ] at this
  rw [this] at hc
  simp at hc
 | x :: L, k + 1, hk, h => by
  have h0 := h 0 (by simp)
  simp only [List.getElem_cons_zero] at h0
  rw [List.filter_cons, h0]
  simp only [List.getElem_cons_succ]
  rw [if_neg (by simp)]
  refine filter_one (by simpa using hk) fun j hj => ?_
  have := h (j + 1) (by simpa using hj)
  simp only [List.getElem_cons_succ] at this
  rw [this]
  simp
theorem flatMap_one {α β : Type} {f : α → β} : ∀ L : List α, L.flatMap (fun k => [f k]) = L.map f
 | [] => rfl
 | x :: L => by rw [List.flatMap_cons, List.map_cons, flatMap_one L]; rfl
def atP (U : List Ln) (k : Nat) : List Ln := U.filter fun x => decide (x.place = (k : Int) + 1)
theorem ord_plc {T : List Ln} (hn : (T.map (·.team)).Nodup) : (List.range T.length).flatMap (fun k => atP (T.map (wpl T)) k) = plcLn 0 (srtLn T) := by
 have hp := srtLn_perm T
 have hl : (srtLn T).length = T.length := hp.length_eq
 have hS : (srtLn T).map (wpl T) = plcLn 0 (srtLn T) := by
  apply List.ext_getElem (by simp)
  intro k h1 h2
  rw [List.getElem_map, plcLn_get]
  simp only [wpl]
  rw [srt_cnt hn]
  simp
 have hone : ∀ k, k < T.length → atP (T.map (wpl T)) k = [(plcLn 0 (srtLn T)).getD k Ln0] := fun k hk => by
  have hpm : (atP (T.map (wpl T)) k).Perm (atP ((srtLn T).map (wpl T)) k) := ((hp.map (wpl T)).filter _).symm
  have : atP ((srtLn T).map (wpl T)) k = [(plcLn 0 (srtLn T)).getD k Ln0] := by
   rw [hS]
   unfold atP
   have hk' : k < (plcLn 0 (srtLn T)).length := by simp; omega
   rw [filter_one hk' fun j hj => ?_]
   ·rw [List.getD_eq_getElem?_getD, List.getElem?_eq_getElem hk', Option.getD_some]
   ·rw [plcLn_get]
    simp only
    apply decide_eq_decide.2
    omega
  rw [this] at hpm
  exact List.perm_singleton.1 hpm
 have hpl : (plcLn 0 (srtLn T)).length = T.length := by simp [hl]
 generalize plcLn 0 (srtLn T) = V at *
 have e : (List.range T.length).flatMap (fun k => atP (T.map (wpl T)) k) = (List.range T.length).flatMap (fun k => [V.getD k Ln0]) := by
  have : ∀ (L : List Nat), (∀ k ∈ L, k < T.length) → L.flatMap (fun k => atP (T.map (wpl T)) k) = L.flatMap (fun k => [V.getD k Ln0]) := by
   intro L
   induction L with
   | nil => intro _; rfl
   | cons k L ih =>
    intro h
    rw [List.flatMap_cons, List.flatMap_cons, hone k (h k (List.mem_cons_self ..)), ih fun j hj => h j (List.mem_cons_of_mem _ hj)]
  exact this _ fun k hk => List.mem_range.1 hk
 rw [e]
 apply List.ext_getElem?
 intro k
 rw [flatMap_one]
 by_cases hk : k < T.length
 ·simp [hk, hpl]
 ·simp [hk, hpl]
theorem ord_tab {U : List Ln} {T : List Ln} (hz : U.map zp = T) (hn : (T.map (·.team)).Nodup) : (List.range U.length).flatMap (fun k => atP (U.map (wpl U)) k) = plcLn 0 (srtLn T) := by
 have hl : U.length = T.length := by rw [← hz]; simp
 rw [wpl_zp, hz, hl]
 exact ord_plc hn
theorem upL_zp {U : List Ln} {i : Nat} {f : Ln → Ln} (h : ∀ x, zp (f x) = f (zp x)) : (upL U i f).map zp = upL (U.map zp) i f := by
 unfold upL
 rw [List.map_set, h]
 congr 2
 rw [List.getD_eq_getElem?_getD, List.getD_eq_getElem?_getD, List.getElem?_map]
 cases U[i]? <;> rfl
theorem addE_zp (S : List Int) (U : List Ln) (e : (Int × Int) × Int) : (addE S U e).map zp = addE S (U.map zp) e := by
 unfold addE
 rw [upL_zp (f := addB S e.2) fun _ => rfl, upL_zp (f := addA S e.2) fun _ => rfl]
theorem foldE_zp (S : List Int) : ∀ (A : List ((Int × Int) × Int)) (U : List Ln), (A.foldl (addE S) U).map zp = A.foldl (addE S) (U.map zp)
 | [], _ => rfl
 | e :: A, U => by rw [List.foldl_cons, List.foldl_cons, foldE_zp S A, addE_zp]
theorem addY_zp (p : Pl) (y : Int) (U : List Ln) : (addY p y U).map zp = addY p y (U.map zp) := by
 unfold addY
 split
 ·exact upL_zp (f := fun x : Ln => { x with points := x.points + p.b, bye := true }) fun _ => rfl
 ·rfl
theorem addR_zp (p : Pl) (U : List Ln) (r : Er) : (addR p U r).map zp = addR p (U.map zp) r := by
 unfold addR
 rw [addY_zp, foldE_zp]
theorem lns0_zp (n : Nat) : (lns0 n).map zp = lns0 n := by
 unfold lns0
 rw [List.map_map]
 rfl
theorem BdL_zp {k : Nat} {U : List Ln} : BdL k (U.map zp) ↔ BdL k U := by
 unfold BdL
 constructor
 ·intro h x hx; exact h (zp x) (List.mem_map_of_mem hx)
 ·intro h x hx
  obtain ⟨y, hy, rfl⟩ := List.mem_map.1 hx
  exact h y hy
end Go.Idl
