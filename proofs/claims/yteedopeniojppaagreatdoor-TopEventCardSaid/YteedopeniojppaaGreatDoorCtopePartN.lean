import Derived.Test.YteedopeniojppaaGreatDoorCtopePartJ
import Derived.Test.YteedopeniojppaaGreatDoorCtopePartM
set_option linter.all false
set_option maxHeartbeats 16000000
set_option maxRecDepth 40000
namespace Go.Idl
open Go.Proofs
def impUp (L : List Int) (d : Int) : Nat := L.countP fun s => decide (s ≤ d)
def impI (d : Int) : Int := (impUp scaleL d : Int) - impUp scaleL (-d)
theorem scaleL_pos : ∀ s ∈ scaleL, 1 ≤ s ∧ s ≤ 4000 := by decide
@[go_sem] theorem BlR_scale {n : Nat} : (∀ (c : IV), c ∈ scaleR → Bl n c) = True := eq_true fun c hc => (scaleR_cl c hc).bl
theorem scaleR_get {i : Nat} (h : i < scaleL.length) : scaleR[i]?.getD (.tup []) = .int .i64 scaleL[i] := by simp [scaleR, h]
theorem impUp_succ {i : Nat} (h : i < scaleL.length) (d : Int) : impUp (scaleL.take (i + 1)) d = impUp (scaleL.take i) d + if scaleL[i] ≤ d then 1 else 0 := by
 unfold impUp
 rw [List.take_succ_eq_append_getElem h, List.countP_append, List.countP_singleton]
 simp
theorem impUp_le (L : List Int) (d : Int) : impUp L d ≤ L.length := List.countP_le_length
theorem imp_fun (d : Int) (hd : -2 ^ 62 ≤ d ∧ d ≤ 2 ^ 62) : FN 81 [.int .i64 d] (fun v => v = .int .i64 (impI d)) := by
 refine IFun.of_bodyZ false 6 [6, 7, 8, 12, 18] Tryz.func81 rfl Tryz.call81 rfl fun R hR => ?_
 have h24 : scaleL.length = 24 := rfl
 have hsz : scaleR.length = 24 := rfl
 have htk : scaleR.take 24 = scaleR := List.take_of_length_le (by rw [hsz]; omega)
 simp [go_sem, hsz, htk]
 refine IWp.loopT (α := Nat) (fun i => (⟨false, 23, 6, [6, 7, 8, 12, 18], glT, [(0, .int .i64 d), (3, .int .i64 ((impUp (scaleL.take i) d : Int) - impUp (scaleL.take i) (-d))), (6, .agg scaleR), (7, .int .i64 (i : Int))], []⟩, []))
  (fun i => i ≤ 24) (fun i => 24 - i) 0 (by simp) (by simp [go_sem, impUp, htk]) ?_
 intro i hi
 by_cases h : i < 24
 ·have hi' : i < scaleL.length := by omega
  have w1 : IntKind.i64.wrap ((i : Int) + 1) = i + 1 := wrap64 (by omega) (by omega)
  have s1 := impUp_succ hi' d
  have s2 := impUp_succ hi' (-d)
  have b1 := impUp_le (scaleL.take i) d
  have b2 := impUp_le (scaleL.take i) (-d)
  simp only [List.length_take] at b1 b2
  have hp := scaleL_pos _ (List.getElem_mem hi')
  have hg := scaleR_get hi'
  obtain ⟨s, hs⟩ : ∃ s, scaleL[i] = s := ⟨_, rfl⟩
  rw [hs] at s1 s2 hp hg
  obtain ⟨a, ha⟩ : ∃ a, impUp (scaleL.take i) d = a := ⟨_, rfl⟩
  obtain ⟨b, hb⟩ : ∃ b, impUp (scaleL.take i) (-d) = b := ⟨_, rfl⟩
  rw [ha] at s1 b1
  rw [hb] at s2 b2
  have hi'' : (i : Int) < 24 := by omega
  have w2 : IntKind.i64.wrap ((a : Int) - b + 1) = a - b + 1 := wrap64 (by omega) (by omega)
  have w3 : IntKind.i64.wrap (0 - s) = -s := by rw [wrap64 (by omega) (by omega)]; omega
  have w4 : IntKind.i64.wrap (-s) = -s := wrap64 (by omega) (by omega)
  have w5 : IntKind.i64.wrap ((a : Int) - b - 1) = a - b - 1 := wrap64 (by omega) (by omega)
  by_cases c1 : s ≤ d
  ·have c2 : ¬ d ≤ -s := by omega
   have c3 : ¬ s ≤ -d := by omega
   rw [if_pos c1] at s1
   rw [if_neg c3] at s2
   simp [go_sem, hsz, ha, hb, hi'', hg, c1, c2, w1, w2, w3, w4, w5]
   exact ⟨i + 1, ⟨by rw [s1, s2]; simp; omega, by simp⟩, by omega, by omega⟩
  ·rw [if_neg c1] at s1
   by_cases c2 : d ≤ -s
   ·have c3 : s ≤ -d := by omega
    rw [if_pos c3] at s2
    simp [go_sem, hsz, ha, hb, hi'', hg, c1, c2, w1, w2, w3, w4, w5]
    exact ⟨i + 1, ⟨by rw [s1, s2]; simp; try omega, by simp⟩, by omega, by omega⟩
   ·have c3 : ¬ s ≤ -d := by omega
    rw [if_neg c3] at s2
    simp [go_sem, hsz, ha, hb, hi'', hg, c1, c2, w1, w2, w3, w4, w5]
    exact ⟨i + 1, ⟨by rw [s1, s2]; simp; try omega, by simp⟩, by omega, by omega⟩
 ·have h' : ¬ (i : Int) < 24 := by omega
  have he : scaleL.take i = scaleL := List.take_of_length_le (by omega)
  simp [go_sem, h', he]
  exact hR _ _ _ rfl (by simp [go_sem, impI])
end Go.Idl
namespace Go.Idl
open Go.Proofs
def swI (x : Int × Int) : Int := impI (x.1 - x.2)
def wonL (L : List (Int × Int)) : Int := (L.map fun x => if 0 < swI x then swI x else 0).sum
def lostL (L : List (Int × Int)) : Int := (L.map fun x => if 0 < swI x then 0 else -swI x).sum
theorem impI_bd (d : Int) : -24 ≤ impI d ∧ impI d ≤ 24 := by
 have h1 := impUp_le scaleL d
 have h2 := impUp_le scaleL (-d)
 have h3 : scaleL.length = 24 := rfl
 unfold impI
 omega
theorem wonL_snoc (L : List (Int × Int)) (x : Int × Int) : wonL (L ++ [x]) = wonL L + if 0 < swI x then swI x else 0 := by simp [wonL]
theorem lostL_snoc (L : List (Int × Int)) (x : Int × Int) : lostL (L ++ [x]) = lostL L + if 0 < swI x then 0 else -swI x := by simp [lostL]
theorem wonL_bd : ∀ L : List (Int × Int), (0 ≤ wonL L ∧ wonL L ≤ 24 * L.length) ∧ 0 ≤ lostL L ∧ lostL L ≤ 24 * L.length
 | [] => by simp [wonL, lostL]
 | x :: L => by
  have ih := wonL_bd L
  have hb := impI_bd (x.1 - x.2)
  unfold wonL lostL swI at *
  simp only [List.map_cons, List.sum_cons, List.length_cons]
  split <;> omega
theorem swing_fun (a b : Int) (ha : -7600 ≤ a ∧ a ≤ 7600) (hb : -7600 ≤ b ∧ b ≤ 7600) : FN 60 [.agg [.int .i64 a, .int .i64 b]] (fun v => v = .tup [.int .i64 (impI (a - b)), .int .i64 0]) := by
 refine IFun.of_bodyZ false 4 [21] Tryz.func60 rfl Tryz.call60 rfl fun R hR => ?_
 have a1 : ¬ a < -7600 := by omega
 have a2 : ¬ 7600 < a := by omega
 have b1 : ¬ b < -7600 := by omega
 have b2 : ¬ 7600 < b := by omega
 have w : IntKind.i64.wrap (a - b) = a - b := wrap64 (by omega) (by omega)
 simp [go_sem, a1, a2, b1, b2, w]
 refine (imp_fun (a - b) (by omega)).callF (by simp [go_sem]) ?_
 rintro _ rfl
 simp [go_sem]
 exact hR _ _ _ rfl (by simp [go_sem])
theorem match1_fun (a b s : Int) (ha : 0 ≤ a ∧ a ≤ 100000) (hb : 0 ≤ b ∧ b ≤ 100000) (hs : -24 ≤ s ∧ s ≤ 24) : FN 40 [.agg [.int .i64 a, .int .i64 b], .int .i64 s] (fun v => v = .agg [.int .i64 (a + if 0 < s then s else 0), .int .i64 (b + if 0 < s then 0 else -s)]) := by
 refine IFun.of_bodyZ false 5 [6] Tryz.func40 rfl Tryz.call40 rfl fun R hR => ?_
 by_cases h : 0 < s
 ·have w : IntKind.i64.wrap (a + s) = a + s := wrap64 (by omega) (by omega)
  simp only [if_pos h] at hR
  simp [go_sem, h, w]
  exact hR _ _ _ rfl (by simp [go_sem])
 ·have w : IntKind.i64.wrap (b - s) = b + -s := by rw [wrap64 (by omega) (by omega)]; omega
  simp only [if_neg h] at hR
  simp [go_sem, h, w]
  exact hR _ _ _ rfl (by simp [go_sem])
theorem total_fun (L : List (Int × Int)) (hl : L.length ≤ 128) (hb : ∀ x ∈ L, (-7600 ≤ x.1 ∧ x.1 ≤ 7600) ∧ -7600 ≤ x.2 ∧ x.2 ≤ 7600) : FN 39 [.fz 2 (prs L), .agg [.int .i64 0, .int .i64 0], .func (.func 40) [] []] (fun v => v = .tup [.agg [.int .i64 (wonL L), .int .i64 (lostL L)], .int .i64 0]) := by
 refine IFun.of_bodyZ false 13 [15, 17, 18, 19, 20, 29] Tryz.func39 rfl Tryz.call39 rfl fun R hR => ?_
 have h1 : ¬ (128 : Int) < L.length := by omega
 simp [go_sem, h1]
 refine IWp.loopT (α := Nat) (fun i => (⟨false, 38, 13, [15, 17, 18, 19, 20, 29], glT, [(2, .func (.func 40) [] []), (4, .ptr 0 1 0 0), (6, .ptr 1 1 0 0), (8, .ptr 2 1 0 0), (17, .fz 2 (prs L)), (18, .int .i64 L.length), (19, .int .i64 (i : Int))], []⟩, [.rows 2 [[.int .i64 (wonL (L.take i)), .int .i64 (lostL (L.take i))]], .rows 2 [[.int .i64 0, .int .i64 0]], .rows 2 [[.int .i64 0, .int .i64 0]]]))
  (fun i => i ≤ L.length) (fun i => L.length - i) 0 (by simp) (by simp [go_sem, wonL, lostL]) ?_
 intro i hi
 by_cases h : i < L.length
 ·have w1 : IntKind.i64.wrap ((i : Int) + 1) = ((i + 1 : Nat) : Int) := by rw [wrap64 (by omega) (by omega)]; omega
  have hx := hb _ (List.getElem_mem h)
  have hs := List.take_succ_eq_append_getElem h
  have bd := wonL_bd (L.take i)
  obtain ⟨x, hxe⟩ : ∃ x, L[i] = x := ⟨_, rfl⟩
  rw [hxe] at hx hs
  have s1 := wonL_snoc (L.take i) x
  have s2 := lostL_snoc (L.take i) x
  rw [← hs] at s1 s2
  have bi := impI_bd (x.1 - x.2)
  have hlt : (L.take i).length ≤ 128 := by rw [List.length_take]; omega
  have c1 := swing_fun x.1 x.2 hx.1 hx.2
  obtain ⟨A, hA⟩ : ∃ A, wonL (L.take i) = A := ⟨_, rfl⟩
  obtain ⟨B, hB⟩ : ∃ B, lostL (L.take i) = B := ⟨_, rfl⟩
  rw [hA, hB] at bd
  rw [hA] at s1
  rw [hB] at s2
  obtain ⟨s, hse⟩ : ∃ s, impI (x.1 - x.2) = s := ⟨_, rfl⟩
  unfold swI at s1 s2
  rw [hse] at bi c1 s1 s2
  have c2 := match1_fun A B s (by omega) (by omega) bi
  simp [go_sem, h, hxe, hA, hB]
  refine c1.callF (by simp [go_sem]) ?_
  rintro _ rfl
  simp [go_sem]
  refine c2.callF (by simp [go_sem]) ?_
  rintro _ rfl
  simp [go_sem]
  exact ⟨i + 1, ⟨w1, by rw [s1], by rw [s2]⟩, by omega, by omega⟩
 ·obtain rfl : i = L.length := by omega
  rw [List.take_length]
  simp [go_sem]
  exact hR _ _ _ rfl (by simp [go_sem])
theorem match_fun (L : List (Int × Int)) (hl : L.length ≤ 128) (hb : ∀ x ∈ L, (-7600 ≤ x.1 ∧ x.1 ≤ 7600) ∧ -7600 ≤ x.2 ∧ x.2 ≤ 7600) : FN 24 [.fz 2 (prs L)] (fun v => v = .tup [.int .i64 (wonL L), .int .i64 (lostL L), .int .i64 0]) := by
 refine IFun.of_bodyZ false 7 [] Tryz.func24 rfl Tryz.call24 rfl fun R hR => ?_
 simp [go_sem]
 refine (total_fun L hl hb).callF (by simp [go_sem]) ?_
 rintro _ rfl
 simp [go_sem]
 refine ⟨by decide +kernel, ?_⟩
 exact hR _ _ _ rfl (by simp [go_sem])
end Go.Idl
namespace Go.Idl
open Go.Proofs
def usM (b k : Nat) : Nat := ((List.range 50).find? fun m => decide (9 * k * k * b ≤ 4 * m * m)).getD 0
def usL (b : Nat) : List Int := (List.range 10).map fun k => (usM b (k + 1) : Int)
theorem us_facts : ∀ b, b < 9 → 1 ≤ b → ∀ k, k < 10 → (∀ m, m < usM b (k + 1) → 4 * m * m < 9 * (k + 1) * (k + 1) * b) ∧ 9 * (k + 1) * (k + 1) * b ≤ 4 * usM b (k + 1) * usM b (k + 1) ∧ usM b k ≤ usM b (k + 1) ∧ usM b (k + 1) ≤ 43 ∧ 1 ≤ usM b (k + 1) := by decide +kernel
theorem usual_fun (b : Nat) (h1 : 1 ≤ b) (h8 : b ≤ 8) : FN 4 [.int .i64 (b : Int)] (fun v => v = .tup [.fz 1 (ints (usL b)), .int .i64 0]) := by
 refine IFun.of_bodyW false 7 [12, 15, 28] Tryz.func4 rfl Tryz.call4 rfl fun R hR => ?_
 have a1 : ¬ (b : Int) < 1 := by omega
 have a2 : ¬ (128 : Int) < b := by omega
 have a3 : ¬ b < 1 := by omega
 have a4 : ¬ 128 < b := by omega
 refine IWp.seqI ?_
 simp [go_sem, a1, a2, a3, a4]
 refine IWp.seqI ?_
 simp [go_sem, a1, a2, a3, a4]
 refine IWp.seqI ?_
 simp [go_sem]
 refine IWp.seqI ?_
 simp [go_sem]
 refine IWp.seq ?_
 refine IWp.seqI ?_
 simp [go_sem]
 refine IWp.block ?_
 have hf := us_facts b (by omega) h1
 have hul : (usL b).length = 10 := by simp [usL]
 refine IWp.loopI (α := Nat × Nat) (fun p => (⟨false, 36, 7, [12, 15, 28], glT, [(0, .int .i64 (b : Int)), (4, .sl 0 p.1 0 p.1 none), (5, .int .i64 (p.2 : Int)), (6, .int .i64 ((p.1 : Int) + 1))], []⟩, [.rows 1 (ints ((usL b).take p.1))]))
  (fun p => (p.1 ≤ 10 ∧ 1 ≤ p.2 ∧ p.2 ≤ 43) ∧ (p.1 < 10 → p.2 ≤ usM b (p.1 + 1))) (fun p => 10 - p.1) (0, 1) ⟨by simp, fun _ => (hf 0 (by omega)).2.2.2.2⟩ (by simp [go_sem, usL]) ?_
 rintro ⟨k, m⟩ ⟨⟨hk, hm1, hm2⟩, hmT⟩
 simp only at hk hm1 hm2 hmT
 refine IWp.seq ?_
 by_cases h : k < 10
 ·obtain ⟨f1, f2, f3, f4, f5⟩ := hf k h
  have hm := hmT h
  have fn : k + 1 < 10 → usM b (k + 1) ≤ usM b (k + 1 + 1) := fun h' => (hf (k + 1) h').2.2.1
  have hT : (usL b)[k]'(by omega) = (usM b (k + 1) : Int) := by simp [usL]
  have hs := List.take_succ_eq_append_getElem (l := usL b) (i := k) (by omega)
  rw [hT] at hs
  have g1 := ints_snoc (l := (usL b).take k) (x := (usM b (k + 1) : Int))
  rw [← hs] at g1
  have htl : ((usL b).take k).length = k := by rw [List.length_take]; omega
  generalize usM b (k + 1) = T at *
  obtain ⟨K, hK⟩ : ∃ K : Nat, 9 * (k + 1) * (k + 1) * b = K := ⟨_, rfl⟩
  rw [hK] at f1 f2
  have hKb : K ≤ 8000 := by
   rw [← hK]
   have e1 : (k + 1) * (k + 1) ≤ 10 * 10 := Nat.mul_le_mul (by omega) (by omega)
   have e2 : (k + 1) * (k + 1) * b ≤ 100 * 8 := Nat.mul_le_mul (by omega) h8
   have e3 : 9 * (k + 1) * (k + 1) * b = 9 * ((k + 1) * (k + 1) * b) := by simp only [Nat.mul_assoc]
   omega
  have kI : (k : Int) + 1 ≤ 10 := by omega
  have u1 : IntKind.i64.wrap (9 * ((k : Int) + 1)) = ((9 * (k + 1) : Nat) : Int) := by rw [wrap64 (by omega) (by omega)]; omega
  have u2 : IntKind.i64.wrap (((9 * (k + 1) : Nat) : Int) * ((k : Int) + 1)) = ((9 * (k + 1) * (k + 1) : Nat) : Int) := by
   have e : ((9 * (k + 1) : Nat) : Int) * ((k : Int) + 1) = ((9 * (k + 1) * (k + 1) : Nat) : Int) := by push_cast; rfl
   rw [e]
   have e1 : 9 * (k + 1) * (k + 1) ≤ 90 * 10 := Nat.mul_le_mul (by omega) (by omega)
   exact wrap64 (by omega) (by omega)
  have u3 : IntKind.i64.wrap (((9 * (k + 1) * (k + 1) : Nat) : Int) * (b : Int)) = (K : Int) := by
   have e : ((9 * (k + 1) * (k + 1) : Nat) : Int) * (b : Int) = (K : Int) := by rw [← hK]; push_cast; rfl
   rw [e]
   exact wrap64 (by omega) (by omega)
  generalize ((9 * (k + 1) * (k + 1) : Nat) : Int) = K2 at *
  generalize ((9 * (k + 1) : Nat) : Int) = K1 at *
  have v1 : IntKind.i64.wrap ((k : Int) + 1 + 1) = ((k + 1 : Nat) : Int) + 1 := by rw [wrap64 (by omega) (by omega)]; omega
  refine IWp.now ?_
  simp [go_sem, kI]
  refine IWp.seq ?_
  refine IWp.block ?_
  refine IWp.seq ?_
  refine IWp.block ?_
  refine IWp.loopT (α := Nat) (fun m => (⟨false, 36, 7, [12, 15, 28], glT, [(0, .int .i64 (b : Int)), (4, .sl 0 k 0 k none), (5, .int .i64 (m : Int)), (6, .int .i64 ((k : Int) + 1))], []⟩, [.rows 1 (ints ((usL b).take k))]))
   (fun m => 1 ≤ m ∧ m ≤ T) (fun m => T - m) m ⟨hm1, hm⟩ (by simp [go_sem]) ?_
  rintro y ⟨hy1, hy2⟩
  have w1 : IntKind.i64.wrap (4 * (y : Int)) = ((4 * y : Nat) : Int) := by rw [wrap64 (by omega) (by omega)]; omega
  obtain ⟨Y, hY⟩ : ∃ Y, 4 * y * y = Y := ⟨_, rfl⟩
  have hYb : Y ≤ 172 * 43 := by rw [← hY]; exact Nat.mul_le_mul (by omega) (by omega)
  have w2 : IntKind.i64.wrap (((4 * y : Nat) : Int) * (y : Int)) = (Y : Int) := by
   have e : ((4 * y : Nat) : Int) * (y : Int) = (Y : Int) := by rw [← hY]; push_cast; rfl
   rw [e]
   exact wrap64 (by omega) (by omega)
  generalize ((4 * y : Nat) : Int) = Y1 at *
  have w3 : IntKind.i64.wrap ((y : Int) + 1) = ((y + 1 : Nat) : Int) := by rw [wrap64 (by omega) (by omega)]; omega
  by_cases hc : Y < K
  ·have hne : y ≠ T := fun e => by subst e; omega
   simp [go_sem, u1, u2, u3, w1, w2, hc]
   exact ⟨y + 1, w3, by omega, by omega⟩
  ·have he : y = T := by
    apply Decidable.byContradiction
    intro hne
    have := f1 y (by omega)
    omega
   subst he
   simp [go_sem, u1, u2, u3, w1, w2, hc]
   refine IWp.now ?_
   simp [go_sem]
   refine ⟨⟨by omega, by omega⟩, ?_⟩
   rw [← g1]
   refine IWp.now ?_
   simp [go_sem]
   exact ⟨k + 1, y, ⟨⟨rfl, rfl, v1⟩, rfl⟩, ⟨⟨by omega, by omega, by omega⟩, fun h' => fn h'⟩, by omega⟩
 ·obtain rfl : k = 10 := by omega
  rw [List.take_of_length_le (by omega)]
  refine IWp.now ?_
  simp [go_sem]
  refine IWp.now ?_
  simp [go_sem]
  exact hR _ _ _ rfl (by simp [go_sem, hul])
def pickV (l : List Int) (i : Nat) : Int := if l.length = 0 then 0 else l.getD (i % l.length) 0
theorem pickV_bd {l : List Int} (hl : ∀ x ∈ l, 0 ≤ x ∧ x < 256) (i : Nat) : 0 ≤ pickV l i ∧ pickV l i < 256 := by
 unfold pickV
 split
 ·omega
 ·have h := Nat.mod_lt i (show 0 < l.length by omega)
  rw [List.getD_eq_getElem?_getD, List.getElem?_eq_getElem h]
  exact hl _ (List.getElem_mem h)
theorem pick_fun (l : List Int) (hl : ∀ x ∈ l, 0 ≤ x ∧ x < 256) (hn : l.length < 2 ^ 63) (i : Nat) (hi : i < 2 ^ 31) : FN 18 [.fz 1 (bys .u8 l), .int .i64 (i : Int)] (fun v => v = .int .i64 (pickV l i)) := by
 refine IFun.of_bodyZ false 5 [7] Tryz.func18 rfl Tryz.call18 rfl fun R hR => ?_
 by_cases h : l = []
 ·subst h
  simp [go_sem]
  exact hR _ _ _ rfl (by simp [go_sem, pickV])
 ·have h0 : 0 < l.length := List.length_pos_iff.2 h
  have h0I : ¬ (l.length : Int) = 0 := by omega
  have hne : ¬ l.length = 0 := by omega
  obtain ⟨c, hc⟩ : ∃ c, i % l.length = c := ⟨_, rfl⟩
  have hcl : c < l.length := by rw [← hc]; exact Nat.mod_lt _ h0
  have e1 : (i : Int).tmod l.length = c := by rw [Int.tmod_eq_emod_of_nonneg (by omega), ← hc]; omega
  have w1 : IntKind.i64.wrap (l.length : Int) = l.length := wrap64 (by omega) (by omega)
  have w2 : IntKind.i64.wrap (c : Int) = c := wrap64 (by omega) (by omega)
  have hx := hl _ (List.getElem_mem hcl)
  have hv : pickV l i = l[c] := by
   unfold pickV
   rw [if_neg hne, hc, List.getD_eq_getElem?_getD, List.getElem?_eq_getElem hcl]; rfl
  rw [hv] at hR
  obtain ⟨x, hxe⟩ : ∃ x, l[c] = x := ⟨_, rfl⟩
  rw [hxe] at hx hR
  have w3 : IntKind.i64.wrap x = x := wrap64 (by omega) (by omega)
  simp [go_sem, h, hne, h0I, e1, w1, w2, w3, hcl, hxe]
  exact hR _ _ _ rfl (by simp [go_sem])
def bdsL (l : List Int) (f b : Nat) : List (Int × Int) := (List.range b).map fun i => (10 * (pickV l (f + 2 * i) - 128), 10 * (pickV l (f + 2 * i + 1) - 128))
def plM (l : List Int) (f b : Nat) : Int := wonL (bdsL l f b) - lostL (bdsL l f b)
theorem bdsL_succ (l : List Int) (f b : Nat) : bdsL l f (b + 1) = bdsL l f b ++ [(10 * (pickV l (f + 2 * b) - 128), 10 * (pickV l (f + 2 * b + 1) - 128))] := by simp [bdsL, List.range_succ]
@[simp] theorem bdsL_length (l : List Int) (f b : Nat) : (bdsL l f b).length = b := by simp [bdsL]
theorem plM_bd (l : List Int) (f b : Nat) (hb : b ≤ 8) : -192 ≤ plM l f b ∧ plM l f b ≤ 192 := by
 have := wonL_bd (bdsL l f b)
 rw [bdsL_length] at this
 unfold plM
 omega
theorem played_fun (l : List Int) (hl : ∀ x ∈ l, 0 ≤ x ∧ x < 256) (hn : l.length < 2 ^ 63) (f b : Nat) (hf : f < 2 ^ 30) (hb : b ≤ 8) : FN 14 [.int .i64 (b : Int), .fz 1 (bys .u8 l), .int .i64 (f : Int)] (fun v => v = .tup [.int .i64 (plM l f b), .bool true]) := by
 refine IFun.of_bodyW false 15 [15, 16, 17] Tryz.func14 rfl Tryz.call14 rfl fun R hR => ?_
 have cp := fun i hi => pick_fun l hl hn i hi
 refine IWp.seqI ?_
 simp [go_sem]
 refine IWp.seqI ?_
 simp [go_sem]
 refine IWp.ownNilS 2 8 (by decide) rfl ?_
 simp [go_sem]
 refine IWp.seq ?_
 refine IWp.seqI ?_
 simp [go_sem]
 refine IWp.block ?_
 refine IWp.loopI (α := Nat) (fun i => (⟨false, 62, 15, [15, 16, 17], glT, [(1, .fz 1 (bys .u8 l)), (2, .int .i64 (f : Int)), (8, .sl 0 i 0 i none), (15, .int .i64 (b : Int)), (16, .int .i64 (i : Int))], []⟩, [.rows 2 (prs (bdsL l f i))]))
  (fun i => i ≤ b) (fun i => b - i) 0 (by simp) (by simp [go_sem, bdsL]) ?_
 intro i hi
 refine IWp.seqI ?_
 simp [go_sem]
 refine IWp.seq ?_
 by_cases h : i < b
 ·have v1 : IntKind.i64.wrap ((i : Int) + 1) = ((i + 1 : Nat) : Int) := by rw [wrap64 (by omega) (by omega)]; omega
  have w1 : IntKind.i64.wrap (2 * (i : Int)) = ((2 * i : Nat) : Int) := by rw [wrap64 (by omega) (by omega)]; omega
  obtain ⟨I, hI⟩ : ∃ I, 2 * i = I := ⟨_, rfl⟩
  rw [hI] at w1
  have w2 : IntKind.i64.wrap ((f : Int) + I) = ((f + I : Nat) : Int) := by rw [wrap64 (by omega) (by omega)]; omega
  obtain ⟨J, hJ⟩ : ∃ J, f + I = J := ⟨_, rfl⟩
  rw [hJ] at w2
  have w3 : IntKind.i64.wrap ((J : Int) + 1) = ((J + 1 : Nat) : Int) := by rw [wrap64 (by omega) (by omega)]; omega
  have c1 := cp J (by omega)
  have c2 := cp (J + 1) (by omega)
  have b1 := pickV_bd hl J
  have b2 := pickV_bd hl (J + 1)
  have hs := bdsL_succ l f i
  rw [hI, hJ] at hs
  have hbl := bdsL_length l f i
  generalize pickV l J = x at *
  generalize pickV l (J + 1) = y at *
  obtain ⟨J1, hJ1⟩ : ∃ J1, J + 1 = J1 := ⟨_, rfl⟩
  rw [hJ1] at c2 w3
  have g1 := prs_snoc (l := bdsL l f i) (x := (10 * (x - 128), 10 * (y - 128)))
  rw [← hs] at g1
  have u1 : IntKind.i64.wrap (x - 128) = x - 128 := wrap64 (by omega) (by omega)
  have u2 : IntKind.i64.wrap (y - 128) = y - 128 := wrap64 (by omega) (by omega)
  have u3 : IntKind.i64.wrap (10 * (x - 128)) = 10 * (x - 128) := wrap64 (by omega) (by omega)
  have u4 : IntKind.i64.wrap (10 * (y - 128)) = 10 * (y - 128) := wrap64 (by omega) (by omega)
  generalize bdsL l f i = Z at *
  refine IWp.now ?_
  simp [go_sem, h]
  refine IWp.seq ?_
  refine IWp.block ?_
  refine IWp.seqI ?_
  simp [go_sem]
  refine IWp.now ?_
  simp [go_sem, w1, w2]
  refine c1.callF (by simp [go_sem]) ?_
  rintro _ rfl
  simp [go_sem, w1, w2, w3]
  refine c2.callF (by simp [go_sem]) ?_
  rintro _ rfl
  simp [go_sem, u1, u2, u3, u4]
  refine ⟨⟨by omega, by omega⟩, ?_⟩
  rw [← g1]
  refine IWp.now ?_
  simp [go_sem]
  exact ⟨i + 1, ⟨⟨rfl, v1⟩, rfl⟩, by omega, by omega⟩
 ·obtain rfl : i = b := by omega
  have hbl := bdsL_length l f i
  refine IWp.now ?_
  simp [go_sem]
  have hbd := wonL_bd (bdsL l f i)
  rw [hbl] at hbd
  have cm := match_fun (bdsL l f i) (by omega) (fun x hx => by
   obtain ⟨q, _, rfl⟩ := List.mem_map.1 hx
   have h1 := pickV_bd hl (f + 2 * q)
   have h2 := pickV_bd hl (f + 2 * q + 1)
   simp only
   omega)
  unfold plM at hR
  obtain ⟨Z, hZ⟩ : ∃ Z, bdsL l f i = Z := ⟨_, rfl⟩
  rw [hZ] at hbd cm hR hbl
  rw [hZ]
  obtain ⟨A, hA⟩ : ∃ A, wonL Z = A := ⟨_, rfl⟩
  obtain ⟨C, hC⟩ : ∃ C, lostL Z = C := ⟨_, rfl⟩
  rw [hA, hC] at hbd cm hR
  have w1 : IntKind.i64.wrap (A - C) = A - C := wrap64 (by omega) (by omega)
  have z1 : ¬ A < 0 := by omega
  have z2 : ¬ C < 0 := by omega
  have z3 : 0 ≤ A := by omega
  have z4 : 0 ≤ C := by omega
  refine IWp.freeze 0 2 (prs Z) [(1, .fz 1 (bys .u8 l)), (2, .int .i64 (f : Int)), (8, .fz 2 (prs Z)), (15, .int .i64 (i : Int)), (16, .int .i64 (i : Int)), (17, .bool false)] [.dead] (by simp) (by simp [go_sem]) (by simp [go_sem]; exact ⟨by omega, by omega, (List.take_of_length_le (by simp [hbl])).symm⟩) (by simp [go_sem]) ?_
  refine IWp.now ?_
  simp [go_sem]
  refine cm.callF (by simp [go_sem]) ?_
  rintro _ rfl
  simp [go_sem, w1, z1, z2, z3, z4]
  exact hR _ _ _ rfl (by simp [go_sem])
end Go.Idl
namespace Go.Idl
open Go.Proofs
theorem PartB.sim {p : Pl} {B : List Er} (h : PartB p B) {l : List Em} (hl : l.Perm (mB 0 B)) : SimR (Go.Idl.rchd p l) B := by
 have hG := h.goodM
 have := rchd_sim (p := p) (l := mB 0 B) (l' := l) fun n x => by
  rw [find_eq (l := l) (ea := mB 0 B) (fun e _ => hl.mem_iff) hG.uq hG.mr, hG.find]
 rwa [h.rchd] at this
theorem SimR.mem : ∀ {A B : List Er}, SimR A B → ∀ {j : Nat}, j < B.length → (A.getD j Er0).mg.Perm (B.getD j Er0).mg
 | [], [], _, j, hj => by simp at hj
 | r :: A, s :: B, h, 0, _ => h.2.2.1
 | r :: A, s :: B, h, j + 1, hj => by
  have := SimR.mem h.2.2.2 (j := j) (by simpa using hj)
  simpa using this
 | [], _ :: _, h, _, _ => h.elim
 | _ :: _, [], h, _, _ => h.elim
theorem aget_perm {S T : List ((Int × Int) × Int)} (h : S.Perm T) (k : Int × Int) : (aget k S).isNone = (aget k T).isNone := by
 have e : ∀ U : List ((Int × Int) × Int), (aget k U).isNone = !decide (k ∈ U.map (·.1)) := fun U => by
  have := aget_none (a := k) (S := U)
  cases hs : aget k U with
  | none =>
   have hm := this.1 (by rw [hs]; rfl)
   simp [hm]
  | some v =>
   have hm : k ∈ U.map (·.1) := by
    apply Decidable.byContradiction; intro hc
    have := this.2 hc
    rw [hs] at this; cases this
   simp only [hm, decide_true, Bool.not_true]
   rfl
 rw [e, e]
 have : (k ∈ S.map (·.1)) ↔ (k ∈ T.map (·.1)) := (h.map _).mem_iff
 simp only [this]
theorem PartB.permAll {p : Pl} {B : List Er} (h : PartB p B) {l : List Em} (hl : l.Perm (mB 0 B)) :
  (∀ n, drawE p l n = if n < 0 ∨ (B.length : Int) ≤ n then ([], 0, 6) else ((B.getD n.toNat Er0).draw, (B.getD n.toNat Er0).bye, 0)) ∧
  Go.Idl.overE p l = (decide (B.length = (Go.Idl.ovrd B).length), 0) ∧
  openE p l = (if B.length = 0 then ([], 0) else (opnR (B.getD (B.length - 1) Er0), 0)) ∧
  (∀ n, qualE p l n = if B.length ≠ (Go.Idl.ovrd B).length then ([], 392) else if n < 1 ∨ p.t < n then ([], 2) else (((tabL9 p (Go.Idl.ovrd B)).take n.toNat).map (·.team), 0)) ∧
  tableE p l = (tabL9 p (Go.Idl.ovrd B), 0) := by
 have hs := h.sim hl
 have hc := (h.perm hl).1
 have hlen := hs.length
 have hol := hs.ovrd.length
 have hev := (hs.ovrd).eqv (EqvR.refl p [])
 rw [List.nil_append, List.nil_append] at hev
 have htab := hev.lines
 refine ⟨fun n => ?_, ?_, ?_, fun n => ?_, ?_⟩
 ·unfold drawE
  rw [hc, if_neg (by simp), hlen, hs.get.1, hs.get.2]
 ·unfold Go.Idl.overE
  rw [hc, if_neg (by simp), hlen, hol]
 ·unfold openE
  rw [hc, if_neg (by simp), hlen]
  by_cases h0 : B.length = 0
  ·rw [if_pos h0, if_pos h0]
  ·rw [if_neg h0, if_neg h0]
   unfold lastR opnR
   rw [hlen, hs.get.1]
   congr 1
   refine List.filter_congr fun x _ => ?_
   exact aget_perm (hs.mem (by omega)) x
 ·unfold qualE
  rw [hc, if_neg (by simp), hlen, hol, htab]
 ·unfold tableE
  rw [hc, if_neg (by simp), htab]
end Go.Idl
namespace Go.Idl
open Go.Proofs
structure NextR (p : Pl) (B : List Er) (d : List (Int × Int)) (y : Int) : Prop where
 full : FullB p B
 len : B.length < p.r.toNat
 draw : drawR (ordT p B) (metT B) (byeT B) = (d, y, 0)
theorem NextR.chain {p : Pl} {B : List Er} {d : List (Int × Int)} {y : Int} (h : NextR p B d y) (S : List ((Int × Int) × Int)) : ChainR p [] (B ++ [⟨d, y, S⟩]) := by
 refine chain_append.2 ⟨h.full.chain, ?_⟩
 rw [List.nil_append]
 exact ⟨h.draw, trivial⟩
theorem NextR.at {B : List Er} {d : List (Int × Int)} {y : Int} (S : List ((Int × Int) × Int)) : (B ++ [(⟨d, y, S⟩ : Er)])[B.length]? = some ⟨d, y, S⟩ := by simp
theorem NextR.dlen {p : Pl} {B : List Er} {d : List (Int × Int)} {y : Int} (h : NextR p B d y) : d.length = p.t.toNat / 2 := chain_len (h.chain []) (NextR.at [])
theorem NextR.bye {p : Pl} {B : List Er} {d : List (Int × Int)} {y : Int} (h : NextR p B d y) : (p.t.toNat % 2 = 0 → y = 0) ∧ (p.t.toNat % 2 = 1 → (1 ≤ y ∧ y ≤ p.t) ∧ y ∉ byeT B) := by
 have := chain_bye (h.chain []) (NextR.at [])
 rwa [List.take_left'  rfl] at this
theorem NextR.snoc {p : Pl} {B : List Er} {d : List (Int × Int)} {y : Int} (h : NextR p B d y) {S : List ((Int × Int) × Int)} (hS : S.map (·.1) = d) (hm : ∀ e ∈ S, mrB e.2 = true) : FullB p (B ++ [⟨d, y, S⟩]) := by
 refine ⟨h.full.pl, h.chain S, fun r hr => ?_, fun r hr => ?_, ?_⟩
 ·rcases List.mem_append.1 hr with hr | hr
  ·exact h.full.keys r hr
  ·obtain rfl := List.mem_singleton.1 hr; exact hS
 ·rcases List.mem_append.1 hr with hr | hr
  ·exact h.full.mr r hr
  ·obtain rfl := List.mem_singleton.1 hr; exact hm
 ·have := h.len
  simp only [List.length_append, List.length_singleton]
  omega
theorem NextR.fresh {p : Pl} {B : List Er} {d : List (Int × Int)} {y : Int} (h : NextR p B d y) : ((metT B ++ d).map mmP).Nodup := by
 have := met_apart (h.chain [])
 rwa [metT_snoc] at this
theorem NextR.part {p : Pl} {B : List Er} {d : List (Int × Int)} {y : Int} (h : NextR p B d y) : PartB p (B ++ [⟨d, y, []⟩]) := h.full.next h.len h.draw
theorem NextR.pos {p : Pl} {B : List Er} {d : List (Int × Int)} {y : Int} (h : NextR p B d y) : 0 < d.length := by
 have := (plB_t h.full.pl).1
 rw [h.dlen]
 omega
theorem ovrd_last : ∀ {B : List Er} {r : Er}, (∀ x ∈ B, x.over = true) → r.over = false → ovrd (B ++ [r]) = B := by
 intro B r h1 h2
 unfold ovrd
 have e : (B ++ [r]).countP (·.over) = B.length := by
  rw [List.countP_append, List.countP_singleton, h2]
  simp only [Bool.false_eq_true, if_false, Nat.add_zero]
  exact List.countP_eq_length.2 h1
 rw [e]
 exact List.take_left' rfl
theorem NextR.found {p : Pl} {B : List Er} {d : List (Int × Int)} {y : Int} (h : NextR p B d y) {l : List Em} (hl : l.Perm (mB 0 B)) :
  overE p l = (false, 0) ∧ drawE p l B.length = (d, y, 0) ∧ openE p l = (d, 0) := by
 have hp := h.part
 have hd := h.pos
 rw [← mB_next (d := d) (y := y)] at hl
 obtain ⟨f1, f2, f3, _, _⟩ := hp.permAll hl
 have hov : (⟨d, y, []⟩ : Er).over = false := by
  unfold Er.over
  simp only [List.length_nil]
  rw [beq_eq_false_iff_ne]; omega
 have hcut := ovrd_last (B := B) (r := ⟨d, y, []⟩) (fun x hx => h.full.ov hx) hov
 have hlen : (B ++ [(⟨d, y, []⟩ : Er)]).length = B.length + 1 := by simp
 refine ⟨?_, ?_, ?_⟩
 ·rw [f2, hcut, hlen]
  simp
 ·rw [f1, hlen, if_neg (by omega)]
  simp
 ·rw [f3, hlen, if_neg (by omega)]
  have : (B ++ [(⟨d, y, []⟩ : Er)]).getD (B.length + 1 - 1) Er0 = ⟨d, y, []⟩ := by simp
  rw [this]
  have e : opnR ⟨d, y, []⟩ = d := by
   unfold opnR
   exact List.filter_eq_self.2 fun x _ => rfl
  rw [e]
theorem FullB.done {p : Pl} {B : List Er} (h : FullB p B) (he : EndB p B) {l : List Em} (hl : l.Perm (mB 0 B)) : Go.Idl.overE p l = (true, 0) := by
 obtain ⟨_, f2, _, _, _⟩ := (h.part he).permAll hl
 rw [f2, h.ovrd]
 simp
theorem FullB.go {p : Pl} {B : List Er} (h : FullB p B) : EndB p B ∨ ∃ d y, NextR p B d y := by
 by_cases hl : B.length = p.r.toNat
 ·exact .inl (.inl hl)
 ·by_cases hd : (drawR (ordT p B) (metT B) (byeT B)).2.2 = 0
  ·exact .inr ⟨(drawR (ordT p B) (metT B) (byeT B)).1, (drawR (ordT p B) (metT B) (byeT B)).2.1, h, by have := h.len; omega, by rw [← hd]⟩
  ·exact .inl (.inr hd)
def InvMet (K : List (Int × Int)) (S : List ((Int × Int) × Int)) : Prop := ∀ a b, aget (a, b) S ≠ none → (a, b) ∈ K.map mmP
theorem InvMet.none {K K2 : List (Int × Int)} {x : Int × Int} {S : List ((Int × Int) × Int)} (h : InvMet K S) (hn : ((K ++ x :: K2).map mmP).Nodup) : aget (min x.1 x.2, max x.1 x.2) S = none := by
 apply Decidable.byContradiction
 intro hc
 have hm := h _ _ hc
 rw [List.map_append, List.map_cons, List.nodup_append] at hn
 exact hn.2.2 _ hm _ (List.mem_cons_self ..) rfl
theorem InvMet.step {K : List (Int × Int)} {x : Int × Int} {S : List ((Int × Int) × Int)} (h : InvMet K S) (v : Int) : InvMet (K ++ [x]) (aset (min x.1 x.2, max x.1 x.2) v S) := by
 intro a b hc
 rw [aget_aset] at hc
 rw [List.map_append]
 by_cases e : (a, b) = (min x.1 x.2, max x.1 x.2)
 ·exact List.mem_append.2 (.inr (List.mem_singleton.2 e))
 ·rw [if_neg e] at hc
  exact List.mem_append.2 (.inl (h _ _ hc))
def InvBye (B : List Er) (S : List (Int × Int)) : Prop := ∀ a, aget a S ≠ none → a ∈ byeT B
theorem InvBye.none {p : Pl} {B : List Er} {d : List (Int × Int)} {y : Int} {S : List (Int × Int)} (h : InvBye B S) (hx : NextR p B d y) (hy : y ≠ 0) : aget y S = none := by
 apply Decidable.byContradiction
 intro hc
 have hb := hx.bye
 rcases (by omega : p.t.toNat % 2 = 0 ∨ p.t.toNat % 2 = 1) with h2 | h2
 ·exact hy (hb.1 h2)
 ·exact (hb.2 h2).2 (h _ hc)
theorem InvBye.same {B : List Er} {r : Er} {S : List (Int × Int)} (h : InvBye B S) : InvBye (B ++ [r]) S := fun a hc => by
 rw [byeT_snoc]; exact List.mem_append.2 (.inl (h a hc))
theorem InvBye.step {B : List Er} {r : Er} {S : List (Int × Int)} (h : InvBye B S) (hy : 0 < r.bye) (v : Int) : InvBye (B ++ [r]) (aset r.bye v S) := fun a hc => by
 rw [byeT_snoc, if_pos hy]
 rw [aget_aset] at hc
 by_cases e : a = r.bye
 ·exact List.mem_append.2 (.inr (List.mem_singleton.2 e))
 ·rw [if_neg e] at hc
  exact List.mem_append.2 (.inl (h a hc))
def mgD (l : List Int) (n s : Nat) (d : List (Int × Int)) : List ((Int × Int) × Int) := (List.range d.length).map fun i => (d.getD i (0, 0), plM l (31 * n + 7 * i) s)
@[simp] theorem mgD_length (l : List Int) (n s : Nat) (d : List (Int × Int)) : (mgD l n s d).length = d.length := by simp [mgD]
theorem mgD_keys (l : List Int) (n s : Nat) (d : List (Int × Int)) : (mgD l n s d).map (·.1) = d := by
 refine List.ext_getElem (by simp) fun i h1 h2 => ?_
 simp [mgD, h2]
theorem mgD_get (l : List Int) (n s : Nat) {d : List (Int × Int)} {i : Nat} (h : i < d.length) : (mgD l n s d)[i]'(by simpa using h) = (d[i], plM l (31 * n + 7 * i) s) := by simp [mgD, h]
theorem mgD_mr (l : List Int) (n s : Nat) (d : List (Int × Int)) (hs : s ≤ 8) : ∀ e ∈ mgD l n s d, mrB e.2 = true := fun e he => by
 obtain ⟨i, _, rfl⟩ := List.mem_map.1 he
 have := plM_bd l (31 * n + 7 * i) s hs
 unfold mrB
 simp only [Bool.and_eq_true, decide_eq_true_eq]
 omega
theorem mB_snoc (B : List Er) (r : Er) : mB 0 (B ++ [r]) = mB 0 B ++ rowM B.length r.mg := by
 rw [mB_append]
 simp [mB]
end Go.Idl
namespace Go.Idl
open Go.Proofs
theorem swiss_fun (p : Pl) (hp : plB p = true) (ht : p.t ≤ 9) (hr5 : p.r ≤ 5) (hs : p.s.length ≤ 100) (b : Nat) (hb : b ≤ 8) (l : List Int) (hl : ∀ x ∈ l, 0 ≤ x ∧ x < 256) (hn : l.length < 2 ^ 63) :
  ON 6 [p.v, .int .i64 (b : Int), .fz 1 (bys .u8 l)] (fun v => ∃ B L, FullB p B ∧ EndB p B ∧ L.Perm (mB 0 B) ∧ L.length ≤ 20 ∧ (∀ m ∈ L, -192 ≤ m.m ∧ m.m ≤ 192) ∧ v = .tup [.fz 4 (ems L), .bool true]) := by
 refine IFun.of_bodyW false 23 [40, 41, 88, 90, 98, 99, 100, 101, 102, 143, 156] Tryz.func6 rfl Tryz.call6 rfl fun R hR => ?_
 have hpt := plB_t hp
 have hA : ∀ L : List Em, L.length ≤ 20 → ArgE p L := fun L h => ⟨fun _ => by omega, by omega, by omega⟩
 have cO := fun L h => Over_fun p L (hA L h)
 have cD := fun L n h => Draw9_fun p L n (hA L h)
 have cN := fun L h => Open_fun p L (hA L h)
 have cP := fun f hf => played_fun l hl hn f b hf hb
 simp only [Pl.v] at *
 refine IWp.seqI ?_
 simp [go_sem]
 refine IWp.seqI ?_
 simp [go_sem]
 refine IWp.ownNilS 4 8 (by decide) rfl ?_
 simp [go_sem]
 refine IWp.freeze 1 4 [] [(0, .agg [.int .i64 p.t, .int .i64 p.r, .int .i64 p.b, .fz 1 (ints p.s)]), (1, .int .i64 (b : Int)), (2, .fz 1 (bys .u8 l)), (3, .ptr 0 1 0 0), (6, .nils), (7, .bool false), (8, .fz 4 [])] [.rows 4 [[.int .i64 p.t, .int .i64 p.r, .int .i64 p.b, .fz 1 (ints p.s)]], .dead] (by simp) (by simp [go_sem]) (by simp [go_sem]) (by simp [go_sem]) ?_
 refine IWp.seqI ?_
 simp [go_sem]
 refine IWp.seqI ?_
 simp [go_sem]
 refine IWp.seqI ?_
 simp [go_sem]
 refine IWp.block ?_
 refine IWp.loopI (α := (List Er × List Em) × List ((Int × Int) × Int) × List (Int × Int)) (fun a => (⟨false, 168, 23, [40, 41, 88, 90, 98, 99, 100, 101, 102, 143, 156], glT, [(1, .int .i64 (b : Int)), (2, .fz 1 (bys .u8 l)), (3, .ptr 0 1 0 0), (8, .fz 4 (ems a.1.2)), (9, .map 2), (10, .map 3), (11, .int .i64 (a.1.1.length : Int))], []⟩, [.rows 4 [[.int .i64 p.t, .int .i64 p.r, .int .i64 p.b, .fz 1 (ints p.s)]], .dead, .map (enP a.2.1), .map (enI a.2.2)]))
  (fun a => (FullB p a.1.1 ∧ a.1.2.Perm (mB 0 a.1.1) ∧ a.1.2.length ≤ 4 * a.1.1.length ∧ ∀ m ∈ a.1.2, -192 ≤ m.m ∧ m.m ≤ 192) ∧ InvMet (metT a.1.1) a.2.1 ∧ InvBye a.1.1 a.2.2) (fun a => p.r.toNat - a.1.1.length) (([], []), [], []) ⟨⟨⟨hp, trivial, by simp, by simp, by simp⟩, by simp [mB], by simp, by simp⟩, fun a b h => absurd rfl h, fun a h => absurd rfl h⟩ (by simp [go_sem, ems, mp]) ?_
 rintro ⟨⟨B, L⟩, S, S'⟩ ⟨⟨hB, hL, hLl, hLm⟩, hM, hY⟩
 simp only at hB hL hLl hLm hM hY
 have hBl := hB.len
 have hLb : L.length ≤ 20 := by omega
 refine IWp.shut fun Q hQ => ?_
 refine IWp.seq ?_
 refine IWp.block ?_
 rcases hB.go with hend | ⟨d, y, hN⟩
 ·have hov := hB.done hend hL
  have c1 := cO L hLb
  rw [hov] at c1
  have hr1 : ¬ p.r < (B.length : Int) := by omega
  refine IWp.seqI ?_
  simp [go_sem]
  refine c1.callF (by simp [go_sem]) ?_
  rintro _ rfl
  simp [go_sem, hr1]
  refine IWp.seq ?_
  refine IWp.now ?_
  simp [go_sem, hr1]
  refine IWp.seq ?_
  refine IWp.now ?_
  simp [go_sem]
  subst hQ
  simp [go_sem]
  exact hR _ _ _ ⟨B, L, hB, hend, hL, hLb, hLm, rfl⟩ (by simp [go_sem])
 ·obtain ⟨e1, e2, e3⟩ := hN.found hL
  have c1 := cO L hLb
  have c2 := cD L B.length hLb
  have c3 := cN L hLb
  rw [e1] at c1
  rw [e2] at c2
  rw [e3] at c3
  have hr1 : ¬ p.r < (B.length : Int) := by omega
  refine IWp.seqI ?_
  simp [go_sem]
  refine c1.callF (by simp [go_sem]) ?_
  rintro _ rfl
  simp [go_sem, hr1]
  refine IWp.seq ?_
  refine IWp.now ?_
  simp [go_sem, hr1]
  refine IWp.seq ?_
  refine IWp.now ?_
  simp [go_sem]
  refine IWp.seqI ?_
  simp [go_sem]
  refine c2.callM (by simp [go_sem]) ?_
  rintro _ rfl
  simp [go_sem, drawV]
  refine IWp.seqI ?_
  simp [go_sem]
  refine c3.callF (by simp [go_sem]) ?_
  rintro _ rfl
  simp [go_sem]
  have hdl := hN.dlen
  have hby := hN.bye
  have w1 : IntKind.i64.wrap (2 * (d.length : Int)) = 2 * d.length := wrap64 (by omega) (by omega)
  have w2 : p.t.tmod 2 = p.t % 2 := Int.tmod_eq_emod_of_nonneg (by omega)
  have w3 : IntKind.i64.wrap (p.t % 2) = p.t % 2 := wrap64 (by omega) (by omega)
  have w4 : IntKind.i64.wrap (p.t - p.t % 2) = p.t - p.t % 2 := wrap64 (by omega) (by omega)
  have w5 : 2 * (d.length : Int) = p.t - p.t % 2 := by omega
  have w6 : (¬ y = 0) = (p.t % 2 = 1) := by
   refine propext ⟨fun h => ?_, fun h h0 => ?_⟩
   ·apply Decidable.byContradiction
    intro hc
    exact h (hby.1 (by omega))
   ·have := (hby.2 (by omega)).1
    omega
  have hy0 : y = 0 ∨ 0 < y := by
   rcases (by omega : p.t.toNat % 2 = 0 ∨ p.t.toNat % 2 = 1) with h2 | h2
   ·exact .inl (hby.1 h2)
   ·have := (hby.2 h2).1; omega
  have w7 : (y != 0) = (p.t % 2 == 1) := by
   rw [Bool.eq_iff_iff]
   simp only [bne_iff_ne, ne_eq, beq_iff_eq]
   rw [w6]
  have w0 : IntKind.i64.wrap 0 = 0 := by decide
  refine IWp.seq ?_
  refine IWp.now ?_
  simp [go_sem, w0, w1, w2, w3, w4, w5, w7]
  obtain ⟨mg, hmg⟩ : ∃ mg, mgD l B.length b d = mg := ⟨_, rfl⟩
  refine IWp.meet (T := List (Int × Int)) (fun S2 => (⟨false, 168, 23, [40, 41, 88, 90, 98, 99, 100, 101, 102, 143, 156], glT, [(1, .int .i64 (b : Int)), (2, .fz 1 (bys .u8 l)), (3, .ptr 0 1 0 0), (8, .fz 4 (ems L)), (9, .map 2), (10, .map 3), (11, .int .i64 (B.length : Int)), (14, .fz 2 (prs d)), (17, .fz 2 (prs d))], []⟩, [.rows 4 [[.int .i64 p.t, .int .i64 p.r, .int .i64 p.b, .fz 1 (ints p.s)]], .dead, .map (enP S), .map (enI S2)])) (fun S2 => InvBye (B ++ [⟨d, y, mg⟩]) S2) (fun S2 hY2 => ?_) (fun Q2 hN2 _ _ => ?_)
  case refine_2 =>
   refine IWp.seqI ?_
   by_cases hy : y = 0
   ·simp [go_sem, hy]
    refine IWp.now ?_
    simp [go_sem]
    exact hN2 _ _ S' (by simp [go_sem]) hY.same
   ·have hyn := InvBye.none hY hN hy
    have hg : aget y (aset y 1 S') = some 1 := by rw [aget_aset, if_pos rfl]
    have u1 : IntKind.i64.wrap (0 + 1) = 1 := by decide
    have u2 : IntKind.i64.wrap 1 = 1 := by decide
    have hst := InvBye.step (r := ⟨d, y, mg⟩) hY (by simp only; omega) 1
    simp only at hst
    generalize hS2 : aset y 1 S' = S2 at *
    simp [go_sem, hy]
    refine IWp.now ?_
    simp [go_sem, mget_i, mset_i, hyn, hS2, hg, u1, u2]
    rw [if_neg hy]
    exact ⟨fun a b h => by simpa [go_sem, keyOK] using ok_i S' (a, b) h, fun a b h => by simpa [go_sem, keyOK] using ok_i S2 (a, b) h, hN2 _ _ S2 (by simp [go_sem]) hst⟩
  simp only
  clear hY w1 w2 w3 w4 w5 w6 w7 e1 e2 e3 c1 c2 c3
  have hB15 : B.length ≤ 5 := by omega
  have hd4 : d.length ≤ 4 := by omega
  have hfr := hN.fresh
  refine IWp.seqI ?_
  simp [go_sem]
  refine IWp.block ?_
  refine IWp.loopI (α := Nat × List ((Int × Int) × Int)) (fun a => (⟨false, 168, 23, [40, 41, 88, 90, 98, 99, 100, 101, 102, 143, 156], glT, [(1, .int .i64 (b : Int)), (2, .fz 1 (bys .u8 l)), (3, .ptr 0 1 0 0), (8, .fz 4 (ems ((rowM B.length (mg.take a.1)).reverse ++ L))), (9, .map 2), (10, .map 3), (11, .int .i64 (B.length : Int)), (17, .fz 2 (prs d)), (99, .fz 2 (prs d)), (100, .int .i64 (d.length : Int)), (101, .int .i64 (a.1 : Int))], []⟩, [.rows 4 [[.int .i64 p.t, .int .i64 p.r, .int .i64 p.b, .fz 1 (ints p.s)]], .dead, .map (enP a.2), .map (enI S2)]))
   (fun a => a.1 ≤ d.length ∧ InvMet (metT B ++ d.take a.1) a.2) (fun a => d.length - a.1) (0, S) ⟨by simp, by simpa using hM⟩ (by simp [go_sem, rowM]) ?_
  rintro ⟨i, S9⟩ ⟨hi, hM9⟩
  simp only at hi hM9
  refine IWp.shut fun Q3 hQ3 => ?_
  refine IWp.seqI ?_
  simp [go_sem]
  refine IWp.seq ?_
  by_cases h : i < d.length
  ·have v1 : IntKind.i64.wrap ((i : Int) + 1) = ((i + 1 : Nat) : Int) := by rw [wrap64 (by omega) (by omega)]; omega
   refine IWp.now ?_
   simp [go_sem, h]
   refine IWp.seq ?_
   refine IWp.block ?_
   refine IWp.seqI ?_
   simp [go_sem, h]
   have hmgl : mg.length = d.length := by rw [← hmg]; simp
   have hml : i < mg.length := by omega
   have hmi : mg[i] = (d[i], plM l (31 * B.length + 7 * i) b) := by simp only [← hmg]; exact mgD_get l B.length b h
   have hds := List.take_succ_eq_append_getElem h
   have hMn : aget (min d[i].1 d[i].2, max d[i].1 d[i].2) S9 = none := by
    refine hM9.none (K2 := d.drop (i + 1)) ?_
    rw [List.append_assoc, List.getElem_cons_drop, List.take_append_drop]
    exact hfr
   have hM10 := hM9.step (x := d[i]) 1
   rw [List.append_assoc, ← hds] at hM10
   have cp := cP (31 * B.length + 7 * i) (by omega)
   have bp := plM_bd l (31 * B.length + 7 * i) b hb
   have hLs : (rowM B.length (mg.take (i + 1))).reverse ++ L = ⟨B.length, d[i].1, d[i].2, plM l (31 * B.length + 7 * i) b⟩ :: ((rowM B.length (mg.take i)).reverse ++ L) := by
    rw [List.take_succ_eq_append_getElem hml, hmi]
    simp [rowM]
   have hLl2 : ((rowM B.length (mg.take i)).reverse ++ L).length ≤ 1000 := by
    simp only [List.length_append, List.length_reverse, rowM, List.length_map, List.length_take]
    omega
   generalize plM l (31 * B.length + 7 * i) b = mm at *
   generalize (rowM B.length (mg.take i)).reverse ++ L = L9 at *
   obtain ⟨x, hx⟩ : ∃ x, d[i] = x := ⟨_, rfl⟩
   simp only [hx] at hMn hM10 hLs ⊢
   obtain ⟨x1, x2⟩ := x
   simp only at hMn hM10 hLs ⊢
   obtain ⟨mn, hmn⟩ : ∃ mn, min x1 x2 = mn := ⟨_, rfl⟩
   obtain ⟨mx, hmx⟩ : ∃ mx, max x1 x2 = mx := ⟨_, rfl⟩
   have hmn' : (if x2 < x1 then x2 else x1) = mn := by rw [← hmn, Int.min_def]; split <;> split <;> omega
   have hmx' : (if x1 < x2 then x2 else x1) = mx := by rw [← hmx, Int.max_def]; split <;> split <;> omega
   rw [hmn, hmx] at hMn hM10
   have u1 : IntKind.i64.wrap (0 + 1) = 1 := by decide
   have u1' : IntKind.i64.wrap 1 = 1 := by decide
   obtain ⟨S10, hS10⟩ : ∃ S10, aset (mn, mx) 1 S9 = S10 := ⟨_, rfl⟩
   rw [hS10] at hM10
   have g3 : aget (mn, mx) S10 = some 1 := by rw [← hS10, aget_aset, if_pos rfl]
   refine IWp.seq ?_
   refine IWp.now ?_
   simp [go_sem]
   refine Drawn.incr 12 [106, 117] rfl rfl rfl rfl rfl (by decide +kernel) rfl ?_
   simp [go_sem, mget_p, mset_p, hmn', hmx', hMn, hS10, u1, u1']
   refine ⟨by decide +kernel, ?_⟩
   refine IWp.seq ?_
   refine IWp.now ?_
   simp [go_sem, mget_p, hmn', hmx', g3, h, hx]
   refine ⟨by decide +kernel, ?_⟩
   obtain ⟨N1, hN1⟩ : ∃ N1, 31 * B.length = N1 := ⟨_, rfl⟩
   obtain ⟨N2, hN2⟩ : ∃ N2, 7 * i = N2 := ⟨_, rfl⟩
   have t1 : IntKind.i64.wrap (31 * (B.length : Int)) = (N1 : Int) := by rw [wrap64 (by omega) (by omega)]; omega
   have t2 : IntKind.i64.wrap (7 * (i : Int)) = (N2 : Int) := by rw [wrap64 (by omega) (by omega)]; omega
   rw [hN1, hN2] at cp
   obtain ⟨N3, hN3⟩ : ∃ N3, N1 + N2 = N3 := ⟨_, rfl⟩
   have t3 : IntKind.i64.wrap ((N1 : Int) + (N2 : Int)) = (N3 : Int) := by rw [wrap64 (by omega) (by omega)]; omega
   rw [hN3] at cp
   refine IWp.seqI ?_
   simp [go_sem, t1, t2, t3]
   refine cp.callF (by simp [go_sem]) ?_
   rintro _ rfl
   simp [go_sem]
   refine IWp.seq ?_
   refine IWp.now ?_
   simp [go_sem]
   refine IWp.now ?_
   simp [go_sem]
   refine ⟨⟨by omega, fun r hr => ems_one r hr⟩, ?_⟩
   have hee : [IV.int .i64 (B.length : Int), IV.int .i64 x1, IV.int .i64 x2, IV.int .i64 mm] :: ems L9 = ems (⟨B.length, x1, x2, mm⟩ :: L9) := rfl
   have hlen : 1 + L9.length = ((⟨B.length, x1, x2, mm⟩ : Em) :: L9).length := by simp only [List.length_cons]; omega
   rw [hee, hlen]
   generalize (⟨B.length, x1, x2, mm⟩ : Em) :: L9 = L10 at *
   refine IWp.freeze 5 4 (ems L10) [(1, .int .i64 (b : Int)), (2, .fz 1 (bys .u8 l)), (3, .ptr 0 1 0 0), (8, .fz 4 (ems L10)), (9, .map 2), (10, .map 3), (11, .int .i64 (B.length : Int)), (17, .fz 2 (prs d)), (99, .fz 2 (prs d)), (100, .int .i64 (d.length : Int)), (101, .int .i64 (i : Int)), (102, .bool true), (20, .ptr 4 1 0 0), (19, .int .i64 (i : Int)), (106, .map 2), (117, .agg [.int .i64 mn, .int .i64 mx]), (143, .bool false), (21, .int .i64 mm), (22, .bool true), (156, .bool false)]
    [.rows 4 [[.int .i64 p.t, .int .i64 p.r, .int .i64 p.b, .fz 1 (ints p.s)]], .dead, .map (enP S10), .map (enI S2), .rows 2 [[.int .i64 x1, .int .i64 x2]], .dead] (by simp) (by simp [go_sem]) (by simp [go_sem]; exact (List.take_of_length_le (by simp)).symm) (by simp [go_sem]) ?_
   subst hQ3
   refine IWp.now ?_
   simp [go_sem]
   exact ⟨i + 1, S10, ⟨⟨by rw [hLs], v1⟩, rfl⟩, ⟨by omega, hM10⟩, by omega⟩
  ·obtain rfl : i = d.length := by omega
   subst hQ3
   refine IWp.now ?_
   simp [go_sem]
   subst hQ
   refine IWp.now ?_
   simp [go_sem]
   have hmgl : mg.length = d.length := by rw [← hmg]; simp
   have hBL := hN.len
   have hful := hN.snoc (S := mg) (by rw [← hmg]; exact mgD_keys _ _ _ _) (by rw [← hmg]; exact mgD_mr _ _ _ _ hb)
   have u1 : IntKind.i64.wrap ((B.length : Int) + 1) = ((B ++ [(⟨d, y, mg⟩ : Er)]).length : Int) := by rw [wrap64 (by omega) (by omega)]; simp
   have htk : mg.take d.length = mg := List.take_of_length_le (by omega)
   rw [htk]
   have hrl : (rowM B.length mg).length = d.length := by simp [rowM, hmgl]
   refine ⟨B ++ [⟨d, y, mg⟩], (rowM B.length mg).reverse ++ L, S9, S2, ⟨⟨rfl, u1⟩, rfl, rfl⟩, ⟨⟨hful, ?_, ?_, ?_⟩, ?_, hY2⟩, ?_⟩
   ·rw [mB_snoc]
    exact ((List.reverse_perm _).append hL).trans List.perm_append_comm
   ·simp only [List.length_append, List.length_reverse, List.length_singleton, hrl]
    omega
   ·intro m hm
    rcases List.mem_append.1 hm with hm | hm
    ·have h2 := (rowM_r (List.mem_reverse.1 hm)).2
     rw [← hmg] at h2
     obtain ⟨j, _, e⟩ := List.mem_map.1 h2
     have hpl := plM_bd l (31 * B.length + 7 * j) b hb
     have : m.m = plM l (31 * B.length + 7 * j) b := by rw [Prod.mk.injEq] at e; exact e.2.symm
     omega
    ·exact hLm m hm
   ·rw [metT_snoc]
    rw [List.take_length] at hM9
    exact hM9
   ·simp only [List.length_append, List.length_singleton]
    omega
end Go.Idl
namespace Go.Idl.K38
open Go.Proofs
def parF (t : Nat) : Frc := ⟨((t % 2 : Nat) : Int), ((1 + t % 2 * (1 + t / 2 % 3) : Nat) : Int)⟩
def parI (k : Nat) : Frc := if k = 0 then ⟨0, 1⟩ else ⟨1, (k : Int) + 1⟩
theorem parF_eq (t : Nat) : ∃ k, k < 4 ∧ parF t = parI k := by
 unfold parF parI
 rcases (by omega : t % 2 = 0 ∨ t % 2 = 1) with h | h
 ·exact ⟨0, by omega, by rw [h]; simp⟩
 ·refine ⟨1 + t / 2 % 3, by omega, ?_⟩
  rw [h, if_neg (by omega)]
  simp only [Nat.one_mul]
  congr 1
  omega
def carOK (f : Frc) (d : Int) : Bool := decide ((carryF f 50 d).2 = 0) && decide ((carryF f 50 (-d)) = (⟨-(carryF f 50 d).1.num, (carryF f 50 d).1.den⟩, 0)) && withinB (carryF f 50 d).1 (-100000) 100000 && decide ((carryF f 50 d).1.den ≤ 1000 ∧ -1000 ≤ (carryF f 50 d).1.num ∧ (carryF f 50 d).1.num ≤ 1000 ∧ -1000 ≤ (carryF f 50 d).1.den)
theorem carOK_all : ∀ k, k < 4 → ∀ j : Nat, j < 385 → carOK (parI k) ((j : Int) - 192) = true := by decide +kernel
theorem car_facts {k : Nat} (hk : k < 4) {p : Pl} {l : List Em} {a b : Int} (hc : (chkR p l).2 = 0) (hm : ∀ m ∈ l, -192 ≤ m.m ∧ m.m ≤ 192) (ha : 1 ≤ a ∧ a ≤ p.t) (hb : 1 ≤ b ∧ b ≤ p.t) (hne : a ≠ b) :
  ∃ c : Frc, carE p l a b (parI k) 50 = (c, 0) ∧ carE p l b a (parI k) 50 = (⟨-c.num, c.den⟩, 0) ∧ withinB c (-100000) 100000 = true ∧ (-1000 ≤ c.num ∧ c.num ≤ 1000) ∧ -1000 ≤ c.den ∧ c.den ≤ 1000 := by
 have h1 := mgT_bd (a := a) (b := b) (N := 192) (l := l) (s := 0) (by omega) hm ⟨by omega, by omega⟩
 have h2 : mgT b a l = -mgT a b l := by
  have := mgT_neg (a := a) (b := b) hne l 0
  simpa [mgT] using this
 obtain ⟨d, hd⟩ : ∃ d, mgT a b l = d := ⟨_, rfl⟩
 unfold mgT at hd h2
 rw [hd] at h1
 rw [hd] at h2
 have hk2 := carOK_all k hk (d + 192).toNat (by omega)
 rw [show (((d + 192).toNat : Nat) : Int) - 192 = d by omega] at hk2
 unfold carOK at hk2
 simp only [Bool.and_eq_true, decide_eq_true_eq] at hk2
 obtain ⟨⟨⟨e1, e2⟩, e3⟩, e4, e5, e6, e7⟩ := hk2
 have hcl : ∀ x : Int, -192 ≤ x → x ≤ 192 → clampM x = x := fun x hx hy => by
  unfold clampM
  rw [if_neg (by omega : ¬ x < -100000), if_neg (by omega)]
 have hn1 : ¬ (a < 1 ∨ p.t < a ∨ b < 1 ∨ p.t < b ∨ a = b) := by omega
 have hn2 : ¬ (b < 1 ∨ p.t < b ∨ a < 1 ∨ p.t < a ∨ b = a) := by omega
 refine ⟨(carryF (parI k) 50 d).1, ?_, ?_, e3, ⟨e5, e6⟩, e7, e4⟩
 ·unfold carE mgT
  rw [if_neg (by omega), if_neg hn1, hd, hcl d (by omega) (by omega), if_neg (by omega)]
 ·unfold carE mgT
  rw [if_neg (by omega), if_neg hn2, h2, hcl (-d) (by omega) (by omega), e2, if_neg (by simp)]
theorem next_front {n : Nat} (h1 : 2 ≤ n) (h2 : n ≤ 64) {l : List Rs} (hG : Good n l) {m : Mt} (hm : m ∈ opens n l) {x : Rs} (hr : x.r = m.r) (hi : x.i = m.i) (ha : 0 ≤ x.a ∧ x.a ≤ 100000) (hb : 0 ≤ x.b ∧ x.b ≤ 100000) (hw : withinB x.f (-100000) 100000 = true) : Good n (x :: l) := by
 obtain ⟨q, i, p1, p2, f⟩ := opens_facts h1 h2 hG hm
 have hs : Good n (l ++ [x]) := by
  refine hG.snoc (q := q) (i := i) (isM_key.2 ⟨hr.trans f.mr, hi.trans f.mi⟩) ?_ f.nd f.dn
  have hmi := f.mi
  have hii := f.hi
  unfold badX
  rw [hr, f.mr, mat_in f.hq, hw]
  simp only [Bool.true_eq_false, or_false]
  omega
 exact hs.perm (List.perm_append_comm (l₁ := [x]) (l₂ := l))
theorem front_fit {n : Nat} (h1 : 2 ≤ n) (h2 : n ≤ 64) {l : List Rs} (hG : Good n l) {m : Mt} (hm : m ∈ opens n l) {x : Rs} (hr : x.r = m.r) (hi : x.i = m.i) (ha : 0 ≤ x.a ∧ x.a ≤ 100000) (hb : 0 ≤ x.b ∧ x.b ≤ 100000) (hf : FitF x.f) : FitR x := by
 have := opens_bd h1 h2 hG hm
 exact ⟨by omega, by omega, by omega, by omega, hf⟩
theorem ko_end {n : Nat} (h1 : 2 ≤ n) (h2 : n ≤ 64) {l : List Rs} (hG : Good n l) (hl : l.length = n - 1) :
  opens n l = [] ∧ (placesG n l).length = n ∧ ∃ w : Int, winV (stW n l) ((rnd n : Int) - 1) 0 = (w, 0) ∧ (1 ≤ w ∧ w ≤ n) ∧ (∀ t : Nat, t < n → 1 ≤ (placesG n l).getD t 0 ∧ ((placesG n l).getD t 0 = 1 ↔ (t : Int) + 1 = w)) := by
 refine ⟨(over_iff h1 h2 hG).2 hl, placesG_len n l, ?_⟩
 obtain ⟨v, hv, hv1, hv2, hpl, hno⟩ := champ_ex h1 h2 hG hl
 have hr := (rnd_bd h1).1
 have hd := (all_done h1 h2 hG).1 hl (rnd n - 1) 0 (by omega) (Nat.pow_pos (by decide))
 have hI := (good_state h1 h2 hG).2
 have hg := hI.yes (rnd n - 1) 0 ((doneD_iff (ordN_ok l) (fun e => Nat.pow_pos (by decide))).2 hd)
 rw [hv] at hg
 have hg2 : aget ((rnd n : Int) - 1, 0) (stW n l) = some v := by
  rw [show ((rnd n - 1 : Nat) : Int) = (rnd n : Int) - 1 by omega] at hg
  exact hg
 refine ⟨v.1, by unfold winV; rw [hg2], ⟨hv1, hv2⟩, fun t ht => ?_⟩
 have hp := teams_perm h1 h2 hG hl ⟨hv1, hv2⟩ hno
 have hmem : (t : Int) + 1 ∈ v.1 :: losers n l := hp.mem_iff.2 (List.mem_map.2 ⟨t, List.mem_range.2 ht, rfl⟩)
 have hin := places_in h1 h2 hG t ht
 by_cases he : (t : Int) + 1 = v.1
 ·have : (v.1 - 1).toNat = t := by omega
  rw [this] at hpl
  rw [hpl]
  exact ⟨by omega, fun _ => he, fun _ => rfl⟩
 ·rcases List.mem_cons.1 hmem with h | h
  ·exact absurd h he
  ·have := hin.2 h
   exact ⟨by omega, fun h' => by omega, fun h' => absurd h' he⟩
end Go.Idl.K38
