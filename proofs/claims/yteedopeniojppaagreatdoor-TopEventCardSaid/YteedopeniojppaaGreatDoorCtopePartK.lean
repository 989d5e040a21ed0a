import Derived.Test.YteedopeniojppaaGreatDoorCtopePartD
set_option linter.all false
set_option maxHeartbeats 16000000
set_option maxRecDepth 40000
namespace Go.Idl.K38
open Go.Proofs
def rnd (n : Nat) : Nat := if n ≤ 1 then 0 else if n ≤ 2 then 1 else if n ≤ 4 then 2 else if n ≤ 8 then 3 else if n ≤ 16 then 4 else if n ≤ 32 then 5 else 6
theorem bitLen_rnd : ∀ n, n < 65 → 0 < n → Lib.bitLen (n - 1) = rnd n := by decide
theorem rounds38_fun (n : Nat) (h1 : 1 ≤ n) (h2 : n ≤ 64) : FN 38 [.int .i64 (n : Int)] (fun v => v = .int .i64 (rnd n)) := by
 refine IFun.of_bodyZ false 3 [] Tryz.func38 rfl Tryz.call38 rfl fun R hR => ?_
 have cl := len_fun (n - 1) (by omega)
 rw [bitLen_rnd n (by omega) (by omega)] at cl
 have w1 : IntKind.i64.wrap ((n : Int) - 1) = ((n - 1 : Nat) : Int) := by rw [wrap64 (by omega) (by omega)]; omega
 have w2 : IntKind.u64.wrap ((n - 1 : Nat) : Int) = ((n - 1 : Nat) : Int) := by simp [IntKind.wrap, IntKind.bits, IntKind.signed]; omega
 obtain ⟨m, hm⟩ : ∃ m, n - 1 = m := ⟨_, rfl⟩
 rw [hm] at cl w1 w2
 simp [go_sem, w1, w2]
 refine cl.callF (by simp [go_sem]) ?_
 rintro _ rfl
 simp [go_sem]
 exact hR _ _ _ rfl (by simp [go_sem])
theorem teams38_fun (n : Int) : FN 37 [.int .i64 n] (fun v => v = .bool (decide (2 ≤ n) && decide (n ≤ 64))) := by
 refine IFun.of_bodyZ false 3 [] Tryz.func37 rfl Tryz.call37 rfl fun R hR => ?_
 simp [go_sem]
 exact hR _ _ _ rfl (by simp [go_sem])
def dbc (c : Int) (l : List Int) : List Int := l.flatMap fun s => [s, c - s]
def dbl (l : List Int) : List Int := dbc (2 * l.length + 1) l
theorem dbc_len (c : Int) : ∀ l : List Int, (dbc c l).length = 2 * l.length
 | [] => rfl
 | a :: l => by have := dbc_len c l; simp only [dbc, List.flatMap_cons, List.length_append, List.length_cons, List.length_nil] at this ⊢; omega
theorem dbc_succ {c : Int} {l : List Int} {i : Nat} (h : i < l.length) : dbc c (l.take (i + 1)) = dbc c (l.take i) ++ [l[i], c - l[i]] := by
 unfold dbc
 rw [List.take_succ_eq_append_getElem h, List.flatMap_append]; simp
def ordL : Nat → List Int
 | 0 => [1]
 | k + 1 => dbl (ordL k)
theorem ordL_len : ∀ k, (ordL k).length = 2 ^ k
 | 0 => rfl
 | k + 1 => by show (dbc _ (ordL k)).length = _; rw [dbc_len, ordL_len k, Nat.pow_succ]; omega
theorem double_fun (l : List Int) (hl : l.length ≤ 2 ^ 20) (hb : ∀ x ∈ l, -2 ^ 30 ≤ x ∧ x ≤ 2 ^ 30) : FN 97 [.fz 1 (ints l)] (fun v => v = .fz 1 (ints (dbl l))) := by
 refine IFun.of_bodyZ false 6 [10, 11, 12, 13] Tryz.func97 rfl Tryz.call97 rfl fun R hR => ?_
 have w1 : IntKind.i64.wrap (2 * (l.length : Int)) = 2 * l.length := wrap64 (by omega) (by omega)
 obtain ⟨c, hc⟩ : ∃ c : Int, 2 * (l.length : Int) + 1 = c := ⟨_, rfl⟩
 have w2 : IntKind.i64.wrap (2 * (l.length : Int) + 1) = c := by rw [hc]; exact wrap64 (by omega) (by omega)
 have e : dbl l = dbc c l := by unfold dbl; rw [hc]
 rw [e] at hR
 have h0 : ¬ (2 * (l.length : Int)) < 0 := by omega
 have hT : (2 * (l.length : Int)).toNat = 2 * l.length := by omega
 simp [go_sem, w1, hT]
 refine ⟨by omega, ?_⟩
 refine IWp.loopT (α := Nat) (fun i => (⟨false, 28, 6, [10, 11, 12, 13], glT, [(0, .fz 1 (ints l)), (2, .nils), (3, .sl 0 (2 * i) 0 (2 * i) none), (10, .fz 1 (ints l)), (11, .int .i64 l.length), (12, .int .i64 (i : Int))], []⟩, [.rows 1 (ints (dbc c (l.take i)))]))
  (fun i => i ≤ l.length) (fun i => l.length - i) 0 (by simp) (by simp [go_sem, dbc]) ?_
 intro i hi
 have hlen := dbc_len c (l.take i)
 rw [List.length_take, Nat.min_eq_left hi] at hlen
 by_cases h : i < l.length
 ·have h' : (i : Int) < l.length := by omega
  have v1 : IntKind.i64.wrap ((i : Int) + 1) = i + 1 := wrap64 (by omega) (by omega)
  have hs := dbc_succ (c := c) h
  have hx := hb l[i] (List.getElem_mem h)
  obtain ⟨x, hxe⟩ : ∃ x, l[i] = x := ⟨_, rfl⟩
  rw [hxe] at hs hx
  have v2 : IntKind.i64.wrap (c - x) = c - x := wrap64 (by omega) (by omega)
  generalize dbc c (l.take i) = T at *
  simp [go_sem, h, h', hxe, w1, w2, v1, v2]
  refine ⟨⟨by omega, by omega⟩, i + 1, ⟨⟨by omega, by omega⟩, ?_⟩, by omega, by omega⟩
  rw [hs, ints_append]; rfl
 ·obtain rfl : i = l.length := by omega
  rw [List.take_of_length_le (Nat.le_refl _)] at *
  generalize dbc c l = T at *
  simp [go_sem]
  exact hR _ _ _ rfl (by simp [go_sem, hlen])
end Go.Idl.K38
namespace Go.Idl.K38
open Go.Proofs
theorem ordL_bd : ∀ k, k ≤ 6 → ∀ x ∈ ordL k, 1 ≤ x ∧ x ≤ 64 := by decide
theorem rnd_bd {n : Nat} (h1 : 2 ≤ n) : 1 ≤ rnd n ∧ rnd n ≤ 6 := by unfold rnd; repeat' (split <;> try omega)
def zs (n : Int) (O : List Int) (i : Nat) : List Int := (O.take i).map (fun s => if n < s then 0 else s) ++ O.drop i
def seedsL (n : Nat) : List Int := (ordL (rnd n)).map fun s => if (n : Int) < s then 0 else s
theorem seedsL_len (n : Nat) : (seedsL n).length = 2 ^ rnd n := by simp [seedsL, ordL_len]
theorem zs_succ {n : Int} {O : List Int} {i : Nat} (h : i < O.length) : zs n O (i + 1) = if n < O[i] then (zs n O i).set i 0 else zs n O i := by
 have hl : ((O.take i).map fun s => if n < s then 0 else s).length = i := by simp; omega
 unfold zs
 rw [List.take_succ_eq_append_getElem h, List.map_append, List.drop_eq_getElem_cons h, List.append_assoc]
 split
 ·rename_i hlt
  rw [List.set_append, hl, if_neg (by omega), Nat.sub_self, List.set_cons_zero, List.map_singleton, if_pos hlt]
  rfl
 ·rename_i hlt
  simp [hlt]
theorem zs_at {n : Int} {O : List Int} {i : Nat} (h : i < O.length) (h2 : i < (zs n O i).length) : (zs n O i)[i] = O[i] := by
 have hl : ((O.take i).map fun s => if n < s then 0 else s).length = i := by simp; omega
 simp only [zs]
 rw [List.getElem_append_right (by omega), List.getElem_drop]
 simp only [hl, Nat.sub_self, Nat.add_zero]
theorem zs_len {n : Int} {O : List Int} {i : Nat} (h : i ≤ O.length) : (zs n O i).length = O.length := by simp [zs]; omega
theorem teamsB {n : Nat} (h1 : 2 ≤ n) (h2 : n ≤ 64) : FN 37 [.int .i64 (n : Int)] (fun v => v = .bool true) := by
 have := teams38_fun (n : Int)
 rwa [show (decide ((2 : Int) ≤ n) && decide ((n : Int) ≤ 64)) = true by simp; omega] at this
theorem ints_cut_all {l : List Int} {n : Nat} (h : l.length = n) : cutR 0 n (ints l) = ints l := by
 subst h; simp [cutR, ← ints_take]
theorem ints_q38 {l : List Int} {i : Nat} {x : Int} (h : i < l.length) (hx : l[i] = x) : (ints l)[i]?.getD [] = [.int .i64 x] := by
 rw [List.getElem?_eq_getElem (by simpa using h), Option.getD_some, ints_getElem, hx]
def seedSt (n r k : Nat) : Env × Heap := (⟨false, 35, 8, [10, 13, 14, 15, 20, 21, 22, 23, 29], glT, [(0, .int .i64 (n : Int)), (2, .nils), (3, .int .i64 0), (4, .func (.func 97) [] []), (5, .sl k (2 ^ k) 0 (2 ^ k) none), (13, .int .i64 (r : Int)), (14, .int .i64 (k : Int))], []⟩, List.replicate k .dead ++ [.rows 1 (ints (ordL k))])
theorem seeds_fun (n : Nat) (h1 : 2 ≤ n) (h2 : n ≤ 64) : FN 80 [.int .i64 (n : Int)] (fun v => v = .tup [.fz 1 (ints (seedsL n)), .int .i64 0]) := by
 refine IFun.of_bodyZ false 8 [10, 13, 14, 15, 20, 21, 22, 23, 29] Tryz.func80 rfl Tryz.call80 rfl fun R hR => ?_
 have cr := rounds38_fun n (by omega) h2
 obtain ⟨r1, r2⟩ := rnd_bd h1
 have eS : seedsL n = (ordL (rnd n)).map fun s => if (n : Int) < s then 0 else s := rfl
 obtain ⟨r, hr⟩ : ∃ r, rnd n = r := ⟨_, rfl⟩
 rw [hr] at cr r1 r2 eS
 rw [eS] at hR
 have ol := ordL_len
 have ob := ordL_bd
 have os : ∀ k, ordL (k + 1) = dbl (ordL k) := fun _ => rfl
 have o0 : ordL 0 = [1] := rfl
 simp [go_sem]
 refine (teamsB h1 h2).callF (by simp [go_sem]) ?_
 rintro _ rfl
 simp [go_sem]
 refine cr.callF (by simp [go_sem]) ?_
 rintro _ rfl
 simp [go_sem]
 refine IWp.loopT (α := Nat) (seedSt n r) (fun k => k ≤ r) (fun k => r - k) 0 (by simp) (by simp [go_sem, seedSt, o0, ints_cons]) ?_
 intro k hk
 by_cases hkr : k < r
 ·have hkr' : (k : Int) < r := by omega
  have v1 : IntKind.i64.wrap ((k : Int) + 1) = k + 1 := wrap64 (by omega) (by omega)
  have hlk := ol k
  have hbk := ob k (by omega)
  have hsk := os k
  have hlk2 := ol (k + 1)
  have cd := double_fun (ordL k) (by rw [hlk]; exact Nat.le_trans (Nat.pow_le_pow_right (by decide) (show k ≤ 6 by omega)) (by decide)) (fun x hx => by have := hbk x hx; omega)
  rw [← hsk] at cd
  rcases (by omega : k = 0 ∨ k = 1 ∨ k = 2 ∨ k = 3 ∨ k = 4 ∨ k = 5) with rfl | rfl | rfl | rfl | rfl | rfl
  all_goals
   simp [go_sem, seedSt]
   rw [if_pos (by omega)]
   refine cd.callOF (by simp [go_sem, hlk]) ?_
   rintro _ rfl
   refine ⟨fun v => v, 1, _, .here, by decide, rfl, by simp [go_sem], ?_⟩
   simp [go_sem, hlk2, seedSt]
   refine ⟨_, ⟨⟨⟨rfl, by decide⟩, by decide⟩, by simp [go_sem], by simp [go_sem]⟩, by omega, by omega⟩
 ·obtain rfl : k = r := by omega
  have hlk := ol k
  rcases (by omega : k = 1 ∨ k = 2 ∨ k = 3 ∨ k = 4 ∨ k = 5 ∨ k = 6) with rfl | rfl | rfl | rfl | rfl | rfl
  ·simp [go_sem, seedSt]
   refine ⟨hlk.symm, ?_⟩
   simp only [Nat.reducePow] at hlk
   generalize ordL 1 = O at *
   have z0 : zs n O 0 = O := by simp [zs]
   refine IWp.loopT (α := Nat) (fun i => (⟨false, 35, 8, [10, 13, 14, 15, 20, 21, 22, 23, 29], glT, [(0, .int .i64 (n : Int)), (2, .nils), (3, .int .i64 0), (5, .sl 1 2 0 2 none), (20, .sl 1 2 0 2 none), (21, .int .i64 2), (22, .int .i64 (i : Int))], []⟩, [.dead, .rows 1 (ints (zs n O i))]))
    (fun i => i ≤ 2) (fun i => 2 - i) 0 (by simp) (by simp [go_sem, z0]) ?_
   intro i hi
   have hzl := zs_len (n := (n : Int)) (O := O) (i := i) (by omega)
   by_cases h : i < 2
   ·have h' : (i : Int) < 2 := by omega
    have v1 : IntKind.i64.wrap ((i : Int) + 1) = i + 1 := wrap64 (by omega) (by omega)
    have hi2 : i < (zs n O i).length := by omega
    have hza := zs_at (n := (n : Int)) (O := O) (i := i) (by omega) hi2
    have hzs := zs_succ (n := (n : Int)) (O := O) (i := i) (by omega)
    have hiO : i < O.length := by rw [hlk]; exact h
    obtain ⟨x, hx⟩ : ∃ x, O[i]'hiO = x := ⟨_, rfl⟩
    rw [hx] at hza hzs
    have q := ints_q38 hi2 hza
    generalize zs n O i = Z at *
    by_cases hnx : (n : Int) < x
    ·rw [if_pos hnx] at hzs
     simp [go_sem, h, h', hzl, hlk, hza, q, hnx, v1]
     exact ⟨i + 1, ⟨rfl, by rw [hzs, ints_set]⟩, by omega, by omega⟩
    ·rw [if_neg hnx] at hzs
     simp [go_sem, h, h', hzl, hlk, hza, q, hnx, v1]
     exact ⟨i + 1, ⟨rfl, by rw [hzs]⟩, by omega, by omega⟩
   ·obtain rfl : i = 2 := by omega
    have e : zs n O 2 = O.map fun s => if (n : Int) < s then 0 else s := by
     unfold zs; rw [List.take_of_length_le (by omega), List.drop_of_length_le (by omega), List.append_nil]
    rw [e] at hzl ⊢
    generalize (O.map fun s => if (n : Int) < s then 0 else s) = Z at *
    have hcut := ints_cut_all (hzl.trans hlk)
    simp [go_sem]
    exact hR _ _ _ rfl (by simp [go_sem, hzl, hlk, hcut])
  ·simp [go_sem, seedSt]
   refine ⟨hlk.symm, ?_⟩
   simp only [Nat.reducePow] at hlk
   generalize ordL 2 = O at *
   have z0 : zs n O 0 = O := by simp [zs]
   refine IWp.loopT (α := Nat) (fun i => (⟨false, 35, 8, [10, 13, 14, 15, 20, 21, 22, 23, 29], glT, [(0, .int .i64 (n : Int)), (2, .nils), (3, .int .i64 0), (5, .sl 2 4 0 4 none), (20, .sl 2 4 0 4 none), (21, .int .i64 4), (22, .int .i64 (i : Int))], []⟩, [.dead, .dead, .rows 1 (ints (zs n O i))]))
    (fun i => i ≤ 4) (fun i => 4 - i) 0 (by simp) (by simp [go_sem, z0]) ?_
   intro i hi
   have hzl := zs_len (n := (n : Int)) (O := O) (i := i) (by omega)
   by_cases h : i < 4
   ·have h' : (i : Int) < 4 := by omega
    have v1 : IntKind.i64.wrap ((i : Int) + 1) = i + 1 := wrap64 (by omega) (by omega)
    have hi2 : i < (zs n O i).length := by omega
    have hza := zs_at (n := (n : Int)) (O := O) (i := i) (by omega) hi2
    have hzs := zs_succ (n := (n : Int)) (O := O) (i := i) (by omega)
    have hiO : i < O.length := by rw [hlk]; exact h
    obtain ⟨x, hx⟩ : ∃ x, O[i]'hiO = x := ⟨_, rfl⟩
    rw [hx] at hza hzs
    have q := ints_q38 hi2 hza
    generalize zs n O i = Z at *
    by_cases hnx : (n : Int) < x
    ·rw [if_pos hnx] at hzs
     simp [go_sem, h, h', hzl, hlk, hza, q, hnx, v1]
     exact ⟨i + 1, ⟨rfl, by rw [hzs, ints_set]⟩, by omega, by omega⟩
    ·rw [if_neg hnx] at hzs
     simp [go_sem, h, h', hzl, hlk, hza, q, hnx, v1]
     exact ⟨i + 1, ⟨rfl, by rw [hzs]⟩, by omega, by omega⟩
   ·obtain rfl : i = 4 := by omega
    have e : zs n O 4 = O.map fun s => if (n : Int) < s then 0 else s := by
     unfold zs; rw [List.take_of_length_le (by omega), List.drop_of_length_le (by omega), List.append_nil]
    rw [e] at hzl ⊢
    generalize (O.map fun s => if (n : Int) < s then 0 else s) = Z at *
    have hcut := ints_cut_all (hzl.trans hlk)
    simp [go_sem]
    exact hR _ _ _ rfl (by simp [go_sem, hzl, hlk, hcut])
  ·simp [go_sem, seedSt]
   refine ⟨hlk.symm, ?_⟩
   simp only [Nat.reducePow] at hlk
   generalize ordL 3 = O at *
   have z0 : zs n O 0 = O := by simp [zs]
   refine IWp.loopT (α := Nat) (fun i => (⟨false, 35, 8, [10, 13, 14, 15, 20, 21, 22, 23, 29], glT, [(0, .int .i64 (n : Int)), (2, .nils), (3, .int .i64 0), (5, .sl 3 8 0 8 none), (20, .sl 3 8 0 8 none), (21, .int .i64 8), (22, .int .i64 (i : Int))], []⟩, [.dead, .dead, .dead, .rows 1 (ints (zs n O i))]))
    (fun i => i ≤ 8) (fun i => 8 - i) 0 (by simp) (by simp [go_sem, z0]) ?_
   intro i hi
   have hzl := zs_len (n := (n : Int)) (O := O) (i := i) (by omega)
   by_cases h : i < 8
   ·have h' : (i : Int) < 8 := by omega
    have v1 : IntKind.i64.wrap ((i : Int) + 1) = i + 1 := wrap64 (by omega) (by omega)
    have hi2 : i < (zs n O i).length := by omega
    have hza := zs_at (n := (n : Int)) (O := O) (i := i) (by omega) hi2
    have hzs := zs_succ (n := (n : Int)) (O := O) (i := i) (by omega)
    have hiO : i < O.length := by rw [hlk]; exact h
    obtain ⟨x, hx⟩ : ∃ x, O[i]'hiO = x := ⟨_, rfl⟩
    rw [hx] at hza hzs
    have q := ints_q38 hi2 hza
    generalize zs n O i = Z at *
    by_cases hnx : (n : Int) < x
    ·rw [if_pos hnx] at hzs
     simp [go_sem, h, h', hzl, hlk, hza, q, hnx, v1]
     exact ⟨i + 1, ⟨rfl, by rw [hzs, ints_set]⟩, by omega, by omega⟩
    ·rw [if_neg hnx] at hzs
     simp [go_sem, h, h', hzl, hlk, hza, q, hnx, v1]
     exact ⟨i + 1, ⟨rfl, by rw [hzs]⟩, by omega, by omega⟩
   ·obtain rfl : i = 8 := by omega
    have e : zs n O 8 = O.map fun s => if (n : Int) < s then 0 else s := by
     unfold zs; rw [List.take_of_length_le (by omega), List.drop_of_length_le (by omega), List.append_nil]
    rw [e] at hzl ⊢
    generalize (O.map fun s => if (n : Int) < s then 0 else s) = Z at *
    have hcut := ints_cut_all (hzl.trans hlk)
    simp [go_sem]
    exact hR _ _ _ rfl (by simp [go_sem, hzl, hlk, hcut])
  ·simp [go_sem, seedSt]
   refine ⟨hlk.symm, ?_⟩
   simp only [Nat.reducePow] at hlk
   generalize ordL 4 = O at *
   have z0 : zs n O 0 = O := by simp [zs]
   refine IWp.loopT (α := Nat) (fun i => (⟨false, 35, 8, [10, 13, 14, 15, 20, 21, 22, 23, 29], glT, [(0, .int .i64 (n : Int)), (2, .nils), (3, .int .i64 0), (5, .sl 4 16 0 16 none), (20, .sl 4 16 0 16 none), (21, .int .i64 16), (22, .int .i64 (i : Int))], []⟩, [.dead, .dead, .dead, .dead, .rows 1 (ints (zs n O i))]))
    (fun i => i ≤ 16) (fun i => 16 - i) 0 (by simp) (by simp [go_sem, z0]) ?_
   intro i hi
   have hzl := zs_len (n := (n : Int)) (O := O) (i := i) (by omega)
   by_cases h : i < 16
   ·have h' : (i : Int) < 16 := by omega
    have v1 : IntKind.i64.wrap ((i : Int) + 1) = i + 1 := wrap64 (by omega) (by omega)
    have hi2 : i < (zs n O i).length := by omega
    have hza := zs_at (n := (n : Int)) (O := O) (i := i) (by omega) hi2
    have hzs := zs_succ (n := (n : Int)) (O := O) (i := i) (by omega)
    have hiO : i < O.length := by rw [hlk]; exact h
    obtain ⟨x, hx⟩ : ∃ x, O[i]'hiO = x := ⟨_, rfl⟩
    rw [hx] at hza hzs
    have q := ints_q38 hi2 hza
    generalize zs n O i = Z at *
    by_cases hnx : (n : Int) < x
    ·rw [if_pos hnx] at hzs
     simp [go_sem, h, h', hzl, hlk, hza, q, hnx, v1]
     exact ⟨i + 1, ⟨rfl, by rw [hzs, ints_set]⟩, by omega, by omega⟩
    ·rw [if_neg hnx] at hzs
     simp [go_sem, h, h', hzl, hlk, hza, q, hnx, v1]
     exact ⟨i + 1, ⟨rfl, by rw [hzs]⟩, by omega, by omega⟩
   ·obtain rfl : i = 16 := by omega
    have e : zs n O 16 = O.map fun s => if (n : Int) < s then 0 else s := by
     unfold zs; rw [List.take_of_length_le (by omega), List.drop_of_length_le (by omega), List.append_nil]
    rw [e] at hzl ⊢
    generalize (O.map fun s => if (n : Int) < s then 0 else s) = Z at *
    have hcut := ints_cut_all (hzl.trans hlk)
    simp [go_sem]
    exact hR _ _ _ rfl (by simp [go_sem, hzl, hlk, hcut])
  ·simp [go_sem, seedSt]
   refine ⟨hlk.symm, ?_⟩
   simp only [Nat.reducePow] at hlk
   generalize ordL 5 = O at *
   have z0 : zs n O 0 = O := by simp [zs]
   refine IWp.loopT (α := Nat) (fun i => (⟨false, 35, 8, [10, 13, 14, 15, 20, 21, 22, 23, 29], glT, [(0, .int .i64 (n : Int)), (2, .nils), (3, .int .i64 0), (5, .sl 5 32 0 32 none), (20, .sl 5 32 0 32 none), (21, .int .i64 32), (22, .int .i64 (i : Int))], []⟩, [.dead, .dead, .dead, .dead, .dead, .rows 1 (ints (zs n O i))]))
    (fun i => i ≤ 32) (fun i => 32 - i) 0 (by simp) (by simp [go_sem, z0]) ?_
   intro i hi
   have hzl := zs_len (n := (n : Int)) (O := O) (i := i) (by omega)
   by_cases h : i < 32
   ·have h' : (i : Int) < 32 := by omega
    have v1 : IntKind.i64.wrap ((i : Int) + 1) = i + 1 := wrap64 (by omega) (by omega)
    have hi2 : i < (zs n O i).length := by omega
    have hza := zs_at (n := (n : Int)) (O := O) (i := i) (by omega) hi2
    have hzs := zs_succ (n := (n : Int)) (O := O) (i := i) (by omega)
    have hiO : i < O.length := by rw [hlk]; exact h
    obtain ⟨x, hx⟩ : ∃ x, O[i]'hiO = x := ⟨_, rfl⟩
    rw [hx] at hza hzs
    have q := ints_q38 hi2 hza
    generalize zs n O i = Z at *
    by_cases hnx : (n : Int) < x
    ·rw [if_pos hnx] at hzs
     simp [go_sem, h, h', hzl, hlk, hza, q, hnx, v1]
     exact ⟨i + 1, ⟨rfl, by rw [hzs, ints_set]⟩, by omega, by omega⟩
    ·rw [if_neg hnx] at hzs
     simp [go_sem, h, h', hzl, hlk, hza, q, hnx, v1]
     exact ⟨i + 1, ⟨rfl, by rw [hzs]⟩, by omega, by omega⟩
   ·obtain rfl : i = 32 := by omega
    have e : zs n O 32 = O.map fun s => if (n : Int) < s then 0 else s := by
     unfold zs; rw [List.take_of_length_le (by omega), List.drop_of_length_le (by omega), List.append_nil]
    rw [e] at hzl ⊢
    generalize (O.map fun s => if (n : Int) < s then 0 else s) = Z at *
    have hcut := ints_cut_all (hzl.trans hlk)
    simp [go_sem]
    exact hR _ _ _ rfl (by simp [go_sem, hzl, hlk, hcut])
  ·simp [go_sem, seedSt]
   refine ⟨hlk.symm, ?_⟩
   simp only [Nat.reducePow] at hlk
   generalize ordL 6 = O at *
   have z0 : zs n O 0 = O := by simp [zs]
   refine IWp.loopT (α := Nat) (fun i => (⟨false, 35, 8, [10, 13, 14, 15, 20, 21, 22, 23, 29], glT, [(0, .int .i64 (n : Int)), (2, .nils), (3, .int .i64 0), (5, .sl 6 64 0 64 none), (20, .sl 6 64 0 64 none), (21, .int .i64 64), (22, .int .i64 (i : Int))], []⟩, [.dead, .dead, .dead, .dead, .dead, .dead, .rows 1 (ints (zs n O i))]))
    (fun i => i ≤ 64) (fun i => 64 - i) 0 (by simp) (by simp [go_sem, z0]) ?_
   intro i hi
   have hzl := zs_len (n := (n : Int)) (O := O) (i := i) (by omega)
   by_cases h : i < 64
   ·have h' : (i : Int) < 64 := by omega
    have v1 : IntKind.i64.wrap ((i : Int) + 1) = i + 1 := wrap64 (by omega) (by omega)
    have hi2 : i < (zs n O i).length := by omega
    have hza := zs_at (n := (n : Int)) (O := O) (i := i) (by omega) hi2
    have hzs := zs_succ (n := (n : Int)) (O := O) (i := i) (by omega)
    have hiO : i < O.length := by rw [hlk]; exact h
    obtain ⟨x, hx⟩ : ∃ x, O[i]'hiO = x := ⟨_, rfl⟩
    rw [hx] at hza hzs
    have q := ints_q38 hi2 hza
    generalize zs n O i = Z at *
    by_cases hnx : (n : Int) < x
    ·rw [if_pos hnx] at hzs
     simp [go_sem, h, h', hzl, hlk, hza, q, hnx, v1]
     exact ⟨i + 1, ⟨rfl, by rw [hzs, ints_set]⟩, by omega, by omega⟩
    ·rw [if_neg hnx] at hzs
     simp [go_sem, h, h', hzl, hlk, hza, q, hnx, v1]
     exact ⟨i + 1, ⟨rfl, by rw [hzs]⟩, by omega, by omega⟩
   ·obtain rfl : i = 64 := by omega
    have e : zs n O 64 = O.map fun s => if (n : Int) < s then 0 else s := by
     unfold zs; rw [List.take_of_length_le (by omega), List.drop_of_length_le (by omega), List.append_nil]
    rw [e] at hzl ⊢
    generalize (O.map fun s => if (n : Int) < s then 0 else s) = Z at *
    have hcut := ints_cut_all (hzl.trans hlk)
    simp [go_sem]
    exact hR _ _ _ rfl (by simp [go_sem, hzl, hlk, hcut])
end Go.Idl.K38
namespace Go.Idl.K38
open Go.Proofs
structure Mt where
 r : Int
 i : Int
 a : Int
 b : Int
 deriving DecidableEq
def Mt.c (x : Mt) : List IV := [.int .i64 x.r, .int .i64 x.i, .int .i64 x.a, .int .i64 x.b]
def Mt.v (x : Mt) : IV := .agg [.int .i64 x.r, .int .i64 x.i, .int .i64 x.a, .int .i64 x.b]
def mts (l : List Mt) : List (List IV) := mp Mt.c l
@[simp] theorem mts_length (l : List Mt) : (mts l).length = l.length := mp_length
@[simp] theorem mts_getElem (l : List Mt) (i : Nat) (h : i < (mts l).length) : (mts l)[i] = [.int .i64 (l[i]'(by simpa using h)).r, .int .i64 (l[i]'(by simpa using h)).i, .int .i64 (l[i]'(by simpa using h)).a, .int .i64 (l[i]'(by simpa using h)).b] := by simp [mts, mp, Mt.c]
theorem mts_snoc {l : List Mt} {x : Mt} : mts (l ++ [x]) = mts l ++ [[.int .i64 x.r, .int .i64 x.i, .int .i64 x.a, .int .i64 x.b]] := mp_snoc
@[go_sem] theorem mts_nil : mts [] = [] := rfl
@[go_sem] theorem ScR_mts {l : List Mt} : ScR (mts l) = True := eq_true (mp_sc (by simp [scal, Mt.c]))
@[go_sem] theorem BlR_mts {n : Nat} {l : List Mt} : BlR n (mts l) = True := eq_true (ScR.bl (mp_sc (by simp [scal, Mt.c])))
structure Rs where
 r : Int
 i : Int
 a : Int
 b : Int
 f : Frc
 deriving DecidableEq
def Rs.c (x : Rs) : List IV := [.int .i64 x.r, .int .i64 x.i, .int .i64 x.a, .int .i64 x.b, .int .i64 x.f.num, .int .i64 x.f.den]
def Rs.v (x : Rs) : IV := .agg [.int .i64 x.r, .int .i64 x.i, .int .i64 x.a, .int .i64 x.b, .int .i64 x.f.num, .int .i64 x.f.den]
def rss (l : List Rs) : List (List IV) := mp Rs.c l
@[simp] theorem rss_length (l : List Rs) : (rss l).length = l.length := mp_length
@[simp] theorem rss_getElem (l : List Rs) (i : Nat) (h : i < (rss l).length) : (rss l)[i] = [.int .i64 (l[i]'(by simpa using h)).r, .int .i64 (l[i]'(by simpa using h)).i, .int .i64 (l[i]'(by simpa using h)).a, .int .i64 (l[i]'(by simpa using h)).b, .int .i64 (l[i]'(by simpa using h)).f.num, .int .i64 (l[i]'(by simpa using h)).f.den] := by simp [rss, mp, Rs.c]
@[go_sem] theorem rss_nil : rss [] = [] := rfl
@[go_sem] theorem ClR_rss {l : List Rs} : ClR (rss l) = True := eq_true (ScR.cl (mp_sc (by simp [scal, Rs.c])))
@[go_sem] theorem BlR_rss {n : Nat} {l : List Rs} : BlR n (rss l) = True := eq_true (ScR.bl (mp_sc (by simp [scal, Rs.c])))
def isM (q i : Nat) (x : Rs) : Bool := decide (x.r = (q : Int) ∧ x.i = (i : Int))
theorem roundsY_fun (n : Nat) (h1 : 2 ≤ n) (h2 : n ≤ 64) : FN 22 [.int .i64 (n : Int)] (fun v => v = .tup [.int .i64 (rnd n), .int .i64 0]) := by
 refine IFun.of_bodyZ false 4 [6] Tryz.func22 rfl Tryz.call22 rfl fun R hR => ?_
 have cr := rounds38_fun n (by omega) h2
 simp [go_sem]
 refine (teamsB h1 h2).callF (by simp [go_sem]) ?_
 rintro _ rfl
 simp [go_sem]
 refine cr.callF (by simp [go_sem]) ?_
 rintro _ rfl
 simp [go_sem]
 exact hR _ _ _ rfl (by simp [go_sem])
end Go.Idl.K38
namespace Go.Idl.K38
open Go.Proofs
abbrev Won := List ((Int × Int) × (Int × Int))
def mkP (v : Int × Int) : IV := .agg [.int .i64 v.1, .int .i64 v.2]
def enW (W : Won) : List (IV × IV) := enM k2 mkP W
theorem mget_w (a b : Int) (W : Won) : mget (.agg [.int .i64 a, .int .i64 b]) (enW W) = (aget (a, b) W).map mkP := mget_en (kf := k2) keP (a, b) W
theorem mset_w (a b c d : Int) (W : Won) : mset (.agg [.int .i64 a, .int .i64 b]) (.agg [.int .i64 c, .int .i64 d]) (enW W) = enW (aset (a, b) (c, d) W) := mset_en (kf := k2) (vf := mkP) keP (a, b) (c, d) W
@[go_sem] theorem bl_w {n : Nat} {W : Won} : BlM n (enW W) = True := eq_true (en_bl (fun a => by simp [go_sem, k2]) (fun b => by simp [go_sem, mkP]) W)
@[go_sem] theorem enW_nil : enW [] = [] := rfl
theorem ok_w (W : Won) : ∀ e ∈ enW W, keyOK Tryz.prog 55 [.int .i64, .int .i64] e.1 = true := en_ok (fun a => by simp [go_sem, keyOK, k2]) W
@[go_sem] theorem ren_w {π : Nat → Nat} {W : Won} : renM π (enW W) = enW W := renM_cl fun e he => by
 simp only [enW, enM, List.mem_map] at he
 obtain ⟨p, _, rfl⟩ := he
 refine ⟨?_, ?_⟩
 ·simp only [k2]; exact .agg _ fun j c h => by
   have := List.mem_of_getElem? h; simp at this; rcases this with rfl | rfl <;> exact .int _ _
 ·simp only [mkP]; exact .agg _ fun j c h => by
   have := List.mem_of_getElem? h; simp at this; rcases this with rfl | rfl <;> exact .int _ _
def matN (r : Nat) (q : Int) : Nat := if 0 ≤ q ∧ q < r then 2 ^ (r - 1 - q.toNat) else 0
def evRow (r : Nat) (S : List Int) (m : Nat) : IObj := .rows 3 [[.int .i64 r, .fz 1 (ints S), .map m]]
theorem matches_reads (r : Nat) (S : List Int) (m b : Nat) (q : Int) (hr : r ≤ 6) (H : Heap) (hb : H[b]? = some (evRow r S m)) : ICalls Tryz.prog glT 33 [.ptr b 1 0 0, .int .i64 q] H (fun v σ => v = .int .i64 (matN r q) ∧ σ = H) := by
 refine ICalls.of_bodyE false 5 [14] Tryz.func33 rfl Tryz.call33 rfl fun R hR => ?_
 unfold evRow at hb
 by_cases h1 : q < 0
 ·have e : matN r q = 0 := by unfold matN; rw [if_neg (by omega)]
  rw [e] at hR
  simp [go_sem, h1, hb]
  exact hR _ _ ⟨rfl, rfl⟩
 ·by_cases h2 : (r : Int) ≤ q
  ·have e : matN r q = 0 := by unfold matN; rw [if_neg (by omega)]
   rw [e] at hR
   simp [go_sem, h1, h2, hb]
   exact hR _ _ ⟨rfl, rfl⟩
  ·have e : matN r q = 2 ^ (r - 1 - q.toNat) := by unfold matN; rw [if_pos (by omega)]
   obtain ⟨k, hk⟩ : ∃ k, r - 1 - q.toNat = k := ⟨_, rfl⟩
   rw [hk] at e
   rw [e] at hR
   have w1 : IntKind.i64.wrap ((r : Int) - 1) = r - 1 := wrap64 (by omega) (by omega)
   have w2 : IntKind.i64.wrap ((r : Int) - 1 - q) = k := by rw [wrap64 (by omega) (by omega)]; omega
   have hk6 : k < 6 := by omega
   have w3 : IntKind.i64.wrap (2 ^ min k 64) = ((2 ^ k : Nat) : Int) := by
    rcases (by omega : k = 0 ∨ k = 1 ∨ k = 2 ∨ k = 3 ∨ k = 4 ∨ k = 5) with rfl | rfl | rfl | rfl | rfl | rfl <;> decide
   rw [← w3] at hR
   simp [go_sem, h1, h2, hb, w1, w2]
   exact hR _ _ ⟨rfl, rfl⟩
def evH (r : Nat) (S : List Int) (W : Won) : Heap := [.map (enW W), evRow r S 0]
def sidW (S : List Int) (W : Won) (q i : Nat) : Int × Int × Bool :=
 if q = 0 then (S.getD (2 * i) 0, S.getD (2 * i + 1) 0, true)
 else (((aget ((q : Int) - 1, 2 * (i : Int)) W).getD (0, 0)).1, ((aget ((q : Int) - 1, 2 * (i : Int) + 1) W).getD (0, 0)).1, (aget ((q : Int) - 1, 2 * (i : Int)) W).isSome && (aget ((q : Int) - 1, 2 * (i : Int) + 1) W).isSome)
theorem sides_calls (r : Nat) (S : List Int) (W : Won) (q i : Nat) (hq : q ≤ 10) (hi : i ≤ 100) (hS : q = 0 → 2 * i + 1 < S.length) : ICalls Tryz.prog glT 34 [.ptr 1 1 0 0, .int .i64 (q : Int), .int .i64 (i : Int)] (evH r S W)
  (fun v σ => v = .tup [.int .i64 (sidW S W q i).1, .int .i64 (sidW S W q i).2.1, .bool (sidW S W q i).2.2] ∧ σ = evH r S W) := by
 refine ICalls.forget (ICalls.of_bodyE false 13 [14] Tryz.func34 rfl Tryz.call34 rfl fun R hR => ?_)
 have hok : ∀ (a b : IV), (a, b) ∈ enW W → keyOK Tryz.prog 55 [.int .i64, .int .i64] a = true := fun a b h => ok_w W (a, b) h
 unfold evH evRow at *
 have v2 : IntKind.i64.wrap (2 * (i : Int)) = 2 * i := wrap64 (by omega) (by omega)
 have v3 : IntKind.i64.wrap (2 * (i : Int) + 1) = 2 * i + 1 := wrap64 (by omega) (by omega)
 by_cases h0 : q = 0
 ·have hl := hS h0
  have e : sidW S W q i = (S.getD (2 * i) 0, S.getD (2 * i + 1) 0, true) := by unfold sidW; rw [if_pos h0]
  rw [e] at hR
  have j1 : 2 * i < S.length := by omega
  have x1 : S[2 * i] = S.getD (2 * i) 0 := by simp [j1]
  have x2 : S[2 * i + 1] = S.getD (2 * i + 1) 0 := by simp [hl]
  have q1 := ints_q38 j1 x1
  have q2 := ints_q38 hl x2
  have v2' : IntKind.i64.wrap (2 * (i : Int)) = ((2 * i : Nat) : Int) := by rw [v2]; simp
  have v3' : IntKind.i64.wrap (((2 * i : Nat) : Int) + 1) = ((2 * i + 1 : Nat) : Int) := by rw [wrap64 (by omega) (by omega)]; simp
  clear v2 v3
  generalize S.getD (2 * i) 0 = a at *
  generalize S.getD (2 * i + 1) 0 = b at *
  obtain ⟨J2, hJ2⟩ : ∃ J, 2 * i + 1 = J := ⟨_, rfl⟩
  obtain ⟨J1, hJ1⟩ : ∃ J, 2 * i = J := ⟨_, rfl⟩
  simp only [hJ2] at hl x2 q2 v3'
  simp only [hJ1] at j1 x1 q1 v2' v3'
  subst h0
  simp [go_sem, v2', v3', j1, hl, x1, x2, q1, q2]
  refine ⟨by decide +kernel, ?_⟩
  refine hR _ _ ⟨_, ?_, rfl, rfl⟩
  simp [go_sem]
 ·have h0' : ¬ (q : Int) = 0 := by omega
  have v1 : IntKind.i64.wrap ((q : Int) - 1) = q - 1 := wrap64 (by omega) (by omega)
  have g1 := mget_w ((q : Int) - 1) (2 * (i : Int)) W
  have g2 := mget_w ((q : Int) - 1) (2 * (i : Int) + 1) W
  have e : sidW S W q i = (((aget ((q : Int) - 1, 2 * (i : Int)) W).getD (0, 0)).1, ((aget ((q : Int) - 1, 2 * (i : Int) + 1) W).getD (0, 0)).1, (aget ((q : Int) - 1, 2 * (i : Int)) W).isSome && (aget ((q : Int) - 1, 2 * (i : Int) + 1) W).isSome) := by unfold sidW; rw [if_neg h0]
  rw [e] at hR
  generalize aget ((q : Int) - 1, 2 * (i : Int)) W = A at *
  generalize aget ((q : Int) - 1, 2 * (i : Int) + 1) W = B at *
  cases A with
  | none =>
   cases B with
   | none =>
    simp [go_sem, h0, h0', v1, v2, v3, g1, g2]
    refine ⟨fun a b h => by simpa [go_sem, keyOK] using hok a b h, by decide +kernel, hR _ _ ⟨_, ?_, rfl, rfl⟩⟩
    simp [go_sem]
   | some b =>
    obtain ⟨b1, b2⟩ := b
    simp [go_sem, h0, h0', v1, v2, v3, g1, g2, mkP]
    refine ⟨fun a b h => by simpa [go_sem, keyOK] using hok a b h, by decide +kernel, hR _ _ ⟨_, ?_, rfl, rfl⟩⟩
    simp [go_sem]
  | some a =>
   obtain ⟨a1, a2⟩ := a
   cases B with
   | none =>
    simp [go_sem, h0, h0', v1, v2, v3, g1, g2, mkP]
    refine ⟨fun a b h => by simpa [go_sem, keyOK] using hok a b h, by decide +kernel, hR _ _ ⟨_, ?_, rfl, rfl⟩⟩
    simp [go_sem]
   | some b =>
    obtain ⟨b1, b2⟩ := b
    simp [go_sem, h0, h0', v1, v2, v3, g1, g2, mkP]
    refine ⟨fun a b h => by simpa [go_sem, keyOK] using hok a b h, by decide +kernel, hR _ _ ⟨_, ?_, rfl, rfl⟩⟩
    simp [go_sem]
def begW (S : List Int) : Nat → Won
 | 0 => []
 | k + 1 => if S.getD (2 * k + 1) 0 = 0 then aset (0, (k : Int)) (S.getD (2 * k) 0, 0) (begW S k) else begW S k
def beg (n : Nat) : Won := begW (seedsL n) (2 ^ (rnd n - 1))
theorem mat_first {r : Nat} (h : 1 ≤ r) : matN r 0 = 2 ^ (r - 1) := by unfold matN; rw [if_pos (by omega)]; rfl
theorem begin_calls (n : Nat) (h1 : 2 ≤ n) (h2 : n ≤ 64) : ICalls Tryz.prog glT 58 [.int .i64 (n : Int)] [] (fun v σ => v = .ptr 1 1 0 0 ∧ σ = evH (rnd n) (seedsL n) (beg n)) := by
 refine ICalls.forget (ICalls.of_bodyE false 10 [22, 23, 24, 34] Tryz.func58 rfl Tryz.call58 rfl fun R hR => ?_)
 have cs := seeds_fun n h1 h2
 have cr := rounds38_fun n (by omega) h2
 have hl := seedsL_len n
 obtain ⟨r1, r2⟩ := rnd_bd h1
 have hp : 2 ^ rnd n = 2 * 2 ^ (rnd n - 1) := by rw [← Nat.pow_succ']; congr 1; omega
 have hp6 : 2 ^ (rnd n - 1) ≤ 2 ^ 5 := Nat.pow_le_pow_right (by decide) (by omega)
 have hmat := mat_first r1
 rw [hp] at hl
 unfold beg at hR
 generalize 2 ^ (rnd n - 1) = P at *
 generalize seedsL n = S at *
 generalize rnd n = r at *
 have hok : ∀ (W : Won) (a b : IV), (a, b) ∈ enW W → keyOK Tryz.prog 55 [.int .i64, .int .i64] a = true := fun W a b h => ok_w W (a, b) h
 simp [go_sem]
 refine cs.callF (by simp [go_sem]) ?_
 rintro _ rfl
 simp [go_sem]
 refine cr.callF (by simp [go_sem]) ?_
 rintro _ rfl
 simp [go_sem]
 refine (matches_reads r S 0 1 0 (by omega) _ rfl).mono ?_
 rintro _ _ ⟨rfl, rfl⟩
 simp [go_sem, hmat]
 refine IWp.loopT (α := Nat) (fun i => (⟨false, 45, 10, [22, 23, 24, 34], glT, [(2, .nilp), (5, .ptr 1 1 0 0), (22, .int .i64 (P : Int)), (23, .int .i64 (i : Int))], []⟩, evH r S (begW S i)))
  (fun i => i ≤ P) (fun i => P - i) 0 (by simp) (by simp [go_sem, evH, evRow, begW]) ?_
 intro i hi
 by_cases h : i < P
 ·have h' : (i : Int) < P := by omega
  have v1 : IntKind.i64.wrap ((i : Int) + 1) = i + 1 := wrap64 (by omega) (by omega)
  have hs : begW S (i + 1) = if S.getD (2 * i + 1) 0 = 0 then aset (0, (i : Int)) (S.getD (2 * i) 0, 0) (begW S i) else begW S i := rfl
  have csd := sides_calls r S (begW S i) 0 i (by omega) (by omega) (fun _ => by omega)
  have e : sidW S (begW S i) 0 i = (S.getD (2 * i) 0, S.getD (2 * i + 1) 0, true) := by unfold sidW; rw [if_pos rfl]
  rw [e] at csd
  have hm := mset_w 0 (i : Int) (S.getD (2 * i) 0) 0 (begW S i)
  have hokW := hok (begW S i)
  generalize S.getD (2 * i) 0 = a at *
  generalize S.getD (2 * i + 1) 0 = b at *
  obtain ⟨W, hW⟩ : ∃ W, begW S i = W := ⟨_, rfl⟩
  rw [hW] at hs csd hm hokW ⊢
  simp only [evH, evRow] at csd ⊢
  simp [go_sem, h, h']
  refine csd.at [0, 1] (by simp [go_sem]) ?_
  rintro _ _ ⟨rfl, rfl⟩
  by_cases hb : b = 0
  ·rw [if_pos hb] at hs
   simp [go_sem, hb, v1, hm]
   exact ⟨fun a b h => by simpa [go_sem, keyOK] using hokW a b h, i + 1, ⟨by omega, by rw [hs]⟩, by omega, by omega⟩
  ·rw [if_neg hb] at hs
   simp [go_sem, hb, v1]
   exact ⟨i + 1, ⟨by omega, by rw [hs]⟩, by omega, by omega⟩
 ·obtain rfl : i = P := by omega
  simp only [evH, evRow] at *
  simp [go_sem]
  refine hR _ _ ⟨_, ?_, rfl, rfl⟩
  simp [go_sem]
end Go.Idl.K38
namespace Go.Idl.K38
open Go.Proofs
def badX (r : Nat) (x : Rs) : Prop := x.i < 0 ∨ (matN r x.r : Int) ≤ x.i ∨ x.a < 0 ∨ 100000 < x.a ∨ x.b < 0 ∨ 100000 < x.b ∨ withinB x.f (-100000) 100000 = false
instance (r : Nat) (x : Rs) : Decidable (badX r x) := by unfold badX; infer_instance
def tkR (r : Nat) (S : List Int) (W : Won) (x : Rs) : Int × Won :=
 if badX r x then (381, W)
 else if ((aget (x.r, x.i) W).getD (0, 0)).2 ≠ 0 then (382, W)
 else if (sidW S W x.r.toNat x.i.toNat).2.2 = false ∨ (sidW S W x.r.toNat x.i.toNat).1 = 0 ∨ (sidW S W x.r.toNat x.i.toNat).2.1 = 0 then (383, W)
 else if cmpI x.f (whF (x.b - x.a)) < 0 ∨ (cmpI x.f (whF (x.b - x.a)) = 0 ∧ (sidW S W x.r.toNat x.i.toNat).2.1 < (sidW S W x.r.toNat x.i.toNat).1) then (0, aset (x.r, x.i) ((sidW S W x.r.toNat x.i.toNat).2.1, (sidW S W x.r.toNat x.i.toNat).1) W)
 else (0, aset (x.r, x.i) ((sidW S W x.r.toNat x.i.toNat).1, (sidW S W x.r.toNat x.i.toNat).2.1) W)
def FitR (x : Rs) : Prop := (-2 ^ 63 ≤ x.r ∧ x.r < 2 ^ 63) ∧ (-2 ^ 63 ≤ x.i ∧ x.i < 2 ^ 63) ∧ (-2 ^ 63 ≤ x.a ∧ x.a < 2 ^ 63) ∧ (-2 ^ 63 ≤ x.b ∧ x.b < 2 ^ 63) ∧ FitF x.f
theorem matN_le {r : Nat} (h : r ≤ 6) (q : Int) : matN r q ≤ 32 ∧ (0 < matN r q → 0 ≤ q ∧ q < r) := by
 unfold matN
 split
 ·refine ⟨?_, fun _ => by omega⟩
  exact Nat.le_trans (Nat.pow_le_pow_right (by decide) (show r - 1 - q.toNat ≤ 5 by omega)) (by decide)
 ·exact ⟨by decide, fun h => by omega⟩
theorem matches_ro (r : Nat) (S : List Int) (m b : Nat) (q : Int) (hr : r ≤ 6) (h : Heap) (hb : h[b]? = some (evRow r S m)) : readsOnly Tryz.prog glT 33 [.ptr b 1 0 0, .int .i64 q] h (.int .i64 (matN r q)) := fun H hH => by
 have h1 := hH b (by simp [go_sem])
 rw [show hget h b = some (evRow r S m) from hget_some.2 ⟨hb, rfl⟩] at h1
 exact matches_reads r S m b q hr H (hget_some.1 h1).1
theorem take_bad (r : Nat) (S : List Int) (W : Won) (x : Rs) (hr : 1 ≤ r ∧ r ≤ 6) (hx : FitR x) (hbad : badX r x) : ICalls Tryz.prog glT 59 [.ptr 1 1 0 0, x.v] (evH r S W)
  (fun v σ => v = .int .i64 (tkR r S W x).1 ∧ σ = evH r S (tkR r S W x).2) := by
 refine ICalls.forget (ICalls.of_bodyV false 13 [56, 76, 96, 110, 121] Tryz.func59 rfl Tryz.call59 rfl fun R hR => ?_)
 obtain ⟨f1, f2, f3, f4, f5⟩ := hx
 have cR := right_fun x.f f5.1 f5.2
 have cW := within38_fun x.f (-100000) 100000 f5 (by decide) (by decide)
 obtain ⟨m1, m2⟩ := matN_le hr.2 x.r
 have cM := fun h hb => matches_ro r S 0 1 x.r hr.2 h hb
 have hrw : rightB x.f = false → withinB x.f (-100000) 100000 = false := fun h => by unfold withinB; rw [h]; rfl
 have wl1 : IntKind.i64.wrap (-100000) = -100000 := by decide
 have e : tkR r S W x = (381, W) := by unfold tkR; rw [if_pos hbad]
 rw [e] at hR
 unfold badX at hbad
 have hR2 : R (.int .i64 381) (evH r S W ++ [.rows 6 [x.c]]) := hR _ _ ⟨evH r S W, by simp [go_sem, evH, evRow], rfl, rfl⟩
 clear hR
 obtain ⟨q, i, a, b, ⟨u, w⟩⟩ := x
 simp only [Frc.v, Rs.c] at *
 generalize rightB _ = RB at *
 generalize withinB _ _ _ = WB at *
 obtain ⟨m, hm⟩ : ∃ m, matN r q = m := ⟨_, rfl⟩
 rw [hm] at m1 m2 cM hbad
 simp only [evH, evRow, Rs.v] at *
 refine IWp.seqI ?_
 simp [go_sem]
 refine IWp.seqI ?_
 refine Drawn.intro (fun k => if k = 9 then .tup [.junk, .junk, .int .i64 (m : Int)] else if k = 35 then .bool RB else if k = 41 then .bool WB else .tup []) ?_
 by_cases b1 : i < 0
 ·simp [go_sem, b1]
  refine ⟨by decide +kernel, ?_⟩
  exact hR2
 by_cases b2 : (m : Int) ≤ i
 ·simp [go_sem, b1, b2]
  refine ⟨cM _ rfl, by decide +kernel, ?_⟩
  exact hR2
 by_cases b3 : a < 0
 ·simp [go_sem, b1, b2, b3]
  refine ⟨cM _ rfl, by decide +kernel, ?_⟩
  exact hR2
 by_cases b4 : 100000 < a
 ·simp [go_sem, b1, b2, b3, b4]
  refine ⟨cM _ rfl, by decide +kernel, ?_⟩
  exact hR2
 by_cases b5 : b < 0
 ·simp [go_sem, b1, b2, b3, b4, b5]
  refine ⟨cM _ rfl, by decide +kernel, ?_⟩
  exact hR2
 by_cases b6 : 100000 < b
 ·simp [go_sem, b1, b2, b3, b4, b5, b6]
  refine ⟨cM _ rfl, by decide +kernel, ?_⟩
  exact hR2
 cases RB with
 | false =>
  simp [go_sem, b1, b2, b3, b4, b5, b6, cR]
  refine ⟨cM _ rfl, by decide +kernel, ?_⟩
  exact hR2
 | true =>
  have hWB : WB = false := by
   rcases hbad with h | h | h | h | h | h | h
   all_goals first | exact h | (exfalso; omega)
  subst hWB
  simp [go_sem, b1, b2, b3, b4, b5, b6, cR, cW]
  refine ⟨cM _ rfl, by decide +kernel, ?_⟩
  exact hR2
end Go.Idl.K38
namespace Go.Idl.K38
open Go.Proofs
theorem take_good (r : Nat) (S : List Int) (W : Won) (x : Rs) (hr : 1 ≤ r ∧ r ≤ 6) (hS : S.length = 2 ^ r) (hx : FitR x) (hbad : ¬ badX r x) : ICalls Tryz.prog glT 59 [.ptr 1 1 0 0, x.v] (evH r S W)
  (fun v σ => v = .int .i64 (tkR r S W x).1 ∧ σ = evH r S (tkR r S W x).2) := by
 refine ICalls.forget (ICalls.of_bodyV false 13 [56, 76, 96, 110, 121] Tryz.func59 rfl Tryz.call59 rfl fun R hR => ?_)
 obtain ⟨f1, f2, f3, f4, f5⟩ := hx
 have cR := right_fun x.f f5.1 f5.2
 have cW := within38_fun x.f (-100000) 100000 f5 (by decide) (by decide)
 obtain ⟨m1, m2⟩ := matN_le hr.2 x.r
 have cM := fun h hb => matches_ro r S 0 1 x.r hr.2 h hb
 have hrw : rightB x.f = false → withinB x.f (-100000) 100000 = false := fun h => by unfold withinB; rw [h]; rfl
 have wl1 : IntKind.i64.wrap (-100000) = -100000 := by decide
 have hg : ¬ x.i < 0 ∧ ¬ (matN r x.r : Int) ≤ x.i ∧ ¬ x.a < 0 ∧ ¬ 100000 < x.a ∧ ¬ x.b < 0 ∧ ¬ 100000 < x.b ∧ withinB x.f (-100000) 100000 = true := by
  unfold badX at hbad
  refine ⟨fun h => hbad (by simp [h]), fun h => hbad (by simp [h]), fun h => hbad (by simp [h]), fun h => hbad (by simp [h]), fun h => hbad (by simp [h]), fun h => hbad (by simp [h]), ?_⟩
  cases h : withinB x.f (-100000) 100000 with
  | true => rfl
  | false => exact absurd (by simp [h]) hbad
 obtain ⟨b1, b2, b3, b4, b5, b6, b7⟩ := hg
 have hRt : rightB x.f = true := by
  cases h : rightB x.f with
  | true => rfl
  | false => have := hrw h; rw [b7] at this; cases this
 have e : tkR r S W x = (if ((aget (x.r, x.i) W).getD (0, 0)).2 ≠ 0 then (382, W)
  else if (sidW S W x.r.toNat x.i.toNat).2.2 = false ∨ (sidW S W x.r.toNat x.i.toNat).1 = 0 ∨ (sidW S W x.r.toNat x.i.toNat).2.1 = 0 then (383, W)
  else if cmpI x.f (whF (x.b - x.a)) < 0 ∨ (cmpI x.f (whF (x.b - x.a)) = 0 ∧ (sidW S W x.r.toNat x.i.toNat).2.1 < (sidW S W x.r.toNat x.i.toNat).1) then (0, aset (x.r, x.i) ((sidW S W x.r.toNat x.i.toNat).2.1, (sidW S W x.r.toNat x.i.toNat).1) W)
  else (0, aset (x.r, x.i) ((sidW S W x.r.toNat x.i.toNat).1, (sidW S W x.r.toNat x.i.toNat).2.1) W)) := by unfold tkR; rw [if_neg hbad]
 clear hbad
 rw [hRt] at cR
 rw [b7] at cW
 obtain ⟨hq1, hq2⟩ := m2 (by omega)
 have cC := cmpG_fun x.f (whF (x.b - x.a)) f5 (whF_fit (by omega))
 rw [show cmpR x.f (whF (x.b - x.a)) = (cmpI x.f (whF (x.b - x.a)), 0) by unfold cmpR; rw [if_pos ⟨hRt, whF_right _⟩]] at cC
 have cw2 := whole38_fun (x.b - x.a)
 have cS := sides_calls r S W x.r.toNat x.i.toNat (by omega) (by omega) (fun h0 => by
  have e0 : x.r = 0 := by omega
  have : matN r x.r = 2 ^ (r - 1) := by rw [e0]; exact mat_first hr.1
  have h2 : 2 ^ r = 2 * 2 ^ (r - 1) := by rw [← Nat.pow_succ']; congr 1; omega
  rw [hS, h2]; omega)
 rw [show ((x.r.toNat : Nat) : Int) = x.r by omega, show ((x.i.toNat : Nat) : Int) = x.i by omega] at cS
 have hok : ∀ (a b : IV), (a, b) ∈ enW W → keyOK Tryz.prog 55 [.int .i64, .int .i64] a = true := fun a b h => ok_w W (a, b) h
 have hmg := mget_w x.r x.i W
 have hms := fun c d => mset_w x.r x.i c d W
 rw [e] at hR
 clear e
 generalize sidW S W x.r.toNat x.i.toNat = sd at *
 generalize cmpI x.f (whF (x.b - x.a)) = C at *
 obtain ⟨sa, sb, so⟩ := sd
 obtain ⟨q, i, a, b, ⟨u, w⟩⟩ := x
 simp only [Frc.v, Rs.c, whF] at *
 have wd : IntKind.i64.wrap (b - a) = b - a := wrap64 (by omega) (by omega)
 obtain ⟨m, hm⟩ : ∃ m, matN r q = m := ⟨_, rfl⟩
 rw [hm] at m1 m2 cM b2
 simp only [evH, evRow, Rs.v] at *
 refine IWp.seqI ?_
 simp [go_sem]
 refine IWp.seqI ?_
 refine Drawn.intro (fun k => if k = 9 then .tup [.junk, .junk, .int .i64 (m : Int)] else if k = 35 then .bool true else if k = 41 then .bool true else .tup []) ?_
 simp [go_sem, b1, b2, b3, b4, b5, b6, cR, cW]
 refine ⟨cM _ rfl, by decide +kernel, ?_⟩
 obtain ⟨A, hA⟩ : ∃ A, aget (q, i) W = A := ⟨_, rfl⟩
 rw [hA] at hmg hR
 refine IWp.seqI ?_
 simp [go_sem]
 refine IWp.seqT (α := Unit) (fun _ => (⟨false, 132, 13, [56, 76, 96, 110, 121], glT, [(0, .ptr 1 1 0 0), (3, .ptr 2 1 0 0), (5, .ptr 3 1 0 0)], []⟩, [.map (enW W), evRow r S 0, .rows 6 [[.int .i64 q, .int .i64 i, .int .i64 a, .int .i64 b, .int .i64 u, .int .i64 w]], .rows 2 [[.int .i64 q, .int .i64 i]]])) (fun _ => (A.getD (0, 0)).2 = 0) ?_ ?_
 ·cases A with
  | none =>
   simp [go_sem, hmg, evRow]
   exact ⟨fun a b h => by simpa [go_sem, keyOK] using hok a b h, by decide +kernel⟩
  | some v =>
   obtain ⟨v1, v2⟩ := v
   by_cases hv : v2 = 0
   ·simp [go_sem, hmg, evRow, mkP, hv]
    exact ⟨fun a b h => by simpa [go_sem, keyOK] using hok a b h, by decide +kernel⟩
   ·simp [go_sem, hmg, evRow, mkP, hv]
    refine ⟨fun a b h => by simpa [go_sem, keyOK] using hok a b h, by decide +kernel, ?_⟩
    refine hR _ _ ⟨_, ?_, ?_, rfl⟩
    ·simp [go_sem, hv]
    ·simp [hv]
 rintro _ hA0
 rw [if_neg (show ¬ (A.getD (0, 0)).2 ≠ 0 from fun h => h hA0)] at hR
 clear hA hA0 hmg
 refine IWp.seqI ?_
 simp [go_sem, evRow]
 refine cS.at [0, 1] (by simp [go_sem]) ?_
 rintro _ _ ⟨rfl, rfl⟩
 simp [go_sem]
 by_cases hb : so = false ∨ sa = 0 ∨ sb = 0
 ·rw [if_pos hb] at hR
  refine IWp.now ?_
  rcases hb with hb | hb | hb
  ·simp [go_sem, hb]
   refine hR _ _ ⟨_, ?_, rfl, rfl⟩
   simp [go_sem]
  ·cases so with
   | false =>
    simp [go_sem, hb]
    refine hR _ _ ⟨_, ?_, rfl, rfl⟩
    simp [go_sem]
   | true =>
    simp [go_sem, hb]
    refine hR _ _ ⟨_, ?_, rfl, rfl⟩
    simp [go_sem]
  ·cases so with
   | false =>
    simp [go_sem, hb]
    refine hR _ _ ⟨_, ?_, rfl, rfl⟩
    simp [go_sem]
   | true =>
    by_cases ha : sa = 0
    ·simp [go_sem, hb, ha]
     refine hR _ _ ⟨_, ?_, rfl, rfl⟩
     simp [go_sem]
    ·simp [go_sem, hb, ha]
     refine hR _ _ ⟨_, ?_, rfl, rfl⟩
     simp [go_sem]
 ·rw [if_neg hb] at hR
  obtain ⟨g1, g2, g3⟩ : so = true ∧ ¬ sa = 0 ∧ ¬ sb = 0 := ⟨by cases so with | true => rfl | false => exact absurd (Or.inl rfl) hb, fun h => hb (Or.inr (Or.inl h)), fun h => hb (Or.inr (Or.inr h))⟩
  clear hb
  subst g1
  refine IWp.seqI ?_
  simp [go_sem, g2, g3]
  refine IWp.seqI ?_
  refine Drawn.intro (fun k => if k = 7 then .agg [.int .i64 (b - a), .int .i64 1] else if k = 8 then .tup [.int .i64 C, .int .i64 0] else .tup []) ?_
  simp [go_sem, wd, cw2, cC]
  refine ⟨by decide +kernel, ?_⟩
  refine IWp.seqI ?_
  simp [go_sem]
  by_cases hc : C < 0 ∨ C = 0 ∧ sb < sa
  ·rw [if_pos hc] at hR
   have hm := hms sb sa
   refine IWp.now ?_
   by_cases hc1 : C < 0
   ·simp [go_sem, hc1, hm]
    refine ⟨fun a b h => by simpa [go_sem, keyOK] using hok a b h, by decide +kernel, hR _ _ ⟨_, ?_, rfl, rfl⟩⟩
    simp [go_sem]
   ·obtain ⟨hc2, hc3⟩ : C = 0 ∧ sb < sa := by omega
    simp [go_sem, hc1, hc2, hc3, hm]
    refine ⟨fun a b h => by simpa [go_sem, keyOK] using hok a b h, by decide +kernel, hR _ _ ⟨_, ?_, rfl, rfl⟩⟩
    simp [go_sem]
  ·rw [if_neg hc] at hR
   have hm := hms sa sb
   refine IWp.now ?_
   have hc1 : ¬ C < 0 := by omega
   by_cases hc2 : C = 0
   ·have hc3 : ¬ sb < sa := by omega
    simp [go_sem, hc1, hc2, hc3, hm]
    refine ⟨fun a b h => by simpa [go_sem, keyOK] using hok a b h, by decide +kernel, hR _ _ ⟨_, ?_, rfl, rfl⟩⟩
    simp [go_sem]
   ·simp [go_sem, hc1, hc2, hm]
    refine ⟨fun a b h => by simpa [go_sem, keyOK] using hok a b h, by decide +kernel, hR _ _ ⟨_, ?_, rfl, rfl⟩⟩
    simp [go_sem]
theorem take_calls (r : Nat) (S : List Int) (W : Won) (x : Rs) (hr : 1 ≤ r ∧ r ≤ 6) (hS : S.length = 2 ^ r) (hx : FitR x) : ICalls Tryz.prog glT 59 [.ptr 1 1 0 0, x.v] (evH r S W)
  (fun v σ => v = .int .i64 (tkR r S W x).1 ∧ σ = evH r S (tkR r S W x).2) := by
 by_cases h : badX r x
 ·exact take_bad r S W x hr hx h
 ·exact take_good r S W x hr hS hx h
end Go.Idl.K38
namespace Go.Idl.K38
open Go.Proofs
def cmp3 (a b : Int) : Int := if a < b then -1 else if b < a then 1 else 0
theorem isNaN_fun (a : Int) : FN 51 [.int .i64 a] (fun v => v = .bool false) := by
 refine IFun.of_bodyZ false 3 [] Tryz.func51 rfl Tryz.call51 rfl fun R hR => ?_
 simp [go_sem]
 exact hR _ _ _ rfl (by simp [go_sem])
theorem compare_fun (a b : Int) : FN 31 [.int .i64 a, .int .i64 b] (fun v => v = .int .i64 (cmp3 a b)) := by
 refine IFun.of_bodyZ false 7 [11, 12, 13, 16, 19] Tryz.func31 rfl Tryz.call31 rfl fun R hR => ?_
 unfold cmp3 at hR
 simp [go_sem]
 refine (isNaN_fun a).callF (by simp [go_sem]) ?_
 rintro _ rfl
 simp [go_sem]
 refine (isNaN_fun b).callF (by simp [go_sem]) ?_
 rintro _ rfl
 by_cases h1 : a < b
 ·rw [if_pos h1] at hR
  simp [go_sem, h1]
  exact hR _ _ _ rfl (by simp [go_sem])
 ·rw [if_neg h1] at hR
  by_cases h2 : b < a
  ·rw [if_pos h2] at hR
   simp [go_sem, h1, h2]
   exact hR _ _ _ rfl (by simp [go_sem])
  ·rw [if_neg h2] at hR
   simp [go_sem, h1, h2]
   exact hR _ _ _ rfl (by simp [go_sem])
theorem or_fun (a b : Int) : FN 30 [.fz 1 [[.int .i64 a], [.int .i64 b]]] (fun v => v = .int .i64 (if a = 0 then b else a)) := by
 refine IFun.of_bodyZ false 6 [6, 7, 8, 9, 14] Tryz.func30 rfl Tryz.call30 rfl fun R hR => ?_
 simp [go_sem]
 refine IWp.loopT (α := Nat) (fun i => (⟨false, 18, 6, [6, 7, 8, 9, 14], glT, [(3, .int .i64 0), (6, .fz 1 [[.int .i64 a], [.int .i64 b]]), (7, .int .i64 2), (8, .int .i64 (i : Int))], []⟩, []))
  (fun i => i ≤ 2 ∧ (0 < i → a = 0) ∧ (1 < i → b = 0)) (fun i => 2 - i) 0 (by simp) (by simp [go_sem]) ?_
 rintro i ⟨hi, h0, h1⟩
 rcases (by omega : i = 0 ∨ i = 1 ∨ i = 2) with rfl | rfl | rfl
 ·by_cases ha : a = 0
  ·simp [go_sem, ha]
   exact ⟨1, by decide, ⟨by omega, fun h => absurd h (by omega)⟩, by omega⟩
  ·rw [if_neg ha] at hR
   simp [go_sem, ha]
   exact hR _ _ _ rfl (by simp [go_sem])
 ·by_cases hb : b = 0
  ·simp [go_sem, hb]
   exact ⟨2, by decide, ⟨by omega, fun _ => h0 (by omega)⟩, by omega⟩
  ·rw [if_pos (h0 (by omega))] at hR
   simp [go_sem, hb]
   exact hR _ _ _ rfl (by simp [go_sem])
 ·rw [if_pos (h0 (by omega)), h1 (by omega)] at hR
  simp [go_sem]
  exact hR _ _ _ rfl (by simp [go_sem])
def cmpM (q i q' i' : Int) : Int := if cmp3 q q' = 0 then cmp3 i i' else cmp3 q q'
theorem mcompare_fun (q i a b q' i' a' b' : Int) : FN 56 [.agg [.int .i64 q, .int .i64 i, .int .i64 a, .int .i64 b], .agg [.int .i64 q', .int .i64 i', .int .i64 a', .int .i64 b']] (fun v => v = .int .i64 (cmpM q i q' i')) := by
 refine IFun.of_bodyW false 5 [] Tryz.func56 rfl Tryz.call56 rfl fun R hR => ?_
 have c1 := compare_fun q q'
 have c2 := compare_fun i i'
 have c3 := or_fun (cmp3 q q') (cmp3 i i')
 unfold cmpM at hR
 generalize cmp3 q q' = c at *
 generalize cmp3 i i' = d at *
 refine IWp.seqI ?_
 simp [go_sem]
 refine IWp.seqI ?_
 refine Drawn.intro (fun k => if k = 4 then .int .i64 c else if k = 9 then .int .i64 d else if k = 11 then .int .i64 (if c = 0 then d else c) else .tup []) ?_
 simp [go_sem, c1, c2, c3]
 refine ⟨by decide +kernel, ?_⟩
 refine IWp.now ?_
 simp [go_sem]
 exact hR _ _ _ rfl (by simp [go_sem])
def cmpC : IObj := .rows 1 [[.func (.func 56) [] []]]
def lC (l : List Rs) : IObj := .rows 1 [[.fz 6 (rss l)]]
theorem play1_reads (l : List Rs) (i j : Nat) (hi : i < l.length) (hj : j < l.length) (hl : l.length < 2 ^ 62) (b c : Nat) (H : Heap) (hb : H[b]? = some cmpC) (hc : H[c]? = some (lC l)) :
  ICalls Tryz.prog glT 57 [.int .i64 (i : Int), .int .i64 (j : Int), .ptr b 1 0 0, .ptr c 1 0 0] H (fun v σ => v = .int .i64 (cmpM l[i].r l[i].i l[j].r l[j].i) ∧ σ = H) := by
 refine ICalls.of_bodyV false 7 [] Tryz.func57 rfl Tryz.call57 rfl fun R hR => ?_
 have c1 := mcompare_fun l[i].r l[i].i 0 0 l[j].r l[j].i 0 0
 generalize hC : cmpM l[i].r l[i].i l[j].r l[j].i = C at *
 have lb : b < H.length := (List.getElem?_eq_some_iff.1 hb).1
 have lc : c < H.length := (List.getElem?_eq_some_iff.1 hc).1
 have n1 : ∀ k, (H.length + k = c) = False := fun k => eq_false (by omega)
 have n2 : ∀ k, (H.length + k = b) = False := fun k => eq_false (by omega)
 have n3 : ∀ k, (c = H.length + k) = False := fun k => eq_false (by omega)
 have n4 : ∀ k, (b = H.length + k) = False := fun k => eq_false (by omega)
 have n5 : (H.length = c) = False := eq_false (by omega)
 have n6 : (H.length = b) = False := eq_false (by omega)
 have n7 : (c = H.length) = False := eq_false (by omega)
 have n8 : (b = H.length) = False := eq_false (by omega)
 clear lb lc
 unfold cmpC at hb
 unfold lC at hc
 refine IWp.seqI ?_
 simp [go_sem]
 refine IWp.seqI ?_
 refine Drawn.intro (fun k => if k = 23 then .int .i64 C else .tup []) ?_
 simp [go_sem, hb, hc, hi, hj, c1, n1, n2, n3, n4, n5, n6, n7, n8]
 refine ⟨by decide +kernel, ?_⟩
 refine IWp.now ?_
 simp [go_sem]
 exact hR _ _ ⟨rfl, rfl⟩
theorem play1_ro (l : List Rs) (i j : Nat) (hi : i < l.length) (hj : j < l.length) (hl : l.length < 2 ^ 62) (b c : Nat) (h : Heap) (hb : h[b]? = some cmpC) (hc : h[c]? = some (lC l)) :
  readsOnly Tryz.prog glT 57 [.int .i64 (i : Int), .int .i64 (j : Int), .ptr b 1 0 0, .ptr c 1 0 0] h (.int .i64 (cmpM l[i].r l[i].i l[j].r l[j].i)) := fun H hH => by
 have h1 := hH b (by simp [go_sem])
 have h2 := hH c (by simp [go_sem])
 rw [show hget h b = some cmpC from hget_some.2 ⟨hb, rfl⟩] at h1
 rw [show hget h c = some (lC l) from hget_some.2 ⟨hc, rfl⟩] at h2
 exact play1_reads l i j hi hj hl b c H (hget_some.1 h1).1 (hget_some.1 h2).1
end Go.Idl.K38
namespace Go.Idl.K38
open Go.Proofs
theorem cmpM_lx {K1 K2 : Nat → Int} {a b : Nat} (h : b < a) : cmpM (K1 a) (K2 a) (K1 b) (K2 b) < 0 ↔ lx K1 K2 a b := by
 unfold cmpM cmp3 lx
 split <;> split <;> (try split) <;> (try split) <;> omega
end Go.Idl.K38
