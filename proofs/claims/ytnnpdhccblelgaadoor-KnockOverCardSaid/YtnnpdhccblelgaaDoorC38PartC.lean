/-
  Chapter 38: rounds, seeds, brackets.
  Chapter 38: Rounds, Seeds, Bracket.
-/
import Derived.Test.YtnnpdhccblelgaaDoorC38PartB
import Derived.Test.YtnnpdhccblelgaaDoorIdlPartL
import Derived.Shelf.Strconv.Itoa0
namespace Go.Idl
set_option linter.all false
open Go.Proofs
set_option maxHeartbeats 8000000
set_option maxRecDepth 40000

/-- A function of one integer that the shelf knows. -/
theorem IFun.of_calls1 {P : Program} {gl : List (Nat × IV)} {f : FuncId} {k k' : IntKind} {n m : Int} (he : ∀ (args : Array Value) (w : World), (callFunc f args).run P w = .ok (.enter f args) w)
    (h : ∀ w, Calls P f #[.int k n] w fun e w' => e = .returned (.int k' m) ∧ w' = w) : IFun true P gl f [.int k n] (fun v => v = .int k' m) := by
  refine ⟨he, fun μ F w vs hH hv hgl => ?_⟩
  obtain ⟨v, rfl⟩ : ∃ v, vs = [v] := by
    match vs, hv.1 with
    | [v], _ => exact ⟨v, rfl⟩
  have hv0 := hv.2 0 v _ rfl rfl
  cases hv0
  refine (h w).mono ?_
  rintro e w' ⟨rfl, rfl⟩
  exact ⟨_, .int k' m, [], μ, F, rfl, ⟨.int k' m, .int _ _, rfl⟩, .int _ _, hH, Ext.refl _ _ _⟩
/-- How many rounds an event has. -/
def rnd (n : Nat) : Nat := if n ≤ 1 then 0 else if n ≤ 2 then 1 else if n ≤ 4 then 2 else if n ≤ 8 then 3 else if n ≤ 16 then 4 else if n ≤ 32 then 5 else 6
theorem bitLen_rnd : ∀ n, n < 65 → 0 < n → Lib.bitLen (n - 1) = rnd n := by decide
theorem len64_fun (x : Nat) (h : x < 2 ^ 63) : FN 87 [.int .u64 (x : Int)] (fun v => v = .int .i64 (Lib.bitLen x)) :=
  IFun.of_calls1 Tryd.call87 fun w => by
    have := Any.bits_Len64 Tryd.lays129 (x : Int) w (by omega) (by omega)
    simp only [Int.toNat_natCast] at this
    exact this
theorem len_fun (x : Nat) (h : x < 2 ^ 63) : FN 69 [.int .u64 (x : Int)] (fun v => v = .int .i64 (Lib.bitLen x)) := by
  refine IFun.of_bodyZ false 3 [] Tryd.func69 rfl Tryd.call69 rfl fun R hR => ?_
  have cl := len64_fun x h
  simp [go_sem]
  refine cl.callF (by simp [go_sem]) ?_
  rintro _ rfl
  simp [go_sem]
  exact hR _ _ _ rfl (by simp [go_sem])
theorem rounds38_fun (n : Nat) (h1 : 1 ≤ n) (h2 : n ≤ 64) : FN 43 [.int .i64 (n : Int)] (fun v => v = .int .i64 (rnd n)) := by
  refine IFun.of_bodyZ false 3 [] Tryd.func43 rfl Tryd.call43 rfl fun R hR => ?_
  have cl := len_fun (n - 1) (by omega)
  rw [bitLen_rnd n (by omega) (by omega)] at cl
  have w1 : IntKind.i64.wrap ((n : Int) - 1) = ((n - 1 : Nat) : Int) := by rw [wrap64 (by omega) (by omega)]; omega
  have w2 : IntKind.u64.wrap ((n - 1 : Nat) : Int) = ((n - 1 : Nat) : Int) := by simp [IntKind.wrap, IntKind.bits, IntKind.signed]; omega
  obtain ⟨m, hm⟩ : ∃ m, n - 1 = m := ⟨_, rfl⟩
  rw [hm] at cl w1 w2
  simp [go_sem, w1, w2]
  refine cl.callF (by simp [go_sem]) ?_
  rintro _ rfl
  simp [go_sem]
  exact hR _ _ _ rfl (by simp [go_sem])
theorem teams38_fun (n : Int) : FN 42 [.int .i64 n] (fun v => v = .bool (decide (2 ≤ n) && decide (n ≤ 64))) := by
  refine IFun.of_bodyZ false 3 [] Tryd.func42 rfl Tryd.call42 rfl fun R hR => ?_
  simp [go_sem]
  exact hR _ _ _ rfl (by simp [go_sem])
def dbc (c : Int) (l : List Int) : List Int := l.flatMap fun s => [s, c - s]
def dbl (l : List Int) : List Int := dbc (2 * l.length + 1) l
theorem dbc_len (c : Int) : ∀ l : List Int, (dbc c l).length = 2 * l.length
  | [] => rfl
  | a :: l => by have := dbc_len c l; simp only [dbc, List.flatMap_cons, List.length_append, List.length_cons, List.length_nil] at this ⊢; omega
theorem dbc_succ {c : Int} {l : List Int} {i : Nat} (h : i < l.length) : dbc c (l.take (i + 1)) = dbc c (l.take i) ++ [l[i], c - l[i]] := by
  unfold dbc
  rw [List.take_succ_eq_append_getElem h, List.flatMap_append]; simp
/-- The order of seeds of 2 ^ k places. -/
def ordL : Nat → List Int
  | 0 => [1]
  | k + 1 => dbl (ordL k)
theorem ordL_len : ∀ k, (ordL k).length = 2 ^ k
  | 0 => rfl
  | k + 1 => by show (dbc _ (ordL k)).length = _; rw [dbc_len, ordL_len k, Nat.pow_succ]; omega
theorem double_fun (l : List Int) (hl : l.length ≤ 2 ^ 20) (hb : ∀ x ∈ l, -2 ^ 30 ≤ x ∧ x ≤ 2 ^ 30) : FN 68 [.fz 1 (ints l)] (fun v => v = .fz 1 (ints (dbl l))) := by
  refine IFun.of_bodyZ false 6 [10, 11, 12, 13] Tryd.func68 rfl Tryd.call68 rfl fun R hR => ?_
  have w1 : IntKind.i64.wrap (2 * (l.length : Int)) = 2 * l.length := wrap64 (by omega) (by omega)
  obtain ⟨c, hc⟩ : ∃ c : Int, 2 * (l.length : Int) + 1 = c := ⟨_, rfl⟩
  have w2 : IntKind.i64.wrap (2 * (l.length : Int) + 1) = c := by rw [hc]; exact wrap64 (by omega) (by omega)
  have e : dbl l = dbc c l := by unfold dbl; rw [hc]
  rw [e] at hR
  have h0 : ¬ (2 * (l.length : Int)) < 0 := by omega
  have hT : (2 * (l.length : Int)).toNat = 2 * l.length := by omega
  simp [go_sem, w1, hT]
  refine ⟨by omega, ?_⟩
  refine IWp.loopT (α := Nat) (fun i => (⟨false, 28, 6, [10, 11, 12, 13], glT, [(0, .fz 1 (ints l)), (2, .nils), (3, .sl 0 (2 * i) 0 (2 * i) none), (10, .fz 1 (ints l)), (11, .int .i64 l.length), (12, .int .i64 (i : Int))], []⟩, [.rows 1 (ints (dbc c (l.take i)))]))
    (fun i => i ≤ l.length) (fun i => l.length - i) 0 (by simp) (by simp [go_sem, dbc]) ?_
  intro i hi
  have hlen := dbc_len c (l.take i)
  rw [List.length_take, Nat.min_eq_left hi] at hlen
  by_cases h : i < l.length
  · have h' : (i : Int) < l.length := by omega
    have v1 : IntKind.i64.wrap ((i : Int) + 1) = i + 1 := wrap64 (by omega) (by omega)
    have hs := dbc_succ (c := c) h
    have hx := hb l[i] (List.getElem_mem h)
    obtain ⟨x, hxe⟩ : ∃ x, l[i] = x := ⟨_, rfl⟩
    rw [hxe] at hs hx
    have v2 : IntKind.i64.wrap (c - x) = c - x := wrap64 (by omega) (by omega)
    generalize dbc c (l.take i) = T at *
    simp [go_sem, h, h', hxe, w1, w2, v1, v2]
    refine ⟨⟨by omega, by omega⟩, i + 1, ⟨⟨by omega, by omega⟩, ?_⟩, by omega, by omega⟩
    rw [hs, ints_append]; rfl
  · obtain rfl : i = l.length := by omega
    rw [List.take_of_length_le (Nat.le_refl _)] at *
    generalize dbc c l = T at *
    simp [go_sem]
    exact hR _ _ _ rfl (by simp [go_sem, hlen])
end Go.Idl
namespace Go.Idl
set_option linter.all false
open Go.Proofs
set_option maxHeartbeats 16000000
set_option maxRecDepth 40000

theorem ordL_bd : ∀ k, k ≤ 6 → ∀ x ∈ ordL k, 1 ≤ x ∧ x ≤ 64 := by decide
theorem rnd_bd {n : Nat} (h1 : 2 ≤ n) : 1 ≤ rnd n ∧ rnd n ≤ 6 := by unfold rnd; repeat' (split <;> try omega)
theorem rnd_pow {n : Nat} (h1 : 2 ≤ n) (h2 : n ≤ 64) : n ≤ 2 ^ rnd n ∧ 2 ^ rnd n < 2 * n := by
  unfold rnd
  split
  · omega
  · split
    · omega
    · split
      · omega
      · split
        · omega
        · split
          · omega
          · split <;> omega
/-- The seeds of an event of n teams: 0 where there is none. -/
def zs (n : Int) (O : List Int) (i : Nat) : List Int := (O.take i).map (fun s => if n < s then 0 else s) ++ O.drop i
def seedsL (n : Nat) : List Int := (ordL (rnd n)).map fun s => if (n : Int) < s then 0 else s
theorem seedsL_len (n : Nat) : (seedsL n).length = 2 ^ rnd n := by simp [seedsL, ordL_len]
theorem zs_succ {n : Int} {O : List Int} {i : Nat} (h : i < O.length) : zs n O (i + 1) = if n < O[i] then (zs n O i).set i 0 else zs n O i := by
  have hl : ((O.take i).map fun s => if n < s then 0 else s).length = i := by simp; omega
  unfold zs
  rw [List.take_succ_eq_append_getElem h, List.map_append, List.drop_eq_getElem_cons h, List.append_assoc]
  split
  · rename_i hlt
    rw [List.set_append, hl, if_neg (by omega), Nat.sub_self, List.set_cons_zero, List.map_singleton, if_pos hlt]
    rfl
  · rename_i hlt
    simp [hlt]
theorem zs_at {n : Int} {O : List Int} {i : Nat} (h : i < O.length) (h2 : i < (zs n O i).length) : (zs n O i)[i] = O[i] := by
  have hl : ((O.take i).map fun s => if n < s then 0 else s).length = i := by simp; omega
  simp only [zs]
  rw [List.getElem_append_right (by omega), List.getElem_drop]
  simp only [hl, Nat.sub_self, Nat.add_zero]
theorem zs_len {n : Int} {O : List Int} {i : Nat} (h : i ≤ O.length) : (zs n O i).length = O.length := by simp [zs]; omega
theorem teamsB {n : Nat} (h1 : 2 ≤ n) (h2 : n ≤ 64) : FN 42 [.int .i64 (n : Int)] (fun v => v = .bool true) := by
  have := teams38_fun (n : Int)
  rwa [show (decide ((2 : Int) ≤ n) && decide ((n : Int) ≤ 64)) = true by simp; omega] at this
theorem teamsN {n : Int} (h : ¬ (2 ≤ n ∧ n ≤ 64)) : FN 42 [.int .i64 n] (fun v => v = .bool false) := by
  have := teams38_fun n
  rwa [show (decide ((2 : Int) ≤ n) && decide (n ≤ 64)) = false by simp; omega] at this
theorem seedsN_fun (n : Int) (h : ¬ (2 ≤ n ∧ n ≤ 64)) : FN 39 [.int .i64 n] (fun v => v = .tup [.fz 1 [], .int .i64 380]) := by
  refine IFun.of_bodyZ false 8 [10, 13, 14, 15, 20, 21, 22, 23, 29] Tryd.func39 rfl Tryd.call39 rfl fun R hR => ?_
  simp [go_sem]
  refine (teamsN h).callF (by simp [go_sem]) ?_
  rintro _ rfl
  simp [go_sem]
  exact hR _ _ _ rfl (by simp [go_sem])
theorem ints_cut_all {l : List Int} {n : Nat} (h : l.length = n) : cutR 0 n (ints l) = ints l := by
  subst h; simp [cutR, ← ints_take]
theorem ints_q38 {l : List Int} {i : Nat} {x : Int} (h : i < l.length) (hx : l[i] = x) : (ints l)[i]?.getD [] = [.int .i64 x] := by
  rw [List.getElem?_eq_getElem (by simpa using h), Option.getD_some, ints_getElem, hx]
def seedSt (n r k : Nat) : Env × Heap := (⟨false, 35, 8, [10, 13, 14, 15, 20, 21, 22, 23, 29], glT, [(0, .int .i64 (n : Int)), (2, .nils), (3, .int .i64 0), (4, .func (.func 68) [] []), (5, .sl k (2 ^ k) 0 (2 ^ k) none), (13, .int .i64 (r : Int)), (14, .int .i64 (k : Int))], []⟩, List.replicate k .dead ++ [.rows 1 (ints (ordL k))])
theorem seeds_fun (n : Nat) (h1 : 2 ≤ n) (h2 : n ≤ 64) : FN 39 [.int .i64 (n : Int)] (fun v => v = .tup [.fz 1 (ints (seedsL n)), .int .i64 0]) := by
  refine IFun.of_bodyZ false 8 [10, 13, 14, 15, 20, 21, 22, 23, 29] Tryd.func39 rfl Tryd.call39 rfl fun R hR => ?_
  have cr := rounds38_fun n (by omega) h2
  obtain ⟨r1, r2⟩ := rnd_bd h1
  have eS : seedsL n = (ordL (rnd n)).map fun s => if (n : Int) < s then 0 else s := rfl
  obtain ⟨r, hr⟩ : ∃ r, rnd n = r := ⟨_, rfl⟩
  rw [hr] at cr r1 r2 eS
  rw [eS] at hR
  have ol := ordL_len
  have ob := ordL_bd
  have os : ∀ k, ordL (k + 1) = dbl (ordL k) := fun _ => rfl
  have o0 : ordL 0 = [1] := rfl
  simp [go_sem]
  refine (teamsB h1 h2).callF (by simp [go_sem]) ?_
  rintro _ rfl
  simp [go_sem]
  refine cr.callF (by simp [go_sem]) ?_
  rintro _ rfl
  simp [go_sem]
  refine IWp.loopT (α := Nat) (seedSt n r) (fun k => k ≤ r) (fun k => r - k) 0 (by simp) (by simp [go_sem, seedSt, o0, ints_cons]) ?_
  intro k hk
  by_cases hkr : k < r
  · have hkr' : (k : Int) < r := by omega
    have v1 : IntKind.i64.wrap ((k : Int) + 1) = k + 1 := wrap64 (by omega) (by omega)
    have hlk := ol k
    have hbk := ob k (by omega)
    have hsk := os k
    have hlk2 := ol (k + 1)
    have cd := double_fun (ordL k) (by rw [hlk]; exact Nat.le_trans (Nat.pow_le_pow_right (by decide) (show k ≤ 6 by omega)) (by decide)) (fun x hx => by have := hbk x hx; omega)
    rw [← hsk] at cd
    rcases (by omega : k = 0 ∨ k = 1 ∨ k = 2 ∨ k = 3 ∨ k = 4 ∨ k = 5) with rfl | rfl | rfl | rfl | rfl | rfl
    all_goals
      simp [go_sem, seedSt]
      rw [if_pos (by omega)]
      refine cd.callOF (by simp [go_sem, hlk]) ?_
      rintro _ rfl
      refine ⟨fun v => v, 1, _, .here, by decide, rfl, by simp [go_sem], ?_⟩
      simp [go_sem, hlk2, seedSt]
      refine ⟨_, ⟨⟨⟨rfl, by decide⟩, by decide⟩, by simp [go_sem], by simp [go_sem]⟩, by omega, by omega⟩
  · obtain rfl : k = r := by omega
    have hlk := ol k
    rcases (by omega : k = 1 ∨ k = 2 ∨ k = 3 ∨ k = 4 ∨ k = 5 ∨ k = 6) with rfl | rfl | rfl | rfl | rfl | rfl
    · simp [go_sem, seedSt]
      refine ⟨hlk.symm, ?_⟩
      simp only [Nat.reducePow] at hlk
      generalize ordL 1 = O at *
      have z0 : zs n O 0 = O := by simp [zs]
      refine IWp.loopT (α := Nat) (fun i => (⟨false, 35, 8, [10, 13, 14, 15, 20, 21, 22, 23, 29], glT, [(0, .int .i64 (n : Int)), (2, .nils), (3, .int .i64 0), (5, .sl 1 2 0 2 none), (20, .sl 1 2 0 2 none), (21, .int .i64 2), (22, .int .i64 (i : Int))], []⟩, [.dead, .rows 1 (ints (zs n O i))]))
        (fun i => i ≤ 2) (fun i => 2 - i) 0 (by simp) (by simp [go_sem, z0]) ?_
      intro i hi
      have hzl := zs_len (n := (n : Int)) (O := O) (i := i) (by omega)
      by_cases h : i < 2
      · have h' : (i : Int) < 2 := by omega
        have v1 : IntKind.i64.wrap ((i : Int) + 1) = i + 1 := wrap64 (by omega) (by omega)
        have hi2 : i < (zs n O i).length := by omega
        have hza := zs_at (n := (n : Int)) (O := O) (i := i) (by omega) hi2
        have hzs := zs_succ (n := (n : Int)) (O := O) (i := i) (by omega)
        have hiO : i < O.length := by rw [hlk]; exact h
        obtain ⟨x, hx⟩ : ∃ x, O[i]'hiO = x := ⟨_, rfl⟩
        rw [hx] at hza hzs
        have q := ints_q38 hi2 hza
        generalize zs n O i = Z at *
        by_cases hnx : (n : Int) < x
        · rw [if_pos hnx] at hzs
          simp [go_sem, h, h', hzl, hlk, hza, q, hnx, v1]
          exact ⟨i + 1, ⟨rfl, by rw [hzs, ints_set]⟩, by omega, by omega⟩
        · rw [if_neg hnx] at hzs
          simp [go_sem, h, h', hzl, hlk, hza, q, hnx, v1]
          exact ⟨i + 1, ⟨rfl, by rw [hzs]⟩, by omega, by omega⟩
      · obtain rfl : i = 2 := by omega
        have e : zs n O 2 = O.map fun s => if (n : Int) < s then 0 else s := by
          unfold zs; rw [List.take_of_length_le (by omega), List.drop_of_length_le (by omega), List.append_nil]
        rw [e] at hzl ⊢
        generalize (O.map fun s => if (n : Int) < s then 0 else s) = Z at *
        have hcut := ints_cut_all (hzl.trans hlk)
        simp [go_sem]
        exact hR _ _ _ rfl (by simp [go_sem, hzl, hlk, hcut])
    · simp [go_sem, seedSt]
      refine ⟨hlk.symm, ?_⟩
      simp only [Nat.reducePow] at hlk
      generalize ordL 2 = O at *
      have z0 : zs n O 0 = O := by simp [zs]
      refine IWp.loopT (α := Nat) (fun i => (⟨false, 35, 8, [10, 13, 14, 15, 20, 21, 22, 23, 29], glT, [(0, .int .i64 (n : Int)), (2, .nils), (3, .int .i64 0), (5, .sl 2 4 0 4 none), (20, .sl 2 4 0 4 none), (21, .int .i64 4), (22, .int .i64 (i : Int))], []⟩, [.dead, .dead, .rows 1 (ints (zs n O i))]))
        (fun i => i ≤ 4) (fun i => 4 - i) 0 (by simp) (by simp [go_sem, z0]) ?_
      intro i hi
      have hzl := zs_len (n := (n : Int)) (O := O) (i := i) (by omega)
      by_cases h : i < 4
      · have h' : (i : Int) < 4 := by omega
        have v1 : IntKind.i64.wrap ((i : Int) + 1) = i + 1 := wrap64 (by omega) (by omega)
        have hi2 : i < (zs n O i).length := by omega
        have hza := zs_at (n := (n : Int)) (O := O) (i := i) (by omega) hi2
        have hzs := zs_succ (n := (n : Int)) (O := O) (i := i) (by omega)
        have hiO : i < O.length := by rw [hlk]; exact h
        obtain ⟨x, hx⟩ : ∃ x, O[i]'hiO = x := ⟨_, rfl⟩
        rw [hx] at hza hzs
        have q := ints_q38 hi2 hza
        generalize zs n O i = Z at *
        by_cases hnx : (n : Int) < x
        · rw [if_pos hnx] at hzs
          simp [go_sem, h, h', hzl, hlk, hza, q, hnx, v1]
          exact ⟨i + 1, ⟨rfl, by rw [hzs, ints_set]⟩, by omega, by omega⟩
        · rw [if_neg hnx] at hzs
          simp [go_sem, h, h', hzl, hlk, hza, q, hnx, v1]
          exact ⟨i + 1, ⟨rfl, by rw [hzs]⟩, by omega, by omega⟩
      · obtain rfl : i = 4 := by omega
        have e : zs n O 4 = O.map fun s => if (n : Int) < s then 0 else s := by
          unfold zs; rw [List.take_of_length_le (by omega), List.drop_of_length_le (by omega), List.append_nil]
        rw [e] at hzl ⊢
        generalize (O.map fun s => if (n : Int) < s then 0 else s) = Z at *
        have hcut := ints_cut_all (hzl.trans hlk)
        simp [go_sem]
        exact hR _ _ _ rfl (by simp [go_sem, hzl, hlk, hcut])
    · simp [go_sem, seedSt]
      refine ⟨hlk.symm, ?_⟩
      simp only [Nat.reducePow] at hlk
      generalize ordL 3 = O at *
      have z0 : zs n O 0 = O := by simp [zs]
      refine IWp.loopT (α := Nat) (fun i => (⟨false, 35, 8, [10, 13, 14, 15, 20, 21, 22, 23, 29], glT, [(0, .int .i64 (n : Int)), (2, .nils), (3, .int .i64 0), (5, .sl 3 8 0 8 none), (20, .sl 3 8 0 8 none), (21, .int .i64 8), (22, .int .i64 (i : Int))], []⟩, [.dead, .dead, .dead, .rows 1 (ints (zs n O i))]))
        (fun i => i ≤ 8) (fun i => 8 - i) 0 (by simp) (by simp [go_sem, z0]) ?_
      intro i hi
      have hzl := zs_len (n := (n : Int)) (O := O) (i := i) (by omega)
      by_cases h : i < 8
      · have h' : (i : Int) < 8 := by omega
        have v1 : IntKind.i64.wrap ((i : Int) + 1) = i + 1 := wrap64 (by omega) (by omega)
        have hi2 : i < (zs n O i).length := by omega
        have hza := zs_at (n := (n : Int)) (O := O) (i := i) (by omega) hi2
        have hzs := zs_succ (n := (n : Int)) (O := O) (i := i) (by omega)
        have hiO : i < O.length := by rw [hlk]; exact h
        obtain ⟨x, hx⟩ : ∃ x, O[i]'hiO = x := ⟨_, rfl⟩
        rw [hx] at hza hzs
        have q := ints_q38 hi2 hza
        generalize zs n O i = Z at *
        by_cases hnx : (n : Int) < x
        · rw [if_pos hnx] at hzs
          simp [go_sem, h, h', hzl, hlk, hza, q, hnx, v1]
          exact ⟨i + 1, ⟨rfl, by rw [hzs, ints_set]⟩, by omega, by omega⟩
        · rw [if_neg hnx] at hzs
          simp [go_sem, h, h', hzl, hlk, hza, q, hnx, v1]
          exact ⟨i + 1, ⟨rfl, by rw [hzs]⟩, by omega, by omega⟩
      · obtain rfl : i = 8 := by omega
        have e : zs n O 8 = O.map fun s => if (n : Int) < s then 0 else s := by
          unfold zs; rw [List.take_of_length_le (by omega), List.drop_of_length_le (by omega), List.append_nil]
        rw [e] at hzl ⊢
        generalize (O.map fun s => if (n : Int) < s then 0 else s) = Z at *
        have hcut := ints_cut_all (hzl.trans hlk)
        simp [go_sem]
        exact hR _ _ _ rfl (by simp [go_sem, hzl, hlk, hcut])
    · simp [go_sem, seedSt]
      refine ⟨hlk.symm, ?_⟩
      simp only [Nat.reducePow] at hlk
      generalize ordL 4 = O at *
      have z0 : zs n O 0 = O := by simp [zs]
      refine IWp.loopT (α := Nat) (fun i => (⟨false, 35, 8, [10, 13, 14, 15, 20, 21, 22, 23, 29], glT, [(0, .int .i64 (n : Int)), (2, .nils), (3, .int .i64 0), (5, .sl 4 16 0 16 none), (20, .sl 4 16 0 16 none), (21, .int .i64 16), (22, .int .i64 (i : Int))], []⟩, [.dead, .dead, .dead, .dead, .rows 1 (ints (zs n O i))]))
        (fun i => i ≤ 16) (fun i => 16 - i) 0 (by simp) (by simp [go_sem, z0]) ?_
      intro i hi
      have hzl := zs_len (n := (n : Int)) (O := O) (i := i) (by omega)
      by_cases h : i < 16
      · have h' : (i : Int) < 16 := by omega
        have v1 : IntKind.i64.wrap ((i : Int) + 1) = i + 1 := wrap64 (by omega) (by omega)
        have hi2 : i < (zs n O i).length := by omega
        have hza := zs_at (n := (n : Int)) (O := O) (i := i) (by omega) hi2
        have hzs := zs_succ (n := (n : Int)) (O := O) (i := i) (by omega)
        have hiO : i < O.length := by rw [hlk]; exact h
        obtain ⟨x, hx⟩ : ∃ x, O[i]'hiO = x := ⟨_, rfl⟩
        rw [hx] at hza hzs
        have q := ints_q38 hi2 hza
        generalize zs n O i = Z at *
        by_cases hnx : (n : Int) < x
        · rw [if_pos hnx] at hzs
          simp [go_sem, h, h', hzl, hlk, hza, q, hnx, v1]
          exact ⟨i + 1, ⟨rfl, by rw [hzs, ints_set]⟩, by omega, by omega⟩
        · rw [if_neg hnx] at hzs
          simp [go_sem, h, h', hzl, hlk, hza, q, hnx, v1]
          exact ⟨i + 1, ⟨rfl, by rw [hzs]⟩, by omega, by omega⟩
      · obtain rfl : i = 16 := by omega
        have e : zs n O 16 = O.map fun s => if (n : Int) < s then 0 else s := by
          unfold zs; rw [List.take_of_length_le (by omega), List.drop_of_length_le (by omega), List.append_nil]
        rw [e] at hzl ⊢
        generalize (O.map fun s => if (n : Int) < s then 0 else s) = Z at *
        have hcut := ints_cut_all (hzl.trans hlk)
        simp [go_sem]
        exact hR _ _ _ rfl (by simp [go_sem, hzl, hlk, hcut])
    · simp [go_sem, seedSt]
      refine ⟨hlk.symm, ?_⟩
      simp only [Nat.reducePow] at hlk
      generalize ordL 5 = O at *
      have z0 : zs n O 0 = O := by simp [zs]
      refine IWp.loopT (α := Nat) (fun i => (⟨false, 35, 8, [10, 13, 14, 15, 20, 21, 22, 23, 29], glT, [(0, .int .i64 (n : Int)), (2, .nils), (3, .int .i64 0), (5, .sl 5 32 0 32 none), (20, .sl 5 32 0 32 none), (21, .int .i64 32), (22, .int .i64 (i : Int))], []⟩, [.dead, .dead, .dead, .dead, .dead, .rows 1 (ints (zs n O i))]))
        (fun i => i ≤ 32) (fun i => 32 - i) 0 (by simp) (by simp [go_sem, z0]) ?_
      intro i hi
      have hzl := zs_len (n := (n : Int)) (O := O) (i := i) (by omega)
      by_cases h : i < 32
      · have h' : (i : Int) < 32 := by omega
        have v1 : IntKind.i64.wrap ((i : Int) + 1) = i + 1 := wrap64 (by omega) (by omega)
        have hi2 : i < (zs n O i).length := by omega
        have hza := zs_at (n := (n : Int)) (O := O) (i := i) (by omega) hi2
        have hzs := zs_succ (n := (n : Int)) (O := O) (i := i) (by omega)
        have hiO : i < O.length := by rw [hlk]; exact h
        obtain ⟨x, hx⟩ : ∃ x, O[i]'hiO = x := ⟨_, rfl⟩
        rw [hx] at hza hzs
        have q := ints_q38 hi2 hza
        generalize zs n O i = Z at *
        by_cases hnx : (n : Int) < x
        · rw [if_pos hnx] at hzs
          simp [go_sem, h, h', hzl, hlk, hza, q, hnx, v1]
          exact ⟨i + 1, ⟨rfl, by rw [hzs, ints_set]⟩, by omega, by omega⟩
        · rw [if_neg hnx] at hzs
          simp [go_sem, h, h', hzl, hlk, hza, q, hnx, v1]
          exact ⟨i + 1, ⟨rfl, by rw [hzs]⟩, by omega, by omega⟩
      · obtain rfl : i = 32 := by omega
        have e : zs n O 32 = O.map fun s => if (n : Int) < s then 0 else s := by
          unfold zs; rw [List.take_of_length_le (by omega), List.drop_of_length_le (by omega), List.append_nil]
        rw [e] at hzl ⊢
        generalize (O.map fun s => if (n : Int) < s then 0 else s) = Z at *
        have hcut := ints_cut_all (hzl.trans hlk)
        simp [go_sem]
        exact hR _ _ _ rfl (by simp [go_sem, hzl, hlk, hcut])
    · simp [go_sem, seedSt]
      refine ⟨hlk.symm, ?_⟩
      simp only [Nat.reducePow] at hlk
      generalize ordL 6 = O at *
      have z0 : zs n O 0 = O := by simp [zs]
      refine IWp.loopT (α := Nat) (fun i => (⟨false, 35, 8, [10, 13, 14, 15, 20, 21, 22, 23, 29], glT, [(0, .int .i64 (n : Int)), (2, .nils), (3, .int .i64 0), (5, .sl 6 64 0 64 none), (20, .sl 6 64 0 64 none), (21, .int .i64 64), (22, .int .i64 (i : Int))], []⟩, [.dead, .dead, .dead, .dead, .dead, .dead, .rows 1 (ints (zs n O i))]))
        (fun i => i ≤ 64) (fun i => 64 - i) 0 (by simp) (by simp [go_sem, z0]) ?_
      intro i hi
      have hzl := zs_len (n := (n : Int)) (O := O) (i := i) (by omega)
      by_cases h : i < 64
      · have h' : (i : Int) < 64 := by omega
        have v1 : IntKind.i64.wrap ((i : Int) + 1) = i + 1 := wrap64 (by omega) (by omega)
        have hi2 : i < (zs n O i).length := by omega
        have hza := zs_at (n := (n : Int)) (O := O) (i := i) (by omega) hi2
        have hzs := zs_succ (n := (n : Int)) (O := O) (i := i) (by omega)
        have hiO : i < O.length := by rw [hlk]; exact h
        obtain ⟨x, hx⟩ : ∃ x, O[i]'hiO = x := ⟨_, rfl⟩
        rw [hx] at hza hzs
        have q := ints_q38 hi2 hza
        generalize zs n O i = Z at *
        by_cases hnx : (n : Int) < x
        · rw [if_pos hnx] at hzs
          simp [go_sem, h, h', hzl, hlk, hza, q, hnx, v1]
          exact ⟨i + 1, ⟨rfl, by rw [hzs, ints_set]⟩, by omega, by omega⟩
        · rw [if_neg hnx] at hzs
          simp [go_sem, h, h', hzl, hlk, hza, q, hnx, v1]
          exact ⟨i + 1, ⟨rfl, by rw [hzs]⟩, by omega, by omega⟩
      · obtain rfl : i = 64 := by omega
        have e : zs n O 64 = O.map fun s => if (n : Int) < s then 0 else s := by
          unfold zs; rw [List.take_of_length_le (by omega), List.drop_of_length_le (by omega), List.append_nil]
        rw [e] at hzl ⊢
        generalize (O.map fun s => if (n : Int) < s then 0 else s) = Z at *
        have hcut := ints_cut_all (hzl.trans hlk)
        simp [go_sem]
        exact hR _ _ _ rfl (by simp [go_sem, hzl, hlk, hcut])
end Go.Idl
