import Derived.Test.YtamffdgopknkfaaGreatDoorC39zPartE
set_option linter.all false
set_option maxHeartbeats 8000000
set_option maxRecDepth 40000
namespace Go.Idl
open Go.Proofs
def errN (teams : List Int) (met : List (Int × Int)) (odd : Bool) : Int :=
 if rightP teams met = false then 2 else if 16 < teams.length then 5 else if odd = false ∧ teams.length % 2 = 1 then 360 else 0
theorem errN_zero {teams : List Int} {met : List (Int × Int)} {odd : Bool} (h : errN teams met odd = 0) : rightP teams met = true ∧ teams.length ≤ 16 ∧ (odd = false → teams.length % 2 = 0) := by
 unfold errN at h
 split at h
 ·omega
 ·rename_i h1
  split at h
  ·omega
  ·rename_i h2
   split at h
   ·omega
   ·rename_i h3
    refine ⟨by simpa using h1, by omega, fun ho => ?_⟩
    have : ¬ teams.length % 2 = 1 := fun e => h3 ⟨ho, e⟩
    omega
def okG (g : Nat → Nat) (a b : Nat) : Bool := Nat.testBit (g a) b
def cntM (g : Nat → Nat) (m : Nat) : Nat := cntL (okG g) (bitsL m)
theorem ku32 (a b : Nat) : keq (.int .u32 (a : Int)) (.int .u32 (b : Int)) = decide (a = b) := by
 show (match ceqs [IV.int .u32 (a : Int)] [IV.int .u32 (b : Int)] with | some b => b | none => false) = _
 simp [ceqs, ceq]
 exact decide_eq_decide.2 (by omega)
theorem cntM_zero (g : Nat → Nat) : cntM g 0 = 1 := by rw [cntM, bitsL_zero, cntL_nil]
theorem cntM_rec {g : Nat → Nat} {m : Nat} (h0 : m ≠ 0) (h : m < 2 ^ 32) : cntM g m = ((bitsL ((m &&& (m - 1)) &&& g (tz m))).map fun b => cntM g (anb (m &&& (m - 1)) (2 ^ b))).sum := by
 have hr : m &&& (m - 1) < 2 ^ 32 := and_lt h
 unfold cntM
 generalize hrr : m &&& (m - 1) = r at hr ⊢
 rw [bitsL_clear h0 h, hrr, cntL_nodup _ (bitsL_nodup _), bitsL_and]
 show (List.map _ (List.filter (okG g (tz m)) (bitsL r))).sum = (List.map _ (List.filter (okG g (tz m)) (bitsL r))).sum
 congr 1
 apply List.map_congr_left
 intro b _
 rw [bitsL_anb b hr]
theorem bits_len {m n : Nat} (h : m < 2 ^ n) (hn : n ≤ 32) : (bitsL m).length ≤ n := by
 have : bitsL m = (List.range n).filter fun i => Nat.testBit m i := by
  unfold bitsL
  rw [show 32 = n + (32 - n) by omega, List.range_add, List.filter_append]
  have hnil : List.filter (fun i => Nat.testBit m i) (List.map (fun x => n + x) (List.range (32 - n))) = [] := by
   rw [List.filter_eq_nil_iff]
   intro x hx
   obtain ⟨k, _, rfl⟩ := List.mem_map.1 hx
   rw [Nat.testBit_lt_two_pow (Nat.lt_of_lt_of_le h (Nat.pow_le_pow_right (by decide) (by omega)))]
   simp
  rw [hnil, List.append_nil]
 rw [this]
 exact Nat.le_trans (List.length_filter_le _ _) (by simp)
end Go.Idl
namespace Go.Idl
open Go.Proofs
def okT (met : List (Int × Int)) (a b : Int) : Bool := !(metB met a b)
def drT (met : List (Int × Int)) (teams : List Int) : List (List (Int × Int)) := drs (okT met) teams
def asT (teams : List Int) (d : List (Nat × Nat)) : List (Int × Int) := d.map fun p => (teams.getD p.1 0, teams.getD p.2 0)
theorem bitsL_full {n : Nat} (h : n ≤ 32) : bitsL (2 ^ n - 1) = List.range n := by
 unfold bitsL
 rw [show 32 = n + (32 - n) by omega, List.range_add, List.filter_append]
 have h1 : List.filter (fun i => Nat.testBit (2 ^ n - 1) i) (List.range n) = List.range n := by
  rw [List.filter_eq_self]
  intro x hx
  rw [Nat.testBit_two_pow_sub_one]; simpa using hx
 have h2 : List.filter (fun i => Nat.testBit (2 ^ n - 1) i) (List.map (fun x => n + x) (List.range (32 - n))) = [] := by
  rw [List.filter_eq_nil_iff]
  intro x hx
  obtain ⟨k, _, rfl⟩ := List.mem_map.1 hx
  rw [Nat.testBit_two_pow_sub_one]; simp
 rw [h1, h2, List.append_nil]
theorem teams_range (teams : List Int) : (List.range teams.length).map (fun i => teams.getD i 0) = teams := by
 apply List.ext_getElem
 ·simp
 ·intro i h1 h2; simp [h2]
theorem drs_teams {teams : List Int} {met : List (Int × Int)} {g : Nat → Nat} (hn : teams.length ≤ 16) (ho : OpenOK teams met g) {l : List Nat} (hnd : l.Nodup) (hl : ∀ i ∈ l, i < teams.length) :
  drT met (l.map fun i => teams.getD i 0) = (drs (okG g) l).map (asT teams) := by
 have h1 : drs (okG g) l = drs (fun a b => okT met (teams.getD a 0) (teams.getD b 0)) l := by
  refine drs_congr l.length l (Nat.le_refl _) hnd fun a ha b hb hab => ?_
  have ha' := hl a ha
  have hb' := hl b hb
  have := (ho a (by omega)).2 b ha'
  rw [okG, this]
  have e : ¬ b = a := fun e => hab e.symm
  simp [okT, hb', e]
 rw [drT, h1]
 exact drs_map (fun i => teams.getD i 0) (fun a b => rfl) l.length l (Nat.le_refl _)
theorem all_c (teams : List Int) (g : Nat → Nat) (hn : teams.length ≤ 16) : FN 112 [.fptr 17 [tbR teams g] 0 0] (fun v => v = .int .u32 ((2 ^ teams.length - 1 : Nat) : Int)) := all_fun teams (opC g) hn
end Go.Idl
namespace Go.Idl
open Go.Proofs
theorem lt_of_bit {m n b : Nat} (h : m < 2 ^ n) (hb : Nat.testBit m b = true) : b < n := by
 apply Decidable.byContradiction
 intro hc
 rw [Nat.testBit_lt_two_pow (Nat.lt_of_lt_of_le h (Nat.pow_le_pow_right (by decide) (by omega)))] at hb
 cases hb
theorem bitsL_wo {r b : Nat} (h : r < 2 ^ 32) : bitsL (anb r (2 ^ b)) = wo b (bitsL r) := bitsL_anb b h
theorem asT_snoc (teams : List Int) (d : List (Nat × Nat)) (a b : Nat) : asT teams (d ++ [(a, b)]) = asT teams d ++ [(teams.getD a 0, teams.getD b 0)] := by simp [asT]
@[simp] theorem asT_length (teams : List Int) (d : List (Nat × Nat)) : (asT teams d).length = d.length := by simp [asT]
end Go.Idl
namespace Go.Idl
open Go.Proofs
def fstD (met : List (Int × Int)) (teams : List Int) : List (Int × Int) := (drT met teams).headD []
def fstB (met : List (Int × Int)) (teams : List Int) : Bool := !(drT met teams).isEmpty
def restZ (teams : List Int) (i k : Nat) : List Int := ((List.range k).filter fun j => !(decide (j = i))).map fun j => teams.getD j 0
theorem restZ_succ (teams : List Int) (i k : Nat) : restZ teams i (k + 1) = restZ teams i k ++ (if k ≠ i then [teams.getD k 0] else []) := by
 unfold restZ
 rw [List.range_succ, List.filter_append, List.map_append]
 congr 1
 by_cases h : k = i
 ·rw [if_neg (by simpa using h)]; simp [h]
 ·rw [if_pos h]; simp [h]
theorem restZ_le (teams : List Int) (i : Nat) : ∀ k, k ≤ i → k ≤ teams.length → restZ teams i k = teams.take k
 | 0, _, _ => by simp [restZ]
 | k + 1, h, hk => by
  rw [restZ_succ, restZ_le teams i k (by omega) (by omega), if_pos (by omega), List.take_succ_eq_append_getElem (by omega)]
  simp [show k < teams.length by omega]
theorem restZ_gt (teams : List Int) (i : Nat) (hil : i < teams.length) : ∀ k, i + 1 + k ≤ teams.length → restZ teams i (i + 1 + k) = teams.take i ++ (teams.drop (i + 1)).take k
 | 0, _ => by
  rw [Nat.add_zero, restZ_succ, if_neg (by simp), List.append_nil, restZ_le teams i i (Nat.le_refl _) (by omega)]; simp
 | k + 1, h => by
  rw [← Nat.add_assoc, restZ_succ, restZ_gt teams i hil k (by omega), if_pos (by omega), List.append_assoc]
  congr 1
  rw [List.take_succ_eq_append_getElem (by simp; omega)]
  simp [show i + 1 + k < teams.length by omega]
theorem restZ_all (teams : List Int) (i : Nat) (hil : i < teams.length) : restZ teams i teams.length = teams.eraseIdx i := by
 have := restZ_gt teams i hil (teams.length - (i + 1)) (by omega)
 rw [show i + 1 + (teams.length - (i + 1)) = teams.length by omega] at this
 have h1 : (teams.drop (i + 1)).take (teams.length - (i + 1)) = teams.drop (i + 1) := List.take_of_length_le (by rw [List.length_drop]; exact Nat.le_refl _)
 rw [this, h1, List.eraseIdx_eq_take_drop_succ]
def byeGo (teams : List Int) (met : List (Int × Int)) (byes : List Int) : Nat → List (Int × Int) × Int × Int
 | 0 => ([], 0, 6)
 | i + 1 => if teams.getD i 0 ∈ byes then byeGo teams met byes i else if fstB met (teams.eraseIdx i) = true then (fstD met (teams.eraseIdx i), teams.getD i 0, 0) else byeGo teams met byes i
def drawR (teams : List Int) (met : List (Int × Int)) (byes : List Int) : List (Int × Int) × Int × Int :=
 if errN teams met true ≠ 0 then ([], 0, errN teams met true) else
 if teams.length % 2 = 0 then (if fstB met teams = true then (fstD met teams, 0, 0) else ([], 0, 6)) else byeGo teams met byes teams.length
def drawV (r : List (Int × Int) × Int × Int) : IV := .tup [.fz 2 (prs r.1), .int .i64 r.2.1, .int .i64 r.2.2]
theorem fst_C (b : Bool) : Cx fun v => .tup [v, .bool b] := .tup [] [.bool b] (fun v => v) (by simp) (by simp [scal]) .here
end Go.Idl
