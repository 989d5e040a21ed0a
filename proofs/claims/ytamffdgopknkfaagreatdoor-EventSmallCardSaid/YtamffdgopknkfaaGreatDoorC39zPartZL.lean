import Derived.Test.YtamffdgopknkfaaGreatDoorC39zPartZH
set_option linter.all false
set_option maxHeartbeats 16000000
set_option maxRecDepth 40000
namespace Go.Idl
open Go.Proofs
def rndE (p : Pl) (l : List Em) : Nat := if (chkR p l).2 ≠ 0 then 0 else (rchd p l).length - 1
def mgS (n k : Nat) : Int := [0, 2, -2, 5, -1].getD ((n + n / 5 * k) % 5) 0
def plS (t n : Nat) : Pl := ⟨t, 1 + (n % 4 : Nat), (n % 4 : Nat), [2, 3]⟩
def nxS (p : Pl) (n k : Nat) (l : List Em) : Em :=
 let x := (openE p l).1.getD (k % (openE p l).1.length) (0, 0)
 ⟨rndE p l, x.1, x.2, mgS n k⟩
def okP9 (p : Pl) (n : Nat) : Nat → Nat → List Em → Bool
 | 0, _, _ => true
 | f + 1, k, l => decide ((openE p l).2 = 0) && ((openE p l).1.isEmpty || okP9 p n f (k + 1) (l ++ [nxS p n k l]))
theorem okP9_all : ∀ t < 4, ∀ n < 25, okP9 (plS (t + 2) n) n 6 0 [] = true := by decide +kernel
end Go.Idl
namespace Go.Idl
open Go.Proofs
theorem turned39_fun (l : List Em) (hl : l.length ≤ 2 ^ 30) : FN 8 [.fz 4 (ems l)] (fun v => v = .fz 4 (ems l)) := by
 refine IFun.of_bodyW false 6 [6, 7, 8, 9] Tryz.func8 rfl Tryz.call8 rfl fun R hR => ?_
 refine IWp.seqI ?_
 simp [go_sem]
 refine IWp.seqI ?_
 simp [go_sem]
 refine IWp.ownNilS 4 3 (by decide) (by simp [go_sem]) ?_
 refine IWp.now ?_
 simp [go_sem]
 refine IWp.loopT (α := Nat) (fun i => (⟨false, 18, 6, [6, 7, 8, 9], glT, [(3, .sl 0 (l.take i).length 0 (l.take i).length none), (6, .fz 4 (ems l)), (7, .int .i64 l.length), (8, .int .i64 (i : Int))], []⟩, [.rows 4 (ems (l.take i))]))
  (fun i => i ≤ l.length) (fun i => l.length - i) 0 (by omega) (by simp [go_sem]) ?_
 intro i hi
 by_cases hil : i < l.length
 ·have wi : IntKind.i64.wrap ((i : Int) + 1) = i + 1 := wrap64 (by omega) (by omega)
  have hmn : min i l.length = i := by omega
  have hmn1 : min (i + 1) l.length = i + 1 := by omega
  have hsn : ems (l.take (i + 1)) = ems (l.take i) ++ [[.int .i64 l[i].r, .int .i64 l[i].a, .int .i64 l[i].b, .int .i64 l[i].m]] := by
   rw [List.take_succ_eq_append_getElem hil, ems_snoc]
  simp [go_sem, hil, wi, hmn]
  exact ⟨by omega, i + 1, ⟨⟨hmn1.symm, by omega⟩, hsn⟩, by omega, by omega⟩
 ·obtain rfl : i = l.length := by omega
  rw [List.take_length]
  simp [go_sem]
  exact hR _ _ _ rfl (by simp [go_sem, cutR, List.take_of_length_le])
theorem drawE_rnd {p : Pl} {l : List Em} (n : Nat) (hn : n ≤ rndE p l) : (drawE p l ((n : Int) + 1)).2.2 = 0 ↔ n < rndE p l := by
 unfold drawE rndE at *
 by_cases hc : (chkR p l).2 = 0
 ·simp only [hc, ne_eq, not_true_eq_false, if_false] at *
  split
  ·simp; omega
  ·simp; omega
 ·simp only [hc, ne_eq, not_false_eq_true, if_true] at *
  simp [hc]
theorem rndE_le {p : Pl} {l : List Em} : rndE p l ≤ 15 := by
 unfold rndE
 split
 ·omega
 ·rename_i h
  have h1 : (rchd p l).length ≤ p.r.toNat := reach_len p l _ _ _
  have h2 : plB p = true := by
   cases hp : plB p with
   | true => rfl
   | false => simp [chkR, hp] at h
  unfold plB at h2
  simp only [Bool.and_eq_true, decide_eq_true_eq] at h2
  omega
theorem round39_fun (p : Pl) (l : List Em) (h : ArgE p l) : FN 10 [p.v, .fz 4 (ems l)] (fun v => v = .int .i64 (rndE p l)) := by
 refine IFun.of_bodyW false 9 [20] Tryz.func10 rfl Tryz.call10 rfl fun R hR => ?_
 have hb := rndE_le (p := p) (l := l)
 have ct := turned39_fun l (by have := h.l; omega)
 simp only [Pl.v] at *
 refine IWp.now ?_
 simp [go_sem]
 refine IWp.loopT (α := Nat) (fun i => (⟨false, 24, 9, [20], glT, [(1, .fz 4 (ems l)), (2, .ptr 0 1 0 0), (5, .int .i64 (i : Int))], []⟩, [.rows 4 [[.int .i64 p.t, .int .i64 p.r, .int .i64 p.b, .fz 1 (ints p.s)]]]))
  (fun i => i ≤ rndE p l) (fun i => rndE p l - i) 0 (by omega) (by simp [go_sem]) ?_
 intro i hi
 have wi : IntKind.i64.wrap ((i : Int) + 1) = i + 1 := wrap64 (by omega) (by omega)
 have cd := refDraw39_fun p l ((i : Int) + 1) h
 have hE := drawE_rnd i hi
 simp only [Pl.v] at cd
 generalize drawE p l ((i : Int) + 1) = q at *
 obtain ⟨q1, q2, q3⟩ := q
 simp only [drawV] at cd
 simp [go_sem]
 refine Drawn.intro (fun k => if k = 2 then .fz 4 (ems l) else if k = 5 then .tup [.fz 2 (prs q1), .int .i64 q2, .int .i64 q3] else .tup []) ?_
 simp [go_sem, ct, cd, wi]
 refine ⟨by decide +kernel, ?_⟩
 by_cases h3 : q3 = 0
 ·have hlt := hE.1 h3
  simp [go_sem, h3, wi]
  exact ⟨i + 1, by omega, by omega, by omega⟩
 ·have hlt : ¬ i < rndE p l := fun h => h3 (hE.2 h)
  have : i = rndE p l := by omega
  simp [go_sem, h3]
  exact hR _ _ _ rfl (by simp [go_sem, this])
end Go.Idl
