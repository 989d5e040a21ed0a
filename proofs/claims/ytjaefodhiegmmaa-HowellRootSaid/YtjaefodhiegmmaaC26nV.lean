/-
  Chapter 26: HowellRoot.
-/
import Derived.Test.YtjaefodhiegmmaaC26nS
import Derived.OpenShut
namespace Go.Idl
set_option linter.all false
open Go.Proofs
set_option maxHeartbeats 4000000
set_option maxRecDepth 40000

def ordO (p w : Nat) : Nat → Nat → Nat → Option Nat
  | 0, _, _ => none
  | f + 1, n, y => if y = 1 then some n else ordO p w f (n + 1) (y * w % p)
def ordC (p g : Nat) : Bool := (List.range (g + 1)).all fun w => Nat.blt w 2 || (match ordO p w 402 1 (w % p) with | some N => (Nat.beq N (p - 1)) == (Nat.beq w g) | none => false)
theorem ord_check : (List.range 401).all (fun p => !(isPb p) || Nat.blt p 3 || (ordC p (rootN p 40 2))) = true := by decide +kernel
def bdN (p d : Nat) : Bool := Nat.blt p 3 || (List.range d).any fun e => Nat.ble 2 e && Nat.beq (p % e) 0
theorem bd_check : (List.range 401).all (fun p => (bdN p (max 2 p)) == (!(isPb p) || Nat.blt p 3)) = true := by decide +kernel
theorem bd_two (p : Nat) : bdN p 2 = Nat.blt p 3 := by simp [bdN, List.range_succ, List.any]
theorem bd_succ (p d : Nat) (h : 2 ≤ d) : bdN p (d + 1) = (bdN p d || Nat.beq (p % d) 0) := by
  have h' : Nat.ble 2 d = true := by simpa [Nat.ble_eq] using h
  simp [bdN, List.range_succ, List.any_append, h', Bool.or_assoc]

theorem blt_f {a b : Nat} : Nat.blt a b = false ↔ b ≤ a := by
  rw [← Bool.not_eq_true, Nat.blt_eq]; omega

theorem lawRoot_fun (a b : Int) (ha : (Lit.int .u8 a).wf = true) (hb : (Lit.int .u8 b).wf = true) : IFun true Try.prog [] 8 [.int .u8 a, .int .u8 b] (fun v => v = .bool true) := by
  obtain ⟨a0, a1⟩ := Go.bounds_u8 ha
  obtain ⟨b0, b1⟩ := Go.bounds_u8 hb
  refine IFun.of_bodyZ false 5 [5, 6, 7, 8, 9, 10, 11, 12, 14, 31, 41, 50, 57, 72] Try.func8 rfl Try.call8 rfl fun R hR => ?_
  have e1 : IntKind.i64.wrap a = a := wrap64 (by omega) (by omega)
  have e2 : IntKind.i64.wrap b = b := wrap64 (by omega) (by omega)
  have e3 : IntKind.i64.wrap (256 * b) = 256 * b := wrap64 (by omega) (by omega)
  have e4 : IntKind.i64.wrap (a + 256 * b) = a + 256 * b := wrap64 (by omega) (by omega)
  obtain ⟨p, hp⟩ : ∃ p : Nat, (a + 256 * b).tmod 401 = (p : Int) := ⟨((a + 256 * b).tmod 401).toNat, (Int.toNat_of_nonneg (Int.tmod_nonneg _ (by omega))).symm⟩
  have hp1 : p < 401 := by have := Int.tmod_lt_of_pos (a + 256 * b) (b := 401) (by omega); omega
  simp [go_sem]
  refine awake_fun.callF (by simp [go_sem]) ?_
  rintro _ rfl
  simp [go_sem, e1, e2, e3, e4, hp]
  refine (Root_c p).callF (by simp [go_sem]) ?_
  rintro _ rfl
  simp [go_sem]
  refine IWp.loopT (α := Nat) (fun d => (⟨false, 84, 5, [5, 6, 7, 8, 9, 10, 11, 12, 14, 31, 41, 50, 57, 72], [], [(5, .int .i64 (p : Int)), (6, .int .i64 (rN p)), (7, .int .i64 (rE p)), (8, .bool (bdN p d)), (9, .int .i64 (d : Int))], []⟩, [])) (fun d => 2 ≤ d ∧ (d ≤ p ∨ d = 2)) (fun d => p - d) 2 (by omega) (by simp [go_sem, bd_two, Nat.blt_eq]; omega) ?_
  rintro d ⟨hd, hd2⟩
  by_cases h : (d : Int) < p
  · have wd : IntKind.i64.wrap ((d : Int) + 1) = d + 1 := wrap64 (by omega) (by omega)
    have hs := bd_succ p d hd
    cases hbd : bdN p d with
    | true =>
      simp [go_sem, h, wd, hbd]
      exact ⟨d + 1, ⟨by rw [hs, hbd]; rfl, by omega⟩, by omega, by omega⟩
    | false =>
      simp [go_sem, h, wd, hbd]
      refine ⟨by omega, d + 1, ⟨?_, by omega⟩, by omega, by omega⟩
      rw [hs, hbd, Bool.false_or, show (p : Int).tmod (d : Int) = ((p % d : Nat) : Int) from rfl, Bool.eq_iff_iff]
      generalize p % d = z
      simp
  · have hchk := (List.all_eq_true.1 bd_check) p (by simpa using hp1)
    have hdm : d = max 2 p := by omega
    rw [← hdm] at hchk
    cases hbd : bdN p d with
    | true =>
      simp [go_sem, h, hbd]
      have hn : ¬ RtOK p := by
        rintro ⟨h1, h2, h3⟩
        have h4 := isPb_of (by omega) h3
        rw [hbd, h4] at hchk
        simp at hchk
        omega
      have : (rN p == 0 && rE p == 2) = true := by simp [rN, rE, hn]
      rw [this]
      exact hR _ _ _ rfl (by simp [go_sem])
    | false =>
      simp [go_sem, h, hbd]
      rw [hbd] at hchk
      have hpb : isPb p = true ∧ 3 ≤ p := by simp at hchk; exact ⟨hchk.1, blt_f.1 hchk.2⟩
      have r := Rt_at p hpb.2 (by omega) hpb.1
      have rc := (List.all_eq_true.1 root_check) p (by simp; omega)
      have oc := (List.all_eq_true.1 ord_check) p (by simpa using hp1)
      rw [r.1, r.2]
      have hlt3 : Nat.blt p 3 = false := blt_f.2 hpb.2
      rw [hpb.1, hlt3] at rc oc
      generalize rootN p 40 2 = g at rc oc
      have hg : 1 < g ∧ g < p := by simpa using rc
      have oc2 : ordC p g = true := by simpa using oc
      have oc' := List.all_eq_true.1 oc2
      refine IWp.loopT (α := Nat) (fun w => (⟨false, 84, 5, [5, 6, 7, 8, 9, 10, 11, 12, 14, 31, 41, 50, 57, 72], [], [(5, .int .i64 (p : Int)), (6, .int .i64 (g : Int)), (7, .int .i64 0), (10, .int .i64 (w : Int))], []⟩, [])) (fun w => 2 ≤ w ∧ w ≤ g + 1) (fun w => g + 1 - w) 2 (by omega) (by simp [go_sem]) ?_
      rintro w ⟨hw, hw2⟩
      by_cases h : (w : Int) ≤ g
      · have ocw := oc' w (by simp; omega)
        have hb2 : Nat.blt w 2 = false := blt_f.2 hw
        rw [hb2, Bool.false_or] at ocw
        cases hO : ordO p w 402 1 (w % p) with
        | none => rw [hO] at ocw; cases ocw
        | some N =>
          rw [hO] at ocw
          have hN : (N = p - 1) ↔ (w = g) := by
            have h5 : Nat.beq N (p - 1) = Nat.beq w g := eq_of_beq ocw
            exact ⟨fun e => Nat.eq_of_beq_eq_true (by rw [← h5, e]; exact Nat.beq_refl _), fun e => Nat.eq_of_beq_eq_true (by rw [h5, e]; exact Nat.beq_refl _)⟩
          have wm : (w : Int).tmod p = ((w % p : Nat) : Int) := rfl
          have hp0 : ¬ p = 0 := by omega
          have hp0' : ¬ (p : Int) = 0 := by omega
          simp [go_sem, h, wm, hp0, hp0']
          refine ⟨by decide +kernel, ?_⟩
          refine IWp.loopT (α := Nat × Nat × Nat) (fun x => (⟨false, 84, 5, [5, 6, 7, 8, 9, 10, 11, 12, 14, 31, 41, 50, 57, 72], [], [(5, .int .i64 (p : Int)), (6, .int .i64 (g : Int)), (7, .int .i64 0), (10, .int .i64 (w : Int)), (11, .int .i64 (x.2.1 : Int)), (12, .int .i64 (x.2.2 : Int))], []⟩, [])) (fun x => ordO p w x.1 x.2.1 x.2.2 = some N ∧ x.2.2 < p ∧ x.1 + x.2.1 ≤ 403 ∧ 1 ≤ x.2.1) (fun x => x.1) (402, 1, w % p) ⟨hO, Nat.mod_lt _ (by omega), by simp, by simp⟩ (by simp [go_sem]) ?_
          rintro ⟨f, n, y⟩ ⟨hf, hy, hfn, hn1⟩
          simp only at hf hy hfn hn1
          have wn : IntKind.i64.wrap ((n : Int) + 1) = n + 1 := wrap64 (by omega) (by omega)
          cases f with
          | zero => simp [ordO] at hf
          | succ f =>
            unfold ordO at hf
            by_cases hy1 : y = 1
            · rw [if_pos hy1] at hf
              have hnN : n = N := by simpa using hf
              have hy1' : (y : Int) = 1 := by omega
              have wp : IntKind.i64.wrap ((p : Int) - 1) = p - 1 := wrap64 (by omega) (by omega)
              have ww : IntKind.i64.wrap ((w : Int) + 1) = w + 1 := wrap64 (by omega) (by omega)
              have hd : (((n : Int) == (p : Int) - 1) != ((w : Int) == (g : Int))) = false := by
                have h6 : ((n : Int) == (p : Int) - 1) = ((w : Int) == (g : Int)) := by
                  rw [Bool.eq_iff_iff, beq_iff_eq, beq_iff_eq]; omega
                rw [h6]; simp
              simp [go_sem, hy1', wp, ww, hd]
              exact ⟨w + 1, by omega, by omega, by omega⟩
            · rw [if_neg hy1] at hf
              have hy1' : ¬ (y : Int) = 1 := by omega
              have hyw : y * w ≤ 401 * 401 := Nat.mul_le_mul (by omega) (by omega)
              have hw3 : IntKind.i64.wrap ((y : Int) * (w : Int)) = ((y * w : Nat) : Int) := by rw [← Int.natCast_mul]; exact wrap64 (by omega) (by omega)
              have hw4 : ((y * w : Nat) : Int).tmod p = ((y * w % p : Nat) : Int) := rfl
              simp [go_sem, hy1', wn, hw3, hp0, hp0']
              refine ⟨f, n + 1, y * w % p, ⟨by omega, ?_⟩, ⟨hf, Nat.mod_lt _ (by omega), by omega, by omega⟩, by omega⟩
              rw [← Int.natCast_mul]; rfl
      · simp [go_sem, h]
        have : (decide (2 ≤ (g : Int)) && decide (g < p)) = true := by simp; omega
        rw [this]
        exact hR _ _ _ rfl (by simp [go_sem])
end Go.Idl
