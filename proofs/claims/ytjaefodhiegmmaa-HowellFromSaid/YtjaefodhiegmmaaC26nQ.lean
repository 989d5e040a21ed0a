import Derived.Test.YtjaefodhiegmmaaC26nP
import Derived.Test.YtjaefodhiegmmaaC26nB
namespace Go.Idl
set_option linter.all false
open Go.Proofs
set_option maxHeartbeats 4000000
set_option maxRecDepth 20000
open Classical

noncomputable def pN (t : Int) : Int := if HP t then 2 * t - 1 else 0
noncomputable def pB (t : Int) : Bool := decide (HP t)
def RtOK (p : Int) : Prop := 3 ≤ p ∧ p ≤ 1000 ∧ PrimeOK p
noncomputable def rN (p : Int) : Int := if RtOK p then rootOf p else 0
noncomputable def rE (p : Int) : Int := if RtOK p then 0 else 2
noncomputable def sL (t : Int) : List (Int × Int) := if 2 ≤ t ∧ t ≤ 24 then stL t else []
noncomputable def sE (t : Int) : Int := if 2 ≤ t ∧ t ≤ 24 then 0 else 2
noncomputable def chkE (n : Int) (l : List (Int × Int)) : Int := if BadN n then 2 else if (l.length : Int) = (n - 1).tdiv 2 ∧ Good n l then 0 else 260
noncomputable def chkB (n : Int) (l : List (Int × Int)) : Bool := decide (¬ BadN n ∧ (l.length : Int) = (n - 1).tdiv 2 ∧ Good n l ∧ Str n l)
theorem ChkV.eq {n : Int} {l : List (Int × Int)} {b : Bool} {e : Int} (h : ChkV n l b e) : b = chkB n l ∧ e = chkE n l := by
  unfold chkB chkE
  rcases h with ⟨h1, rfl, rfl⟩ | ⟨h1, h2, rfl, rfl⟩ | ⟨h1, h2, h3, h4, rfl⟩
  · simp [h1]
  · have : ¬ ((l.length : Int) = (n - 1).tdiv 2 ∧ Good n l) := fun h => h2.elim (fun h2 => h2 h.1) fun h2 => h2 h.2
    rw [if_neg h1, if_neg this]
    refine ⟨?_, rfl⟩
    symm
    simp only [decide_eq_false_iff_not]
    exact fun h => this ⟨h.2.1, h.2.2.1⟩
  · rw [if_neg h1, if_pos ⟨h2, h3⟩]
    refine ⟨?_, rfl⟩
    by_cases hs : Str n l
    · rw [h4.2 hs, decide_eq_true]; exact ⟨h1, h2, h3, hs⟩
    · rw [decide_eq_false fun h => hs h.2.2.2]
      cases b with
      | false => rfl
      | true => exact absurd (h4.1 rfl) hs
noncomputable def fromM (n r : Int) (l : List (Int × Int)) : Mov := if chkE n l = 0 ∧ 1 ≤ r ∧ r ≤ n then movOf n r (chkB n l) l else Mov.zero
noncomputable def fromE (n r : Int) (l : List (Int × Int)) : Int := if chkE n l ≠ 0 then chkE n l else if r < 1 then 2 else if n < r then 5 else 0
theorem FromV.eq {n r : Int} {l : List (Int × Int)} {v : IV} (h : FromV n r l v) : v = .tup [(fromM n r l).v, .int .i64 (fromE n r l)] := by
  unfold fromM fromE
  obtain ⟨b, e, hc, h⟩ := h
  obtain ⟨rfl, rfl⟩ := hc.eq
  rcases h with ⟨h1, rfl⟩ | ⟨h1, h2, rfl⟩ | ⟨h1, h2, h3, rfl⟩ | ⟨h1, h2, h3, rfl⟩
  · rw [if_neg fun h => h1 h.1, if_pos h1]
  · rw [if_neg fun h => by omega, if_neg (by omega), if_pos h2]
  · rw [if_neg fun h => by omega, if_neg (by omega), if_neg (by omega), if_pos h3]
  · rw [if_pos ⟨h1, h2, h3⟩, if_neg (by omega), if_neg (by omega), if_neg (by omega)]
noncomputable def makeM (t r : Int) : Mov := if 2 ≤ t ∧ t ≤ 24 then fromM (2 * t - 1) r (stL t) else Mov.zero
noncomputable def makeE (t r : Int) : Int := if 2 ≤ t ∧ t ≤ 24 then fromE (2 * t - 1) r (stL t) else 2
theorem MakeV.eq {t r : Int} {v : IV} (h : MakeV t r v) : v = .tup [(makeM t r).v, .int .i64 (makeE t r)] := by
  unfold makeM makeE
  rcases h with ⟨h1, rfl⟩ | ⟨h1, h2, h3⟩
  · rw [if_neg h1, if_neg h1]
  · rw [if_pos ⟨h1, h2⟩, if_pos ⟨h1, h2⟩]; exact h3.eq

/-! ### the contracts, as functions -/
theorem Prime_c (t : Int) : IFun true Try.prog [] 14 [.int .i64 t] (fun v => v = .tup [.int .i64 (pN t), .bool (pB t)]) :=
  (Prime_fun t).mono fun v h => by
    unfold pN pB
    rcases h with ⟨rfl, h⟩ | ⟨rfl, h⟩
    · have h : HP t := h
      rw [if_pos h, decide_eq_true h]
    · have h : ¬ HP t := h
      rw [if_neg h, decide_eq_false h]
theorem refPrime_c (t : Int) : IFun true Try.prog [] 25 [.int .i64 t] (fun v => v = .tup [.int .i64 (pN t), .bool (pB t)]) :=
  (refPrime_fun t).mono fun v h => by
    unfold pN pB
    rw [RPrimeOK_iff] at h
    rcases h with ⟨rfl, h⟩ | ⟨rfl, h⟩
    · rw [if_pos h, decide_eq_true h]
    · rw [if_neg h, decide_eq_false h]
theorem Root_c (p : Int) : IFun true Try.prog [] 22 [.int .i64 p] (fun v => v = .tup [.int .i64 (rN p), .int .i64 (rE p)]) :=
  (Root_fun p (rootOf p) fun h1 h2 h3 => (root_ok h1 h2 h3).1).mono fun v h => by
    unfold rN rE
    rcases h with ⟨rfl, h⟩ | ⟨rfl, h⟩
    · have h : RtOK p := h
      rw [if_pos h, if_pos h]
    · have h : ¬ RtOK p := h
      rw [if_neg h, if_neg h]
theorem refRoot_c (p : Int) : IFun true Try.prog [] 26 [.int .i64 p] (fun v => v = .tup [.int .i64 (rN p), .int .i64 (rE p)]) :=
  (refRoot_fun p (rootOf p) fun h1 h2 h3 => by
    obtain ⟨hr, hr2⟩ := root_ok h1 h2 (prime_all.1 h3)
    refine ⟨hr.1, hr.2.1, ?_, fun b b1 b2 => ?_⟩
    · obtain ⟨k, k1, k2⟩ := hr.2.2.1
      rw [show p.toNat - 1 = k by omega]
      exact k1.dst
    · obtain ⟨k, k1, k2⟩ := hr2 b b1 b2
      exact k1.not_dst (by omega)).mono fun v h => by
    unfold rN rE RtOK
    rw [prime_all] at h
    rcases h with ⟨rfl, h⟩ | ⟨rfl, h⟩
    · rw [if_pos h, if_pos h]
    · rw [if_neg h, if_neg h]
theorem Starter_c (t : Int) : IFun true Try.prog [] 18 [.int .i64 t] (fun v => v = .tup [.fz 2 (prs (sL t)), .int .i64 (sE t)]) :=
  (starter_fun t).mono fun v h => by
    unfold sL sE
    rcases h with ⟨h1, h2, rfl⟩ | ⟨h, rfl⟩
    · rw [if_pos ⟨h1, h2⟩, if_pos ⟨h1, h2⟩]
    · rw [if_neg h, if_neg h]
theorem refStarter_c (t : Int) : IFun true Try.prog [] 23 [.int .i64 t] (fun v => v = .tup [.fz 2 (prs (sL t)), .int .i64 (sE t)]) :=
  (refStarter_fun t).mono fun v h => by
    unfold sL sE
    rcases h with ⟨h1, h2, rfl⟩ | ⟨h, rfl⟩
    · rw [if_pos ⟨h1, h2⟩, if_pos ⟨h1, h2⟩]
    · rw [if_neg h, if_neg h]
theorem Check_c (n : Int) (l : List (Int × Int)) (hl : l.length ≤ 2 ^ 32) : IFun true Try.prog [] 19 [.int .i64 n, .fz 2 (prs l)] (fun v => v = .tup [.bool (chkB n l), .int .i64 (chkE n l)]) :=
  (check_fun n l hl).mono fun v ⟨b, e, h, hc⟩ => by obtain ⟨rfl, rfl⟩ := hc.eq; exact h
theorem refCheck_c (n : Int) (l : List (Int × Int)) (hl : l.length ≤ 2 ^ 32) : IFun true Try.prog [] 29 [.int .i64 n, .fz 2 (prs l)] (fun v => v = .tup [.bool (chkB n l), .int .i64 (chkE n l)]) :=
  (refCheck_fun n l hl).mono fun v ⟨b, e, h, hc⟩ => by obtain ⟨rfl, rfl⟩ := hc.eq; exact h
theorem From_c (n r : Int) (l : List (Int × Int)) (hl : l.length ≤ 2 ^ 32) : IFun true Try.prog [] 20 [.int .i64 n, .int .i64 r, .fz 2 (prs l)] (fun v => v = .tup [(fromM n r l).v, .int .i64 (fromE n r l)]) := (from_fun n r l hl).mono fun _ h => h.eq
theorem refFrom_c (n r : Int) (l : List (Int × Int)) (hl : l.length ≤ 2 ^ 32) : IFun true Try.prog [] 30 [.int .i64 n, .int .i64 r, .fz 2 (prs l)] (fun v => v = .tup [(fromM n r l).v, .int .i64 (fromE n r l)]) := (refFrom_fun n r l hl).mono fun _ h => h.eq
theorem Make_c (t r : Int) : IFun true Try.prog [] 15 [.int .i64 t, .int .i64 r] (fun v => v = .tup [(makeM t r).v, .int .i64 (makeE t r)]) := (make_fun t r).mono fun _ h => h.eq
theorem refMake_c (t r : Int) : IFun true Try.prog [] 27 [.int .i64 t, .int .i64 r] (fun v => v = .tup [(makeM t r).v, .int .i64 (makeE t r)]) := (refMake_fun t r).mono fun _ h => h.eq

theorem movOf_len {n r : Int} {b : Bool} {l : List (Int × Int)} (hr : r ≤ n) (hn : n ≤ 47) (hl : l.length ≤ 23) : (movOf n r b l).l.length < 2 ^ 32 := by
  simp only [movOf, rowsL_length]
  have : r.toNat * (l.length + 1) ≤ 47 * 24 := Nat.mul_le_mul (by omega) (by omega)
  omega
theorem fromM_len (n r : Int) (l : List (Int × Int)) : (fromM n r l).l.length < 2 ^ 32 := by
  unfold fromM
  split
  · rename_i h
    have h0 := h.1
    unfold chkE at h0
    split at h0
    · omega
    · rename_i hb
      split at h0
      · rename_i h1
        unfold BadN at hb
        have := h1.1
        rw [Int.tdiv_eq_ediv_of_nonneg (by omega)] at this
        exact movOf_len h.2.2 (by omega) (by omega)
      · omega
  · simp [Mov.zero]
theorem makeM_len (t r : Int) : (makeM t r).l.length < 2 ^ 32 := by
  unfold makeM
  split
  · exact fromM_len _ _ _
  · simp [Mov.zero]
theorem sL_len (t : Int) : (sL t).length < 2 ^ 32 := by
  unfold sL
  split
  · rename_i h; have := stL_length h; omega
  · simp

theorem tells_fun (t r p : Int) : IFun true Try.prog [] 11 [.int .i64 t, .int .i64 r, .int .i64 p] (fun v => v = .bool true) := by
  refine IFun.of_bodyZ false 7 [7, 8, 9, 10, 11, 12, 13, 14, 15, 16, 17, 18, 19, 20, 21, 22] Try.func11 rfl Try.call11 rfl fun R hR => ?_
  simp [go_sem]
  refine (Prime_c t).callF (by simp [go_sem]) ?_
  rintro _ rfl
  simp [go_sem]
  refine (refPrime_c t).callF (by simp [go_sem]) ?_
  rintro _ rfl
  simp [go_sem]
  refine (Root_c p).callF (by simp [go_sem]) ?_
  rintro _ rfl
  simp [go_sem]
  refine (refRoot_c p).callF (by simp [go_sem]) ?_
  rintro _ rfl
  simp [go_sem]
  refine (Starter_c t).callF (by simp [go_sem]) ?_
  rintro _ rfl
  simp [go_sem]
  refine (refStarter_c t).callF (by simp [go_sem]) ?_
  rintro _ rfl
  simp [go_sem]
  refine (Make_c t r).callF (by simp [go_sem]) ?_
  rintro _ rfl
  simp [go_sem, Mov.v]
  refine (refMake_c t r).callF (by simp [go_sem]) ?_
  rintro _ rfl
  simp [go_sem, Mov.v]
  refine (slicesEqual_fun (sL t) (sL t) (sL_len t) (sL_len t)).callF (by simp [go_sem]) ?_
  rintro _ rfl
  simp [go_sem]
  refine (sameMovement_fun (makeM t r) (makeM t r) (makeM_len t r) (makeM_len t r)).callF (by simp [go_sem, Mov.v]) ?_
  rintro _ rfl
  simp [go_sem]
  refine hR _ _ _ rfl ?_
  simp [go_sem]

theorem froms_fun (n r : Int) (l : List (Int × Int)) (hl : l.length ≤ 2 ^ 30) : IFun true Try.prog [] 13 [.int .i64 n, .int .i64 r, .fz 2 (prs l)] (fun v => v = .bool true) := by
  refine IFun.of_bodyZ true 7 [7, 8, 9, 10, 11, 12, 13, 14, 15, 16] Try.func13 rfl Try.call13 rfl fun R hR => ?_
  have w1 : IntKind.i64.wrap ((l.length : Int) + 2) = l.length + 2 := wrap64 (by omega) (by omega)
  have e1 : ((l.length : Int) + 2).toNat = l.length + 2 := by omega
  simp [go_sem, w1, e1]
  refine ⟨⟨by omega, by omega⟩, prs_one, ?_⟩
  have hd : ∀ a b : List IV, List.drop (l.length + 1) (prs l ++ [a, b]) = [b] := fun a b => by
    rw [List.drop_append, List.drop_of_length_le (by simp)]; simp
  have hx : ∀ (a : List IV) (b : List (List IV)), (prs l ++ a :: b)[l.length]? = some a := fun a b => by
    rw [List.getElem?_append_right (by simp)]; simp
  rw [hd]
  refine (Check_c n l (by omega)).callF (by simp [go_sem]) ?_
  rintro _ rfl
  simp [go_sem]
  refine (refCheck_c n l (by omega)).callF (by simp [go_sem]) ?_
  rintro _ rfl
  simp [go_sem]
  refine (From_c n r l (by omega)).callF (by simp [go_sem]) ?_
  rintro _ rfl
  simp [go_sem, Mov.v]
  refine (refFrom_c n r l (by omega)).callF (by simp [go_sem]) ?_
  rintro _ rfl
  simp [go_sem, Mov.v]
  refine (sameMovement_fun (fromM n r l) (fromM n r l) (fromM_len n r l) (fromM_len n r l)).callF (by simp [go_sem, Mov.v]) ?_
  rintro _ rfl
  simp [go_sem]
  refine (slicesEqual_fun l l (by omega) (by omega)).callF (by simp [go_sem]) ?_
  rintro _ rfl
  simp [go_sem, hx]
  refine ⟨by omega, hR _ _ _ rfl ?_⟩
  simp [go_sem]
end Go.Idl
