/-
  Chapter 25: tells.
  Chapter 25: awake.
-/
import Derived.Test.YtjdcaidcheodpaaC25PartK
import Derived.Test.YtjdcaidcheodpaaC25PartD
namespace Go.Idl
set_option linter.all false
open Go.Proofs
set_option maxHeartbeats 8000000
set_option maxRecDepth 40000

theorem tells_fun25 (m : Mv) (rd p : Int) (hl : m.rows.length ≤ 700) : FN 18 [m.v, .int .i64 rd, .int .i64 p] (fun v => v = .bool true) := by
  refine IFun.of_bodyZ false 18 [84] Try.func18 rfl Try.call18 rfl fun R hR => ?_
  simp [go_sem, Mv.v]
  refine (lentMovement_calls m (by omega)).at [] (by simp [go_sem, Mv.v]) ?_
  rintro _ _ ⟨rfl, rfl⟩
  simp [go_sem, Mv.o, lentO]
  refine (without_fun m p (by omega)).callOF (by simp [go_sem, Mv.v]) ?_
  rintro _ rfl
  have cw := refWithout_fun m p (by omega)
  have cwh := where_fun m rd p (by omega)
  have crw := refWhere_fun m rd p (by omega)
  have co := out_fun m rd (by omega)
  have cro := refOut_fun m rd (by omega)
  have cp := pairs_fun m (by omega)
  have crp := refPairs_fun m (by omega)
  have hXl : (woM p m).rows.length ≤ 700 := by unfold woM; split <;> simp [mvZ] <;> omega
  have hOl : (outL m.rows rd).length ≤ 1400 := by
    have h1 := prs_len m.rows
    have h2 := List.length_filter_le (sitsB m.rows rd) (prs m.rows)
    unfold outL; omega
  have hPl : (prs m.rows).length ≤ 1400 := by have h1 := prs_len m.rows; omega
  generalize woM p m = X at *
  generalize woE p m = E at *
  generalize wheR m.rows rd p = W at *
  generalize outL m.rows rd = O at *
  generalize prs m.rows = A at *
  obtain ⟨xa, xb, xc, xd, xe, xl⟩ := X
  have cs := sameMovement_fun ⟨xa, xb, xc, xd, xe, xl⟩ ⟨xa, xb, xc, xd, xe, xl⟩ (by simp at hXl ⊢; omega)
  have ci := sameInts_fun O O (by omega)
  have ci2 := sameInts_fun A A (by omega)
  simp only [Mv.v] at cw cwh crw co cro cp crp cs ⊢
  refine ⟨fun v => .tup ([] ++ .agg ([.int .i64 xa, .int .i64 xb, .int .i64 xc, .int .i64 xd, .int .i64 xe] ++ v :: []) :: [.int .i64 E]), 5, rws xl, .tup [] [.int .i64 E] _ (by simp) (by simp [scal]) (.agg [.int .i64 xa, .int .i64 xb, .int .i64 xc, .int .i64 xd, .int .i64 xe] [] _ (by simp [scal]) (by simp) .here), by decide, rfl, by simp [go_sem], ?_⟩
  simp at hXl
  simp [go_sem]
  refine cw.callF (by simp [go_sem]) ?_
  rintro _ rfl
  simp [go_sem]
  refine cwh.callF (by simp [go_sem]) ?_
  rintro _ rfl
  simp [go_sem, whV, Rw.v]
  refine crw.callF (by simp [go_sem]) ?_
  rintro _ rfl
  simp [go_sem, whV, Rw.v]
  refine Drawn.intro (fun k => if k = 2 then .tup [.junk, .fz 1 (ints O)] else if k = 4 then .tup [.junk, .fz 1 (ints A)] else .tup []) ?_
  simp [go_sem, co, cp]
  have hcl1 : ∀ row ∈ rws m.rows, ∀ c ∈ row, Cl c := ScR.cl (mp_sc (by simp [scal, Rw.c]))
  refine ⟨hcl1, by decide +kernel, ?_⟩
  refine cs.callF (by simp [go_sem]) ?_
  rintro _ rfl
  simp [go_sem]
  refine cro.callF (by simp [go_sem]) ?_
  rintro _ rfl
  simp [go_sem]
  refine ci.callF (by simp [go_sem]) ?_
  rintro _ rfl
  simp [go_sem]
  refine crp.callM (by simp [go_sem]) ?_
  rintro _ rfl
  simp [go_sem]
  refine ci2.callF (by simp [go_sem]) ?_
  rintro _ rfl
  simp [go_sem]
  refine (overMovement_calls xa xb xc xd xe xl (by omega)).at [5] (by simp [go_sem]) ?_
  rintro _ _ ⟨rfl, rfl⟩
  simp [go_sem]
  refine overInts_calls (rs := ints O) (by simp) (by simp) (by omega) ?_
  simp [go_sem]
  refine overInts_calls (rs := ints A) (by simp) (by simp) (by omega) ?_
  simp [go_sem]
  refine (keptMovement_calls m (by omega)).at [3] (by simp [go_sem, Mv.o, Mv.v, lentO]) ?_
  rintro _ _ ⟨rfl, rfl⟩
  simp [go_sem]
  exact hR _ _ _ rfl (by simp [go_sem])
end Go.Idl
namespace Go.Idl
set_option linter.all false
open Go.Proofs
set_option maxHeartbeats 16000000
set_option maxRecDepth 40000

def L9 : List Rw := [⟨0, 0, 1, 4, 0⟩, ⟨0, 1, 2, 5, 1⟩, ⟨0, 2, 3, 6, 2⟩, ⟨1, 0, 1, 6, 1⟩, ⟨1, 1, 2, 4, 2⟩, ⟨1, 2, 3, 5, 0⟩, ⟨2, 0, 1, 5, 2⟩, ⟨2, 1, 2, 6, 0⟩, ⟨2, 2, 3, 4, 1⟩]
def M9 : Mv := ⟨3, 3, 3, 1, 2, L9⟩
theorem aw_make : makeM 1 3 3 = M9 ∧ makeE 1 3 3 = 0 := by decide +kernel
theorem aw_most : mostK 4 2 = 3 ∧ findE 4 2 = 0 ∧ findE 4 1 = 6 ∧ findE 25 1 = 2 ∧ mostK 4 1 = 0 ∧ mostK 25 1 = 0 := by decide +kernel
def sh16 : List Rw := (makeM 3 4 4).rows
def sk12 : List Rw := (makeM 2 4 3).rows
theorem aw_share : makeM 3 4 4 = ⟨4, 4, 4, 2, 2, sh16⟩ ∧ makeE 3 4 4 = 0 ∧ sh16.length = 16 ∧ (sh16[2]?.getD zRw).s = 3 ∧ (sh16[3]?.getD zRw).s = 0 := by decide +kernel
theorem aw_skip : makeM 2 4 3 = ⟨4, 3, 4, 1, 2, sk12⟩ ∧ makeE 2 4 3 = 0 ∧ sk12.length = 12 ∧ (sk12[8]?.getD zRw).ew = 6 ∧ (sk12[11]?.getD zRw).ew = 5 := by decide +kernel
def wo9 : List Rw := (woM 6 M9).rows
theorem aw_wo : woM 6 M9 = ⟨3, 3, 3, 1, 2, wo9⟩ ∧ woE 6 M9 = 0 ∧ wo9.length = 9 ∧ (wo9[2]?.getD zRw).ew = 0 := by decide +kernel
theorem outL_ref (L : List Rw) (rd : Int) : outL L rd = (refP L).filter (sitsB L rd) := by rw [refP_eq]; rfl
theorem aw_wo2 : outL wo9 0 = [3] := by rw [outL_ref]; decide +kernel
def ro25 : List Rw := (roverM 5 5).rows
theorem aw_ro : roverM 5 5 = ⟨5, 5, 5, 1, 2, ro25⟩ ∧ roverE 5 5 = 0 ∧ ro25.length = 25 ∧ (ro25[7]?.getD zRw).ns = 11 ∧ roverE 9 1 = 6 := by decide +kernel
theorem aw_ro2 : outL ro25 1 = [3] := by rw [outL_ref]; decide +kernel
theorem rw_at {l : List Rw} {n i : Nat} {x : Rw} (hl : l.length = n) (hi : i < n) (hx : l[i]?.getD zRw = x) (h : i < l.length) : l[i] = x := by
  rw [← hx, List.getElem?_eq_getElem h]; rfl
def arr9 : List (List IV) := [[.int .i64 1, .int .i64 4, .int .i64 0], [.int .i64 2, .int .i64 5, .int .i64 1], [.int .i64 3, .int .i64 6, .int .i64 2], [.int .i64 1, .int .i64 6, .int .i64 1], [.int .i64 2, .int .i64 4, .int .i64 2], [.int .i64 3, .int .i64 5, .int .i64 0], [.int .i64 1, .int .i64 5, .int .i64 2], [.int .i64 2, .int .i64 6, .int .i64 0], [.int .i64 3, .int .i64 4, .int .i64 1]]
theorem awake_fun25 : FN 12 [] (fun v => v = .bool true) := by
  refine IFun.of_bodyZ false 17 [53, 63, 64, 65, 66, 86, 174, 202] Try.func12 rfl Try.call12 rfl fun R hR => ?_
  simp [go_sem]
  refine (make_fun 3 3 1 (by omega)).callF (by simp [go_sem]) ?_
  rintro _ rfl
  rw [aw_make.1, aw_make.2]
  have l9 : L9.length = 9 := rfl
  simp [go_sem, Mv.v, M9, l9]
  refine IWp.loopT (α := Nat) (fun i => (⟨false, 238, 17, [53, 63, 64, 65, 66, 86, 174, 202], [], [(1, .ptr 0 1 0 0), (63, .sl 1 9 0 9 none), (64, .int .i64 9), (65, .int .i64 (i : Int))], []⟩, [.rows 6 [[.int .i64 3, .int .i64 3, .int .i64 3, .int .i64 1, .int .i64 2, .fz 5 (rws L9)]], .rows 3 arr9]))
    (fun i => i ≤ 9) (fun i => 9 - i) 0 (by simp) (by simp [go_sem, arr9]) ?_
  intro i hi
  by_cases h : i < 9
  · have w1 : IntKind.i64.wrap ((i : Int) + 1) = i + 1 := wrap64 (by omega) (by omega)
    have q0 : ∀ h : 0 < L9.length, L9[0] = ⟨0, 0, 1, 4, 0⟩ := fun _ => rfl
    have q1 : ∀ h : 1 < L9.length, L9[1] = ⟨0, 1, 2, 5, 1⟩ := fun _ => rfl
    have q2 : ∀ h : 2 < L9.length, L9[2] = ⟨0, 2, 3, 6, 2⟩ := fun _ => rfl
    have q3 : ∀ h : 3 < L9.length, L9[3] = ⟨1, 0, 1, 6, 1⟩ := fun _ => rfl
    have q4 : ∀ h : 4 < L9.length, L9[4] = ⟨1, 1, 2, 4, 2⟩ := fun _ => rfl
    have q5 : ∀ h : 5 < L9.length, L9[5] = ⟨1, 2, 3, 5, 0⟩ := fun _ => rfl
    have q6 : ∀ h : 6 < L9.length, L9[6] = ⟨2, 0, 1, 5, 2⟩ := fun _ => rfl
    have q7 : ∀ h : 7 < L9.length, L9[7] = ⟨2, 1, 2, 6, 0⟩ := fun _ => rfl
    have q8 : ∀ h : 8 < L9.length, L9[8] = ⟨2, 2, 3, 4, 1⟩ := fun _ => rfl
    have wk : IntKind.i64.wrap 0 = 0 ∧ IntKind.i64.wrap 1 = 1 ∧ IntKind.i64.wrap 2 = 2 := ⟨rfl, rfl, rfl⟩
    rcases (by omega : i = 0 ∨ i = 1 ∨ i = 2 ∨ i = 3 ∨ i = 4 ∨ i = 5 ∨ i = 6 ∨ i = 7 ∨ i = 8) with rfl | rfl | rfl | rfl | rfl | rfl | rfl | rfl | rfl
    all_goals
      simp [go_sem, l9, arr9, q0, q1, q2, q3, q4, q5, q6, q7, q8, wk]
      refine ⟨by decide +kernel, ?_⟩
    · exact ⟨1, by decide +kernel, by omega, by omega⟩
    · exact ⟨2, by decide +kernel, by omega, by omega⟩
    · exact ⟨3, by decide +kernel, by omega, by omega⟩
    · exact ⟨4, by decide +kernel, by omega, by omega⟩
    · exact ⟨5, by decide +kernel, by omega, by omega⟩
    · exact ⟨6, by decide +kernel, by omega, by omega⟩
    · exact ⟨7, by decide +kernel, by omega, by omega⟩
    · exact ⟨8, by decide +kernel, by omega, by omega⟩
    · exact ⟨9, by decide +kernel, by omega, by omega⟩
  have : i = 9 := by omega
  subst this
  clear h hi
  simp [go_sem]
  refine (most_fun 4 2 (by omega)).callF (by simp [go_sem]) ?_
  rintro _ rfl
  rw [aw_most.1, aw_most.2.1]
  simp [go_sem]
  refine (most_fun 4 1 (by omega)).callF (by simp [go_sem]) ?_
  rintro _ rfl
  rw [aw_most.2.2.1]
  simp [go_sem]
  refine (most_fun 25 1 (by omega)).callF (by simp [go_sem]) ?_
  rintro _ rfl
  rw [aw_most.2.2.2.1]
  simp [go_sem]
  obtain ⟨h1, h2, h3, h4, h5⟩ := aw_share
  refine (make_fun 4 4 3 (by omega)).callF (by simp [go_sem]) ?_
  rintro _ rfl
  rw [h1, h2]
  simp [go_sem, Mv.v]
  obtain ⟨k1, k2, k3, k4, k5⟩ := aw_skip
  refine (make_fun 4 3 2 (by omega)).callF (by simp [go_sem]) ?_
  rintro _ rfl
  rw [k1, k2]
  have m1 : ∀ h : 2 < sh16.length, sh16[2].s = 3 := fun h => by rw [← h4, List.getElem?_eq_getElem h]; rfl
  have m2 : ∀ h : 3 < sh16.length, sh16[3].s = 0 := fun h => by rw [← h5, List.getElem?_eq_getElem h]; rfl
  have m3 : ∀ h : 8 < sk12.length, sk12[8].ew = 6 := fun h => by rw [← k4, List.getElem?_eq_getElem h]; rfl
  have m4 : ∀ h : 11 < sk12.length, sk12[11].ew = 5 := fun h => by rw [← k5, List.getElem?_eq_getElem h]; rfl
  have w0 : IntKind.i64.wrap 0 = 0 := rfl
  simp [go_sem, Mv.v, h3, k3, m1, m2, m3, m4, w0]
  refine (without_fun M9 6 (by decide)).callF (by simp [go_sem, Mv.v, M9, l9]) ?_
  rintro _ rfl
  obtain ⟨p1, p2, p3, p4⟩ := aw_wo
  rw [p1, p2]
  simp [go_sem, Mv.v]
  refine (out_fun ⟨3, 3, 3, 1, 2, wo9⟩ 0 (by rw [p3]; decide)).callF (by simp [go_sem, Mv.v]) ?_
  rintro _ rfl
  have o1 := aw_wo2
  have m5 : ∀ h : 2 < wo9.length, wo9[2].ew = 0 := fun h => by rw [← p4, List.getElem?_eq_getElem h]; rfl
  simp only [o1]
  simp [go_sem, p3, m5, ints_cons]
  refine (rover_fun 5 5).callF (by simp [go_sem]) ?_
  rintro _ rfl
  obtain ⟨r1, r2, r3, r4, r5⟩ := aw_ro
  rw [r1, r2]
  simp [go_sem, Mv.v]
  refine (out_fun ⟨5, 5, 5, 1, 2, ro25⟩ 1 (by rw [r3]; decide)).callF (by simp [go_sem, Mv.v]) ?_
  rintro _ rfl
  simp only [aw_ro2]
  simp [go_sem]
  refine (rover_fun 9 1).callF (by simp [go_sem]) ?_
  rintro _ rfl
  rw [r5]
  have m6 : ∀ h : 7 < ro25.length, ro25[7].ns = 11 := fun h => by rw [← r4, List.getElem?_eq_getElem h]; rfl
  simp [go_sem, Mv.v, r3, m6, ints_cons]
  exact hR _ _ _ rfl (by simp [go_sem])
end Go.Idl
