/-
  Chapter 28: the reference's Faults.
  Chapter 28: the program's faults are the reference's (plain).
-/
import Derived.Test.YtdnkleclccjffaaC28PartS
import Derived.Test.YtdnkleclccjffaaC28PartP
namespace Go.Idl
set_option linter.all false
open Go.Proofs
set_option maxHeartbeats 8000000
set_option maxRecDepth 40000

def Flt.c2 (f : Flt) : List IV := [.int .i64 f.k, .int .i64 f.row, .int .i64 f.p, .int .i64 f.o]
def fltr (l : List Flt) : List (List IV) := mp Flt.c2 l
@[simp] theorem fltr_length (l : List Flt) : (fltr l).length = l.length := mp_length
@[simp] theorem fltr_getElem (l : List Flt) (i : Nat) (h : i < (fltr l).length) : (fltr l)[i] = [.int .i64 (l[i]'(by simpa using h)).k, .int .i64 (l[i]'(by simpa using h)).row, .int .i64 (l[i]'(by simpa using h)).p, .int .i64 (l[i]'(by simpa using h)).o] := by simp [fltr, mp, Flt.c2]
theorem fltr_snoc {l : List Flt} {f : Flt} : fltr (l ++ [f]) = fltr l ++ [[.int .i64 f.k, .int .i64 f.row, .int .i64 f.p, .int .i64 f.o]] := mp_snoc
theorem fltr_append {l m : List Flt} : fltr (l ++ m) = fltr l ++ fltr m := mp_append
theorem fltr_cons {l : List Flt} {f : Flt} : fltr (f :: l) = [.int .i64 f.k, .int .i64 f.row, .int .i64 f.p, .int .i64 f.o] :: fltr l := rfl
@[go_sem] theorem fltr_nil : fltr [] = [] := rfl
@[go_sem] theorem ScR_fltr {l : List Flt} : ScR (fltr l) = True := eq_true (mp_sc (by simp [scal, Flt.c2]))
@[go_sem] theorem ClR_fltr {l : List Flt} : ClR (fltr l) = True := eq_true (ScR.cl (mp_sc (by simp [scal, Flt.c2])))
@[go_sem] theorem BlR_fltr {n : Nat} {l : List Flt} : BlR n (fltr l) = True := eq_true (ScR.bl (mp_sc (by simp [scal, Flt.c2])))
theorem bInts_snoc {bs : List Nat} {k : Nat} : ints (bInts (bs ++ [k])) = ints (bInts bs) ++ [[.int .i64 (k : Int)]] := by
  rw [bInts, List.map_append, ints_append]; rfl

/-! ### its parts -/
def hitF (k i p at_ : Int) : List Flt := if 0 ≤ at_ then [⟨k, i, p, at_⟩] else []
def part2 (i : Int) (x : Rw) : List Flt := if 0 < x.ns ∧ x.ns = x.ew then [⟨2, i, x.ns, x.ew⟩] else []
def part3 (l : List Rw) (bs : List Nat) (i : Int) (x : Rw) : List Flt := hitF 3 i x.ns (firstR (sitP l x.r x.ns) bs)
def part3b (l : List Rw) (bs : List Nat) (i : Int) (x : Rw) : List Flt := if x.ns ≠ x.ew then hitF 3 i x.ew (firstR (sitP l x.r x.ew) bs) else []
def loadP (l : List Rw) (x : Rw) (k : Nat) : Bool := (rAtR l k).r == x.r && (rAtR l k).s == x.s
def metP (l : List Rw) (x : Rw) (k : Nat) : Bool := meetB (rAtR l k) && inB (rAtR l k) x.ns && inB (rAtR l k) x.ew
def part4 (m : Mv) (bs : List Nat) (i : Int) (x : Rw) : List Flt := if m.copies ≤ bs.countP (loadP m.rows x) then [⟨4, i, x.s, bs.countP (loadP m.rows x)⟩] else []
def part5 (l : List Rw) (bs : List Nat) (i : Int) (x : Rw) : List Flt := if meetB x = true then hitF 5 i x.ns (firstR (playP l x.s x.ns) bs) ++ hitF 5 i x.ew (firstR (playP l x.s x.ew) bs) else []
def part6 (l : List Rw) (lim : Int) (bs : List Nat) (i : Int) (x : Rw) : List Flt := if meetB x = true ∧ lim ≤ bs.countP (metP l x) then [⟨6, i, x.ns, x.ew⟩] else []
def rStep (m : Mv) (lim : Int) (i : Nat) (x : Rw) (q : List Flt × List Nat) : List Flt × List Nat :=
  if wrongR m q.2 x = true then (q.1 ++ [⟨1, i, x.ns, x.ew⟩], q.2)
  else (q.1 ++ part2 i x ++ part3 m.rows q.2 i x ++ part3b m.rows q.2 i x ++ part4 m q.2 i x ++ part5 m.rows q.2 i x ++ part6 m.rows lim q.2 i x, q.2 ++ [i])
def rRun (m : Mv) (lim : Int) : Nat → List Rw → List Flt × List Nat → List Flt × List Nat
  | _, [], q => q
  | i, x :: l, q => rRun m lim (i + 1) l (rStep m lim i x q)
/-- The state of the walk: faults, the rows before, the row. -/
def refE (lim : Int) (i : Nat) (F : List Flt) (bs : List Nat) (more : List (Nat × IV)) : Env :=
  ⟨false, 217, 18, [20, 22, 27, 38, 57, 75, 99, 111, 133, 149, 155, 165, 174, 191, 202], [], [(1, .int .i64 lim), (2, .ptr 0 1 0 0), (6, .sl 1 F.length 0 F.length none), (7, .sl 2 bs.length 0 bs.length none), (8, .int .i64 (i : Int))] ++ more, []⟩
def refH (m : Mv) (F : List Flt) (bs : List Nat) (more : Heap) : Heap := [.rows 6 [mcells m], .rows 4 (fltr F), .rows 1 (ints (bInts bs))] ++ more
theorem refFaults_fun (m : Mv) (lim : Int) : FN 32 [m.v, .int .i64 lim] (fun v => v = .tup [.fz 4 (fltr (if errF m lim = 0 then (rRun m lim 0 m.rows ([], [])).1 else [])), .int .i64 (errF m lim)]) := by
  refine IFun.of_bodyZ false 18 [20, 22, 27, 38, 57, 75, 99, 111, 133, 149, 155, 165, 174, 191, 202] Try.func32 rfl Try.call32 rfl fun R hR => ?_
  simp [go_sem, Mv.v]
  refine (frame2_fun m).callF (by simp [go_sem, Mv.v]) ?_
  rintro _ rfl
  by_cases hf : frameP m
  case neg =>
    have he : errF m lim = 280 := by unfold errF; rw [if_pos hf]
    simp [go_sem, hf]
    exact hR _ _ _ rfl (by simp [go_sem, he])
  by_cases hlm : lim < 1
  · have he : errF m lim = 2 := by unfold errF; rw [if_neg (by simp [hf]), if_pos hlm]
    simp [go_sem, hf, hlm]
    exact hR _ _ _ rfl (by simp [go_sem, he])
  have he : errF m lim = 0 := by unfold errF; rw [if_neg (by simp [hf]), if_neg hlm]
  have hrl : m.rows.length ≤ 24 * 47 := by
    have h5 : m.tables * m.rounds ≤ 24 * 47 := Int.mul_le_mul hf.2.1 hf.2.2.2.1 (by have := hf.2.2.1; omega) (by omega)
    have := hf.2.2.2.2.2.2.2.2
    omega
  simp [go_sem, hf, hlm]
  refine IWp.ownNilS 4 6 (by decide) rfl ?_
  refine IWp.ownNilS 1 7 (by decide) rfl ?_
  refine IWp.loopI (α := Nat × List Flt × List Nat) (fun x => (refE lim x.1 x.2.1 x.2.2 [], refH m x.2.1 x.2.2 []))
    (fun x => x.1 ≤ m.rows.length ∧ rRun m lim x.1 (m.rows.drop x.1) x.2 = rRun m lim 0 m.rows ([], []) ∧ BsOK m.rows x.2.2 ∧ x.2.2.length ≤ x.1 ∧ x.2.1.length ≤ 10 * x.1) (fun x => m.rows.length - x.1) (0, [], []) ⟨by simp, by simp, by simp [BsOK], by simp, by simp⟩ ?_ ?_
  · simp [go_sem, refE, refH, mcells, bInts]
  rintro ⟨i, F, bs⟩ ⟨hi, hrun, hbs, hbl, hFl⟩
  simp only at hi hrun hbs hbl hFl
  refine IWp.seqI ?_
  by_cases h : i < m.rows.length
  · rw [List.drop_eq_getElem_cons h, rRun] at hrun
    generalize hx : m.rows[i] = x at hrun
    simp [go_sem, refE, refH, mcells, h]
    refine IWp.seq ?_
    refine IWp.block ?_
    refine IWp.seqI ?_
    simp [go_sem, h, hx]
    have w1 : IntKind.i64.wrap ((i : Int) + 1) = i + 1 := wrap64 (by omega) (by omega)
    -- a row of a wrong place
    refine IWp.seqT (α := Unit) (fun _ => (refE lim i F bs [(9, .ptr 3 1 0 0)], refH m F bs [.rows 5 [x.c]])) (fun _ => wrongR m bs x = false) ?_ ?_
    · simp [go_sem]
      refine (wrong_fun m bs i hbs h (by omega)).callF (by simp [go_sem, Mv.v]) ?_
      rintro _ rfl
      rw [hx]
      cases hw : wrongR m bs x with
      | true =>
        have hst : rStep m lim i x (F, bs) = (F ++ [⟨1, i, x.ns, x.ew⟩], bs) := by unfold rStep; rw [if_pos hw]
        rw [hst] at hrun
        simp [go_sem]
        refine ⟨by omega, IWp.now ?_⟩
        simp [go_sem, w1]
        exact ⟨i + 1, _, bs, ⟨⟨by simp, rfl, rfl⟩, fltr_snoc, rfl⟩, ⟨by omega, hrun, hbs, by omega, by simp; omega⟩, by omega⟩
      | false =>
        simp [go_sem, refE, refH, mcells, Rw.c]
    rintro _ hw
    have hst : rStep m lim i x (F, bs) = (F ++ part2 i x ++ part3 m.rows bs i x ++ part3b m.rows bs i x ++ part4 m bs i x ++ part5 m.rows bs i x ++ part6 m.rows lim bs i x, bs ++ [i]) := by unfold rStep; rw [if_neg (by rw [hw]; decide)]
    rw [hst] at hrun
    -- the same pair twice
    refine IWp.seqT (α := List Flt) (fun F => (refE lim i F bs [(9, .ptr 3 1 0 0)], refH m F bs [.rows 5 [x.c]])) (fun F' => F' = F ++ part2 i x) ?_ ?_
    · simp [go_sem, refE, refH, mcells, Rw.c]
      split
      · rename_i hc
        rw [show part2 i x = [⟨2, i, x.ns, x.ew⟩] from if_pos hc]
        exact ⟨by omega, rfl, fltr_snoc⟩
      · rename_i hc
        rw [show part2 i x = [] from if_neg hc]
        simp
    rintro F2 rfl
    have hl2 : (F ++ part2 i x).length ≤ F.length + 1 := by simp [part2]; split <;> simp
    generalize hF2 : F ++ part2 i x = F2 at hrun hl2 ⊢
    -- pairs that sit already
    have hh : ∀ k p a, (hitF k i p a).length ≤ 1 := fun k p a => by unfold hitF; split <;> simp
    refine IWp.seqT (α := List Flt) (fun F => (refE lim i F bs [(9, .ptr 3 1 0 0)], refH m F bs [.rows 5 [x.c]])) (fun F' => F' = F2 ++ part3 m.rows bs i x) ?_ ?_
    · simp [go_sem, refE, refH, mcells, Rw.c]
      refine (sits_fun m bs x.r x.ns hbs (by omega)).callF (by simp [go_sem, Mv.v]) ?_
      rintro _ rfl
      unfold part3 hitF
      generalize firstR (sitP m.rows x.r x.ns) bs = a
      simp [go_sem]
      split
      · exact ⟨by omega, rfl, fltr_snoc⟩
      · exact ⟨by omega, by simp⟩
    rintro F3 rfl
    have hl3 : (F2 ++ part3 m.rows bs i x).length ≤ F2.length + 1 := by rw [List.length_append]; have := hh 3 x.ns (firstR (sitP m.rows x.r x.ns) bs); unfold part3; omega
    generalize hF3 : F2 ++ part3 m.rows bs i x = F3 at hrun hl3 ⊢
    refine IWp.seqT (α := List Flt) (fun F => (refE lim i F bs [(9, .ptr 3 1 0 0)], refH m F bs [.rows 5 [x.c]])) (fun F' => F' = F3 ++ part3b m.rows bs i x) ?_ ?_
    · simp [go_sem, refE, refH, mcells, Rw.c]
      refine (sits_fun m bs x.r x.ew hbs (by omega)).callF (by simp [go_sem, Mv.v]) ?_
      rintro _ rfl
      unfold part3b hitF
      generalize firstR (sitP m.rows x.r x.ew) bs = a
      by_cases ha : 0 ≤ a <;> by_cases hne : x.ns = x.ew
      all_goals simp [go_sem, ha, hne]
      exact ⟨by omega, fltr_snoc⟩
    rintro F4 rfl
    have hl4 : (F3 ++ part3b m.rows bs i x).length ≤ F3.length + 1 := by
      rw [List.length_append]; have := hh 3 x.ew (firstR (sitP m.rows x.r x.ew) bs); unfold part3b; split <;> simp <;> omega
    generalize hF4 : F3 ++ part3b m.rows bs i x = F4 at hrun hl4 ⊢
    refine IWp.seqI ?_
    simp [go_sem, refE, refH, mcells, Rw.c]
    -- loads and meetings
    refine IWp.seqT (α := Unit) (fun _ => (refE lim i F4 bs [(9, .ptr 3 1 0 0), (12, .int .i64 (bs.countP (loadP m.rows x) : Nat)), (13, .int .i64 (bs.countP (metP m.rows x) : Nat))], refH m F4 bs [.rows 5 [x.c]])) (fun _ => True) ?_ ?_
    · simp [go_sem]
      refine IWp.loopT (α := Nat) (fun k => (refE lim i F4 bs [(9, .ptr 3 1 0 0), (12, .int .i64 ((bs.take k).countP (loadP m.rows x) : Nat)), (13, .int .i64 ((bs.take k).countP (metP m.rows x) : Nat)), (14, .int .i64 (k : Int))], refH m F4 bs [.rows 5 [x.c]]))
        (fun k => k ≤ bs.length) (fun k => bs.length - k) 0 (by simp) (by simp [go_sem, refE, refH, mcells, Rw.c]) ?_
      intro k hk
      by_cases hkl : k < bs.length
      · have wk : IntKind.i64.wrap ((k : Int) + 1) = k + 1 := wrap64 (by omega) (by omega)
        have hkb := hbs bs[k] (List.getElem_mem hkl)
        have hy : rAtR m.rows bs[k] = m.rows[bs[k]] := by simp [rAtR, hkb]
        have n1 := countP_succ (p := loadP m.rows x) hkl
        have n2 := countP_succ (p := metP m.rows x) hkl
        have l1 : (bs.take k).countP (loadP m.rows x) ≤ (bs.take k).length := List.countP_le_length
        have l2 : (bs.take k).countP (metP m.rows x) ≤ (bs.take k).length := List.countP_le_length
        have l3 : (bs.take k).length ≤ bs.length := by simp; omega
        simp only [loadP, metP, hy] at n1 n2
        change (bs.take (k + 1)).countP (loadP m.rows x) = (bs.take k).countP (loadP m.rows x) + _ at n1
        change (bs.take (k + 1)).countP (metP m.rows x) = (bs.take k).countP (metP m.rows x) + _ at n2
        generalize hbk : bs[k] = b at *
        generalize hyy : m.rows[b] = y at *
        simp [go_sem, refE, refH, mcells, Rw.c, hkl, hbk, hkb, hyy]
        generalize (bs.take k).countP (loadP m.rows x) = c1 at *
        generalize (bs.take k).countP (metP m.rows x) = c2 at *
        have v1 : IntKind.i64.wrap ((c1 : Int) + 1) = c1 + 1 := wrap64 (by omega) (by omega)
        have v2 : IntKind.i64.wrap ((c2 : Int) + 1) = c2 + 1 := wrap64 (by omega) (by omega)
        refine ⟨by decide +kernel, ?_⟩
        by_cases hld : y.r = x.r ∧ y.s = x.s
        · rw [if_pos (by simpa using hld)] at n1
          simp [go_sem, hld.1, hld.2]
          refine (meet2_fun y).callF (by simp [go_sem, Rw.v, hld.1, hld.2]) ?_
          rintro _ rfl
          cases h2 : meetB y with
          | false =>
            rw [if_neg (by simp [h2])] at n2
            simp [go_sem, wk]
            exact ⟨k + 1, ⟨(by rw [n1, v1]; rfl), (by rw [n2]; rfl), rfl⟩, by omega, by omega⟩
          | true =>
            simp [go_sem]
            refine (in_fun y x.ns).callF (by simp [go_sem, Rw.v, hld.1, hld.2]) ?_
            rintro _ rfl
            cases h3 : inB y x.ns with
            | false =>
              rw [if_neg (by simp [h3])] at n2
              simp [go_sem, wk]
              exact ⟨k + 1, ⟨(by rw [n1, v1]; rfl), (by rw [n2]; rfl), rfl⟩, by omega, by omega⟩
            | true =>
              simp [go_sem]
              refine (in_fun y x.ew).callF (by simp [go_sem, Rw.v, hld.1, hld.2]) ?_
              rintro _ rfl
              cases h4 : inB y x.ew with
              | false =>
                rw [if_neg (by simp [h4])] at n2
                simp [go_sem, wk]
                exact ⟨k + 1, ⟨(by rw [n1, v1]; rfl), (by rw [n2]; rfl), rfl⟩, by omega, by omega⟩
              | true =>
                rw [if_pos (by simp [h2, h3, h4])] at n2
                simp [go_sem, wk]
                exact ⟨k + 1, ⟨(by rw [n1, v1]; rfl), (by rw [n2, v2]; rfl), rfl⟩, by omega, by omega⟩
        · rw [if_neg (by simpa using hld)] at n1
          rw [if_neg hld]
          refine (meet2_fun y).callF (by simp [go_sem, Rw.v]) ?_
          rintro _ rfl
          cases h2 : meetB y with
          | false =>
            rw [if_neg (by simp [h2])] at n2
            simp [go_sem, wk]
            exact ⟨k + 1, ⟨(by rw [n1]; rfl), (by rw [n2]; rfl), rfl⟩, by omega, by omega⟩
          | true =>
            simp [go_sem]
            refine (in_fun y x.ns).callF (by simp [go_sem, Rw.v]) ?_
            rintro _ rfl
            cases h3 : inB y x.ns with
            | false =>
              rw [if_neg (by simp [h3])] at n2
              simp [go_sem, wk]
              exact ⟨k + 1, ⟨(by rw [n1]; rfl), (by rw [n2]; rfl), rfl⟩, by omega, by omega⟩
            | true =>
              simp [go_sem]
              refine (in_fun y x.ew).callF (by simp [go_sem, Rw.v]) ?_
              rintro _ rfl
              cases h4 : inB y x.ew with
              | false =>
                rw [if_neg (by simp [h4])] at n2
                simp [go_sem, wk]
                exact ⟨k + 1, ⟨(by rw [n1]; rfl), (by rw [n2]; rfl), rfl⟩, by omega, by omega⟩
              | true =>
                rw [if_pos (by simp [h2, h3, h4])] at n2
                simp [go_sem, wk]
                exact ⟨k + 1, ⟨(by rw [n1]; rfl), (by rw [n2, v2]; rfl), rfl⟩, by omega, by omega⟩
      · have : k = bs.length := by omega
        subst this
        simp [go_sem, refE, refH, mcells, Rw.c]
    rintro _ _
    have hlc : bs.countP (loadP m.rows x) ≤ bs.length := List.countP_le_length
    have hmc : bs.countP (metP m.rows x) ≤ bs.length := List.countP_le_length
    refine IWp.seqT (α := List Flt) (fun F => (refE lim i F bs [(9, .ptr 3 1 0 0), (13, .int .i64 (bs.countP (metP m.rows x) : Nat))], refH m F bs [.rows 5 [x.c]])) (fun F' => F' = F4 ++ part4 m bs i x) ?_ ?_
    · simp [go_sem, refE, refH, mcells, Rw.c]
      unfold part4
      generalize bs.countP (loadP m.rows x) = ld at *
      split
      · exact ⟨by omega, rfl, fltr_snoc⟩
      · simp
    rintro F5 rfl
    have hl5 : (F4 ++ part4 m bs i x).length ≤ F4.length + 1 := by simp [part4]; split <;> simp
    generalize hF5 : F4 ++ part4 m bs i x = F5 at hrun hl5 ⊢
    obtain ⟨a, ha⟩ : ∃ a, firstR (playP m.rows x.s x.ns) bs = a := ⟨_, rfl⟩
    obtain ⟨b, hb⟩ : ∃ b, firstR (playP m.rows x.s x.ew) bs = b := ⟨_, rfl⟩
    obtain ⟨mt, hmt⟩ : ∃ mt, bs.countP (metP m.rows x) = mt := ⟨_, rfl⟩
    have e5 : part5 m.rows bs i x = if meetB x = true then hitF 5 i x.ns a ++ hitF 5 i x.ew b else [] := by unfold part5; rw [ha, hb]
    have e6 : part6 m.rows lim bs i x = if meetB x = true ∧ lim ≤ mt then [⟨6, i, x.ns, x.ew⟩] else [] := by unfold part6; rw [hmt]
    rw [hmt] at hmc ⊢
    refine IWp.seqT (α := List Flt) (fun F => (refE lim i F bs [], refH m F bs [.dead])) (fun F' => F' = F5 ++ (if meetB x = true then hitF 5 i x.ns a ++ hitF 5 i x.ew b else []) ++ (if meetB x = true ∧ lim ≤ mt then [⟨6, i, x.ns, x.ew⟩] else [])) ?_ ?_
    · simp [go_sem, refE, refH, mcells, Rw.c]
      refine (meet2_fun x).callF (by simp [go_sem, Rw.v]) ?_
      rintro _ rfl
      cases hm : meetB x with
      | false =>
        simp [go_sem]
      | true =>
        simp [go_sem]
        refine (played_fun m bs x.s x.ns hbs (by omega)).callF (by simp [go_sem, Mv.v]) ?_
        rintro _ rfl
        rw [ha]
        by_cases ha0 : 0 ≤ a <;> simp [go_sem, ha0]
        · refine ⟨by omega, ?_⟩
          refine (played_fun m bs x.s x.ew hbs (by omega)).callF (by simp [go_sem, Mv.v]) ?_
          rintro _ rfl
          rw [hb]
          by_cases hb0 : 0 ≤ b <;> by_cases hc : lim ≤ mt <;> simp [go_sem, hb0, hc, hitF, ha0, fltr_append, fltr_cons] <;> omega
        · refine (played_fun m bs x.s x.ew hbs (by omega)).callF (by simp [go_sem, Mv.v]) ?_
          rintro _ rfl
          rw [hb]
          by_cases hb0 : 0 ≤ b <;> by_cases hc : lim ≤ mt <;> simp [go_sem, hb0, hc, hitF, ha0, fltr_append, fltr_cons] <;> omega
    rintro F6 hF6
    rw [← e5, ← e6] at hF6
    subst hF6
    have hl6 : (F5 ++ part5 m.rows bs i x ++ part6 m.rows lim bs i x).length ≤ F5.length + 3 := by
      rw [e5, e6, List.length_append, List.length_append]
      have := hh 5 x.ns a
      have := hh 5 x.ew b
      split <;> split <;> simp <;> omega
    generalize hF6 : F5 ++ part5 m.rows bs i x ++ part6 m.rows lim bs i x = F6 at hrun hl6 ⊢
    refine IWp.now ?_
    simp [go_sem, refE, refH, mcells]
    refine ⟨by omega, IWp.now ?_⟩
    simp [go_sem, w1]
    exact ⟨i + 1, F6, bs ++ [i], ⟨⟨rfl, by simp, rfl⟩, rfl, bInts_snoc⟩, ⟨by omega, hrun, fun k hk => by
      rw [List.mem_append] at hk
      rcases hk with hk | hk
      · exact hbs k hk
      · simp at hk; omega, by simp; omega, by omega⟩, by omega⟩
  · have : i = m.rows.length := by omega
    subst this
    rw [List.drop_of_length_le (Nat.le_refl _), rRun] at hrun
    simp [go_sem, refE, refH, mcells]
    refine hR _ _ _ rfl ?_
    simp [go_sem, he, ← hrun]
end Go.Idl
namespace Go.Idl
set_option linter.all false
open Go.Proofs

def lookB (p : Nat → Bool) (bs : List Nat) : Option (Int × Int) := match bs.filter p with
  | [] => none
  | k :: l => some ((k : Int), (l.length : Int) + 1)
def bfOf (l : List Rw) (bs : List Nat) : Bef := bs.map fun k => (k, rAtR l k)
theorem lookM_map {t : Th} {l : List Rw} {p : Nat → Bool} {bs : List Nat} (h : ∀ k, (shL (rAtR l k)).contains t = p k) : lookM t (bfOf l bs) = lookB p bs := by
  unfold lookM lookB bfOf
  rw [List.filter_map]
  have : (fun y : Nat × Rw => (shL y.2).contains t) ∘ (fun k => (k, rAtR l k)) = p := by funext k; exact h k
  rw [this]
  cases bs.filter p <;> simp
theorem lookB_some {p : Nat → Bool} {bs : List Nat} {f c : Int} (h : lookB p bs = some (f, c)) : firstR p bs = f ∧ 0 ≤ f ∧ c = bs.countP p := by
  unfold lookB at h
  split at h
  · cases h
  · rename_i k l e
    simp at h
    obtain ⟨rfl, rfl⟩ := h
    refine ⟨?_, by omega, ?_⟩
    · unfold firstR
      have : bs.find? p = some k := by
        rw [← List.head?_filter, e]; rfl
      rw [this]
    · rw [List.countP_eq_length_filter, e]; simp
theorem lookB_none {p : Nat → Bool} {bs : List Nat} (h : lookB p bs = none) : firstR p bs = -1 ∧ bs.countP p = 0 ∧ bs.any p = false := by
  unfold lookB at h
  split at h
  · rename_i e
    refine ⟨?_, ?_, ?_⟩
    · unfold firstR
      have : bs.find? p = none := by rw [← List.head?_filter, e]; rfl
      rw [this]
    · rw [List.countP_eq_length_filter, e]; rfl
    · rw [List.any_eq_false]
      intro k hk
      have : k ∉ bs.filter p := by rw [e]; simp
      rw [List.mem_filter] at this
      intro hp; exact this ⟨hk, hp⟩
  · cases h
theorem lookB_isSome {p : Nat → Bool} {bs : List Nat} : (lookB p bs).isSome = bs.any p := by
  cases h : lookB p bs with
  | none => rw [(lookB_none h).2.2]; rfl
  | some q =>
    unfold lookB at h
    split at h
    · cases h
    · rename_i k l e
      have : k ∈ bs.filter p := by rw [e]; simp
      rw [List.mem_filter] at this
      exact (List.any_eq_true.2 ⟨k, this.1, this.2⟩).symm
theorem hit_look {k i p : Int} {P : Nat → Bool} {bs : List Nat} : hitF k i p (firstR P bs) = (match lookB P bs with | none => [] | some q => [⟨k, i, p, q.1⟩]) := by
  cases h : lookB P bs with
  | none => rw [(lookB_none h).1]; rfl
  | some q => obtain ⟨f, c⟩ := q; obtain ⟨h1, h2, _⟩ := lookB_some h; rw [h1]; simp [hitF, h2]

/-! ### what a row shows -/
theorem sh1 (y : Rw) (a b : Int) : (shL y).contains ⟨1, a, b⟩ = (y.r == a && y.t == b) := by
  rw [Bool.eq_iff_iff]
  simp [shL, encT]
  grind
theorem sh4 (y : Rw) (a b : Int) : (shL y).contains ⟨4, a, b⟩ = (y.r == a && y.s == b) := by
  rw [Bool.eq_iff_iff]
  simp [shL, encT]
  grind
theorem sh3 (y : Rw) (a p : Int) : (shL y).contains ⟨3, a, p⟩ = (y.r == a && inB y p) := by
  rw [Bool.eq_iff_iff]
  simp [shL, encT, seatsL, inB]
  grind
theorem sh5 (y : Rw) (p s : Int) : (shL y).contains ⟨5, p, s⟩ = (y.s == s && meetB y && inB y p) := by
  rw [Bool.eq_iff_iff]
  simp [shL, encT, seatsL, inB]
  grind
theorem sh6 (x y : Rw) (hx : meetB x = true) : (shL y).contains (encT x) = (meetB y && inB y x.ns && inB y x.ew) := by
  rw [Bool.eq_iff_iff]
  simp [meetB] at hx
  simp [shL, encT, seatsL, inB, meetB]
  grind

/-! ### a step -/
theorem look_get {S : Mem} {l : List Rw} {bs : List Nat} (hS : MemI S (bfOf l bs)) {t : Th} {p : Nat → Bool} (h : ∀ k, (shL (rAtR l k)).contains t = p k) : aget t S = lookB p bs := by rw [hS t, lookM_map h]
theorem cnt_look {S : Mem} {l : List Rw} {bs : List Nat} (hS : MemI S (bfOf l bs)) {t : Th} {p : Nat → Bool} (h : ∀ k, (shL (rAtR l k)).contains t = p k) : cntM2 t S = bs.countP p := by
  unfold cntM2
  rw [look_get hS h]
  cases h : lookB p bs with
  | none => rw [(lookB_none h).2.1]; rfl
  | some q => obtain ⟨f, c⟩ := q; rw [(lookB_some h).2.2]; rfl
theorem ag_hit {S : Mem} {l : List Rw} {bs : List Nat} (hS : MemI S (bfOf l bs)) {i k p : Int} {key : Int → Th} {P : Nat → Bool} (h : ∀ j, (shL (rAtR l j)).contains (key p) = P j) : ag1 i k S key p = hitF k i p (firstR P bs) := by
  rw [hit_look]; unfold ag1; rw [look_get hS h]; cases lookB P bs <;> rfl
theorem first_false {P : Nat → Bool} {bs : List Nat} (h : ∀ k, P k = false) : firstR P bs = -1 := firstR_none fun k _ => h k
theorem wrong_eq {m : Mv} {S : Mem} {bs : List Nat} (hS : MemI S (bfOf m.rows bs)) (x : Rw) : wrongF m (aget ⟨1, x.r, x.t⟩ S).isSome x = wrongR m bs x := by
  rw [look_get hS (p := sameRT m.rows x) fun k => sh1 _ _ _, lookB_isSome]
  unfold wrongF wrongR outB outR
  rw [Bool.eq_iff_iff]
  simp
  grind
theorem row_eq {m : Mv} {lim : Int} {S : Mem} {bs : List Nat} (hS : MemI S (bfOf m.rows bs)) (i : Int) (x : Rw) :
    rowF m lim S i x = part2 i x ++ part3 m.rows bs i x ++ part3b m.rows bs i x ++ part4 m bs i x ++ part5 m.rows bs i x ++ part6 m.rows lim bs i x := by
  have a3 : ∀ p, ag1 i 3 S (key3 x) p = hitF 3 i p (firstR (sitP m.rows x.r p) bs) := fun p => ag_hit hS fun j => sh3 _ _ _
  have a5 : ∀ p, ag1 i 5 S (key5 x) p = hitF 5 i p (firstR (playP m.rows x.s p) bs) := fun p => ag_hit hS fun j => sh5 _ _ _
  have a4 : cntM2 ⟨4, x.r, x.s⟩ S = bs.countP (loadP m.rows x) := cnt_look hS fun j => sh4 _ _ _
  have e3 : agL i 3 S (key3 x) (seatsL x) = part3 m.rows bs i x ++ part3b m.rows bs i x := by
    have no : ∀ p : Int, ¬ 0 < p → hitF 3 i p (firstR (sitP m.rows x.r p) bs) = [] := fun p hp => by
      rw [first_false (fun k => by unfold sitP inB; simp [hp])]; rfl
    unfold part3 part3b agL seatsL
    rw [List.flatMap_append]
    by_cases h1 : 0 < x.ns
    · by_cases h2 : 0 < x.ew
      · by_cases h3 : x.ew = x.ns
        · simp [h1, h2, h3, a3]
        · simp [h1, h2, h3, a3, Ne.symm h3]
      · have h3 : x.ns ≠ x.ew := by omega
        simp [h1, h2, h3, a3, no x.ew h2]
    · by_cases h2 : 0 < x.ew
      · have h3 : x.ew ≠ x.ns := by omega
        simp [h1, h2, h3, a3, no x.ns h1, Ne.symm h3]
      · simp [h1, h2, no x.ns h1, no x.ew h2]
  have e5 : (if meetB x = true then agL i 5 S (key5 x) (seatsL x) else []) = part5 m.rows bs i x := by
    unfold part5
    by_cases hm : meetB x = true
    · rw [if_pos hm, if_pos hm]
      simp [meetB] at hm
      unfold agL seatsL
      simp [hm, Ne.symm hm.2, a5]
    · rw [if_neg hm, if_neg hm]
  have e6 : (if meetB x = true ∧ lim ≤ cntM2 (encT x) S then [(⟨6, i, x.ns, x.ew⟩ : Flt)] else []) = part6 m.rows lim bs i x := by
    unfold part6
    by_cases hm : meetB x = true
    · rw [cnt_look hS (p := metP m.rows x) fun j => sh6 x _ hm]
    · rw [if_neg (fun h => hm h.1), if_neg (fun h => hm h.1)]
  unfold rowF
  rw [e3, e5, e6, a4]
  simp [part2, part4]
theorem runF_eq {m : Mv} {lim : Int} : ∀ (rest : List Rw) (i : Nat) (F : List Flt) (S : Mem) (bs : List Nat), m.rows.drop i = rest → MemI S (bfOf m.rows bs) → (fRun m lim i rest (F, S)).1 = (rRun m lim i rest (F, bs)).1
  | [], i, F, S, bs, _, _ => rfl
  | x :: rest, i, F, S, bs, hd, hS => by
    have hi : m.rows[i]? = some x := by
      have : (m.rows.drop i)[0]? = some x := by rw [hd]; rfl
      simpa using this
    have hdr : m.rows.drop (i + 1) = rest := by rw [← List.drop_drop, hd]; rfl
    have hx : rAtR m.rows i = x := by simp [rAtR, List.getD, hi]
    rw [fRun, rRun]
    unfold fStep rStep
    simp only [wrong_eq hS x]
    by_cases hw : wrongR m bs x = true
    · rw [if_pos hw, if_pos hw]
      exact runF_eq rest (i + 1) _ S bs hdr hS
    · rw [if_neg hw, if_neg hw, row_eq hS]
      simp only [List.append_assoc]
      refine runF_eq rest (i + 1) _ _ _ hdr ?_
      have := putL_mem hS i x
      rw [show bfOf m.rows (bs ++ [i]) = bfOf m.rows bs ++ [(i, x)] by simp [bfOf, hx]]
      exact this
/-- The faults of a movement. -/
def faultsOf (m : Mv) (lim : Int) : List Flt := if errF m lim = 0 then (fRun m lim 0 m.rows ([], [])).1 else []
theorem faultsOf_eq (m : Mv) (lim : Int) : (if errF m lim = 0 then (rRun m lim 0 m.rows ([], [])).1 else []) = faultsOf m lim := by
  unfold faultsOf
  rw [runF_eq m.rows 0 [] [] [] rfl (fun t => by simp [aget, lookM, bfOf])]
theorem faults_c (m : Mv) (lim : Int) : FN 21 [m.v, .int .i64 lim] (fun v => v = .tup [.fz 4 (flts (faultsOf m lim)), .int .i64 (errF m lim)]) := faults_fun m lim
theorem refFaults_c (m : Mv) (lim : Int) : FN 32 [m.v, .int .i64 lim] (fun v => v = .tup [.fz 4 (fltr (faultsOf m lim)), .int .i64 (errF m lim)]) :=
  (refFaults_fun m lim).mono fun v h => by rw [h, faultsOf_eq]
end Go.Idl
