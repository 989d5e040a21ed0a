/-
  Chapter 28: the reference's wrong, sits, played.
-/
import Derived.Test.YtdnkleclccjffaaC28PartR
import Derived.Test.YtdnkleclccjffaaC28PartD
namespace Go.Idl
set_option linter.all false
open Go.Proofs
set_option maxHeartbeats 8000000
set_option maxRecDepth 40000

def bInts (bs : List Nat) : List Int := bs.map fun k : Nat => (k : Int)
@[simp] theorem bInts_length (bs : List Nat) : (bInts bs).length = bs.length := by simp [bInts]
@[simp] theorem bInts_get (bs : List Nat) (i : Nat) (h : i < (bInts bs).length) : (bInts bs)[i] = ((bs[i]'(by simpa using h) : Nat) : Int) := by simp [bInts]
def rAtR (l : List Rw) (k : Nat) : Rw := l.getD k zR
def outR (m : Mv) (x : Rw) : Bool := decide (x.r < 0) || decide (m.rounds ≤ x.r) || decide (x.t < 0) || decide (m.tables ≤ x.t) || decide (x.s < 0) || decide (m.sets ≤ x.s) || decide (x.ns < 0) || decide (x.ew < 0)
def sameRT (l : List Rw) (x : Rw) (k : Nat) : Bool := (rAtR l k).r == x.r && (rAtR l k).t == x.t
def wrongR (m : Mv) (bs : List Nat) (x : Rw) : Bool := outR m x || bs.any (sameRT m.rows x)
def BsOK (l : List Rw) (bs : List Nat) : Prop := ∀ k ∈ bs, k < l.length
theorem wrong_fun (m : Mv) (bs : List Nat) (i : Nat) (hb : BsOK m.rows bs) (hi : i < m.rows.length) (hl : bs.length ≤ 2 ^ 32) : FN 58 [m.v, .fz 1 (ints (bInts bs)), .int .i64 i] (fun v => v = .bool (wrongR m bs m.rows[i])) := by
  refine IFun.of_bodyZ false 9 [57, 61, 89] Try.func58 rfl Try.call58 rfl fun R hR => ?_
  generalize hx : m.rows[i] = x at hR
  simp [go_sem, Mv.v, hi, hx]
  split
  · rename_i ho
    have : wrongR m bs x = true := by unfold wrongR; rw [show outR m x = true by unfold outR; simpa using ho]; rfl
    exact hR _ _ _ rfl (by simp [go_sem, this])
  rename_i ho
  have hno : outR m x = false := by unfold outR; simp at ho ⊢; omega
  refine IWp.loopT (α := Nat) (fun k => (⟨false, 90, 9, [57, 61, 89], [], [(1, .fz 1 (ints (bInts bs))), (3, .ptr 0 1 0 0), (7, .ptr 1 1 0 0), (8, .int .i64 (k : Int))], []⟩, [.rows 6 [mcells m], .rows 5 [x.c]]))
    (fun k => k ≤ bs.length ∧ ∀ y ∈ bs.take k, sameRT m.rows x y = false) (fun k => bs.length - k) 0 (by simp) (by simp [go_sem, mcells, Rw.c]) ?_
  rintro k ⟨hk, hno2⟩
  by_cases h : k < bs.length
  · have w1 : IntKind.i64.wrap ((k : Int) + 1) = k + 1 := wrap64 (by omega) (by omega)
    have hkb := hb bs[k] (List.getElem_mem h)
    have hany : ∀ y ∈ bs.take (k + 1), y ∈ bs.take k ∨ y = bs[k] := fun y hy => by
      rw [List.take_succ_eq_append_getElem h, List.mem_append] at hy
      simpa using hy
    have hy : rAtR m.rows bs[k] = m.rows[bs[k]] := by simp [rAtR, hkb]
    generalize hbk : bs[k] = b at *
    generalize hyy : m.rows[b] = y at *
    have done : (y.r == x.r && y.t == x.t) = true → wrongR m bs x = true := fun e => by
      unfold wrongR
      rw [Bool.or_eq_true, List.any_eq_true]
      exact .inr ⟨bs[k], List.getElem_mem h, by unfold sameRT; rw [hbk, hy]; exact e⟩
    by_cases h1 : y.r = x.r
    · by_cases h2 : y.t = x.t
      · simp [go_sem, mcells, Rw.c, h, hbk, hkb, hyy, h1, h2]
        exact ⟨by decide +kernel, hR _ _ _ rfl (by simp [go_sem, done (by simp [h1, h2])])⟩
      · simp [go_sem, mcells, Rw.c, h, hbk, hkb, hyy, h1, h2, w1]
        exact ⟨by decide +kernel, k + 1, rfl, ⟨by omega, fun z hz => (hany z hz).elim (hno2 z) fun e => by subst e; unfold sameRT; rw [hy]; simp [h2]⟩, by omega⟩
    · simp [go_sem, mcells, Rw.c, h, hbk, hkb, hyy, h1, w1]
      exact ⟨by decide +kernel, k + 1, rfl, ⟨by omega, fun z hz => (hany z hz).elim (hno2 z) fun e => by subst e; unfold sameRT; rw [hy]; simp [h1]⟩, by omega⟩
  · have : k = bs.length := by omega
    subst this
    rw [List.take_length] at hno2
    simp [go_sem, mcells, Rw.c]
    have : wrongR m bs x = false := by unfold wrongR; rw [hno, Bool.false_or, List.any_eq_false]; simpa using hno2
    exact hR _ _ _ rfl (by simp [go_sem, this])

/-! ### the first row that .. -/
def firstR (p : Nat → Bool) (bs : List Nat) : Int := match bs.find? p with
  | some k => (k : Int)
  | none => -1
theorem firstR_hit {p : Nat → Bool} {bs : List Nat} {k : Nat} (h : k < bs.length) (h1 : ∀ y ∈ bs.take k, p y = false) (h2 : p bs[k] = true) : firstR p bs = (bs[k] : Nat) := by
  unfold firstR
  have : bs.find? p = some bs[k] := by
    conv => lhs; rw [← List.take_append_drop k bs]
    rw [List.find?_append, List.find?_eq_none.2 (fun y hy => by rw [h1 y hy]; decide)]
    rw [Option.none_or, List.drop_eq_getElem_cons h, List.find?_cons, h2]
  rw [this]
theorem firstR_none {p : Nat → Bool} {bs : List Nat} (h1 : ∀ y ∈ bs, p y = false) : firstR p bs = -1 := by
  unfold firstR
  rw [List.find?_eq_none.2 (fun y hy => by rw [h1 y hy]; decide)]
theorem take_or {bs : List Nat} {k : Nat} (h : k < bs.length) {p : Nat → Bool} (h1 : ∀ y ∈ bs.take k, p y = false) (h2 : p bs[k] = false) : ∀ y ∈ bs.take (k + 1), p y = false := fun y hy => by
  rw [List.take_succ_eq_append_getElem h, List.mem_append] at hy
  rcases hy with hy | hy
  · exact h1 y hy
  · simp at hy; rw [hy]; exact h2
def sitP (l : List Rw) (r p : Int) (k : Nat) : Bool := (rAtR l k).r == r && inB (rAtR l k) p
def playP (l : List Rw) (s p : Int) (k : Nat) : Bool := (rAtR l k).s == s && meetB (rAtR l k) && inB (rAtR l k) p
theorem sits_fun (m : Mv) (bs : List Nat) (r p : Int) (hb : BsOK m.rows bs) (hl : bs.length ≤ 2 ^ 32) : FN 59 [m.v, .fz 1 (ints (bInts bs)), .int .i64 r, .int .i64 p] (fun v => v = .int .i64 (firstR (sitP m.rows r p) bs)) := by
  refine IFun.of_bodyZ false 10 [13, 38] Try.func59 rfl Try.call59 rfl fun R hR => ?_
  simp [go_sem, Mv.v]
  refine IWp.loopT (α := Nat) (fun k => (⟨false, 43, 10, [13, 38], [], [(1, .fz 1 (ints (bInts bs))), (2, .int .i64 r), (3, .int .i64 p), (4, .ptr 0 1 0 0), (9, .int .i64 (k : Int))], []⟩, [.rows 6 [mcells m]]))
    (fun k => k ≤ bs.length ∧ ∀ y ∈ bs.take k, sitP m.rows r p y = false) (fun k => bs.length - k) 0 (by simp) (by simp [go_sem, mcells]) ?_
  rintro k ⟨hk, hno⟩
  by_cases h : k < bs.length
  · have w1 : IntKind.i64.wrap ((k : Int) + 1) = k + 1 := wrap64 (by omega) (by omega)
    have hkb := hb bs[k] (List.getElem_mem h)
    have hy : rAtR m.rows bs[k] = m.rows[bs[k]] := by simp [rAtR, hkb]
    have hit := firstR_hit (p := sitP m.rows r p) h hno
    have tk := take_or (p := sitP m.rows r p) h hno
    simp only [sitP, hy] at hit tk
    generalize hbk : bs[k] = b at *
    generalize hyy : m.rows[b] = y at *
    have c := in_fun y p
    simp only [Rw.v] at c
    by_cases h1 : y.r = r
    · cases h2 : inB y p with
      | true =>
        have hit' := hit (by simp [h1, h2])
        rw [h2] at c
        simp [go_sem, mcells, h]
        refine Drawn.intro (fun j => if j = 21 then .bool true else .tup []) ?_
        simp [go_sem, mcells, h, hbk, hkb, hyy, h1, c]
        exact ⟨.inl (by simpa [h1] using c), by decide +kernel, hR _ _ _ rfl (by simp [go_sem, hit'])⟩
      | false =>
        rw [h2] at c
        simp [go_sem, mcells, h]
        refine Drawn.intro (fun j => if j = 21 then .bool false else .tup []) ?_
        simp [go_sem, mcells, h, hbk, hkb, hyy, h1, c, w1]
        exact ⟨.inl (by simpa [h1] using c), by decide +kernel, k + 1, rfl, ⟨by omega, tk (by simp [h1, h2])⟩, by omega⟩
    · simp [go_sem, mcells, h]
      refine Drawn.intro (fun j => if j = 21 then .bool false else .tup []) ?_
      have h1' : (y.r == r) = false := by simpa using h1
      simp [go_sem, mcells, h, hbk, hkb, hyy, h1', w1]
      exact ⟨by decide +kernel, k + 1, rfl, ⟨by omega, tk (by simp [h1])⟩, by omega⟩
  · have : k = bs.length := by omega
    subst this
    rw [List.take_length] at hno
    simp [go_sem, mcells]
    exact hR _ _ _ rfl (by simp [go_sem, firstR_none hno])
theorem played_fun (m : Mv) (bs : List Nat) (st p : Int) (hb : BsOK m.rows bs) (hl : bs.length ≤ 2 ^ 32) : FN 62 [m.v, .fz 1 (ints (bInts bs)), .int .i64 st, .int .i64 p] (fun v => v = .int .i64 (firstR (playP m.rows st p) bs)) := by
  refine IFun.of_bodyZ false 11 [14, 37] Try.func62 rfl Try.call62 rfl fun R hR => ?_
  simp [go_sem, Mv.v]
  refine IWp.loopT (α := Nat) (fun k => (⟨false, 42, 11, [14, 37], [], [(1, .fz 1 (ints (bInts bs))), (2, .int .i64 st), (3, .int .i64 p), (4, .ptr 0 1 0 0), (9, .int .i64 (k : Int))], []⟩, [.rows 6 [mcells m]]))
    (fun k => k ≤ bs.length ∧ ∀ y ∈ bs.take k, playP m.rows st p y = false) (fun k => bs.length - k) 0 (by simp) (by simp [go_sem, mcells]) ?_
  rintro k ⟨hk, hno⟩
  by_cases h : k < bs.length
  · have w1 : IntKind.i64.wrap ((k : Int) + 1) = k + 1 := wrap64 (by omega) (by omega)
    have hkb := hb bs[k] (List.getElem_mem h)
    have hy : rAtR m.rows bs[k] = m.rows[bs[k]] := by simp [rAtR, hkb]
    have hit := firstR_hit (p := playP m.rows st p) h hno
    have tk := take_or (p := playP m.rows st p) h hno
    simp only [playP, hy] at hit tk
    generalize hbk : bs[k] = b at *
    generalize hyy : m.rows[b] = y at *
    simp [go_sem, mcells, h, hbk, hkb, hyy]
    refine ⟨by decide +kernel, ?_⟩
    by_cases h1 : y.s = st
    · simp [go_sem, h1]
      refine (meet2_fun y).callF (by simp [go_sem, Rw.v, h1]) ?_
      rintro _ rfl
      cases h2 : meetB y with
      | false =>
        simp [go_sem, w1]
        exact ⟨k + 1, rfl, ⟨by omega, tk (by simp [h1, h2])⟩, by omega⟩
      | true =>
        simp [go_sem]
        refine (in_fun y p).callF (by simp [go_sem, Rw.v, h1]) ?_
        rintro _ rfl
        cases h3 : inB y p with
        | false =>
          simp [go_sem, w1]
          exact ⟨k + 1, rfl, ⟨by omega, tk (by simp [h1, h2, h3])⟩, by omega⟩
        | true =>
          have hit' := hit (by simp [h1, h2, h3])
          simp [go_sem, h, hbk]
          exact hR _ _ _ rfl (by simp [go_sem, hit'])
    · have h1' : (y.s == st) = false := by simpa using h1
      simp [go_sem, h1, h1', w1]
      exact ⟨k + 1, rfl, ⟨by omega, tk (by simp [h1])⟩, by omega⟩
  · have : k = bs.length := by omega
    subst this
    rw [List.take_length] at hno
    simp [go_sem, mcells]
    exact hR _ _ _ rfl (by simp [go_sem, firstR_none hno])
end Go.Idl
