/-
  Chapter 38: Made, Check; closures that look for results.
  Chapter 38: results looked for; results of the first rounds.
-/
import Derived.Test.YtnnpdhccblelgaaDoorC38PartZF
import Derived.Test.YtnnpdhccblelgaaDoorC38PartT
import Derived.Test.YtnnpdhccblelgaaDoorIdlPartL
namespace Go.Idl
set_option linter.all false
open Go.Proofs
set_option maxHeartbeats 16000000
set_option maxRecDepth 40000

def sms (l : List Sm) : List (List IV) := mp Sm.cells l
@[simp] theorem sms_length (l : List Sm) : (sms l).length = l.length := mp_length
@[simp] theorem sms_getElem (l : List Sm) (i : Nat) (h : i < (sms l).length) : (sms l)[i] = [.int .u8 (l[i]'(by simpa using h)).w, .int .u8 (l[i]'(by simpa using h)).a, .int .u8 (l[i]'(by simpa using h)).b, .int .i8 (l[i]'(by simpa using h)).c] := by simp [sms, mp, Sm.cells]
@[go_sem] theorem sms_nil : sms [] = [] := rfl
@[go_sem] theorem ScR_sms {l : List Sm} : ScR (sms l) = True := eq_true (mp_sc (by simp [scal, Sm.cells]))
@[go_sem] theorem ClR_sms {l : List Sm} : ClR (sms l) = True := eq_true (ScR.cl (mp_sc (by simp [scal, Sm.cells])))
@[go_sem] theorem BlR_sms {n : Nat} {l : List Sm} : BlR n (sms l) = True := eq_true (ScR.bl (mp_sc (by simp [scal, Sm.cells])))
def mtZ : Mt := ⟨0, 0, 0, 0⟩
/-- Which match a number picks. -/
def pick (n : Nat) (out : List Rs) (x : Sm) : Mt := (opens n out).getD (x.w.toNat % (opens n out).length) mtZ
/-- The results of an event, made of numbers. -/
def madeL (n : Nat) : List Sm → List Rs → List Rs
  | [], out => out
  | x :: t, out => if opens n out = [] then out else madeL n t (out ++ [mkX (pick n out x) x])
theorem pick_mem {n : Nat} {out : List Rs} {x : Sm} (h : opens n out ≠ []) : pick n out x ∈ opens n out := by
  have hl : 0 < (opens n out).length := List.length_pos_iff.2 h
  have := Nat.mod_lt x.w.toNat hl
  unfold pick
  rw [show (opens n out).getD (x.w.toNat % (opens n out).length) mtZ = (opens n out)[x.w.toNat % (opens n out).length] by simp [this]]
  exact List.getElem_mem _
theorem opens_len {n : Nat} (h1 : 2 ≤ n) (out : List Rs) : (opens n out).length ≤ 192 := by
  have := opL_len (rnd_bd h1).2 (seedsL n) (stW n out) (rnd n)
  have := (rnd_bd h1).2
  unfold opens
  omega
/-- What Made makes. -/
structure MadeI (n : Nat) (xs : List Sm) (i : Nat) (out : List Rs) : Prop where
  bd : i ≤ xs.length
  len : out.length = i
  good : Good n out
  fit : ∀ x ∈ out, FitR x
  same : madeL n (xs.drop i) out = madeL n xs []
theorem fit_snoc {l : List Rs} {x : Rs} (h : ∀ y ∈ l, FitR y) (hx : FitR x) : ∀ y ∈ l ++ [x], FitR y := fun y hy => by
  rcases List.mem_append.1 hy with hy | hy
  · exact h y hy
  · rw [List.mem_singleton.1 hy]; exact hx
theorem MadeI.step {n : Nat} (h1 : 2 ≤ n) (h2 : n ≤ 64) {xs : List Sm} (hx : ∀ x ∈ xs, FitS x) {i : Nat} {out : List Rs} (h : MadeI n xs i out) (hi : i < xs.length) (ho : opens n out ≠ []) : MadeI n xs (i + 1) (out ++ [mkX (pick n out xs[i]) xs[i]]) := by
  have hm := pick_mem (x := xs[i]) ho
  have hf := hx xs[i] (List.getElem_mem hi)
  refine ⟨by omega, by simp [h.len], next_good h1 h2 h.good hm hf, fit_snoc h.fit (mkX_fit ⟨(opens_bd h1 h2 h.good hm).2.2.1, (opens_bd h1 h2 h.good hm).2.2.2⟩ hf), ?_⟩
  rw [← h.same, List.drop_eq_getElem_cons hi]
  conv => rhs; unfold madeL
  rw [if_neg ho]
theorem MadeI.over {n : Nat} {xs : List Sm} {i : Nat} {out : List Rs} (h : MadeI n xs i out) (ho : opens n out = []) : madeL n xs [] = out := by
  rw [← h.same]
  cases xs.drop i with
  | nil => rfl
  | cons x t => unfold madeL; rw [if_pos ho]
theorem MadeI.all {n : Nat} {xs : List Sm} {out : List Rs} (h : MadeI n xs xs.length out) : madeL n xs [] = out := by
  rw [← h.same, List.drop_of_length_le (Nat.le_refl _)]; rfl
/-- Made, in plain words: a state with fit results, at most as many as numbers. -/
theorem madeL_ok {n : Nat} (h1 : 2 ≤ n) (h2 : n ≤ 64) {xs : List Sm} (hx : ∀ x ∈ xs, FitS x) : Good n (madeL n xs []) ∧ (∀ x ∈ madeL n xs [], FitR x) ∧ (madeL n xs []).length ≤ xs.length := by
  have key : ∀ k i out, xs.length - i ≤ k → MadeI n xs i out → Good n (madeL n xs []) ∧ (∀ x ∈ madeL n xs [], FitR x) ∧ (madeL n xs []).length ≤ xs.length := by
    intro k
    induction k with
    | zero =>
      intro i out hk h
      have := h.bd
      obtain rfl : i = xs.length := by omega
      rw [h.all]
      exact ⟨h.good, h.fit, by have := h.len; omega⟩
    | succ k ih =>
      intro i out hk h
      by_cases hi : i < xs.length
      · by_cases ho : opens n out = []
        · rw [h.over ho]
          exact ⟨h.good, h.fit, by have := h.len; omega⟩
        · exact ih (i + 1) _ (by omega) (h.step h1 h2 hx hi ho)
      · have := h.bd
        obtain rfl : i = xs.length := by omega
        rw [h.all]
        exact ⟨h.good, h.fit, by have := h.len; omega⟩
  exact key xs.length 0 [] (by omega) ⟨by omega, rfl, .nil, fun x hx => (by cases hx), rfl⟩
theorem madeF_fun (t : Int) (ht : 0 ≤ t ∧ t < 256) (xs : List Sm) (hx : ∀ x ∈ xs, FitS x) (hl : xs.length ≤ 100) (n : Nat) (hn : 2 + t % 63 = n) :
    FN 25 [.int .u8 t, .fz 4 (sms xs)] (fun v => v = .tup [.int .i64 (n : Int), .fz 6 (rss (madeL n xs []))]) := by
  refine IFun.of_bodyW false 12 [16, 17, 18, 19, 34] Tryd.func25 rfl Tryd.call25 rfl fun R hR => ?_
  have h1 : 2 ≤ n := by omega
  have h2 : n ≤ 64 := by omega
  have w1 : IntKind.i64.wrap t = t := wrap64 (by omega) (by omega)
  have hm : t.tmod 63 = t % 63 := Int.tmod_eq_emod_of_nonneg (by omega)
  have w3 : IntKind.i64.wrap (2 + t.tmod 63) = n := by rw [hm, hn]; exact wrap64 (by omega) (by omega)
  refine IWp.seqI ?_
  simp [go_sem]
  refine IWp.seqI ?_
  simp [go_sem, w1, w3]
  refine IWp.seqI ?_
  simp [go_sem]
  refine IWp.ownNilS 6 7 (by decide) rfl ?_
  refine IWp.now ?_
  simp [go_sem]
  refine IWp.loopT (α := Nat × List Rs) (fun p => (⟨false, 52, 12, [16, 17, 18, 19, 34], glT, [(6, .int .i64 (n : Int)), (7, .sl 0 p.2.length 0 p.2.length none), (16, .fz 4 (sms xs)), (17, .int .i64 (xs.length : Int)), (18, .int .i64 (p.1 : Int))], []⟩, [.rows 6 (rss p.2)]))
    (fun p => MadeI n xs p.1 p.2) (fun p => xs.length - p.1) (0, []) ⟨by omega, rfl, .nil, fun x hx => (by cases hx), rfl⟩ (by simp [go_sem]) ?_
  rintro ⟨i, out⟩ hI
  simp only at hI
  by_cases h : i < xs.length
  · have v1 : IntKind.i64.wrap ((i : Int) + 1) = ((i + 1 : Nat) : Int) := by rw [wrap64 (by omega) (by omega)]; omega
    have ol := hI.len
    have co := open_good h1 h2 hI.good (by omega) hI.fit
    have hst := hI.step h1 h2 hx h
    have hov := hI.over
    have hop := opens_len h1 out
    have hfx := hx xs[i] (List.getElem_mem h)
    have cmk := made38_fun (pick n out xs[i]) xs[i] hfx
    have hpk : opens n out ≠ [] → ∃ hh : xs[i].w.toNat % (opens n out).length < (opens n out).length, pick n out xs[i] = (opens n out)[xs[i].w.toNat % (opens n out).length]'hh := fun hne => by
      have hl0 : 0 < (opens n out).length := List.length_pos_iff.2 hne
      have hlt := Nat.mod_lt xs[i].w.toNat hl0
      exact ⟨hlt, by unfold pick; simp [hlt]⟩
    generalize hxi : xs[i] = x at *
    generalize pick n out x = M at *
    generalize opens n out = L at *
    obtain ⟨xw, xa, xb, xc⟩ := x
    obtain ⟨hw, _, _, _⟩ := hfx
    simp only at hw hpk
    simp [go_sem, h, hxi]
    refine co.callF (by simp [go_sem]) ?_
    rintro _ rfl
    by_cases he : L = []
    · simp [go_sem, he]
      rw [hov he] at hR
      exact hR _ _ _ rfl (by simp [go_sem])
    · have hst2 := hst he
      obtain ⟨hlt, hpk2⟩ := hpk he
      have hl0 : 0 < L.length := List.length_pos_iff.2 he
      have hl1 : ¬ (L.length : Int) = 0 := by omega
      have w4 : IntKind.i64.wrap xw = xw := wrap64 (by omega) (by omega)
      have w5 : xw.tmod L.length = ((xw.toNat % L.length : Nat) : Int) := by
        rw [Int.tmod_eq_emod_of_nonneg (by omega), Int.natCast_emod, show ((xw.toNat : Nat) : Int) = xw by omega]
      simp only [Mt.v, Sm.cells] at cmk
      generalize hmk : mkX M ⟨xw, xa, xb, xc⟩ = Y at *
      obtain ⟨yr, yi, ya, yb, ⟨yn, yd⟩⟩ := Y
      simp only [Rs.v] at cmk
      obtain ⟨J, hJ⟩ : ∃ J, xw.toNat % L.length = J := ⟨_, rfl⟩
      simp only [hJ] at hlt hpk2 w5
      simp [go_sem, he, hl1]
      have hs := rss_snoc (l := out) (x := ⟨yr, yi, ya, yb, ⟨yn, yd⟩⟩)
      have hsl : (out ++ [(⟨yr, yi, ya, yb, ⟨yn, yd⟩⟩ : Rs)]).length = out.length + 1 := by simp
      generalize out ++ [(⟨yr, yi, ya, yb, ⟨yn, yd⟩⟩ : Rs)] = out2 at *
      refine Drawn.intro (fun k => if k = 11 then .agg [.int .i64 yr, .int .i64 yi, .int .i64 ya, .int .i64 yb, .int .i64 yn, .int .i64 yd] else .tup []) ?_
      rw [hpk2] at cmk
      simp [go_sem, w4, w5, hl1, hlt, cmk]
      exact ⟨he, by omega, by decide +kernel, i + 1, out2, ⟨⟨hsl.symm, v1⟩, hs⟩, hst2, by omega⟩
  · have hb := hI.bd
    obtain rfl : i = xs.length := by omega
    rw [hI.all] at hR
    simp [go_sem]
    exact hR _ _ _ rfl (by simp [go_sem])
theorem plR_one {r : Nat} {S : List Int} {l : List Rs} : ∀ (A : List Nat) (W : Won), (plR r S l A W).2.1 = 0 → (plR r S l A W).1 = -1
  | [], W, h => rfl
  | i :: A, W, h => by
    unfold plR at h ⊢
    split
    · rfl
    · rename_i x e
      rw [e] at h
      simp only at h
      split
      · rename_i hx
        rw [if_pos hx] at h
        exact absurd h hx
      · rename_i hx
        rw [if_neg hx] at h
        exact plR_one A _ h
theorem check_fun (n : Nat) (h1 : 2 ≤ n) (h2 : n ≤ 64) (l : List Rs) (hl : l.length ≤ 1000) (hf : ∀ x ∈ l, FitR x) (A : List Nat) (hA : OrdOf l A) :
    FN 24 [.int .i64 (n : Int), .fz 6 (rss l)] (fun v => v = .tup [.int .i64 (plR (rnd n) (seedsL n) l A (beg n)).1, .int .i64 (plR (rnd n) (seedsL n) l A (beg n)).2.1]) := by
  refine IFun.of_bodyZ false 9 [] Tryd.func24 rfl Tryd.call24 rfl fun R hR => ?_
  have ct := play_calls n h1 h2 l hl hf A hA
  have h0 := plR_one (r := rnd n) (S := seedsL n) (l := l) A (beg n)
  generalize plR (rnd n) (seedsL n) l A (beg n) = Z at *
  obtain ⟨zi, ze, W⟩ := Z
  simp only at *
  unfold evP evRow at ct
  simp [go_sem]
  refine ct.at [] (by simp [go_sem]) ?_
  rintro _ _ (⟨he, rfl, rfl⟩ | ⟨he, rfl, rfl⟩)
  · rw [h0 he, he] at hR
    simp [go_sem]
    exact hR _ _ _ rfl (by simp [go_sem])
  · simp [go_sem]
    exact hR _ _ _ rfl (by simp [go_sem])
theorem check_none (n : Int) (h : ¬ (2 ≤ n ∧ n ≤ 64)) (l : List Rs) : FN 24 [.int .i64 n, .fz 6 (rss l)] (fun v => v = .tup [.int .i64 (-1), .int .i64 380]) := by
  refine IFun.of_bodyZ false 9 [] Tryd.func24 rfl Tryd.call24 rfl fun R hR => ?_
  have ct := play_none n h l
  simp [go_sem]
  refine ct.at [] (by simp [go_sem]) ?_
  rintro _ _ ⟨rfl, rfl⟩
  simp [go_sem]
  exact hR _ _ _ rfl (by simp [go_sem])
theorem check_good {n : Nat} (h1 : 2 ≤ n) (h2 : n ≤ 64) {l : List Rs} (hG : Good n l) (hl : l.length ≤ 1000) (hf : ∀ x ∈ l, FitR x) : FN 24 [.int .i64 (n : Int), .fz 6 (rss l)] (fun v => v = .tup [.int .i64 (-1), .int .i64 0]) := by
  have := check_fun n h1 h2 l hl hf (ordN l) (ordN_ok l)
  rw [plR_one _ _ (good_state h1 h2 hG).1, (good_state h1 h2 hG).1] at this
  exact this
theorem places_good {n : Nat} (h1 : 2 ≤ n) (h2 : n ≤ 64) {l : List Rs} (hG : Good n l) (hl : l.length ≤ 1000) (hf : ∀ x ∈ l, FitR x) : FN 28 [.int .i64 (n : Int), .fz 6 (rss l)] (fun v => v = .tup [.fz 1 (ints (placesG n l)), .int .i64 0]) := by
  have := places_fun n h1 h2 l hl hf (ordN l) (ordN_ok l) (fun _ => ⟨lose_ok h1 h2 hG, champ_bd h1 h2 hG⟩)
  rw [if_pos (good_state h1 h2 hG).1] at this
  exact this
theorem winner_good {n : Nat} (h1 : 2 ≤ n) (h2 : n ≤ 64) {l : List Rs} (hG : Good n l) (hl : l.length ≤ 1000) (hf : ∀ x ∈ l, FitR x) (q i : Int) : FN 30 [.int .i64 (n : Int), .fz 6 (rss l), .int .i64 q, .int .i64 i] (fun v => v = .tup [.int .i64 (winV (stW n l) q i).1, .int .i64 (winV (stW n l) q i).2]) := by
  have := winner_fun n h1 h2 l hl hf (ordN l) (ordN_ok l) q i
  rw [if_pos (good_state h1 h2 hG).1] at this
  exact this
end Go.Idl
namespace Go.Idl
set_option linter.all false
open Go.Proofs
set_option maxHeartbeats 16000000
set_option maxRecDepth 40000

theorem goes1_fun (x : Rs) (m : Mt) : FN 32 [x.v, .fptr 4 [m.c] 0 0] (fun v => v = .bool (decide (x.r = m.r ∧ x.i = m.i))) := by
  refine IFun.of_bodyZ false 4 [] Tryd.func32 rfl Tryd.call32 rfl fun R hR => ?_
  obtain ⟨q, i, a, b, f⟩ := x
  obtain ⟨mr, mi, ma, mb⟩ := m
  simp only [Rs.v, Mt.c] at *
  by_cases h1 : q = mr
  · by_cases h2 : i = mi
    · simp [go_sem, h1, h2]
      exact hR _ _ _ rfl (by simp [go_sem, h1, h2])
    · simp [go_sem, h1, h2]
      exact hR _ _ _ rfl (by simp [go_sem, h1, h2])
  · simp [go_sem, h1]
    exact hR _ _ _ rfl (by simp [go_sem, h1])
theorem goes2_fun (x : Rs) (k : Int) : FN 34 [x.v, .fptr 1 [[.int .i64 k]] 0 0] (fun v => v = .bool (decide (k ≤ x.r))) := by
  refine IFun.of_bodyZ false 4 [] Tryd.func34 rfl Tryd.call34 rfl fun R hR => ?_
  obtain ⟨q, i, a, b, f⟩ := x
  simp only [Rs.v] at *
  simp [go_sem]
  exact hR _ _ _ rfl (by simp [go_sem])
/-- No result of a match. -/
theorem indexGoes1_fun (l : List Rs) (m : Mt) (hl : l.length ≤ 2 ^ 40) (hno : ∀ x ∈ l, ¬ (x.r = m.r ∧ x.i = m.i)) : FN 63 [.fz 6 (rss l), .func (.func 32) [] [.fptr 4 [m.c] 0 0]] (fun v => v = .int .i64 (-1)) := by
  refine IFun.of_bodyZ false 6 [7, 8, 9, 16] Tryd.func63 rfl Tryd.call63 rfl fun R hR => ?_
  have c1 := fun x => goes1_fun x m
  obtain ⟨mr, mi, ma, mb⟩ := m
  simp only [Mt.c] at *
  simp [go_sem]
  refine IWp.loopT (α := Nat) (fun i => (⟨false, 19, 6, [7, 8, 9, 16], glT, [(0, .fz 6 (rss l)), (1, .func (.func 32) [] [.fptr 4 [[.int .i64 mr, .int .i64 mi, .int .i64 ma, .int .i64 mb]] 0 0]), (7, .int .i64 l.length), (8, .int .i64 (i : Int))], []⟩, []))
    (fun i => i ≤ l.length) (fun i => l.length - i) 0 (by simp) (by simp [go_sem]) ?_
  intro i hi
  by_cases h : i < l.length
  · have w1 : IntKind.i64.wrap ((i : Int) + 1) = i + 1 := wrap64 (by omega) (by omega)
    have hn := hno l[i] (List.getElem_mem h)
    have cc := c1 l[i]
    obtain ⟨f, hf⟩ : ∃ f, l[i] = f := ⟨_, rfl⟩
    rw [hf] at hn cc
    obtain ⟨q, j, a, b, ⟨fu, fd⟩⟩ := f
    simp only [Rs.v] at cc hn
    simp [go_sem, h, hf]
    refine cc.callF (by simp [go_sem]) ?_
    rintro _ rfl
    simp [go_sem, hn, w1]
    exact ⟨i + 1, by omega, by omega, by omega⟩
  · obtain rfl : i = l.length := by omega
    simp [go_sem]
    exact hR _ _ _ rfl (by simp [go_sem])
theorem containsGoes1_fun (l : List Rs) (m : Mt) (hl : l.length ≤ 2 ^ 40) (hno : ∀ x ∈ l, ¬ (x.r = m.r ∧ x.i = m.i)) : FN 31 [.fz 6 (rss l), .func (.func 32) [] [.fptr 4 [m.c] 0 0]] (fun v => v = .bool false) := by
  refine IFun.of_bodyZ false 5 [] Tryd.func31 rfl Tryd.call31 rfl fun R hR => ?_
  have cc := indexGoes1_fun l m hl hno
  simp only [Mt.c] at *
  simp [go_sem]
  refine cc.callF (by simp [go_sem]) ?_
  rintro _ rfl
  simp [go_sem]
  exact hR _ _ _ rfl (by simp [go_sem])
/-- Where the first result of a late round is. -/
def idxR (l : List Rs) (k : Int) : Int := match l.findIdx? (fun x => decide (k ≤ x.r)) with | some i => i | none => -1
theorem idxR_neg {l : List Rs} {k : Int} (h : ∀ x ∈ l, ¬ k ≤ x.r) : idxR l k = -1 := by
  unfold idxR
  have : l.findIdx? (fun x => decide (k ≤ x.r)) = none := List.findIdx?_eq_none_iff.2 fun x hx => by simpa using h x hx
  rw [this]
theorem idxR_at {l : List Rs} {k : Int} {i : Nat} (h : i < l.length) (hi : k ≤ l[i].r) (hb : ∀ j (hj : j < l.length), j < i → ¬ k ≤ l[j].r) : idxR l k = i := by
  unfold idxR
  have : l.findIdx? (fun x => decide (k ≤ x.r)) = some i := List.findIdx?_eq_some_iff_getElem.2 ⟨h, by simpa using hi, fun j hj => by simpa using hb j (by omega) hj⟩
  rw [this]
theorem indexGoes2_fun (l : List Rs) (k : Int) (hl : l.length ≤ 2 ^ 40) : FN 63 [.fz 6 (rss l), .func (.func 34) [] [.fptr 1 [[.int .i64 k]] 0 0]] (fun v => v = .int .i64 (idxR l k)) := by
  refine IFun.of_bodyZ false 6 [7, 8, 9, 16] Tryd.func63 rfl Tryd.call63 rfl fun R hR => ?_
  simp [go_sem]
  refine IWp.loopT (α := Nat) (fun i => (⟨false, 19, 6, [7, 8, 9, 16], glT, [(0, .fz 6 (rss l)), (1, .func (.func 34) [] [.fptr 1 [[.int .i64 k]] 0 0]), (7, .int .i64 l.length), (8, .int .i64 (i : Int))], []⟩, []))
    (fun i => i ≤ l.length ∧ ∀ j (hj : j < l.length), j < i → ¬ k ≤ l[j].r) (fun i => l.length - i) 0 ⟨by simp, fun j hj h => by omega⟩ (by simp [go_sem]) ?_
  rintro i ⟨hi, hno⟩
  by_cases h : i < l.length
  · have w1 : IntKind.i64.wrap ((i : Int) + 1) = i + 1 := wrap64 (by omega) (by omega)
    have cc := goes2_fun l[i] k
    obtain ⟨f, hf⟩ : ∃ f, l[i] = f := ⟨_, rfl⟩
    rw [hf] at cc
    have hfr : l[i].r = f.r := by rw [hf]
    obtain ⟨q, j, a, b, ⟨fu, fd⟩⟩ := f
    simp only [Rs.v] at cc hfr
    simp [go_sem, h, hf]
    refine cc.callF (by simp [go_sem]) ?_
    rintro _ rfl
    by_cases hk : k ≤ q
    · simp [go_sem, hk]
      exact hR _ _ _ rfl (by simp [go_sem, idxR_at h (by rw [hfr]; exact hk) hno])
    · simp [go_sem, hk, w1]
      refine ⟨i + 1, by omega, ⟨by omega, fun j hj hji => ?_⟩, by omega⟩
      by_cases e : j = i
      · subst e; rw [hfr]; omega
      · have := hno j hj (by omega); omega
  · obtain rfl : i = l.length := by omega
    simp [go_sem]
    refine hR _ _ _ rfl ?_
    simp [go_sem, idxR_neg (k := k) fun f hf => by
      obtain ⟨j, hj, rfl⟩ := List.getElem_of_mem hf
      exact hno j hj hj]
theorem rss_rows {l : List Rs} : ∀ r ∈ rss l, r.length = 6 := mp_rows (by simp [Rs.c])
theorem rss_one {l : List Rs} : ∀ a ∈ rss l, a.length = 6 ∧ ∀ x ∈ a, IV.one x = true := rows_one (mp_sc (by simp [scal, Rs.c])) rss_rows
theorem cloneRes_fun (l : List Rs) (hl : l.length ≤ 2 ^ 32) : FN 27 [.fz 6 (rss l)] (fun v => v = .fz 6 (rss l)) := by
  refine IFun.of_bodyZ false 3 [4] Tryd.func27 rfl Tryd.call27 rfl fun R hR => ?_
  simp [go_sem]
  refine ⟨⟨⟨by omega, rss_one⟩, hR _ _ _ rfl (by simp [go_sem])⟩, fun e => hR _ _ _ rfl (by simp [go_sem, e])⟩
/-- The results of the rounds before k. -/
def earlyL (l : List Rs) (k : Int) : List Rs := l.filter fun x => decide (x.r < k)
structure DelI (l : List Rs) (k : Int) (i j : Nat) (M : List Rs) : Prop where
  len : M.length = l.length
  lt : i < j
  le : j ≤ l.length
  kept : M.take i = earlyL (l.take j) k
  rest : M.drop j = l.drop j
theorem earlyL_snoc (l : List Rs) (x : Rs) (k : Int) : earlyL (l ++ [x]) k = if k ≤ x.r then earlyL l k else earlyL l k ++ [x] := by
  unfold earlyL
  rw [List.filter_append]
  by_cases h : k ≤ x.r
  · rw [if_pos h]
    have : ¬ x.r < k := by omega
    simp [this]
  · rw [if_neg h]
    have : x.r < k := by omega
    simp [this]
theorem DelI.start {l : List Rs} {k : Int} {i : Nat} (h : i < l.length) (hi : k ≤ l[i].r) (hb : ∀ j (hj : j < l.length), j < i → ¬ k ≤ l[j].r) : DelI l k i (i + 1) l := by
  refine ⟨rfl, by omega, by omega, ?_, rfl⟩
  rw [List.take_succ_eq_append_getElem h, earlyL_snoc, if_pos hi]
  unfold earlyL
  refine (List.filter_eq_self.2 fun x hx => ?_).symm
  obtain ⟨j, hj, rfl⟩ := List.getElem_of_mem hx
  simp only [List.length_take] at hj
  have := hb j (by omega) (by omega)
  rw [List.getElem_take]
  simp only [decide_eq_true_eq]
  omega
theorem DelI.skip {l M : List Rs} {k : Int} {i j : Nat} (h : DelI l k i j M) (hj : j < l.length) (hk : k ≤ l[j].r) : DelI l k i (j + 1) M := by
  refine ⟨h.len, by have := h.lt; omega, by omega, ?_, ?_⟩
  · rw [List.take_succ_eq_append_getElem hj, earlyL_snoc, if_pos hk]; exact h.kept
  · rw [← List.drop_drop, h.rest, List.drop_drop]
theorem DelI.at {l M : List Rs} {k : Int} {i j : Nat} (h : DelI l k i j M) (hj : j < l.length) : M[j]'(by rw [h.len]; exact hj) = l[j] := by
  have h1 : (M.drop j)[0]? = (l.drop j)[0]? := by rw [h.rest]
  simpa [hj, h.len] using h1
theorem DelI.keep {l M : List Rs} {k : Int} {i j : Nat} (h : DelI l k i j M) (hj : j < l.length) (hk : ¬ k ≤ l[j].r) : DelI l k (i + 1) (j + 1) (M.set i l[j]) := by
  have hlt := h.lt
  have hl := h.len
  refine ⟨by simp [hl], by omega, by omega, ?_, ?_⟩
  · rw [List.take_succ_eq_append_getElem hj, earlyL_snoc, if_neg hk, ← h.kept]
    rw [List.take_succ_eq_append_getElem (by simp; omega), List.getElem_set_self, List.take_set_of_le (Nat.le_refl _)]
  · rw [List.drop_set_of_lt (by omega), ← List.drop_drop, h.rest, List.drop_drop]
theorem idxR_cases (l : List Rs) (k : Int) : (idxR l k = -1 ∧ earlyL l k = l) ∨ ∃ i : Nat, idxR l k = i ∧ i < l.length ∧ DelI l k i (i + 1) l := by
  unfold idxR
  split
  · rename_i i h
    obtain ⟨h1, h2, h3⟩ := List.findIdx?_eq_some_iff_getElem.1 h
    exact .inr ⟨i, rfl, h1, .start h1 (by simpa using h2) fun j hj hji => by simpa using h3 j hji⟩
  · rename_i h
    rw [List.findIdx?_eq_none_iff] at h
    refine .inl ⟨rfl, ?_⟩
    unfold earlyL
    refine List.filter_eq_self.2 fun x hx => ?_
    have := h x hx
    simp only [decide_eq_false_iff_not, decide_eq_true_eq] at *
    omega
/-- Cells that are cleared, and such that are not used. -/
def jz (d k : Nat) : List (List IV) := List.replicate d [.int .i64 0, .int .i64 0, .int .i64 0, .int .i64 0, .int .i64 0, .int .i64 0] ++ List.replicate k (List.replicate 6 .junk)
@[simp] theorem jz_length (d k : Nat) : (jz d k).length = d + k := by simp [jz]
theorem jz_zero (k : Nat) : jz 0 k = List.replicate k (List.replicate 6 .junk) := by simp [jz]
theorem jz_mem {d k : Nat} {r : List IV} {c : IV} (hr : r ∈ jz d k) (hc : c ∈ r) : c = .int .i64 0 ∨ c = .junk := by
  unfold jz at hr
  rcases List.mem_append.1 hr with h | h
  · rw [(List.mem_replicate.1 h).2] at hc
    simp at hc
    exact .inl hc
  · rw [(List.mem_replicate.1 h).2] at hc
    exact .inr (List.mem_replicate.1 hc).2
@[go_sem] theorem BlR_jz {n d k : Nat} : BlR n (jz d k) = True := eq_true fun r hr c hc => by
  rcases jz_mem hr hc with rfl | rfl <;> simp [go_sem]
@[go_sem] theorem renLL_jz {π : Nat → Nat} {d k : Nat} : renLL π (jz d k) = jz d k := by
  rw [renLL_map]
  refine (List.map_congr_left fun r hr => ?_).trans (List.map_id _)
  rw [renL_map]
  refine (List.map_congr_left fun c hc => ?_).trans (List.map_id _)
  rcases jz_mem hr hc with rfl | rfl <;> rfl
theorem delRes_some (l : List Rs) (r c : Nat) (k : Int) (hc : l.length + r = c) (hl : l.length ≤ 2 ^ 32) :
    ICalls Tryd.prog glT 33 [.sl 0 c 0 l.length (some c), .func (.func 34) [] [.ptr 1 1 0 0]] [.rows 6 (rss l ++ jz 0 r), .rows 1 [[.int .i64 k]]]
      (fun v σ => ∃ d, v = .sl 0 c 0 (earlyL l k).length (some c) ∧ σ = [.rows 6 (rss (earlyL l k) ++ jz d r), .rows 1 [[.int .i64 k]]] ∧ (earlyL l k).length + (d + r) = c) := by
  refine ICalls.forget (ICalls.of_bodyV false 8 [12, 19, 29] Tryd.func33 rfl Tryd.call33 rfl fun R hR => ?_)
  have ci := indexGoes2_fun l k (by omega)
  have htk : List.take l.length (rss l ++ jz 0 r) = rss l := by rw [List.take_append_of_le_length (by simp), List.take_of_length_le (by simp)]
  have hlc : l.length ≤ c := by omega
  refine IWp.seqI ?_
  simp [go_sem]
  refine IWp.seqI ?_
  simp [go_sem, hc]
  refine ci.callF (by simp [go_sem, htk, hc, hlc]) ?_
  rintro _ rfl
  rcases idxR_cases l k with ⟨e1, e2⟩ | ⟨i, e1, e2, hI⟩
  · rw [e1]
    rw [e2] at hR
    simp [go_sem]
    refine IWp.now ?_
    simp [go_sem]
    exact hR _ _ ⟨_, by simp [go_sem, hc], 0, rfl, rfl, by omega⟩
  · rw [e1]
    have g0 : ¬ (i : Int) = -1 := by omega
    have v1 : IntKind.i64.wrap ((i : Int) + 1) = ((i + 1 : Nat) : Int) := by rw [wrap64 (by omega) (by omega)]; omega
    simp [go_sem]
    refine IWp.seqI ?_
    simp [go_sem, g0]
    refine IWp.seqT (α := Nat × List Rs) (fun p => (⟨false, 42, 8, [12, 19, 29], glT, [(0, .sl 0 c 0 l.length (some c)), (5, .int .i64 (p.1 : Int))], []⟩, [.rows 6 (rss p.2 ++ jz 0 r), .rows 1 [[.int .i64 k]]]))
      (fun p => DelI l k p.1 l.length p.2) ?_ ?_
    · simp [go_sem, v1]
      refine IWp.loopT (α := Nat × Nat × List Rs) (fun p => (⟨false, 42, 8, [12, 19, 29], glT, [(0, .sl 0 c 0 l.length (some c)), (1, .func (.func 34) [] [.ptr 1 1 0 0]), (5, .int .i64 (p.1 : Int)), (6, .int .i64 (p.2.1 : Int))], []⟩, [.rows 6 (rss p.2.2 ++ jz 0 r), .rows 1 [[.int .i64 k]]]))
        (fun p => DelI l k p.1 p.2.1 p.2.2) (fun p => l.length - p.2.1) (i, i + 1, l) hI (by simp [go_sem, hc]) ?_
      clear hI e1 e2 v1 g0 i
      rintro ⟨i, j, M⟩ hI
      simp only at hI
      have hMl := hI.len
      have hij := hI.lt
      have hjl := hI.le
      by_cases h : j < l.length
      · have v1 : IntKind.i64.wrap ((j : Int) + 1) = ((j + 1 : Nat) : Int) := by rw [wrap64 (by omega) (by omega)]; omega
        have v2 : IntKind.i64.wrap ((i : Int) + 1) = ((i + 1 : Nat) : Int) := by rw [wrap64 (by omega) (by omega)]; omega
        have hat := hI.at h
        have hsk := hI.skip h
        have hkp := hI.keep h
        have cc := goes2_fun l[j] k
        have hAl : (rss M ++ jz 0 r).length = c := by simp; omega
        have e1 : (rss M ++ jz 0 r)[j]'(by omega) = l[j].c := by
          rw [List.getElem_append_left (by simp; omega), rss_getElem]
          simp only [hat]; rfl
        have e2 : (rss M ++ jz 0 r)[i]'(by omega) = (M[i]'(by omega)).c := by
          rw [List.getElem_append_left (by simp; omega), rss_getElem]; rfl
        have hset : rss (M.set i l[j]) ++ jz 0 r = (rss M ++ jz 0 r).set i l[j].c := by
          rw [List.set_append_left _ _ (by simp; omega)]
          unfold rss; rw [mp_set]
        have hl1 : j < c := by omega
        have hl2 : i < c := by omega
        have hl3 : i < l.length := by omega
        have hex : ∃ RM, rss M ++ jz 0 r = RM ∧ RM.length = c ∧ RM[j]? = some l[j].c ∧ RM[i]? = some (M[i]'(by omega)).c := ⟨_, rfl, hAl, List.getElem?_eq_some_iff.2 ⟨_, e1⟩, List.getElem?_eq_some_iff.2 ⟨_, e2⟩⟩
        clear e1 e2
        obtain ⟨RM, hRM, hAl2, e1, e2⟩ := hex
        obtain ⟨_, e1⟩ := List.getElem?_eq_some_iff.1 e1
        obtain ⟨_, e2⟩ := List.getElem?_eq_some_iff.1 e2
        rw [hRM] at hset
        simp only [hRM]
        obtain ⟨f, hf⟩ : ∃ f, l[j] = f := ⟨_, rfl⟩
        rw [hf] at cc hsk hkp e1 hset
        obtain ⟨q, ix, a, b, ⟨fu, fd⟩⟩ := f
        simp only [Rs.v, Rs.c] at cc hsk hkp e1 e2 hset
        simp [go_sem, h, hl1, hl2, hl3, e1, e2, hAl2]
        refine ⟨hlc, ?_⟩
        refine cc.callF (by simp [go_sem]) ?_
        rintro _ rfl
        by_cases hk : k ≤ q
        · have hk2 : ¬ q < k := by omega
          simp [go_sem, hk, hk2, v1]
          exact ⟨i, j + 1, M, ⟨⟨rfl, rfl⟩, hRM⟩, hsk hk, by omega⟩
        · have hk2 : q < k := by omega
          simp [go_sem, hk, hk2, v1, v2, hl1, hl2, hl3, e1, e2, hAl2]
          refine ⟨hlc, i + 1, j + 1, _, ⟨⟨rfl, rfl⟩, hset⟩, hkp hk, by omega⟩
      · obtain rfl : j = l.length := by omega
        simp [go_sem, hMl, hc]
        exact ⟨i, M, ⟨rfl, rfl⟩, hI⟩
    · clear hI e1 e2 v1 g0 i
      rintro ⟨i, M⟩ hI
      simp only at hI
      have hMl := hI.len
      have hij := hI.lt
      have hEl : earlyL l k = M.take i := by rw [hI.kept, List.take_length]
      have hil : i ≤ l.length := by omega
      have hic : i ≤ c := by omega
      have hElen : (earlyL l k).length = i := by rw [hEl]; simp; omega
      rw [hElen] at hR
      have hrow : ∀ d, d = l.length - i → rss (earlyL l k) ++ jz d r = List.take i (rss M ++ jz 0 r) ++ (List.replicate d [.int .i64 0, .int .i64 0, .int .i64 0, .int .i64 0, .int .i64 0, .int .i64 0] ++ jz 0 r) := fun d hd => by
        rw [hEl, List.take_append_of_le_length (by simp; omega)]
        have : rss (M.take i) = List.take i (rss M) := by simp [rss, mp]
        rw [this]
        simp [jz]
      refine IWp.seqI ?_
      simp [go_sem, hMl, hc, hil, hic]
      refine ⟨hlc, ?_⟩
      rw [← hrow _ rfl]
      have hEl2 : (earlyL l k).length + (l.length - i + r) = c := by omega
      generalize earlyL l k = E at *
      subst hElen
      refine IWp.now ?_
      simp [go_sem, hMl, hc, hil, hic]
      refine ⟨⟨hEl2.symm, by omega⟩, ?_⟩
      refine hR _ _ ⟨_, by simp [go_sem], l.length - E.length, rfl, rfl, hEl2⟩
theorem delRes_none (l : List Rs) (k : Int) (hl : l.length ≤ 2 ^ 32) :
    ICalls Tryd.prog glT 33 [.sl 0 l.length 0 l.length none, .func (.func 34) [] [.ptr 1 1 0 0]] [.rows 6 (rss l), .rows 1 [[.int .i64 k]]]
      (fun v σ => ∃ d r, v = .sl 0 ((earlyL l k).length + (d + r)) 0 (earlyL l k).length (some ((earlyL l k).length + (d + r))) ∧ σ = [.rows 6 (rss (earlyL l k) ++ jz d r), .rows 1 [[.int .i64 k]]]) := by
  refine ICalls.room (s := 6) (rs := rss l) rfl (by simp) fun cap hcap => ?_
  have := delRes_some l (cap - l.length) cap k (by omega) hl
  rw [jz_zero] at this
  refine this.mono ?_
  rintro _ _ ⟨d, rfl, rfl, hd⟩
  exact ⟨d, cap - l.length, by rw [hd], rfl⟩
end Go.Idl
