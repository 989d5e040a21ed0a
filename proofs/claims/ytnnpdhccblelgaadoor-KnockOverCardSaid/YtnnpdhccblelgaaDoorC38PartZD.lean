/-
  Chapter 38: made: a result made of small numbers.
  Chapter 38: what a state is (plain): the value of a match.
  Chapter 38: what a state is (plain): good results.
  Chapter 38: what a state is (plain): the law of play.
-/
import Derived.Test.YtnnpdhccblelgaaDoorC38PartS
namespace Go.Idl
set_option linter.all false
open Go.Proofs
set_option maxHeartbeats 16000000
set_option maxRecDepth 40000

/-- Small numbers. -/
structure Sm where
  w : Int
  a : Int
  b : Int
  c : Int
def Sm.cells (x : Sm) : List IV := [.int .u8 x.w, .int .u8 x.a, .int .u8 x.b, .int .i8 x.c]
def FitS (x : Sm) : Prop := (0 ≤ x.w ∧ x.w < 256) ∧ (0 ≤ x.a ∧ x.a < 256) ∧ (0 ≤ x.b ∧ x.b < 256) ∧ (-128 ≤ x.c ∧ x.c < 128)
/-- The result that is made for a match. -/
def mkX (m : Mt) (x : Sm) : Rs := ⟨m.r, m.i, x.a, x.b, (mkF x.c (1 + x.a % 3)).1⟩
theorem made38_fun (m : Mt) (x : Sm) (hx : FitS x) : FN 26 [m.v, .agg x.cells] (fun v => v = (mkX m x).v) := by
  refine IFun.of_bodyZ false 7 [] Tryd.func26 rfl Tryd.call26 rfl fun R hR => ?_
  obtain ⟨h1, h2, h3, h4⟩ := hx
  have hm : x.a.tmod 3 = x.a % 3 := Int.tmod_eq_emod_of_nonneg (by omega)
  have w1 : IntKind.i64.wrap x.a = x.a := wrap64 (by omega) (by omega)
  have w2 : IntKind.i64.wrap x.b = x.b := wrap64 (by omega) (by omega)
  have w3 : IntKind.i64.wrap x.c = x.c := wrap64 (by omega) (by omega)
  have w4 : IntKind.i64.wrap (1 + x.a.tmod 3) = 1 + x.a % 3 := by rw [hm]; exact wrap64 (by omega) (by omega)
  have cm := makeF_fun x.c (1 + x.a % 3) (by omega) (by omega)
  unfold mkX at hR
  generalize mkF x.c (1 + x.a % 3) = F at *
  obtain ⟨⟨u, w⟩, e⟩ := F
  obtain ⟨mr, mi, ma, mb⟩ := m
  simp only [Mt.v, Sm.cells, Rs.v, Frc.v] at *
  simp [go_sem, w1, w2, w3, w4]
  refine cm.callF (by simp [go_sem]) ?_
  rintro _ rfl
  simp [go_sem, w1, w2]
  exact hR _ _ _ rfl (by simp [go_sem])
end Go.Idl
namespace Go.Idl
set_option linter.all false
open Go.Proofs
set_option maxHeartbeats 8000000
set_option maxRecDepth 40000

/-- Who has won and who has lost, by a result and the two sides. -/
def resW (x : Rs) (a b : Int) : Int × Int := if cmpI x.f (whF (x.b - x.a)) < 0 ∨ (cmpI x.f (whF (x.b - x.a)) = 0 ∧ b < a) then (b, a) else (a, b)
/-- Who has won a match and who has lost it, by the results. -/
def val (S : List Int) (l : List Rs) : Nat → Nat → Option (Int × Int)
  | 0, i => if S.getD (2 * i + 1) 0 = 0 then some (S.getD (2 * i) 0, 0) else (l.find? (isM 0 i)).map fun x => resW x (S.getD (2 * i) 0) (S.getD (2 * i + 1) 0)
  | q + 1, i => match l.find? (isM (q + 1) i), val S l q (2 * i), val S l q (2 * i + 1) with
    | some x, some u, some v => some (resW x u.1 v.1)
    | _, _, _ => none
theorem begW_get (S : List Int) (q i : Int) : ∀ k, aget (q, i) (begW S k) = if q = 0 ∧ 0 ≤ i ∧ i < (k : Int) ∧ S.getD (2 * i.toNat + 1) 0 = 0 then some (S.getD (2 * i.toNat) 0, 0) else none
  | 0 => by rw [if_neg (by omega)]; rfl
  | k + 1 => by
    have ih := begW_get S q i k
    unfold begW
    by_cases hb : S.getD (2 * k + 1) 0 = 0
    · rw [if_pos hb, aget_aset]
      by_cases he : (q, i) = (0, (k : Int))
      · rw [if_pos he]
        obtain ⟨rfl, rfl⟩ := Prod.mk.inj he
        rw [if_pos ⟨rfl, by omega, by omega, by simpa using hb⟩]
        simp
      · rw [if_neg he, ih]
        by_cases hc : q = 0 ∧ 0 ≤ i ∧ i < (k : Int) ∧ S.getD (2 * i.toNat + 1) 0 = 0
        · rw [if_pos hc, if_pos ⟨hc.1, hc.2.1, by omega, hc.2.2.2⟩]
        · rw [if_neg hc, if_neg]
          rintro ⟨h1, h2, h3, h4⟩
          have : ¬ i = (k : Int) := fun e => he (by rw [h1, e])
          exact hc ⟨h1, h2, by omega, h4⟩
    · rw [if_neg hb, ih]
      by_cases hc : q = 0 ∧ 0 ≤ i ∧ i < (k : Int) ∧ S.getD (2 * i.toNat + 1) 0 = 0
      · rw [if_pos hc, if_pos ⟨hc.1, hc.2.1, by omega, hc.2.2.2⟩]
      · rw [if_neg hc, if_neg]
        rintro ⟨h1, h2, h3, h4⟩
        have : ¬ i = (k : Int) := fun e => by
          subst e
          exact hb (by simpa using h4)
        exact hc ⟨h1, h2, by omega, h4⟩
theorem tk_good {r : Nat} {S : List Int} {W : Won} {x : Rs} {a b : Int} (h1 : ¬ badX r x) (h2 : ((aget (x.r, x.i) W).getD (0, 0)).2 = 0) (h3 : sidW S W x.r.toNat x.i.toNat = (a, b, true)) (ha : a ≠ 0) (hb : b ≠ 0) :
    tkR r S W x = (0, aset (x.r, x.i) (resW x a b) W) := by
  unfold tkR resW
  rw [if_neg h1, if_neg (fun h => h h2), h3, if_neg (fun h => by
    rcases h with h | h | h
    · cases h
    · exact ha h
    · exact hb h)]
  show (if cmpI x.f (whF (x.b - x.a)) < 0 ∨ (cmpI x.f (whF (x.b - x.a)) = 0 ∧ b < a) then (0, aset (x.r, x.i) (b, a) W) else (0, aset (x.r, x.i) (a, b) W)) = _
  by_cases hc : cmpI x.f (whF (x.b - x.a)) < 0 ∨ (cmpI x.f (whF (x.b - x.a)) = 0 ∧ b < a)
  · rw [if_pos hc, if_pos hc]
  · rw [if_neg hc, if_neg hc]
end Go.Idl
namespace Go.Idl
set_option linter.all false
open Go.Proofs
set_option maxHeartbeats 8000000
set_option maxRecDepth 40000

/-- A match that is over: a bye, or one with a result. -/
def doneB (S : List Int) (l : List Rs) (q i : Nat) : Prop := (q = 0 ∧ S.getD (2 * i + 1) 0 = 0) ∨ ∃ x ∈ l, isM q i x = true
/-- Results that are a state. -/
structure GoodL (r : Nat) (S : List Int) (l : List Rs) : Prop where
  right : ∀ x ∈ l, ¬ badX r x
  dist : l.Pairwise fun x y => ¬ (x.r = y.r ∧ x.i = y.i)
  first : ∀ x ∈ l, x.r = 0 → S.getD (2 * x.i.toNat + 1) 0 ≠ 0
  later : ∀ x ∈ l, 0 < x.r → doneB S l (x.r.toNat - 1) (2 * x.i.toNat) ∧ doneB S l (x.r.toNat - 1) (2 * x.i.toNat + 1)
theorem badX_facts {r : Nat} {x : Rs} (h : ¬ badX r x) : 0 ≤ x.r ∧ x.r < r ∧ 0 ≤ x.i ∧ x.i < (matN r x.r : Int) := by
  unfold badX at h
  have h1 : ¬ x.i < 0 := fun e => h (.inl e)
  have h2 : ¬ (matN r x.r : Int) ≤ x.i := fun e => h (.inr (.inl e))
  have h3 : 0 < matN r x.r := by omega
  unfold matN at h3
  split at h3
  · rename_i hh; exact ⟨hh.1, hh.2, by omega, by omega⟩
  · omega
theorem isM_key {q i : Nat} {x : Rs} : isM q i x = true ↔ x.r = (q : Int) ∧ x.i = (i : Int) := by simp [isM]
/-- The result of a match is the one with its key. -/
theorem GoodL.find {r : Nat} {S : List Int} {l : List Rs} (h : GoodL r S l) {x : Rs} (hx : x ∈ l) {q i : Nat} (hk : isM q i x = true) : l.find? (isM q i) = some x := by
  have hd := h.dist
  clear h
  induction l with
  | nil => cases hx
  | cons y l ih =>
    rw [List.find?_cons]
    rcases List.mem_cons.1 hx with rfl | hx
    · rw [hk]
    · have hy : isM q i y = false := by
        cases e : isM q i y with
        | false => rfl
        | true =>
          obtain ⟨a1, a2⟩ := isM_key.1 e
          obtain ⟨b1, b2⟩ := isM_key.1 hk
          exact absurd ⟨a1.trans b1.symm, a2.trans b2.symm⟩ ((List.pairwise_cons.1 hd).1 x hx)
      rw [hy]
      exact ih hx (List.pairwise_cons.1 hd).2
theorem resW_ne {x : Rs} {a b : Int} (ha : a ≠ 0) (hb : b ≠ 0) : (resW x a b).1 ≠ 0 ∧ (resW x a b).2 ≠ 0 := by
  unfold resW
  split <;> exact ⟨by assumption, by assumption⟩
theorem GoodL.val_some {r : Nat} {S : List Int} {l : List Rs} (h : GoodL r S l) (hS : ∀ i, i < 2 ^ (r - 1) → S.getD (2 * i) 0 ≠ 0) : ∀ q i, (i + 1) * 2 ^ q ≤ 2 ^ (r - 1) → doneB S l q i → ∃ u, val S l q i = some u ∧ u.1 ≠ 0
  | 0, i, hi, hd => by
    have hi' : i < 2 ^ (r - 1) := by omega
    unfold val
    by_cases hb : S.getD (2 * i + 1) 0 = 0
    · rw [if_pos hb]; exact ⟨_, rfl, hS i hi'⟩
    · rw [if_neg hb]
      rcases hd with hd | ⟨x, hx, hk⟩
      · exact absurd hd.2 hb
      · rw [h.find hx hk]
        exact ⟨_, rfl, (resW_ne (hS i hi') hb).1⟩
  | q + 1, i, hi, hd => by
    rcases hd with hd | ⟨x, hx, hk⟩
    · exact absurd hd.1 (by omega)
    · obtain ⟨k1, k2⟩ := isM_key.1 hk
      obtain ⟨d1, d2⟩ := h.later x hx (by omega)
      rw [show x.r.toNat - 1 = q by omega, show x.i.toNat = i by omega] at d1 d2
      have hs2 : 2 ^ (q + 1) = 2 * 2 ^ q := Nat.pow_succ'
      have e : (i + 1) * 2 ^ (q + 1) = (2 * (i + 1)) * 2 ^ q := by rw [hs2, Nat.mul_comm 2 (i + 1), Nat.mul_assoc]
      rw [e] at hi
      obtain ⟨u, hu, hu0⟩ := h.val_some hS q (2 * i) (Nat.le_trans (Nat.mul_le_mul_right _ (by omega)) hi) d1
      obtain ⟨v, hv, hv0⟩ := h.val_some hS q (2 * i + 1) (Nat.le_trans (Nat.mul_le_mul_right _ (by omega)) hi) d2
      refine ⟨resW x u.1 v.1, ?_, (resW_ne hu0 hv0).1⟩
      unfold val
      rw [h.find hx hk, hu, hv]
end Go.Idl
namespace Go.Idl
set_option linter.all false
open Go.Proofs
set_option maxHeartbeats 8000000
set_option maxRecDepth 40000

/-- A match that is over by the results gone through. -/
def doneD (r : Nat) (S : List Int) (l : List Rs) (D : List Nat) (q i : Nat) : Prop := (q = 0 ∧ i < 2 ^ (r - 1) ∧ S.getD (2 * i + 1) 0 = 0) ∨ ∃ j ∈ D, ∃ x, l[j]? = some x ∧ isM q i x = true
structure InvD (r : Nat) (S : List Int) (l : List Rs) (D : List Nat) (W : Won) : Prop where
  yes : ∀ q i : Nat, doneD r S l D q i → aget ((q : Int), (i : Int)) W = val S l q i
  no : ∀ q i : Nat, ¬ doneD r S l D q i → aget ((q : Int), (i : Int)) W = none
theorem InvD.start {r : Nat} {S : List Int} {l : List Rs} : InvD r S l [] (begW S (2 ^ (r - 1))) := by
  refine ⟨fun q i h => ?_, fun q i h => ?_⟩
  · rcases h with ⟨rfl, h1, h2⟩ | ⟨j, hj, _⟩
    · rw [begW_get, if_pos ⟨rfl, by omega, by omega, by simpa using h2⟩]
      unfold val
      rw [if_pos h2]
      simp
    · cases hj
  · rw [begW_get, if_neg]
    rintro ⟨h1, h2, h3, h4⟩
    exact h (.inl ⟨by omega, by omega, by simpa using h4⟩)
/-- One result more is gone through. -/
theorem InvD.step {r : Nat} {S : List Int} {l : List Rs} {D A : List Nat} {j : Nat} {W : Won} (hr : 1 ≤ r ∧ r ≤ 6) (hG : GoodL r S l) (hS : ∀ i, i < 2 ^ (r - 1) → S.getD (2 * i) 0 ≠ 0)
    (hO : OrdOf l (D ++ j :: A)) (h : InvD r S l D W) : ∃ x, l[j]? = some x ∧ (tkR r S W x).1 = 0 ∧ InvD r S l (D ++ [j]) (tkR r S W x).2 := by
  have hj : j < l.length := by
    have := hO.1.mem_iff.1 (show j ∈ D ++ j :: A by simp)
    simpa [idL] using this
  obtain ⟨x, hx⟩ : ∃ x, l[j] = x := ⟨_, rfl⟩
  have hxl : x ∈ l := by rw [← hx]; exact List.getElem_mem hj
  have hx? : l[j]? = some x := by rw [List.getElem?_eq_getElem hj, hx]
  refine ⟨x, hx?, ?_⟩
  obtain ⟨f1, f2, f3, f4⟩ := badX_facts (hG.right x hxl)
  obtain ⟨q, hq⟩ : ∃ q : Nat, x.r = q := ⟨x.r.toNat, by omega⟩
  obtain ⟨i, hi⟩ : ∃ i : Nat, x.i = i := ⟨x.i.toNat, by omega⟩
  have hk : isM q i x = true := isM_key.2 ⟨hq, hi⟩
  have hmat : matN r q = 2 ^ (r - 1 - q) := by unfold matN; rw [if_pos (by omega)]; simp
  rw [hq, hi, hmat] at f4
  have hib : (i + 1) * 2 ^ q ≤ 2 ^ (r - 1) := by
    have e : 2 ^ (r - 1) = 2 ^ (r - 1 - q) * 2 ^ q := by rw [← Nat.pow_add]; congr 1; omega
    rw [e]
    exact Nat.mul_le_mul_right _ (by omega)
  have hnd : ¬ doneD r S l D q i := by
    rintro (⟨rfl, h1, h2⟩ | ⟨j', hj', y, hy, hky⟩)
    · exact hG.first x hxl (by omega) (by rw [show x.i.toNat = i by omega]; exact h2)
    · have hne : j' ≠ j := fun e => by
        subst e
        exact lx_irr ((List.pairwise_append.1 hO.2).2.2 j' hj' j' (by simp))
      obtain ⟨hj2, rfl⟩ := List.getElem?_eq_some_iff.1 hy
      obtain ⟨y1, y2⟩ := isM_key.1 hky
      have hp := List.pairwise_iff_getElem.1 hG.dist
      rcases Nat.lt_or_gt_of_ne hne with hlt | hlt
      · exact hp j' j hj2 hj hlt ⟨by rw [hx, y1, hq], by rw [hx, y2, hi]⟩
      · exact hp j j' hj hj2 hlt ⟨by rw [hx, y1, hq], by rw [hx, y2, hi]⟩
  have h2 : ((aget (x.r, x.i) W).getD (0, 0)).2 = 0 := by rw [hq, hi, h.no q i hnd]; rfl
  have hsd : ∃ a b, sidW S W q i = (a, b, true) ∧ a ≠ 0 ∧ b ≠ 0 ∧ val S l q i = some (resW x a b) := by
    cases q with
    | zero =>
      have hf := hG.first x hxl (by omega)
      rw [show x.i.toNat = i by omega] at hf
      refine ⟨S.getD (2 * i) 0, S.getD (2 * i + 1) 0, by unfold sidW; rw [if_pos rfl], hS i (by omega), hf, ?_⟩
      unfold val
      rw [if_neg hf, hG.find hxl hk]
      rfl
    | succ q =>
      obtain ⟨d1, d2⟩ := hG.later x hxl (by omega)
      rw [show x.r.toNat - 1 = q by omega, show x.i.toNat = i by omega] at d1 d2
      have hs2 : 2 ^ (q + 1) = 2 * 2 ^ q := Nat.pow_succ'
      have e : (i + 1) * 2 ^ (q + 1) = (2 * (i + 1)) * 2 ^ q := by rw [hs2, Nat.mul_comm 2 (i + 1), Nat.mul_assoc]
      rw [e] at hib
      have b1 : (2 * i + 1) * 2 ^ q ≤ 2 ^ (r - 1) := Nat.le_trans (Nat.mul_le_mul_right _ (by omega)) hib
      have b2 : (2 * i + 1 + 1) * 2 ^ q ≤ 2 ^ (r - 1) := Nat.le_trans (Nat.mul_le_mul_right _ (by omega)) hib
      obtain ⟨u, hu, hu0⟩ := hG.val_some hS q (2 * i) b1 d1
      obtain ⟨v, hv, hv0⟩ := hG.val_some hS q (2 * i + 1) b2 d2
      have hdd : ∀ c, (c + 1) * 2 ^ q ≤ 2 ^ (r - 1) → doneB S l q c → doneD r S l D q c := fun c hc hd => by
        rcases hd with ⟨rfl, hb⟩ | ⟨y, hy, hky⟩
        · exact .inl ⟨rfl, by omega, hb⟩
        · right
          obtain ⟨j', hj', rfl⟩ := List.getElem_of_mem hy
          obtain ⟨y1, y2⟩ := isM_key.1 hky
          have hmem : j' ∈ D ++ j :: A := hO.1.mem_iff.2 (by simp [idL, hj'])
          refine ⟨j', ?_, _, List.getElem?_eq_getElem hj', hky⟩
          rcases List.mem_append.1 hmem with hm | hm
          · exact hm
          · exfalso
            rcases List.mem_cons.1 hm with rfl | hm
            · rw [hx] at y1; omega
            · have := (List.pairwise_cons.1 (List.pairwise_append.1 hO.2).2.1).1 j' hm
              unfold lx at this
              rw [rK_get hj, rK_get hj', hx, hq, y1] at this
              omega
      refine ⟨u.1, v.1, ?_, hu0, hv0, ?_⟩
      · unfold sidW
        have e1 : (((q + 1 : Nat) : Int) - 1, 2 * (i : Int)) = ((q : Int), ((2 * i : Nat) : Int)) := by
          rw [show ((q + 1 : Nat) : Int) - 1 = q by omega, show 2 * (i : Int) = ((2 * i : Nat) : Int) by omega]
        have e2 : (((q + 1 : Nat) : Int) - 1, 2 * (i : Int) + 1) = ((q : Int), ((2 * i + 1 : Nat) : Int)) := by
          rw [show ((q + 1 : Nat) : Int) - 1 = q by omega, show 2 * (i : Int) + 1 = ((2 * i + 1 : Nat) : Int) by omega]
        rw [if_neg (by omega), e1, e2, h.yes q (2 * i) (hdd _ b1 d1), h.yes q (2 * i + 1) (hdd _ b2 d2), hu, hv]
        rfl
      · unfold val
        rw [hG.find hxl hk, hu, hv]
  obtain ⟨a, b, s1, s2, s3, s4⟩ := hsd
  have ht := tk_good (hG.right x hxl) h2 (a := a) (b := b) (by rw [show x.r.toNat = q by omega, show x.i.toNat = i by omega]; exact s1) s2 s3
  rw [ht]
  refine ⟨rfl, fun q' i' hd => ?_, fun q' i' hd => ?_⟩
  · show aget ((q' : Int), (i' : Int)) (aset (x.r, x.i) (resW x a b) W) = _
    rw [aget_aset]
    by_cases e : ((q' : Int), (i' : Int)) = (x.r, x.i)
    · rw [if_pos e]
      obtain ⟨e1, e2⟩ := Prod.mk.inj e
      obtain rfl : q' = q := by omega
      obtain rfl : i' = i := by omega
      exact s4.symm
    · rw [if_neg e]
      refine h.yes q' i' ?_
      rcases hd with hd | ⟨j', hj', y, hy, hky⟩
      · exact .inl hd
      · rcases List.mem_append.1 hj' with hm | hm
        · exact .inr ⟨j', hm, y, hy, hky⟩
        · exfalso
          rw [List.mem_singleton.1 hm, hx?] at hy
          obtain rfl := Option.some.inj hy
          obtain ⟨k1, k2⟩ := isM_key.1 hky
          exact e (by rw [k1, k2])
  · show aget ((q' : Int), (i' : Int)) (aset (x.r, x.i) (resW x a b) W) = _
    rw [aget_aset, if_neg]
    · refine h.no q' i' fun hd' => hd ?_
      rcases hd' with hd' | ⟨j', hj', y, hy, hky⟩
      · exact .inl hd'
      · exact .inr ⟨j', by simp [hj'], y, hy, hky⟩
    · intro e
      obtain ⟨e1, e2⟩ := Prod.mk.inj e
      exact hd (.inr ⟨j, by simp, x, hx?, isM_key.2 ⟨e1.symm, e2.symm⟩⟩)
/-- THE LAW OF PLAY: good results are a state, and what is known then is the value of each match. -/
theorem plR_good {r : Nat} {S : List Int} {l : List Rs} (hr : 1 ≤ r ∧ r ≤ 6) (hG : GoodL r S l) (hS : ∀ i, i < 2 ^ (r - 1) → S.getD (2 * i) 0 ≠ 0) :
    ∀ (A D : List Nat) (W : Won), OrdOf l (D ++ A) → InvD r S l D W → (plR r S l A W).2.1 = 0 ∧ InvD r S l (D ++ A) (plR r S l A W).2.2
  | [], D, W, _, h => ⟨rfl, by rw [List.append_nil]; exact h⟩
  | j :: A, D, W, hO, h => by
    obtain ⟨x, hx, h1, h2⟩ := h.step hr hG hS hO
    have e : D ++ j :: A = (D ++ [j]) ++ A := by simp
    rw [e] at hO ⊢
    have := plR_good hr hG hS A (D ++ [j]) _ hO h2
    unfold plR
    rw [hx]
    simp only
    rw [if_neg (fun hh => hh h1)]
    exact this
end Go.Idl
