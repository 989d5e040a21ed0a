/-
  Chapter 38: what is wrong is found (plain).
  Chapter 38: KnockWrong: walk and law.
-/
import Derived.Test.YtnnpdhccblelgaaDoorC38PartZF
import Derived.Test.YtnnpdhccblelgaaDoorC38PartZI
namespace Go.Idl
set_option linter.all false
open Go.Proofs
set_option maxHeartbeats 8000000
set_option maxRecDepth 40000

def keyLt (x y : Rs) : Prop := x.r < y.r ∨ x.r = y.r ∧ x.i < y.i
/-- A match that is over by the results gone through. -/
def doneE (r : Nat) (S : List Int) (D : List Rs) (q i : Nat) : Prop := (q = 0 ∧ i < 2 ^ (r - 1) ∧ S.getD (2 * i + 1) 0 = 0) ∨ ∃ x ∈ D, isM q i x = true
structure InvE (r : Nat) (S : List Int) (l : List Rs) (D : List Rs) (W : Won) : Prop where
  yes : ∀ q i : Nat, doneE r S D q i → aget ((q : Int), (i : Int)) W = val S l q i
  no : ∀ q i : Nat, ¬ doneE r S D q i → aget ((q : Int), (i : Int)) W = none
theorem InvE.start {r : Nat} {S : List Int} {l : List Rs} : InvE r S l [] (begW S (2 ^ (r - 1))) := by
  refine ⟨fun q i h => ?_, fun q i h => ?_⟩
  · rcases h with ⟨rfl, h1, h2⟩ | ⟨j, hj, _⟩
    · rw [begW_get, if_pos ⟨rfl, by omega, by omega, by simpa using h2⟩]
      unfold val
      rw [if_pos h2]
      simp
    · cases hj
  · rw [begW_get, if_neg]
    rintro ⟨h1, h2, h3, h4⟩
    exact h (.inl ⟨by omega, by omega, by simpa using h4⟩)
theorem InvE.step {r : Nat} {S : List Int} {l : List Rs} {D A : List Rs} {x : Rs} {W : Won} (hr : 1 ≤ r ∧ r ≤ 6) (hG : GoodL r S l) (hS : ∀ i, i < 2 ^ (r - 1) → S.getD (2 * i) 0 ≠ 0)
    (hsub : ∀ z ∈ D ++ x :: A, z ∈ l) (hO : (D ++ x :: A).Pairwise keyLt) (hdn : ∀ z ∈ l, z.r < x.r → z ∈ D ++ x :: A) (h : InvE r S l D W) : (tkR r S W x).1 = 0 ∧ InvE r S l (D ++ [x]) (tkR r S W x).2 := by
  have hxl : x ∈ l := hsub x (by simp)
  obtain ⟨q, i, hqr, hir, hq, hi, hk⟩ := hG.key hxl
  have hib := key_bd hqr hir
  have hnd : ¬ doneE r S D q i := by
    rintro (⟨rfl, h1, h2⟩ | ⟨y, hy, hky⟩)
    · exact hG.first x hxl (by omega) (by rw [show x.i.toNat = i by omega]; exact h2)
    · have := (List.pairwise_append.1 hO).2.2 y hy x (by simp)
      obtain ⟨y1, y2⟩ := isM_key.1 hky
      unfold keyLt at this
      omega
  have h2 : ((aget (x.r, x.i) W).getD (0, 0)).2 = 0 := by rw [hq, hi, h.no q i hnd]; rfl
  have hsd : ∃ a b, sidW S W q i = (a, b, true) ∧ a ≠ 0 ∧ b ≠ 0 ∧ val S l q i = some (resW x a b) := by
    cases q with
    | zero =>
      have hf := hG.first x hxl (by omega)
      rw [show x.i.toNat = i by omega] at hf
      refine ⟨S.getD (2 * i) 0, S.getD (2 * i + 1) 0, by unfold sidW; rw [if_pos rfl], hS i (by simpa using hir), hf, ?_⟩
      unfold val
      rw [if_neg hf, hG.find hxl hk]
      rfl
    | succ q =>
      obtain ⟨d1, d2⟩ := hG.later x hxl (by omega)
      rw [show x.r.toNat - 1 = q by omega, show x.i.toNat = i by omega] at d1 d2
      obtain ⟨b2, b1⟩ := key_half hib
      obtain ⟨u, hu, hu0⟩ := hG.val_some hS q (2 * i) b1 d1
      obtain ⟨v, hv, hv0⟩ := hG.val_some hS q (2 * i + 1) b2 d2
      have hdd : ∀ c, (c + 1) * 2 ^ q ≤ 2 ^ (r - 1) → doneB S l q c → doneE r S D q c := fun c hc hd => by
        rcases hd with ⟨rfl, hb⟩ | ⟨y, hy, hky⟩
        · exact .inl ⟨rfl, by omega, hb⟩
        · right
          obtain ⟨y1, y2⟩ := isM_key.1 hky
          refine ⟨y, ?_, hky⟩
          rcases List.mem_append.1 (hdn y hy (by omega)) with hm | hm
          · exact hm
          · exfalso
            rcases List.mem_cons.1 hm with rfl | hm
            · omega
            · have := (List.pairwise_cons.1 (List.pairwise_append.1 hO).2.1).1 y hm
              unfold keyLt at this
              omega
      refine ⟨u.1, v.1, ?_, hu0, hv0, ?_⟩
      · unfold sidW
        have e1 : (((q + 1 : Nat) : Int) - 1, 2 * (i : Int)) = ((q : Int), ((2 * i : Nat) : Int)) := by
          rw [show ((q + 1 : Nat) : Int) - 1 = q by omega, show 2 * (i : Int) = ((2 * i : Nat) : Int) by omega]
        have e2 : (((q + 1 : Nat) : Int) - 1, 2 * (i : Int) + 1) = ((q : Int), ((2 * i + 1 : Nat) : Int)) := by
          rw [show ((q + 1 : Nat) : Int) - 1 = q by omega, show 2 * (i : Int) + 1 = ((2 * i + 1 : Nat) : Int) by omega]
        rw [if_neg (by omega), e1, e2, h.yes q (2 * i) (hdd _ b1 d1), h.yes q (2 * i + 1) (hdd _ b2 d2), hu, hv]
        rfl
      · unfold val
        rw [hG.find hxl hk, hu, hv]
  obtain ⟨a, b, s1, s2, s3, s4⟩ := hsd
  have ht := tk_good (hG.right x hxl) h2 (a := a) (b := b) (by rw [show x.r.toNat = q by omega, show x.i.toNat = i by omega]; exact s1) s2 s3
  rw [ht]
  refine ⟨rfl, fun q' i' hd => ?_, fun q' i' hd => ?_⟩
  · show aget ((q' : Int), (i' : Int)) (aset (x.r, x.i) (resW x a b) W) = _
    rw [aget_aset]
    by_cases e : ((q' : Int), (i' : Int)) = (x.r, x.i)
    · rw [if_pos e]
      obtain ⟨e1, e2⟩ := Prod.mk.inj e
      obtain rfl : q' = q := by omega
      obtain rfl : i' = i := by omega
      exact s4.symm
    · rw [if_neg e]
      refine h.yes q' i' ?_
      rcases hd with hd | ⟨y, hy, hky⟩
      · exact .inl hd
      · rcases List.mem_append.1 hy with hm | hm
        · exact .inr ⟨y, hm, hky⟩
        · exfalso
          rw [List.mem_singleton.1 hm] at hky
          obtain ⟨k1, k2⟩ := isM_key.1 hky
          exact e (by rw [k1, k2])
  · show aget ((q' : Int), (i' : Int)) (aset (x.r, x.i) (resW x a b) W) = _
    rw [aget_aset, if_neg]
    · refine h.no q' i' fun hd' => hd ?_
      rcases hd' with hd' | ⟨y, hy, hky⟩
      · exact .inl hd'
      · exact .inr ⟨y, by simp [hy], hky⟩
    · intro e
      obtain ⟨e1, e2⟩ := Prod.mk.inj e
      exact hd (.inr ⟨x, by simp, isM_key.2 ⟨e1.symm, e2.symm⟩⟩)
/-- Results gone through without an error. -/
theorem plR_pre {r : Nat} {S : List Int} {l bad : List Rs} (hr : 1 ≤ r ∧ r ≤ 6) (hG : GoodL r S l) (hS : ∀ i, i < 2 ^ (r - 1) → S.getD (2 * i) 0 ≠ 0) (A2 : List Nat) :
    ∀ (A1 : List Nat) (D E : List Rs) (W : Won), A1.map (fun j => bad[j]?) = E.map some → (∀ z ∈ D ++ E, z ∈ l) → (D ++ E).Pairwise keyLt → (∀ y ∈ E, ∀ z ∈ l, z.r < y.r → z ∈ D ++ E) → InvE r S l D W →
      ∃ W', InvE r S l (D ++ E) W' ∧ plR r S bad (A1 ++ A2) W = plR r S bad A2 W'
  | [], D, E, W, he, _, _, _, h => by
    have : E = [] := by simpa using he.symm
    subst this
    exact ⟨W, by rw [List.append_nil]; exact h, rfl⟩
  | j :: A1, D, [], W, he, _, _, _, h => by simp at he
  | j :: A1, D, y :: E, W, he, h1, h2, h3, h => by
    simp only [List.map_cons, List.cons.injEq] at he
    obtain ⟨s1, s2⟩ := h.step hr hG hS h1 h2 (h3 y (by simp))
    have e : D ++ y :: E = (D ++ [y]) ++ E := by simp
    rw [e] at h1 h2 h3 ⊢
    obtain ⟨W', w1, w2⟩ := plR_pre hr hG hS A2 A1 (D ++ [y]) E _ he.2 h1 h2 (fun z hz => h3 z (by simp [hz])) s2
    refine ⟨W', w1, ?_⟩
    rw [← w2, List.cons_append, plR, he.1]
    simp only
    rw [if_neg (fun hh => hh s1)]
theorem erase_at {l : List Rs} {k j : Nat} (hj : j < l.length) (hne : j ≠ k) (hk : k < l.length) : ∃ i, ∃ h : i < (l.eraseIdx k).length, (l.eraseIdx k)[i] = l[j] ∧ (if j < k then i = j else i + 1 = j) := by
  have hl := List.length_eraseIdx_of_lt hk
  by_cases h : j < k
  · refine ⟨j, by omega, ?_, by rw [if_pos h]⟩
    rw [List.getElem_eraseIdx, dif_pos h]
  · refine ⟨j - 1, by omega, ?_, by rw [if_neg h]; omega⟩
    rw [List.getElem_eraseIdx, dif_neg (by omega)]
    congr 1; omega
theorem erase_dist {r : Nat} {S : List Int} {l : List Rs} {k j j' : Nat} (hG : GoodL r S (l.eraseIdx k)) (hk : k < l.length) (hj : j < l.length) (hj' : j' < l.length) (h1 : j ≠ k) (h2 : j' ≠ k) (h3 : j ≠ j') : ¬ (l[j].r = l[j'].r ∧ l[j].i = l[j'].i) := by
  obtain ⟨i, hi, e, c⟩ := erase_at hj h1 hk
  obtain ⟨i', hi', e', c'⟩ := erase_at hj' h2 hk
  have hp := List.pairwise_iff_getElem.1 hG.dist
  have hne : i ≠ i' := by
    intro hh
    subst hh
    split at c <;> split at c' <;> omega
  rw [← e, ← e']
  rcases Nat.lt_or_gt_of_ne hne with h | h
  · exact hp i i' hi hi' h
  · exact fun hh => hp i' i hi' hi h ⟨hh.1.symm, hh.2.symm⟩
/-- One result too many: what is known when it is looked at. -/
theorem bad_play {r : Nat} {S : List Int} {bad : List Rs} {k : Nat} (hr : 1 ≤ r ∧ r ≤ 6) (hS : ∀ i, i < 2 ^ (r - 1) → S.getD (2 * i) 0 ≠ 0) (hk : k < bad.length) (hG : GoodL r S (bad.eraseIdx k)) {A : List Nat} (hA : OrdOf bad A) :
    ∃ (W : Won) (E : List Rs), InvE r S (bad.eraseIdx k) E W ∧ (∀ y ∈ E, y ∈ bad.eraseIdx k) ∧ (∀ j (hj : j < bad.length), lx (rK bad) (iK bad) j k → bad[j] ∈ E) ∧
      ((tkR r S W bad[k]).1 ≠ 0 → (plR r S bad A (begW S (2 ^ (r - 1)))).1 = k ∧ (plR r S bad A (begW S (2 ^ (r - 1)))).2.1 = (tkR r S W bad[k]).1) := by
  have hlt : ∀ j, j ∈ A → j < bad.length := fun j hj => by simpa [idL] using hA.1.mem_iff.1 hj
  have hkA : k ∈ A := hA.1.mem_iff.2 (by simp [idL, hk])
  obtain ⟨A1, A2, rfl⟩ := List.append_of_mem hkA
  have hnd : (A1 ++ k :: A2).Nodup := hA.1.nodup_iff.2 List.nodup_range
  obtain ⟨p1, p2, p3⟩ := List.pairwise_append.1 hA.2
  have hne : ∀ j ∈ A1, j ≠ k := fun j hj => (List.pairwise_append.1 hnd).2.2 j hj k (by simp)
  have hin : ∀ j (hj : j < bad.length), lx (rK bad) (iK bad) j k → j ∈ A1 := fun j hj hl => by
    have : j ∈ A1 ++ k :: A2 := hA.1.mem_iff.2 (by simp [idL, hj])
    rcases List.mem_append.1 this with h | h
    · exact h
    · exfalso
      rcases List.mem_cons.1 h with rfl | h
      · exact lx_irr hl
      · exact lx_irr (lx_trans hl ((List.pairwise_cons.1 p2).1 j h))
  let E := A1.map fun j => bad.getD j ⟨0, 0, 0, 0, ⟨0, 0⟩⟩
  have hEg : ∀ j (hj : j < bad.length), bad.getD j ⟨0, 0, 0, 0, ⟨0, 0⟩⟩ = bad[j] := fun j hj => by simp [hj]
  have hEm : ∀ y ∈ E, ∃ j, ∃ hj : j < bad.length, j ∈ A1 ∧ bad[j] = y := fun y hy => by
    obtain ⟨j, hj, e⟩ := List.mem_map.1 hy
    have hjl := hlt j (by simp [hj])
    exact ⟨j, hjl, hj, by rw [← e, hEg j hjl]⟩
  have hmE : ∀ j (hj : j < bad.length), j ∈ A1 → bad[j] ∈ E := fun j hj hm => List.mem_map.2 ⟨j, hm, hEg j hj⟩
  have hsub : ∀ y ∈ E, y ∈ bad.eraseIdx k := fun y hy => by
    obtain ⟨j, hj, hm, rfl⟩ := hEm y hy
    exact List.mem_eraseIdx_iff_getElem.2 ⟨j, hj, hne j hm, rfl⟩
  have hmap : A1.map (fun j => bad[j]?) = E.map some := by
    simp only [E, List.map_map]
    refine List.map_congr_left fun j hj => ?_
    have hjl := hlt j (by simp [hj])
    simp [hjl]
  have hpw : E.Pairwise keyLt := by
    simp only [E]
    refine List.pairwise_map.2 ((p1.and (List.pairwise_append.1 hnd).1).imp_of_mem ?_)
    rintro j j' hj hj' ⟨hl, hn⟩
    have h1 := hlt j (by simp [hj])
    have h2 := hlt j' (by simp [hj'])
    rw [hEg j h1, hEg j' h2]
    have hd := erase_dist hG hk h1 h2 (hne j hj) (hne j' hj') hn
    unfold lx at hl
    rw [rK_get h1, rK_get h2, iK_get h1, iK_get h2] at hl
    unfold keyLt
    omega
  have hdn : ∀ y ∈ E, ∀ z ∈ bad.eraseIdx k, z.r < y.r → z ∈ E := fun y hy z hz hzy => by
    obtain ⟨j, hj, hm, rfl⟩ := hEm y hy
    obtain ⟨jz, hjz, hjk, rfl⟩ := List.mem_eraseIdx_iff_getElem.1 hz
    refine hmE jz hjz (hin jz hjz (lx_trans (b := j) ?_ (p3 j hm k (by simp))))
    unfold lx
    rw [rK_get hjz, rK_get hj]
    exact .inl hzy
  obtain ⟨W, w1, w2⟩ := plR_pre (bad := bad) hr hG hS (k :: A2) A1 [] E _ hmap (fun z hz => hsub z (by simpa using hz)) (by simpa using hpw) (fun y hy z hz hzy => by simpa using hdn y hy z hz hzy) InvE.start
  rw [List.nil_append] at w1
  refine ⟨W, E, w1, hsub, fun j hj hl => hmE j hj (hin j hj hl), fun he => ?_⟩
  rw [w2, plR, List.getElem?_eq_getElem hk]
  simp only
  rw [if_pos he]
  exact ⟨rfl, rfl⟩
/-- A result put into a list. -/
def insB (l : List Rs) (k : Nat) (x : Rs) : List Rs := l.take k ++ x :: l.drop k
theorem insB_len (l : List Rs) (k : Nat) (x : Rs) : (insB l k x).length = l.length + 1 := by simp [insB]; omega
theorem insB_perm (l : List Rs) (k : Nat) (x : Rs) : (insB l k x).Perm (x :: l) := by
  have := List.perm_middle (a := x) (l₁ := l.take k) (l₂ := l.drop k)
  rwa [List.take_append_drop] at this
theorem insB_at {l : List Rs} {k : Nat} (hk : k ≤ l.length) (x : Rs) : (insB l k x)[k]? = some x := by
  unfold insB
  rw [List.getElem?_append_right (by simp; omega)]
  simp [Nat.min_eq_left hk]
theorem insB_low {l : List Rs} {k p : Nat} (hk : k ≤ l.length) (x : Rs) (hp : p < k) : (insB l k x)[p]? = l[p]? := by
  unfold insB
  rw [List.getElem?_append_left (by simp; omega), List.getElem?_take, if_pos hp]
theorem insB_high {l : List Rs} {k p : Nat} (hk : k ≤ l.length) (x : Rs) (hp : k ≤ p) : (insB l k x)[p + 1]? = l[p]? := by
  unfold insB
  rw [List.getElem?_append_right (by simp; omega)]
  rw [show p + 1 - (l.take k).length = (p - k) + 1 by simp; omega, List.getElem?_cons_succ, List.getElem?_drop]
  congr 1; omega
theorem cons_erase {l : List Rs} {i : Nat} (h : i < l.length) : (l[i] :: l.eraseIdx i).Perm l := by
  rw [List.eraseIdx_eq_take_drop_succ]
  refine List.perm_middle.symm.trans ?_
  rw [← List.drop_eq_getElem_cons h, List.take_append_drop]
theorem erase_good {r : Nat} {S : List Int} {l : List Rs} {k K : Nat} {x : Rs} (hG : GoodL r S l) (hK : (insB l k x)[K]? = some x) : GoodL r S ((insB l k x).eraseIdx K) := by
  obtain ⟨hKl, e⟩ := List.getElem?_eq_some_iff.1 hK
  have h1 := cons_erase hKl
  rw [e] at h1
  exact hG.perm (h1.trans (insB_perm l k x)).cons_inv
/-- A result that cannot be one. -/
theorem wrong_a {r : Nat} {S : List Int} {l : List Rs} (hr : 1 ≤ r ∧ r ≤ 6) (hS : ∀ i, i < 2 ^ (r - 1) → S.getD (2 * i) 0 ≠ 0) (hG : GoodL r S l) {k : Nat} (hk : k ≤ l.length) {x : Rs} (hb : badX r x) {A : List Nat} (hA : OrdOf (insB l k x) A) :
    (plR r S (insB l k x) A (begW S (2 ^ (r - 1)))).1 = k ∧ (plR r S (insB l k x) A (begW S (2 ^ (r - 1)))).2.1 = 381 := by
  have hat := insB_at hk x
  obtain ⟨hkl, e⟩ := List.getElem?_eq_some_iff.1 hat
  obtain ⟨W, E, _, _, _, h⟩ := bad_play hr hS hkl (erase_good hG hat) hA
  rw [e] at h
  have ht : (tkR r S W x).1 = 381 := by unfold tkR; rw [if_pos hb]
  rw [ht] at h
  exact h (by decide)
/-- A second result of a match. -/
theorem wrong_b {n : Nat} (h1 : 2 ≤ n) (h2 : n ≤ 64) {l : List Rs} (hG : Good n l) {k : Nat} (hk : k ≤ l.length) {p : Nat} (hp : p < l.length) {A : List Nat} (hA : OrdOf (insB l k l[p]) A) :
    ∃ i : Nat, (insB l k l[p])[i]? = some l[p] ∧ (plR (rnd n) (seedsL n) (insB l k l[p]) A (beg n)).1 = i ∧ (plR (rnd n) (seedsL n) (insB l k l[p]) A (beg n)).2.1 = 382 := by
  have key : ∀ i j : Nat, j < i → (insB l k l[p])[i]? = some l[p] → (insB l k l[p])[j]? = some l[p] → ∃ i : Nat, (insB l k l[p])[i]? = some l[p] ∧ (plR (rnd n) (seedsL n) (insB l k l[p]) A (beg n)).1 = i ∧ (plR (rnd n) (seedsL n) (insB l k l[p]) A (beg n)).2.1 = 382 := fun i j hji hi hj => by
    have hG2 := erase_good hG hi
    obtain ⟨hil, ei⟩ := List.getElem?_eq_some_iff.1 hi
    obtain ⟨hjl, ej⟩ := List.getElem?_eq_some_iff.1 hj
    obtain ⟨W, E, hW, hE, hlx, h⟩ := bad_play (rnd_bd h1) (firsts38 n (by omega) h1) hil hG2 hA
    have hm := hlx j hjl (by
      unfold lx
      rw [rK_get hil, rK_get hjl, iK_get hil, iK_get hjl, ei, ej]
      exact .inr ⟨rfl, .inr ⟨rfl, hji⟩⟩)
    rw [ej] at hm
    obtain ⟨q, c, _, _, e1, e2, hkk⟩ := hG2.key (hE _ hm)
    obtain ⟨u, hu, _, hu2⟩ := res_val h1 h2 hG2 (hE _ hm) hkk
    have hg := hW.yes q c (.inr ⟨_, hm, hkk⟩)
    rw [hu] at hg
    have hnb := hG2.right _ (hE _ hm)
    rw [ei] at h
    have ht : (tkR (rnd n) (seedsL n) W l[p]).1 = 382 := by
      unfold tkR
      rw [if_neg hnb, e1, e2, hg]
      simp only [Option.getD_some]
      rw [if_pos hu2]
    rw [ht] at h
    exact ⟨i, hi, h (by decide)⟩
  have hat := insB_at hk l[p]
  by_cases hpk : p < k
  · exact key k p hpk hat (by rw [insB_low hk _ hpk]; exact List.getElem?_eq_getElem hp)
  · exact key (p + 1) k (by omega) (by rw [insB_high hk _ (by omega)]; exact List.getElem?_eq_getElem hp) hat
/-- Below a match that is over all are over. -/
theorem below_done {r : Nat} {S : List Int} {l : List Rs} (hG : GoodL r S l) : ∀ (d q i : Nat), doneB S l (q + d) i → ∀ j, j / 2 ^ d = i → doneB S l q j
  | 0, q, i, h, j, hj => by
    obtain rfl : j = i := by simpa using hj
    exact h
  | d + 1, q, i, h, j, hj => by
    rcases h with ⟨h0, _⟩ | ⟨x, hx, hk⟩
    · omega
    · obtain ⟨k1, k2⟩ := isM_key.1 hk
      obtain ⟨d1, d2⟩ := hG.later x hx (by omega)
      rw [show x.r.toNat - 1 = q + d by omega, show x.i.toNat = i by omega] at d1 d2
      have hjd : j / 2 ^ d / 2 = i := by rw [Nat.div_div_eq_div_mul, ← Nat.pow_succ]; exact hj
      rcases (by omega : j / 2 ^ d = 2 * i ∨ j / 2 ^ d = 2 * i + 1) with e | e
      · exact below_done hG d q (2 * i) d1 j e
      · exact below_done hG d q (2 * i + 1) d2 j e
/-- A match of the last round too early. -/
theorem wrong_c {n : Nat} (h1 : 2 ≤ n) (h2 : n ≤ 64) {l : List Rs} (hG : Good n l) {k : Nat} (hk : k ≤ l.length) {x : Rs} (hx : ¬ badX (rnd n) x) (hr2 : 2 ≤ rnd n) (hxr : x.r = (rnd n : Int) - 1) (hxi : x.i = 0) (ho : 1 < (opens n l).length) {A : List Nat} (hA : OrdOf (insB l k x) A) :
    (plR (rnd n) (seedsL n) (insB l k x) A (beg n)).1 = k ∧ (plR (rnd n) (seedsL n) (insB l k x) A (beg n)).2.1 = 383 := by
  have hat := insB_at hk x
  have hG2 := erase_good hG hat
  obtain ⟨hkl, e⟩ := List.getElem?_eq_some_iff.1 hat
  have hp2 : ((insB l k x).eraseIdx k).Perm l := by
    have h1 := cons_erase hkl
    rw [e] at h1
    exact (h1.trans (insB_perm l k x)).cons_inv
  obtain ⟨W, E, hW, hE, _, h⟩ := bad_play (rnd_bd h1) (firsts38 n (by omega) h1) hkl hG2 hA
  have hEl : ∀ y ∈ E, y ∈ l := fun y hy => hp2.mem_iff.1 (hE y hy)
  have hEd : ∀ {q i}, doneE (rnd n) (seedsL n) E q i → doneB (seedsL n) l q i := fun hd => by
    rcases hd with ⟨a, _, b⟩ | ⟨y, hy, hk⟩
    · exact .inl ⟨a, b⟩
    · exact .inr ⟨y, hEl y hy, hk⟩
  obtain ⟨R, hR⟩ : ∃ R, rnd n = R + 2 := ⟨rnd n - 2, by omega⟩
  have hnot : ¬ (doneB (seedsL n) l R 0 ∧ doneB (seedsL n) l R 1) := fun ⟨d0, d1⟩ => by
    have hlow : ∀ q i, q ≤ R → i < 2 ^ (rnd n - 1 - q) → doneB (seedsL n) l q i := fun q i hq hi => by
      obtain ⟨d, hd⟩ : ∃ d, R = q + d := ⟨R - q, by omega⟩
      have hi2 : i < 2 ^ d * 2 := by rw [← Nat.pow_succ, show d.succ = rnd n - 1 - q by omega]; exact hi
      have hlt : i / 2 ^ d < 2 := Nat.div_lt_of_lt_mul hi2
      generalize hj : i / 2 ^ d = j at hlt
      rw [hd] at d0 d1
      rcases (by omega : j = 0 ∨ j = 1) with e | e
      · exact below_done hG d q 0 d0 i (hj.trans e)
      · exact below_done hG d q 1 d1 i (hj.trans e)
    have hall : ∀ m ∈ opens n l, m.r = ((R + 1 : Nat) : Int) ∧ m.i = 0 := fun m hm => by
      obtain ⟨q, i, p1, p2, f⟩ := opens_facts h1 h2 hG hm
      have hq : ¬ q ≤ R := fun hq => f.nd (hlow q i hq f.hi)
      have hqq := f.hq
      obtain rfl : q = R + 1 := by omega
      have hi := f.hi
      rw [show rnd n - 1 - (R + 1) = 0 by omega] at hi
      have hmi := f.mi
      exact ⟨f.mr, by omega⟩
    have hpw := List.pairwise_iff_getElem.1 (opens_pw n l) 0 1 (by omega) ho (by omega)
    have m0 := hall _ (List.getElem_mem (show 0 < (opens n l).length by omega))
    have m1 := hall _ (List.getElem_mem ho)
    exact hpw ⟨by rw [m0.1, m1.1], by rw [m0.2, m1.2]⟩
  have hfin : ¬ doneB (seedsL n) l (R + 1) 0 := fun hd => by
    refine hnot ⟨below_done hG 1 R 0 hd 0 (by decide), below_done hG 1 R 0 hd 1 (by decide)⟩
  have hg := hW.no (R + 1) 0 fun hd => hfin (hEd hd)
  have hxr' : x.r = ((R + 1 : Nat) : Int) := by omega
  have hside : (sidW (seedsL n) W (R + 1) 0).2.2 = false := by
    unfold sidW
    rw [if_neg (by omega)]
    simp only
    have e1 : (((R + 1 : Nat) : Int) - 1, 2 * ((0 : Nat) : Int)) = ((R : Int), ((0 : Nat) : Int)) := by
      rw [show ((R + 1 : Nat) : Int) - 1 = R by omega]; rfl
    have e2 : (((R + 1 : Nat) : Int) - 1, 2 * ((0 : Nat) : Int) + 1) = ((R : Int), ((1 : Nat) : Int)) := by
      rw [show ((R + 1 : Nat) : Int) - 1 = R by omega]; rfl
    rw [e1, e2]
    by_cases d0 : doneE (rnd n) (seedsL n) E R 0
    · have d1 : ¬ doneE (rnd n) (seedsL n) E R 1 := fun d1 => hnot ⟨hEd d0, hEd d1⟩
      rw [hW.no R 1 d1]
      simp
    · rw [hW.no R 0 d0]
      simp
  have ht : (tkR (rnd n) (seedsL n) W x).1 = 383 := by
    unfold tkR
    rw [if_neg hx, hxr', hxi]
    rw [show ((0 : Int)) = ((0 : Nat) : Int) from rfl, hg]
    rw [if_neg (by simp)]
    rw [show (((R + 1 : Nat) : Int)).toNat = R + 1 by omega, show (((0 : Nat) : Int)).toNat = 0 from rfl, if_pos (.inl hside)]
  rw [e, ht] at h
  exact h (by decide)
end Go.Idl
namespace Go.Idl
set_option linter.all false
open Go.Proofs
set_option maxHeartbeats 16000000
set_option maxRecDepth 40000
set_option pp.deepTerms true
set_option pp.maxSteps 100000

theorem teamsRight_fun (n : Int) : FN 22 [.int .i64 n] (fun v => v = .bool (decide (2 ≤ n) && decide (n ≤ 64))) := by
  refine IFun.of_bodyZ false 3 [] Tryd.func22 rfl Tryd.call22 rfl fun R hR => ?_
  simp [go_sem]
  exact hR _ _ _ rfl (by simp [go_sem])
theorem pow6 {r : Nat} (h : r ≤ 6) : IntKind.i64.wrap (2 ^ min r 64) = ((2 ^ r : Nat) : Int) := by
  rcases (by omega : r = 0 ∨ r = 1 ∨ r = 2 ∨ r = 3 ∨ r = 4 ∨ r = 5 ∨ r = 6) with rfl | rfl | rfl | rfl | rfl | rfl | rfl <;> decide
/-- A result that is wrong, and what is returned for it. -/
def WrX (n : Nat) (out : List Rs) (x : Rs) (want : Int) : Prop :=
  (badX (rnd n) x ∧ want = 381) ∨ (∃ p, ∃ hp : p < out.length, x = out[p] ∧ want = 382) ∨
  (¬ badX (rnd n) x ∧ 2 ≤ rnd n ∧ x.r = (rnd n : Int) - 1 ∧ x.i = 0 ∧ 1 < (opens n out).length ∧ want = 383)
theorem WrX.found {n : Nat} (h1 : 2 ≤ n) (h2 : n ≤ 64) {out : List Rs} (hG : Good n out) {x : Rs} {want : Int} (h : WrX n out x want) {k : Nat} (hk : k ≤ out.length) {A : List Nat} (hA : OrdOf (insB out k x) A) :
    ∃ i : Nat, (insB out k x)[i]? = some x ∧ (plR (rnd n) (seedsL n) (insB out k x) A (beg n)).1 = i ∧ (plR (rnd n) (seedsL n) (insB out k x) A (beg n)).2.1 = want ∧ (want = 381 ∨ want = 382 ∨ want = 383) ∧ (i = k ∨ want = 382) := by
  rcases h with ⟨hb, rfl⟩ | ⟨p, hp, rfl, rfl⟩ | ⟨hb, hr, e1, e2, ho, rfl⟩
  · obtain ⟨a, b⟩ := wrong_a (rnd_bd h1) (firsts38 n (by omega) h1) hG hk hb hA
    exact ⟨k, insB_at hk x, a, b, .inl rfl, .inl rfl⟩
  · obtain ⟨i, a, b, c⟩ := wrong_b h1 h2 hG hk hp hA
    exact ⟨i, a, b, c, .inr (.inl rfl), .inr rfl⟩
  · obtain ⟨a, b⟩ := wrong_c h1 h2 hG hk hb hr e1 e2 ho hA
    exact ⟨k, insB_at hk x, a, b, .inr (.inr rfl), .inl rfl⟩
theorem knockWrong_fun (t : Int) (ht : 0 ≤ t ∧ t < 256) (xs : List Sm) (hx : ∀ x ∈ xs, FitS x) (hxl : xs.length < 2 ^ 63) (way at' z : Int) (hw : 0 ≤ way ∧ way < 256) (ha : 0 ≤ at' ∧ at' < 256) (hz : -2 ^ 63 ≤ z ∧ z < 2 ^ 63) :
    FN 7 [.int .u8 t, .fz 4 (sms xs), .int .u8 way, .int .u8 at', .int .i64 z] (fun v => v = .bool true) := by
  refine IFun.of_bodyW false 38 [39, 42, 77, 78, 79, 80, 84, 110, 114, 127, 138, 139, 146, 158, 164, 170, 174, 181, 185] Tryd.func7 rfl Tryd.call7 rfl fun R hR => ?_
  obtain ⟨n, hn⟩ : ∃ n : Nat, 2 + t % 63 = n := ⟨(2 + t % 63).toNat, by omega⟩
  have h1 : 2 ≤ n := by omega
  have h2 : n ≤ 64 := by omega
  obtain ⟨K, hK⟩ : ∃ K, min xs.length 20 = K := ⟨_, rfl⟩
  have hk : (if 20 < (xs.length : Int) then (20 : Int) else (xs.length : Int)) = (K : Int) := by split <;> omega
  have htk : List.take K (sms xs) = sms (xs.take K) := by simp [sms, mp, List.map_take]
  have hx2 : ∀ x ∈ xs.take K, FitS x := fun x hh => hx x (List.mem_of_mem_take hh)
  have hl2 : (xs.take K).length ≤ 20 := by simp; omega
  have hk2 : K ≤ xs.length := by omega
  have cm := madeF_fun t ht _ hx2 (by omega) n hn
  obtain ⟨hG, hf, hol⟩ := madeL_ok h1 h2 hx2
  generalize madeL n (xs.take K) [] = out at *
  have co := open_good h1 h2 hG (by omega) hf
  generalize xs.take K = xk at *
  obtain ⟨F, hF⟩ : ∃ F, (if 2 ≤ z ∧ z ≤ 64 then z + 64 else z) = F := ⟨_, rfl⟩
  have hFn : ¬ (2 ≤ F ∧ F ≤ 64) := by split at hF <;> omega
  have hF64 : -2 ^ 63 ≤ F ∧ F < 2 ^ 63 := by split at hF <;> omega
  have ctr := teamsRight_fun z
  have f1 := roundsN_fun F hFn
  have f2 := bracketN_fun F hFn
  have f3 := open_none F hFn []
  have f4 := check_none F hFn [⟨0, 0, 0, 0, ⟨0, 0⟩⟩]
  have f5 := pathN_fun F 1 hFn
  have cr := roundsY_fun n h1 h2
  refine IWp.seqI ?_
  simp [go_sem]
  refine IWp.seqI ?_
  simp [go_sem]
  refine awake38_fun.callF (by simp [go_sem]) ?_
  rintro _ rfl
  simp [go_sem]
  refine IWp.seqI ?_
  simp [go_sem]
  refine IWp.seqT (α := Unit) (fun _ => (⟨false, 261, 38, [39, 42, 77, 78, 79, 80, 84, 110, 114, 127, 138, 139, 146, 158, 164, 170, 174, 181, 185], glT, [(0, .int .u8 t), (1, .fz 4 (sms xs)), (2, .int .u8 way), (3, .int .u8 at'), (11, .int .i64 F)], []⟩, [])) (fun _ => True) ?_ ?_
  · simp [go_sem]
    refine ctr.callF (by simp [go_sem]) ?_
    rintro _ rfl
    by_cases hc : 2 ≤ z ∧ z ≤ 64
    · rw [if_pos hc] at hF
      have v1 : IntKind.i64.wrap (z + 64) = F := by rw [wrap64 (by omega) (by omega)]; exact hF
      simp [go_sem, hc.1, hc.2, v1]
    · rw [if_neg hc] at hF
      subst hF
      have hc2 : (decide (2 ≤ z) && decide (z ≤ 64)) = false := by
        simp only [Bool.and_eq_false_iff, decide_eq_false_iff_not]; omega
      rw [hc2]
      simp [go_sem]
  rintro _ _
  clear ctr hF hz hFn
  refine IWp.seqI ?_
  simp [go_sem]
  refine f1.callF (by simp [go_sem]) ?_
  rintro _ rfl
  simp [go_sem]
  refine IWp.seqI ?_
  simp [go_sem]
  refine f2.callF (by simp [go_sem]) ?_
  rintro _ rfl
  simp [go_sem]
  refine IWp.seqI ?_
  simp [go_sem]
  refine f3.callF (by simp [go_sem]) ?_
  rintro _ rfl
  simp [go_sem]
  refine IWp.seqI ?_
  simp [go_sem]
  refine f4.callF (by simp [go_sem, rss, mp, Rs.c]) ?_
  rintro _ rfl
  simp [go_sem]
  refine IWp.seqI ?_
  simp [go_sem]
  refine f5.callF (by simp [go_sem]) ?_
  rintro _ rfl
  simp [go_sem]
  clear f1 f2 f3 f4 f5
  refine IWp.seqT (α := Unit) (fun _ => (⟨false, 261, 38, [39, 42, 77, 78, 79, 80, 84, 110, 114, 127, 138, 139, 146, 158, 164, 170, 174, 181, 185], glT, [(0, .int .u8 t), (1, .fz 4 (sms xs)), (2, .int .u8 way), (3, .int .u8 at')], []⟩, [.dead])) (fun _ => True) ?_ ?_
  · simp [go_sem]
    refine IWp.loopT (α := Nat) (fun j => (⟨false, 261, 38, [39, 42, 77, 78, 79, 80, 84, 110, 114, 127, 138, 139, 146, 158, 164, 170, 174, 181, 185], glT, [(0, .int .u8 t), (1, .fz 4 (sms xs)), (2, .int .u8 way), (3, .int .u8 at'), (77, .sl 1 5 0 5 none), (78, .int .i64 5), (79, .int .i64 (j : Int))], []⟩, [.dead, .rows 1 [[.int .i64 380], [.int .i64 380], [.int .i64 380], [.int .i64 380], [.int .i64 380]]]))
      (fun j => j ≤ 5) (fun j => 5 - j) 0 (by simp) (by simp [go_sem]) ?_
    intro j hj
    rcases (by omega : j = 0 ∨ j = 1 ∨ j = 2 ∨ j = 3 ∨ j = 4 ∨ j = 5) with rfl | rfl | rfl | rfl | rfl | rfl
    · simp [go_sem]
      exact ⟨1, by decide, by omega, by omega⟩
    · simp [go_sem]
      exact ⟨2, by decide, by omega, by omega⟩
    · simp [go_sem]
      exact ⟨3, by decide, by omega, by omega⟩
    · simp [go_sem]
      exact ⟨4, by decide, by omega, by omega⟩
    · simp [go_sem]
      exact ⟨5, by decide, by omega, by omega⟩
    · simp [go_sem]
  rintro _ _
  refine IWp.seqI ?_
  simp [go_sem, hk, hk2, htk]
  refine cm.callF (by simp [go_sem]) ?_
  rintro _ rfl
  simp [go_sem]
  refine IWp.seqI ?_
  simp [go_sem]
  refine co.callF (by simp [go_sem]) ?_
  rintro _ rfl
  simp [go_sem]
  refine IWp.seqI ?_
  simp [go_sem]
  refine cr.callF (by simp [go_sem]) ?_
  rintro _ rfl
  simp [go_sem]
  have z0 : IntKind.i64.wrap 0 = 0 := by decide
  refine IWp.seqI ?_
  simp [go_sem, z0]
  refine IWp.seqI ?_
  simp [go_sem]
  obtain ⟨m, hm⟩ : ∃ m, pick n out ⟨at', 0, 0, 0⟩ = m := ⟨_, rfl⟩
  have hLl := opens_len h1 out
  have cmk := made38_fun m ⟨0, 3, 0, 0⟩ (by unfold FitS; simp)
  have hmb : (0 ≤ m.r ∧ m.r < 6) ∧ (0 ≤ m.i ∧ m.i < 32) ∧ m.r < rnd n := by
    by_cases ho : opens n out = []
    · have e : m = mtZ := by rw [← hm]; unfold pick; rw [ho]; rfl
      have := (rnd_bd h1).1
      rw [e]
      simp only [mtZ]
      omega
    · have hme := pick_mem (x := ⟨at', 0, 0, 0⟩) ho
      rw [hm] at hme
      have hb := opens_bd h1 h2 hG hme
      obtain ⟨q, i, p1, p2, f⟩ := opens_facts h1 h2 hG hme
      exact ⟨hb.2.2.1, hb.2.2.2, by rw [f.mr]; have := f.hq; omega⟩
  have e0 : mkX m ⟨0, 3, 0, 0⟩ = ⟨m.r, m.i, 3, 0, ⟨0, 1⟩⟩ := by
    unfold mkX
    rw [show mkF 0 (1 + (3 : Int) % 3) = (⟨0, 1⟩, 0) by decide +kernel]
  rw [e0] at cmk
  refine IWp.seqT (α := Unit) (fun _ => (⟨false, 261, 38, [39, 42, 77, 78, 79, 80, 84, 110, 114, 127, 138, 139, 146, 158, 164, 170, 174, 181, 185], glT, [(2, .int .u8 way), (3, .int .u8 at'), (24, .int .i64 (n : Int)), (25, .fz 6 (rss out)), (26, .fz 4 (mts (opens n out))), (28, .int .i64 (rnd n : Nat)), (30, .ptr 1 1 0 0)], []⟩, [.dead, .rows 4 [m.c]])) (fun _ => True) ?_ ?_
  · by_cases ho : opens n out = []
    · have e : m = mtZ := by rw [← hm]; unfold pick; rw [ho]; rfl
      rw [ho, e]
      simp [go_sem, mtZ, Mt.c]
    · have hl0 : 0 < (opens n out).length := List.length_pos_iff.2 ho
      have hl1 : ¬ ((opens n out).length : Int) = 0 := by omega
      have hlt := Nat.mod_lt at'.toNat hl0
      have w4 : IntKind.i64.wrap at' = at' := wrap64 (by omega) (by omega)
      have w5 : at'.tmod (opens n out).length = ((at'.toNat % (opens n out).length : Nat) : Int) := by
        rw [Int.tmod_eq_emod_of_nonneg (by omega), Int.natCast_emod, show ((at'.toNat : Nat) : Int) = at' by omega]
      have hpk : (opens n out)[at'.toNat % (opens n out).length]'hlt = m := by rw [← hm]; unfold pick; simp [hlt]
      clear hm
      generalize opens n out = L at *
      obtain ⟨J, hJ⟩ : ∃ J, at'.toNat % L.length = J := ⟨_, rfl⟩
      simp only [hJ] at hlt hpk w5
      obtain ⟨mr, mi, ma, mb⟩ := m
      simp [go_sem, ho, hl0, hl1, w4, w5, hlt, hpk, Mt.c]
  rintro _ _
  clear cr co cm hm e0
  obtain ⟨r1, r2⟩ := rnd_bd h1
  have hol2 : out.length ≤ 20 := by omega
  have e8 : way.tmod 8 = way % 8 := Int.tmod_eq_emod_of_nonneg (by omega)
  obtain ⟨wy, hwy⟩ : ∃ wy, way % 8 = wy := ⟨_, rfl⟩
  rw [hwy] at e8
  obtain ⟨mr, mi, ma, mb⟩ := m
  simp only [Mt.v, Mt.c, Sm.cells, Rs.v] at *
  refine IWp.seqI ?_
  simp [go_sem]
  refine cmk.callF (by simp [go_sem]) ?_
  rintro _ rfl
  simp [go_sem]
  refine IWp.seqT (α := Rs × Int) (fun p => (⟨false, 261, 38, [39, 42, 77, 78, 79, 80, 84, 110, 114, 127, 138, 139, 146, 158, 164, 170, 174, 181, 185], glT, [(3, .int .u8 at'), (24, .int .i64 (n : Int)), (25, .fz 6 (rss out)), (31, .ptr 2 1 0 0), (32, .int .i64 p.2)], []⟩, [.dead, .dead, .rows 6 [[.int .i64 p.1.r, .int .i64 p.1.i, .int .i64 p.1.a, .int .i64 p.1.b, .int .i64 p.1.f.num, .int .i64 p.1.f.den]]])) (fun p => WrX n out p.1 p.2 ∧ FitR p.1) ?_ ?_
  · have w4 : IntKind.i64.wrap at' = at' := wrap64 (by omega) (by omega)
    have hm0 : ∀ q : Int, (rnd n : Int) ≤ q → matN (rnd n) q = 0 := fun q hq => by unfold matN; rw [if_neg (by omega)]
    have hw1 : withinB ⟨2, 4⟩ (-100000) 100000 = false := by decide +kernel
    have hw2 : withinB ⟨100001 + at', 1⟩ (-100000) 100000 = false := by
      unfold withinB
      have : decide (100001 + at' ≤ 100000 * 1) = false := by simp; omega
      rw [this, Bool.and_false]
    have hw3 : withinB ⟨0, 1⟩ (-100000) 100000 = true := by decide +kernel
    have hff : FitF ⟨0, 1⟩ := by decide
    have hf24 : FitF ⟨2, 4⟩ := by decide
    rcases (by omega : wy = 0 ∨ wy = 1 ∨ wy = 2 ∨ wy = 3 ∨ wy = 4 ∨ wy = 5 ∨ wy = 6 ∨ wy = 7) with rfl | rfl | rfl | rfl | rfl | rfl | rfl | rfl
    · have v1 : IntKind.i64.wrap ((rnd n : Int) + at') = (rnd n : Int) + at' := wrap64 (by omega) (by omega)
      simp [go_sem, e8, w4, v1]
      refine ⟨⟨(rnd n : Int) + at', mi, 3, 0, ⟨0, 1⟩⟩, 381, ⟨rfl, rfl, rfl, rfl, rfl, rfl, rfl⟩, .inl ⟨?_, rfl⟩, ?_⟩
      · unfold badX; rw [hm0 _ (by simp only; omega)]; simp only; omega
      · refine ⟨?_, ?_, ?_, ?_, hff⟩ <;> simp only <;> omega
    · obtain ⟨e, he⟩ : ∃ e : Nat, rnd n - 1 - mr.toNat = e := ⟨_, rfl⟩
      have v1 : IntKind.i64.wrap ((rnd n : Int) - 1) = ((rnd n - 1 : Nat) : Int) := by rw [wrap64 (by omega) (by omega)]; omega
      have v2 : IntKind.i64.wrap (((rnd n - 1 : Nat) : Int) - mr) = (e : Int) := by rw [wrap64 (by omega) (by omega)]; omega
      have x1 := pow6 (show e ≤ 6 by omega)
      have hE := Nat.pow_le_pow_right (show 0 < 2 by decide) (show e ≤ 6 by omega)
      have hmt : matN (rnd n) mr = 2 ^ e := by unfold matN; rw [if_pos (by omega), he]
      obtain ⟨P2, hP2⟩ : ∃ P2, 2 ^ e = P2 := ⟨_, rfl⟩
      obtain ⟨R1, hR1⟩ : ∃ R1, rnd n - 1 = R1 := ⟨_, rfl⟩
      rw [hP2] at x1 hE hmt
      rw [hR1] at v1 v2
      have v3 : IntKind.i64.wrap ((P2 : Int) + at') = (P2 : Int) + at' := wrap64 (by omega) (by omega)
      simp [go_sem, e8, w4, v1, v2, x1, v3]
      refine ⟨⟨mr, (P2 : Int) + at', 3, 0, ⟨0, 1⟩⟩, 381, ⟨rfl, rfl, rfl, rfl, rfl, rfl, rfl⟩, .inl ⟨?_, rfl⟩, ?_⟩
      · unfold badX; rw [hmt]; simp only; omega
      · refine ⟨?_, ?_, ?_, ?_, hff⟩ <;> simp only <;> omega
    · have v1 : IntKind.i64.wrap (100001 + at') = 100001 + at' := wrap64 (by omega) (by omega)
      simp [go_sem, e8, w4, v1]
      refine ⟨⟨mr, mi, 100001 + at', 0, ⟨0, 1⟩⟩, 381, ⟨rfl, rfl, rfl, rfl, rfl, rfl, rfl⟩, .inl ⟨?_, rfl⟩, ?_⟩
      · unfold badX; simp only; omega
      · refine ⟨?_, ?_, ?_, ?_, hff⟩ <;> simp only <;> omega
    · have v1 : IntKind.i64.wrap (-1 - at') = -1 - at' := wrap64 (by omega) (by omega)
      simp [go_sem, e8, w4, v1]
      refine ⟨⟨mr, mi, 3, -1 - at', ⟨0, 1⟩⟩, 381, ⟨rfl, rfl, rfl, rfl, rfl, rfl, rfl⟩, .inl ⟨?_, rfl⟩, ?_⟩
      · unfold badX; simp only; omega
      · refine ⟨?_, ?_, ?_, ?_, hff⟩ <;> simp only <;> omega
    · simp [go_sem, e8, w4]
      refine ⟨⟨mr, mi, 3, 0, ⟨2, 4⟩⟩, 381, ⟨rfl, rfl, rfl, rfl, rfl, rfl, rfl⟩, .inl ⟨?_, rfl⟩, ?_⟩
      · unfold badX; simp only [hw1]; simp
      · refine ⟨?_, ?_, ?_, ?_, hf24⟩ <;> simp only <;> omega
    · have v1 : IntKind.i64.wrap (100001 + at') = 100001 + at' := wrap64 (by omega) (by omega)
      simp [go_sem, e8, w4, v1]
      refine ⟨⟨mr, mi, 3, 0, ⟨100001 + at', 1⟩⟩, 381, ⟨rfl, rfl, rfl, rfl, rfl, rfl, rfl⟩, .inl ⟨?_, rfl⟩, ?_⟩
      · unfold badX; simp only [hw2]; simp
      · refine ⟨?_, ?_, ?_, ?_, ?_, ?_⟩ <;> simp only <;> omega
    · by_cases ho : out = []
      · subst ho
        simp [go_sem, e8]
        exact hR _ _ _ rfl (by simp [go_sem])
      · have hl0 : 0 < out.length := List.length_pos_iff.2 ho
        have hl1 : ¬ (out.length : Int) = 0 := by omega
        have hlt := Nat.mod_lt at'.toNat hl0
        have w5 : at'.tmod out.length = ((at'.toNat % out.length : Nat) : Int) := by
          rw [Int.tmod_eq_emod_of_nonneg (by omega), Int.natCast_emod, show ((at'.toNat : Nat) : Int) = at' by omega]
        obtain ⟨J, hJ⟩ : ∃ J, at'.toNat % out.length = J := ⟨_, rfl⟩
        simp only [hJ] at hlt w5
        have hJf := hf out[J] (List.getElem_mem hlt)
        obtain ⟨y, hy⟩ : ∃ y, out[J] = y := ⟨_, rfl⟩
        rw [hy] at hJf
        have hW : WrX n out y 382 := .inr (.inl ⟨J, hlt, hy.symm, rfl⟩)
        obtain ⟨yr, yi, ya, yb, ⟨yn, yd⟩⟩ := y
        simp [go_sem, e8, w4, w5, ho, hl0, hl1, hlt, hy]
        exact ⟨⟨yr, yi, ya, yb, ⟨yn, yd⟩⟩, 382, ⟨rfl, rfl, rfl, rfl, rfl, rfl, rfl⟩, hW, hJf⟩
    · have v1 : IntKind.i64.wrap ((rnd n : Int) - 1) = (rnd n : Int) - 1 := wrap64 (by omega) (by omega)
      by_cases hr1 : rnd n = 1
      · have hr1' : (rnd n : Int) = 1 := by omega
        simp [go_sem, e8, v1, hr1, hr1']
        exact hR _ _ _ rfl (by simp [go_sem])
      · have hr1' : ¬ (rnd n : Int) = 1 := by omega
        by_cases ho : (opens n out).length ≤ 1
        · have ho' : ((opens n out).length : Int) ≤ 1 := by omega
          simp [go_sem, e8, v1, hr1, hr1', ho, ho']
          exact hR _ _ _ rfl (by simp [go_sem])
        · have ho' : ¬ ((opens n out).length : Int) ≤ 1 := by omega
          simp [go_sem, e8, v1, hr1, hr1', ho, ho']
          refine ⟨⟨(rnd n : Int) - 1, 0, 3, 0, ⟨0, 1⟩⟩, 383, ⟨rfl, rfl, rfl, rfl, rfl, rfl, rfl⟩, .inr (.inr ⟨?_, by omega, rfl, rfl, by omega, rfl⟩), ?_⟩
          · have hmt : matN (rnd n) ((rnd n : Int) - 1) = 1 := by
              unfold matN
              rw [if_pos (by omega), show rnd n - 1 - ((rnd n : Int) - 1).toNat = 0 by omega]
            unfold badX
            simp only [hmt, hw3]
            simp
          · refine ⟨?_, ?_, ?_, ?_, hff⟩ <;> simp only <;> omega
  rintro ⟨x, want⟩ ⟨hW, hXf⟩
  simp only at hW hXf
  clear cmk hmb e8 hwy hw hLl
  have hA := ordN_ok
  have w4 : IntKind.i64.wrap at' = at' := wrap64 (by omega) (by omega)
  have v1 : IntKind.i64.wrap ((out.length : Int) + 1) = ((out.length + 1 : Nat) : Int) := by rw [wrap64 (by omega) (by omega)]; omega
  have w5 : at'.tmod ((out.length + 1 : Nat) : Int) = ((at'.toNat % (out.length + 1) : Nat) : Int) := by
    rw [Int.tmod_eq_emod_of_nonneg (by omega), Int.natCast_emod, show ((at'.toNat : Nat) : Int) = at' by omega]
  have hlt := Nat.mod_lt at'.toNat (show 0 < out.length + 1 by omega)
  obtain ⟨J, hJ⟩ : ∃ J, at'.toNat % (out.length + 1) = J := ⟨_, rfl⟩
  simp only [hJ] at hlt w5
  have hJl : J ≤ out.length := by omega
  obtain ⟨L1, hL1⟩ : ∃ L1, out.length + 1 = L1 := ⟨_, rfl⟩
  rw [hL1] at v1 w5
  have hL0 : ¬ (L1 : Int) = 0 := by omega
  have hbl := insB_len out J x
  have hbf : ∀ y ∈ insB out J x, FitR y := fun y hy => by
    rcases List.mem_cons.1 ((insB_perm out J x).mem_iff.1 hy) with rfl | hy
    · exact hXf
    · exact hf y hy
  obtain ⟨i, hi1, hi2, hi3, hwt, hik⟩ := hW.found h1 h2 hG hJl (hA (insB out J x))
  have hne0 : (plR (rnd n) (seedsL n) (insB out J x) (ordN (insB out J x)) (beg n)).2.1 ≠ 0 := by rw [hi3]; omega
  have ck := check_fun n h1 h2 (insB out J x) (by omega) hbf _ (hA _)
  have co := open_fun n h1 h2 (insB out J x) (by omega) hbf _ (hA _)
  have cp := places_fun n h1 h2 (insB out J x) (by omega) hbf _ (hA _) (fun h => absurd h hne0)
  rw [if_neg hne0] at co cp
  rw [hi2, hi3] at ck
  have ht1 : List.take J (rss out) = rss (out.take J) := by simp [rss, mp, List.map_take]
  have ht2 : List.drop J (rss out) = rss (out.drop J) := by simp [rss, mp, List.map_drop]
  have cc := cloneRes_fun (out.take J) (by simp; omega)
  obtain ⟨hil, hie⟩ := List.getElem?_eq_some_iff.1 hi1
  clear hne0 hi2 hi3 hW hA
  have hrb : rss (insB out J x) = rss (out.take J) ++ [.int .i64 x.r, .int .i64 x.i, .int .i64 x.a, .int .i64 x.b, .int .i64 x.f.num, .int .i64 x.f.den] :: rss (out.drop J) := by simp [insB, rss, mp, Rs.c]
  obtain ⟨xr, xi, xa, xb, ⟨xn, xd⟩⟩ := x
  simp only at *
  refine IWp.seqI ?_
  simp [go_sem, w4, v1, w5, hL0]
  refine ⟨by omega, ?_⟩
  refine IWp.seqI ?_
  refine Drawn.intro (fun k => if k = 3 then .tup [.junk, .fz 6 (rss (out.take J))] else .tup []) ?_
  simp [go_sem, hJl, ht1, ht2]
  have ht3 : List.drop J (List.take out.length (rss out)) = rss (out.drop J) := by rw [List.take_of_length_le (by simp), ht2]
  rw [ht3]
  refine ⟨cc, by omega, ⟨by omega, rss_one⟩, by decide +kernel, ?_⟩
  rw [← hrb, show J + 1 + (out.length - J) = (insB out J ⟨xr, xi, xa, xb, ⟨xn, xd⟩⟩).length by omega]
  clear hbf hrb ht1 ht2 ht3 cc
  generalize insB out J ⟨xr, xi, xa, xb, ⟨xn, xd⟩⟩ = B at *
  refine IWp.seqI ?_
  simp [go_sem]
  refine ck.callF (by simp [go_sem]) ?_
  rintro _ rfl
  simp [go_sem]
  refine IWp.seqI ?_
  simp [go_sem]
  refine co.callF (by simp [go_sem]) ?_
  rintro _ rfl
  simp [go_sem]
  refine IWp.seqI ?_
  simp [go_sem]
  refine cp.callF (by simp [go_sem]) ?_
  rintro _ rfl
  simp [go_sem]
  have e1 : (rss B)[i]?.getD [] = [.int .i64 xr, .int .i64 xi, .int .i64 xa, .int .i64 xb, .int .i64 xn, .int .i64 xd] := by
    rw [List.getElem?_eq_getElem (by simpa using hil), Option.getD_some, rss_getElem, hie]
  refine IWp.now ?_
  by_cases hiJ : i = J
  · subst hiJ
    rcases hwt with rfl | rfl | rfl
    · simp [go_sem, hil, hie, e1]
      exact ⟨by decide +kernel, hR _ _ _ rfl (by simp [go_sem])⟩
    · simp [go_sem, hil, hie, e1]
      exact ⟨by decide +kernel, hR _ _ _ rfl (by simp [go_sem])⟩
    · simp [go_sem, hil, hie, e1]
      exact ⟨by decide +kernel, hR _ _ _ rfl (by simp [go_sem])⟩
  · have hw2 : want = 382 := by rcases hik with h | h; exact absurd h hiJ; exact h
    have hiJ' : ¬ (i : Int) = J := by omega
    subst hw2
    simp [go_sem, hiJ, hiJ', hil, hie]
    exact ⟨by decide +kernel, hR _ _ _ rfl (by simp [go_sem])⟩
theorem knockWrong_law (t : Int) (xs : List Sm) (way at' z : Int) (h0 : (Lit.int .u8 t).wf = true) (h1 : ∀ x ∈ xs, FitS x) (h2 : xs.length ≤ maxLen) (h3 : (Lit.int .u8 way).wf = true) (h4 : (Lit.int .u8 at').wf = true) (h5 : (Lit.int .i64 z).wf = true) :
    FN 7 [.int .u8 t, .fz 4 (sms xs), .int .u8 way, .int .u8 at', .int .i64 z] (fun v => v = .bool true) :=
  knockWrong_fun t (wf8 h0) xs h1 (by unfold maxLen at h2; omega) way at' z (wf8 h3) (wf8 h4) (wf64 h5)
end Go.Idl
