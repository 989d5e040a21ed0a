/-
  Chapter 38: there is an order (plain).
  Chapter 38: one result more (plain).
  Chapter 38: the matches that can be played (plain).
  Chapter 38: where a team comes from (plain).
  Chapter 38: good results: Open, Winner.
-/
import Derived.Test.YtnnpdhccblelgaaDoorC38PartZD
namespace Go.Idl
set_option linter.all false
open Go.Proofs
set_option maxHeartbeats 8000000
set_option maxRecDepth 40000

instance (K1 K2 : Nat → Int) (a b : Nat) : Decidable (lx K1 K2 a b) := by unfold lx; infer_instance
/-- The order in which results are looked at. -/
def ordN (l : List Rs) : List Nat := (idL l.length).mergeSort (fun a b => decide (¬ lx (rK l) (iK l) b a))
theorem ordN_ok (l : List Rs) : OrdOf l (ordN l) := by
  refine ⟨List.mergeSort_perm _ _, ?_⟩
  have h1 := List.pairwise_mergeSort (le := fun a b => decide (¬ lx (rK l) (iK l) b a)) (fun a b c h1 h2 => by
    simp only [decide_eq_true_eq] at *
    intro h
    unfold lx at *
    omega) (fun a b => by
    simp only [Bool.or_eq_true, decide_eq_true_eq]
    by_cases h : lx (rK l) (iK l) b a
    · right; intro h'; exact lx_irr (lx_trans h h')
    · exact .inl h) (idL l.length)
  have h2 : ((idL l.length).mergeSort (fun a b => decide (¬ lx (rK l) (iK l) b a))).Nodup := (List.mergeSort_perm _ _).nodup_iff.2 List.nodup_range
  refine (h1.and h2).imp fun ⟨h3, h4⟩ => ?_
  simp only [decide_eq_true_eq] at h3
  exact lx_total (fun e => h4 e.symm) h3
theorem ord_ex (l : List Rs) : ∃ A, OrdOf l A := ⟨_, ordN_ok l⟩
end Go.Idl
namespace Go.Idl
set_option linter.all false
open Go.Proofs
set_option maxHeartbeats 8000000
set_option maxRecDepth 40000

theorem doneB.more {S : List Int} {l l' : List Rs} {q i : Nat} (h : doneB S l q i) (hl : ∀ x ∈ l, x ∈ l') : doneB S l' q i := by
  rcases h with h | ⟨x, hx, hk⟩
  · exact .inl h
  · exact .inr ⟨x, hl x hx, hk⟩
theorem GoodL.snoc {r : Nat} {S : List Int} {l : List Rs} (h : GoodL r S l) {x : Rs} {q i : Nat} (hk : isM q i x = true) (hb : ¬ badX r x) (hn : ¬ doneB S l q i) (hc : 0 < q → doneB S l (q - 1) (2 * i) ∧ doneB S l (q - 1) (2 * i + 1)) : GoodL r S (l ++ [x]) := by
  obtain ⟨k1, k2⟩ := isM_key.1 hk
  have mono : ∀ {q i}, doneB S l q i → doneB S (l ++ [x]) q i := fun hd => hd.more fun y hy => by simp [hy]
  refine ⟨fun y hy => ?_, ?_, fun y hy h0 => ?_, fun y hy h0 => ?_⟩
  · rcases List.mem_append.1 hy with hy | hy
    · exact h.right y hy
    · rw [List.mem_singleton.1 hy]; exact hb
  · refine List.pairwise_append.2 ⟨h.dist, by simp, fun y hy z hz hh => ?_⟩
    rw [List.mem_singleton.1 hz] at hh
    exact hn (.inr ⟨y, hy, isM_key.2 ⟨hh.1.trans k1, hh.2.trans k2⟩⟩)
  · rcases List.mem_append.1 hy with hy | hy
    · exact h.first y hy h0
    · rw [List.mem_singleton.1 hy] at h0 ⊢
      intro hS
      exact hn (.inl ⟨by omega, by rw [show i = x.i.toNat by omega]; exact hS⟩)
  · rcases List.mem_append.1 hy with hy | hy
    · obtain ⟨d1, d2⟩ := h.later y hy h0
      exact ⟨mono d1, mono d2⟩
    · rw [List.mem_singleton.1 hy] at h0 ⊢
      obtain ⟨d1, d2⟩ := hc (by omega)
      rw [show x.r.toNat - 1 = q - 1 by omega, show x.i.toNat = i by omega]
      exact ⟨mono d1, mono d2⟩
theorem GoodL.nil {r : Nat} {S : List Int} : GoodL r S [] := ⟨fun _ h => (by cases h), .nil, fun _ h => (by cases h), fun _ h => (by cases h)⟩
theorem GoodL.perm {r : Nat} {S : List Int} {l l' : List Rs} (h : GoodL r S l) (hp : l'.Perm l) : GoodL r S l' :=
  ⟨fun x hx => h.right x (hp.mem_iff.1 hx), (hp.pairwise_iff (fun hab hba => hab ⟨hba.1.symm, hba.2.symm⟩)).2 h.dist, fun x hx h0 => h.first x (hp.mem_iff.1 hx) h0, fun x hx h0 => by
    obtain ⟨d1, d2⟩ := h.later x (hp.mem_iff.1 hx) h0
    exact ⟨d1.more fun y hy => hp.mem_iff.2 hy, d2.more fun y hy => hp.mem_iff.2 hy⟩⟩
/-- The results of the first rounds alone. -/
theorem GoodL.early {r : Nat} {S : List Int} {l : List Rs} (h : GoodL r S l) (k : Int) : GoodL r S (l.filter fun x => decide (x.r < k)) := by
  have hd : ∀ {q i : Nat}, (q : Int) < k → doneB S l q i → doneB S (l.filter fun x => decide (x.r < k)) q i := fun hq hd => by
    rcases hd with hd | ⟨y, hy, hk⟩
    · exact .inl hd
    · have := (isM_key.1 hk).1
      exact .inr ⟨y, List.mem_filter.2 ⟨hy, by simp; omega⟩, hk⟩
  refine ⟨fun x hx => h.right x (List.mem_filter.1 hx).1, h.dist.sublist List.filter_sublist, fun x hx h0 => h.first x (List.mem_filter.1 hx).1 h0, fun x hx h0 => ?_⟩
  obtain ⟨hx1, hx2⟩ := List.mem_filter.1 hx
  simp only [decide_eq_true_eq] at hx2
  obtain ⟨d1, d2⟩ := h.later x hx1 h0
  exact ⟨hd (by omega) d1, hd (by omega) d2⟩
end Go.Idl
namespace Go.Idl
set_option linter.all false
open Go.Proofs
set_option maxHeartbeats 8000000
set_option maxRecDepth 40000

theorem doneD_iff {r : Nat} {S : List Int} {l : List Rs} {A : List Nat} (hO : OrdOf l A) {q i : Nat} (hi : q = 0 → i < 2 ^ (r - 1)) : doneD r S l A q i ↔ doneB S l q i := by
  refine ⟨fun h => ?_, fun h => ?_⟩
  · rcases h with ⟨h1, _, h3⟩ | ⟨j, _, x, hx, hk⟩
    · exact .inl ⟨h1, h3⟩
    · obtain ⟨hj, rfl⟩ := List.getElem?_eq_some_iff.1 hx
      exact .inr ⟨_, List.getElem_mem hj, hk⟩
  · rcases h with ⟨h1, h3⟩ | ⟨x, hx, hk⟩
    · exact .inl ⟨h1, hi h1, h3⟩
    · obtain ⟨j, hj, rfl⟩ := List.getElem_of_mem hx
      exact .inr ⟨j, hO.1.mem_iff.2 (by simp [idL, hj]), _, List.getElem?_eq_getElem hj, hk⟩
/-- A match that can be played. -/
theorem open_spec {r : Nat} {S : List Int} {l : List Rs} {A : List Nat} {W : Won} (hG : GoodL r S l) (hS : ∀ i, i < 2 ^ (r - 1) → S.getD (2 * i) 0 ≠ 0) (hO : OrdOf l A) (h : InvD r S l A W) {q i : Nat} (hi : (i + 1) * 2 ^ q ≤ 2 ^ (r - 1)) {m : Mt} (hm : opM S W q i = some m) :
    m.r = q ∧ m.i = i ∧ ¬ doneB S l q i ∧ (0 < q → doneB S l (q - 1) (2 * i) ∧ doneB S l (q - 1) (2 * i + 1)) := by
  unfold opM at hm
  split at hm
  · rename_i hc
    obtain ⟨c1, c2⟩ := hc
    obtain rfl := Option.some.inj hm
    have hi0 : q = 0 → i < 2 ^ (r - 1) := fun e => by subst e; omega
    refine ⟨rfl, rfl, fun hd => ?_, fun hq => ?_⟩
    · obtain ⟨u, hu, _⟩ := hG.val_some hS q i hi hd
      rw [h.yes q i ((doneD_iff hO hi0).2 hd), hu] at c2
      cases c2
    · obtain ⟨k, rfl⟩ : ∃ k, q = k + 1 := ⟨q - 1, by omega⟩
      have hs2 : 2 ^ (k + 1) = 2 * 2 ^ k := Nat.pow_succ'
      have e : (i + 1) * 2 ^ (k + 1) = (2 * (i + 1)) * 2 ^ k := by rw [hs2, Nat.mul_comm 2 (i + 1), Nat.mul_assoc]
      rw [e] at hi
      have b2 : (2 * i + 1 + 1) * 2 ^ k ≤ 2 ^ (r - 1) := Nat.le_trans (Nat.mul_le_mul_right _ (by omega)) hi
      unfold sidW at c1
      have e1 : (((k + 1 : Nat) : Int) - 1, 2 * (i : Int)) = ((k : Int), ((2 * i : Nat) : Int)) := by
        rw [show ((k + 1 : Nat) : Int) - 1 = k by omega, show 2 * (i : Int) = ((2 * i : Nat) : Int) by omega]
      have e2 : (((k + 1 : Nat) : Int) - 1, 2 * (i : Int) + 1) = ((k : Int), ((2 * i + 1 : Nat) : Int)) := by
        rw [show ((k + 1 : Nat) : Int) - 1 = k by omega, show 2 * (i : Int) + 1 = ((2 * i + 1 : Nat) : Int) by omega]
      rw [if_neg (by omega), e1, e2] at c1
      simp only [Bool.and_eq_true] at c1
      have hd : ∀ c : Nat, (k = 0 → c < 2 ^ (r - 1)) → (aget ((k : Int), (c : Int)) W).isSome = true → doneB S l k c := fun c hc hs => by
        refine (doneD_iff hO hc).1 (Classical.byContradiction fun hn => ?_)
        rw [h.no k c hn] at hs
        cases hs
      rw [Nat.add_sub_cancel]
      exact ⟨hd _ (fun e => by subst e; omega) c1.1, hd _ (fun e => by subst e; omega) c1.2⟩
  · cases hm
end Go.Idl
namespace Go.Idl
set_option linter.all false
open Go.Proofs
set_option maxHeartbeats 8000000
set_option maxRecDepth 40000

/-- The team t, of the place p, has come to round q. -/
def Came (S : List Int) (l : List Rs) (q p : Nat) (t : Int) : Prop := S.getD p 0 = t ∧ ∀ q', q' < q → ∃ v, val S l q' (p / 2 ^ (q' + 1)) = some v ∧ v.1 = t
theorem Came.next {S : List Int} {l : List Rs} {q p : Nat} {t : Int} (h : Came S l q p t) {v : Int × Int} (hv : val S l q (p / 2 ^ (q + 1)) = some v) (ht : v.1 = t) : Came S l (q + 1) p t :=
  ⟨h.1, fun q' hq => by
    by_cases e : q' = q
    · subst e; exact ⟨v, hv, ht⟩
    · exact h.2 q' (by omega)⟩
theorem resW_cases (x : Rs) (a b : Int) : resW x a b = (a, b) ∨ resW x a b = (b, a) := by
  unfold resW
  split
  · exact .inr rfl
  · exact .inl rfl
theorem div_two {p q i : Nat} (h : p / 2 ^ (q + 1) = i) : p / 2 ^ (q + 1 + 1) = i / 2 := by rw [Nat.pow_succ 2 (q + 1), ← Nat.div_div_eq_div_mul, h]
theorem val_came {S : List Int} {l : List Rs} : ∀ (q i : Nat) (u : Int × Int), val S l q i = some u → (∃ p, Came S l q p u.1 ∧ p / 2 ^ (q + 1) = i) ∧ (u.2 ≠ 0 → ∃ p, Came S l q p u.2 ∧ p / 2 ^ (q + 1) = i)
  | 0, i, u, h => by
    have e1 : 2 * i / 2 ^ (0 + 1) = i := by simp
    have e2 : (2 * i + 1) / 2 ^ (0 + 1) = i := by simp; omega
    have c1 : Came S l 0 (2 * i) (S.getD (2 * i) 0) := ⟨rfl, fun _ h => absurd h (by omega)⟩
    have c2 : Came S l 0 (2 * i + 1) (S.getD (2 * i + 1) 0) := ⟨rfl, fun _ h => absurd h (by omega)⟩
    unfold val at h
    split at h
    · obtain rfl := Option.some.inj h
      exact ⟨⟨_, c1, e1⟩, fun h => absurd rfl h⟩
    · obtain ⟨x, _, rfl⟩ := Option.map_eq_some_iff.1 h
      rcases resW_cases x (S.getD (2 * i) 0) (S.getD (2 * i + 1) 0) with e | e <;> rw [e]
      · exact ⟨⟨_, c1, e1⟩, fun _ => ⟨_, c2, e2⟩⟩
      · exact ⟨⟨_, c2, e2⟩, fun _ => ⟨_, c1, e1⟩⟩
  | q + 1, i, u, h => by
    unfold val at h
    split at h
    · rename_i x v w hx hv hw
      obtain rfl := Option.some.inj h
      obtain ⟨⟨p1, c1, d1⟩, _⟩ := val_came q (2 * i) v hv
      obtain ⟨⟨p2, c2, d2⟩, _⟩ := val_came q (2 * i + 1) w hw
      have n1 := c1.next (by rw [d1]; exact hv) rfl
      have n2 := c2.next (by rw [d2]; exact hw) rfl
      have e1 : p1 / 2 ^ (q + 1 + 1) = i := by rw [div_two d1]; omega
      have e2 : p2 / 2 ^ (q + 1 + 1) = i := by rw [div_two d2]; omega
      rcases resW_cases x v.1 w.1 with e | e <;> rw [e]
      · exact ⟨⟨_, n1, e1⟩, fun _ => ⟨_, n2, e2⟩⟩
      · exact ⟨⟨_, n2, e2⟩, fun _ => ⟨_, n1, e1⟩⟩
    · cases h
/-- Each team has one place. -/
def Uniq (S : List Int) : Prop := ∀ p p', S.getD p 0 = S.getD p' 0 → S.getD p 0 ≠ 0 → p = p'
theorem val_ne {S : List Int} {l : List Rs} (hU : Uniq S) : ∀ (q i : Nat) (u : Int × Int), val S l q i = some u → u.2 ≠ 0 → u.1 ≠ u.2
  | 0, i, u, h, h0 => by
    unfold val at h
    split at h
    · obtain rfl := Option.some.inj h
      exact absurd rfl h0
    · obtain ⟨x, _, rfl⟩ := Option.map_eq_some_iff.1 h
      intro e
      rcases resW_cases x (S.getD (2 * i) 0) (S.getD (2 * i + 1) 0) with c | c <;> rw [c] at e h0
      · have e' : S.getD (2 * i) 0 = S.getD (2 * i + 1) 0 := e
        have := hU _ _ e' (by rw [e']; exact h0)
        omega
      · have e' : S.getD (2 * i + 1) 0 = S.getD (2 * i) 0 := e
        have := hU _ _ e' (by rw [e']; exact h0)
        omega
  | q + 1, i, u, h, h0 => by
    unfold val at h
    split at h
    · rename_i x v w hx hv hw
      obtain rfl := Option.some.inj h
      obtain ⟨⟨p1, c1, d1⟩, _⟩ := val_came q (2 * i) v hv
      obtain ⟨⟨p2, c2, d2⟩, _⟩ := val_came q (2 * i + 1) w hw
      intro e
      have hne : v.1 = w.1 → v.1 ≠ 0 → False := fun e1 e2 => by
        have := hU p1 p2 (by rw [c1.1, c2.1]; exact e1) (by rw [c1.1]; exact e2)
        subst this
        omega
      rcases resW_cases x v.1 w.1 with c | c <;> rw [c] at e h0
      · exact hne e (by have : v.1 = w.1 := e; rw [this]; exact h0)
      · exact hne e.symm h0
    · cases h
/-- Who has lost has lost once. -/
theorem lost_once {S : List Int} {l : List Rs} (hU : Uniq S) {q i q' i' : Nat} {u u' : Int × Int} (h : val S l q i = some u) (h' : val S l q' i' = some u') (h0 : u.2 ≠ 0) (e : u.2 = u'.2) : q = q' ∧ i = i' := by
  have key : ∀ {q i q' i' : Nat} {u u' : Int × Int}, val S l q i = some u → val S l q' i' = some u' → u.2 ≠ 0 → u.2 = u'.2 → ¬ q < q' := fun {q i q' i' u u'} h h' h0 e hlt => by
    obtain ⟨p, c, d⟩ := (val_came q i u h).2 h0
    obtain ⟨p', c', d'⟩ := (val_came q' i' u' h').2 (by rw [← e]; exact h0)
    have := hU p p' (by rw [c.1, c'.1]; exact e) (by rw [c.1]; exact h0)
    subst this
    obtain ⟨v, hv, hv1⟩ := c'.2 q hlt
    rw [d, h] at hv
    obtain rfl := Option.some.inj hv
    exact val_ne hU q i u h h0 (by rw [hv1, e])
  have hq : q = q' := by
    rcases Nat.lt_trichotomy q q' with hlt | he | hgt
    · exact absurd hlt (key h h' h0 e)
    · exact he
    · exact absurd hgt (key h' h (by rw [← e]; exact h0) e.symm)
  subst hq
  obtain ⟨p, c, d⟩ := (val_came q i u h).2 h0
  obtain ⟨p', c', d'⟩ := (val_came q i' u' h').2 (by rw [← e]; exact h0)
  have := hU p p' (by rw [c.1, c'.1]; exact e) (by rw [c.1]; exact h0)
  subst this
  exact ⟨rfl, d.symm.trans d'⟩
theorem ordL_nd : ∀ k, k ≤ 6 → (ordL k).Nodup := by decide +kernel
theorem uniq38 {n : Nat} (h1 : 2 ≤ n) : Uniq (seedsL n) := fun p p' e h0 => by
  have hp : p < (seedsL n).length := Classical.byContradiction fun h => h0 (by simp [List.getElem?_eq_none (show (seedsL n).length ≤ p by omega)])
  have hp' : p' < (seedsL n).length := Classical.byContradiction fun h => h0 (by rw [e]; simp [List.getElem?_eq_none (show (seedsL n).length ≤ p' by omega)])
  rw [show (seedsL n).getD p 0 = (seedsL n)[p] by simp [hp]] at e h0
  rw [show (seedsL n).getD p' 0 = (seedsL n)[p'] by simp [hp']] at e
  unfold seedsL at e h0 hp hp'
  simp only [List.getElem_map] at e h0
  have hq : p < (ordL (rnd n)).length := by simpa using hp
  have hq' : p' < (ordL (rnd n)).length := by simpa using hp'
  split at h0
  · exact absurd rfl h0
  · rename_i hc
    rw [if_neg hc] at e
    split at e
    · exact absurd e h0
    · have hn := List.pairwise_iff_getElem.1 (ordL_nd _ (rnd_bd h1).2)
      rcases Nat.lt_trichotomy p p' with hlt | he | hgt
      · exact absurd e (hn p p' hq hq' hlt)
      · exact he
      · exact absurd e.symm (hn p' p hq' hq hgt)
theorem firsts38 : ∀ n, n < 65 → 2 ≤ n → ∀ i, i < 2 ^ (rnd n - 1) → (seedsL n).getD (2 * i) 0 ≠ 0 := by decide +kernel
end Go.Idl
namespace Go.Idl
set_option linter.all false
open Go.Proofs
set_option maxHeartbeats 8000000
set_option maxRecDepth 40000

abbrev Good (n : Nat) (l : List Rs) : Prop := GoodL (rnd n) (seedsL n) l
/-- Who has won and lost, by good results. -/
def stW (n : Nat) (l : List Rs) : Won := (plR (rnd n) (seedsL n) l (ordN l) (beg n)).2.2
theorem good_state {n : Nat} (h1 : 2 ≤ n) (h2 : n ≤ 64) {l : List Rs} (hG : Good n l) : (plR (rnd n) (seedsL n) l (ordN l) (beg n)).2.1 = 0 ∧ InvD (rnd n) (seedsL n) l (ordN l) (stW n l) := by
  have := plR_good (rnd_bd h1) hG (firsts38 n (by omega) h1) (ordN l) [] (beg n) (by simpa using ordN_ok l) InvD.start
  simpa [stW] using this
/-- The matches that can be played. -/
def opens (n : Nat) (l : List Rs) : List Mt := opL (rnd n) (seedsL n) (stW n l) (rnd n)
theorem open_good {n : Nat} (h1 : 2 ≤ n) (h2 : n ≤ 64) {l : List Rs} (hG : Good n l) (hl : l.length ≤ 1000) (hf : ∀ x ∈ l, FitR x) :
    FN 23 [.int .i64 (n : Int), .fz 6 (rss l)] (fun v => v = .tup [.fz 4 (mts (opens n l)), .int .i64 0]) := by
  have := open_fun n h1 h2 l hl hf (ordN l) (ordN_ok l)
  rw [if_pos (good_state h1 h2 hG).1] at this
  exact this
end Go.Idl
