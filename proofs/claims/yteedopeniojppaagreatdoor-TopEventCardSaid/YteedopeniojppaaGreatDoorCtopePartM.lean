import Derived.Test.YteedopeniojppaaGreatDoorCtopePartL
set_option linter.all false
set_option maxHeartbeats 16000000
set_option maxRecDepth 40000
namespace Go.Idl.K38
open Go.Proofs
def Came (S : List Int) (l : List Rs) (q p : Nat) (t : Int) : Prop := S.getD p 0 = t ∧ ∀ q', q' < q → ∃ v, val S l q' (p / 2 ^ (q' + 1)) = some v ∧ v.1 = t
theorem Came.next {S : List Int} {l : List Rs} {q p : Nat} {t : Int} (h : Came S l q p t) {v : Int × Int} (hv : val S l q (p / 2 ^ (q + 1)) = some v) (ht : v.1 = t) : Came S l (q + 1) p t :=
 ⟨h.1, fun q' hq => by
  by_cases e : q' = q
  ·subst e; exact ⟨v, hv, ht⟩
  ·exact h.2 q' (by omega)⟩
theorem resW_cases (x : Rs) (a b : Int) : resW x a b = (a, b) ∨ resW x a b = (b, a) := by
 unfold resW
 split
 ·exact .inr rfl
 ·exact .inl rfl
theorem div_two {p q i : Nat} (h : p / 2 ^ (q + 1) = i) : p / 2 ^ (q + 1 + 1) = i / 2 := by rw [Nat.pow_succ 2 (q + 1), ← Nat.div_div_eq_div_mul, h]
theorem val_came {S : List Int} {l : List Rs} : ∀ (q i : Nat) (u : Int × Int), val S l q i = some u → (∃ p, Came S l q p u.1 ∧ p / 2 ^ (q + 1) = i) ∧ (u.2 ≠ 0 → ∃ p, Came S l q p u.2 ∧ p / 2 ^ (q + 1) = i)
 | 0, i, u, h => by
  have e1 : 2 * i / 2 ^ (0 + 1) = i := by simp
  have e2 : (2 * i + 1) / 2 ^ (0 + 1) = i := by simp; omega
  have c1 : Came S l 0 (2 * i) (S.getD (2 * i) 0) := ⟨rfl, fun _ h => absurd h (by omega)⟩
  have c2 : Came S l 0 (2 * i + 1) (S.getD (2 * i + 1) 0) := ⟨rfl, fun _ h => absurd h (by omega)⟩
  unfold val at h
  split at h
  ·obtain rfl := Option.some.inj h
   exact ⟨⟨_, c1, e1⟩, fun h => absurd rfl h⟩
  ·obtain ⟨x, _, rfl⟩ := Option.map_eq_some_iff.1 h
   rcases resW_cases x (S.getD (2 * i) 0) (S.getD (2 * i + 1) 0) with e | e <;> rw [e]
   ·exact ⟨⟨_, c1, e1⟩, fun _ => ⟨_, c2, e2⟩⟩
   ·exact ⟨⟨_, c2, e2⟩, fun _ => ⟨_, c1, e1⟩⟩
 | q + 1, i, u, h => by
  unfold val at h
  split at h
  ·rename_i x v w hx hv hw
   obtain rfl := Option.some.inj h
   obtain ⟨⟨p1, c1, d1⟩, _⟩ := val_came q (2 * i) v hv
   obtain ⟨⟨p2, c2, d2⟩, _⟩ := val_came q (2 * i + 1) w hw
   have n1 := c1.next (by rw [d1]; exact hv) rfl
   have n2 := c2.next (by rw [d2]; exact hw) rfl
   have e1 : p1 / 2 ^ (q + 1 + 1) = i := by rw [div_two d1]; omega
   have e2 : p2 / 2 ^ (q + 1 + 1) = i := by rw [div_two d2]; omega
   rcases resW_cases x v.1 w.1 with e | e <;> rw [e]
   ·exact ⟨⟨_, n1, e1⟩, fun _ => ⟨_, n2, e2⟩⟩
   ·exact ⟨⟨_, n2, e2⟩, fun _ => ⟨_, n1, e1⟩⟩
  ·cases h
def Uniq (S : List Int) : Prop := ∀ p p', S.getD p 0 = S.getD p' 0 → S.getD p 0 ≠ 0 → p = p'
theorem val_ne {S : List Int} {l : List Rs} (hU : Uniq S) : ∀ (q i : Nat) (u : Int × Int), val S l q i = some u → u.2 ≠ 0 → u.1 ≠ u.2
 | 0, i, u, h, h0 => by
  unfold val at h
  split at h
  ·obtain rfl := Option.some.inj h
   exact absurd rfl h0
  ·obtain ⟨x, _, rfl⟩ := Option.map_eq_some_iff.1 h
   intro e
   rcases resW_cases x (S.getD (2 * i) 0) (S.getD (2 * i + 1) 0) with c | c <;> rw [c] at e h0
   ·have e' : S.getD (2 * i) 0 = S.getD (2 * i + 1) 0 := e
    have := hU _ _ e' (by rw [e']; exact h0)
    omega
   ·have e' : S.getD (2 * i + 1) 0 = S.getD (2 * i) 0 := e
    have := hU _ _ e' (by rw [e']; exact h0)
    omega
 | q + 1, i, u, h, h0 => by
  unfold val at h
  split at h
  ·rename_i x v w hx hv hw
   obtain rfl := Option.some.inj h
   obtain ⟨⟨p1, c1, d1⟩, _⟩ := val_came q (2 * i) v hv
   obtain ⟨⟨p2, c2, d2⟩, _⟩ := val_came q (2 * i + 1) w hw
   intro e
   have hne : v.1 = w.1 → v.1 ≠ 0 → False := fun e1 e2 => by
    have := hU p1 p2 (by rw [c1.1, c2.1]; exact e1) (by rw [c1.1]; exact e2)
    subst this
    omega
   rcases resW_cases x v.1 w.1 with c | c <;> rw [c] at e h0
   ·exact hne e (by have : v.1 = w.1 := e; rw [this]; exact h0)
   ·exact hne e.symm h0
  ·cases h
theorem lost_once {S : List Int} {l : List Rs} (hU : Uniq S) {q i q' i' : Nat} {u u' : Int × Int} (h : val S l q i = some u) (h' : val S l q' i' = some u') (h0 : u.2 ≠ 0) (e : u.2 = u'.2) : q = q' ∧ i = i' := by
 have key : ∀ {q i q' i' : Nat} {u u' : Int × Int}, val S l q i = some u → val S l q' i' = some u' → u.2 ≠ 0 → u.2 = u'.2 → ¬ q < q' := fun {q i q' i' u u'} h h' h0 e hlt => by
  obtain ⟨p, c, d⟩ := (val_came q i u h).2 h0
  obtain ⟨p', c', d'⟩ := (val_came q' i' u' h').2 (by rw [← e]; exact h0)
  have := hU p p' (by rw [c.1, c'.1]; exact e) (by rw [c.1]; exact h0)
  subst this
  obtain ⟨v, hv, hv1⟩ := c'.2 q hlt
  rw [d, h] at hv
  obtain rfl := Option.some.inj hv
  exact val_ne hU q i u h h0 (by rw [hv1, e])
 have hq : q = q' := by
  rcases Nat.lt_trichotomy q q' with hlt | he | hgt
  ·exact absurd hlt (key h h' h0 e)
  ·exact he
  ·exact absurd hgt (key h' h (by rw [← e]; exact h0) e.symm)
 subst hq
 obtain ⟨p, c, d⟩ := (val_came q i u h).2 h0
 obtain ⟨p', c', d'⟩ := (val_came q i' u' h').2 (by rw [← e]; exact h0)
 have := hU p p' (by rw [c.1, c'.1]; exact e) (by rw [c.1]; exact h0)
 subst this
 exact ⟨rfl, d.symm.trans d'⟩
theorem ordL_nd : ∀ k, k ≤ 6 → (ordL k).Nodup := by decide +kernel
theorem uniq38 {n : Nat} (h1 : 2 ≤ n) : Uniq (seedsL n) := fun p p' e h0 => by
 have hp : p < (seedsL n).length := Classical.byContradiction fun h => h0 (by simp [List.getElem?_eq_none (show (seedsL n).length ≤ p by omega)])
 have hp' : p' < (seedsL n).length := Classical.byContradiction fun h => h0 (by rw [e]; simp [List.getElem?_eq_none (show (seedsL n).length ≤ p' by omega)])
 rw [show (seedsL n).getD p 0 = (seedsL n)[p] by simp [hp]] at e h0
 rw [show (seedsL n).getD p' 0 = (seedsL n)[p'] by simp [hp']] at e
 unfold seedsL at e h0 hp hp'
 simp only [List.getElem_map] at e h0
 have hq : p < (ordL (rnd n)).length := by simpa using hp
 have hq' : p' < (ordL (rnd n)).length := by simpa using hp'
 split at h0
 ·exact absurd rfl h0
 ·rename_i hc
  rw [if_neg hc] at e
  split at e
  ·exact absurd e h0
  ·have hn := List.pairwise_iff_getElem.1 (ordL_nd _ (rnd_bd h1).2)
   rcases Nat.lt_trichotomy p p' with hlt | he | hgt
   ·exact absurd e (hn p p' hq hq' hlt)
   ·exact he
   ·exact absurd e.symm (hn p' p hq' hq hgt)
theorem firsts38 : ∀ n, n < 65 → 2 ≤ n → ∀ i, i < 2 ^ (rnd n - 1) → (seedsL n).getD (2 * i) 0 ≠ 0 := by decide +kernel
end Go.Idl.K38
namespace Go.Idl.K38
open Go.Proofs
abbrev Good (n : Nat) (l : List Rs) : Prop := GoodL (rnd n) (seedsL n) l
def stW (n : Nat) (l : List Rs) : Won := (plR (rnd n) (seedsL n) l (ordN l) (beg n)).2.2
theorem good_state {n : Nat} (h1 : 2 ≤ n) (h2 : n ≤ 64) {l : List Rs} (hG : Good n l) : (plR (rnd n) (seedsL n) l (ordN l) (beg n)).2.1 = 0 ∧ InvD (rnd n) (seedsL n) l (ordN l) (stW n l) := by
 have := plR_good (rnd_bd h1) hG (firsts38 n (by omega) h1) (ordN l) [] (beg n) (by simpa using ordN_ok l) InvD.start
 simpa [stW] using this
def opens (n : Nat) (l : List Rs) : List Mt := opL (rnd n) (seedsL n) (stW n l) (rnd n)
theorem open_good {n : Nat} (h1 : 2 ≤ n) (h2 : n ≤ 64) {l : List Rs} (hG : Good n l) (hl : l.length ≤ 20) (hf : ∀ x ∈ l, FitR x) :
  FN 17 [.int .i64 (n : Int), .fz 6 (rss l)] (fun v => v = .tup [.fz 4 (mts (opens n l)), .int .i64 0]) := by
 have := open_fun n h1 h2 l hl hf (ordN l) (ordN_ok l)
 rw [if_pos (good_state h1 h2 hG).1] at this
 exact this
end Go.Idl.K38
namespace Go.Idl.K38
open Go.Proofs
instance (f : Frc) : Decidable (FitF f) := by unfold FitF; infer_instance
structure WOK (W : Won) : Prop where
 dist : W.Pairwise fun e e' => e.1 ≠ e'.1
 nat : ∀ e ∈ W, 0 ≤ e.1.1 ∧ 0 ≤ e.1.2
theorem aset_mem {k : Int × Int} {v : Int × Int} : ∀ {W : Won} {e : (Int × Int) × (Int × Int)}, e ∈ aset k v W → e = (k, v) ∨ e ∈ W
 | [], e, h => .inl (by simpa [aset] using h)
 | (k', u) :: W, e, h => by
  unfold aset at h
  split at h
  ·rename_i hk
   subst hk
   rcases List.mem_cons.1 h with h | h
   ·exact .inl h
   ·exact .inr (List.mem_cons_of_mem _ h)
  ·rcases List.mem_cons.1 h with h | h
   ·exact .inr (h ▸ List.mem_cons_self ..)
   ·rcases aset_mem h with h | h
    ·exact .inl h
    ·exact .inr (List.mem_cons_of_mem _ h)
theorem WOK.set {k : Int × Int} {v : Int × Int} (h1 : 0 ≤ k.1) (h2 : 0 ≤ k.2) : ∀ {W : Won}, WOK W → WOK (aset k v W)
 | [], _ => ⟨by simp [aset], fun e he => by rw [show e = (k, v) by simpa [aset] using he]; exact ⟨h1, h2⟩⟩
 | (k', u) :: W, h => by
  refine ⟨?_, fun e he => ?_⟩
  ·unfold aset
   obtain ⟨d1, d2⟩ := List.pairwise_cons.1 h.dist
   split
   ·rename_i hk
    subst hk
    exact List.pairwise_cons.2 ⟨fun e he => d1 e he, d2⟩
   ·rename_i hk
    refine List.pairwise_cons.2 ⟨fun e he => ?_, (WOK.set h1 h2 ⟨d2, fun e he => h.nat e (List.mem_cons_of_mem _ he)⟩).dist⟩
    rcases aset_mem he with rfl | he
    ·exact fun e => hk e.symm
    ·exact d1 e he
  ·rcases aset_mem he with rfl | he
   ·exact ⟨h1, h2⟩
   ·exact h.nat e he
theorem WOK.get : ∀ {W : Won}, WOK W → ∀ e ∈ W, aget e.1 W = some e.2
 | [], _, e, he => by cases he
 | (k, u) :: W, h, e, he => by
  obtain ⟨d1, d2⟩ := List.pairwise_cons.1 h.dist
  unfold aget
  rcases List.mem_cons.1 he with rfl | he
  ·simp
  ·rw [if_neg (fun e' => d1 e he e'.symm)]
   exact WOK.get ⟨d2, fun e he => h.nat e (List.mem_cons_of_mem _ he)⟩ e he
theorem begW_ok (S : List Int) : ∀ k, WOK (begW S k)
 | 0 => ⟨.nil, fun _ h => by cases h⟩
 | k + 1 => by
  unfold begW
  split
  ·exact (begW_ok S k).set (by simp) (by simp)
  ·exact begW_ok S k
theorem tkR_ok {r : Nat} {S : List Int} {W : Won} {x : Rs} (h : WOK W) : WOK (tkR r S W x).2 := by
 unfold tkR
 split
 ·exact h
 ·rename_i hb
  have hn := badX_facts hb
  split
  ·exact h
  ·split
   ·exact h
   ·split
    ·exact h.set hn.1 hn.2.2.1
    ·exact h.set hn.1 hn.2.2.1
theorem plR_ok {r : Nat} {S : List Int} {l : List Rs} : ∀ (A : List Nat) {W : Won}, WOK W → WOK (plR r S l A W).2.2
 | [], _, h => h
 | i :: A, W, h => by
  unfold plR
  split
  ·exact h
  ·split
   ·exact h
   ·exact plR_ok A (tkR_ok h)
theorem val_done {S : List Int} {l : List Rs} {q i : Nat} {u : Int × Int} (h : val S l q i = some u) : doneB S l q i := by
 cases q with
 | zero =>
  unfold val at h
  split at h
  ·rename_i hb; exact .inl ⟨rfl, hb⟩
  ·obtain ⟨x, hx, _⟩ := Option.map_eq_some_iff.1 h
   exact .inr ⟨x, List.mem_of_find?_eq_some hx, List.find?_some hx⟩
 | succ q =>
  unfold val at h
  split at h
  ·rename_i x v w hx hv hw
   exact .inr ⟨x, List.mem_of_find?_eq_some hx, List.find?_some hx⟩
  ·cases h
theorem stW_val {n : Nat} (h1 : 2 ≤ n) (h2 : n ≤ 64) {l : List Rs} (hG : Good n l) {e : (Int × Int) × (Int × Int)} (he : e ∈ stW n l) : ∃ q i : Nat, e.1 = ((q : Int), (i : Int)) ∧ val (seedsL n) l q i = some e.2 := by
 have hok : WOK (stW n l) := plR_ok _ (begW_ok _ _)
 obtain ⟨n1, n2⟩ := hok.nat e he
 have hg := hok.get e he
 have hI := (good_state h1 h2 hG).2
 refine ⟨e.1.1.toNat, e.1.2.toNat, Prod.ext (by simp; omega) (by simp; omega), ?_⟩
 have e1 : e.1 = ((e.1.1.toNat : Int), (e.1.2.toNat : Int)) := Prod.ext (by simp; omega) (by simp; omega)
 rw [e1] at hg
 by_cases hd : doneD (rnd n) (seedsL n) l (ordN l) e.1.1.toNat e.1.2.toNat
 ·rw [← hI.yes _ _ hd]; exact hg
 ·rw [hI.no _ _ hd] at hg; cases hg
theorem seeds_lim : ∀ n, n < 65 → 2 ≤ n → ∀ p, p < 64 → 0 ≤ (seedsL n).getD p 0 ∧ (seedsL n).getD p 0 ≤ n := by decide +kernel
theorem seeds_bd' {n : Nat} (h1 : 2 ≤ n) (h2 : n ≤ 64) (p : Nat) : 0 ≤ (seedsL n).getD p 0 ∧ (seedsL n).getD p 0 ≤ n := by
 by_cases hp : p < 64
 ·exact seeds_lim n (by omega) h1 p hp
 ·have hl := seedsL_len n
  have := Nat.pow_le_pow_right (show 0 < 2 by decide) (rnd_bd h1).2
  rw [List.getD_eq_getElem?_getD, List.getElem?_eq_none (by omega)]
  simp
theorem Came.bd {n : Nat} (h1 : 2 ≤ n) (h2 : n ≤ 64) {l : List Rs} {q p : Nat} {t : Int} (h : Came (seedsL n) l q p t) : 0 ≤ t ∧ t ≤ n := by
 rw [← h.1]; exact seeds_bd' h1 h2 p
end Go.Idl.K38
namespace Go.Idl.K38
open Go.Proofs
theorem opens_mem {n : Nat} {l : List Rs} {m : Mt} : m ∈ opens n l ↔ ∃ q i : Nat, q < rnd n ∧ i < matN (rnd n) q ∧ opM (seedsL n) (stW n l) q i = some m := by
 unfold opens opL opR
 simp only [List.mem_flatMap, List.mem_range, List.mem_filterMap]
 refine ⟨fun ⟨q, h1, i, h2, h3⟩ => ⟨q, i, h1, h2, h3⟩, fun ⟨q, i, h1, h2, h3⟩ => ⟨q, h1, i, h2, h3⟩⟩
theorem mat_in {r q : Nat} (h : q < r) : matN r (q : Int) = 2 ^ (r - 1 - q) := by unfold matN; rw [if_pos (by omega)]; simp
theorem key_bd {r q i : Nat} (h : q < r) (hi : i < 2 ^ (r - 1 - q)) : (i + 1) * 2 ^ q ≤ 2 ^ (r - 1) := by
 have e : 2 ^ (r - 1) = 2 ^ (r - 1 - q) * 2 ^ q := by rw [← Nat.pow_add]; congr 1; omega
 rw [e]
 exact Nat.mul_le_mul_right _ (by omega)
theorem key_half {k i P : Nat} (h : (i + 1) * 2 ^ (k + 1) ≤ P) : (2 * i + 1 + 1) * 2 ^ k ≤ P ∧ (2 * i + 1) * 2 ^ k ≤ P := by
 have hs2 : 2 ^ (k + 1) = 2 * 2 ^ k := Nat.pow_succ'
 have e : (i + 1) * 2 ^ (k + 1) = (2 * (i + 1)) * 2 ^ k := by rw [hs2, Nat.mul_comm 2 (i + 1), Nat.mul_assoc]
 rw [e] at h
 have b2 : (2 * i + 1 + 1) * 2 ^ k ≤ P := Nat.le_trans (Nat.mul_le_mul_right _ (by omega)) h
 exact ⟨b2, Nat.le_trans (Nat.mul_le_mul_right _ (by omega)) b2⟩
structure OpenM (n : Nat) (l : List Rs) (m : Mt) (q i p p' : Nat) : Prop where
 hq : q < rnd n
 hi : i < 2 ^ (rnd n - 1 - q)
 mr : m.r = q
 mi : m.i = i
 nd : ¬ doneB (seedsL n) l q i
 dn : 0 < q → doneB (seedsL n) l (q - 1) (2 * i) ∧ doneB (seedsL n) l (q - 1) (2 * i + 1)
 ca : Came (seedsL n) l q p m.a
 cb : Came (seedsL n) l q p' m.b
 pa : p / 2 ^ q = 2 * i
 pb : p' / 2 ^ q = 2 * i + 1
 na : m.a ≠ 0
 nb : m.b ≠ 0
theorem opens_facts {n : Nat} (h1 : 2 ≤ n) (h2 : n ≤ 64) {l : List Rs} (hG : Good n l) {m : Mt} (hm : m ∈ opens n l) : ∃ q i p p' : Nat, OpenM n l m q i p p' := by
 obtain ⟨q, i, hq, hi, ho⟩ := opens_mem.1 hm
 rw [mat_in hq] at hi
 have hb := key_bd hq hi
 have hS := firsts38 n (by omega) h1
 obtain ⟨he, hI⟩ := good_state h1 h2 hG
 obtain ⟨f1, f2, f3, f4⟩ := open_spec hG hS (ordN_ok l) hI hb ho
 unfold opM at ho
 split at ho
 ·rename_i hc
  have hm' := (Option.some.inj ho).symm
  have ha : m.a = (sidW (seedsL n) (stW n l) q i).1 := by rw [hm']
  have hbb : m.b = (sidW (seedsL n) (stW n l) q i).2.1 := by rw [hm']
  cases q with
  | zero =>
   have e : sidW (seedsL n) (stW n l) 0 i = ((seedsL n).getD (2 * i) 0, (seedsL n).getD (2 * i + 1) 0, true) := by unfold sidW; rw [if_pos rfl]
   rw [e] at ha hbb
   refine ⟨0, i, 2 * i, 2 * i + 1, hq, hi, f1, f2, f3, f4, ⟨ha.symm, fun _ h => absurd h (by omega)⟩, ⟨hbb.symm, fun _ h => absurd h (by omega)⟩, by simp, by simp, ?_, ?_⟩
   ·rw [ha]; exact hS i (by simpa using hi)
   ·rw [hbb]; exact fun e => f3 (.inl ⟨rfl, e⟩)
  | succ k =>
   obtain ⟨b2, b1⟩ := key_half hb
   obtain ⟨d1, d2⟩ := f4 (by omega)
   rw [Nat.add_sub_cancel] at d1 d2
   have hlt : ∀ {c : Nat}, (c + 1) * 2 ^ k ≤ 2 ^ (rnd n - 1) → (k = 0 → c < 2 ^ (rnd n - 1)) := fun hc e => by subst e; omega
   obtain ⟨u, hu, hu0⟩ := hG.val_some hS k (2 * i) b1 d1
   obtain ⟨v, hv, hv0⟩ := hG.val_some hS k (2 * i + 1) b2 d2
   have e1 : (((k + 1 : Nat) : Int) - 1, 2 * (i : Int)) = ((k : Int), ((2 * i : Nat) : Int)) := by
    rw [show ((k + 1 : Nat) : Int) - 1 = k by omega, show 2 * (i : Int) = ((2 * i : Nat) : Int) by omega]
   have e2 : (((k + 1 : Nat) : Int) - 1, 2 * (i : Int) + 1) = ((k : Int), ((2 * i + 1 : Nat) : Int)) := by
    rw [show ((k + 1 : Nat) : Int) - 1 = k by omega, show 2 * (i : Int) + 1 = ((2 * i + 1 : Nat) : Int) by omega]
   have e : sidW (seedsL n) (stW n l) (k + 1) i = (u.1, v.1, true) := by
    unfold sidW
    rw [if_neg (by omega), e1, e2, hI.yes k (2 * i) ((doneD_iff (ordN_ok l) (hlt b1)).2 d1), hI.yes k (2 * i + 1) ((doneD_iff (ordN_ok l) (hlt b2)).2 d2), hu, hv]
    rfl
   rw [e] at ha hbb
   simp only at ha hbb
   obtain ⟨⟨p, c, d⟩, _⟩ := val_came k (2 * i) u hu
   obtain ⟨⟨p', c', d'⟩, _⟩ := val_came k (2 * i + 1) v hv
   refine ⟨k + 1, i, p, p', hq, hi, f1, f2, f3, f4, ?_, ?_, d, d', by rw [ha]; exact hu0, by rw [hbb]; exact hv0⟩
   ·rw [ha]; exact c.next (by rw [d]; exact hu) rfl
   ·rw [hbb]; exact c'.next (by rw [d']; exact hv) rfl
 ·cases ho
theorem opens_ne {n : Nat} (h1 : 2 ≤ n) (h2 : n ≤ 64) {l : List Rs} (hG : Good n l) {m : Mt} (hm : m ∈ opens n l) : m.a ≠ m.b := fun e => by
 obtain ⟨q, i, p1, p2, f⟩ := opens_facts h1 h2 hG hm
 have : p1 = p2 := uniq38 h1 p1 p2 (by rw [f.ca.1, f.cb.1, e]) (by rw [f.ca.1]; exact f.na)
 have h1 := f.pa
 have h2 := f.pb
 subst this
 omega
theorem opens_bd {n : Nat} (h1 : 2 ≤ n) (h2 : n ≤ 64) {l : List Rs} (hG : Good n l) {m : Mt} (hm : m ∈ opens n l) : (1 ≤ m.a ∧ m.a ≤ n) ∧ (1 ≤ m.b ∧ m.b ≤ n) ∧ (0 ≤ m.r ∧ m.r < 6) ∧ (0 ≤ m.i ∧ m.i < 32) := by
 obtain ⟨q, i, p1, p2, f⟩ := opens_facts h1 h2 hG hm
 have b1 := f.ca.bd h1 h2
 have b2 := f.cb.bd h1 h2
 have n1 := f.na
 have n2 := f.nb
 have hr := (rnd_bd h1).2
 have hq := f.hq
 have hi := f.hi
 have hm1 := f.mr
 have hm2 := f.mi
 have : 2 ^ (rnd n - 1 - q) ≤ 32 := Nat.le_trans (Nat.pow_le_pow_right (by decide) (show rnd n - 1 - q ≤ 5 by omega)) (by decide)
 omega
end Go.Idl.K38
namespace Go.Idl.K38
open Go.Proofs
theorem aget_in {k : Int × Int} {v : Int × Int} : ∀ {W : Won}, aget k W = some v → (k, v) ∈ W
 | [], h => by cases h
 | (k', u) :: W, h => by
  unfold aget at h
  split at h
  ·rename_i hk; subst hk; rw [Option.some.inj h]; exact List.mem_cons_self ..
  ·exact List.mem_cons_of_mem _ (aget_in h)
def loser (S : List Int) (l : List Rs) (x : Rs) : Int := ((val S l x.r.toNat x.i.toNat).getD (0, 0)).2
def losers (n : Nat) (l : List Rs) : List Int := l.map (loser (seedsL n) l)
theorem GoodL.key {r : Nat} {S : List Int} {l : List Rs} (h : GoodL r S l) {x : Rs} (hx : x ∈ l) : ∃ q i : Nat, q < r ∧ i < 2 ^ (r - 1 - q) ∧ x.r = q ∧ x.i = i ∧ isM q i x = true := by
 obtain ⟨f1, f2, f3, f4⟩ := badX_facts (h.right x hx)
 refine ⟨x.r.toNat, x.i.toNat, by omega, ?_, by omega, by omega, isM_key.2 ⟨by omega, by omega⟩⟩
 rw [show x.r = ((x.r.toNat : Nat) : Int) by omega, mat_in (by omega)] at f4
 omega
theorem res_val {n : Nat} (h1 : 2 ≤ n) (h2 : n ≤ 64) {l : List Rs} (hG : Good n l) {x : Rs} (hx : x ∈ l) {q i : Nat} (hk : isM q i x = true) : ∃ u, val (seedsL n) l q i = some u ∧ u.1 ≠ 0 ∧ u.2 ≠ 0 := by
 have hS := firsts38 n (by omega) h1
 obtain ⟨q', i', hq, hi, e1, e2, _⟩ := hG.key hx
 obtain ⟨k1, k2⟩ := isM_key.1 hk
 obtain rfl : q' = q := by omega
 obtain rfl : i' = i := by omega
 have hb := key_bd hq hi
 cases q' with
 | zero =>
  have hf := hG.first x hx (by omega)
  rw [show x.i.toNat = i' by omega] at hf
  unfold val
  rw [if_neg hf, hG.find hx hk]
  exact ⟨_, rfl, resW_ne (hS i' (by simpa using hi)) hf⟩
 | succ k =>
  obtain ⟨b2, b1⟩ := key_half hb
  obtain ⟨d1, d2⟩ := hG.later x hx (by omega)
  rw [show x.r.toNat - 1 = k by omega, show x.i.toNat = i' by omega] at d1 d2
  obtain ⟨u, hu, hu0⟩ := hG.val_some hS k (2 * i') b1 d1
  obtain ⟨v, hv, hv0⟩ := hG.val_some hS k (2 * i' + 1) b2 d2
  unfold val
  rw [hG.find hx hk, hu, hv]
  exact ⟨_, rfl, resW_ne hu0 hv0⟩
theorem loser_val {n : Nat} (h1 : 2 ≤ n) (h2 : n ≤ 64) {l : List Rs} (hG : Good n l) {x : Rs} (hx : x ∈ l) {q i : Nat} (hk : isM q i x = true) : ∃ u, val (seedsL n) l q i = some u ∧ u.2 ≠ 0 ∧ loser (seedsL n) l x = u.2 := by
 obtain ⟨u, hu, _, hu0⟩ := res_val h1 h2 hG hx hk
 refine ⟨u, hu, hu0, ?_⟩
 obtain ⟨k1, k2⟩ := isM_key.1 hk
 unfold loser
 rw [show x.r.toNat = q by omega, show x.i.toNat = i by omega, hu]
 rfl
theorem val_bd {n : Nat} (h1 : 2 ≤ n) (h2 : n ≤ 64) {l : List Rs} {q i : Nat} {u : Int × Int} (h : val (seedsL n) l q i = some u) : (0 ≤ u.1 ∧ u.1 ≤ n) ∧ (0 ≤ u.2 ∧ u.2 ≤ n) := by
 obtain ⟨⟨p, c, _⟩, hh⟩ := val_came q i u h
 refine ⟨c.bd h1 h2, ?_⟩
 by_cases h0 : u.2 = 0
 ·rw [h0]; omega
 ·obtain ⟨p', c', _⟩ := hh h0
  exact c'.bd h1 h2
theorem losers_nd {n : Nat} (h1 : 2 ≤ n) (h2 : n ≤ 64) {l : List Rs} (hG : Good n l) : (losers n l).Nodup := by
 unfold losers
 refine List.pairwise_map.2 (hG.dist.imp_of_mem fun {x y} hx hy hne e => hne ?_)
 obtain ⟨q, i, _, _, a1, a2, hk⟩ := hG.key hx
 obtain ⟨q', i', _, _, b1, b2, hk'⟩ := hG.key hy
 obtain ⟨u, hu, hu0, eu⟩ := loser_val h1 h2 hG hx hk
 obtain ⟨v, hv, hv0, ev⟩ := loser_val h1 h2 hG hy hk'
 rw [eu, ev] at e
 obtain ⟨c1, c2⟩ := lost_once (uniq38 h1) hu hv hu0 e
 omega
theorem losers_bd {n : Nat} (h1 : 2 ≤ n) (h2 : n ≤ 64) {l : List Rs} (hG : Good n l) {t : Int} (ht : t ∈ losers n l) : 1 ≤ t ∧ t ≤ n := by
 obtain ⟨x, hx, rfl⟩ := List.mem_map.1 ht
 obtain ⟨q, i, _, _, a1, a2, hk⟩ := hG.key hx
 obtain ⟨u, hu, hu0, eu⟩ := loser_val h1 h2 hG hx hk
 have := (val_bd h1 h2 hu).2
 omega
theorem doneD_res {n : Nat} {l : List Rs} {x : Rs} (hx : x ∈ l) {q i : Nat} (hk : isM q i x = true) : doneD (rnd n) (seedsL n) l (ordN l) q i := by
 obtain ⟨j, hj, rfl⟩ := List.getElem_of_mem hx
 exact .inr ⟨j, (ordN_ok l).1.mem_iff.2 (by simp [idL, hj]), _, List.getElem?_eq_getElem hj, hk⟩
theorem lost_iff {n : Nat} (h1 : 2 ≤ n) (h2 : n ≤ 64) {l : List Rs} (hG : Good n l) {t : Int} (ht : t ≠ 0) : t ∈ losers n l ↔ ∃ e ∈ stW n l, e.2.2 = t := by
 have hI := (good_state h1 h2 hG).2
 refine ⟨fun h => ?_, fun ⟨e, he, h⟩ => ?_⟩
 ·obtain ⟨x, hx, rfl⟩ := List.mem_map.1 h
  obtain ⟨q, i, _, _, a1, a2, hk⟩ := hG.key hx
  obtain ⟨u, hu, hu0, eu⟩ := loser_val h1 h2 hG hx hk
  have hg := hI.yes q i (doneD_res hx hk)
  rw [hu] at hg
  exact ⟨_, aget_in hg, eu.symm⟩
 ·obtain ⟨q, i, e1, hv⟩ := stW_val h1 h2 hG he
  rcases val_done hv with ⟨rfl, hb⟩ | ⟨x, hx, hk⟩
  ·unfold val at hv
   rw [if_pos hb] at hv
   rw [← Option.some.inj hv] at h
   exact absurd h.symm ht
  ·obtain ⟨u, hu, _, eu⟩ := loser_val h1 h2 hG hx hk
   rw [hu] at hv
   obtain rfl := Option.some.inj hv
   exact List.mem_map.2 ⟨x, hx, by rw [eu]; exact h⟩
theorem lose_ok {n : Nat} (h1 : 2 ≤ n) (h2 : n ≤ 64) {l : List Rs} (hG : Good n l) : LoseOK n (stW n l) := by
 refine ⟨fun e he => ?_, fun e he e' he' h0 hh => ?_⟩
 ·obtain ⟨q, i, e1, hv⟩ := stW_val h1 h2 hG he
  exact (val_bd h1 h2 hv).2
 ·obtain ⟨q, i, e1, hv⟩ := stW_val h1 h2 hG he
  obtain ⟨q', i', e1', hv'⟩ := stW_val h1 h2 hG he'
  rw [e1, e1', (lost_once (uniq38 h1) hv hv' h0 hh).1]
theorem stW_get {n : Nat} (h1 : 2 ≤ n) (h2 : n ≤ 64) {l : List Rs} (hG : Good n l) {q i : Nat} {v : Int × Int} (h : aget ((q : Int), (i : Int)) (stW n l) = some v) : val (seedsL n) l q i = some v := by
 have hI := (good_state h1 h2 hG).2
 by_cases hd : doneD (rnd n) (seedsL n) l (ordN l) q i
 ·rw [← hI.yes q i hd]; exact h
 ·rw [hI.no q i hd] at h; cases h
theorem champ_bd {n : Nat} (h1 : 2 ≤ n) (h2 : n ≤ 64) {l : List Rs} (hG : Good n l) : ∀ v, aget ((rnd n : Int) - 1, 0) (stW n l) = some v → 1 ≤ v.1 ∧ v.1 ≤ n := fun v hv => by
 have hr := (rnd_bd h1).1
 rw [show (rnd n : Int) - 1 = ((rnd n - 1 : Nat) : Int) by omega] at hv
 have hv' := stW_get (i := 0) h1 h2 hG hv
 obtain ⟨u, hu, hu0⟩ := hG.val_some (firsts38 n (by omega) h1) (rnd n - 1) 0 (by simp) (val_done hv')
 rw [hu] at hv'
 obtain rfl := Option.some.inj hv'
 have := (val_bd h1 h2 hu).1
 omega
theorem champ_no {n : Nat} (h1 : 2 ≤ n) (h2 : n ≤ 64) {l : List Rs} (hG : Good n l) {v : Int × Int} (hv : val (seedsL n) l (rnd n - 1) 0 = some v) : v.1 ∉ losers n l := fun hm => by
 have h0 : v.1 ≠ 0 := by have := losers_bd h1 h2 hG hm; omega
 obtain ⟨x, hx, e⟩ := List.mem_map.1 hm
 obtain ⟨q, i, hq, hi, a1, a2, hk⟩ := hG.key hx
 obtain ⟨u, hu, hu0, eu⟩ := loser_val h1 h2 hG hx hk
 have euv : u.2 = v.1 := by rw [← eu, e]
 obtain ⟨p, c, d⟩ := (val_came q i u hu).2 hu0
 obtain ⟨p', c', d'⟩ := (val_came (rnd n - 1) 0 v hv).1
 have : p = p' := uniq38 h1 p p' (by rw [c.1, c'.1, euv]) (by rw [c.1]; exact hu0)
 subst this
 have c2 := c'.next (by rw [d']; exact hv) rfl
 obtain ⟨w, hw, hw1⟩ := c2.2 q (by omega)
 rw [d, hu] at hw
 obtain rfl := Option.some.inj hw
 exact val_ne (uniq38 h1) q i u hu hu0 (by rw [hw1, euv])
def placesG (n : Nat) (l : List Rs) : List Int := placesL (rnd n) n (stW n l)
theorem plT_in {n : Nat} (h1 : 2 ≤ n) (h2 : n ≤ 64) {l : List Rs} (hG : Good n l) (t : Nat) : (((t : Int) + 1 ∈ losers n l → 1 < plT (rnd n) (stW n l) t) ∧ ((t : Int) + 1 ∉ losers n l → plT (rnd n) (stW n l) t = 0)) := by
 have hl := lost_iff h1 h2 hG (show (t : Int) + 1 ≠ 0 by omega)
 refine ⟨fun h => ?_, fun h => ?_⟩
 ·obtain ⟨e, he, h'⟩ := hl.1 h
  unfold plT
  split
  ·rename_i hf
   exact absurd h' (by simpa using List.find?_eq_none.1 hf e he)
  ·rename_i e' hf
   have hp := List.find?_some hf
   simp only [decide_eq_true_eq] at hp
   obtain ⟨q, i, e1, hv⟩ := stW_val h1 h2 hG (List.mem_of_find?_eq_some hf)
   have hd := val_done hv
   have hq : q < rnd n := by
    rcases hd with ⟨rfl, _⟩ | ⟨x, hx, hk⟩
    ·have := (rnd_bd h1).1; omega
    ·obtain ⟨q', i', hq, _, a1, _, _⟩ := hG.key hx
     have := (isM_key.1 hk).1
     omega
   rw [e1]
   simp only
   rw [mat_in hq]
   have := Nat.pow_pos (n := rnd n - 1 - q) (show 0 < 2 by decide)
   omega
 ·unfold plT
  split
  ·rfl
  ·rename_i e' hf
   have hp := List.find?_some hf
   simp only [decide_eq_true_eq] at hp
   exact absurd (hl.2 ⟨e', List.mem_of_find?_eq_some hf, hp⟩) h
theorem placesG_len (n : Nat) (l : List Rs) : (placesG n l).length = n := by
 unfold placesG placesL
 split <;> simp
theorem places_in {n : Nat} (h1 : 2 ≤ n) (h2 : n ≤ 64) {l : List Rs} (hG : Good n l) (t : Nat) (ht : t < n) : 1 < (placesG n l).getD t 0 ↔ (t : Int) + 1 ∈ losers n l := by
 obtain ⟨k1, k2⟩ := plT_in h1 h2 hG t
 have e0 : ((List.range n).map (plT (rnd n) (stW n l))).getD t 0 = plT (rnd n) (stW n l) t := by simp [ht]
 have base : 1 < plT (rnd n) (stW n l) t ↔ (t : Int) + 1 ∈ losers n l := ⟨fun h => Classical.byContradiction fun hn => by rw [k2 hn] at h; omega, k1⟩
 unfold placesG placesL
 split
 ·rw [e0]; exact base
 ·rename_i v hv
  have hb := champ_bd h1 h2 hG v hv
  have hr := (rnd_bd h1).1
  rw [show (rnd n : Int) - 1 = ((rnd n - 1 : Nat) : Int) by omega] at hv
  have hno := champ_no h1 h2 hG (stW_get (i := 0) h1 h2 hG hv)
  by_cases e : (v.1 - 1).toNat = t
  ·have e2 : ((List.range n).map (plT (rnd n) (stW n l)) |>.set (v.1 - 1).toNat 1).getD t 0 = 1 := by
    simp only [List.getD_eq_getElem?_getD, List.getElem?_set]
    rw [if_pos e, if_pos (by simp; omega)]
    rfl
   rw [e2]
   refine ⟨fun h => absurd h (by omega), fun h => absurd h ?_⟩
   rw [show (t : Int) + 1 = v.1 by omega]
   exact hno
  ·have e2 : ((List.range n).map (plT (rnd n) (stW n l)) |>.set (v.1 - 1).toNat 1).getD t 0 = ((List.range n).map (plT (rnd n) (stW n l))).getD t 0 := by
    simp only [List.getD_eq_getElem?_getD, List.getElem?_set]
    rw [if_neg e]
   rw [e2, e0]
   exact base
def keysN (n : Nat) : List (Nat × Nat) := (List.range (rnd n)).flatMap fun q => ((List.range (2 ^ (rnd n - 1 - q))).filter fun i => !decide (q = 0 ∧ (seedsL n).getD (2 * i + 1) 0 = 0)).map fun i => (q, i)
theorem keysN_len : ∀ n, n < 65 → 2 ≤ n → (keysN n).length = n - 1 := by decide +kernel
theorem keysN_nd : ∀ n, n < 65 → 2 ≤ n → (keysN n).Nodup := by decide +kernel
theorem keysN_mem {n q i : Nat} : (q, i) ∈ keysN n ↔ q < rnd n ∧ i < 2 ^ (rnd n - 1 - q) ∧ ¬ (q = 0 ∧ (seedsL n).getD (2 * i + 1) 0 = 0) := by
 unfold keysN
 simp only [List.mem_flatMap, List.mem_range, List.mem_map, List.mem_filter, Bool.not_eq_true', decide_eq_false_iff_not, Prod.mk.injEq]
 refine ⟨fun ⟨q', h1, i', ⟨h2, h3⟩, e1, e2⟩ => ?_, fun ⟨h1, h2, h3⟩ => ⟨q, h1, i, ⟨h2, h3⟩, rfl, rfl⟩⟩
 subst e1 e2
 exact ⟨h1, h2, h3⟩
def keysL (l : List Rs) : List (Nat × Nat) := l.map fun x => (x.r.toNat, x.i.toNat)
theorem keysL_nd {r : Nat} {S : List Int} {l : List Rs} (hG : GoodL r S l) : (keysL l).Nodup := by
 unfold keysL
 refine List.pairwise_map.2 (hG.dist.imp_of_mem fun {x y} hx hy hne e => hne ?_)
 obtain ⟨q, i, _, _, a1, a2, _⟩ := hG.key hx
 obtain ⟨q', i', _, _, b1, b2, _⟩ := hG.key hy
 simp only [Prod.mk.injEq] at e
 omega
theorem keysL_sub {n : Nat} {l : List Rs} (hG : Good n l) : ∀ k ∈ keysL l, k ∈ keysN n := fun k hk => by
 obtain ⟨x, hx, rfl⟩ := List.mem_map.1 hk
 obtain ⟨q, i, hq, hi, a1, a2, _⟩ := hG.key hx
 refine keysN_mem.2 ⟨by omega, by rw [show x.r.toNat = q by omega]; omega, fun ⟨e1, e2⟩ => ?_⟩
 exact hG.first x hx (by omega) e2
theorem keysL_mem {l : List Rs} {q i : Nat} {r : Nat} {S : List Int} (hG : GoodL r S l) : (q, i) ∈ keysL l ↔ ∃ x ∈ l, isM q i x = true := by
 unfold keysL
 simp only [List.mem_map, Prod.mk.injEq]
 refine ⟨fun ⟨x, hx, e1, e2⟩ => ?_, fun ⟨x, hx, hk⟩ => ?_⟩
 ·obtain ⟨q', i', _, _, a1, a2, _⟩ := hG.key hx
  exact ⟨x, hx, isM_key.2 ⟨by omega, by omega⟩⟩
 ·obtain ⟨k1, k2⟩ := isM_key.1 hk
  exact ⟨x, hx, by omega, by omega⟩
theorem good_len {n : Nat} (h1 : 2 ≤ n) (h2 : n ≤ 64) {l : List Rs} (hG : Good n l) : l.length ≤ n - 1 := by
 have := (keysL_nd hG).length_le_of_subset (l₂ := keysN n) fun k hk => keysL_sub hG k hk
 rw [keysN_len n (by omega) h1] at this
 simpa [keysL] using this
theorem all_done {n : Nat} (h1 : 2 ≤ n) (h2 : n ≤ 64) {l : List Rs} (hG : Good n l) : l.length = n - 1 ↔ ∀ q i, q < rnd n → i < 2 ^ (rnd n - 1 - q) → doneB (seedsL n) l q i := by
 refine ⟨fun hl q i hq hi => Classical.byContradiction fun hn => ?_, fun h => ?_⟩
 ·have hm : (q, i) ∈ keysN n := keysN_mem.2 ⟨hq, hi, fun hh => hn (.inl hh)⟩
  have hnm : (q, i) ∉ keysL l := fun hh => hn (.inr ((keysL_mem hG).1 hh))
  have := (List.nodup_cons.2 ⟨hnm, keysL_nd hG⟩).length_le_of_subset (l₂ := keysN n) fun k hk => by
   rcases List.mem_cons.1 hk with rfl | hk
   ·exact hm
   ·exact keysL_sub hG k hk
  rw [keysN_len n (by omega) h1] at this
  simp [keysL] at this
  omega
 ·have hg := good_len h1 h2 hG
  have := (keysN_nd n (by omega) h1).length_le_of_subset (l₂ := keysL l) fun k hk => by
   obtain ⟨q, i⟩ := k
   obtain ⟨a1, a2, a3⟩ := keysN_mem.1 hk
   rcases h q i a1 a2 with hb | hx
   ·exact absurd hb a3
   ·exact (keysL_mem hG).2 hx
  rw [keysN_len n (by omega) h1] at this
  simp [keysL] at this
  omega
theorem opens_done {n : Nat} (h1 : 2 ≤ n) (h2 : n ≤ 64) {l : List Rs} (hG : Good n l) (hd : ∀ q i, q < rnd n → i < 2 ^ (rnd n - 1 - q) → doneB (seedsL n) l q i) : opens n l = [] := by
 refine List.eq_nil_iff_forall_not_mem.2 fun m hm => ?_
 obtain ⟨q, i, p1, p2, f⟩ := opens_facts h1 h2 hG hm
 exact f.nd (hd q i f.hq f.hi)
theorem done_opens {n : Nat} (h1 : 2 ≤ n) (h2 : n ≤ 64) {l : List Rs} (hG : Good n l) (ho : opens n l = []) : ∀ q i, q < rnd n → i < 2 ^ (rnd n - 1 - q) → doneB (seedsL n) l q i
 | q, i, hq, hi => Classical.byContradiction fun hn => by
  have hI := (good_state h1 h2 hG).2
  have hb := key_bd hq hi
  have hsd : (sidW (seedsL n) (stW n l) q i).2.2 = true := by
   cases q with
   | zero => unfold sidW; rw [if_pos rfl]
   | succ k =>
    have hp : 2 ^ (rnd n - 1 - k) = 2 * 2 ^ (rnd n - 1 - (k + 1)) := by rw [← Nat.pow_succ']; congr 1; omega
    have d1 := done_opens h1 h2 hG ho k (2 * i) (by omega) (by omega)
    have d2 := done_opens h1 h2 hG ho k (2 * i + 1) (by omega) (by omega)
    obtain ⟨b2, b1⟩ := key_half hb
    have hlt : ∀ {c : Nat}, (c + 1) * 2 ^ k ≤ 2 ^ (rnd n - 1) → (k = 0 → c < 2 ^ (rnd n - 1)) := fun hc e => by subst e; omega
    obtain ⟨u, hu, hu0⟩ := hG.val_some (firsts38 n (by omega) h1) k (2 * i) b1 d1
    obtain ⟨v, hv, hv0⟩ := hG.val_some (firsts38 n (by omega) h1) k (2 * i + 1) b2 d2
    have e1 : (((k + 1 : Nat) : Int) - 1, 2 * (i : Int)) = ((k : Int), ((2 * i : Nat) : Int)) := by
     rw [show ((k + 1 : Nat) : Int) - 1 = k by omega, show 2 * (i : Int) = ((2 * i : Nat) : Int) by omega]
    have e2 : (((k + 1 : Nat) : Int) - 1, 2 * (i : Int) + 1) = ((k : Int), ((2 * i + 1 : Nat) : Int)) := by
     rw [show ((k + 1 : Nat) : Int) - 1 = k by omega, show 2 * (i : Int) + 1 = ((2 * i + 1 : Nat) : Int) by omega]
    unfold sidW
    rw [if_neg (by omega), e1, e2, hI.yes k (2 * i) ((doneD_iff (ordN_ok l) (hlt b1)).2 d1), hI.yes k (2 * i + 1) ((doneD_iff (ordN_ok l) (hlt b2)).2 d2), hu, hv]
    rfl
  have hnone : aget ((q : Int), (i : Int)) (stW n l) = none := hI.no q i fun hd => hn ((doneD_iff (ordN_ok l) (fun e => by subst e; omega)).1 hd)
  have hm : (⟨q, i, (sidW (seedsL n) (stW n l) q i).1, (sidW (seedsL n) (stW n l) q i).2.1⟩ : Mt) ∈ opens n l := opens_mem.2 ⟨q, i, hq, by rw [mat_in hq]; exact hi, by unfold opM; rw [if_pos ⟨hsd, hnone⟩]⟩
  rw [ho] at hm
  cases hm
theorem over_iff {n : Nat} (h1 : 2 ≤ n) (h2 : n ≤ 64) {l : List Rs} (hG : Good n l) : opens n l = [] ↔ l.length = n - 1 :=
 ⟨fun h => (all_done h1 h2 hG).2 (done_opens h1 h2 hG h), fun h => opens_done h1 h2 hG ((all_done h1 h2 hG).1 h)⟩
end Go.Idl.K38
namespace Go.Idl.K38
open Go.Proofs
def sms (l : List Sm) : List (List IV) := mp Sm.cells l
@[go_sem] theorem sms_nil : sms [] = [] := rfl
def mtZ : Mt := ⟨0, 0, 0, 0⟩
def pick (n : Nat) (out : List Rs) (x : Sm) : Mt := (opens n out).getD (x.w.toNat % (opens n out).length) mtZ
def madeL (n : Nat) : List Sm → List Rs → List Rs
 | [], out => out
 | x :: t, out => if opens n out = [] then out else madeL n t (out ++ [mkX (pick n out x) x])
theorem opens_len {n : Nat} (h1 : 2 ≤ n) (out : List Rs) : (opens n out).length ≤ 192 := by
 have := opL_len (rnd_bd h1).2 (seedsL n) (stW n out) (rnd n)
 have := (rnd_bd h1).2
 unfold opens
 omega
structure MadeI (n : Nat) (xs : List Sm) (i : Nat) (out : List Rs) : Prop where
 bd : i ≤ xs.length
 len : out.length = i
 good : Good n out
 fit : ∀ x ∈ out, FitR x
 same : madeL n (xs.drop i) out = madeL n xs []
theorem MadeI.over {n : Nat} {xs : List Sm} {i : Nat} {out : List Rs} (h : MadeI n xs i out) (ho : opens n out = []) : madeL n xs [] = out := by
 rw [← h.same]
 cases xs.drop i with
 | nil => rfl
 | cons x t => unfold madeL; rw [if_pos ho]
theorem plR_one {r : Nat} {S : List Int} {l : List Rs} : ∀ (A : List Nat) (W : Won), (plR r S l A W).2.1 = 0 → (plR r S l A W).1 = -1
 | [], W, h => rfl
 | i :: A, W, h => by
  unfold plR at h ⊢
  split
  ·rfl
  ·rename_i x e
   rw [e] at h
   simp only at h
   split
   ·rename_i hx
    rw [if_pos hx] at h
    exact absurd h hx
   ·rename_i hx
    rw [if_neg hx] at h
    exact plR_one A _ h
theorem check_fun (n : Nat) (h1 : 2 ≤ n) (h2 : n ≤ 64) (l : List Rs) (hl : l.length ≤ 20) (hf : ∀ x ∈ l, FitR x) (A : List Nat) (hA : OrdOf l A) :
  FN 20 [.int .i64 (n : Int), .fz 6 (rss l)] (fun v => v = .tup [.int .i64 (plR (rnd n) (seedsL n) l A (beg n)).1, .int .i64 (plR (rnd n) (seedsL n) l A (beg n)).2.1]) := by
 refine IFun.of_bodyZ false 9 [] Tryz.func20 rfl Tryz.call20 rfl fun R hR => ?_
 have ct := play_calls n h1 h2 l hl hf A hA
 have h0 := plR_one (r := rnd n) (S := seedsL n) (l := l) A (beg n)
 generalize plR (rnd n) (seedsL n) l A (beg n) = Z at *
 obtain ⟨zi, ze, W⟩ := Z
 simp only at *
 unfold evP evRow at ct
 simp [go_sem]
 refine ct.at [] (by simp [go_sem]) ?_
 rintro _ _ (⟨he, rfl, rfl⟩ | ⟨he, rfl, rfl⟩)
 ·rw [h0 he, he] at hR
  simp [go_sem]
  exact hR _ _ _ rfl (by simp [go_sem])
 ·simp [go_sem]
  exact hR _ _ _ rfl (by simp [go_sem])
theorem check_good {n : Nat} (h1 : 2 ≤ n) (h2 : n ≤ 64) {l : List Rs} (hG : Good n l) (hl : l.length ≤ 20) (hf : ∀ x ∈ l, FitR x) : FN 20 [.int .i64 (n : Int), .fz 6 (rss l)] (fun v => v = .tup [.int .i64 (-1), .int .i64 0]) := by
 have := check_fun n h1 h2 l hl hf (ordN l) (ordN_ok l)
 rw [plR_one _ _ (good_state h1 h2 hG).1, (good_state h1 h2 hG).1] at this
 exact this
theorem places_good {n : Nat} (h1 : 2 ≤ n) (h2 : n ≤ 64) {l : List Rs} (hG : Good n l) (hl : l.length ≤ 20) (hf : ∀ x ∈ l, FitR x) : FN 21 [.int .i64 (n : Int), .fz 6 (rss l)] (fun v => v = .tup [.fz 1 (ints (placesG n l)), .int .i64 0]) := by
 have := places_fun n h1 h2 l hl hf (ordN l) (ordN_ok l) (fun _ => ⟨lose_ok h1 h2 hG, champ_bd h1 h2 hG⟩)
 rw [if_pos (good_state h1 h2 hG).1] at this
 exact this
theorem winner_good {n : Nat} (h1 : 2 ≤ n) (h2 : n ≤ 64) {l : List Rs} (hG : Good n l) (hl : l.length ≤ 20) (hf : ∀ x ∈ l, FitR x) (q i : Int) : FN 23 [.int .i64 (n : Int), .fz 6 (rss l), .int .i64 q, .int .i64 i] (fun v => v = .tup [.int .i64 (winV (stW n l) q i).1, .int .i64 (winV (stW n l) q i).2]) := by
 have := winner_fun n h1 h2 l hl hf (ordN l) (ordN_ok l) q i
 rw [if_pos (good_state h1 h2 hG).1] at this
 exact this
end Go.Idl.K38
namespace Go.Idl.K38
open Go.Proofs
theorem champ_ex {n : Nat} (h1 : 2 ≤ n) (h2 : n ≤ 64) {l : List Rs} (hG : Good n l) (hl : l.length = n - 1) : ∃ v : Int × Int, val (seedsL n) l (rnd n - 1) 0 = some v ∧ 1 ≤ v.1 ∧ v.1 ≤ n ∧ (placesG n l).getD (v.1 - 1).toNat 0 = 1 ∧ v.1 ∉ losers n l := by
 have hr := (rnd_bd h1).1
 have hd := (all_done h1 h2 hG).1 hl (rnd n - 1) 0 (by omega) (Nat.pow_pos (by decide))
 obtain ⟨v, hv, hv0⟩ := hG.val_some (firsts38 n (by omega) h1) (rnd n - 1) 0 (by simp) hd
 have hI := (good_state h1 h2 hG).2
 have hg := hI.yes (rnd n - 1) 0 ((doneD_iff (ordN_ok l) (fun e => Nat.pow_pos (by decide))).2 hd)
 rw [hv] at hg
 have hb := (val_bd h1 h2 hv).1
 refine ⟨v, hv, by omega, hb.2, ?_, champ_no h1 h2 hG hv⟩
 rw [show ((rnd n - 1 : Nat) : Int) = (rnd n : Int) - 1 by omega] at hg
 unfold placesG placesL
 rw [show (((0 : Nat) : Int)) = 0 from rfl] at hg
 rw [hg]
 simp only [List.getD_eq_getElem?_getD, List.getElem?_set]
 rw [if_pos trivial, if_pos (by simp; omega)]
 rfl
theorem teams_perm {n : Nat} (h1 : 2 ≤ n) (h2 : n ≤ 64) {l : List Rs} (hG : Good n l) (hl : l.length = n - 1) {v : Int × Int} (hv : 1 ≤ v.1 ∧ v.1 ≤ n) (hno : v.1 ∉ losers n l) : (v.1 :: losers n l).Perm ((List.range n).map fun t : Nat => (t : Int) + 1) := by
 have hnd : (v.1 :: losers n l).Nodup := List.nodup_cons.2 ⟨hno, losers_nd h1 h2 hG⟩
 have hnd2 : ((List.range n).map fun t : Nat => (t : Int) + 1).Nodup := List.pairwise_map.2 (List.nodup_range.imp fun {a b} h e => h (by omega))
 have hsub : ∀ t ∈ v.1 :: losers n l, t ∈ (List.range n).map fun t : Nat => (t : Int) + 1 := fun t ht => by
  have : 1 ≤ t ∧ t ≤ n := by
   rcases List.mem_cons.1 ht with rfl | ht
   ·exact hv
   ·exact losers_bd h1 h2 hG ht
  exact List.mem_map.2 ⟨(t - 1).toNat, by simp; omega, by omega⟩
 refine (List.perm_ext_iff_of_nodup hnd hnd2).2 fun t => ⟨hsub t, fun ht => Classical.byContradiction fun hn => ?_⟩
 have := (List.nodup_cons.2 ⟨hn, hnd⟩).length_le_of_subset (l₂ := (List.range n).map fun t : Nat => (t : Int) + 1) fun y hy => by
  rcases List.mem_cons.1 hy with rfl | hy
  ·exact ht
  ·exact hsub y hy
 simp [losers] at this
 omega
end Go.Idl.K38
