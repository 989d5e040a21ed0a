/-
  Chapter 38: events made of numbers; what is known of an event (plain).
  Chapter 38: the matches that can be played: their teams (plain).
  Chapter 38: who is out; when an event is over (plain).
-/
import Derived.Test.YtnnpdhccblelgaaDoorC38PartZE
namespace Go.Idl
set_option linter.all false
open Go.Proofs
set_option maxHeartbeats 8000000
set_option maxRecDepth 40000

instance (f : Frc) : Decidable (FitF f) := by unfold FitF; infer_instance
theorem mk_frc : ∀ k : Nat, k < 256 → ∀ d : Nat, d < 3 → withinB (mkF ((k : Int) - 128) (1 + (d : Int))).1 (-100000) 100000 = true ∧ FitF (mkF ((k : Int) - 128) (1 + (d : Int))).1 := by decide +kernel
theorem mk_frc' {c a : Int} (hc : -128 ≤ c ∧ c < 128) (ha : 0 ≤ a) : withinB (mkF c (1 + a % 3)).1 (-100000) 100000 = true ∧ FitF (mkF c (1 + a % 3)).1 := by
  have h1 := mk_frc (c + 128).toNat (by omega) (a % 3).toNat (by omega)
  rwa [show (((c + 128).toNat : Nat) : Int) - 128 = c by omega, show (((a % 3).toNat : Nat) : Int) = a % 3 by omega] at h1
/-- Keys of what is known. -/
structure WOK (W : Won) : Prop where
  dist : W.Pairwise fun e e' => e.1 ≠ e'.1
  nat : ∀ e ∈ W, 0 ≤ e.1.1 ∧ 0 ≤ e.1.2
theorem aset_mem {k : Int × Int} {v : Int × Int} : ∀ {W : Won} {e : (Int × Int) × (Int × Int)}, e ∈ aset k v W → e = (k, v) ∨ e ∈ W
  | [], e, h => .inl (by simpa [aset] using h)
  | (k', u) :: W, e, h => by
    unfold aset at h
    split at h
    · rename_i hk
      subst hk
      rcases List.mem_cons.1 h with h | h
      · exact .inl h
      · exact .inr (List.mem_cons_of_mem _ h)
    · rcases List.mem_cons.1 h with h | h
      · exact .inr (h ▸ List.mem_cons_self ..)
      · rcases aset_mem h with h | h
        · exact .inl h
        · exact .inr (List.mem_cons_of_mem _ h)
theorem WOK.set {k : Int × Int} {v : Int × Int} (h1 : 0 ≤ k.1) (h2 : 0 ≤ k.2) : ∀ {W : Won}, WOK W → WOK (aset k v W)
  | [], _ => ⟨by simp [aset], fun e he => by rw [show e = (k, v) by simpa [aset] using he]; exact ⟨h1, h2⟩⟩
  | (k', u) :: W, h => by
    refine ⟨?_, fun e he => ?_⟩
    · unfold aset
      obtain ⟨d1, d2⟩ := List.pairwise_cons.1 h.dist
      split
      · rename_i hk
        subst hk
        exact List.pairwise_cons.2 ⟨fun e he => d1 e he, d2⟩
      · rename_i hk
        refine List.pairwise_cons.2 ⟨fun e he => ?_, (WOK.set h1 h2 ⟨d2, fun e he => h.nat e (List.mem_cons_of_mem _ he)⟩).dist⟩
        rcases aset_mem he with rfl | he
        · exact fun e => hk e.symm
        · exact d1 e he
    · rcases aset_mem he with rfl | he
      · exact ⟨h1, h2⟩
      · exact h.nat e he
theorem WOK.get : ∀ {W : Won}, WOK W → ∀ e ∈ W, aget e.1 W = some e.2
  | [], _, e, he => by cases he
  | (k, u) :: W, h, e, he => by
    obtain ⟨d1, d2⟩ := List.pairwise_cons.1 h.dist
    unfold aget
    rcases List.mem_cons.1 he with rfl | he
    · simp
    · rw [if_neg (fun e' => d1 e he e'.symm)]
      exact WOK.get ⟨d2, fun e he => h.nat e (List.mem_cons_of_mem _ he)⟩ e he
theorem begW_ok (S : List Int) : ∀ k, WOK (begW S k)
  | 0 => ⟨.nil, fun _ h => by cases h⟩
  | k + 1 => by
    unfold begW
    split
    · exact (begW_ok S k).set (by simp) (by simp)
    · exact begW_ok S k
theorem tkR_ok {r : Nat} {S : List Int} {W : Won} {x : Rs} (h : WOK W) : WOK (tkR r S W x).2 := by
  unfold tkR
  split
  · exact h
  · rename_i hb
    have hn := badX_facts hb
    split
    · exact h
    · split
      · exact h
      · split
        · exact h.set hn.1 hn.2.2.1
        · exact h.set hn.1 hn.2.2.1
theorem plR_ok {r : Nat} {S : List Int} {l : List Rs} : ∀ (A : List Nat) {W : Won}, WOK W → WOK (plR r S l A W).2.2
  | [], _, h => h
  | i :: A, W, h => by
    unfold plR
    split
    · exact h
    · split
      · exact h
      · exact plR_ok A (tkR_ok h)
theorem val_done {S : List Int} {l : List Rs} {q i : Nat} {u : Int × Int} (h : val S l q i = some u) : doneB S l q i := by
  cases q with
  | zero =>
    unfold val at h
    split at h
    · rename_i hb; exact .inl ⟨rfl, hb⟩
    · obtain ⟨x, hx, _⟩ := Option.map_eq_some_iff.1 h
      exact .inr ⟨x, List.mem_of_find?_eq_some hx, List.find?_some hx⟩
  | succ q =>
    unfold val at h
    split at h
    · rename_i x v w hx hv hw
      exact .inr ⟨x, List.mem_of_find?_eq_some hx, List.find?_some hx⟩
    · cases h
/-- What is in W is the value of a match. -/
theorem stW_val {n : Nat} (h1 : 2 ≤ n) (h2 : n ≤ 64) {l : List Rs} (hG : Good n l) {e : (Int × Int) × (Int × Int)} (he : e ∈ stW n l) : ∃ q i : Nat, e.1 = ((q : Int), (i : Int)) ∧ val (seedsL n) l q i = some e.2 := by
  have hok : WOK (stW n l) := plR_ok _ (begW_ok _ _)
  obtain ⟨n1, n2⟩ := hok.nat e he
  have hg := hok.get e he
  have hI := (good_state h1 h2 hG).2
  refine ⟨e.1.1.toNat, e.1.2.toNat, Prod.ext (by simp; omega) (by simp; omega), ?_⟩
  have e1 : e.1 = ((e.1.1.toNat : Int), (e.1.2.toNat : Int)) := Prod.ext (by simp; omega) (by simp; omega)
  rw [e1] at hg
  by_cases hd : doneD (rnd n) (seedsL n) l (ordN l) e.1.1.toNat e.1.2.toNat
  · rw [← hI.yes _ _ hd]; exact hg
  · rw [hI.no _ _ hd] at hg; cases hg
theorem seeds_lim : ∀ n, n < 65 → 2 ≤ n → ∀ p, p < 64 → 0 ≤ (seedsL n).getD p 0 ∧ (seedsL n).getD p 0 ≤ n := by decide +kernel
theorem seeds_bd' {n : Nat} (h1 : 2 ≤ n) (h2 : n ≤ 64) (p : Nat) : 0 ≤ (seedsL n).getD p 0 ∧ (seedsL n).getD p 0 ≤ n := by
  by_cases hp : p < 64
  · exact seeds_lim n (by omega) h1 p hp
  · have hl := seedsL_len n
    have := Nat.pow_le_pow_right (show 0 < 2 by decide) (rnd_bd h1).2
    rw [List.getD_eq_getElem?_getD, List.getElem?_eq_none (by omega)]
    simp
theorem Came.bd {n : Nat} (h1 : 2 ≤ n) (h2 : n ≤ 64) {l : List Rs} {q p : Nat} {t : Int} (h : Came (seedsL n) l q p t) : 0 ≤ t ∧ t ≤ n := by
  rw [← h.1]; exact seeds_bd' h1 h2 p
/-- Who has come to a match that is not over has not lost, and has not won later. -/
theorem no_loss {S : List Int} {l : List Rs} (hU : Uniq S) {q p i : Nat} {t : Int} (hc : Came S l q p t) (hp : p / 2 ^ (q + 1) = i) (ht : t ≠ 0) (hn : ¬ doneB S l q i) {q' i' : Nat} {u : Int × Int} (hu : val S l q' i' = some u) : u.2 ≠ t ∧ (u.1 = t → q' < q) := by
  have key : ∀ p', Came S l q' p' t → p' / 2 ^ (q' + 1) = i' → q' < q ∧ p' = p := fun p' c d => by
    have e : p = p' := hU p p' (by rw [hc.1, c.1]) (by rw [hc.1]; exact ht)
    subst e
    refine ⟨?_, rfl⟩
    rcases Nat.lt_trichotomy q' q with hlt | he | hgt
    · exact hlt
    · subst he
      exact absurd (val_done hu) (by rw [← d, hp]; exact hn)
    · obtain ⟨v, hv, _⟩ := c.2 q hgt
      rw [hp] at hv
      exact absurd (val_done hv) hn
  refine ⟨fun e => ?_, fun e => ?_⟩
  · subst e
    obtain ⟨p', c, d⟩ := (val_came q' i' u hu).2 ht
    obtain ⟨hlt, rfl⟩ := key p' c d
    obtain ⟨v, hv, hv1⟩ := hc.2 q' hlt
    rw [d, hu] at hv
    obtain rfl := Option.some.inj hv
    exact val_ne hU q' i' u hu ht hv1
  · subst e
    obtain ⟨p', c, d⟩ := (val_came q' i' u hu).1
    exact (key p' c d).1
end Go.Idl
namespace Go.Idl
set_option linter.all false
open Go.Proofs
set_option maxHeartbeats 8000000
set_option maxRecDepth 40000

theorem opens_mem {n : Nat} {l : List Rs} {m : Mt} : m ∈ opens n l ↔ ∃ q i : Nat, q < rnd n ∧ i < matN (rnd n) q ∧ opM (seedsL n) (stW n l) q i = some m := by
  unfold opens opL opR
  simp only [List.mem_flatMap, List.mem_range, List.mem_filterMap]
  refine ⟨fun ⟨q, h1, i, h2, h3⟩ => ⟨q, i, h1, h2, h3⟩, fun ⟨q, i, h1, h2, h3⟩ => ⟨q, h1, i, h2, h3⟩⟩
theorem mat_in {r q : Nat} (h : q < r) : matN r (q : Int) = 2 ^ (r - 1 - q) := by unfold matN; rw [if_pos (by omega)]; simp
theorem key_bd {r q i : Nat} (h : q < r) (hi : i < 2 ^ (r - 1 - q)) : (i + 1) * 2 ^ q ≤ 2 ^ (r - 1) := by
  have e : 2 ^ (r - 1) = 2 ^ (r - 1 - q) * 2 ^ q := by rw [← Nat.pow_add]; congr 1; omega
  rw [e]
  exact Nat.mul_le_mul_right _ (by omega)
theorem key_half {k i P : Nat} (h : (i + 1) * 2 ^ (k + 1) ≤ P) : (2 * i + 1 + 1) * 2 ^ k ≤ P ∧ (2 * i + 1) * 2 ^ k ≤ P := by
  have hs2 : 2 ^ (k + 1) = 2 * 2 ^ k := Nat.pow_succ'
  have e : (i + 1) * 2 ^ (k + 1) = (2 * (i + 1)) * 2 ^ k := by rw [hs2, Nat.mul_comm 2 (i + 1), Nat.mul_assoc]
  rw [e] at h
  have b2 : (2 * i + 1 + 1) * 2 ^ k ≤ P := Nat.le_trans (Nat.mul_le_mul_right _ (by omega)) h
  exact ⟨b2, Nat.le_trans (Nat.mul_le_mul_right _ (by omega)) b2⟩
/-- A match that can be played: where its teams come from. -/
structure OpenM (n : Nat) (l : List Rs) (m : Mt) (q i p p' : Nat) : Prop where
  hq : q < rnd n
  hi : i < 2 ^ (rnd n - 1 - q)
  mr : m.r = q
  mi : m.i = i
  nd : ¬ doneB (seedsL n) l q i
  dn : 0 < q → doneB (seedsL n) l (q - 1) (2 * i) ∧ doneB (seedsL n) l (q - 1) (2 * i + 1)
  ca : Came (seedsL n) l q p m.a
  cb : Came (seedsL n) l q p' m.b
  pa : p / 2 ^ q = 2 * i
  pb : p' / 2 ^ q = 2 * i + 1
  na : m.a ≠ 0
  nb : m.b ≠ 0
theorem opens_facts {n : Nat} (h1 : 2 ≤ n) (h2 : n ≤ 64) {l : List Rs} (hG : Good n l) {m : Mt} (hm : m ∈ opens n l) : ∃ q i p p' : Nat, OpenM n l m q i p p' := by
  obtain ⟨q, i, hq, hi, ho⟩ := opens_mem.1 hm
  rw [mat_in hq] at hi
  have hb := key_bd hq hi
  have hS := firsts38 n (by omega) h1
  obtain ⟨he, hI⟩ := good_state h1 h2 hG
  obtain ⟨f1, f2, f3, f4⟩ := open_spec hG hS (ordN_ok l) hI hb ho
  unfold opM at ho
  split at ho
  · rename_i hc
    have hm' := (Option.some.inj ho).symm
    have ha : m.a = (sidW (seedsL n) (stW n l) q i).1 := by rw [hm']
    have hbb : m.b = (sidW (seedsL n) (stW n l) q i).2.1 := by rw [hm']
    cases q with
    | zero =>
      have e : sidW (seedsL n) (stW n l) 0 i = ((seedsL n).getD (2 * i) 0, (seedsL n).getD (2 * i + 1) 0, true) := by unfold sidW; rw [if_pos rfl]
      rw [e] at ha hbb
      refine ⟨0, i, 2 * i, 2 * i + 1, hq, hi, f1, f2, f3, f4, ⟨ha.symm, fun _ h => absurd h (by omega)⟩, ⟨hbb.symm, fun _ h => absurd h (by omega)⟩, by simp, by simp, ?_, ?_⟩
      · rw [ha]; exact hS i (by simpa using hi)
      · rw [hbb]; exact fun e => f3 (.inl ⟨rfl, e⟩)
    | succ k =>
      obtain ⟨b2, b1⟩ := key_half hb
      obtain ⟨d1, d2⟩ := f4 (by omega)
      rw [Nat.add_sub_cancel] at d1 d2
      have hlt : ∀ {c : Nat}, (c + 1) * 2 ^ k ≤ 2 ^ (rnd n - 1) → (k = 0 → c < 2 ^ (rnd n - 1)) := fun hc e => by subst e; omega
      obtain ⟨u, hu, hu0⟩ := hG.val_some hS k (2 * i) b1 d1
      obtain ⟨v, hv, hv0⟩ := hG.val_some hS k (2 * i + 1) b2 d2
      have e1 : (((k + 1 : Nat) : Int) - 1, 2 * (i : Int)) = ((k : Int), ((2 * i : Nat) : Int)) := by
        rw [show ((k + 1 : Nat) : Int) - 1 = k by omega, show 2 * (i : Int) = ((2 * i : Nat) : Int) by omega]
      have e2 : (((k + 1 : Nat) : Int) - 1, 2 * (i : Int) + 1) = ((k : Int), ((2 * i + 1 : Nat) : Int)) := by
        rw [show ((k + 1 : Nat) : Int) - 1 = k by omega, show 2 * (i : Int) + 1 = ((2 * i + 1 : Nat) : Int) by omega]
      have e : sidW (seedsL n) (stW n l) (k + 1) i = (u.1, v.1, true) := by
        unfold sidW
        rw [if_neg (by omega), e1, e2, hI.yes k (2 * i) ((doneD_iff (ordN_ok l) (hlt b1)).2 d1), hI.yes k (2 * i + 1) ((doneD_iff (ordN_ok l) (hlt b2)).2 d2), hu, hv]
        rfl
      rw [e] at ha hbb
      simp only at ha hbb
      obtain ⟨⟨p, c, d⟩, _⟩ := val_came k (2 * i) u hu
      obtain ⟨⟨p', c', d'⟩, _⟩ := val_came k (2 * i + 1) v hv
      refine ⟨k + 1, i, p, p', hq, hi, f1, f2, f3, f4, ?_, ?_, d, d', by rw [ha]; exact hu0, by rw [hbb]; exact hv0⟩
      · rw [ha]; exact c.next (by rw [d]; exact hu) rfl
      · rw [hbb]; exact c'.next (by rw [d']; exact hv) rfl
  · cases ho
theorem half_div {p q i c : Nat} (h : p / 2 ^ q = 2 * i + c) (hc : c < 2) : p / 2 ^ (q + 1) = i := by
  rw [Nat.pow_succ, ← Nat.div_div_eq_div_mul, h]; omega
theorem OpenM.side {n : Nat} {l : List Rs} {m : Mt} {q i p p' : Nat} (h : OpenM n l m q i p p') {t : Int} (ht : t = m.a ∨ t = m.b) : ∃ s, Came (seedsL n) l q s t ∧ s / 2 ^ (q + 1) = i ∧ t ≠ 0 := by
  rcases ht with rfl | rfl
  · exact ⟨p, h.ca, half_div (c := 0) h.pa (by decide), h.na⟩
  · exact ⟨p', h.cb, half_div (c := 1) h.pb (by decide), h.nb⟩
/-- A team is in one match alone that can be played. -/
theorem opens_apart {n : Nat} (h1 : 2 ≤ n) (h2 : n ≤ 64) {l : List Rs} (hG : Good n l) {m m' : Mt} (hm : m ∈ opens n l) (hm' : m' ∈ opens n l) {t : Int} (ht : t = m.a ∨ t = m.b) (ht' : t = m'.a ∨ t = m'.b) : m.r = m'.r ∧ m.i = m'.i := by
  obtain ⟨q, i, p1, p2, f⟩ := opens_facts h1 h2 hG hm
  obtain ⟨q', i', p1', p2', f'⟩ := opens_facts h1 h2 hG hm'
  obtain ⟨s, c, d, t0⟩ := f.side ht
  obtain ⟨s', c', d', _⟩ := f'.side ht'
  have e : s = s' := uniq38 h1 s s' (by rw [c.1, c'.1]) (by rw [c.1]; exact t0)
  subst e
  have key : q = q' := by
    rcases Nat.lt_trichotomy q q' with hlt | he | hgt
    · obtain ⟨v, hv, _⟩ := c'.2 q hlt
      rw [d] at hv
      exact absurd (val_done hv) f.nd
    · exact he
    · obtain ⟨v, hv, _⟩ := c.2 q' hgt
      rw [d'] at hv
      exact absurd (val_done hv) f'.nd
  subst key
  exact ⟨by rw [f.mr, f'.mr], by rw [f.mi, f'.mi, ← d, d']⟩
theorem opens_ne {n : Nat} (h1 : 2 ≤ n) (h2 : n ≤ 64) {l : List Rs} (hG : Good n l) {m : Mt} (hm : m ∈ opens n l) : m.a ≠ m.b := fun e => by
  obtain ⟨q, i, p1, p2, f⟩ := opens_facts h1 h2 hG hm
  have : p1 = p2 := uniq38 h1 p1 p2 (by rw [f.ca.1, f.cb.1, e]) (by rw [f.ca.1]; exact f.na)
  have h1 := f.pa
  have h2 := f.pb
  subst this
  omega
theorem opens_bd {n : Nat} (h1 : 2 ≤ n) (h2 : n ≤ 64) {l : List Rs} (hG : Good n l) {m : Mt} (hm : m ∈ opens n l) : (1 ≤ m.a ∧ m.a ≤ n) ∧ (1 ≤ m.b ∧ m.b ≤ n) ∧ (0 ≤ m.r ∧ m.r < 6) ∧ (0 ≤ m.i ∧ m.i < 32) := by
  obtain ⟨q, i, p1, p2, f⟩ := opens_facts h1 h2 hG hm
  have b1 := f.ca.bd h1 h2
  have b2 := f.cb.bd h1 h2
  have n1 := f.na
  have n2 := f.nb
  have hr := (rnd_bd h1).2
  have hq := f.hq
  have hi := f.hi
  have hm1 := f.mr
  have hm2 := f.mi
  have : 2 ^ (rnd n - 1 - q) ≤ 32 := Nat.le_trans (Nat.pow_le_pow_right (by decide) (show rnd n - 1 - q ≤ 5 by omega)) (by decide)
  omega
/-- Different matches of the list. -/
theorem opens_pw (n : Nat) (l : List Rs) : (opens n l).Pairwise fun m m' => ¬ (m.r = m'.r ∧ m.i = m'.i) := by
  have hk : ∀ {q i : Nat} {m : Mt}, opM (seedsL n) (stW n l) q i = some m → m.r = q ∧ m.i = i := fun {q i m} h => by
    unfold opM at h
    split at h
    · rw [← Option.some.inj h]; exact ⟨rfl, rfl⟩
    · cases h
  unfold opens opL opR
  refine List.pairwise_flatMap.2 ⟨fun q _ => ?_, ?_⟩
  · refine List.pairwise_filterMap.2 (List.nodup_range.imp ?_)
    intro i j hij m hm m' hm' hh
    have := (hk hm).2
    have := (hk hm').2
    omega
  · refine List.nodup_range.imp ?_
    intro q q' hqq m hm m' hm' hh
    obtain ⟨i, _, e⟩ := List.mem_filterMap.1 hm
    obtain ⟨i', _, e'⟩ := List.mem_filterMap.1 hm'
    have := (hk e).1
    have := (hk e').1
    omega
theorem mkX_fit {m : Mt} (h : (0 ≤ m.r ∧ m.r < 6) ∧ (0 ≤ m.i ∧ m.i < 32)) {x : Sm} (hx : FitS x) : FitR (mkX m x) := by
  obtain ⟨x1, x2, x3, x4⟩ := hx
  refine ⟨?_, ?_, ?_, ?_, (mk_frc' x4 x2.1).2⟩ <;> simp only [mkX] <;> omega
/-- A result of a match that can be played makes a state again. -/
theorem next_good {n : Nat} (h1 : 2 ≤ n) (h2 : n ≤ 64) {l : List Rs} (hG : Good n l) {m : Mt} (hm : m ∈ opens n l) {x : Sm} (hx : FitS x) : Good n (l ++ [mkX m x]) := by
  obtain ⟨q, i, p1, p2, f⟩ := opens_facts h1 h2 hG hm
  obtain ⟨x1, x2, x3, x4⟩ := hx
  refine hG.snoc (q := q) (i := i) (isM_key.2 ⟨f.mr, f.mi⟩) ?_ f.nd f.dn
  have hmi := f.mi
  have hi := f.hi
  have hw := (mk_frc' x4 x2.1).1
  unfold badX mkX
  simp only
  rw [f.mr, mat_in f.hq, hw]
  simp only [Bool.true_eq_false, or_false]
  omega
end Go.Idl
namespace Go.Idl
set_option linter.all false
open Go.Proofs
set_option maxHeartbeats 8000000
set_option maxRecDepth 40000

theorem aget_in {k : Int × Int} {v : Int × Int} : ∀ {W : Won}, aget k W = some v → (k, v) ∈ W
  | [], h => by cases h
  | (k', u) :: W, h => by
    unfold aget at h
    split at h
    · rename_i hk; subst hk; rw [Option.some.inj h]; exact List.mem_cons_self ..
    · exact List.mem_cons_of_mem _ (aget_in h)
/-- Who has lost by a result. -/
def loser (S : List Int) (l : List Rs) (x : Rs) : Int := ((val S l x.r.toNat x.i.toNat).getD (0, 0)).2
def losers (n : Nat) (l : List Rs) : List Int := l.map (loser (seedsL n) l)
theorem GoodL.key {r : Nat} {S : List Int} {l : List Rs} (h : GoodL r S l) {x : Rs} (hx : x ∈ l) : ∃ q i : Nat, q < r ∧ i < 2 ^ (r - 1 - q) ∧ x.r = q ∧ x.i = i ∧ isM q i x = true := by
  obtain ⟨f1, f2, f3, f4⟩ := badX_facts (h.right x hx)
  refine ⟨x.r.toNat, x.i.toNat, by omega, ?_, by omega, by omega, isM_key.2 ⟨by omega, by omega⟩⟩
  rw [show x.r = ((x.r.toNat : Nat) : Int) by omega, mat_in (by omega)] at f4
  omega
theorem res_val {n : Nat} (h1 : 2 ≤ n) (h2 : n ≤ 64) {l : List Rs} (hG : Good n l) {x : Rs} (hx : x ∈ l) {q i : Nat} (hk : isM q i x = true) : ∃ u, val (seedsL n) l q i = some u ∧ u.1 ≠ 0 ∧ u.2 ≠ 0 := by
  have hS := firsts38 n (by omega) h1
  obtain ⟨q', i', hq, hi, e1, e2, _⟩ := hG.key hx
  obtain ⟨k1, k2⟩ := isM_key.1 hk
  obtain rfl : q' = q := by omega
  obtain rfl : i' = i := by omega
  have hb := key_bd hq hi
  cases q' with
  | zero =>
    have hf := hG.first x hx (by omega)
    rw [show x.i.toNat = i' by omega] at hf
    unfold val
    rw [if_neg hf, hG.find hx hk]
    exact ⟨_, rfl, resW_ne (hS i' (by simpa using hi)) hf⟩
  | succ k =>
    obtain ⟨b2, b1⟩ := key_half hb
    obtain ⟨d1, d2⟩ := hG.later x hx (by omega)
    rw [show x.r.toNat - 1 = k by omega, show x.i.toNat = i' by omega] at d1 d2
    obtain ⟨u, hu, hu0⟩ := hG.val_some hS k (2 * i') b1 d1
    obtain ⟨v, hv, hv0⟩ := hG.val_some hS k (2 * i' + 1) b2 d2
    unfold val
    rw [hG.find hx hk, hu, hv]
    exact ⟨_, rfl, resW_ne hu0 hv0⟩
theorem loser_val {n : Nat} (h1 : 2 ≤ n) (h2 : n ≤ 64) {l : List Rs} (hG : Good n l) {x : Rs} (hx : x ∈ l) {q i : Nat} (hk : isM q i x = true) : ∃ u, val (seedsL n) l q i = some u ∧ u.2 ≠ 0 ∧ loser (seedsL n) l x = u.2 := by
  obtain ⟨u, hu, _, hu0⟩ := res_val h1 h2 hG hx hk
  refine ⟨u, hu, hu0, ?_⟩
  obtain ⟨k1, k2⟩ := isM_key.1 hk
  unfold loser
  rw [show x.r.toNat = q by omega, show x.i.toNat = i by omega, hu]
  rfl
theorem val_bd {n : Nat} (h1 : 2 ≤ n) (h2 : n ≤ 64) {l : List Rs} {q i : Nat} {u : Int × Int} (h : val (seedsL n) l q i = some u) : (0 ≤ u.1 ∧ u.1 ≤ n) ∧ (0 ≤ u.2 ∧ u.2 ≤ n) := by
  obtain ⟨⟨p, c, _⟩, hh⟩ := val_came q i u h
  refine ⟨c.bd h1 h2, ?_⟩
  by_cases h0 : u.2 = 0
  · rw [h0]; omega
  · obtain ⟨p', c', _⟩ := hh h0
    exact c'.bd h1 h2
theorem losers_nd {n : Nat} (h1 : 2 ≤ n) (h2 : n ≤ 64) {l : List Rs} (hG : Good n l) : (losers n l).Nodup := by
  unfold losers
  refine List.pairwise_map.2 (hG.dist.imp_of_mem fun {x y} hx hy hne e => hne ?_)
  obtain ⟨q, i, _, _, a1, a2, hk⟩ := hG.key hx
  obtain ⟨q', i', _, _, b1, b2, hk'⟩ := hG.key hy
  obtain ⟨u, hu, hu0, eu⟩ := loser_val h1 h2 hG hx hk
  obtain ⟨v, hv, hv0, ev⟩ := loser_val h1 h2 hG hy hk'
  rw [eu, ev] at e
  obtain ⟨c1, c2⟩ := lost_once (uniq38 h1) hu hv hu0 e
  omega
theorem losers_bd {n : Nat} (h1 : 2 ≤ n) (h2 : n ≤ 64) {l : List Rs} (hG : Good n l) {t : Int} (ht : t ∈ losers n l) : 1 ≤ t ∧ t ≤ n := by
  obtain ⟨x, hx, rfl⟩ := List.mem_map.1 ht
  obtain ⟨q, i, _, _, a1, a2, hk⟩ := hG.key hx
  obtain ⟨u, hu, hu0, eu⟩ := loser_val h1 h2 hG hx hk
  have := (val_bd h1 h2 hu).2
  omega
theorem doneD_res {n : Nat} {l : List Rs} {x : Rs} (hx : x ∈ l) {q i : Nat} (hk : isM q i x = true) : doneD (rnd n) (seedsL n) l (ordN l) q i := by
  obtain ⟨j, hj, rfl⟩ := List.getElem_of_mem hx
  exact .inr ⟨j, (ordN_ok l).1.mem_iff.2 (by simp [idL, hj]), _, List.getElem?_eq_getElem hj, hk⟩
theorem lost_iff {n : Nat} (h1 : 2 ≤ n) (h2 : n ≤ 64) {l : List Rs} (hG : Good n l) {t : Int} (ht : t ≠ 0) : t ∈ losers n l ↔ ∃ e ∈ stW n l, e.2.2 = t := by
  have hI := (good_state h1 h2 hG).2
  refine ⟨fun h => ?_, fun ⟨e, he, h⟩ => ?_⟩
  · obtain ⟨x, hx, rfl⟩ := List.mem_map.1 h
    obtain ⟨q, i, _, _, a1, a2, hk⟩ := hG.key hx
    obtain ⟨u, hu, hu0, eu⟩ := loser_val h1 h2 hG hx hk
    have hg := hI.yes q i (doneD_res hx hk)
    rw [hu] at hg
    exact ⟨_, aget_in hg, eu.symm⟩
  · obtain ⟨q, i, e1, hv⟩ := stW_val h1 h2 hG he
    rcases val_done hv with ⟨rfl, hb⟩ | ⟨x, hx, hk⟩
    · unfold val at hv
      rw [if_pos hb] at hv
      rw [← Option.some.inj hv] at h
      exact absurd h.symm ht
    · obtain ⟨u, hu, _, eu⟩ := loser_val h1 h2 hG hx hk
      rw [hu] at hv
      obtain rfl := Option.some.inj hv
      exact List.mem_map.2 ⟨x, hx, by rw [eu]; exact h⟩
theorem lose_ok {n : Nat} (h1 : 2 ≤ n) (h2 : n ≤ 64) {l : List Rs} (hG : Good n l) : LoseOK n (stW n l) := by
  refine ⟨fun e he => ?_, fun e he e' he' h0 hh => ?_⟩
  · obtain ⟨q, i, e1, hv⟩ := stW_val h1 h2 hG he
    exact (val_bd h1 h2 hv).2
  · obtain ⟨q, i, e1, hv⟩ := stW_val h1 h2 hG he
    obtain ⟨q', i', e1', hv'⟩ := stW_val h1 h2 hG he'
    rw [e1, e1', (lost_once (uniq38 h1) hv hv' h0 hh).1]
theorem stW_get {n : Nat} (h1 : 2 ≤ n) (h2 : n ≤ 64) {l : List Rs} (hG : Good n l) {q i : Nat} {v : Int × Int} (h : aget ((q : Int), (i : Int)) (stW n l) = some v) : val (seedsL n) l q i = some v := by
  have hI := (good_state h1 h2 hG).2
  by_cases hd : doneD (rnd n) (seedsL n) l (ordN l) q i
  · rw [← hI.yes q i hd]; exact h
  · rw [hI.no q i hd] at h; cases h
theorem champ_bd {n : Nat} (h1 : 2 ≤ n) (h2 : n ≤ 64) {l : List Rs} (hG : Good n l) : ∀ v, aget ((rnd n : Int) - 1, 0) (stW n l) = some v → 1 ≤ v.1 ∧ v.1 ≤ n := fun v hv => by
  have hr := (rnd_bd h1).1
  rw [show (rnd n : Int) - 1 = ((rnd n - 1 : Nat) : Int) by omega] at hv
  have hv' := stW_get (i := 0) h1 h2 hG hv
  obtain ⟨u, hu, hu0⟩ := hG.val_some (firsts38 n (by omega) h1) (rnd n - 1) 0 (by simp) (val_done hv')
  rw [hu] at hv'
  obtain rfl := Option.some.inj hv'
  have := (val_bd h1 h2 hu).1
  omega
/-- All teams come to the last match. -/
theorem Came.last {n : Nat} (h1 : 2 ≤ n) {l : List Rs} {q p : Nat} {t : Int} (h : Came (seedsL n) l q p t) (ht : t ≠ 0) : p / 2 ^ (rnd n) = 0 := by
  have hp : p < (seedsL n).length := Classical.byContradiction fun hh => ht (by rw [← h.1, List.getD_eq_getElem?_getD, List.getElem?_eq_none (by omega)]; rfl)
  rw [seedsL_len n] at hp
  exact Nat.div_eq_of_lt hp
/-- The champion has not lost. -/
theorem champ_no {n : Nat} (h1 : 2 ≤ n) (h2 : n ≤ 64) {l : List Rs} (hG : Good n l) {v : Int × Int} (hv : val (seedsL n) l (rnd n - 1) 0 = some v) : v.1 ∉ losers n l := fun hm => by
  have h0 : v.1 ≠ 0 := by have := losers_bd h1 h2 hG hm; omega
  obtain ⟨x, hx, e⟩ := List.mem_map.1 hm
  obtain ⟨q, i, hq, hi, a1, a2, hk⟩ := hG.key hx
  obtain ⟨u, hu, hu0, eu⟩ := loser_val h1 h2 hG hx hk
  have euv : u.2 = v.1 := by rw [← eu, e]
  obtain ⟨p, c, d⟩ := (val_came q i u hu).2 hu0
  obtain ⟨p', c', d'⟩ := (val_came (rnd n - 1) 0 v hv).1
  have : p = p' := uniq38 h1 p p' (by rw [c.1, c'.1, euv]) (by rw [c.1]; exact hu0)
  subst this
  have c2 := c'.next (by rw [d']; exact hv) rfl
  obtain ⟨w, hw, hw1⟩ := c2.2 q (by omega)
  rw [d, hu] at hw
  obtain rfl := Option.some.inj hw
  exact val_ne (uniq38 h1) q i u hu hu0 (by rw [hw1, euv])
def placesG (n : Nat) (l : List Rs) : List Int := placesL (rnd n) n (stW n l)
theorem plT_in {n : Nat} (h1 : 2 ≤ n) (h2 : n ≤ 64) {l : List Rs} (hG : Good n l) (t : Nat) : (((t : Int) + 1 ∈ losers n l → 1 < plT (rnd n) (stW n l) t) ∧ ((t : Int) + 1 ∉ losers n l → plT (rnd n) (stW n l) t = 0)) := by
  have hl := lost_iff h1 h2 hG (show (t : Int) + 1 ≠ 0 by omega)
  refine ⟨fun h => ?_, fun h => ?_⟩
  · obtain ⟨e, he, h'⟩ := hl.1 h
    unfold plT
    split
    · rename_i hf
      exact absurd h' (by simpa using List.find?_eq_none.1 hf e he)
    · rename_i e' hf
      have hp := List.find?_some hf
      simp only [decide_eq_true_eq] at hp
      obtain ⟨q, i, e1, hv⟩ := stW_val h1 h2 hG (List.mem_of_find?_eq_some hf)
      have hd := val_done hv
      have hq : q < rnd n := by
        rcases hd with ⟨rfl, _⟩ | ⟨x, hx, hk⟩
        · have := (rnd_bd h1).1; omega
        · obtain ⟨q', i', hq, _, a1, _, _⟩ := hG.key hx
          have := (isM_key.1 hk).1
          omega
      rw [e1]
      simp only
      rw [mat_in hq]
      have := Nat.pow_pos (n := rnd n - 1 - q) (show 0 < 2 by decide)
      omega
  · unfold plT
    split
    · rfl
    · rename_i e' hf
      have hp := List.find?_some hf
      simp only [decide_eq_true_eq] at hp
      exact absurd (hl.2 ⟨e', List.mem_of_find?_eq_some hf, hp⟩) h
theorem placesG_len (n : Nat) (l : List Rs) : (placesG n l).length = n := by
  unfold placesG placesL
  split <;> simp
theorem places_in {n : Nat} (h1 : 2 ≤ n) (h2 : n ≤ 64) {l : List Rs} (hG : Good n l) (t : Nat) (ht : t < n) : 1 < (placesG n l).getD t 0 ↔ (t : Int) + 1 ∈ losers n l := by
  obtain ⟨k1, k2⟩ := plT_in h1 h2 hG t
  have e0 : ((List.range n).map (plT (rnd n) (stW n l))).getD t 0 = plT (rnd n) (stW n l) t := by simp [ht]
  have base : 1 < plT (rnd n) (stW n l) t ↔ (t : Int) + 1 ∈ losers n l := ⟨fun h => Classical.byContradiction fun hn => by rw [k2 hn] at h; omega, k1⟩
  unfold placesG placesL
  split
  · rw [e0]; exact base
  · rename_i v hv
    have hb := champ_bd h1 h2 hG v hv
    have hr := (rnd_bd h1).1
    rw [show (rnd n : Int) - 1 = ((rnd n - 1 : Nat) : Int) by omega] at hv
    have hno := champ_no h1 h2 hG (stW_get (i := 0) h1 h2 hG hv)
    by_cases e : (v.1 - 1).toNat = t
    · have e2 : ((List.range n).map (plT (rnd n) (stW n l)) |>.set (v.1 - 1).toNat 1).getD t 0 = 1 := by
        simp only [List.getD_eq_getElem?_getD, List.getElem?_set]
        rw [if_pos e, if_pos (by simp; omega)]
        rfl
      rw [e2]
      refine ⟨fun h => absurd h (by omega), fun h => absurd h ?_⟩
      rw [show (t : Int) + 1 = v.1 by omega]
      exact hno
    · have e2 : ((List.range n).map (plT (rnd n) (stW n l)) |>.set (v.1 - 1).toNat 1).getD t 0 = ((List.range n).map (plT (rnd n) (stW n l))).getD t 0 := by
        simp only [List.getD_eq_getElem?_getD, List.getElem?_set]
        rw [if_neg e]
      rw [e2, e0]
      exact base
/-- Who is in a match that can be played has no place. -/
theorem places_open {n : Nat} (h1 : 2 ≤ n) (h2 : n ≤ 64) {l : List Rs} (hG : Good n l) {m : Mt} (hm : m ∈ opens n l) {t : Int} (ht : t = m.a ∨ t = m.b) : (placesG n l).getD (t - 1).toNat 0 = 0 := by
  obtain ⟨q, i, p1, p2, f⟩ := opens_facts h1 h2 hG hm
  obtain ⟨s, c, d, t0⟩ := f.side ht
  have hb := c.bd h1 h2
  obtain ⟨k, hk⟩ : ∃ k, (t - 1).toNat = k := ⟨_, rfl⟩
  have hkt : (k : Int) + 1 = t := by omega
  have hnl : (k : Int) + 1 ∉ losers n l := fun hl => by
    obtain ⟨e, he, e2⟩ := (lost_iff h1 h2 hG (by omega)).1 hl
    obtain ⟨q', i', e1, hv⟩ := stW_val h1 h2 hG he
    exact (no_loss (uniq38 h1) c d t0 f.nd hv).1 (by rw [e2, hkt])
  have k2 := (plT_in h1 h2 hG k).2 hnl
  have e0 : ((List.range n).map (plT (rnd n) (stW n l))).getD k 0 = plT (rnd n) (stW n l) k := by simp [show k < n by omega]
  rw [hk]
  unfold placesG placesL
  split
  · rw [e0]; exact k2
  · rename_i v hv
    have hr := (rnd_bd h1).1
    have hcb := champ_bd h1 h2 hG v hv
    rw [show (rnd n : Int) - 1 = ((rnd n - 1 : Nat) : Int) by omega] at hv
    have hne : v.1 ≠ t := fun e => by
      have := (no_loss (uniq38 h1) c d t0 f.nd (stW_get (i := 0) h1 h2 hG hv)).2 e
      have := f.hq
      omega
    have e2 : ((List.range n).map (plT (rnd n) (stW n l)) |>.set (v.1 - 1).toNat 1).getD k 0 = ((List.range n).map (plT (rnd n) (stW n l))).getD k 0 := by
      simp only [List.getD_eq_getElem?_getD, List.getElem?_set]
      rw [if_neg (by omega)]
    rw [e2, e0]
    exact k2
/-- How many are out. -/
theorem gone_len {n : Nat} (h1 : 2 ≤ n) (h2 : n ≤ 64) {l : List Rs} (hG : Good n l) : (placesG n l).countP (fun p => decide (1 < p)) = l.length := by
  have e1 : placesG n l = (List.range n).map fun t => (placesG n l).getD t 0 := List.ext_getElem (by simp [placesG_len]) fun i h h' => by simp [h]
  have e2 : (placesG n l).countP (fun p => decide (1 < p)) = (List.range n).countP fun t : Nat => decide ((t : Int) + 1 ∈ losers n l) := by
    rw [e1, List.countP_map]
    refine List.countP_congr fun t ht => ?_
    simp only [Function.comp, decide_eq_true_eq]
    exact places_in h1 h2 hG t (List.mem_range.1 ht)
  rw [e2, List.countP_eq_length_filter]
  have e3 : (((List.range n).filter fun t : Nat => decide ((t : Int) + 1 ∈ losers n l)).map fun t : Nat => (t : Int) + 1).Perm (losers n l) := by
    refine (List.perm_ext_iff_of_nodup ?_ (losers_nd h1 h2 hG)).2 fun a => ?_
    · refine List.pairwise_map.2 ((List.nodup_range.filter _).imp fun {a b} h e => h (by omega))
    · simp only [List.mem_map, List.mem_filter, List.mem_range, decide_eq_true_eq]
      refine ⟨fun ⟨t, ⟨_, h⟩, e⟩ => e ▸ h, fun h => ?_⟩
      have hb := losers_bd h1 h2 hG h
      exact ⟨(a - 1).toNat, ⟨by omega, by rw [show (((a - 1).toNat : Nat) : Int) + 1 = a by omega]; exact h⟩, by omega⟩
  have := e3.length_eq
  rw [List.length_map] at this
  rw [this]
  simp [losers]
/-- All matches that are played. -/
def keysN (n : Nat) : List (Nat × Nat) := (List.range (rnd n)).flatMap fun q => ((List.range (2 ^ (rnd n - 1 - q))).filter fun i => !decide (q = 0 ∧ (seedsL n).getD (2 * i + 1) 0 = 0)).map fun i => (q, i)
theorem keysN_len : ∀ n, n < 65 → 2 ≤ n → (keysN n).length = n - 1 := by decide +kernel
theorem keysN_nd : ∀ n, n < 65 → 2 ≤ n → (keysN n).Nodup := by decide +kernel
theorem keysN_mem {n q i : Nat} : (q, i) ∈ keysN n ↔ q < rnd n ∧ i < 2 ^ (rnd n - 1 - q) ∧ ¬ (q = 0 ∧ (seedsL n).getD (2 * i + 1) 0 = 0) := by
  unfold keysN
  simp only [List.mem_flatMap, List.mem_range, List.mem_map, List.mem_filter, Bool.not_eq_true', decide_eq_false_iff_not, Prod.mk.injEq]
  refine ⟨fun ⟨q', h1, i', ⟨h2, h3⟩, e1, e2⟩ => ?_, fun ⟨h1, h2, h3⟩ => ⟨q, h1, i, ⟨h2, h3⟩, rfl, rfl⟩⟩
  subst e1 e2
  exact ⟨h1, h2, h3⟩
def keysL (l : List Rs) : List (Nat × Nat) := l.map fun x => (x.r.toNat, x.i.toNat)
theorem keysL_nd {r : Nat} {S : List Int} {l : List Rs} (hG : GoodL r S l) : (keysL l).Nodup := by
  unfold keysL
  refine List.pairwise_map.2 (hG.dist.imp_of_mem fun {x y} hx hy hne e => hne ?_)
  obtain ⟨q, i, _, _, a1, a2, _⟩ := hG.key hx
  obtain ⟨q', i', _, _, b1, b2, _⟩ := hG.key hy
  simp only [Prod.mk.injEq] at e
  omega
theorem keysL_sub {n : Nat} {l : List Rs} (hG : Good n l) : ∀ k ∈ keysL l, k ∈ keysN n := fun k hk => by
  obtain ⟨x, hx, rfl⟩ := List.mem_map.1 hk
  obtain ⟨q, i, hq, hi, a1, a2, _⟩ := hG.key hx
  refine keysN_mem.2 ⟨by omega, by rw [show x.r.toNat = q by omega]; omega, fun ⟨e1, e2⟩ => ?_⟩
  exact hG.first x hx (by omega) e2
theorem keysL_mem {l : List Rs} {q i : Nat} {r : Nat} {S : List Int} (hG : GoodL r S l) : (q, i) ∈ keysL l ↔ ∃ x ∈ l, isM q i x = true := by
  unfold keysL
  simp only [List.mem_map, Prod.mk.injEq]
  refine ⟨fun ⟨x, hx, e1, e2⟩ => ?_, fun ⟨x, hx, hk⟩ => ?_⟩
  · obtain ⟨q', i', _, _, a1, a2, _⟩ := hG.key hx
    exact ⟨x, hx, isM_key.2 ⟨by omega, by omega⟩⟩
  · obtain ⟨k1, k2⟩ := isM_key.1 hk
    exact ⟨x, hx, by omega, by omega⟩
theorem good_len {n : Nat} (h1 : 2 ≤ n) (h2 : n ≤ 64) {l : List Rs} (hG : Good n l) : l.length ≤ n - 1 := by
  have := (keysL_nd hG).length_le_of_subset (l₂ := keysN n) fun k hk => keysL_sub hG k hk
  rw [keysN_len n (by omega) h1] at this
  simpa [keysL] using this
theorem all_done {n : Nat} (h1 : 2 ≤ n) (h2 : n ≤ 64) {l : List Rs} (hG : Good n l) : l.length = n - 1 ↔ ∀ q i, q < rnd n → i < 2 ^ (rnd n - 1 - q) → doneB (seedsL n) l q i := by
  refine ⟨fun hl q i hq hi => Classical.byContradiction fun hn => ?_, fun h => ?_⟩
  · have hm : (q, i) ∈ keysN n := keysN_mem.2 ⟨hq, hi, fun hh => hn (.inl hh)⟩
    have hnm : (q, i) ∉ keysL l := fun hh => hn (.inr ((keysL_mem hG).1 hh))
    have := (List.nodup_cons.2 ⟨hnm, keysL_nd hG⟩).length_le_of_subset (l₂ := keysN n) fun k hk => by
      rcases List.mem_cons.1 hk with rfl | hk
      · exact hm
      · exact keysL_sub hG k hk
    rw [keysN_len n (by omega) h1] at this
    simp [keysL] at this
    omega
  · have hg := good_len h1 h2 hG
    have := (keysN_nd n (by omega) h1).length_le_of_subset (l₂ := keysL l) fun k hk => by
      obtain ⟨q, i⟩ := k
      obtain ⟨a1, a2, a3⟩ := keysN_mem.1 hk
      rcases h q i a1 a2 with hb | hx
      · exact absurd hb a3
      · exact (keysL_mem hG).2 hx
    rw [keysN_len n (by omega) h1] at this
    simp [keysL] at this
    omega
theorem opens_done {n : Nat} (h1 : 2 ≤ n) (h2 : n ≤ 64) {l : List Rs} (hG : Good n l) (hd : ∀ q i, q < rnd n → i < 2 ^ (rnd n - 1 - q) → doneB (seedsL n) l q i) : opens n l = [] := by
  refine List.eq_nil_iff_forall_not_mem.2 fun m hm => ?_
  obtain ⟨q, i, p1, p2, f⟩ := opens_facts h1 h2 hG hm
  exact f.nd (hd q i f.hq f.hi)
theorem done_opens {n : Nat} (h1 : 2 ≤ n) (h2 : n ≤ 64) {l : List Rs} (hG : Good n l) (ho : opens n l = []) : ∀ q i, q < rnd n → i < 2 ^ (rnd n - 1 - q) → doneB (seedsL n) l q i
  | q, i, hq, hi => Classical.byContradiction fun hn => by
    have hI := (good_state h1 h2 hG).2
    have hb := key_bd hq hi
    have hsd : (sidW (seedsL n) (stW n l) q i).2.2 = true := by
      cases q with
      | zero => unfold sidW; rw [if_pos rfl]
      | succ k =>
        have hp : 2 ^ (rnd n - 1 - k) = 2 * 2 ^ (rnd n - 1 - (k + 1)) := by rw [← Nat.pow_succ']; congr 1; omega
        have d1 := done_opens h1 h2 hG ho k (2 * i) (by omega) (by omega)
        have d2 := done_opens h1 h2 hG ho k (2 * i + 1) (by omega) (by omega)
        obtain ⟨b2, b1⟩ := key_half hb
        have hlt : ∀ {c : Nat}, (c + 1) * 2 ^ k ≤ 2 ^ (rnd n - 1) → (k = 0 → c < 2 ^ (rnd n - 1)) := fun hc e => by subst e; omega
        obtain ⟨u, hu, hu0⟩ := hG.val_some (firsts38 n (by omega) h1) k (2 * i) b1 d1
        obtain ⟨v, hv, hv0⟩ := hG.val_some (firsts38 n (by omega) h1) k (2 * i + 1) b2 d2
        have e1 : (((k + 1 : Nat) : Int) - 1, 2 * (i : Int)) = ((k : Int), ((2 * i : Nat) : Int)) := by
          rw [show ((k + 1 : Nat) : Int) - 1 = k by omega, show 2 * (i : Int) = ((2 * i : Nat) : Int) by omega]
        have e2 : (((k + 1 : Nat) : Int) - 1, 2 * (i : Int) + 1) = ((k : Int), ((2 * i + 1 : Nat) : Int)) := by
          rw [show ((k + 1 : Nat) : Int) - 1 = k by omega, show 2 * (i : Int) + 1 = ((2 * i + 1 : Nat) : Int) by omega]
        unfold sidW
        rw [if_neg (by omega), e1, e2, hI.yes k (2 * i) ((doneD_iff (ordN_ok l) (hlt b1)).2 d1), hI.yes k (2 * i + 1) ((doneD_iff (ordN_ok l) (hlt b2)).2 d2), hu, hv]
        rfl
    have hnone : aget ((q : Int), (i : Int)) (stW n l) = none := hI.no q i fun hd => hn ((doneD_iff (ordN_ok l) (fun e => by subst e; omega)).1 hd)
    have hm : (⟨q, i, (sidW (seedsL n) (stW n l) q i).1, (sidW (seedsL n) (stW n l) q i).2.1⟩ : Mt) ∈ opens n l := opens_mem.2 ⟨q, i, hq, by rw [mat_in hq]; exact hi, by unfold opM; rw [if_pos ⟨hsd, hnone⟩]⟩
    rw [ho] at hm
    cases hm
/-- The event is over exactly when all have a result. -/
theorem over_iff {n : Nat} (h1 : 2 ≤ n) (h2 : n ≤ 64) {l : List Rs} (hG : Good n l) : opens n l = [] ↔ l.length = n - 1 :=
  ⟨fun h => (all_done h1 h2 hG).2 (done_opens h1 h2 hG h), fun h => opens_done h1 h2 hG ((all_done h1 h2 hG).1 h)⟩
end Go.Idl
