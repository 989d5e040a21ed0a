/-
  Chapter 27: tables that share a set (plain).
  Chapter 27: the tables by their sets: what is kept of them on the way (plain).
-/
import Derived.Test.YtjmjdjdabmlgeaaC27PartD
import Derived.Test.YtjmjdjdabmlgeaaIdlPartN
import Derived.Test.YtjmjdjdabmlgeaaIdlPartK
namespace Go.Idl
set_option linter.all false

/-- Whether two tables have a set together. -/
def bothB (l : List Rw) (r a b : Int) : Bool := l.any fun x => x.r == r && x.t == a && hasB l r b x.s
theorem bothB_iff {l : List Rw} {r a b : Int} : bothB l r a b = true ↔ ∃ x ∈ l, x.r = r ∧ x.t = a ∧ hasB l r b x.s = true := by
  simp [bothB, and_assoc]
/-- The pairs that begin with the element i. -/
def rowP (B : Int → Int → Bool) (L : List Int) (i : Nat) : List (Int × Int) := match L.drop i with
  | [] => []
  | a :: M => (M.filter (B a)).map fun b => (a, b)
def shI (B : Int → Int → Bool) (L : List Int) (i : Nat) : List (Int × Int) := (List.range i).flatMap (rowP B L)
def prsL (B : Int → Int → Bool) : List Int → List (Int × Int)
  | [] => []
  | a :: L => (L.filter (B a)).map (fun b => (a, b)) ++ prsL B L
theorem shI_all (B : Int → Int → Bool) : ∀ L : List Int, shI B L L.length = prsL B L
  | [] => rfl
  | a :: L => by
    have ih := shI_all B L
    unfold shI at ih ⊢
    rw [List.length_cons, List.range_succ_eq_map, List.flatMap_cons, List.flatMap_map]
    simp only [prsL]
    rw [← ih]
    rfl
theorem shI_succ (B : Int → Int → Bool) (L : List Int) (i : Nat) : shI B L (i + 1) = shI B L i ++ rowP B L i := by
  unfold shI
  rw [List.range_succ, List.flatMap_append]; simp
def lexLt (p q : Int × Int) : Prop := p.1 < q.1 ∨ p.1 = q.1 ∧ p.2 < q.2
instance (p q : Int × Int) : Decidable (lexLt p q) := inferInstanceAs (Decidable (_ ∨ _))
theorem mem_prsL {B : Int → Int → Bool} : ∀ {L : List Int}, Inc L → ∀ {a b : Int}, (a, b) ∈ prsL B L ↔ a ∈ L ∧ b ∈ L ∧ a < b ∧ B a b = true
  | [], _, a, b => by simp [prsL]
  | c :: L, h, a, b => by
    obtain ⟨h1, h2⟩ := List.pairwise_cons.1 h
    have ih := mem_prsL (B := B) (L := L) h2 (a := a) (b := b)
    simp only [prsL, List.mem_append, List.mem_map, List.mem_filter, Prod.mk.injEq, ih, List.mem_cons]
    constructor
    · rintro (⟨x, ⟨hx, hB⟩, rfl, rfl⟩ | ⟨ha, hb, hlt, hB⟩)
      · exact ⟨.inl rfl, .inr hx, h1 _ hx, hB⟩
      · exact ⟨.inr ha, .inr hb, hlt, hB⟩
    · rintro ⟨ha, hb, hlt, hB⟩
      rcases ha with rfl | ha
      · rcases hb with rfl | hb
        · omega
        · exact .inl ⟨b, ⟨hb, hB⟩, rfl, rfl⟩
      · rcases hb with rfl | hb
        · have := h1 _ ha; omega
        · exact .inr ⟨ha, hb, hlt, hB⟩
theorem prsL_lex {B : Int → Int → Bool} : ∀ {L : List Int}, Inc L → (prsL B L).Pairwise lexLt
  | [], _ => .nil
  | c :: L, h => by
    obtain ⟨h1, h2⟩ := List.pairwise_cons.1 h
    refine List.pairwise_append.2 ⟨List.pairwise_map.2 ((h2.filter _).imp fun h => .inr ⟨rfl, h⟩), prsL_lex h2, ?_⟩
    rintro p hp ⟨a, b⟩ hq
    obtain ⟨x, _, rfl⟩ := List.mem_map.1 hp
    exact .inl (h1 _ ((mem_prsL h2).1 hq).1)
theorem lex_ext {Y Z : List (Int × Int)} (hy : Y.Pairwise lexLt) (hz : Z.Pairwise lexLt) (h : ∀ a b, (a, b) ∈ Y ↔ (a, b) ∈ Z) : Y = Z := by
  have nd : ∀ {X : List (Int × Int)}, X.Pairwise lexLt → X.Nodup := fun hx => hx.imp fun {p q} h e => by
    subst e; rcases h with h | ⟨_, h⟩ <;> omega
  have p : Y.Perm Z := (List.perm_ext_iff_of_nodup (nd hy) (nd hz)).2 fun ⟨a, b⟩ => h a b
  exact List.Perm.eq_of_pairwise (fun x y _ _ h1 h2 => by rcases h1 with h1 | ⟨e1, h1⟩ <;> rcases h2 with h2 | ⟨e2, h2⟩ <;> omega) hy hz p
/-- All tables, in order. -/
def tabsL (l : List Rw) : List Int := srt (l.map fun x => x.t)
theorem tabsL_inc (l : List Rw) : Inc (tabsL l) := srt_inc _
theorem tabsL_mem {l : List Rw} {t : Int} : t ∈ tabsL l ↔ ∃ x ∈ l, x.t = t := by
  unfold tabsL; rw [srt_mem, List.mem_map]
/-- The pairs of tables that have the same set in a round. -/
def sharedL (m : Mv) (r : Int) : List (Int × Int) := prsL (bothB m.rows r) (tabsL m.rows)
theorem sharedL_lex (m : Mv) (r : Int) : (sharedL m r).Pairwise lexLt := prsL_lex (tabsL_inc _)
theorem sharedL_mem {m : Mv} {r a b : Int} : (a, b) ∈ sharedL m r ↔ a < b ∧ ∃ s, hasB m.rows r a s = true ∧ hasB m.rows r b s = true := by
  unfold sharedL
  rw [mem_prsL (tabsL_inc _), bothB_iff]
  constructor
  · rintro ⟨_, _, hlt, x, hx, h1, h2, h3⟩
    exact ⟨hlt, x.s, hasB_iff.2 ⟨x, hx, h1, h2, rfl⟩, h3⟩
  · rintro ⟨hlt, s, h1, h2⟩
    obtain ⟨x, hx, e1, e2, e3⟩ := hasB_iff.1 h1
    obtain ⟨y, hy, f1, f2, f3⟩ := hasB_iff.1 h2
    exact ⟨tabsL_mem.2 ⟨x, hx, e2⟩, tabsL_mem.2 ⟨y, hy, f2⟩, hlt, x, hx, e1, e2, by rw [e3]; exact h2⟩
theorem sharedL_eq {m : Mv} {r : Int} {Z : List (Int × Int)} (hz : Z.Pairwise lexLt) (h : ∀ a b, (a, b) ∈ Z ↔ a < b ∧ ∃ s, hasB m.rows r a s = true ∧ hasB m.rows r b s = true) : Z = sharedL m r :=
  lex_ext hz (sharedL_lex m r) fun a b => by rw [h, sharedL_mem]
/-- The tables that had a set of a table in the round before, as the reference finds them. -/
theorem feedsL_eq {m : Mv} {r t : Int} : feedsL m r t = (tabsL m.rows).filter fun a => (decide (-9223372036854775808 < r ∨ r < -9223372036854775808) && m.rows.any fun x => x.r == r && x.t == t && hasB m.rows (r - 1) a x.s) && decide (a ≠ t) := by
  unfold feedsL
  by_cases h0 : r = -9223372036854775808
  · rw [if_pos h0]
    subst h0
    symm
    rw [List.filter_eq_nil_iff]
    simp
  · rw [if_neg h0]
    have hd : decide (-9223372036854775808 < r ∨ r < -9223372036854775808) = true := by simp; omega
    refine srt_eq ((tabsL_inc _).filter _) fun a => ?_
    rw [hd]
    simp only [List.mem_filter, tabsL_mem, List.mem_map, fedB, Bool.and_eq_true, decide_eq_true_eq, List.any_eq_true, beq_iff_eq, hasB_iff, Bool.true_and]
    constructor
    · rintro ⟨⟨y, hy, rfl⟩, ⟨x, hx, ⟨h1, h2⟩, z, hz, e1, e2, e3⟩, hne⟩
      exact ⟨z, ⟨hz, ⟨e1, by rw [e2]; exact hne⟩, x, hx, h1, h2, e3.symm⟩, e2⟩
    · rintro ⟨z, ⟨hz, ⟨e1, hne⟩, x, hx, h1, h2, h3⟩, rfl⟩
      exact ⟨⟨z, hz, rfl⟩, ⟨x, hx, ⟨h1, h2⟩, z, hz, e1, rfl, h3.symm⟩, hne⟩
end Go.Idl
namespace Go.Idl
set_option linter.all false
open Go.Proofs

/-- A set, where its tables lie, what lies there, how many of it count. -/
structure Te where
  k : Int
  p : Nat
  T : List Int
  c : Nat
def Te.v (e : Te) : IV := .sl e.p e.T.length 0 e.c none
def enT (M : List Te) : List (IV × IV) := M.map fun e => (.int .i64 e.k, e.v)
def blE (e : Te) : Heap := [.dead, .dead, .dead, .dead, .dead, .dead, .dead, .dead, .dead, .dead, .dead, .rows 1 (ints e.T)]
def blT (M : List Te) : Heap := M.flatMap blE
def PosT (M : List Te) : Prop := ∀ j (h : j < M.length), M[j].p = 12 * j + 13
def KeyT (M : List Te) : Prop := M.Pairwise fun e e' => e.k ≠ e'.k
theorem blT_len : ∀ M : List Te, (blT M).length = 12 * M.length
  | [] => rfl
  | e :: M => by
    have := blT_len M
    simp only [blT, List.flatMap_cons, List.length_append, List.length_cons] at this ⊢
    rw [this]; simp [blE]; omega
theorem blT_snoc (M : List Te) (e : Te) : blT (M ++ [e]) = blT M ++ blE e := by simp [blT, List.flatMap_append]
theorem blT_get : ∀ {M : List Te} {j : Nat} (h : j < M.length), (blT M)[12 * j + 11]? = some (.rows 1 (ints M[j].T))
  | e :: M, 0, h => by simp [blT, blE]
  | e :: M, j + 1, h => by
    have ih := blT_get (M := M) (j := j) (by simpa using h)
    have : (blT (e :: M))[12 * (j + 1) + 11]? = (blT M)[12 * j + 11]? := by
      show (blE e ++ blT M)[12 * (j + 1) + 11]? = _
      rw [List.getElem?_append_right (by simp [blE]; omega)]
      congr 1
    rw [this, ih]; rfl
theorem blT_set : ∀ {M : List Te} {j : Nat} (_ : j < M.length) (e : Te), (blT M).set (12 * j + 11) (.rows 1 (ints e.T)) = blT (M.set j e)
  | x :: M, 0, h, e => by simp [blT, blE]
  | x :: M, j + 1, h, e => by
    have ih := blT_set (M := M) (j := j) (by simpa using h) e
    show (blE x ++ blT M).set (12 * (j + 1) + 11) _ = blE x ++ blT (M.set j e)
    rw [← ih, List.set_append_right _ _ (by simp [blE]; omega)]
    congr 2
theorem mget_tno {k : Int} : ∀ {M : List Te}, (∀ e ∈ M, e.k ≠ k) → mget (.int .i64 k) (enT M) = none
  | [], _ => rfl
  | e :: M, h => by
    show (if keq (.int .i64 k) (.int .i64 e.k) = true then _ else mget (.int .i64 k) (enT M)) = none
    rw [keI, if_neg (by simpa using (h e (by simp)).symm)]
    exact mget_tno fun x hx => h x (by simp [hx])
theorem mset_tno {k : Int} {v : IV} : ∀ {M : List Te}, (∀ e ∈ M, e.k ≠ k) → mset (.int .i64 k) v (enT M) = enT M ++ [(.int .i64 k, v)]
  | [], _ => rfl
  | e :: M, h => by
    show (if keq (.int .i64 k) (.int .i64 e.k) = true then _ else _ :: mset (.int .i64 k) v (enT M)) = _
    rw [keI, if_neg (by simpa using (h e (by simp)).symm), mset_tno fun x hx => h x (by simp [hx])]
    rfl
theorem mget_tat : ∀ {M : List Te} {j : Nat} (_ : KeyT M) (h : j < M.length), mget (.int .i64 M[j].k) (enT M) = some M[j].v
  | e :: M, 0, _, h => by
    show (if keq (.int .i64 e.k) (.int .i64 e.k) = true then _ else _) = _
    rw [keI, if_pos (by simp)]; rfl
  | e :: M, j + 1, hk, h => by
    obtain ⟨h1, h2⟩ := List.pairwise_cons.1 hk
    have hj : j < M.length := by simpa using h
    show (if keq (.int .i64 M[j].k) (.int .i64 e.k) = true then _ else mget (.int .i64 M[j].k) (enT M)) = _
    rw [keI, if_neg (by simpa using (h1 M[j] (List.getElem_mem hj)).symm)]
    exact mget_tat h2 hj
theorem mset_tat : ∀ {M : List Te} {j : Nat} (_ : KeyT M) (h : j < M.length) (e : Te), e.k = M[j].k → mset (.int .i64 M[j].k) e.v (enT M) = enT (M.set j e)
  | x :: M, 0, _, h, e, he => by
    show (if keq (.int .i64 x.k) (.int .i64 x.k) = true then _ else _) = _
    rw [keI, if_pos (by simp)]
    show _ = (IV.int .i64 e.k, e.v) :: enT M
    rw [he]; rfl
  | x :: M, j + 1, hk, h, e, he => by
    obtain ⟨h1, h2⟩ := List.pairwise_cons.1 hk
    have hj : j < M.length := by simpa using h
    show (if keq (.int .i64 M[j].k) (.int .i64 x.k) = true then _ else _ :: mset (.int .i64 M[j].k) e.v (enT M)) = _
    rw [keI, if_neg (by simpa using (h1 M[j] (List.getElem_mem hj)).symm), mset_tat h2 hj e he]
    rfl
theorem PosT.snoc {M : List Te} (h : PosT M) {e : Te} (he : e.p = 12 * M.length + 13) : PosT (M ++ [e]) := fun j hj => by
  rw [List.getElem_append]
  split
  · exact h j _
  · rename_i h2
    have : j = M.length := by simp at hj; omega
    subst this; simpa using he
theorem PosT.set {M : List Te} (h : PosT M) {i : Nat} {e : Te} (hi : i < M.length) (he : e.p = M[i].p) : PosT (M.set i e) := fun j hj => by
  rw [List.getElem_set]
  split
  · rename_i h2; subst h2; rw [he]; exact h i hi
  · exact h j _
theorem KeyT.snoc {M : List Te} (h : KeyT M) {e : Te} (he : ∀ x ∈ M, x.k ≠ e.k) : KeyT (M ++ [e]) :=
  List.pairwise_append.2 ⟨h, by simp, fun a ha b hb => by rw [List.mem_singleton] at hb; subst hb; exact he a ha⟩
theorem KeyT.iff {M : List Te} : KeyT M ↔ (M.map (·.k)).Nodup := by
  unfold KeyT List.Nodup; rw [List.pairwise_map]
theorem map_set_k {M : List Te} {i : Nat} {e : Te} (hi : i < M.length) (he : e.k = M[i].k) : (M.set i e).map (·.k) = M.map (·.k) := by
  rw [List.map_set, he]
  apply List.ext_getElem (by simp)
  intro n h1 h2
  rw [List.getElem_set]
  split
  · rename_i h; subst h; simp
  · rfl
theorem KeyT.set {M : List Te} (h : KeyT M) {i : Nat} {e : Te} (hi : i < M.length) (he : e.k = M[i].k) : KeyT (M.set i e) := by
  rw [KeyT.iff, map_set_k hi he]; exact KeyT.iff.1 h
/-- The tables that have a set in a round. -/
def tbs (l : List Rw) (r s : Int) : List Int := (l.filter fun x => x.r == r && x.s == s).map fun x => x.t
theorem tbs_mem {l : List Rw} {r s t : Int} : t ∈ tbs l r s ↔ hasB l r t s = true := by
  unfold tbs
  rw [hasB_iff, List.mem_map]
  constructor
  · rintro ⟨x, hx, rfl⟩
    obtain ⟨h1, h2⟩ := List.mem_filter.1 hx
    simp at h2
    exact ⟨x, h1, h2.1, rfl, h2.2⟩
  · rintro ⟨x, hx, h1, h2, h3⟩
    exact ⟨x, List.mem_filter.2 ⟨hx, by simp [h1, h3]⟩, h2⟩
theorem tbs_succ {l : List Rw} {i : Nat} (h : i < l.length) (r s : Int) : tbs (l.take (i + 1)) r s = tbs (l.take i) r s ++ (if l[i].r = r ∧ l[i].s = s then [l[i].t] else []) := by
  unfold tbs
  rw [List.take_succ_eq_append_getElem h, List.filter_append, List.map_append]
  congr 1
  by_cases hc : l[i].r = r ∧ l[i].s = s
  · rw [if_pos hc, List.filter_cons_of_pos (by simp [hc])]; simp
  · rw [if_neg hc, List.filter_cons_of_neg (by simpa using hc)]; simp
theorem tbs_len (l : List Rw) (r s : Int) : (tbs l r s).length ≤ l.length := by
  unfold tbs
  rw [List.length_map]; exact List.length_filter_le ..
/-- What is known behind the first rows. -/
structure TabI (l : List Rw) (r : Int) (M : List Te) : Prop where
  pos : PosT M
  key : KeyT M
  all : ∀ s, tbs l r s = [] ∨ ∃ e ∈ M, e.k = s
  ent : ∀ e ∈ M, e.T = tbs l r e.k ∧ e.T ≠ [] ∧ e.c = e.T.length
theorem TabI.nil (r : Int) : TabI [] r [] := ⟨fun j h => by simp at h, .nil, fun s => .inl rfl, fun e h => by simp at h⟩
/-- Behind the second loop: the sets, their tables in order. -/
def enF (M : List (Int × List Int)) : List (IV × IV) := M.map fun e => (.int .i64 e.1, .fz 1 (ints e.2))
structure TabS (l : List Rw) (r : Int) (M : List (Int × List Int)) : Prop where
  key : M.Pairwise fun e e' => e.1 ≠ e'.1
  all : ∀ s, tbs l r s = [] ∨ ∃ e ∈ M, e.1 = s
  ent : ∀ e ∈ M, e.2 = srt (tbs l r e.1)
/-- A set's tables, sorted and each once; what lies behind them. -/
def Te.done (e : Te) : Te := ⟨e.k, e.p, srt e.T ++ List.replicate (e.T.length - (srt e.T).length) 0, (srt e.T).length⟩
theorem srt_len (l : List Int) : (srt l).length ≤ l.length := by
  unfold srt
  exact Nat.le_trans (compact_le _) (by rw [List.length_mergeSort]; exact Nat.le_refl _)
theorem done_len (e : Te) : e.done.T.length = e.T.length := by
  have := srt_len e.T
  simp [Te.done]; omega
theorem feedsL_len (m : Mv) (r t : Int) : (feedsL m r t).length ≤ m.rows.length := by
  unfold feedsL
  split
  · simp
  · refine Nat.le_trans (srt_len _) ?_
    rw [List.length_map]; exact List.length_filter_le ..
theorem idleL_len (m : Mv) (r : Int) : (idleL m r).length ≤ 4096 := by
  unfold idleL
  rw [List.length_map]
  refine Nat.le_trans (List.length_filter_le ..) ?_
  rw [List.length_range]; exact loads_len m r
/-- In the second loop: what is done, what is still to come. -/
structure TabJ (l : List Rw) (r : Int) (M K : List Te) : Prop where
  pos : PosT M
  key : KeyT M
  all : ∀ s, tbs l r s = [] ∨ ∃ e ∈ M, e.k = s
  ent : ∀ e ∈ M, e ∈ K ∧ e.T = tbs l r e.k ∧ e.c = e.T.length ∨ (∀ x ∈ K, x.k ≠ e.k) ∧ e.T.take e.c = srt (tbs l r e.k) ∧ e.c ≤ e.T.length ∧ e.T.length ≤ l.length
  sub : ∀ e ∈ K, e ∈ M
  kk : KeyT K
theorem KeyT.ne {M : List Te} (h : KeyT M) {i j : Nat} (hi : i < M.length) (hj : j < M.length) (hn : i ≠ j) : M[i].k ≠ M[j].k := by
  have hp := List.pairwise_iff_getElem.1 h
  rcases Nat.lt_or_gt_of_ne hn with h1 | h1
  · exact hp i j hi hj h1
  · exact fun e => hp j i hj hi h1 e.symm
theorem TabI.start {l : List Rw} {r : Int} {M : List Te} (h : TabI l r M) : TabJ l r M M :=
  ⟨h.pos, h.key, h.all, fun e he => .inl ⟨he, (h.ent e he).1, (h.ent e he).2.2⟩, fun _ h => h, h.key⟩
theorem erase_key {K : List Te} (h : KeyT K) {i : Nat} (hi : i < K.length) {x : Te} (hx : x ∈ K.eraseIdx i) : x.k ≠ K[i].k := by
  obtain ⟨j, hj, hne, rfl⟩ := List.mem_eraseIdx_iff_getElem.1 hx
  exact h.ne hj hi hne
theorem TabJ.step {l : List Rw} {r : Int} {M K : List Te} (h : TabJ l r M K) {i j : Nat} (hi : i < K.length) (hj : j < M.length) (he : M[j] = K[i]) : TabJ l r (M.set j K[i].done) (K.eraseIdx i) := by
  have hdk : K[i].done.k = M[j].k := by rw [he]; rfl
  refine ⟨h.pos.set hj (by rw [he]; rfl), h.key.set hj hdk, fun s => (h.all s).imp _root_.id ?_, fun e he' => ?_, fun x hx => ?_, h.kk.sublist (List.eraseIdx_sublist ..)⟩
  · rintro ⟨e, h1, h2⟩
    have : s ∈ (M.set j K[i].done).map (·.k) := by rw [map_set_k hj hdk]; exact List.mem_map.2 ⟨e, h1, h2⟩
    obtain ⟨e', h3, h4⟩ := List.mem_map.1 this
    exact ⟨e', h3, h4⟩
  · obtain ⟨q, hq, rfl⟩ := List.mem_iff_getElem.1 he'
    rw [List.length_set] at hq
    by_cases e : j = q
    · subst e
      right
      rw [List.getElem_set_self]
      have hT : K[i].T = tbs l r K[i].k := by
        rcases h.ent K[i] (h.sub _ (List.getElem_mem hi)) with ⟨_, h2, _⟩ | ⟨h2, _⟩
        · exact h2
        · exact absurd rfl (h2 K[i] (List.getElem_mem hi))
      refine ⟨fun x hx => erase_key h.kk hi hx, ?_, ?_, ?_⟩
      · show (srt K[i].T ++ _).take (srt K[i].T).length = srt (tbs l r K[i].k)
        rw [List.take_left, hT]
      · rw [done_len]; exact srt_len _
      · rw [done_len, hT]; exact tbs_len l r _
    · rw [List.getElem_set_ne e]
      have hne : M[q].k ≠ K[i].k := by rw [← he]; exact h.key.ne hq hj (Ne.symm e)
      rcases h.ent M[q] (List.getElem_mem hq) with ⟨h1, h2⟩ | ⟨h1, h2⟩
      · refine .inl ⟨?_, h2⟩
        obtain ⟨p, hp, ep⟩ := List.mem_iff_getElem.1 h1
        exact List.mem_eraseIdx_iff_getElem.2 ⟨p, hp, fun e2 => by subst e2; exact hne (by rw [ep]), ep⟩
      · exact .inr ⟨fun x hx => h1 x (List.mem_of_mem_eraseIdx hx), h2⟩
  · have hxm := h.sub x (List.mem_of_mem_eraseIdx hx)
    obtain ⟨q, hq, rfl⟩ := List.mem_iff_getElem.1 hxm
    have hk := erase_key h.kk hi hx
    have hne : j ≠ q := fun e => by subst e; exact hk (by rw [he])
    exact List.mem_iff_getElem.2 ⟨q, by rw [List.length_set]; exact hq, by rw [List.getElem_set_ne hne]⟩
theorem TabJ.last {l : List Rw} {r : Int} {M : List Te} (h : TabJ l r M []) : TabS l r (M.map fun e => (e.k, e.T.take e.c)) := by
  refine ⟨List.pairwise_map.2 h.key, fun s => (h.all s).imp _root_.id fun ⟨e, h1, h2⟩ => ⟨_, List.mem_map.2 ⟨e, h1, rfl⟩, h2⟩, fun e he => ?_⟩
  obtain ⟨x, hx, rfl⟩ := List.mem_map.1 he
  rcases h.ent x hx with ⟨h1, _⟩ | ⟨_, h2, _⟩
  · cases h1
  · exact h2
theorem fgt_app : ∀ (A : Heap) {X Y : Heap}, fgt X Y → fgt (A ++ X) (A ++ Y)
  | [], _, _, h => h
  | _ :: A, _, _, h => ⟨.inr rfl, fgt_app A h⟩
def noItA : Heap → Bool
  | [] => true
  | .iter _ _ _ _ :: _ => false
  | _ :: l => noItA l
end Go.Idl
