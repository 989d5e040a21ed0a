/-
  Chapter 27: count, Loads, Copies, Idle.
-/
import Derived.Test.YtjmjdjdabmlgeaaC27PartB
import Derived.Test.YtjmjdjdabmlgeaaIdlPartK
namespace Go.Idl
set_option linter.all false
open Go.Proofs
set_option maxHeartbeats 16000000
set_option maxRecDepth 40000

/-- At how many tables a set is in a round. -/
def ldN (l : List Rw) (r s : Int) : Nat := l.countP fun x => x.r == r && x.s == s
theorem ldN_succ {l : List Rw} {i : Nat} (h : i < l.length) (r s : Int) : ldN (l.take (i + 1)) r s = ldN (l.take i) r s + (if l[i].r = r ∧ l[i].s = s then 1 else 0) := by
  unfold ldN
  rw [List.take_succ_eq_append_getElem h, List.countP_append, List.countP_singleton]
  simp
theorem ldN_le (l : List Rw) (r s : Int) : ldN l r s ≤ l.length := List.countP_le_length
@[go_sem] theorem ren_p {π : Nat → Nat} {S : List ((Int × Int) × Int)} : renM π (enP S) = enP S := renM_cl fun e he => by
  obtain ⟨p, _, rfl⟩ := List.mem_map.1 (show e ∈ List.map _ S from he)
  refine ⟨?_, .int _ _⟩
  simp only [k2]; exact .agg _ fun j c h => by
    have := List.mem_of_getElem? h; simp at this; rcases this with rfl | rfl <;> exact .int _ _
/-- What count counts. -/
structure CntS (l : List Rw) (S : List ((Int × Int) × Int)) : Prop where
  val : ∀ r s, getC S (r, s) = ldN l r s
  key : ∀ e ∈ S, ∃ x ∈ l, (x.r, x.s) = e.1
  dis : S.Pairwise fun e e' => e.1 ≠ e'.1
theorem aset_memP {k : Int × Int} {v : Int} : ∀ {W : List ((Int × Int) × Int)} {e : (Int × Int) × Int}, e ∈ aset k v W → e = (k, v) ∨ e ∈ W
  | [], e, h => .inl (by simpa [aset] using h)
  | (k', u) :: W, e, h => by
    unfold aset at h
    split at h
    · rename_i hk
      subst hk
      rcases List.mem_cons.1 h with h | h
      · exact .inl h
      · exact .inr (List.mem_cons_of_mem _ h)
    · rcases List.mem_cons.1 h with h | h
      · exact .inr (h ▸ List.mem_cons_self ..)
      · rcases aset_memP h with h | h
        · exact .inl h
        · exact .inr (List.mem_cons_of_mem _ h)
theorem aset_disP {k : Int × Int} {v : Int} : ∀ {W : List ((Int × Int) × Int)}, W.Pairwise (fun e e' => e.1 ≠ e'.1) → (aset k v W).Pairwise fun e e' => e.1 ≠ e'.1
  | [], _ => by simp [aset]
  | (k', u) :: W, h => by
    unfold aset
    obtain ⟨d1, d2⟩ := List.pairwise_cons.1 h
    split
    · rename_i hk
      subst hk
      exact List.pairwise_cons.2 ⟨fun e he => d1 e he, d2⟩
    · rename_i hk
      refine List.pairwise_cons.2 ⟨fun e he => ?_, aset_disP d2⟩
      rcases aset_memP he with rfl | he
      · exact fun e => hk e.symm
      · exact d1 e he
theorem aget_entP : ∀ {W : List ((Int × Int) × Int)}, W.Pairwise (fun e e' => e.1 ≠ e'.1) → ∀ e ∈ W, aget e.1 W = some e.2
  | [], _, e, he => by cases he
  | (k, u) :: W, h, e, he => by
    obtain ⟨d1, d2⟩ := List.pairwise_cons.1 h
    unfold aget
    rcases List.mem_cons.1 he with rfl | he
    · simp
    · rw [if_neg (fun e' => d1 e he e'.symm)]
      exact aget_entP d2 e he
theorem aget_memP {k : Int × Int} {v : Int} : ∀ {W : List ((Int × Int) × Int)}, aget k W = some v → (k, v) ∈ W
  | [], h => by cases h
  | (k', u) :: W, h => by
    unfold aget at h
    split at h
    · rename_i hk; subst hk; rw [Option.some.inj h]; exact List.mem_cons_self ..
    · exact List.mem_cons_of_mem _ (aget_memP h)
theorem CntS.ent {l : List Rw} {S : List ((Int × Int) × Int)} (h : CntS l S) {e : (Int × Int) × Int} (he : e ∈ S) : e.2 = ldN l e.1.1 e.1.2 := by
  have h1 := h.val e.1.1 e.1.2
  unfold getC at h1
  rw [show (e.1.1, e.1.2) = e.1 from rfl, aget_entP h.dis e he] at h1
  exact h1
theorem CntS.mem {l : List Rw} {S : List ((Int × Int) × Int)} (h : CntS l S) {x : Rw} (hx : x ∈ l) : ((x.r, x.s), (ldN l x.r x.s : Int)) ∈ S := by
  have h1 := h.val x.r x.s
  have hp : 0 < ldN l x.r x.s := List.countP_pos_iff.2 ⟨x, hx, by simp⟩
  unfold getC at h1
  cases hg : aget (x.r, x.s) S with
  | none => rw [hg] at h1; simp at h1; omega
  | some v =>
    rw [hg] at h1
    have : v = ldN l x.r x.s := h1
    rw [← this]
    exact aget_memP hg
theorem count_calls (m : Mv) (hl : m.rows.length ≤ 2 ^ 40) : ICalls Try.prog [] 41 [m.v] [] (fun v σ => ∃ S, v = .map 1 ∧ σ = [.dead, .map (enP S)] ∧ CntS m.rows S) := by
  refine ICalls.forget (ICalls.of_bodyE false 6 [8, 9, 10, 11] Try.func41 rfl Try.call41 rfl fun R hR => ?_)
  obtain ⟨tb, ro, se, co, wi, L⟩ := m
  simp only [Mv.v] at *
  simp [go_sem]
  refine IWp.loopT (α := Nat × List ((Int × Int) × Int)) (fun p => (⟨false, 26, 6, [8, 9, 10, 11], [], [(3, .map 1), (8, .fz 5 (rws L)), (9, .int .i64 L.length), (10, .int .i64 (p.1 : Int))], []⟩, [.dead, .map (enP p.2)]))
    (fun p => p.1 ≤ L.length ∧ CntS (L.take p.1) p.2) (fun p => L.length - p.1) (0, []) ⟨by simp, fun r s => by simp [ldN], fun e he => (by cases he), .nil⟩ (by simp [go_sem]) ?_
  rintro ⟨i, S⟩ ⟨hi, hS⟩
  simp only at hi hS
  by_cases h : i < L.length
  · have v1 : IntKind.i64.wrap ((i : Int) + 1) = i + 1 := wrap64 (by omega) (by omega)
    have hsu := ldN_succ h
    obtain ⟨x, hx⟩ : ∃ x, L[i] = x := ⟨_, rfl⟩
    rw [hx] at hsu
    have g1 := mget_p x.r x.s S
    have hSx := hS.val x.r x.s
    have hle := ldN_le (L.take i) x.r x.s
    rw [List.length_take] at hle
    obtain ⟨c, hc⟩ : ∃ c, ldN (L.take i) x.r x.s = c := ⟨_, rfl⟩
    rw [hc] at hSx hle
    have g2 : (aget (x.r, x.s) S).getD 0 = c := hSx
    have wc : IntKind.i64.wrap ((c : Int) + 1) = c + 1 := wrap64 (by omega) (by omega)
    simp [go_sem, h, hx]
    refine Drawn.incr 6 [14, 19] rfl rfl rfl rfl rfl (by decide +kernel) rfl ?_
    simp [go_sem, g1, g2, mset_p, wc]
    have htk : L.take (i + 1) = L.take i ++ [x] := by rw [List.take_succ_eq_append_getElem h, hx]
    refine ⟨by decide +kernel, i + 1, aset (x.r, x.s) ((c : Int) + 1) S, ⟨v1, rfl⟩, ⟨by omega, fun r s => ?_, fun e he => ?_, aset_disP hS.dis⟩, by omega⟩
    · rw [getC_set, hsu]
      by_cases e : (r, s) = (x.r, x.s)
      · rw [if_pos e]
        obtain ⟨rfl, rfl⟩ := Prod.mk.inj e
        rw [if_pos ⟨rfl, rfl⟩, hc]
        simp
      · rw [if_neg e, if_neg (fun hh => e (by rw [hh.1, hh.2])), hS.val r s]
        simp
    · rw [htk]
      rcases aset_memP he with rfl | he
      · exact ⟨x, by simp, rfl⟩
      · obtain ⟨y, hy, e⟩ := hS.key e he
        exact ⟨y, by simp [hy], e⟩
  · obtain rfl : i = L.length := by omega
    rw [List.take_length] at hS
    simp [go_sem]
    exact hR _ _ ⟨_, by simp [go_sem], S, rfl, rfl, hS⟩
/-- The loads of the first sets. -/
def ldI (l : List Rw) (r : Int) (n : Nat) : Nat → List Int
  | 0 => List.replicate n 0
  | i + 1 => (ldI l r n i).set i (ldN l r i)
@[simp] theorem ldI_length {l : List Rw} {r : Int} {n : Nat} : ∀ i, (ldI l r n i).length = n
  | 0 => by simp [ldI]
  | i + 1 => by simp [ldI, ldI_length i]
theorem ldI_get {l : List Rw} {r : Int} {n : Nat} : ∀ (i j : Nat) (h : j < (ldI l r n i).length), (ldI l r n i)[j] = if j < i then (ldN l r j : Int) else 0
  | 0, j, h => by simp [ldI]
  | i + 1, j, h => by
    simp only [ldI, List.getElem_set]
    split
    · rename_i e; subst e; rw [if_pos (by omega)]
    · rw [ldI_get i j (by simpa [ldI] using h)]
      by_cases hj : j < i
      · rw [if_pos hj, if_pos (by omega)]
      · rw [if_neg hj, if_neg (by omega)]
def loadsL (m : Mv) (r : Int) : List Int := if m.sets < 1 ∨ 4096 < m.sets then [] else (List.range m.sets.toNat).map fun s : Nat => (ldN m.rows r s : Int)
theorem ldI_all {l : List Rw} {r : Int} {n : Nat} : ldI l r n n = (List.range n).map fun s : Nat => (ldN l r s : Int) := List.ext_getElem (by simp) fun i h1 h2 => by
  rw [ldI_get, if_pos (by simpa using h1)]; simp
theorem loads_fun (m : Mv) (r : Int) (hl : m.rows.length ≤ 2 ^ 40) : FN 21 [m.v, .int .i64 r] (fun v => v = .fz 1 (ints (loadsL m r))) := by
  refine IFun.of_bodyZ false 8 [15, 22, 23, 24] Try.func21 rfl Try.call21 rfl fun R hR => ?_
  have cc := count_calls m hl
  obtain ⟨tb, ro, se, co, wi, L⟩ := m
  unfold loadsL at hR
  simp only [Mv.v] at *
  by_cases h1 : se < 1
  · rw [if_pos (.inl h1)] at hR
    simp [go_sem, h1]
    exact hR _ _ _ rfl (by simp [go_sem])
  by_cases h2 : 4096 < se
  · rw [if_pos (.inr h2)] at hR
    simp [go_sem, h1, h2]
    exact hR _ _ _ rfl (by simp [go_sem])
  rw [if_neg (by omega)] at hR
  obtain ⟨n, hn⟩ : ∃ n : Nat, se = n := ⟨se.toNat, by omega⟩
  subst hn
  have g1 : (n : Int) ≤ 1099511627776 := by omega
  have g2 : ¬ (n : Int) < 1 := by omega
  have g3 : ¬ 4096 < (n : Int) := by omega
  rw [show ((n : Int)).toNat = n by omega, ← ldI_all] at hR
  simp [go_sem, h1, h2]
  refine ⟨g1, ?_⟩
  refine cc.at [] (by simp [go_sem]) ?_
  rintro _ _ ⟨S, rfl, rfl, hS⟩
  simp [go_sem]
  rw [show List.replicate n [IV.int .i64 0] = ints (List.replicate n 0) by simp [ints, mp]]
  refine IWp.loopT (α := Nat) (fun i => (⟨false, 36, 8, [15, 22, 23, 24], [], [(1, .int .i64 r), (5, .sl 1 n 0 n none), (6, .map 3), (22, .int .i64 (n : Int)), (23, .int .i64 (i : Int))], []⟩, [.dead, .rows 1 (ints (ldI L r n i)), .dead, .map (enP S)]))
    (fun i => i ≤ n) (fun i => n - i) 0 (by simp) (by simp [go_sem, ldI]) ?_
  intro i hi
  have hlen := ldI_length (l := L) (r := r) (n := n) i
  by_cases h : i < n
  · have v1 : IntKind.i64.wrap ((i : Int) + 1) = i + 1 := wrap64 (by omega) (by omega)
    have g4 := mget_p r i S
    have hv := hS.val r i
    have hset : ints (ldI L r n (i + 1)) = (ints (ldI L r n i)).set i [.int .i64 (ldN L r i)] := ints_set
    have e1 : ∃ d, (ints (ldI L r n i))[i]?.getD [] = [.int .i64 d] := ⟨(ldI L r n i)[i]'(by omega), by
      rw [List.getElem?_eq_getElem (by simp; omega), Option.getD_some, ints_getElem]⟩
    obtain ⟨d, e1⟩ := e1
    unfold getC at hv
    obtain ⟨D, hD⟩ : ∃ D, ldI L r n i = D := ⟨_, rfl⟩
    rw [hD] at hset e1 hlen
    simp only [hD]
    simp [go_sem, h, hlen, g4, e1]
    exact ⟨i + 1, ⟨by rw [v1]; simp, by rw [hset, hv]⟩, by omega, by omega⟩
  · obtain rfl : i = n := by omega
    simp [go_sem]
    exact hR _ _ _ rfl (by simp [go_sem])
/-- The sets that are at no table. -/
def idleL (m : Mv) (r : Int) : List Int := ((List.range (loadsL m r).length).filter fun s => decide ((loadsL m r).getD s 0 = 0)).map fun s : Nat => (s : Int)
theorem loads_len (m : Mv) (r : Int) : (loadsL m r).length ≤ 4096 := by
  unfold loadsL
  split
  · simp
  · simp; omega
theorem idle_fun (m : Mv) (r : Int) (hl : m.rows.length ≤ 2 ^ 40) : FN 22 [m.v, .int .i64 r] (fun v => v = .fz 1 (ints (idleL m r))) := by
  refine IFun.of_bodyW false 8 [10, 11, 12, 13, 18] Try.func22 rfl Try.call22 rfl fun R hR => ?_
  have cc := loads_fun m r hl
  have hL := loads_len m r
  unfold idleL at hR
  generalize loadsL m r = L at *
  obtain ⟨tb, ro, se, co, wi, rs⟩ := m
  simp only [Mv.v] at *
  refine IWp.seqI ?_
  simp [go_sem]
  refine IWp.seqI ?_
  simp [go_sem]
  refine IWp.ownNilS 1 5 (by decide) rfl ?_
  refine IWp.now ?_
  simp [go_sem]
  refine cc.callF (by simp [go_sem]) ?_
  rintro _ rfl
  simp [go_sem]
  let I : Nat → List Int := fun i => ((List.range i).filter fun s => decide (L.getD s 0 = 0)).map fun s : Nat => (s : Int)
  have hIs : ∀ i, I (i + 1) = I i ++ (if L.getD i 0 = 0 then [(i : Int)] else []) := fun i => by
    simp only [I]
    rw [List.range_succ, List.filter_append, List.map_append]
    by_cases h : L.getD i 0 = 0
    · rw [if_pos h, List.filter_cons_of_pos (by simpa using h)]; simp
    · rw [if_neg h, List.filter_cons_of_neg (by simpa using h)]; simp
  have hIl : ∀ i, (I i).length ≤ i := fun i => by
    simp only [I, List.length_map]
    exact Nat.le_trans (List.length_filter_le ..) (by simp)
  have hI0 : I 0 = [] := rfl
  have hIn : ((List.range L.length).filter fun s => decide (L.getD s 0 = 0)).map (fun s : Nat => (s : Int)) = I L.length := rfl
  rw [hIn] at hR
  generalize I = I at *
  refine IWp.loopT (α := Nat) (fun i => (⟨false, 25, 8, [10, 11, 12, 13, 18], [], [(5, .sl 1 (I i).length 0 (I i).length none), (10, .fz 1 (ints L)), (11, .int .i64 L.length), (12, .int .i64 (i : Int))], []⟩, [.dead, .rows 1 (ints (I i))]))
    (fun i => i ≤ L.length) (fun i => L.length - i) 0 (by simp) (by simp [go_sem, hI0]) ?_
  intro i hi
  have hil := hIl i
  by_cases h : i < L.length
  · have v1 : IntKind.i64.wrap ((i : Int) + 1) = ((i + 1 : Nat) : Int) := by rw [wrap64 (by omega) (by omega)]; omega
    have hs := hIs i
    obtain ⟨x, hx⟩ : ∃ x, L[i] = x := ⟨_, rfl⟩
    rw [show L.getD i 0 = x by simp [h, hx]] at hs
    by_cases h0 : x = 0
    · rw [if_pos h0] at hs
      have hs2 : ints (I (i + 1)) = ints (I i) ++ [[.int .i64 (i : Int)]] := by rw [hs, ints_snoc]
      have hsl : (I (i + 1)).length = (I i).length + 1 := by rw [hs]; simp
      simp [go_sem, h, hx, h0]
      exact ⟨by omega, i + 1, ⟨⟨hsl.symm, v1⟩, hs2⟩, by omega, by omega⟩
    · rw [if_neg h0, List.append_nil] at hs
      simp [go_sem, h, hx, h0]
      exact ⟨i + 1, ⟨⟨by rw [hs], v1⟩, by rw [hs]⟩, by omega, by omega⟩
  · obtain rfl : i = L.length := by omega
    simp [go_sem]
    exact hR _ _ _ rfl (by simp [go_sem])
/-- The greatest of some loads. -/
structure MaxL (l : List Rw) (g : Int) : Prop where
  up : ∀ x ∈ l, (ldN l x.r x.s : Int) ≤ g
  at' : g = 0 ∧ l = [] ∨ ∃ x ∈ l, g = (ldN l x.r x.s : Int)
theorem MaxL.eq {l : List Rw} {g g' : Int} (h : MaxL l g) (h' : MaxL l g') : g = g' := by
  rcases h.at' with ⟨a, b⟩ | ⟨x, hx, a⟩
  · rcases h'.at' with ⟨a', b'⟩ | ⟨x', hx', a'⟩
    · rw [a, a']
    · rw [b] at hx'; cases hx'
  · rcases h'.at' with ⟨a', b'⟩ | ⟨x', hx', a'⟩
    · rw [b'] at hx; cases hx
    · have := h.up x' hx'
      have := h'.up x hx
      omega
theorem enP_get {T : List ((Int × Int) × Int)} {i : Nat} {kv : IV × IV} (h : (enP T)[i]? = some kv) : ∃ p, T[i]? = some p ∧ kv = (k2 p.1, .int .i64 p.2) := by
  simp only [enP, enM, List.getElem?_map, Option.map_eq_some_iff] at h
  obtain ⟨p, h1, h2⟩ := h
  exact ⟨p, h1, h2.symm⟩
theorem map_eraseIdxP {α β : Type} (f : α → β) : ∀ (l : List α) (i : Nat), (l.map f).eraseIdx i = (l.eraseIdx i).map f
  | [], _ => rfl
  | _ :: _, 0 => rfl
  | _ :: l, i + 1 => by simp [map_eraseIdxP f l i]
theorem enP_erase {T : List ((Int × Int) × Int)} {i : Nat} : (enP T).eraseIdx i = enP (T.eraseIdx i) := map_eraseIdxP _ T i
theorem enP_nil' {T : List ((Int × Int) × Int)} (h : enP T = []) : T = [] := by simpa [enP, enM] using h
theorem mem_eraseP {α : Type} : ∀ {l : List α} {i : Nat} {p q : α}, l[i]? = some p → q ∈ l → q = p ∨ q ∈ l.eraseIdx i
  | a :: l, 0, p, q, h, hq => by
    simp at h; subst h
    simpa using hq
  | a :: l, i + 1, p, q, h, hq => by
    simp at h
    rcases List.mem_cons.1 hq with rfl | hq
    · right; simp
    · rcases mem_eraseP h hq with rfl | h'
      · left; rfl
      · right; simp [h']
/-- As far as the entries that are left. -/
structure MaxI (S T : List ((Int × Int) × Int)) (g : Int) : Prop where
  sub : ∀ e ∈ T, e ∈ S
  up : ∀ e ∈ S, e ∈ T ∨ e.2 ≤ g
  at' : g = 0 ∨ ∃ e ∈ S, g = e.2
  pos : 0 ≤ g
theorem CntS.max {l : List Rw} {S : List ((Int × Int) × Int)} (h : CntS l S) {g : Int} (hI : MaxI S [] g) : MaxL l g := by
  refine ⟨fun x hx => ?_, ?_⟩
  · rcases hI.up _ (h.mem hx) with hh | hh
    · cases hh
    · exact hh
  · rcases hI.at' with rfl | ⟨e, he, rfl⟩
    · refine .inl ⟨rfl, ?_⟩
      cases l with
      | nil => rfl
      | cons x l =>
        exfalso
        rcases hI.up _ (h.mem (List.mem_cons_self ..)) with hh | hh
        · cases hh
        · have hp : 0 < ldN (x :: l) x.r x.s := List.countP_pos_iff.2 ⟨x, List.mem_cons_self .., by simp⟩
          simp only at hh
          omega
    · obtain ⟨x, hx, e1⟩ := h.key e he
      refine .inr ⟨x, hx, ?_⟩
      rw [h.ent he, ← e1]
theorem copies_fun (m : Mv) (hl : m.rows.length ≤ 2 ^ 40) : FN 17 [m.v] (fun v => ∃ g, v = .int .i64 g ∧ MaxL m.rows g) := by
  refine IFun.of_bodyZ false 6 [8, 10] Try.func17 rfl Try.call17 rfl fun R hR => ?_
  have cc := count_calls m hl
  obtain ⟨tb, ro, se, co, wi, L⟩ := m
  simp only [Mv.v] at *
  simp [go_sem]
  refine cc.at [] (by simp [go_sem]) ?_
  rintro _ _ ⟨S, rfl, rfl, hS⟩
  simp [go_sem]
  refine IWp.loopT (α := Option ((Int × Int) × Int) × List ((Int × Int) × Int) × Int) (fun x => (⟨false, 17, 6, [8, 10], [], [(3, .int .i64 x.2.2), (8, .iter 3)], []⟩, [.dead, .dead, .dead, .iter (some 2) (enP S) (x.1.map fun p => (k2 p.1, .int .i64 p.2)) (enP x.2.1)]))
    (fun x => MaxI S x.2.1 x.2.2) (fun x => x.2.1.length) (none, S, 0) ⟨fun _ h => h, fun e h => .inl h, .inl rfl, Int.le_refl _⟩ (by simp [go_sem]) ?_
  rintro ⟨cur, T, g⟩ hI
  simp only at hI
  simp [go_sem]
  refine ⟨fun h => ?_, fun i kv hkv => ?_⟩
  · obtain rfl := enP_nil' h
    have := hS.max hI
    simp [go_sem]
    exact hR _ _ _ ⟨g, rfl, this⟩ (by simp [go_sem])
  · obtain ⟨⟨⟨q, j⟩, c⟩, hp, rfl⟩ := enP_get hkv
    rw [enP_erase]
    have hlt := (List.getElem?_eq_some_iff.1 hp).1
    have hlen : (T.eraseIdx i).length < T.length := by rw [List.length_eraseIdx, if_pos hlt]; omega
    have heS := hI.sub _ (List.mem_of_getElem? hp)
    have hc0 : 0 ≤ c := by have := hS.ent heS; simp only at this; omega
    have hN : MaxI S (T.eraseIdx i) (if g < c then c else g) := by
      refine ⟨fun e h' => hI.sub e (List.mem_of_mem_eraseIdx h'), fun e he => ?_, ?_, ?_⟩
      · rcases hI.up e he with h3 | h3
        · rcases mem_eraseP hp h3 with rfl | h4
          · right; simp only; split <;> omega
          · exact .inl h4
        · right; split <;> omega
      · split
        · exact .inr ⟨_, heS, rfl⟩
        · exact hI.at'
      · have := hI.pos; split <;> omega
    simp [go_sem, k2]
    refine ⟨some ((q, j), c), T.eraseIdx i, _, ⟨rfl, ⟨rfl, rfl⟩, ?_⟩, hN, hlen⟩
    rintro _ _ x x1 x2 _ rfl rfl
    simp [go_sem]
end Go.Idl
