/-
  Package mitchell: Pairs.
  Chapter 25's Made.
  Movements that are fair: no pair sits twice in a round, or plays a set twice, no two pairs meet twice (plain).
  What Made returns (plain).
-/
import Derived.Test.YteedopeniojppaaGreatCtopmPartC
import Derived.Test.YteedopeniojppaaGreatCtopmPartB
import Derived.Test.YteedopeniojppaaGreatCtopmPartD
import Derived.Test.YteedopeniojppaaGreatIdlPartJ
namespace Go.Idl
set_option linter.all false
open Go.Proofs
set_option maxHeartbeats 4000000
set_option maxRecDepth 40000

def rowP (x : Rw) : List Int := (if 0 < x.ns then [x.ns] else []) ++ (if 0 < x.ew then [x.ew] else [])
def allP (L : List Rw) : List Int := L.flatMap rowP
def prs (L : List Rw) : List Int := srt (allP L)
theorem pairs_fun (m : Mv) (hl : m.rows.length ≤ 2 ^ 30) : FN 15 [m.v] (fun v => v = .fz 1 (ints (prs m.rows))) := by
  refine IFun.of_bodyZ false 8 [9, 10, 11, 12, 19, 20, 21, 24] Tryz.func15 rfl Tryz.call15 rfl fun R hR => ?_
  obtain ⟨tb, ro, se, co, wi, L⟩ := m
  simp [go_sem, Mv.v]
  refine IWp.ownNilS 1 3 (by decide) (by simp [go_sem]) ?_
  simp at hl
  obtain ⟨M, hMd⟩ : ∃ M : Nat → List Int, M = fun i => allP (L.take i) := ⟨_, rfl⟩
  have hM0 : M 0 = [] := by rw [hMd]; simp [allP]
  have hMl : M L.length = allP L := by rw [hMd]; simp
  have hlen : ∀ l : List Rw, (allP l).length ≤ 2 * l.length := fun l => by
    induction l with
    | nil => simp [allP]
    | cons x l ih =>
      have : (rowP x).length ≤ 2 := by unfold rowP; split <;> split <;> simp
      simp only [allP, List.flatMap_cons, List.length_append, List.length_cons] at ih ⊢
      omega
  have hMlen : ∀ i, (M i).length ≤ 2 ^ 31 := fun i => by
    have := hlen (L.take i)
    rw [hMd]; simp at this ⊢; omega
  simp [go_sem, -List.cons_append]
  refine IWp.loopT (α := Nat) (fun i => (⟨false, 35, 8, [9, 10, 11, 12, 19, 20, 21, 24], [], [(3, .sl 1 (M i).length 0 (M i).length none), (9, .fz 5 (rws L)), (10, .int .i64 L.length), (11, .int .i64 (i : Int))], []⟩, [.dead, .rows 1 (ints (M i))]))
    (fun i => i ≤ L.length) (fun i => L.length - i) 0 (by simp) (by simp [go_sem, hM0]) ?_
  intro i hi
  by_cases h : i < L.length
  · have w1 : IntKind.i64.wrap ((i : Int) + 1) = i + 1 := wrap64 (by omega) (by omega)
    have hs : M (i + 1) = M i ++ rowP L[i] := by
      rw [hMd]
      show allP (L.take (i + 1)) = _
      rw [List.take_succ_eq_append_getElem h]
      unfold allP
      rw [List.flatMap_append]; simp only [List.flatMap_cons, List.flatMap_nil, List.append_nil]
    have hl1 := hMlen i
    have hl2 := hMlen (i + 1)
    generalize hx : L[i] = x at *
    obtain ⟨N, hN⟩ : ∃ N : Nat → List Int, N = fun j => M i ++ (if 1 ≤ j then (if 0 < x.ns then [x.ns] else []) else []) ++ (if 2 ≤ j then (if 0 < x.ew then [x.ew] else []) else []) := ⟨_, rfl⟩
    have hN0 : N 0 = M i := by rw [hN]; simp
    have hN1 : N 1 = N 0 ++ (if 0 < x.ns then [x.ns] else []) := by rw [hN]; simp
    have hN2 : N 2 = N 1 ++ (if 0 < x.ew then [x.ew] else []) := by rw [hN]; simp
    have hNe : M (i + 1) = N 2 := by rw [hs, hN2, hN1, hN0]; simp [rowP]
    have hNl : ∀ j, (N j).length ≤ 2 ^ 31 + 2 := fun j => by
      rw [hN]; simp only [List.length_append]
      have a : ∀ (c d : Prop) [Decidable c] [Decidable d] (z : Int), (if c then (if d then [z] else []) else []).length ≤ 1 := fun c d _ _ z => by split <;> (try split) <;> simp
      have := a (1 ≤ j) (0 < x.ns) x.ns
      have := a (2 ≤ j) (0 < x.ew) x.ew
      omega
    clear hN
    simp [go_sem, h, hx]
    refine IWp.loopT (α := Nat) (fun j => (⟨false, 35, 8, [9, 10, 11, 12, 19, 20, 21, 24], [], [(3, .sl 1 (N j).length 0 (N j).length none), (9, .fz 5 (rws L)), (10, .int .i64 L.length), (11, .int .i64 (i : Int)), (19, .agg [.int .i64 x.ns, .int .i64 x.ew]), (20, .int .i64 (j : Int))], []⟩, [.dead, .rows 1 (ints (N j)), .dead]))
      (fun j => j ≤ 2) (fun j => 2 - j) 0 (by simp) (by simp [go_sem, hN0]) ?_
    intro j hj
    rcases (by omega : j = 0 ∨ j = 1 ∨ j = 2) with rfl | rfl | rfl
    · have := hNl 0
      have hw : IntKind.i64.wrap 1 = 1 := rfl
      by_cases hp : 0 < x.ns
      · rw [if_pos hp] at hN1
        simp [go_sem, hp]
        exact ⟨by omega, 1, ⟨⟨by rw [hN1]; simp, hw⟩, by rw [hN1, ints_snoc]⟩, by omega, by omega⟩
      · rw [if_neg hp, List.append_nil] at hN1
        simp [go_sem, hp]
        exact ⟨1, ⟨⟨by rw [hN1], hw⟩, by rw [hN1]⟩, by omega, by omega⟩
    · have := hNl 1
      have hw : IntKind.i64.wrap 2 = 2 := rfl
      by_cases hp : 0 < x.ew
      · rw [if_pos hp] at hN2
        simp [go_sem, hp]
        exact ⟨by omega, 2, ⟨⟨by rw [hN2]; simp, hw⟩, by rw [hN2, ints_snoc]⟩, by omega, by omega⟩
      · rw [if_neg hp, List.append_nil] at hN2
        simp [go_sem, hp]
        exact ⟨2, ⟨⟨by rw [hN2], hw⟩, by rw [hN2]⟩, by omega, by omega⟩
    · simp [go_sem, w1]
      exact ⟨i + 1, ⟨⟨by rw [hNe], by simp⟩, by rw [hNe]⟩, by omega, by omega⟩
  · have : i = L.length := by omega
    subst this
    have hal : (allP L).length ≤ 2 ^ 31 := by rw [← hMl]; exact hMlen _
    simp [go_sem, hMl]
    refine ICalls.sortA (zs := allP L) (b := 1) sortInt sort0 Tryz.call28 (by simp [ints]) rfl (by omega) ?_
    have hml : ((allP L).mergeSort fun x y => decide (x ≤ y)).length = (allP L).length := List.length_mergeSort _
    have hpr : prs L = Lib.compact ((allP L).mergeSort fun x y => decide (x ≤ y)) := rfl
    generalize ((allP L).mergeSort fun x y => decide (x ≤ y)) = S at *
    rw [← hml]
    simp [go_sem]
    refine ICalls.compactA (zs := S) (b := 1) compactInt compact0 Tryz.call29 (by simp) rfl (by omega) ?_
    have hcl := compact_le S
    have hfin : ints (prs L) = mp (fun z => [.int .i64 z]) (Lib.compact S) := by rw [hpr]; rfl
    generalize Lib.compact S = C at *
    have htk : List.take C.length (mp (fun z => [IV.int .i64 z]) (C ++ List.replicate (S.length - C.length) 0)) = mp (fun z => [IV.int .i64 z]) C := by rw [← mp_take]; simp
    have hZ : (C ++ List.replicate (S.length - C.length) 0).length = S.length := by simp; omega
    generalize C ++ List.replicate (S.length - C.length) 0 = Z at *
    rw [← hZ]
    simp [go_sem]
    refine hR _ _ _ rfl ?_
    simp [go_sem, hfin, cutR, htk]
    have hsc : ScR (mp (fun z => [IV.int .i64 z]) C) := mp_sc (by simp [scal])
    exact ⟨⟨by omega, okR_sc hsc⟩, (frzR_sc hsc).symm⟩
theorem prs_mem {L : List Rw} {p : Int} : p ∈ prs L ↔ 1 ≤ p ∧ ∃ x ∈ L, x.ns = p ∨ x.ew = p := by
  unfold prs
  rw [srt_mem]
  simp only [allP, List.mem_flatMap, rowP, List.mem_append]
  constructor
  · rintro ⟨x, hx, h⟩
    rcases h with h | h
    · split at h <;> simp at h; subst h; exact ⟨by omega, x, hx, .inl rfl⟩
    · split at h <;> simp at h; subst h; exact ⟨by omega, x, hx, .inr rfl⟩
  · rintro ⟨h1, x, hx, rfl | rfl⟩
    · exact ⟨x, hx, .inl (by rw [if_pos (by omega)]; simp)⟩
    · exact ⟨x, hx, .inr (by rw [if_pos (by omega)]; simp)⟩
theorem prs_len (L : List Rw) : (prs L).length ≤ 2 * L.length := by
  have h0 : (prs L).length ≤ (allP L).length := Nat.le_trans (compact_le _) (Nat.le_of_eq (List.length_mergeSort _))
  refine Nat.le_trans h0 ?_
  clear h0
  induction L with
  | nil => simp [allP]
  | cons x l ih =>
    have : (rowP x).length ≤ 2 := by unfold rowP; split <;> split <;> simp
    simp only [allP, List.flatMap_cons, List.length_append, List.length_cons] at ih ⊢
    omega
end Go.Idl
namespace Go.Idl
set_option linter.all false
open Go.Proofs
set_option maxHeartbeats 4000000
set_option maxRecDepth 40000

def oddT (t : Int) : Int := if t % 2 = 1 then t else if t = 24 then 23 else t + 1
def mdK (t k : Int) : Int := if k % 4 = 0 then (if mdT0 t % 6 = 1 ∨ mdT0 t % 6 = 5 then 0 else 1) else k % 4
def mdT (t k : Int) : Int := if mdK t k = 0 then mdT0 t else if mdK t k = 1 then oddT (mdT0 t) else mdT0 t - mdT0 t % 2
def mdN (t r k : Int) : Int := 1 + r % max (mostK (mdT t k) (max (mdK t k) 1)) 1
def mdM (t r k : Int) : Mv := if mdK t k = 0 then roverM (mdT t k) (mdN t r k) else makeM (mdK t k) (mdT t k) (mdN t r k)
theorem or_one {T : Int} (h : 0 ≤ T ∧ T ≤ 24) : bitsOf .or .i64 T 1 = if T % 2 = 1 then T else T + 1 := by
  obtain ⟨n, rfl⟩ : ∃ n : Nat, T = n := ⟨T.toNat, by omega⟩
  have : ∀ m : Fin 25, bitsOf .or .i64 (m.val : Int) 1 = if (m.val : Int) % 2 = 1 then (m.val : Int) else m.val + 1 := by decide +kernel
  exact this ⟨n, by omega⟩
theorem mdT_range {t : Int} (k : Int) (ht : 0 ≤ t) : 2 ≤ mdT t k ∧ mdT t k ≤ 24 := by
  have : 2 ≤ mdT0 t ∧ mdT0 t ≤ 24 := by unfold mdT0; omega
  unfold mdT oddT
  split
  · exact this
  · split
    · split
      · omega
      · split <;> omega
    · omega
theorem mdK_range {t k : Int} (hk : 0 ≤ k) : 0 ≤ mdK t k ∧ mdK t k ≤ 3 := by
  unfold mdK
  split
  · split <;> omega
  · omega
end Go.Idl
namespace Go.Idl
set_option linter.all false
open Go.Proofs
set_option maxHeartbeats 4000000
set_option maxRecDepth 40000

theorem wF_apart {q : Int} {x y : Rw} (h : apart x y) : apart (wF q x) (wF q y) := by
  obtain ⟨h1, h2, h3⟩ := h
  have hs : ∀ (p : Int) (x : Rw), p ≠ 0 → sitsP p (wF q x) → sitsP p x := fun p x hp hx => by
    unfold sitsP wF at *
    simp only at hx
    rcases hx with hx | hx
    · left; split at hx <;> omega
    · right; split at hx <;> omega
  refine ⟨h1, fun p hp a b => h2 p hp (hs p x hp a) (hs p y hp b), ?_⟩
  rintro ⟨a, b, c⟩
  unfold wF at a b c
  simp only at a b c
  apply h3
  split at a <;> split at b <;> split at c <;> split at c <;> omega
theorem Fair.without {T N S C Q : Int} {L : List Rw} (h : Fair T N S C Q L) (q : Int) : Fair T N S C Q (L.map (wF q)) := by
  refine ⟨fun x hx => ?_, ?_, fun r s => ?_⟩
  · obtain ⟨y, hy, rfl⟩ := List.mem_map.1 hx
    have := h.rng y hy
    unfold wF
    simp only
    refine ⟨this.1, this.2.1, this.2.2.1, ?_, ?_, ?_⟩
    · split <;> omega
    · split <;> omega
    · split <;> split <;> omega
  · exact List.pairwise_map.2 (h.pw.imp wF_apart)
  · rw [List.countP_map]
    exact h.load r s
/-- A design and its numbers. -/
def Dsg (k T : Int) : Prop := (k = 1 ∧ T % 2 = 1 ∨ k = 2 ∧ T % 2 = 0 ∨ k = 3 ∧ T % 2 = 0) ∧ 2 ≤ T
section
variable {k T n r t r' t' : Int}
theorem movX_inj (hD : Dsg k T) (hn : n ≤ T - fewK k) (h1 : 0 ≤ r ∧ r < n) (h2 : 0 ≤ t ∧ t < T) (h3 : 0 ≤ t' ∧ t' < T) (h : movX k T r t % T = movX k T r t' % T) : t = t' := by
  obtain ⟨hk, hT⟩ := hD
  unfold fewK at hn
  have := md (by omega) h (by unfold movX; constructor <;> split <;> omega)
  unfold movX at this
  split at this <;> omega
theorem setX_inj (hD : Dsg k T) (hn : n ≤ T - fewK k) (h1 : 0 ≤ r ∧ r < n) (h2 : 0 ≤ r' ∧ r' < n) (h3 : 0 ≤ t ∧ t < T) (h : setX k T r t % T = setX k T r' t % T) : r = r' := by
  obtain ⟨hk, hT⟩ := hD
  have hn' : n ≤ T := by unfold fewK at hn; split at hn <;> omega
  have := md (by omega) h (by unfold setX; constructor <;> split <;> omega)
  unfold setX at this
  split at this <;> omega
theorem meetX_inj (hD : Dsg k T) (hn : n ≤ T - fewK k) (h1 : 0 ≤ r ∧ r < n) (h2 : 0 ≤ r' ∧ r' < n) (h3 : 0 ≤ t ∧ t < T) (h : movX k T r t % T = movX k T r' t % T) : r = r' := by
  obtain ⟨hk, hT⟩ := hD
  unfold fewK at hn
  have hn' : n ≤ T := by split at hn <;> omega
  have := md (by omega) h (by unfold movX; constructor <;> split <;> split <;> omega)
  unfold movX at this
  split at this <;> split at this <;> split at hn <;> omega
theorem bothX_inj (hD : Dsg k T) (hn : n ≤ T - fewK k) (h1 : 0 ≤ r ∧ r < n) (h2 : 0 ≤ r' ∧ r' < n) (h3 : 0 ≤ t ∧ t < T) (h4 : 0 ≤ t' ∧ t' < T) (h : movX k T r t % T = movX k T r' t' % T) (h' : setX k T r t % T = setX k T r' t' % T) : r = r' ∧ t = t' := by
  obtain ⟨hk, hT⟩ := hD
  unfold fewK at hn
  have hn' : n ≤ T := by split at hn <;> omega
  have a := md (by omega) h (by unfold movX; constructor <;> split <;> split <;> omega)
  have b := md (by omega) h' (by unfold setX; constructor <;> split <;> split <;> omega)
  unfold movX at a
  unfold setX at b
  rcases hk with ⟨rfl, hk⟩ | ⟨rfl, hk⟩ | ⟨rfl, hk⟩ <;> simp at a b hn <;> (repeat' split at a) <;> (repeat' split at b) <;> omega
end
theorem rowsX_pw {k : Int} {T n : Nat} {R : Rw → Rw → Prop} (hT : 0 < T) (h : ∀ r t r' t' : Nat, r < n → t < T → r' < n → t' < T → ¬ (r = r' ∧ t = t') → R (rowX k T r t) (rowX k T r' t')) : (rowsX k T n).Pairwise R := by
  rw [List.pairwise_iff_getElem]
  intro i j hi hj hij
  rw [rowsX_get hT, rowsX_get hT]
  rw [rowsX_length] at hi hj
  simp only [Int.toNat_natCast] at hi hj
  have hi' := Nat.div_lt_of_lt_mul (by rw [Nat.mul_comm] at hi; exact hi)
  have hj' := Nat.div_lt_of_lt_mul (by rw [Nat.mul_comm] at hj; exact hj)
  refine h _ _ _ _ hi' (Nat.mod_lt _ hT) hj' (Nat.mod_lt _ hT) fun ⟨e1, e2⟩ => ?_
  have a := Nat.div_add_mod i T
  have b := Nat.div_add_mod j T
  rw [e1, e2] at a
  omega
theorem rowX_apart {k T n r t r' t' : Int} (hD : Dsg k T) (hn : n ≤ T - fewK k) (h1 : 0 ≤ r ∧ r < n) (h2 : 0 ≤ r' ∧ r' < n) (h3 : 0 ≤ t ∧ t < T) (h4 : 0 ≤ t' ∧ t' < T) (hne : ¬ (r = r' ∧ t = t')) : apart (rowX k T r t) (rowX k T r' t') := by
  have hT : 0 < T := by have := hD.2; omega
  have m1 := Int.emod_nonneg (movX k T r t) (show T ≠ 0 by omega)
  have m2 := Int.emod_nonneg (movX k T r' t') (show T ≠ 0 by omega)
  unfold apart rowX sitsP
  simp only
  refine ⟨fun e => by omega, fun p hp a b => ?_, ?_⟩
  · rcases a with a | a <;> rcases b with b | b
    · have et : t = t' := by omega
      refine ⟨fun e => hne ⟨e, et⟩, fun e => ?_⟩
      subst et
      exact hne ⟨setX_inj hD hn h1 h2 h3 e, rfl⟩
    · omega
    · omega
    · have em : movX k T r t % T = movX k T r' t' % T := by omega
      refine ⟨fun e => ?_, fun e => hne (bothX_inj hD hn h1 h2 h3 h4 em e)⟩
      subst e
      exact hne ⟨rfl, movX_inj hD hn h1 h3 h4 em⟩
  · rintro ⟨_, _, ⟨a, b⟩ | ⟨a, b⟩⟩
    · have et : t = t' := by omega
      subst et
      exact hne ⟨meetX_inj hD hn h1 h2 h3 (by omega), rfl⟩
    · omega
theorem setX_load {k T n r t t' : Int} (hD : Dsg k T) (h3 : 0 ≤ t ∧ t < T) (h4 : 0 ≤ t' ∧ t' < T) (hh : k = 3 → (t < T / 2 ↔ t' < T / 2)) (h : setX k T r t % T = setX k T r t' % T) : t = t' := by
  obtain ⟨hk, hT⟩ := hD
  have := md (by omega) h (by unfold setX; constructor <;> split <;> split <;> omega)
  unfold setX at this
  split at this <;> split at this <;> omega
theorem dsg_of {k T : Int} (h : findE T k = 0) (hk : 0 ≤ k) : Dsg k T ∧ T ≤ 24 := by
  have hz := findE_zero h
  unfold findE at h
  rw [if_neg (by omega)] at h
  have hk4 : k = 1 ∨ k = 2 ∨ k = 3 := by omega
  split at h
  · rename_i he
    unfold evenK at he
    rcases hk4 with rfl | rfl | rfl <;> simp at he <;> exact ⟨⟨by omega, by omega⟩, by omega⟩
  · omega
theorem fair_rows {k : Int} {T n : Nat} (hD : Dsg k T) (hn : (n : Int) ≤ T - fewK k) : Fair T n T (copK k) (2 * T) (rowsX k T n) := by
  have hT : 0 < T := by have := hD.2; omega
  refine ⟨fun x hx => ?_, ?_, fun r s => ?_⟩
  · obtain ⟨r, t, hr, ht, rfl⟩ := rowsX_mem hT hx
    have m1 := Int.emod_nonneg (movX k T r t) (show (T : Int) ≠ 0 by omega)
    have m2 := Int.emod_lt_of_pos (movX k T r t) (show (0 : Int) < T by omega)
    have m3 := Int.emod_nonneg (setX k T r t) (show (T : Int) ≠ 0 by omega)
    have m4 := Int.emod_lt_of_pos (setX k T r t) (show (0 : Int) < T by omega)
    unfold rowX
    simp only
    omega
  · exact rowsX_pw hT fun r t r' t' h1 h2 h3 h4 hne => rowX_apart hD hn (by omega) (by omega) (by omega) (by omega) (by omega)
  · by_cases h3 : k = 3
    · have hc : copK k = 2 := by unfold copK; rw [if_pos h3]
      have key : ∀ b : Bool, (rowsX k T n).countP (fun x => rsB r s x && (decide (x.t < T / 2) == b)) ≤ 1 := fun b => by
        refine countP_one (rowsX_pw hT fun r1 t1 r2 t2 h1 h2 h3' h4 hne => ?_)
        rintro ⟨a, c⟩
        unfold rsB rowX at a c
        simp only [Bool.and_eq_true, beq_iff_eq, decide_eq_true_eq] at a c
        have er : r1 = r2 := by omega
        subst er
        refine hne ⟨rfl, ?_⟩
        have := setX_load (n := n) (r := r1) hD (t := t1) (t' := t2) (by omega) (by omega) (fun _ => by
          have := a.2.trans c.2.symm
          simpa using this) (by omega)
        omega
      have hsplit : (rowsX k T n).countP (rsB r s) = (rowsX k T n).countP (fun x => rsB r s x && (decide (x.t < T / 2) == true)) + (rowsX k T n).countP (fun x => rsB r s x && (decide (x.t < T / 2) == false)) := by
        generalize rowsX k T n = L
        induction L with
        | nil => simp
        | cons x L ih =>
          rw [List.countP_cons, List.countP_cons, List.countP_cons, ih]
          by_cases h5 : rsB r s x = true <;> by_cases h6 : x.t < T / 2 <;> simp [h5, h6] <;> omega
      have a := key true
      have b := key false
      rw [hc]; omega
    · have hc : copK k = 1 := by unfold copK; rw [if_neg h3]
      have : (rowsX k T n).countP (rsB r s) ≤ 1 := by
        refine countP_one (rowsX_pw hT fun r1 t1 r2 t2 h1 h2 h3' h4 hne => ?_)
        rintro ⟨a, c⟩
        unfold rsB rowX at a c
        simp only [Bool.and_eq_true, beq_iff_eq] at a c
        have er : r1 = r2 := by omega
        subst er
        refine hne ⟨rfl, ?_⟩
        have := setX_load (n := n) (r := r1) hD (t := t1) (t' := t2) (by omega) (by omega) (fun h => absurd h h3) (by omega)
        omega
      rw [hc]; omega
theorem rovF_r {T : Int} {x : Rw} : (rovF T x).r = x.r ∧ (rovF T x).t = x.t ∧ (rovF T x).s = x.s ∧ (rovF T x).ew = x.ew ∧ (rovF T x).ns = if x.t = 2 * x.r % T then 2 * T + 1 else x.ns := by
  unfold rovF
  split <;> simp
theorem rov_two {T r : Int} (hT : 0 < T) (h : 0 ≤ r ∧ r < T) : 2 * r % T = 2 * r ∨ 2 * r % T = 2 * r - T := by
  have m1 := Int.emod_nonneg (2 * r) (show T ≠ 0 by omega)
  have m2 := Int.emod_lt_of_pos (2 * r) (show 0 < T by omega)
  have := md (x := 2 * r % T) (y := 2 * r) hT (Int.emod_emod_of_dvd _ (Int.dvd_refl T)) (by omega)
  omega
theorem rov_sets {T r r' t t' : Int} (h3 : T % 3 ≠ 0) (hr : 0 ≤ r ∧ r < T) (hr' : 0 ≤ r' ∧ r' < T) (h1 : t = 2 * r ∨ t = 2 * r - T) (h2 : t' = 2 * r' ∨ t' = 2 * r' - T) (h : t + r = t' + r' ∨ t + r = t' + r' + T ∨ t + r = t' + r' - T) : r = r' := by
  rcases h1 with rfl | rfl <;> rcases h2 with rfl | rfl <;> rcases h with h | h | h <;> omega
theorem rov_meets {T r r' t t' : Int} (hr : 0 ≤ r ∧ r < T) (hr' : 0 ≤ r' ∧ r' < T) (h1 : t = 2 * r ∨ t = 2 * r - T) (h2 : t' = 2 * r' ∨ t' = 2 * r' - T) (h : t - r = t' - r' ∨ t - r = t' - r' + T ∨ t - r = t' - r' - T) : r = r' := by
  rcases h1 with rfl | rfl <;> rcases h2 with rfl | rfl <;> rcases h with h | h | h <;> omega
theorem rov_both {T r r' t t' : Int} (hT : 0 < T) (h3 : T % 3 ≠ 0) (hr : 0 ≤ r ∧ r < T) (hr' : 0 ≤ r' ∧ r' < T) (ht : 0 ≤ t ∧ t < T) (ht' : 0 ≤ t' ∧ t' < T) (u : t = 2 * r % T) (v : t' = 2 * r' % T) (hne : r ≠ r') : setX 1 T r t % T ≠ setX 1 T r' t' % T ∧ movX 1 T r t % T ≠ movX 1 T r' t' % T := by
  have q1 := rov_two hT hr
  have q2 := rov_two hT hr'
  rw [← u] at q1
  rw [← v] at q2
  clear u v
  refine ⟨fun e => ?_, fun e => ?_⟩
  · have := md hT e (by unfold setX; simp; omega)
    unfold setX at this
    simp at this
    exact hne (rov_sets h3 hr hr' q1 q2 this)
  · have := md hT e (by unfold movX; simp; omega)
    unfold movX at this
    simp at this
    exact hne (rov_meets hr hr' q1 q2 this)
theorem fair_rover {T n : Nat} (hD : Dsg 1 T) (hT3 : T % 3 ≠ 0) (hn : n ≤ T) : Fair T n T 1 (2 * T + 1) ((rowsX 1 T n).map (rovF T)) := by
  have hT : 0 < T := by have := hD.2; omega
  have hnI : (n : Int) ≤ T - fewK 1 := by unfold fewK; simp; omega
  have hf := fair_rows (n := n) hD hnI
  have ho : (T : Int) % 2 = 1 := by have := hD.1; omega
  refine ⟨fun x hx => ?_, ?_, fun r s => ?_⟩
  · obtain ⟨y, hy, rfl⟩ := List.mem_map.1 hx
    have := hf.rng y hy
    obtain ⟨e1, e2, e3, e4, e5⟩ := rovF_r (T := T) (x := y)
    rw [e1, e2, e3, e4, e5]
    refine ⟨this.1, this.2.1, this.2.2.1, ?_, ?_, ?_⟩
    · split <;> omega
    · omega
    · split <;> omega
  · refine List.pairwise_map.2 (rowsX_pw hT fun r t r' t' h1 h2 h3 h4 hne => ?_)
    have ha := rowX_apart (k := 1) (T := T) (n := n) (r := r) (t := t) (r' := r') (t' := t') hD hnI (by omega) (by omega) (by omega) (by omega) (by omega)
    obtain ⟨a1, a2, a3⟩ := ha
    obtain ⟨d1, d2, d3, d4, d5⟩ := rovF_r (T := T) (x := rowX 1 T r t)
    obtain ⟨e1, e2, e3, e4, e5⟩ := rovF_r (T := T) (x := rowX 1 T r' t')
    have m1 := Int.emod_nonneg (movX 1 T r t) (show (T : Int) ≠ 0 by omega)
    have m2 := Int.emod_nonneg (movX 1 T r' t') (show (T : Int) ≠ 0 by omega)
    have m3 := Int.emod_lt_of_pos (movX 1 T r t) (show (0 : Int) < T by omega)
    have m4 := Int.emod_lt_of_pos (movX 1 T r' t') (show (0 : Int) < T by omega)
    have both : (t : Int) = 2 * r % T → (t' : Int) = 2 * r' % T → (r : Int) ≠ r' ∧ setX 1 T r t % T ≠ setX 1 T r' t' % T ∧ movX 1 T r t % T ≠ movX 1 T r' t' % T := fun u v => by
      have hr : (r : Int) ≠ r' := fun e => hne ⟨by omega, by rw [e] at u; omega⟩
      exact ⟨hr, rov_both (by omega) (by omega) (by omega) (by omega) (by omega) (by omega) u v hr⟩
    refine ⟨fun e => ?_, fun p hp a b => ?_, ?_⟩
    · rw [d1, e1] at e; rw [d2, e2]; exact a1 e
    · rw [d1, e1, d3, e3]
      unfold sitsP at a b
      rw [d4, d5] at a
      rw [e4, e5] at b
      by_cases u : (rowX 1 T r t).t = 2 * (rowX 1 T r t).r % T <;> by_cases v : (rowX 1 T r' t').t = 2 * (rowX 1 T r' t').r % T
      · rw [if_pos u] at a
        rw [if_pos v] at b
        have hb := both u v
        rcases a with a | a <;> rcases b with b | b
        · exact ⟨hb.1, hb.2.1⟩
        · unfold rowX at b; simp only at b; omega
        · unfold rowX at a; simp only at a; omega
        · exact a2 p hp (.inr a) (.inr b)
      · rw [if_pos u] at a
        rw [if_neg v] at b
        rcases a with a | a
        · unfold rowX at b; simp only at b; omega
        · exact a2 p hp (.inr a) b
      · rw [if_neg u] at a
        rw [if_pos v] at b
        rcases b with b | b
        · unfold rowX at a; simp only at a; omega
        · exact a2 p hp a (.inr b)
      · rw [if_neg u] at a
        rw [if_neg v] at b
        exact a2 p hp a b
    · rw [d4, d5, e4, e5]
      by_cases u : (rowX 1 T r t).t = 2 * (rowX 1 T r t).r % T <;> by_cases v : (rowX 1 T r' t').t = 2 * (rowX 1 T r' t').r % T
      · rw [if_pos u, if_pos v]
        have hb := both u v
        rintro ⟨_, _, ⟨_, c⟩ | ⟨c, _⟩⟩
        · unfold rowX at c; simp only at c; omega
        · unfold rowX at c; simp only at c; omega
      · rw [if_pos u, if_neg v]
        rintro ⟨_, _, ⟨c, _⟩ | ⟨_, c⟩⟩
        · unfold rowX at c; simp only at c; omega
        · unfold rowX at c; simp only at c; omega
      · rw [if_neg u, if_pos v]
        rintro ⟨_, _, ⟨c, _⟩ | ⟨c, _⟩⟩
        · unfold rowX at c; simp only at c; omega
        · unfold rowX at c; simp only at c; omega
      · rw [if_neg u, if_neg v]
        exact a3
  · have e : (rsB r s ∘ rovF T) = rsB r s := by
      funext x
      unfold rsB
      simp only [Function.comp]
      rw [rovF_r.1, (rovF_r (T := T) (x := x)).2.2.1]
    rw [List.countP_map, e]
    exact hf.load r s
end Go.Idl
namespace Go.Idl
set_option linter.all false
open Go.Proofs
set_option maxHeartbeats 4000000
set_option maxRecDepth 40000

theorem findE_dsg {k T : Int} (hD : Dsg k T) (hT : T ≤ 24) : findE T k = 0 := by
  obtain ⟨hk, h2⟩ := hD
  unfold findE
  rw [if_neg (by omega), if_pos]
  unfold evenK
  rcases hk with ⟨rfl, h⟩ | ⟨rfl, h⟩ | ⟨rfl, h⟩ <;> simp [h]
theorem makeE_dsg {k T n : Int} (hD : Dsg k T) (hT : T ≤ 24) (h1 : 1 ≤ n) (h2 : n ≤ T - fewK k) : makeE k T n = 0 := by
  unfold makeE
  rw [if_neg (by simp [findE_dsg hD hT]), if_neg (by omega), if_neg (by omega)]
theorem makeM_dsg {k T n : Int} (hD : Dsg k T) (hT : T ≤ 24) (h1 : 1 ≤ n) (h2 : n ≤ T - fewK k) : makeM k T n = ⟨T, n, T, copK k, 2, rowsX k T n.toNat⟩ := by
  unfold makeM
  rw [if_pos (makeE_dsg hD hT h1 h2)]; rfl
theorem roverE_dsg {T n : Int} (hD : Dsg 1 T) (hT : T ≤ 24) (h3 : T % 3 ≠ 0) (h1 : 1 ≤ n) (h2 : n ≤ T) : roverE T n = 0 := by
  unfold roverE
  rw [if_neg (by simp [findE_dsg hD hT]), if_neg h3]
  exact makeE_dsg hD hT h1 (by unfold fewK; simpa using h2)
theorem roverM_dsg {T n : Int} (hD : Dsg 1 T) (hT : T ≤ 24) (h3 : T % 3 ≠ 0) (h1 : 1 ≤ n) (h2 : n ≤ T) : roverM T n = ⟨T, n, T, 1, 2, (rowsX 1 T n.toNat).map (rovF T)⟩ := by
  unfold roverM
  rw [if_pos (roverE_dsg hD hT h3 h1 h2)]; rfl
/-- What Made returns: a movement with a rover, or one of a design K. -/
structure IsMade (M : Mv) (K : Int) (rov : Bool) (T N : Nat) : Prop where
  dsg : Dsg K T
  le : T ≤ 24
  n1 : 1 ≤ N
  nT : (N : Int) ≤ T - fewK K
  yes : rov = true → K = 1 ∧ T % 3 ≠ 0 ∧ 5 ≤ T ∧ M = ⟨T, N, T, 1, 2, (rowsX 1 T N).map (rovF T)⟩
  no : rov = false → M = ⟨T, N, T, copK K, 2, rowsX K T N⟩
theorem made_is {t r k : Int} (ht : 0 ≤ t) (hr : 0 ≤ r) (hk : 0 ≤ k) : ∃ T N : Nat, IsMade (mdM t r k) (max (mdK t k) 1) (decide (mdK t k = 0)) T N ∧ mdT t k = T ∧ mdN t r k = N ∧ max (mdK t k) 1 = max (k % 4) 1 ∧ (mdK t k = 0 → k % 4 = 0) := by
  have hTr := mdT_range (t := t) k ht
  have hKr := mdK_range (t := t) hk
  have hT0 : 2 ≤ mdT0 t ∧ mdT0 t ≤ 24 := by unfold mdT0; omega
  have hTd : mdT t k = if mdK t k = 0 then mdT0 t else if mdK t k = 1 then oddT (mdT0 t) else mdT0 t - mdT0 t % 2 := rfl
  have hKd : mdK t k = if k % 4 = 0 then (if mdT0 t % 6 = 1 ∨ mdT0 t % 6 = 5 then 0 else 1) else k % 4 := rfl
  have hNd : mdN t r k = 1 + r % max (mostK (mdT t k) (max (mdK t k) 1)) 1 := rfl
  have hMd : mdM t r k = if mdK t k = 0 then roverM (mdT t k) (mdN t r k) else makeM (mdK t k) (mdT t k) (mdN t r k) := rfl
  have hodd : (mdK t k = 1 → mdT t k % 2 = 1) ∧ (2 ≤ mdK t k → mdT t k % 2 = 0) ∧ (mdK t k = 0 → mdT t k % 2 = 1 ∧ mdT t k % 3 ≠ 0 ∧ 5 ≤ mdT t k ∧ k % 4 = 0) := by
    refine ⟨fun h => ?_, fun h => ?_, fun h => ?_⟩
    · rw [h, if_neg (by omega), if_pos rfl] at hTd
      rw [hTd]; unfold oddT
      split
      · assumption
      · split <;> omega
    · rw [if_neg (by omega), if_neg (by omega)] at hTd
      omega
    · rw [h, if_pos rfl] at hTd
      rw [h] at hKd
      split at hKd
      · split at hKd <;> omega
      · omega
  have hmax : max (mdK t k) 1 = max (k % 4) 1 := by
    rw [hKd]
    split
    · split <;> omega
    · rfl
  obtain ⟨K, hK⟩ : ∃ K, mdK t k = K := ⟨_, rfl⟩
  obtain ⟨T, hT⟩ : ∃ T : Nat, mdT t k = T := ⟨(mdT t k).toNat, by omega⟩
  rw [hK] at hodd hKr hMd hNd hmax
  rw [hT] at hodd hTr hMd hNd
  obtain ⟨J, hJ⟩ : ∃ J, max K 1 = J := ⟨_, rfl⟩
  rw [hJ] at hNd
  have hD : Dsg J T := by
    refine ⟨?_, by omega⟩
    rcases (by omega : K = 0 ∨ K = 1 ∨ K = 2 ∨ K = 3) with rfl | rfl | rfl | rfl <;> omega
  have hmost : mostK T J = T - fewK J := by
    unfold mostK; rw [if_pos (findE_dsg hD (by omega))]
  have hfew : fewK J ≤ 1 := by unfold fewK; split <;> omega
  rw [hmost] at hNd
  have hN1 : 1 ≤ mdN t r k ∧ mdN t r k ≤ T - fewK J := by
    rw [hNd]
    have m1 := Int.emod_nonneg r (show max ((T : Int) - fewK J) 1 ≠ 0 by omega)
    have m2 := Int.emod_lt_of_pos r (show 0 < max ((T : Int) - fewK J) 1 by omega)
    omega
  obtain ⟨N, hN⟩ : ∃ N : Nat, mdN t r k = N := ⟨(mdN t r k).toNat, by omega⟩
  rw [hN] at hN1 hMd
  rw [hK]
  refine ⟨T, N, ?_, hT, hN, hmax, fun h => (hodd.2.2 h).2.2.2⟩
  rw [hJ]
  refine ⟨hD, by omega, by omega, hN1.2, fun h => ?_, fun h => ?_⟩
  · have h0 : K = 0 := by simpa using h
    have hJ1 : J = 1 := by omega
    have := hodd.2.2 h0
    refine ⟨hJ1, by omega, by omega, ?_⟩
    rw [hMd, if_pos h0]
    subst hJ1
    have hf : fewK 1 = 0 := rfl
    rw [roverM_dsg hD (by omega) (by omega) (by omega) (by omega)]
    simp
  · have h0 : ¬ K = 0 := by simpa using h
    have hJK : J = K := by omega
    rw [hMd, if_neg h0, ← hJK, makeM_dsg hD (by omega) (by omega) hN1.2]
    simp
section
variable {M : Mv} {K : Int} {rov : Bool} {T N : Nat}
theorem IsMade.head (h : IsMade M K rov T N) : M.tables = T ∧ M.rounds = N ∧ M.sets = T ∧ M.winners = 2 ∧ M.rows.length = N * T ∧ M.copies = copK K := by
  cases rov with
  | true =>
    obtain ⟨h1, _, _, h2⟩ := h.yes rfl
    subst h1
    rw [h2]; simp [rowsX_length, copK]
  | false => rw [h.no rfl]; simp [rowsX_length]
theorem IsMade.nle (h : IsMade M K rov T N) : N ≤ T := by
  have := h.nT
  unfold fewK at this
  split at this <;> omega
theorem IsMade.len (h : IsMade M K rov T N) : M.rows.length ≤ 576 := by
  rw [h.head.2.2.2.2.1]
  have := h.nle
  have := h.le
  exact Nat.mul_le_mul (show N ≤ 24 by omega) this
theorem IsMade.fair (h : IsMade M K rov T N) : Fair M.tables M.rounds M.sets M.copies (2 * T + 1) M.rows := by
  obtain ⟨h1, h2, h3, _, _, h4⟩ := h.head
  rw [h1, h2, h3, h4]
  cases rov with
  | true =>
    obtain ⟨rfl, h5, _, h6⟩ := h.yes rfl
    rw [h6]
    have := fair_rover (n := N) h.dsg (by omega) h.nle
    exact this
  | false =>
    rw [h.no rfl]
    have hf := fair_rows (n := N) h.dsg h.nT
    exact ⟨fun x hx => by have := hf.rng x hx; omega, hf.pw, hf.load⟩
/-- Each row, by its round and its table. -/
theorem IsMade.row (h : IsMade M K rov T N) {q : Nat} (hq : q < M.rows.length) : M.rows[q].r = (q / T : Nat) ∧ M.rows[q].t = (q % T : Nat) ∧ 1 ≤ M.rows[q].ns ∧ 1 ≤ M.rows[q].ew := by
  have hT : 0 < T := by have := h.dsg.2; omega
  have e1 : ∀ (k : Int) (hq : q < (rowsX k T N).length), (rowsX k T N)[q].r = (q / T : Nat) ∧ (rowsX k T N)[q].t = (q % T : Nat) ∧ 1 ≤ (rowsX k T N)[q].ns ∧ 1 ≤ (rowsX k T N)[q].ew := fun k hq => by
    rw [rowsX_get hT]
    unfold rowX
    have := Int.emod_nonneg (movX k T (q / T : Nat) (q % T : Nat)) (show (T : Int) ≠ 0 by omega)
    exact ⟨rfl, rfl, by simp only; omega, by simp only; omega⟩
  cases rov with
  | true =>
    have h6 := (h.yes rfl).2.2.2
    subst h6
    simp only [List.getElem_map] at hq ⊢
    obtain ⟨d1, d2, d3, d4, d5⟩ := rovF_r (T := T) (x := (rowsX 1 T N)[q]'(by simpa using hq))
    obtain ⟨a1, a2, a3, a4⟩ := e1 1 (by simpa using hq)
    rw [d1, d2, d4, d5]
    refine ⟨a1, a2, ?_, a4⟩
    split <;> omega
  | false =>
    have h6 := h.no rfl
    subst h6
    exact e1 K hq
end
end Go.Idl
