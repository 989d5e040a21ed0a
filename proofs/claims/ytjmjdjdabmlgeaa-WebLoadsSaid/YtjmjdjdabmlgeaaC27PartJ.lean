/-
  Chapter 27: together's walk, in general.
  Chapter 27: Shared, in general.
-/
import Derived.Test.YtjmjdjdabmlgeaaC27PartH
import Derived.Test.YtjmjdjdabmlgeaaC27PartI
import Derived.Test.YtjmjdjdabmlgeaaIdlPartN
namespace Go.Idl
set_option linter.all false
open Go.Proofs
set_option maxHeartbeats 16000000
set_option maxRecDepth 40000

def smP (P : List (Int × Int)) : List (IV × IV) := P.map fun p => (.agg [.int .i64 p.1, .int .i64 p.2], .bool true)
def prR (P : List (Int × Int)) : List (List IV) := mp (rowI ecP) P
def addP (P : List (Int × Int)) (p : Int × Int) : List (Int × Int) := if p ∈ P then P else P ++ [p]
theorem addP_mem {P : List (Int × Int)} {p q : Int × Int} : q ∈ addP P p ↔ q ∈ P ∨ q = p := by
  unfold addP
  split
  · rename_i h
    exact ⟨.inl, fun h' => h'.elim _root_.id fun e => e ▸ h⟩
  · simp
theorem addP_nodup {P : List (Int × Int)} {p : Int × Int} (h : P.Nodup) : (addP P p).Nodup := by
  unfold addP
  split
  · exact h
  · rename_i hn
    exact List.nodup_append.2 ⟨h, by simp, fun a ha b hb e => by rw [List.mem_singleton] at hb; subst hb; subst e; exact hn ha⟩
@[go_sem] theorem smP_bl {n : Nat} {P : List (Int × Int)} : BlM n (smP P) = True := eq_true fun e he => by
  obtain ⟨x, _, rfl⟩ := List.mem_map.1 he
  simp [go_sem]
@[go_sem] theorem prR_bl {n : Nat} {P : List (Int × Int)} : BlR n (prR P) = True := eq_true (ScR.bl (mp_sc (by simp [scal, rowI, ecP])))
@[go_sem] theorem ren_F {π : Nat → Nat} {M : List (Int × List Int)} : renM π (enF M) = enF M := renM_cl fun e he => by
  obtain ⟨x, _, rfl⟩ := List.mem_map.1 he
  have hc : ClR (ints x.2) := ScR.cl (mp_sc (by simp [scal]))
  exact ⟨.int _ _, .fz _ _ fun i row j c h1 h2 => hc row (List.mem_of_getElem? h1) c (List.mem_of_getElem? h2)⟩
/-- The heap at a call of the round. -/
def togH (Y : IObj) (P : List (Int × Int)) : Heap := [.dead, .map (smP P), .rows 1 [[.map 1]], .rows 1 [[.sl 4 P.length 0 P.length none]], .rows 2 (prR P), Y]
def togI (Y : IObj) (P : List (Int × Int)) (M : List (Int × List Int)) (cur : Option (IV × IV)) (K : List (Int × List Int)) : Heap := [.dead, .map (smP P), .rows 1 [[.map 1]], .rows 1 [[.sl 4 P.length 0 P.length none]], .rows 2 (prR P), Y, .dead, .dead, .iter (some 7) (enF M) cur (enF K)]
def togV (m : Mv) (r : Int) : IV := .func (.func 58) [] [.fptr 6 [[.int .i64 m.tables, .int .i64 m.rounds, .int .i64 m.sets, .int .i64 m.copies, .int .i64 m.winners, .fz 5 (rws m.rows)]] 0 0, .fptr 1 [[.int .i64 r]] 0 0]
theorem together_fun (m : Mv) (r : Int) : ON 44 [m.v, .int .i64 r] (fun v => v = togV m r) := by
  refine IFun.of_bodyZ false 5 [] Try.func44 rfl Try.call44 rfl fun R hR => ?_
  obtain ⟨tb, ro, se, co, wi, L⟩ := m
  simp only [Mv.v, togV] at *
  simp [go_sem]
  exact hR _ _ _ rfl (by simp [go_sem])
def DnT (T : List Int) (P : List (Int × Int)) : Prop := ∀ a ∈ T, ∀ b ∈ T, a < b → (a, b) ∈ P
theorem together1_calls (m : Mv) (r : Int) (hl : m.rows.length ≤ 2 ^ 30) (l : Nat) (Y : IObj) (hY3 : ∀ n, 6 ≤ n → ObBl n Y) (hYh : Y.isHole = false)
    (hY : ∀ (P : List (Int × Int)) (M : List (Int × List Int)) (k : Int) (T : List Int) (K : List (Int × List Int)) (a b : Int), P.Nodup → (∀ p ∈ P, p ∈ sharedL m r) → YCalls Try.prog [] l [.agg [.int .i64 a, .int .i64 b]] (togI Y P M (some (.int .i64 k, .fz 1 (ints T))) K) fun r σ' => r = .bool true ∧ fgt (togI Y (addP P (a, b)) M (some (.int .i64 k, .fz 1 (ints T))) K) σ') :
    ICalls Try.prog [] 58 [.func (.yield l) [] [], .fptr 6 [[.int .i64 m.tables, .int .i64 m.rounds, .int .i64 m.sets, .int .i64 m.copies, .int .i64 m.winners, .fz 5 (rws m.rows)]] 0 0, .fptr 1 [[.int .i64 r]] 0 0] (togH Y []) fun _ σ' => ∃ P, σ' = togH Y P ∧ P.Nodup ∧ ∀ p, p ∈ P ↔ p ∈ sharedL m r := by
  refine ICalls.forget (ICalls.of_bodyU false 10 [13, 15, 18, 19, 20, 21, 28, 29, 30, 31, 39] Try.func58 rfl Try.call58 rfl fun R hR => ?_)
  have ct := tables_calls m r hl
  simp only [Mv.v] at ct
  unfold togI at hY
  unfold togH at hR ⊢
  refine IWp.seqI ?_
  simp [go_sem]
  refine ct.at [] (by simp [go_sem]) ?_
  rintro _ _ ⟨M, rfl, rfl, hM⟩
  simp [go_sem]
  refine IWp.block ?_
  refine IWp.loopI (α := Option (IV × IV) × List (Int × List Int) × List (Int × Int)) (fun x => (⟨false, 42, 10, [13, 15, 18, 19, 20, 21, 28, 29, 30, 31, 39], [], [(0, .func (.yield l) [] []), (13, .iter 8)], []⟩, [.dead, .map (smP x.2.2), .rows 1 [[.map 1]], .rows 1 [[.sl 4 x.2.2.length 0 x.2.2.length none]], .rows 2 (prR x.2.2), Y, .dead, .dead, .iter (some 7) (enF M) x.1 (enF x.2.1)]))
    (fun x => (∀ e ∈ x.2.1, e ∈ M) ∧ x.2.2.Nodup ∧ (∀ p ∈ x.2.2, p ∈ sharedL m r) ∧ ∀ e ∈ M, e ∈ x.2.1 ∨ DnT e.2 x.2.2) (fun x => x.2.1.length) (none, M, []) ⟨fun _ h => h, .nil, by simp, fun e he => .inl he⟩ (by simp [go_sem, hY3, smP, prR]) ?_
  rintro ⟨cur, K, P⟩ ⟨hK, hnd, hsh, hdn⟩
  simp only at hK hnd hsh hdn
  refine IWp.seqI ?_
  simp [go_sem]
  unfold nextQ
  refine ⟨fun h => ?_, fun i kv hkv => ?_⟩
  · have hK0 : K = [] := by simpa [enF] using h
    subst hK0
    have hall : ∀ p, p ∈ P ↔ p ∈ sharedL m r := fun p => ⟨hsh p, fun hp => by
      obtain ⟨a, b⟩ := p
      obtain ⟨hlt, s, h1, h2⟩ := sharedL_mem.1 hp
      rw [← tbs_mem] at h1 h2
      rcases hM.all s with h0 | ⟨e, he, rfl⟩
      · rw [h0] at h1; cases h1
      · rcases hdn e he with h3 | h3
        · cases h3
        · exact h3 a (by rw [hM.ent e he, srt_mem]; exact h1) b (by rw [hM.ent e he, srt_mem]; exact h2) hlt⟩
    simp [go_sem]
    refine IWp.now ?_
    simp [go_sem]
    exact hR _ _ ⟨[.dead, .map (smP P), .rows 1 [[.map 1]], .rows 1 [[.sl 4 P.length 0 P.length none]], .rows 2 (prR P), Y], by simp [go_sem, hY3, hYh], P, rfl, hnd, hall⟩
  · obtain ⟨⟨k, T⟩, hk, rfl⟩ : ∃ e, K[i]? = some e ∧ (IV.int .i64 e.1, IV.fz 1 (ints e.2)) = kv := by simpa [enF, List.getElem?_map, Option.map_eq_some_iff] using hkv
    obtain ⟨hi, hki⟩ := List.getElem?_eq_some_iff.1 hk
    have hlen : (K.eraseIdx i).length < K.length := by rw [List.length_eraseIdx, if_pos hi]; omega
    have hkM : (k, T) ∈ M := hK _ (by rw [← hki]; exact List.getElem_mem hi)
    have hK2 : ∀ e ∈ K.eraseIdx i, e ∈ M := fun e h => hK e (List.mem_of_mem_eraseIdx h)
    have hdn2 : ∀ e ∈ M, e ∈ K.eraseIdx i ∨ e = (k, T) ∨ DnT e.2 P := fun e he => by
      rcases hdn e he with h | h
      · rcases mem_eraseP hk h with h2 | h2
        · exact .inr (.inl h2)
        · exact .inl h2
      · exact .inr (.inr h)
    have hT : T = srt (tbs m.rows r k) := hM.ent _ hkM
    have hTi : Inc T := by rw [hT]; exact srt_inc _
    have hTs : ∀ a ∈ T, ∀ b ∈ T, a < b → (a, b) ∈ sharedL m r := fun a ha b hb hlt => by
      rw [hT, srt_mem, tbs_mem] at ha hb
      exact sharedL_mem.2 ⟨hlt, k, ha, hb⟩
    have hTl : T.length ≤ 2 ^ 30 := by
      rw [hT]
      exact Nat.le_trans (srt_len _) (Nat.le_trans (tbs_len _ _ _) hl)
    have her : (enF K).eraseIdx i = enF (K.eraseIdx i) := map_eraseIdxW _ K i
    rw [her]
    generalize K.eraseIdx i = K2 at *
    clear hdn hkv hk hki hi hK
    simp [go_sem]
    refine IWp.seqI ?_
    simp [go_sem]
    refine IWp.block ?_
    refine IWp.seqI ?_
    simp [go_sem]
    refine IWp.seqI ?_
    simp [go_sem]
    refine IWp.block ?_
    refine IWp.loopI (α := Nat × List (Int × Int)) (fun x => (⟨false, 42, 10, [13, 15, 18, 19, 20, 21, 28, 29, 30, 31, 39], [], [(0, .func (.yield l) [] []), (5, .fz 1 (ints T)), (13, .iter 8), (18, .fz 1 (ints T)), (19, .int .i64 T.length), (20, .int .i64 (x.1 : Int))], []⟩, [.dead, .map (smP x.2), .rows 1 [[.map 1]], .rows 1 [[.sl 4 x.2.length 0 x.2.length none]], .rows 2 (prR x.2), Y, .dead, .dead, .iter (some 7) (enF M) (some (.int .i64 k, .fz 1 (ints T))) (enF K2)]))
      (fun x => x.1 ≤ T.length ∧ x.2.Nodup ∧ (∀ p ∈ x.2, p ∈ sharedL m r) ∧ (∀ p ∈ P, p ∈ x.2) ∧ ∀ a ∈ T.take x.1, ∀ b ∈ T, a < b → (a, b) ∈ x.2) (fun x => T.length - x.1) (0, P) ⟨by simp, hnd, hsh, fun _ h => h, by simp⟩ (by simp [go_sem, hY3]) ?_
    rintro ⟨i, P1⟩ ⟨hi, hnd1, hsh1, hsub1, hd1⟩
    simp only at hi hnd1 hsh1 hsub1 hd1
    refine IWp.seqI ?_
    simp [go_sem]
    refine IWp.seqI ?_
    by_cases h : i < T.length
    · have v1 : IntKind.i64.wrap ((i : Int) + 1) = ((i + 1 : Nat) : Int) := by rw [wrap64 (by omega) (by omega)]; omega
      obtain ⟨x, hx⟩ : ∃ x, T[i] = x := ⟨_, rfl⟩
      simp [go_sem, h]
      refine IWp.seq ?_
      refine IWp.block ?_
      refine IWp.seqI ?_
      simp [go_sem, h, hx]
      refine IWp.seqI ?_
      simp [go_sem, v1]
      refine ⟨by omega, ?_⟩
      obtain ⟨D, hD⟩ : ∃ D, T.drop (i + 1) = D := ⟨_, rfl⟩
      have hD1 : List.drop (i + 1) (List.take T.length (ints T)) = ints D := by
        rw [List.take_of_length_le (by simp [ints, mp]), ← hD]
        simp [ints, mp, List.map_drop]
      have hD2 : T.length - (i + 1) = D.length := by rw [← hD, List.length_drop]
      have hDb : ∀ b ∈ T, x < b → b ∈ D := fun b hb hlt => by
        rw [← List.take_append_drop (i + 1) T, hD] at hb
        rcases List.mem_append.1 hb with hb | hb
        · exfalso
          obtain ⟨q, hq, rfl⟩ := List.mem_iff_getElem.1 hb
          rw [List.length_take] at hq
          rw [List.getElem_take] at hlt
          have hp := List.pairwise_iff_getElem.1 hTi
          rcases Nat.lt_or_ge q i with h2 | h2
          · have := hp q i (by omega) h h2; omega
          · have : q = i := by omega
            subst this; omega
        · exact hb
      have hDs : ∀ b ∈ D, (x, b) ∈ sharedL m r := fun b hb => by
        refine hTs x (hx ▸ List.getElem_mem h) b ?_ ?_
        · rw [← hD] at hb; exact List.mem_of_mem_drop hb
        · rw [← hD] at hb
          obtain ⟨q, hq, rfl⟩ := List.mem_iff_getElem.1 hb
          rw [List.length_drop] at hq
          rw [List.getElem_drop, ← hx]
          exact List.pairwise_iff_getElem.1 hTi i (i + 1 + q) h (by omega) (by omega)
      have htk : T.take (i + 1) = T.take i ++ [x] := by rw [List.take_succ_eq_append_getElem h, hx]
      rw [hD1, hD2]
      refine IWp.block ?_
      refine IWp.loopI (α := Nat × List (Int × Int)) (fun z => (⟨false, 42, 10, [13, 15, 18, 19, 20, 21, 28, 29, 30, 31, 39], [], [(0, .func (.yield l) [] []), (5, .fz 1 (ints T)), (7, .int .i64 x), (13, .iter 8), (18, .fz 1 (ints T)), (19, .int .i64 T.length), (20, .int .i64 (i : Int)), (28, .fz 1 (ints D)), (29, .int .i64 D.length), (30, .int .i64 (z.1 : Int))], []⟩, [.dead, .map (smP z.2), .rows 1 [[.map 1]], .rows 1 [[.sl 4 z.2.length 0 z.2.length none]], .rows 2 (prR z.2), Y, .dead, .dead, .iter (some 7) (enF M) (some (.int .i64 k, .fz 1 (ints T))) (enF K2)]))
        (fun z => z.1 ≤ D.length ∧ z.2.Nodup ∧ (∀ p ∈ z.2, p ∈ sharedL m r) ∧ (∀ p ∈ P1, p ∈ z.2) ∧ ∀ b ∈ D.take z.1, (x, b) ∈ z.2) (fun z => D.length - z.1) (0, P1) ⟨by simp, hnd1, hsh1, fun _ h => h, by simp⟩ (by simp [go_sem, hY3]) ?_
      rintro ⟨j, P2⟩ ⟨hj, hnd2, hsh2, hsub2, hd2⟩
      simp only at hj hnd2 hsh2 hsub2 hd2
      refine IWp.seqI ?_
      simp [go_sem]
      refine IWp.seqI ?_
      by_cases h3 : j < D.length
      · have v2 : IntKind.i64.wrap ((j : Int) + 1) = ((j + 1 : Nat) : Int) := by rw [wrap64 (by omega) (by omega)]; omega
        obtain ⟨y, hy⟩ : ∃ y, D[j] = y := ⟨_, rfl⟩
        have hyk := hY P2 M k T K2 x y hnd2 hsh2
        simp [go_sem, h3]
        refine IWp.seq ?_
        refine IWp.block ?_
        refine IWp.seqI ?_
        simp [go_sem, h3, hy]
        refine IWp.seqI ?_
        simp [go_sem]
        refine hyk.mono ?_
        rintro _ σ' ⟨rfl, hf⟩
        simp [go_sem]
        refine IWp.now ?_
        simp [go_sem]
        refine IWp.now ?_
        simp [go_sem, v2]
        refine ⟨j + 1, addP P2 (x, y), ⟨rfl, hf, hY3 _ (by omega)⟩, ⟨by omega, addP_nodup hnd2, fun a b hab => ?_, fun a b hab => addP_mem.2 (.inl (hsub2 _ hab)), fun b hb => ?_⟩, by omega⟩
        · rcases addP_mem.1 hab with h4 | h4
          · exact hsh2 _ h4
          · rw [h4]; exact hDs y (hy ▸ List.getElem_mem h3)
        · rw [List.take_succ_eq_append_getElem h3, hy] at hb
          rcases List.mem_append.1 hb with h4 | h4
          · exact addP_mem.2 (.inl (hd2 b h4))
          · rw [List.mem_singleton] at h4; subst h4
            exact addP_mem.2 (.inr rfl)
      · obtain rfl : j = D.length := by omega
        simp [go_sem]
        refine IWp.now ?_
        simp [go_sem, v1]
        refine ⟨i + 1, P2, ⟨rfl, ⟨rfl, rfl, rfl⟩, hY3 _ (by omega)⟩, ⟨by omega, hnd2, fun a b h => hsh2 _ h, fun a b h => hsub2 _ (hsub1 _ h), fun a ha b hb hlt => ?_⟩, by omega⟩
        rw [List.take_length] at hd2
        rw [htk] at ha
        rcases List.mem_append.1 ha with h4 | h4
        · exact hsub2 _ (hd1 a h4 b hb hlt)
        · rw [List.mem_singleton] at h4; subst h4
          exact hd2 b (hDb b hb hlt)
    · obtain rfl : i = T.length := by omega
      simp [go_sem]
      refine ⟨some (.int .i64 k, .fz 1 (ints T)), K2, P1, ⟨⟨rfl, rfl, rfl, rfl, rfl⟩, hY3 _ (by omega), by simp [go_sem]⟩, ⟨fun a b h => hK2 _ h, hnd1, fun a b h => hsh1 _ h, fun a b h => ?_⟩, hlen⟩
      rw [List.take_length] at hd1
      rcases hdn2 _ h with h4 | h4 | h4
      · exact .inl h4
      · rw [Prod.mk.injEq] at h4
        obtain ⟨rfl, rfl⟩ := h4
        exact .inr hd1
      · exact .inr fun x hx y hy hlt => hsub1 _ (h4 x hx y hy hlt)
end Go.Idl
namespace Go.Idl
set_option linter.all false
open Go.Proofs
set_option maxHeartbeats 16000000
set_option maxRecDepth 40000

theorem prsL_len (B : Int → Int → Bool) : ∀ L : List Int, (prsL B L).length ≤ L.length * L.length
  | [] => by simp [prsL]
  | a :: L => by
    have ih := prsL_len B L
    have h := List.length_filter_le (B a) L
    simp only [prsL, List.length_append, List.length_map, List.length_cons]
    rw [Nat.add_mul, Nat.mul_add]
    omega
theorem sharedL_len (m : Mv) (r : Int) (hl : m.rows.length ≤ 2 ^ 15) : (sharedL m r).length ≤ 2 ^ 30 := by
  have h1 := prsL_len (bothB m.rows r) (tabsL m.rows)
  have h2 : (tabsL m.rows).length ≤ 2 ^ 15 := Nat.le_trans (srt_len _) (by rw [List.length_map]; exact hl)
  have h3 := Nat.mul_le_mul h2 h2
  unfold sharedL
  omega
theorem smP_get {a b : Int} : ∀ {P : List (Int × Int)}, mget (.agg [.int .i64 a, .int .i64 b]) (smP P) = if (a, b) ∈ P then some (.bool true) else none
  | [] => rfl
  | p :: P => by
    have ih := smP_get (a := a) (b := b) (P := P)
    have hk := keP (a, b) p
    show (if keq (k2 (a, b)) (k2 p) = true then _ else mget _ (smP P)) = _
    rw [hk, ih]
    by_cases h : (a, b) = p <;> simp [h]
theorem smP_set {a b : Int} : ∀ {P : List (Int × Int)}, (a, b) ∉ P → mset (.agg [.int .i64 a, .int .i64 b]) (.bool true) (smP P) = smP (P ++ [(a, b)])
  | [], _ => rfl
  | p :: P, h => by
    simp only [List.mem_cons, not_or] at h
    have ih := smP_set (a := a) (b := b) h.2
    have hk := keP (a, b) p
    show (if keq (k2 (a, b)) (k2 p) = true then _ else _ :: mset _ _ (smP P)) = _
    rw [hk, if_neg (by simpa using h.1), ih]
    rfl
@[go_sem] theorem all_smP {P : List (Int × Int)} {X : IV → Prop} : (∀ (a b : IV), (a, b) ∈ smP P → X a) ↔ ∀ p ∈ P, X (.agg [.int .i64 p.1, .int .i64 p.2]) := by
  simp only [smP, List.mem_map, Prod.mk.injEq]
  constructor
  · intro h e he; exact h _ _ ⟨e, he, rfl, rfl⟩
  · rintro h a b ⟨e, he, rfl, rfl⟩; exact h e he
theorem prR_snoc (P : List (Int × Int)) (a b : Int) : prR (P ++ [(a, b)]) = prR P ++ [[.int .i64 a, .int .i64 b]] := by simp [prR, mp, rowI, ecP]
@[simp] theorem prR_length {P : List (Int × Int)} : (prR P).length = P.length := by simp [prR, mp]
@[go_sem] theorem prR_sc {P : List (Int × Int)} : ScR (prR P) = True := eq_true (mp_sc (by simp [scal, rowI, ecP]))
@[go_sem] theorem prR_cl {P : List (Int × Int)} : ClR (prR P) = True := eq_true (ScR.cl (mp_sc (by simp [scal, rowI, ecP])))
theorem shared_fun (m : Mv) (r : Int) (hl : m.rows.length ≤ 2 ^ 15) : FN 23 [m.v, .int .i64 r] (fun v => v = .fz 2 (prR (sharedL m r))) := by
  refine IFun.of_bodyZ false 8 [11, 12, 16] Try.func23 rfl Try.call23 rfl fun R hR => ?_
  have ct := together_fun m r
  have h3 := together1_calls m r (by omega)
  obtain ⟨tb, ro, se, co, wi, L⟩ := m
  simp only [Mv.v] at *
  simp [go_sem]
  refine ct.callM (by simp [go_sem]) ?_
  rintro _ rfl
  simp [go_sem, togV]
  refine IWp.forget (e0 := ⟨false, 26, 8, [11, 12, 16], [], [(4, .nils), (5, .ptr 2 1 0 0), (6, .ptr 3 1 0 0), (11, togV ⟨tb, ro, se, co, wi, L⟩ r)], []⟩) (σ0 := [.dead, .map [], .rows 1 [[.map 1]], .rows 1 [[.nils]]]) (by simp [go_sem, togV]) (by simp [go_sem]) (by simp) (by simp [go_sem, togV]) ?_
  refine IWp.ownNil 2 [(4, .nils), (5, .ptr 2 1 0 0), (6, .ptr 3 1 0 0), (11, togV ⟨tb, ro, se, co, wi, L⟩ r)] [.dead, .map [], .rows 1 [[.map 1]], .rows 1 [[.sl 4 0 0 0 none]]] (by decide) (by simp [go_sem, togV]) (by simp [go_sem]) ?_
  refine IWp.rangeFunc (g := 58) (cap := [.fptr 6 [[.int .i64 tb, .int .i64 ro, .int .i64 se, .int .i64 co, .int .i64 wi, .fz 5 (rws L)]] 0 0, .fptr 1 [[.int .i64 r]] 0 0]) (by simp [go_sem, togV]) (by simp [go_sem, togV]) fun l rc h1 h2 h3' h4 h5 => ?_
  obtain ⟨e, he⟩ : ∃ e : Env, e = ⟨false, 26, 8, [11, 12, 16], [], [(4, .nils), (5, .ptr 2 1 0 0), (6, .ptr 3 1 0 0), (11, togV ⟨tb, ro, se, co, wi, L⟩ r)], []⟩ := ⟨_, rfl⟩
  rw [← he, show e.gl = [] by rw [he]]
  have hbe : ∀ n, 6 ≤ n → ObBl n (.yrec l rc e) := by
    intro n hn
    subst he
    simp [ObBl, go_sem, togV]
    omega
  have key := h3 l (.yrec l rc e) hbe rfl fun P M k T K a b hnd hsub => ?_
  · refine key.mono ?_
    rintro _ _ ⟨P, rfl, hnd, hP⟩
    obtain ⟨hs1, hs2⟩ := sortP_lex hnd
    have hfin : P.mergeSort leP = sharedL ⟨tb, ro, se, co, wi, L⟩ r := lex_ext hs1 (sharedL_lex _ _) fun a b => by rw [hs2, hP]
    have hlen : P.length ≤ 2 ^ 30 := Nat.le_trans (hnd.length_le_of_subset fun p hp => (hP p).1 hp) (sharedL_len _ r hl)
    have hms : (P.mergeSort leP).length = P.length := List.length_mergeSort _
    unfold togH
    simp [go_sem, he, h2, h1]
    refine ICalls.sortK (zs := P) (b := 4) sortPairsFn sortPairs0 (fun _ => rfl) Try.call45 (by simp [prR]) rfl (by omega) ?_
    rw [hfin] at *
    show _
    rw [show mp (rowI ecP) (sharedL ⟨tb, ro, se, co, wi, L⟩ r) = prR (sharedL ⟨tb, ro, se, co, wi, L⟩ r) from rfl, ← hms]
    simp [go_sem]
    exact hR _ _ _ rfl (by simp [go_sem])
  · have hlen : P.length ≤ 2 ^ 30 := Nat.le_trans (hnd.length_le_of_subset fun p hp => hsub p hp) (sharedL_len _ r hl)
    refine YCalls.roundE 5 h1 h2 h3' h4 h5 rfl rfl ?_
    rw [he]
    have g1 := smP_get (a := a) (b := b) (P := P)
    by_cases h : (a, b) ∈ P
    · rw [if_pos h] at g1
      unfold togI addP
      rw [if_pos h]
      simp [go_sem, g1]
    · rw [if_neg h] at g1
      have g2 := smP_set h
      have g3 := prR_snoc P a b
      unfold togI addP
      rw [if_neg h, g3]
      simp [go_sem, g1, g2]
      omega
end Go.Idl
