/-
  Chapter 27: tablesBySet.
-/
import Derived.Test.YtjmjdjdabmlgeaaC27PartG
import Derived.Test.YtjmjdjdabmlgeaaIdlPartP
import Derived.Test.YtjmjdjdabmlgeaaIdlPartL
namespace Go.Idl
set_option linter.all false
open Go.Proofs
set_option maxHeartbeats 16000000
set_option maxRecDepth 40000

@[go_sem] theorem all_enT {M : List Te} {X : IV → Prop} : (∀ (a b : IV), (a, b) ∈ enT M → X a) ↔ ∀ e ∈ M, X (.int .i64 e.k) := by
  simp only [enT, List.mem_map, Prod.mk.injEq]
  constructor
  · intro h e he; exact h _ _ ⟨e, he, rfl, rfl⟩
  · rintro h a b ⟨e, he, rfl, rfl⟩; exact h e he
theorem enT_bl {n : Nat} {M : List Te} (h : ∀ e ∈ M, e.p < n) : BlM n (enT M) := fun e he => by
  obtain ⟨x, hx, rfl⟩ := List.mem_map.1 he
  have := h x hx
  simp [go_sem, Te.v]; omega
theorem PosT.lt {M : List Te} (h : PosT M) : ∀ e ∈ M, e.p < 12 * M.length + 2 := fun e he => by
  obtain ⟨j, hj, rfl⟩ := List.mem_iff_getElem.1 he
  rw [h j hj]; omega
theorem HeBl_blT {n : Nat} : ∀ M : List Te, HeBl n (blT M)
  | [] => by simp [blT, go_sem]
  | e :: M => by
    have := HeBl_blT (n := n) M
    show HeBl n (blE e ++ blT M)
    simp [blE, go_sem, this]
@[go_sem] theorem enF_bl {n : Nat} {M : List (Int × List Int)} : BlM n (enF M) = True := eq_true fun e he => by
  obtain ⟨x, _, rfl⟩ := List.mem_map.1 he
  simp [go_sem]
theorem map_eraseIdxW {α β : Type} (f : α → β) : ∀ (l : List α) (i : Nat), (l.map f).eraseIdx i = (l.eraseIdx i).map f
  | [], _ => rfl
  | _ :: _, 0 => rfl
  | _ :: l, i + 1 => by simp [map_eraseIdxW f l i]
theorem noIt_app {b : Nat} : ∀ A B : Heap, noIt b (A ++ B) = (noIt b A && noIt b B)
  | [], B => by simp [noIt]
  | o :: A, B => by
    have ih := noIt_app (b := b) A B
    show noIt b (o :: (A ++ B)) = _
    cases o with
    | iter b' _ _ _ =>
      cases b' with
      | none => simpa [noIt] using ih
      | some b' => simp [noIt, ih, Bool.and_assoc]
    | _ => simpa [noIt] using ih
theorem noIt_blT {b : Nat} : ∀ M : List Te, noIt b (blT M) = true
  | [] => rfl
  | e :: M => by
    show noIt b (blE e ++ blT M) = true
    rw [noIt_app, noIt_blT M]; rfl
def Te.out (e : Te) : Int × List Int := (e.k, e.T.take e.c)
theorem kill_blE (A X : Heap) (e : Te) (n : Nat) (hn : A.length = n) : (A ++ (blE e ++ X)).set (n + 11) .dead = (A ++ List.replicate 12 .dead) ++ X := by
  subst hn
  rw [List.set_append_right _ _ (by omega), show A.length + 11 - A.length = 11 by omega]
  simp [blE]
theorem freezeAll {P : Program} {c : Code} {Q : XPost} {x : Bool} {n m' : Nat} {ex : List Nat} {gl nm : List (Nat × IV)} (τ : Heap) : ∀ (M2 : List Te) (k : Nat) (E : List (IV × IV)), (∀ j (h : j < M2.length), M2[j].p = 12 * (k + j) + 13) → (∀ e ∈ M2, e.c ≤ e.T.length) →
    IWp P c Q ⟨x, n, m', ex, gl, nm, []⟩ (.dead :: .map (E ++ enF (M2.map Te.out)) :: (List.replicate (12 * (k + M2.length)) .dead ++ τ)) → IWp P c Q ⟨x, n, m', ex, gl, nm, []⟩ (.dead :: .map (E ++ enT M2) :: (List.replicate (12 * k) .dead ++ (blT M2 ++ τ)))
  | [], k, E, _, _, h => by simpa [enF, enT, blT] using h
  | e :: M2, k, E, hp, hc, h => by
    have hp0 : e.p = 12 * k + 13 := hp 0 (by simp)
    have hc0 := hc e (by simp)
    refine IWp.freezeM (12 * k + 13) 1 1 (ints e.T) (E ++ enT (e :: M2)) (E ++ ([(.int .i64 e.k, .fz 1 (ints (e.T.take e.c)))] ++ enT M2)) ?_ rfl ⟨by simp [enT], fun j p p' h1 h2 => ?_⟩ ?_
    · show (List.replicate (12 * k) IObj.dead ++ ((blE e ++ blT M2) ++ τ))[12 * k + 11]? = _
      rw [List.getElem?_append_right (by simp)]
      simp [blE]
    · by_cases hj : j < E.length
      · rw [List.getElem?_append_left hj] at h1 h2
        rw [h1] at h2; cases h2
        exact ⟨rfl, .inl rfl⟩
      · rw [List.getElem?_append_right (by omega)] at h1 h2
        rcases hq : j - E.length with _ | q
        · rw [hq] at h1 h2
          simp [enT] at h1 h2
          subst h1; subst h2
          refine ⟨rfl, .inr ?_⟩
          show e.p = _ ∧ _
          refine ⟨hp0, by simp [ints, mp], by simpa [ints, mp] using hc0, ?_⟩
          simp [ints_take]
        · rw [hq] at h1 h2
          simp [enT] at h1 h2
          obtain ⟨a, ha, rfl⟩ := h1
          obtain ⟨a', ha', rfl⟩ := h2
          rw [ha] at ha'; cases ha'
          exact ⟨rfl, .inl rfl⟩
    · have ih := freezeAll (P := P) (c := c) (Q := Q) (x := x) (n := n) (m' := m') (ex := ex) (gl := gl) (nm := nm) τ M2 (k + 1) (E ++ [(.int .i64 e.k, .fz 1 (ints (e.T.take e.c)))]) (fun j hj => by
        have := hp (j + 1) (by simpa using hj)
        simp only [List.getElem_cons_succ] at this
        rw [this]; omega) (fun x hx => hc x (by simp [hx])) (by
          have e1 : E ++ [(IV.int .i64 e.k, IV.fz 1 (ints (e.T.take e.c)))] ++ enF (M2.map Te.out) = E ++ enF ((e :: M2).map Te.out) := by simp [enF, Te.out]
          rw [e1, show k + 1 + M2.length = k + (e :: M2).length by simp; omega]
          exact h)
      have e2 : (List.replicate (12 * k) IObj.dead ++ ((blE e ++ blT M2) ++ τ)).set (12 * k + 11) .dead = List.replicate (12 * (k + 1)) .dead ++ (blT M2 ++ τ) := by
        rw [List.append_assoc, kill_blE _ _ _ _ (by simp), show 12 * (k + 1) = 12 * k + 12 by omega, ← List.replicate_append_replicate]
      show IWp P c Q ⟨x, n, m', ex, gl, nm, []⟩ (.dead :: .map (E ++ ([(.int .i64 e.k, .fz 1 (ints (e.T.take e.c)))] ++ enT M2)) :: (List.replicate (12 * k) IObj.dead ++ ((blE e ++ blT M2) ++ τ)).set (12 * k + 11) .dead)
      rw [e2, ← List.append_assoc E]
      exact ih
theorem tables_calls (m : Mv) (r : Int) (hl : m.rows.length ≤ 2 ^ 30) : ICalls Try.prog [] 59 [m.v, .int .i64 r] [] (fun v σ => ∃ M, v = .map 1 ∧ σ = [.dead, .map (enF M)] ∧ TabS m.rows r M) := by
  refine ICalls.forget (ICalls.of_bodyU false 10 [12, 13, 14, 15, 21, 35, 37, 43, 44, 46] Try.func59 rfl Try.call59 rfl fun R hR => ?_)
  obtain ⟨tb, ro, se, co, wi, L⟩ := m
  simp only [Mv.v] at *
  refine IWp.seqI ?_
  simp [go_sem]
  refine IWp.seqI ?_
  simp [go_sem]
  refine IWp.seqT (α := List Te) (fun M => (⟨false, 48, 10, [12, 13, 14, 15, 21, 35, 37, 43, 44, 46], [], [(5, .map 1)], []⟩, .dead :: .map (enT M) :: blT M)) (fun M => TabI L r M) ?_ ?_
  · simp [go_sem]
    refine IWp.loopT (α := Nat × List Te) (fun p => (⟨false, 48, 10, [12, 13, 14, 15, 21, 35, 37, 43, 44, 46], [], [(1, .int .i64 r), (5, .map 1), (12, .fz 5 (rws L)), (13, .int .i64 L.length), (14, .int .i64 (p.1 : Int))], []⟩, .dead :: .map (enT p.2) :: blT p.2))
      (fun p => p.1 ≤ L.length ∧ TabI (L.take p.1) r p.2) (fun p => L.length - p.1) (0, []) ⟨by simp, by simpa using TabI.nil r⟩ (by simp [go_sem, enT, blT]) ?_
    rintro ⟨i, M⟩ ⟨hi, hM⟩
    simp only at hi hM
    have hbl : ∀ n, 12 * M.length + 2 ≤ n → BlM n (enT M) := fun n hn => enT_bl fun e he => Nat.lt_of_lt_of_le (hM.pos.lt e he) hn
    have hhb := fun n => HeBl_blT (n := n) M
    have hBl := blT_len M
    by_cases h : i < L.length
    · have v1 : IntKind.i64.wrap ((i : Int) + 1) = ((i + 1 : Nat) : Int) := by rw [wrap64 (by omega) (by omega)]; omega
      have hsu := tbs_succ h r
      obtain ⟨x, hx⟩ : ∃ x, L[i] = x := ⟨_, rfl⟩
      simp only [hx] at hsu
      obtain ⟨B, hB⟩ : ∃ B, blT M = B := ⟨_, rfl⟩
      have n1 : ¬ (List.length B + 1 + 1 + 1 = List.length B) := by omega
      have n2 : ¬ (List.length B + 1 + 1 = List.length B) := by omega
      by_cases h1 : x.r = r
      · by_cases hk : ∃ j, ∃ hj : j < M.length, M[j].k = x.s
        · obtain ⟨j, hj, hjk⟩ := hk
          have g1 := mget_tat hM.key hj
          have g2 := mset_tat hM.key hj ⟨x.s, M[j].p, M[j].T ++ [x.t], M[j].T.length + 1⟩ hjk.symm
          have g3 := blT_get hj
          have g4 := blT_set hj ⟨x.s, M[j].p, M[j].T ++ [x.t], M[j].T.length + 1⟩
          obtain ⟨k1, k2, k3⟩ := hM.ent _ (List.getElem_mem hj)
          have hp := hM.pos j hj
          have htl := tbs_len (L.take i) r M[j].k
          rw [← k1, List.length_take] at htl
          have hTN : TabI (L.take (i + 1)) r (M.set j ⟨x.s, M[j].p, M[j].T ++ [x.t], M[j].T.length + 1⟩) := by
            refine ⟨hM.pos.set hj rfl, hM.key.set hj hjk.symm, fun s => ?_, fun e he => ?_⟩
            · by_cases hs : s = x.s
              · right
                subst hs
                exact ⟨⟨x.s, M[j].p, M[j].T ++ [x.t], M[j].T.length + 1⟩, List.mem_iff_getElem.2 ⟨j, by simpa using hj, by simp⟩, rfl⟩
              · rw [hsu s, if_neg (fun hh => hs hh.2.symm), List.append_nil]
                refine (hM.all s).imp _root_.id ?_
                rintro ⟨e, he, rfl⟩
                obtain ⟨q, hq, rfl⟩ := List.mem_iff_getElem.1 he
                have hne : j ≠ q := fun e => by subst e; exact hs hjk
                exact ⟨M[q], List.mem_iff_getElem.2 ⟨q, by rw [List.length_set]; exact hq, by rw [List.getElem_set_ne hne]⟩, rfl⟩
            · obtain ⟨q, hq, rfl⟩ := List.mem_iff_getElem.1 he
              rw [List.length_set] at hq
              by_cases e : j = q
              · subst e
                rw [List.getElem_set_self]
                refine ⟨?_, by simp, by simp⟩
                show M[j].T ++ [x.t] = tbs (L.take (i + 1)) r x.s
                rw [hsu, if_pos ⟨h1, rfl⟩, k1, hjk]
              · rw [List.getElem_set_ne e]
                have hne : M[q].k ≠ x.s := by rw [← hjk]; exact hM.key.ne hq hj (Ne.symm e)
                obtain ⟨q1, q2, q3⟩ := hM.ent _ (List.getElem_mem hq)
                exact ⟨by rw [hsu, if_neg (fun hh => hne hh.2.symm), List.append_nil]; exact q1, q2, q3⟩
          have hNl : (M.set j ⟨x.s, M[j].p, M[j].T ++ [x.t], M[j].T.length + 1⟩).length = M.length := List.length_set ..
          simp only [Te.v, List.length_append, List.length_singleton] at g1 g2
          generalize hN : M.set j ⟨x.s, M[j].p, M[j].T ++ [x.t], M[j].T.length + 1⟩ = N at *
          rw [hp, k3] at g1
          rw [hp] at g2
          rw [hjk] at g1 g2
          generalize M[j].T = T at *
          rw [hB] at g3 g4
          obtain ⟨q, hq⟩ : ∃ q, 12 * j + 11 = q := ⟨_, rfl⟩
          rw [hq] at g3 g4
          rw [show 12 * j + 13 = q + 1 + 1 by omega] at g1 g2
          rw [ints_snoc] at g4
          have hqB : q < B.length := by rw [← hB, hBl]; omega
          have m0 : ¬ (List.length B = q) := by omega
          have m7 : ¬ (List.length B + 7 = q) := by omega
          have m1 : ¬ (List.length B + 1 = q) := by omega
          have m2 : ¬ (List.length B + 1 + 1 = q) := by omega
          have m3 : ¬ (List.length B + 1 + 1 + 1 = q) := by omega
          have m4 : ¬ (List.length B + 4 = q) := by omega
          have m5 : ¬ (List.length B + 5 = q) := by omega
          have m6 : ¬ (List.length B + 6 = q) := by omega
          have m8 : ¬ (List.length B + 8 = q) := by omega
          have m9 : ¬ (List.length B + 9 = q) := by omega
          have m10 : ¬ (List.length B + 10 = q) := by omega
          have g6 : ∀ X : Heap, (B ++ X)[q]? = some (.rows 1 (ints T)) := fun X => by rw [List.getElem?_append_left hqB]; exact g3
          have g7 : ∀ (X : Heap) (o : IObj), hput (B ++ X) q o = B.set q o ++ X := fun X o => by
            rw [hput_set (by simp; omega), List.set_append_left _ _ hqB]
          simp [go_sem, h, hx, h1, g1, g2, hput_at0, hput_app0, hput_app, app_get0, app_get, hB, n1, n2, g3, g6, g7, m0, m1, m2, m3, m4, m5, m6, m7, m8, m9, m10]
          refine ⟨by omega, by decide +kernel, i + 1, N, ⟨v1, ⟨⟨?_, ?_⟩, ?_, ?_⟩⟩, ⟨by omega, hTN⟩, by omega⟩
          · rfl
          · rw [← g4]; exact fgt_append _ _
          · rw [blT_len, hNl]; exact enT_bl fun e he => Nat.lt_of_lt_of_le (hTN.pos.lt e he) (by omega)
          · exact HeBl_blT _
        · have hno : ∀ e ∈ M, e.k ≠ x.s := fun e he hh => by
            obtain ⟨j, hj, rfl⟩ := List.mem_iff_getElem.1 he
            exact hk ⟨j, hj, hh⟩
          have g1 := mget_tno hno
          have g2 := fun v => mset_tno (v := v) hno
          have hsn := blT_snoc M ⟨x.s, 12 * M.length + 13, [x.t], 1⟩
          have hTN : TabI (L.take (i + 1)) r (M ++ [⟨x.s, 12 * M.length + 13, [x.t], 1⟩]) := by
            refine ⟨hM.pos.snoc rfl, hM.key.snoc hno, fun s => ?_, fun e he => ?_⟩
            · by_cases hs : s = x.s
              · exact .inr ⟨_, List.mem_append_right _ (List.mem_singleton.2 rfl), hs.symm⟩
              · rw [hsu s, if_neg (fun hh => hs hh.2.symm), List.append_nil]
                exact (hM.all s).imp _root_.id fun ⟨e, he, hh⟩ => ⟨e, List.mem_append_left _ he, hh⟩
            · rcases List.mem_append.1 he with he | he
              · obtain ⟨q1, q2, q3⟩ := hM.ent e he
                exact ⟨by rw [hsu, if_neg (fun hh => hno e he hh.2.symm), List.append_nil]; exact q1, q2, q3⟩
              · rw [List.mem_singleton] at he
                subst he
                refine ⟨?_, by simp, rfl⟩
                rw [hsu, if_pos ⟨h1, rfl⟩]
                rcases hM.all x.s with h0 | ⟨e, he, hh⟩
                · rw [h0]; rfl
                · exact absurd hh (hno e he)
          have hbl2 := fun n (hn : 12 * M.length + 14 ≤ n) => enT_bl (n := n) fun e he => Nat.lt_of_lt_of_le (hTN.pos.lt e he) (by simp; omega)
          have hhb2 := fun n => HeBl_blT (n := n) (M ++ [⟨x.s, 12 * M.length + 13, [x.t], 1⟩])
          have hl2 := blT_len (M ++ [⟨x.s, 12 * M.length + 13, [x.t], 1⟩])
          rw [hB] at hsn hBl
          simp [go_sem, h, hx, h1, g1, g2, hput_at0, hput_app0, hput_app, app_get0, app_get, hB, n1, n2]
          refine ⟨by decide +kernel, i + 1, M ++ [⟨x.s, 12 * M.length + 13, [x.t], 1⟩], ⟨v1, ⟨⟨?_, ?_⟩, ?_, ?_⟩⟩, ⟨by omega, hTN⟩, by omega⟩
          · rw [hBl]; simp [enT, Te.v]
          · rw [hsn]; exact fgt_app B (by simp [blE, fgt, ints, mp])
          · rw [hl2]; exact hbl2 _ (by simp; omega)
          · exact hhb2 _
      · have hTN : TabI (L.take (i + 1)) r M := by
          have e : ∀ s, tbs (L.take (i + 1)) r s = tbs (L.take i) r s := fun s => by rw [hsu, if_neg (fun hh => h1 hh.1), List.append_nil]
          exact ⟨hM.pos, hM.key, fun s => by rw [e]; exact hM.all s, fun e' he => by rw [e]; exact hM.ent e' he⟩
        simp [go_sem, h, hx, h1, hput_at0, hput_app0, hput_app, app_get0, app_get, hB]
        refine ⟨i + 1, M, ⟨v1, ⟨⟨rfl, ?_⟩, ?_, ?_⟩⟩, ⟨by omega, hTN⟩, by omega⟩
        · rw [hB]; exact fgt_append _ _
        · rw [hBl]; exact hbl _ (by omega)
        · exact hhb _
    · obtain rfl : i = L.length := by omega
      rw [List.take_length] at hM
      simp [go_sem]
      exact ⟨M, ⟨⟨rfl, fgt_refl _⟩, hbl _ (by omega), hhb _⟩, hM⟩
  intro M hM
  refine IWp.seqI ?_
  obtain ⟨B, hB⟩ : ∃ B, blT M = B := ⟨_, rfl⟩
  simp [go_sem, hB, hput_at0, hput_app0, hput_app, app_get0, app_get]
  refine IWp.now ?_
  simp only [yC_loop]
  subst hB
  have hent : ∀ N : List Te, ∀ n, (∀ e ∈ N, e.p < n) → BlM n (enT N) := fun N n h => enT_bl h
  refine IWp.loopI (α := List Te × Option (IV × IV) × List Te) (fun x => (⟨false, 48, 10, [12, 13, 14, 15, 21, 35, 37, 43, 44, 46], [], [(5, .map 1), (35, .iter ((blT x.1).length + 1 + 1))], []⟩, .dead :: .dead :: (blT x.1 ++ [.iter (some 1) (enT x.1) x.2.1 (enT x.2.2)])))
    (fun x => x.1.length = M.length ∧ TabJ L r x.1 x.2.2) (fun x => x.2.2.length) (M, none, M) ⟨rfl, hM.start⟩ ?_ ?_
  · have h1 := HeBl_blT (n := 12 * M.length + 3) M
    have h2 := enT_bl (n := 12 * M.length + 3) (M := M) fun e he => Nat.lt_of_lt_of_le (hM.pos.lt e he) (by omega)
    have h3 := blT_len M
    simp [go_sem, h3, h2, h1]
  rintro ⟨N, cur, K⟩ ⟨hNl, hJ⟩
  simp only at hNl hJ
  have hBl := blT_len N
  obtain ⟨B, hB⟩ : ∃ B, blT N = B := ⟨_, rfl⟩
  rw [hB] at hBl
  simp only [hB]
  refine IWp.seqI ?_
  simp [go_sem, hput_at0, hput_app0, hput_app, app_get0, app_get]
  unfold nextQ
  refine ⟨fun h => ?_, fun i kv hkv => ?_⟩
  · have hK0 : K = [] := by simpa [enT] using h
    subst hK0
    simp [go_sem]
    refine IWp.now ?_
    simp [go_sem]
    refine IWp.revive (B.length + 1 + 1) 1 (enT N) (cur := cur) (todo := enT []) (by simp) (by
      subst hB
      simp [noIt, noIt_app, noIt_blT]) ?_
    simp
    subst hB
    have hfin := hJ.last
    have hfa := fun c Q => freezeAll (P := Try.prog) (c := c) (Q := Q) (x := false) (n := 48) (m' := 10) (ex := [12, 13, 14, 15, 21, 35, 37, 43, 44, 46]) (gl := []) (nm := [(5, .map 1), (35, .iter ((blT N).length + 1 + 1)), (37, .bool false)]) [.dead] N 0 [] (fun j h => by rw [hJ.pos j h]; omega) (fun e he => by
      rcases hJ.ent e he with ⟨h1, _⟩ | ⟨_, _, h2, _⟩
      · cases h1
      · exact h2)
    refine hfa _ _ ?_
    refine IWp.now ?_
    simp [go_sem]
    exact hR _ _ ⟨[.dead, .map (enF (N.map Te.out))], by simp [go_sem, fgt], _, rfl, rfl, hfin⟩
  · obtain ⟨e, he, rfl⟩ : ∃ e, K[i]? = some e ∧ (IV.int .i64 e.k, e.v) = kv := by simpa [enT, List.getElem?_map, Option.map_eq_some_iff] using hkv
    obtain ⟨hi, hki⟩ := List.getElem?_eq_some_iff.1 he
    obtain ⟨j, hj, hjk⟩ := List.mem_iff_getElem.1 (hJ.sub e (by rw [← hki]; exact List.getElem_mem hi))
    have hst := hJ.step hi hj (by rw [hjk, hki])
    rw [hki] at hst
    have hlen : (K.eraseIdx i).length < K.length := by rw [List.length_eraseIdx, if_pos hi]; omega
    have her : (enT K).eraseIdx i = enT (K.eraseIdx i) := map_eraseIdxW _ K i
    have hno : ∀ x ∈ K.eraseIdx i, x.k ≠ e.k := fun x hx => by rw [← hki]; exact erase_key hJ.kk hi hx
    rw [her]
    generalize K.eraseIdx i = K2 at *
    have g1 := mget_tat hJ.key hj
    have g2 := mset_tat hJ.key hj e.done (by rw [hjk]; rfl)
    have g3 := blT_get hj
    have g4 := blT_set hj e.done
    have g5 := mget_tno hno
    have hp := hJ.pos j hj
    have hT : e.T = tbs L r e.k ∧ e.c = e.T.length := by
      rcases hJ.ent e (by rw [← hjk]; exact List.getElem_mem hj) with ⟨_, h⟩ | ⟨h, _⟩
      · exact h
      · exact absurd rfl (h e (by rw [← hki]; exact List.getElem_mem hi))
    have hTl : e.T.length ≤ L.length := by rw [hT.1]; exact tbs_len L r e.k
    have hNl2 : (N.set j e.done).length = N.length := List.length_set ..
    rw [hjk] at g1 g2 g3 hp
    rw [hB] at g3 g4
    obtain ⟨q, hq⟩ : ∃ q, 12 * j + 11 = q := ⟨_, rfl⟩
    rw [hq] at g3 g4
    rw [show 12 * j + 13 = q + 1 + 1 by omega] at hp
    have hqB : q < B.length := by rw [hBl]; omega
    obtain ⟨k, p, T, c⟩ := e
    obtain ⟨rfl, rfl⟩ : p = q + 1 + 1 ∧ c = T.length := ⟨hp, hT.2⟩
    simp only [Te.v, Te.done] at *
    simp [go_sem]
    refine IWp.seqI ?_
    simp [go_sem]
    refine IWp.block ?_
    refine IWp.seqI ?_
    simp [go_sem]
    have g6 : ∀ X : Heap, (B ++ X)[q]? = some (.rows 1 (ints T)) := fun X => by rw [List.getElem?_append_left hqB]; exact g3
    have g7 : ∀ (A X : Heap) (o : IObj), q < A.length → hput (A ++ X) q o = A.set q o ++ X := fun A X o hA => by
      rw [hput_set (by simp; omega), List.set_append_left _ _ hA]
    have g8 : ∀ (o : IObj) (X : Heap), (B.set q o ++ X)[q]? = some o := fun o X => by rw [List.getElem?_append_left (by simpa using hqB)]; simp [hqB]
    refine IWp.seqI ?_
    simp [go_sem]
    refine ICalls.sortA (zs := T) (b := q + 1 + 1) sortInt sort0 Try.call48 (by simp [g6, ints]) rfl (by omega) ?_
    have hsl : (T.mergeSort fun x y => decide (x ≤ y)).length = T.length := List.length_mergeSort _
    have hsr : srt T = Lib.compact (T.mergeSort fun x y => decide (x ≤ y)) := rfl
    generalize (T.mergeSort fun x y => decide (x ≤ y)) = S at *
    simp [go_sem, g7, hqB]
    refine IWp.regionW 4 rfl rfl fun Q hQ => ?_
    simp [go_sem]
    rw [← hsl]
    refine ICalls.compactA (zs := S) (b := q + 1 + 1) compactInt compact0 Try.call49 (by simp [g8]) rfl (by omega) ?_
    rw [← hsr, hsl]
    simp [go_sem, g7, hqB]
    refine hQ _ _ ?_
    unfold putQ
    refine ⟨3, 28, [.int .i64], 1, .int .i64 k, .sl (q + 1 + 1) T.length 0 (srt T).length none, .sl (q + 1 + 1) T.length 0 T.length none, B.length + 1 + 1, enT N, some (.int .i64 k, .sl (q + 1 + 1) T.length 0 T.length none), enT K2, Try.underlying89, by simp [go_sem], rfl, rfl, rfl, by simp [go_sem], ?_, ?_, by simp [go_sem, keyOK], ?_, ?_, g1, g5, ?_⟩
    · simp
    · have hnB : noIt 1 (B.set q (.rows 1 (mp (fun z => [.int .i64 z]) (srt T ++ List.replicate (T.length - (srt T).length) 0)))) = true := by
        rw [show (mp (fun z => [IV.int .i64 z]) (srt T ++ List.replicate (T.length - (srt T).length) 0)) = ints (srt T ++ List.replicate (T.length - (srt T).length) 0) from rfl, g4]
        exact noIt_blT _
      have hsl2 : (B.set q (.rows 1 (mp (fun z => [.int .i64 z]) (srt T ++ List.replicate (T.length - (srt T).length) 0)))).length = B.length := List.length_set ..
      generalize (B.set q (.rows 1 (mp (fun z => [.int .i64 z]) (srt T ++ List.replicate (T.length - (srt T).length) 0)))) = B2 at *
      rw [← hsl2]
      simp [noIt, noIt_app, hnB]
    · intro x hx
      obtain ⟨y, _, rfl⟩ := List.mem_map.1 hx
      simp [go_sem, keyOK]
    · intro x hx
      obtain ⟨y, _, rfl⟩ := List.mem_map.1 hx
      simp [go_sem, keyOK]
    · have hdl := done_len ⟨k, q + 1 + 1, T, T.length⟩
      simp only [Te.done] at hdl
      simp only [hdl] at g2
      have hbN := blT_len (N.set j ⟨k, q + 1 + 1, srt T ++ List.replicate (T.length - (srt T).length) 0, (srt T).length⟩)
      have hbM := blT_len M
      have hhb := fun n => HeBl_blT (n := n) (N.set j ⟨k, q + 1 + 1, srt T ++ List.replicate (T.length - (srt T).length) 0, (srt T).length⟩)
      have hb1 := fun n (hn : 12 * M.length + 2 ≤ n) => enT_bl (n := n) fun e he => Nat.lt_of_lt_of_le (hst.pos.lt e he) (by omega)
      have hb2 := fun n (hn : 12 * M.length + 2 ≤ n) => enT_bl (n := n) (M := K2) fun e he => Nat.lt_of_lt_of_le (hst.pos.lt e (hst.sub e he)) (by omega)
      simp [go_sem]
      refine ⟨N.set j ⟨k, q + 1 + 1, srt T ++ List.replicate (T.length - (srt T).length) 0, (srt T).length⟩, none, K2, ⟨by omega, ?_, by omega, hhb _, hb1 _ (by omega), hb2 _ (by omega), by simp⟩, ⟨by rw [hNl2, hNl], hst⟩, hlen⟩
      rw [g2]
      show fgt _ (List.set B q (.rows 1 (ints _)) ++ _)
      rw [g4]
      exact fgt_refl _
end Go.Idl
