/-
  Chapter 38: Places.
-/
import Derived.Test.YtnnpdhccblelgaaDoorC38PartR
namespace Go.Idl
set_option linter.all false
open Go.Proofs
set_option maxHeartbeats 16000000
set_option maxRecDepth 40000

theorem enW_get {T : Won} {i : Nat} {kv : IV × IV} (h : (enW T)[i]? = some kv) : ∃ p, T[i]? = some p ∧ kv = (k2 p.1, mkP p.2) := by
  simp only [enW, enM, List.getElem?_map, Option.map_eq_some_iff] at h
  obtain ⟨p, h1, h2⟩ := h
  exact ⟨p, h1, h2.symm⟩
theorem map_eraseIdx38 {α β : Type} (f : α → β) : ∀ (l : List α) (i : Nat), (l.map f).eraseIdx i = (l.eraseIdx i).map f
  | [], _ => rfl
  | _ :: _, 0 => rfl
  | _ :: l, i + 1 => by simp [map_eraseIdx38 f l i]
theorem enW_erase {T : Won} {i : Nat} : (enW T).eraseIdx i = enW (T.eraseIdx i) := map_eraseIdx38 _ T i
theorem enW_nil' {T : Won} (h : enW T = []) : T = [] := by simpa [enW, enM] using h
theorem mem_erase38 {α : Type} : ∀ {l : List α} {i : Nat} {p q : α}, l[i]? = some p → q ∈ l → q = p ∨ q ∈ l.eraseIdx i
  | a :: l, 0, p, q, h, hq => by
    simp at h; subst h
    simpa using hq
  | a :: l, i + 1, p, q, h, hq => by
    simp at h
    rcases List.mem_cons.1 hq with rfl | hq
    · right; simp
    · rcases mem_erase38 h hq with rfl | h'
      · left; rfl
      · right; simp [h']
/-- Places as far as the entries that are left. -/
structure PlOK (r n : Nat) (W T : Won) (P : List Int) : Prop where
  len : P.length = n
  sub : ∀ e ∈ T, e ∈ W
  put : ∀ e ∈ W, e.2.2 ≠ 0 → e ∈ T ∨ P.getD (e.2.2 - 1).toNat 0 = matN r e.1.1 + 1
  out : ∀ t, P.getD t 0 ≠ 0 → ∃ e ∈ W, e.2.2 = (t : Int) + 1
/-- Who has lost has lost in one round alone. -/
structure LoseOK (n : Nat) (W : Won) : Prop where
  bd : ∀ e ∈ W, 0 ≤ e.2.2 ∧ e.2.2 ≤ n
  one : ∀ e ∈ W, ∀ e' ∈ W, e.2.2 ≠ 0 → e.2.2 = e'.2.2 → e.1.1 = e'.1.1
theorem PlOK.start {r n : Nat} {W : Won} : PlOK r n W W (List.replicate n 0) := ⟨by simp, fun _ h => h, fun _ h _ => .inl h, fun t h => by
  exfalso; apply h
  simp [List.getD_eq_getElem?_getD, List.getElem?_replicate]
  split <;> rfl⟩
theorem PlOK.skip {r n : Nat} {W T : Won} {P : List Int} {i : Nat} {e : (Int × Int) × (Int × Int)} (h : PlOK r n W T P) (he : T[i]? = some e) (h0 : e.2.2 = 0) : PlOK r n W (T.eraseIdx i) P :=
  ⟨h.len, fun e' h' => h.sub e' (List.mem_of_mem_eraseIdx h'), fun e' h1 h2 => by
    rcases h.put e' h1 h2 with h3 | h3
    · rcases mem_erase38 he h3 with rfl | h4
      · exact absurd h0 h2
      · exact .inl h4
    · exact .inr h3, h.out⟩
theorem PlOK.step {r n : Nat} {W T : Won} {P : List Int} {i : Nat} {e : (Int × Int) × (Int × Int)} (h : PlOK r n W T P) (hL : LoseOK n W) (he : T[i]? = some e) (h0 : e.2.2 ≠ 0) : PlOK r n W (T.eraseIdx i) (P.set (e.2.2 - 1).toNat (matN r e.1.1 + 1)) := by
  have heW := h.sub e (List.mem_of_getElem? he)
  have hb := hL.bd e heW
  have hl := h.len
  have key : ∀ t, (P.set (e.2.2 - 1).toNat ((matN r e.1.1 : Int) + 1)).getD t 0 = if (e.2.2 - 1).toNat = t then (matN r e.1.1 : Int) + 1 else P.getD t 0 := fun t => by
    simp only [List.getD_eq_getElem?_getD, List.getElem?_set]
    split
    · rw [if_pos (by omega)]; rfl
    · rfl
  refine ⟨by simp [hl], fun e' h' => h.sub e' (List.mem_of_mem_eraseIdx h'), fun e' h1 h2 => ?_, fun t ht => ?_⟩
  · rw [key]
    have hb' := hL.bd e' h1
    split
    · rename_i hh
      right
      rw [hL.one e heW e' h1 h0 (by omega)]
    · rename_i hh
      rcases h.put e' h1 h2 with h3 | h3
      · rcases mem_erase38 he h3 with rfl | h4
        · exact absurd rfl hh
        · exact .inl h4
      · exact .inr h3
  · rw [key] at ht
    split at ht
    · rename_i hh
      exact ⟨e, heW, by omega⟩
    · exact h.out t ht
/-- The place of a team that has lost. -/
def plT (r : Nat) (W : Won) (t : Nat) : Int := match W.find? (fun e => decide (e.2.2 = (t : Int) + 1)) with | none => 0 | some e => matN r e.1.1 + 1
theorem PlOK.last {r n : Nat} {W : Won} {P : List Int} (h : PlOK r n W [] P) : P = (List.range n).map (plT r W) := by
  refine List.ext_getElem (by simp [h.len]) fun t h1 h2 => ?_
  rw [List.getElem_map, List.getElem_range]
  have e1 : P[t] = P.getD t 0 := by simp [h1]
  unfold plT
  split
  · rename_i hf
    rw [List.find?_eq_none] at hf
    rw [e1]
    refine Classical.byContradiction fun hc => ?_
    obtain ⟨e, he1, he2⟩ := h.out t hc
    exact hf e he1 (by simpa using he2)
  · rename_i e hf
    have hm := List.mem_of_find?_eq_some hf
    have hp := List.find?_some hf
    simp only [decide_eq_true_eq] at hp
    rcases h.put e hm (by omega) with h3 | h3
    · simp at h3
    · rw [hp] at h3
      rw [e1, ← h3]
      congr 1
      omega
def placesL (r n : Nat) (W : Won) : List Int := match aget ((r : Int) - 1, 0) W with
  | none => (List.range n).map (plT r W)
  | some v => ((List.range n).map (plT r W)).set (v.1 - 1).toNat 1
theorem places_none (n : Int) (h : ¬ (2 ≤ n ∧ n ≤ 64)) (l : List Rs) : FN 28 [.int .i64 n, .fz 6 (rss l)] (fun v => v = .tup [.fz 1 [], .int .i64 380]) := by
  refine IFun.of_bodyZ false 13 [20, 28, 30, 36, 61] Tryd.func28 rfl Tryd.call28 rfl fun R hR => ?_
  have ct := state_none n h l
  simp [go_sem]
  refine ct.at [] (by simp [go_sem]) ?_
  rintro _ _ ⟨rfl, rfl⟩
  simp [go_sem]
  exact hR _ _ _ rfl (by simp [go_sem])
theorem places_fun (n : Nat) (h1 : 2 ≤ n) (h2 : n ≤ 64) (l : List Rs) (hl : l.length ≤ 1000) (hf : ∀ x ∈ l, FitR x) (A : List Nat) (hA : OrdOf l A)
    (hL : (plR (rnd n) (seedsL n) l A (beg n)).2.1 = 0 → LoseOK n (plR (rnd n) (seedsL n) l A (beg n)).2.2 ∧ ∀ v, aget ((rnd n : Int) - 1, 0) (plR (rnd n) (seedsL n) l A (beg n)).2.2 = some v → 1 ≤ v.1 ∧ v.1 ≤ n) :
    FN 28 [.int .i64 (n : Int), .fz 6 (rss l)] (fun v => v = if (plR (rnd n) (seedsL n) l A (beg n)).2.1 = 0 then .tup [.fz 1 (ints (placesL (rnd n) n (plR (rnd n) (seedsL n) l A (beg n)).2.2)), .int .i64 0] else .tup [.fz 1 [], .int .i64 2]) := by
  refine IFun.of_bodyZ false 13 [20, 28, 30, 36, 61] Tryd.func28 rfl Tryd.call28 rfl fun R hR => ?_
  have ct := state_calls n h1 h2 l hl hf A hA
  obtain ⟨r1, r2⟩ := rnd_bd h1
  generalize plR (rnd n) (seedsL n) l A (beg n) = Z at *
  obtain ⟨zi, ze, W⟩ := Z
  generalize seedsL n = S at *
  generalize rnd n = r at *
  simp only at *
  unfold evP evRow at ct
  simp [go_sem]
  refine ct.at [] (by simp [go_sem]) ?_
  rintro _ _ (⟨he, rfl, rfl⟩ | ⟨he, rfl, rfl⟩)
  · rw [if_pos he] at hR
    obtain ⟨hL1, hL2⟩ := hL he
    have hok : ∀ (a b : IV), (a, b) ∈ enW W → keyOK Tryd.prog 91 [.int .i64, .int .i64] a = true := fun a b h => ok_w W (a, b) h
    have g1 : (n : Int) ≤ 1099511627776 := by omega
    simp [go_sem, g1]
    rw [show List.replicate n [IV.int .i64 0] = ints (List.replicate n 0) by simp [ints, mp]]
    refine IWp.loopI (α := Option ((Int × Int) × (Int × Int)) × Won × List Int) (fun x => (⟨false, 68, 13, [20, 28, 30, 36, 61], glT, [(6, .ptr 4 1 0 0), (8, .sl 5 n 0 n none), (28, .iter 6)], []⟩, [.dead, .dead, .dead, .dead, .rows 3 [[.int .i64 r, .fz 1 (ints S), .map 3]], .rows 1 (ints x.2.2), .iter (some 3) (enW W) (x.1.map fun p => (k2 p.1, mkP p.2)) (enW x.2.1)]))
      (fun x => PlOK r n W x.2.1 x.2.2) (fun x => x.2.1.length) (none, W, List.replicate n 0) .start (by simp [go_sem]) ?_
    rintro ⟨cur, T, P⟩ hP
    simp only at hP
    refine IWp.seqI ?_
    simp [go_sem]
    refine ⟨fun h => ?_, fun i kv hkv => ?_⟩
    · obtain rfl := enW_nil' h
      have hl := hP.last
      have hmg := mget_w ((r : Int) - 1) 0 W
      have v1 : IntKind.i64.wrap ((r : Int) - 1) = r - 1 := wrap64 (by omega) (by omega)
      have hPl := hP.len
      unfold placesL at hR
      rw [← hl] at hR
      clear hl
      simp [go_sem]
      refine IWp.revive 6 3 (enW W) rfl rfl ?_
      obtain ⟨A, hA⟩ : ∃ A, aget ((r : Int) - 1, 0) W = A := ⟨_, rfl⟩
      rw [hA] at hmg hR hL2
      refine IWp.now ?_
      cases A with
      | none =>
        simp only at hR
        simp [go_sem, hmg, v1]
        refine ⟨fun a b h => by simpa [go_sem, keyOK] using hok a b h, by decide +kernel, ?_⟩
        exact hR _ _ _ rfl (by simp [go_sem, hPl])
      | some v =>
        obtain ⟨w1, w2⟩ := v
        have hb := hL2 _ rfl
        simp only at hR hb
        have v2 : IntKind.i64.wrap (w1 - 1) = (((w1 - 1).toNat : Nat) : Int) := by rw [wrap64 (by omega) (by omega)]; omega
        obtain ⟨k, hk⟩ : ∃ k, (w1 - 1).toNat = k := ⟨_, rfl⟩
        have hkn : k < n := by omega
        rw [hk] at v2 hR
        have e1 : (ints P)[k]?.getD [] = [.int .i64 (P.getD k 0)] := by
          rw [List.getElem?_eq_getElem (by simp; omega), Option.getD_some, ints_getElem]
          simp [show k < P.length by omega]
        simp [go_sem, hmg, v1, mkP, v2, hkn, hPl, e1]
        refine ⟨fun a b h => by simpa [go_sem, keyOK] using hok a b h, by decide +kernel, ?_⟩
        rw [show (ints P).set k [.int .i64 1] = ints (P.set k 1) from ints_set.symm]
        exact hR _ _ _ rfl (by simp [go_sem, hPl])
    · obtain ⟨⟨⟨q, j⟩, a, b⟩, hp, rfl⟩ := enW_get hkv
      rw [enW_erase]
      have hbd := hL1.bd _ (hP.sub _ (List.mem_of_getElem? hp))
      have hlt := (List.getElem?_eq_some_iff.1 hp).1
      have hlen : (T.eraseIdx i).length < T.length := by rw [List.length_eraseIdx, if_pos hlt]; omega
      have hPl := hP.len
      have hsk := hP.skip hp
      have hst := hP.step hL1 hp
      simp only at hbd hsk hst
      by_cases hb : b = 0
      · have hN := hsk hb
        simp [go_sem, k2, mkP]
        refine IWp.now ?_
        simp [go_sem, hb]
        refine ⟨some ((q, j), a, 0), T.eraseIdx i, P, ⟨⟨rfl, ⟨_, _, _, _, rfl, ⟨rfl, rfl⟩, rfl, rfl⟩, rfl⟩, ?_⟩, hN, hlen⟩
        rintro _ _ x x1 x2 x3 _ rfl rfl
        simp [go_sem]
      · have hN := hst hb
        have v2 : IntKind.i64.wrap (b - 1) = (((b - 1).toNat : Nat) : Int) := by rw [wrap64 (by omega) (by omega)]; omega
        have hmt := (matN_le r2 q).1
        have cM := fun h hb => matches_ro r S 3 4 q r2 h hb
        obtain ⟨m, hm⟩ : ∃ m, matN r q = m := ⟨_, rfl⟩
        rw [hm] at hmt hN cM
        have v3 : IntKind.i64.wrap ((m : Int) + 1) = m + 1 := wrap64 (by omega) (by omega)
        obtain ⟨k, hk⟩ : ∃ k, (b - 1).toNat = k := ⟨_, rfl⟩
        have hkn : k < n := by omega
        rw [hk] at v2 hN
        have e1 : (ints P)[k]?.getD [] = [.int .i64 (P.getD k 0)] := by
          rw [List.getElem?_eq_getElem (by simp; omega), Option.getD_some, ints_getElem]
          simp [show k < P.length by omega]
        simp [go_sem, k2, mkP]
        refine IWp.seqI ?_
        simp [go_sem]
        refine IWp.block ?_
        refine IWp.seqI ?_
        simp [go_sem]
        refine IWp.seqI ?_
        simp [go_sem]
        refine IWp.now ?_
        simp [go_sem, hb]
        refine Drawn.intro (fun k => if k = 7 then .tup [.junk, .junk, .int .i64 (m : Int)] else .tup []) ?_
        simp [go_sem, v2, v3, hkn, hPl, e1]
        refine ⟨cM _ rfl, by decide +kernel, ?_⟩
        refine ⟨some ((q, j), a, b), T.eraseIdx i, P.set k (m + 1), ⟨⟨ints_set, ⟨_, _, _, _, rfl, ⟨rfl, rfl⟩, rfl, rfl⟩, rfl⟩, ?_⟩, hN, hlen⟩
        rintro _ _ x x1 x2 x3 _ rfl rfl
        simp [go_sem]
  · rw [if_neg he] at hR
    simp [go_sem]
    exact hR _ _ _ rfl (by simp [go_sem])
end Go.Idl
