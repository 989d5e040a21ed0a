/-
  Chapter 38: an event that is over (plain).
-/
import Derived.Test.YtnnpdhccblelgaaDoorC38PartZF
import Derived.Test.YtnnpdhccblelgaaDoorC38PartR
namespace Go.Idl
set_option linter.all false
open Go.Proofs
set_option maxHeartbeats 8000000
set_option maxRecDepth 40000

/-- One result more does not change what is known. -/
theorem val_more {S : List Int} {l : List Rs} {x : Rs} : ∀ (q i : Nat) {u : Int × Int}, val S l q i = some u → val S (l ++ [x]) q i = some u
  | 0, i, u, h => by
    unfold val at h ⊢
    split at h
    · rename_i hb; rw [if_pos hb]; exact h
    · rename_i hb
      rw [if_neg hb]
      obtain ⟨y, hy, e⟩ := Option.map_eq_some_iff.1 h
      rw [List.find?_append, hy]
      simpa using e
  | q + 1, i, u, h => by
    unfold val at h
    split at h
    · rename_i y v w hy hv hw
      have e1 := val_more q (2 * i) hv (x := x)
      have e2 := val_more q (2 * i + 1) hw (x := x)
      unfold val
      rw [List.find?_append, hy, e1, e2]
      exact h
    · cases h
/-- Who wins by the result that is made of a match. -/
theorem win_new {n : Nat} (h1 : 2 ≤ n) (h2 : n ≤ 64) {l : List Rs} (hG : Good n l) {m : Mt} (hm : m ∈ opens n l) {x : Rs} (hxr : x.r = m.r) (hxi : x.i = m.i) (hG2 : Good n (l ++ [x])) (hw : resW x m.a m.b = (m.a, m.b)) :
    winV (stW n (l ++ [x])) m.r m.i = (m.a, 0) := by
  obtain ⟨q, i, p, p', f⟩ := opens_facts h1 h2 hG hm
  have hk : isM q i x = true := isM_key.2 ⟨hxr.trans f.mr, hxi.trans f.mi⟩
  have hxl : x ∈ l ++ [x] := by simp
  have hI := (good_state h1 h2 hG2).2
  have hv : val (seedsL n) (l ++ [x]) q i = some (m.a, m.b) := by
    cases q with
    | zero =>
      have hf := hG2.first x hxl (by have := (isM_key.1 hk).1; omega)
      rw [show x.i.toNat = i by have := (isM_key.1 hk).2; omega] at hf
      have ea : p = 2 * i := by simpa using f.pa
      have eb : p' = 2 * i + 1 := by simpa using f.pb
      have ca := f.ca.1
      have cb := f.cb.1
      rw [ea] at ca
      rw [eb] at cb
      unfold val
      rw [if_neg hf, hG2.find hxl hk, Option.map_some, ca, cb, hw]
    | succ k =>
      obtain ⟨u, hu, hu1⟩ := f.ca.2 k (by omega)
      obtain ⟨v, hv, hv1⟩ := f.cb.2 k (by omega)
      rw [f.pa] at hu
      rw [f.pb] at hv
      unfold val
      rw [hG2.find hxl hk, val_more k _ hu, val_more k _ hv]
      simp only
      rw [hu1, hv1, hw]
  have hg := hI.yes q i (doneD_res hxl hk)
  rw [hv] at hg
  unfold winV
  rw [f.mr, f.mi, hg]
theorem res_one (m : Mt) (hab : True) : resW ⟨m.r, m.i, 1, 0, ⟨0, 1⟩⟩ m.a m.b = (m.a, m.b) := by
  unfold resW
  rw [if_neg]
  simp only
  have : cmpI ⟨0, 1⟩ (whF (0 - 1)) = 1 := by decide +kernel
  rw [this]
  omega
/-- The place of who has lost by a result. -/
def placeX (r : Nat) (q : Nat) : Int := ((2 ^ (r - 1 - q) : Nat) : Int) + 1
theorem place_lost {n : Nat} (h1 : 2 ≤ n) (h2 : n ≤ 64) {l : List Rs} (hG : Good n l) {x : Rs} (hx : x ∈ l) : (placesG n l).getD (loser (seedsL n) l x - 1).toNat 0 = placeX (rnd n) x.r.toNat := by
  obtain ⟨q, i, hq, hi, e1, e2, hk⟩ := hG.key hx
  obtain ⟨u, hu, hu0, eu⟩ := loser_val h1 h2 hG hx hk
  have hml : loser (seedsL n) l x ∈ losers n l := List.mem_map_of_mem hx
  have hbd := losers_bd h1 h2 hG hml
  obtain ⟨t, ht⟩ : ∃ t, (loser (seedsL n) l x - 1).toNat = t := ⟨_, rfl⟩
  have htl : (t : Int) + 1 = loser (seedsL n) l x := by omega
  have hpl : plT (rnd n) (stW n l) t = placeX (rnd n) x.r.toNat := by
    obtain ⟨e0, he0, h0⟩ := (lost_iff h1 h2 hG (t := (t : Int) + 1) (by omega)).1 (by rw [htl]; exact hml)
    unfold plT
    split
    · rename_i hf
      exact absurd h0 (by simpa using List.find?_eq_none.1 hf e0 he0)
    · rename_i e' hf
      have hp := List.find?_some hf
      simp only [decide_eq_true_eq] at hp
      obtain ⟨q', i', e1', hv⟩ := stW_val h1 h2 hG (List.mem_of_find?_eq_some hf)
      have hq' : q' = q := (lost_once (uniq38 h1) hv hu (by rw [hp]; omega) (by rw [hp, htl, eu])).1
      subst hq'
      rw [e1']
      simp only
      rw [mat_in hq, show x.r.toNat = q' by omega]
      rfl
  have e0 : ((List.range n).map (plT (rnd n) (stW n l))).getD t 0 = plT (rnd n) (stW n l) t := by simp [show t < n by omega]
  rw [ht]
  unfold placesG placesL
  split
  · rw [e0]; exact hpl
  · rename_i v hv
    have hr := (rnd_bd h1).1
    have hcb := champ_bd h1 h2 hG v hv
    rw [show (rnd n : Int) - 1 = ((rnd n - 1 : Nat) : Int) by omega] at hv
    have hno := champ_no h1 h2 hG (stW_get (i := 0) h1 h2 hG hv)
    have hne : v.1 ≠ (t : Int) + 1 := fun e => hno (by rw [e, htl]; exact hml)
    have e2 : ((List.range n).map (plT (rnd n) (stW n l)) |>.set (v.1 - 1).toNat 1).getD t 0 = ((List.range n).map (plT (rnd n) (stW n l))).getD t 0 := by
      simp only [List.getD_eq_getElem?_getD, List.getElem?_set]
      rw [if_neg (by omega)]
    rw [e2, e0]
    exact hpl
/-- An event that is over has a champion. -/
theorem champ_ex {n : Nat} (h1 : 2 ≤ n) (h2 : n ≤ 64) {l : List Rs} (hG : Good n l) (hl : l.length = n - 1) : ∃ v : Int × Int, val (seedsL n) l (rnd n - 1) 0 = some v ∧ 1 ≤ v.1 ∧ v.1 ≤ n ∧ (placesG n l).getD (v.1 - 1).toNat 0 = 1 ∧ v.1 ∉ losers n l := by
  have hr := (rnd_bd h1).1
  have hd := (all_done h1 h2 hG).1 hl (rnd n - 1) 0 (by omega) (Nat.pow_pos (by decide))
  obtain ⟨v, hv, hv0⟩ := hG.val_some (firsts38 n (by omega) h1) (rnd n - 1) 0 (by simp) hd
  have hI := (good_state h1 h2 hG).2
  have hg := hI.yes (rnd n - 1) 0 ((doneD_iff (ordN_ok l) (fun e => Nat.pow_pos (by decide))).2 hd)
  rw [hv] at hg
  have hb := (val_bd h1 h2 hv).1
  refine ⟨v, hv, by omega, hb.2, ?_, champ_no h1 h2 hG hv⟩
  rw [show ((rnd n - 1 : Nat) : Int) = (rnd n : Int) - 1 by omega] at hg
  unfold placesG placesL
  rw [show (((0 : Nat) : Int)) = 0 from rfl] at hg
  rw [hg]
  simp only [List.getD_eq_getElem?_getD, List.getElem?_set]
  rw [if_pos trivial, if_pos (by simp; omega)]
  rfl
/-- All teams: the champion, and who has lost. -/
theorem teams_perm {n : Nat} (h1 : 2 ≤ n) (h2 : n ≤ 64) {l : List Rs} (hG : Good n l) (hl : l.length = n - 1) {v : Int × Int} (hv : 1 ≤ v.1 ∧ v.1 ≤ n) (hno : v.1 ∉ losers n l) : (v.1 :: losers n l).Perm ((List.range n).map fun t : Nat => (t : Int) + 1) := by
  have hnd : (v.1 :: losers n l).Nodup := List.nodup_cons.2 ⟨hno, losers_nd h1 h2 hG⟩
  have hnd2 : ((List.range n).map fun t : Nat => (t : Int) + 1).Nodup := List.pairwise_map.2 (List.nodup_range.imp fun {a b} h e => h (by omega))
  have hsub : ∀ t ∈ v.1 :: losers n l, t ∈ (List.range n).map fun t : Nat => (t : Int) + 1 := fun t ht => by
    have : 1 ≤ t ∧ t ≤ n := by
      rcases List.mem_cons.1 ht with rfl | ht
      · exact hv
      · exact losers_bd h1 h2 hG ht
    exact List.mem_map.2 ⟨(t - 1).toNat, by simp; omega, by omega⟩
  refine (List.perm_ext_iff_of_nodup hnd hnd2).2 fun t => ⟨hsub t, fun ht => Classical.byContradiction fun hn => ?_⟩
  have := (List.nodup_cons.2 ⟨hn, hnd⟩).length_le_of_subset (l₂ := (List.range n).map fun t : Nat => (t : Int) + 1) fun y hy => by
    rcases List.mem_cons.1 hy with rfl | hy
    · exact ht
    · exact hsub y hy
  simp [losers] at this
  omega
/-- The places of all teams of an event that is over, in some order. -/
def allP (n : Nat) : List Int := 1 :: (keysN n).map fun k => placeX (rnd n) k.1
theorem places_perm {n : Nat} (h1 : 2 ≤ n) (h2 : n ≤ 64) {l : List Rs} (hG : Good n l) (hl : l.length = n - 1) : (placesG n l).Perm (allP n) := by
  obtain ⟨v, hv, hv1, hv2, hp, hno⟩ := champ_ex h1 h2 hG hl
  have hT := (teams_perm h1 h2 hG hl ⟨hv1, hv2⟩ hno).map fun t : Int => (placesG n l).getD (t - 1).toNat 0
  have e1 : placesG n l = ((List.range n).map fun t : Nat => (t : Int) + 1).map fun t : Int => (placesG n l).getD (t - 1).toNat 0 := by
    rw [List.map_map]
    refine List.ext_getElem (by simp [placesG_len]) fun i h h' => ?_
    simp [h]
  have e2 : (v.1 :: losers n l).map (fun t : Int => (placesG n l).getD (t - 1).toNat 0) = 1 :: l.map fun x => placeX (rnd n) x.r.toNat := by
    rw [List.map_cons, hp]
    congr 1
    unfold losers
    rw [List.map_map]
    exact List.map_congr_left fun x hx => place_lost h1 h2 hG hx
  rw [e2, ← e1] at hT
  refine hT.symm.trans ?_
  unfold allP
  refine List.Perm.cons _ ?_
  have e3 : l.map (fun x => placeX (rnd n) x.r.toNat) = (keysL l).map fun k => placeX (rnd n) k.1 := by unfold keysL; rw [List.map_map]; rfl
  rw [e3]
  refine List.Perm.map _ ?_
  refine (List.perm_ext_iff_of_nodup (keysL_nd hG) (keysN_nd n (by omega) h1)).2 fun k => ⟨fun hk => keysL_sub hG k hk, fun hk => ?_⟩
  obtain ⟨q, i⟩ := k
  obtain ⟨a1, a2, a3⟩ := keysN_mem.1 hk
  rcases (all_done h1 h2 hG).1 hl q i a1 a2 with hb | hx
  · exact absurd hb a3
  · exact (keysL_mem hG).2 hx
theorem share38 : ∀ n, n < 65 → 2 ≤ n → (∀ k, k < rnd n → (allP n).count (placeX (rnd n) k) = if k = 0 then n - 2 ^ (rnd n - 1) else 2 ^ (rnd n - 1 - k)) ∧ (allP n).count 1 = 1 ∧ (allP n).count 2 = 1 ∧ (allP n).count 0 = 0 := by decide +kernel
/-- The order of the results does not matter. -/
theorem find_perm {r : Nat} {S : List Int} {l l' : List Rs} (hG : GoodL r S l) (hp : l'.Perm l) (q i : Nat) : l'.find? (isM q i) = l.find? (isM q i) := by
  have hG' := hG.perm hp
  cases h : l.find? (isM q i) with
  | none =>
    rw [List.find?_eq_none] at h ⊢
    exact fun x hx => h x (hp.mem_iff.1 hx)
  | some x => exact hG'.find (hp.mem_iff.2 (List.mem_of_find?_eq_some h)) (List.find?_some h)
theorem val_perm {r : Nat} {S : List Int} {l l' : List Rs} (hG : GoodL r S l) (hp : l'.Perm l) : ∀ q i, val S l' q i = val S l q i
  | 0, i => by
    unfold val
    rw [find_perm hG hp]
  | q + 1, i => by
    unfold val
    rw [find_perm hG hp, val_perm hG hp q (2 * i), val_perm hG hp q (2 * i + 1)]
theorem places_same {n : Nat} (h1 : 2 ≤ n) (h2 : n ≤ 64) {l l' : List Rs} (hG : Good n l) (hl : l.length = n - 1) (hp : l'.Perm l) : placesG n l' = placesG n l := by
  have hG' : Good n l' := hG.perm hp
  have hl' : l'.length = n - 1 := by rw [hp.length_eq, hl]
  obtain ⟨v, hv, hv1, hv2, hpl, hno⟩ := champ_ex h1 h2 hG hl
  obtain ⟨v', hv', _, _, hpl', _⟩ := champ_ex h1 h2 hG' hl'
  have hvv : v' = v := by
    rw [val_perm hG hp, hv] at hv'
    exact (Option.some.inj hv').symm
  have hls : ∀ x, loser (seedsL n) l' x = loser (seedsL n) l x := fun x => by unfold loser; rw [val_perm hG hp]
  have hT := teams_perm h1 h2 hG hl ⟨hv1, hv2⟩ hno
  refine List.ext_getElem (by simp [placesG_len]) fun t ht ht' => ?_
  have htn : t < n := by simpa [placesG_len] using ht
  rw [show (placesG n l')[t] = (placesG n l').getD t 0 by simp [ht], show (placesG n l)[t] = (placesG n l).getD t 0 by simp [ht']]
  have hm : (t : Int) + 1 ∈ v.1 :: losers n l := hT.mem_iff.2 (List.mem_map.2 ⟨t, by simp [htn], rfl⟩)
  rcases List.mem_cons.1 hm with e | hm
  · rw [show t = (v.1 - 1).toNat by omega, hpl, ← hvv]
    exact hpl'
  · obtain ⟨x, hx, e⟩ := List.mem_map.1 hm
    have a := place_lost h1 h2 hG hx
    have b := place_lost h1 h2 hG' (hp.mem_iff.2 hx)
    rw [hls] at b
    rw [show t = (loser (seedsL n) l x - 1).toNat by omega, a, b]
end Go.Idl
