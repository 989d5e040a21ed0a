/-
  Package finessetop: the movement that made returns (plain).
-/
import Derived.Test.YteedopeniojppaaGreatCtopmPartQ
import Derived.Test.YteedopeniojppaaGreatCtopmPartP
namespace Go.Idl
set_option linter.all false
open Go.Proofs
set_option maxHeartbeats 4000000
set_option maxRecDepth 40000

/-- The greatest number of rounds of a kind, the error, the movement, its error. -/
def tpAll (k T : Int) : Int := if k < 3 then mostK T (k + 1) else if k < 6 then (if Web.findE T (k - 2) = 0 then Web.most T (k - 2) else 0) else if k = 6 then 2 * T - 1 else mostK T 1
def tpErr (k T : Int) : Int := if k < 3 then findE T (k + 1) else if k < 6 then Web.findE T (k - 2) else if k = 6 then 0 else findE T 1
noncomputable def tpM (k T n : Int) : Mv := if k < 3 then makeM (k + 1) T n else if k < 6 then Web.makeM (k - 2) T n else if k = 6 then cvM (How.makeM T n) else roverM T n
noncomputable def tpE (k T n : Int) : Int := if k < 3 then makeE (k + 1) T n else if k < 6 then Web.makeE (k - 2) T n else if k = 6 then How.makeE T n else roverE T n
theorem findE_rng {k T : Int} (hk : 0 ≤ k) (h : findE T k = 0) : Dsg k T ∧ T ≤ 24 := by
  have := findE_zero h
  obtain ⟨h1, h2, h3, h4, h5⟩ := this
  refine ⟨⟨?_, h1⟩, h2⟩
  unfold evenK at h5
  rcases (by omega : k = 1 ∨ k = 2 ∨ k = 3) with rfl | rfl | rfl
  · left; refine ⟨rfl, ?_⟩; simp at h5; omega
  · right; left; refine ⟨rfl, ?_⟩; simpa using h5
  · right; right; refine ⟨rfl, ?_⟩; simpa using h5
theorem made_dsg {k T n : Int} (hk : 0 ≤ k) (h : makeE k T n = 0) : ∃ T' N' : Nat, MdOK (makeM k T n) T' N' := by
  obtain ⟨hf, h1, h2⟩ := makeE_zero h
  have hd : Dsg k T ∧ T ≤ 24 := findE_rng hk hf
  have hT := hd.1.2
  obtain ⟨T', rfl⟩ : ∃ T' : Nat, T = T' := ⟨T.toNat, by omega⟩
  obtain ⟨N', rfl⟩ : ∃ N' : Nat, n = N' := ⟨n.toNat, by omega⟩
  refine ⟨T', N', ?_⟩
  have hm := makeM_dsg hd.1 hd.2 h1 h2
  rw [Int.toNat_natCast] at hm
  exact (show IsMade _ k false T' N' from ⟨hd.1, by omega, by omega, h2, fun h => (by cases h), fun _ => hm⟩).ok
theorem tp_ok {k T n : Int} (hk : 0 ≤ k ∧ k < 8) (hT : 2 ≤ T ∧ T ≤ 9) (hn : 1 ≤ n ∧ n ≤ tpAll k T) (hE : tpErr k T = 0) (he : tpE k T n = 0) : ∃ T' N' : Nat, MdOK (tpM k T n) T' N' := by
  unfold tpE at he
  unfold tpAll at hn
  unfold tpErr at hE
  unfold tpM
  by_cases h1 : k < 3
  · rw [if_pos h1] at he ⊢
    exact made_dsg (by omega) he
  · rw [if_neg h1] at he hn hE ⊢
    by_cases h2 : k < 6
    · rw [if_pos h2] at he hn hE ⊢
      rw [if_pos hE] at hn
      have hW := Web.wk_of hE
      obtain ⟨T', rfl⟩ : ∃ T' : Nat, T = T' := ⟨T.toNat, by omega⟩
      obtain ⟨N', rfl⟩ : ∃ N' : Nat, n = N' := ⟨n.toNat, by omega⟩
      have e1 : Web.makeM (k - 2) T' N' = ⟨T', N', Web.sets T' (k - 2), Web.cops T' (k - 2), 2, Web.rowsX (k - 2) T' N'⟩ := by
        unfold Web.makeM; rw [if_pos he]; simp
      rw [e1]
      exact ⟨T', N', web_ok hW (by omega) hn.2⟩
    · rw [if_neg h2] at he hn hE ⊢
      by_cases h3 : k = 6
      · rw [if_pos h3] at he hn ⊢
        obtain ⟨T', rfl⟩ : ∃ T' : Nat, T = T' := ⟨T.toNat, by omega⟩
        obtain ⟨N', rfl⟩ : ∃ N' : Nat, n = N' := ⟨n.toNat, by omega⟩
        exact ⟨T', N', (how_ok (by omega) (by omega) (by omega) (by omega)).1⟩
      · rw [if_neg h3] at he hn hE ⊢
        have hr : findE T 1 = 0 ∧ T % 3 ≠ 0 ∧ makeE 1 T n = 0 := by
          unfold roverE at he
          split at he
          · rename_i h; exact absurd he h
          · rename_i h
            split at he
            · omega
            · rename_i h'
              exact ⟨by omega, h', he⟩
        obtain ⟨hf, h1, h2⟩ := makeE_zero hr.2.2
        have hd : Dsg 1 T ∧ T ≤ 24 := findE_rng (by omega) hf
        have hodd : T % 2 = 1 := by rcases hd.1.1 with h | h | h <;> omega
        have hle : n ≤ T := by unfold fewK at h2; simpa using h2
        obtain ⟨T', rfl⟩ : ∃ T' : Nat, T = T' := ⟨T.toNat, by omega⟩
        obtain ⟨N', rfl⟩ : ∃ N' : Nat, n = N' := ⟨n.toNat, by omega⟩
        have hm := roverM_dsg hd.1 hd.2 hr.2.1 h1 hle
        rw [Int.toNat_natCast] at hm
        exact ⟨T', N', (show IsMade _ 1 true T' N' from ⟨hd.1, by omega, by omega, h2, fun _ => ⟨rfl, by omega, by omega, hm⟩, fun h => (by cases h)⟩).ok⟩
/-- Where the law lets made fail. -/
def noOK (k T : Int) : Prop := k ≠ 6 ∧ (k = 0 → T % 2 = 0)
theorem tp_no {k T n : Int} (hk : 0 ≤ k ∧ k < 8) (hT : 2 ≤ T ∧ T ≤ 9) (h : (tpErr k T ≠ 0 ∨ tpAll k T < 1) ∨ (tpE k T n ≠ 0 ∧ 1 ≤ n ∧ n ≤ tpAll k T)) : noOK k T := by
  have six : k ≠ 6 := by
    rintro rfl
    have e1 : tpErr 6 T = 0 := rfl
    have e2 : tpAll 6 T = 2 * T - 1 := rfl
    rcases h with h | ⟨h1, h2, h3⟩
    · omega
    · have e3 : tpE 6 T n = How.makeE T n := rfl
      obtain ⟨T', rfl⟩ : ∃ T' : Nat, T = T' := ⟨T.toNat, by omega⟩
      obtain ⟨N', rfl⟩ : ∃ N' : Nat, n = N' := ⟨n.toNat, by omega⟩
      have := (how_ok (T := T') (N := N') (by omega) (by omega) (by omega) (by omega)).2
      omega
  refine ⟨six, ?_⟩
  rintro rfl
  apply Decidable.byContradiction
  intro hodd
  have hd : Dsg 1 T := ⟨.inl ⟨rfl, by omega⟩, by omega⟩
  have f0 : findE T 1 = 0 := findE_dsg hd (by omega)
  have e1 : tpErr 0 T = findE T 1 := rfl
  have e2 : tpAll 0 T = mostK T 1 := rfl
  have e3 : mostK T 1 = T := by unfold mostK; rw [if_pos f0]; unfold fewK; simp
  have e4 : tpE 0 T n = makeE 1 T n := rfl
  rcases h with h | ⟨h1, h2, h3⟩
  · omega
  · have := makeE_dsg (k := 1) (n := n) hd (by omega) h2 (by unfold fewK; simp; omega)
    omega
/-- What made's session holds. -/
structure TopM (M : Mv) : Prop where
  frame : frameP M
  fair : Fair M.tables M.rounds M.sets M.copies 49 M.rows
  sets : M.sets ≤ 47
  len : M.rows.length ≤ 1128
  live : ∃ x ∈ M.rows, 0 < x.ns ∧ 0 < x.ew
theorem MdOK.top {M : Mv} {T N : Nat} (h : MdOK M T N) : TopM M := by
  have hl := h.len_pos
  have hr := h.row 0 (by omega)
  refine ⟨h.frame, h.fair.mono (by have := h.t2; omega), h.s2, h.len_le, M.rows[0], List.getElem_mem _, by omega, by omega⟩
theorem MdOK.topW {M : Mv} {T N : Nat} (h : MdOK M T N) {p : Int} (hp : woE p M = 0) : TopM (woM p M) := by
  have hm : woM p M = { M with rows := M.rows.map (wF p) } := by unfold woM; rw [if_pos hp]
  have hp1 : 1 ≤ p := by unfold woE at hp; split at hp <;> omega
  rw [hm]
  have hl := h.len_pos
  have hf := h.fair.mono (Q' := 49) (by have := h.t2; omega)
  have hfr := h.frame
  refine ⟨?_, hf.without p, h.s2, by simp only [List.length_map]; exact h.len_le, ?_⟩
  · obtain ⟨a1, a2, a3, a4, a5, a6, a7, a8, a9⟩ := hfr
    exact ⟨a1, a2, a3, a4, a5, a6, a7, a8, by simp only [List.length_map]; exact a9⟩
  · have r0 := h.row 0 (by omega)
    have r1 := h.row 1 (by omega)
    have ha := List.pairwise_iff_getElem.1 h.fair.pw 0 1 (by omega) (by omega) (by omega)
    have hT := h.t1
    have q1 : 1 / T = 0 := Nat.div_eq_of_lt (by omega)
    have hs : ¬ (sitsP p M.rows[0] ∧ sitsP p M.rows[1]) := fun ⟨a, b⟩ => by
      have := (ha.2.1 p (by omega) a b).1
      rw [r0.1, r1.1, q1, Nat.zero_div] at this
      exact this rfl
    unfold sitsP at hs
    by_cases h0 : M.rows[0].ns = p ∨ M.rows[0].ew = p
    · refine ⟨wF p M.rows[1], List.mem_map.2 ⟨_, List.getElem_mem _, rfl⟩, ?_⟩
      unfold wF
      simp only
      rw [if_neg (by omega), if_neg (by omega)]
      omega
    · refine ⟨wF p M.rows[0], List.mem_map.2 ⟨_, List.getElem_mem _, rfl⟩, ?_⟩
      unfold wF
      simp only
      rw [if_neg (by omega), if_neg (by omega)]
      omega
theorem swF_sits {l : List Int} {p : Int} {x : Rw} : sitsP p (swF l x) ↔ sitsP p x := by
  unfold sitsP swF
  split
  · exact ⟨fun h => h.symm, fun h => h.symm⟩
  · rfl
theorem swF_r {l : List Int} {x : Rw} : (swF l x).r = x.r ∧ (swF l x).t = x.t ∧ (swF l x).s = x.s ∧ ((swF l x).ns = x.ns ∧ (swF l x).ew = x.ew ∨ (swF l x).ns = x.ew ∧ (swF l x).ew = x.ns) := by
  unfold swF
  split
  · exact ⟨rfl, rfl, rfl, .inr ⟨rfl, rfl⟩⟩
  · exact ⟨rfl, rfl, rfl, .inl ⟨rfl, rfl⟩⟩
theorem swF_apart {l : List Int} {x y : Rw} (h : apart x y) : apart (swF l x) (swF l y) := by
  obtain ⟨h1, h2, h3⟩ := h
  obtain ⟨a1, a2, a3, a4⟩ := swF_r (l := l) (x := x)
  obtain ⟨b1, b2, b3, b4⟩ := swF_r (l := l) (x := y)
  refine ⟨by rw [a1, b1, a2, b2]; exact h1, fun p hp hx hy => by rw [a1, b1, a3, b3]; exact h2 p hp (swF_sits.1 hx) (swF_sits.1 hy), ?_⟩
  intro h4
  apply h3
  omega
theorem Fair.sw {T N S C Q : Int} {L : List Rw} (h : Fair T N S C Q L) (l : List Int) : Fair T N S C Q (L.map (swF l)) := by
  refine ⟨fun x hx => ?_, List.pairwise_map.2 (h.pw.imp swF_apart), fun r s => ?_⟩
  · obtain ⟨y, hy, rfl⟩ := List.mem_map.1 hx
    have := h.rng y hy
    obtain ⟨a1, a2, a3, a4⟩ := swF_r (l := l) (x := y)
    omega
  · rw [List.countP_map]
    have e : (rsB r s ∘ swF l) = rsB r s := by
      funext x
      obtain ⟨a1, a2, a3, a4⟩ := swF_r (l := l) (x := x)
      simp [rsB, a1, a3]
    rw [e]
    exact h.load r s
theorem TopM.sw {M : Mv} (h : TopM M) (l : List Int) : TopM (swM l M) := by
  obtain ⟨a1, a2, a3, a4, a5, a6, a7, a8, a9⟩ := h.frame
  refine ⟨⟨a1, a2, a3, a4, a5, a6, a7, ?_, by simp only [swM, List.length_map]; exact a9⟩, h.fair.sw l, h.sets, by simp only [swM, List.length_map]; exact h.len, ?_⟩
  · simp only [swM]
    split
    · exact a8
    · exact .inl rfl
  · obtain ⟨x, hx, h1, h2⟩ := h.live
    refine ⟨swF l x, List.mem_map.2 ⟨x, hx, rfl⟩, ?_⟩
    obtain ⟨b1, b2, b3, b4⟩ := swF_r (l := l) (x := x)
    omega
end Go.Idl
