/-
  Package event: plain: what the check finds where one match of an event that is known is not right.
  Chapter 39: slices.Clone of matches.
-/
import Derived.Test.YtamffdgopknkfaaDoorC39PartX
import Derived.Test.YtamffdgopknkfaaDoorC39PartZA
namespace Go.Idl
set_option linter.all false
open Go.Proofs
set_option maxHeartbeats 8000000
set_option maxRecDepth 40000

theorem mB_sorted : ∀ (n : Nat) (B : List Er), (mB n B).Pairwise fun a b => a.r ≤ b.r
  | _, [] => List.Pairwise.nil
  | n, r :: B => by
    simp only [mB]
    rw [List.pairwise_append]
    refine ⟨?_, mB_sorted (n + 1) B, fun a ha b hb => ?_⟩
    · apply List.pairwise_of_forall_mem_list
      intro a ha b hb
      have := (rowM_r ha).1
      have := (rowM_r hb).1
      omega
    · have := (rowM_r ha).1
      obtain ⟨j, _, _, h2, _⟩ := mB_mem hb
      omega
theorem ordM_range {l : List Em} (h : l.Pairwise fun a b => a.r ≤ b.r) : ordM l = List.range l.length := by
  refine OrdM.eq (ordM_ok l) ⟨List.Perm.refl _, ?_⟩
  rw [List.pairwise_iff_getElem] at h ⊢
  intro i j hi hj hij
  simp at hi hj
  have := h i j hi hj hij
  simp [hi, hj]
  omega
theorem set_split {l : List Em} {i : Nat} (hi : i < l.length) (e : Em) : l.set i e = l.take i ++ e :: l.drop (i + 1) := List.set_eq_take_append_cons_drop.trans (if_pos hi)
theorem mgStep_skip {n : Int} {d : List (Int × Int)} {S : List ((Int × Int) × Int)} {e : Em} (h : e.r ≠ n) : mgStep n d S e = S := by
  unfold mgStep
  rw [if_neg]
  rintro ⟨_, h2, _⟩
  exact h h2
theorem mgs_set {l : List Em} {i : Nat} (hi : i < l.length) {e : Em} {n : Int} {d : List (Int × Int)} (h1 : l[i].r ≠ n) (h2 : e.r ≠ n) : mgs (l.set i e) n d = mgs l n d := by
  have hl : l = l.take i ++ l[i] :: l.drop (i + 1) := by rw [List.getElem_cons_drop, List.take_append_drop]
  unfold mgs
  conv => rhs; rw [hl]
  rw [set_split hi, List.foldl_append, List.foldl_append, List.foldl_cons, List.foldl_cons, mgStep_skip h1, mgStep_skip h2]
/-- What the rounds are where a match is missing. -/
structure WrR (p : Pl) (B : List Er) (l' : List Em) (ρ : Nat) : Prop where
  len : (rchd p l').length = ρ + 1
  draw : ∀ j : Nat, j ≤ ρ → ((rchd p l').getD j Er0).draw = (B.getD j Er0).draw
theorem FullB.miss {p : Pl} {B : List Er} (h : FullB p B) {i : Nat} (hi : i < (mB 0 B).length) {e' : Em} {ρ : Nat} (hρ : (mB 0 B)[i].r = (ρ : Int))
    (h1 : e'.r = (ρ : Int) ∨ e'.r < 0 ∨ p.r ≤ e'.r) (h2 : isMm ρ ((mB 0 B)[i].a, (mB 0 B)[i].b) e' = false) : WrR p B ((mB 0 B).set i e') ρ := by
  obtain ⟨j, r, hj, hr, hm⟩ := mB_mem (List.getElem_mem hi)
  obtain rfl : j = ρ := by omega
  obtain ⟨hjl, hje⟩ := List.getElem?_eq_some_iff.1 hj
  have hB : B = B.take j ++ r :: B.drop (j + 1) := by rw [← hje, List.getElem_cons_drop, List.take_append_drop]
  have hlen := h.len
  have hx : ((mB 0 B)[i].a, (mB 0 B)[i].b) ∈ r.draw := by rw [← h.keys r (List.mem_of_getElem? hj)]; exact List.mem_map_of_mem (f := Prod.fst) hm
  have hno : ¬ (mgs ((mB 0 B).set i e') (j : Int) r.draw).length = r.draw.length := by
    intro hc
    have hp := perm_of_sub (mgs_nodup ((mB 0 B).set i e') (j : Int) r.draw) (fun k hk => mgs_keys hk) (by simpa using hc)
    have hk := hp.mem_iff.2 hx
    have hg := mgs_get ((mB 0 B).set i e') (j : Int) r.draw ((mB 0 B)[i].a, (mB 0 B)[i].b)
    rw [if_pos hx] at hg
    have hs : (aget ((mB 0 B)[i].a, (mB 0 B)[i].b) (mgs ((mB 0 B).set i e') (j : Int) r.draw)).isSome = true := by
      cases hq : (aget ((mB 0 B)[i].a, (mB 0 B)[i].b) (mgs ((mB 0 B).set i e') (j : Int) r.draw)).isSome with
      | true => rfl
      | false => exact absurd hk (aget_none.1 hq)
    rw [hg, Option.isSome_map] at hs
    obtain ⟨m, hm9⟩ := Option.isSome_iff_exists.1 hs
    have hmm := List.find?_some hm9
    obtain ⟨k, hk1, hk2⟩ := List.mem_iff_getElem.1 (List.mem_of_find?_eq_some hm9)
    rw [List.getElem_set] at hk2
    split at hk2
    · rw [← hk2, h2] at hmm; cases hmm
    · rename_i hne
      rw [List.length_set] at hk1
      have hkey : key3 m = key3 (mB 0 B)[i] := by
        simp only [isMm, Bool.and_eq_true] at hmm
        rw [isM_iff.1 hmm.1]
        simp only [key3, hρ]
      have hn := mB_keys (n := 0) (B := B) fun q hq => (h.okr hq).nd
      rw [List.Nodup, List.pairwise_map] at hn
      have hp := List.pairwise_iff_getElem.1 hn
      rw [← hk2] at hkey
      rcases Nat.lt_or_gt_of_ne hne with hlt | hlt
      · exact hp i k hi hk1 hlt hkey.symm
      · exact hp k i hk1 hi hlt hkey
  have hR : rchd p ((mB 0 B).set i e') = B.take j ++ [⟨r.draw, r.bye, mgs ((mB 0 B).set i e') (j : Int) r.draw⟩] := by
    have hch := h.chain
    rw [hB] at hch
    have hc := chain_append.1 hch
    refine reach_chain _ p.r.toNat 0 [] (chain_append.2 ⟨hc.1, ?_⟩) (fun k q hq => ?_) (fun k q hq hk => ?_) (by simp; omega) (fun ha => ?_)
    · have := hc.2
      simp only [ChainR] at this ⊢
      exact ⟨this.1, trivial⟩
    · rw [Nat.zero_add]
      by_cases hk : k < j
      · rw [List.getElem?_append_left (by simp; omega), List.getElem?_take_of_lt hk] at hq
        have := mgs_mB (n := 0) hq (h.okr (List.mem_of_getElem? hq))
        rw [Nat.zero_add] at this
        rw [mgs_set hi (by omega) (by omega), this]
      · rw [List.getElem?_append_right (by simp; omega)] at hq
        have hlt : (B.take j).length = j := by simp; omega
        rw [hlt] at hq
        obtain ⟨hk3, hk4⟩ := List.getElem?_eq_some_iff.1 hq
        have : k = j := by simp at hk3; omega
        subst this
        simp at hk4
        rw [← hk4]
    · simp at hk
      rw [List.getElem?_append_left (by simp; omega)] at hq
      exact h.ov (List.mem_of_mem_take (List.mem_of_getElem? hq))
    · exact absurd (over_iff9.1 (ha ⟨r.draw, r.bye, mgs ((mB 0 B).set i e') (j : Int) r.draw⟩ (by simp))) hno
  refine ⟨by rw [hR]; simp; omega, fun k hk => ?_⟩
  rw [hR, List.getD_eq_getElem?_getD, List.getD_eq_getElem?_getD]
  by_cases hkj : k < j
  · rw [List.getElem?_append_left (by simp; omega), List.getElem?_take_of_lt hkj]
  · obtain rfl : k = j := by omega
    rw [List.getElem?_append_right (by simp; omega), hj]
    have : (B.take k).length = k := by simp; omega
    simp [this]
theorem chkR_bad {p : Pl} {l : List Em} (h : plB p = false) : chkR p l = (-1, 2) := by unfold chkR; rw [if_neg (by simp [h])]
theorem chkR_eq {p : Pl} {l : List Em} (h : plB p = true) : chkR p l = chkP p l (rchd p l) (ordM l) [] := by unfold chkR; rw [if_pos h]
theorem WrR.fine {p : Pl} {B : List Er} {l' : List Em} {ρ : Nat} (h : WrR p B l' ρ) {e : Em} (he : FineM p B e) (hr : e.r ≤ (ρ : Int)) : FineM p (rchd p l') e := by
  obtain ⟨h1, h2, h3⟩ := he
  have h0 : 0 ≤ e.r := by
    unfold badM at h1
    omega
  refine ⟨h1, by rw [h.len]; omega, ?_⟩
  rw [h.draw _ (by omega)]
  exact h3
theorem set_getD {l : List Em} {i k : Nat} {e : Em} (h : k ≠ i) : (l.set i e).getD k Em0 = l.getD k Em0 := by
  rw [List.getD_eq_getElem?_getD, List.getD_eq_getElem?_getD, List.getElem?_set_ne (Ne.symm h)]
theorem set_getD_self {l : List Em} {i : Nat} {e : Em} (h : i < l.length) : (l.set i e).getD i Em0 = e := by simp [h]
theorem keys_sub {B : List Er} (hk : ∀ r ∈ B, (r.mg.map (·.1)).Nodup) {l' : List Em} {A : List Nat} (hA : A.Nodup) (hl : ∀ k ∈ A, k < (mB 0 B).length ∧ l'.getD k Em0 = (mB 0 B).getD k Em0) : (A.map fun k => key3 (l'.getD k Em0)).Nodup := by
  have hn := mB_keys (n := 0) hk
  rw [List.Nodup, List.pairwise_map] at hn ⊢
  have hp := List.pairwise_iff_getElem.1 hn
  have hA' : A.Pairwise fun a b => a ≠ b ∧ a ∈ A ∧ b ∈ A := by
    have hA2 : A.Pairwise (· ≠ ·) := hA
    rw [List.pairwise_iff_getElem] at hA2 ⊢
    exact fun i j hi hj hij => ⟨hA2 i j hi hj hij, List.getElem_mem _, List.getElem_mem _⟩
  refine hA'.imp ?_
  rintro a b ⟨hab, ha, hb⟩ hc
  obtain ⟨a1, a2⟩ := hl a ha
  obtain ⟨b1, b2⟩ := hl b hb
  rw [a2, b2] at hc
  simp only [List.getD_eq_getElem?_getD, List.getElem?_eq_getElem a1, List.getElem?_eq_getElem b1, Option.getD_some] at hc
  rcases Nat.lt_or_gt_of_ne hab with hlt | hlt
  · exact hp a b a1 b1 hlt hc
  · exact hp b a b1 a1 hlt hc.symm
/-- One match has a wrong margin, or wrong teams. -/
theorem FullB.wrong {p : Pl} {B : List Er} (h : FullB p B) (he : EndB p B) {i : Nat} (hi : i < (mB 0 B).length) {e' : Em} (hr : e'.r = (mB 0 B)[i].r) (h2 : isMm e'.r ((mB 0 B)[i].a, (mB 0 B)[i].b) e' = false)
    (hb : badM p e' ∨ (e'.a, e'.b) ∉ (B.getD e'.r.toNat Er0).draw) : chkR p ((mB 0 B).set i e') = ((i : Int), 390) := by
  have hP := h.part he
  have hfi := hP.fine (List.getElem_mem hi)
  obtain ⟨ρ, hρ⟩ : ∃ ρ : Nat, (mB 0 B)[i].r = ρ := ⟨(mB 0 B)[i].r.toNat, by have := hfi.1; unfold badM at this; omega⟩
  rw [hr, hρ] at h2
  have hW := h.miss hi hρ (.inl (by rw [hr, hρ])) h2
  have hs := mB_sorted 0 B
  have hsl : ((mB 0 B).set i e').Pairwise fun a b => a.r ≤ b.r := by
    rw [List.pairwise_iff_getElem] at hs ⊢
    intro a b ha hb hab
    rw [List.length_set] at ha hb
    have := hs a b ha hb hab
    rw [List.getElem_set, List.getElem_set]
    split <;> split
    · omega
    · rename_i h1 _; subst h1; rw [hr]; exact this
    · rename_i _ h1; subst h1; rw [hr]; exact this
    · exact this
  rw [chkR_eq h.pl, ordM_range hsl, List.length_set]
  obtain ⟨A, hA⟩ : ∃ A, List.range (mB 0 B).length = List.range i ++ i :: A := ⟨(List.range ((mB 0 B).length - i - 1)).map fun x => i + (x + 1), by
    rw [show (mB 0 B).length = i + (((mB 0 B).length - i - 1) + 1) by omega, List.range_add, List.range_succ_eq_map]
    simp [Function.comp_def]⟩
  rw [hA, chk_pass (List.range i) (i :: A) [] ?_ ?_]
  · unfold chkP
    rw [set_getD_self hi]
    by_cases hbd : badM p e'
    · rw [if_pos hbd]
    · rw [if_neg hbd, if_neg (by rw [hW.len, hr, hρ]; omega), if_pos]
      rw [hW.draw _ (by rw [hr, hρ]; omega)]
      exact hb.resolve_left hbd
  · intro k hk
    have hk' := List.mem_range.1 hk
    rw [set_getD (by omega)]
    have hkl : k < (mB 0 B).length := by omega
    have hg : (mB 0 B).getD k Em0 = (mB 0 B)[k] := by simp [hkl]
    rw [hg]
    exact hW.fine (hP.fine (List.getElem_mem hkl)) (by rw [← hρ]; exact List.pairwise_iff_getElem.1 hs k i hkl hi hk')
  · rw [List.nil_append]
    exact keys_sub (fun r hr => (h.okr hr).nd) List.nodup_range fun k hk => ⟨by have := List.mem_range.1 hk; omega, set_getD (by have := List.mem_range.1 hk; omega)⟩
/-- One match is of a round before the first. -/
theorem FullB.before {p : Pl} {B : List Er} (h : FullB p B) (he : EndB p B) {i : Nat} (hi : i < (mB 0 B).length) {e' : Em} (hr : e'.r < 0) : chkR p ((mB 0 B).set i e') = ((i : Int), 390) := by
  have hP := h.part he
  rw [chkR_eq h.pl]
  have ho := ordM_ok ((mB 0 B).set i e')
  have hmem : i ∈ ordM ((mB 0 B).set i e') := ho.1.mem_iff.2 (by simp [hi])
  cases hA : ordM ((mB 0 B).set i e') with
  | nil => rw [hA] at hmem; simp at hmem
  | cons k A =>
    rw [hA] at ho hmem
    have hk : k = i := by
      apply Decidable.byContradiction
      intro hne
      have hiA : i ∈ A := (List.mem_cons.1 hmem).resolve_left (Ne.symm hne)
      have := (List.pairwise_cons.1 ho.2).1 i hiA
      rw [set_getD_self hi, set_getD hne] at this
      have hkl : k < (mB 0 B).length := by
        have := ho.1.mem_iff.1 (List.mem_cons_self ..)
        simpa using this
      have hg : (mB 0 B).getD k Em0 = (mB 0 B)[k] := by simp [hkl]
      have hf := (hP.fine (List.getElem_mem hkl)).1
      rw [hg] at this
      unfold badM at hf
      omega
    subst hk
    unfold chkP
    rw [set_getD_self hi, if_pos (.inl hr)]
theorem mB_cons_get0 {n : Nat} {r : Er} {B : List Er} {k : Nat} (hk : k < r.mg.length) (hh : k < (mB n (r :: B)).length) : (mB n (r :: B))[k].r = (n : Int) := by
  have e : (mB n (r :: B))[k] = (rowM n r.mg)[k]'(by simpa using hk) := by
    simp only [mB]
    rw [List.getElem_append_left]
  rw [e]
  exact (rowM_r (List.getElem_mem _)).1
/-- The first match is of a round behind the last. -/
theorem FullB.late {p : Pl} {B : List Er} (h : FullB p B) (he : EndB p B) (hi : 0 < (mB 0 B).length) {e' : Em} (hr : p.r ≤ e'.r) :
    (B.length = 1 → chkR p ((mB 0 B).set 0 e') = (0, 390)) ∧ (1 < B.length → ∃ k : Nat, chkR p ((mB 0 B).set 0 e') = ((k : Int), 392)) := by
  have hP := h.part he
  have ht := plB_t h.pl
  obtain ⟨r, C, rfl⟩ : ∃ r C, B = r :: C := by
    cases B with
    | nil => simp [mB] at hi
    | cons r C => exact ⟨r, C, rfl⟩
  have hr0 : r.mg.length = p.t.toNat / 2 := by rw [h.mgl (List.mem_cons_self ..)]; exact chain_len h.chain (j := 0) rfl
  have hn0 : 0 < r.mg.length := by omega
  have h00 : (mB 0 (r :: C))[0].r = ((0 : Nat) : Int) := mB_cons_get0 hn0 hi
  have hpr : ¬ e'.r = ((0 : Nat) : Int) := by omega
  have hW := h.miss hi h00 (.inr (.inr hr)) (by unfold isMm isM; simp; intro h9; omega)
  have hs := mB_sorted 0 (r :: C)
  have hL : (mB 0 (r :: C)).length = r.mg.length + (mB 1 C).length := by simp [mB]
  have hget : ∀ k : Nat, k < (mB 0 (r :: C)).length → FineM p (r :: C) ((mB 0 (r :: C)).getD k Em0) := fun k hk => by
    have hg : (mB 0 (r :: C)).getD k Em0 = (mB 0 (r :: C))[k] := by simp [hk]
    rw [hg]; exact hP.fine (List.getElem_mem hk)
  have hz : ∀ k : Nat, k < r.mg.length → ((mB 0 (r :: C)).getD k Em0).r = 0 := fun k hk => by
    have hkl : k < (mB 0 (r :: C)).length := by omega
    have hg : (mB 0 (r :: C)).getD k Em0 = (mB 0 (r :: C))[k] := by simp [hkl]
    rw [hg]; exact mB_cons_get0 hk hkl
  have hone : ∀ q D, C = q :: D → ((mB 0 (r :: C)).getD r.mg.length Em0).r = 1 ∧ 0 < (mB 1 C).length := fun q D hC => by
    have hq0 : q.mg.length = p.t.toNat / 2 := by rw [h.mgl (r := q) (by rw [hC]; simp)]; exact chain_len h.chain (j := 1) (by rw [hC]; rfl)
    have h1 : 0 < (mB 1 C).length := by rw [hC]; simp [mB]; omega
    refine ⟨?_, h1⟩
    have hkl : r.mg.length < (mB 0 (r :: C)).length := by omega
    have hg : (mB 0 (r :: C)).getD r.mg.length Em0 = (mB 0 (r :: C))[r.mg.length] := by simp [hkl]
    have e : (mB 0 (r :: C))[r.mg.length] = (mB 1 C)[0] := by
      simp only [mB]
      rw [List.getElem_append_right (by simp)]
      simp
    rw [hg, e]
    subst hC
    have := mB_cons_get0 (n := 1) (r := q) (B := D) (k := 0) (by omega) h1
    simpa using this
  have hord : ordM ((mB 0 (r :: C)).set 0 e') = (List.range ((mB 0 (r :: C)).length - 1)).map (· + 1) ++ [0] := by
    refine OrdM.eq (ordM_ok _) ⟨?_, ?_⟩
    · rw [List.length_set]
      conv => rhs; rw [show (mB 0 (r :: C)).length = (mB 0 (r :: C)).length - 1 + 1 by omega, List.range_succ_eq_map]
      exact List.perm_append_comm
    · rw [List.pairwise_append]
      refine ⟨?_, by simp, fun a ha b hb => ?_⟩
      · rw [List.pairwise_map, List.pairwise_iff_getElem]
        intro a b ha hb hab
        simp at ha hb
        have := List.pairwise_iff_getElem.1 hs (a + 1) (b + 1) (by omega) (by omega) (by omega)
        rw [List.getElem_range, List.getElem_range, set_getD (by omega), set_getD (by omega)]
        have g1 : (mB 0 (r :: C)).getD (a + 1) Em0 = (mB 0 (r :: C))[a + 1] := by simp [show a + 1 < (mB 0 (r :: C)).length by omega]
        have g2 : (mB 0 (r :: C)).getD (b + 1) Em0 = (mB 0 (r :: C))[b + 1] := by simp [show b + 1 < (mB 0 (r :: C)).length by omega]
        rw [g1, g2]
        omega
      · obtain ⟨x, hx, rfl⟩ := List.mem_map.1 ha
        have := List.mem_range.1 hx
        rw [List.mem_singleton.1 hb, set_getD_self hi, set_getD (by omega)]
        have hf := (hget (x + 1) (by omega)).1
        unfold badM at hf
        left; omega
  have hnd : ∀ n : Nat, ((List.range n).map (· + 1)).Nodup := fun n => by
    rw [List.Nodup, List.pairwise_map]
    exact (List.nodup_range (n := n)).imp fun h h2 => h (by omega)
  refine ⟨fun h1 => ?_, fun h1 => ?_⟩
  · have hC : C = [] := by simpa using h1
    subst hC
    have hL' : (mB 0 [r]).length = r.mg.length := by simp [mB]
    rw [chkR_eq h.pl, hord, chk_pass _ [0] [] ?_ ?_]
    · unfold chkP
      rw [set_getD_self hi, if_pos (.inr (.inl hr))]
      rfl
    · intro k hk
      obtain ⟨x, hx, rfl⟩ := List.mem_map.1 hk
      have hx := List.mem_range.1 hx
      rw [set_getD (by omega)]
      exact hW.fine (hget _ (by omega)) (by rw [hz _ (by omega)]; omega)
    · rw [List.nil_append]
      exact keys_sub (fun r hr => (h.okr hr).nd) (hnd _) fun k hk => by
        obtain ⟨x, hx, rfl⟩ := List.mem_map.1 hk
        have hx := List.mem_range.1 hx
        exact ⟨by omega, set_getD (by omega)⟩
  · obtain ⟨q, D, hC⟩ : ∃ q D, C = q :: D := by
      cases C with
      | nil => simp at h1
      | cons q D => exact ⟨q, D, rfl⟩
    obtain ⟨o1, o2⟩ := hone q D hC
    refine ⟨r.mg.length, ?_⟩
    have hsp : (List.range ((mB 0 (r :: C)).length - 1)).map (· + 1) = (List.range (r.mg.length - 1)).map (· + 1) ++ r.mg.length :: (List.range ((mB 1 C).length - 1)).map fun x => r.mg.length - 1 + (x + 1) + 1 := by
      rw [show (mB 0 (r :: C)).length - 1 = (r.mg.length - 1) + (((mB 1 C).length - 1) + 1) by omega, List.range_add, List.map_append, List.range_succ_eq_map]
      simp only [List.map_cons, List.map_map, Function.comp_def]
      congr 2
      omega
    rw [chkR_eq h.pl, hord, hsp, List.append_assoc, List.cons_append, chk_pass _ _ [] ?_ ?_]
    · unfold chkP
      rw [set_getD (by omega)]
      have hf := hget r.mg.length (by omega)
      rw [if_neg hf.1, if_pos (by rw [hW.len, o1]; omega)]
    · intro k hk
      obtain ⟨x, hx, rfl⟩ := List.mem_map.1 hk
      have hx := List.mem_range.1 hx
      rw [set_getD (by omega)]
      exact hW.fine (hget _ (by omega)) (by rw [hz _ (by omega)]; omega)
    · rw [List.nil_append]
      exact keys_sub (fun r hr => (h.okr hr).nd) (hnd _) fun k hk => by
        obtain ⟨x, hx, rfl⟩ := List.mem_map.1 hk
        have hx := List.mem_range.1 hx
        exact ⟨by omega, set_getD (by omega)⟩
/-- The last match comes twice. -/
theorem FullB.twice {p : Pl} {B : List Er} (h : FullB p B) (he : EndB p B) (hi : 0 < (mB 0 B).length) : chkR p (mB 0 B ++ [(mB 0 B)[(mB 0 B).length - 1]'(by omega)]) = (((mB 0 B).length : Int), 391) := by
  have hP := h.part he
  have hmem : (mB 0 B)[(mB 0 B).length - 1]'(by omega) ∈ mB 0 B := List.getElem_mem _
  have hs := mB_sorted 0 B
  have hlast : ∀ m ∈ mB 0 B, m.r ≤ ((mB 0 B)[(mB 0 B).length - 1]'(by omega)).r := fun m hm => by
    obtain ⟨k, hk, rfl⟩ := List.mem_iff_getElem.1 hm
    by_cases hkl : k = (mB 0 B).length - 1
    · subst hkl; omega
    · exact List.pairwise_iff_getElem.1 hs k _ hk (by omega) (by omega)
  obtain ⟨e, hee⟩ : ∃ e, (mB 0 B)[(mB 0 B).length - 1]'(by omega) = e := ⟨_, rfl⟩
  rw [hee] at hmem hlast ⊢
  have hrc : rchd p (mB 0 B ++ [e]) = B := by
    refine reach_chain B p.r.toNat 0 [] h.chain (fun j r hr => ?_) hP.over h.len (by simpa using hP.fin)
    have h0 := mgs_mB (n := 0) hr (h.okr (List.mem_of_getElem? hr))
    unfold mgs at h0 ⊢
    rw [List.foldl_append, h0, List.foldl_cons, List.foldl_nil]
    by_cases hj : e.r = ((0 + j : Nat) : Int)
    · obtain ⟨j', r', q1, q2, q3⟩ := mB_mem hmem
      have : j' = j := by omega
      subst this
      rw [hr] at q1
      rw [← Option.some.inj q1] at q3
      unfold mgStep
      rw [if_neg]
      rintro ⟨hc, _⟩
      exact aget_none.1 hc (List.mem_map_of_mem (f := Prod.fst) q3)
    · exact mgStep_skip hj
  have hsl : (mB 0 B ++ [e]).Pairwise fun a b => a.r ≤ b.r := by
    rw [List.pairwise_append]
    exact ⟨hs, by simp, fun a ha b hb => by rw [List.mem_singleton.1 hb]; exact hlast a ha⟩
  have hgd : ∀ k : Nat, k < (mB 0 B).length → (mB 0 B ++ [e]).getD k Em0 = (mB 0 B).getD k Em0 := fun k hk => by
    rw [List.getD_eq_getElem?_getD, List.getD_eq_getElem?_getD, List.getElem?_append_left hk]
  rw [chkR_eq h.pl, hrc, ordM_range hsl, List.length_append, List.length_singleton, List.range_succ, chk_pass _ _ [] ?_ ?_]
  · unfold chkP
    have hg : (mB 0 B ++ [e]).getD (mB 0 B).length Em0 = e := by simp
    obtain ⟨f1, f2, f3⟩ := hP.fine hmem
    rw [hg, if_neg f1, if_neg (by omega), if_neg (not_not_intro f3), if_pos]
    rw [List.nil_append]
    obtain ⟨k, hk, hk2⟩ := List.mem_iff_getElem.1 hmem
    refine List.mem_map.2 ⟨k, List.mem_range.2 hk, ?_⟩
    rw [hgd k hk]
    have : (mB 0 B).getD k Em0 = (mB 0 B)[k] := by simp [hk]
    rw [this, hk2]
    rfl
  · intro k hk
    have hk := List.mem_range.1 hk
    rw [hgd k hk]
    have : (mB 0 B).getD k Em0 = (mB 0 B)[k] := by simp [hk]
    rw [this]
    exact hP.fine (List.getElem_mem hk)
  · rw [List.nil_append]
    exact keys_sub (fun r hr => (h.okr hr).nd) List.nodup_range fun k hk => ⟨List.mem_range.1 hk, hgd k (List.mem_range.1 hk)⟩
theorem FullB.last9 {p : Pl} {B : List Er} (h : FullB p B) (hB : B ≠ []) (hl : 0 < (mB 0 B).length) : ((mB 0 B)[(mB 0 B).length - 1]'(by omega)).r = (B.length : Int) - 1 := by
  obtain ⟨C, r, rfl⟩ : ∃ C r, B = C ++ [r] := ⟨B.dropLast, B.getLast hB, (List.dropLast_concat_getLast hB).symm⟩
  have hg : (C ++ [r])[C.length]? = some r := by simp
  have h1 := chain_len h.chain hg
  have h2 := h.mgl (r := r) (by simp)
  have h3 := (plB_t h.pl)
  have e : mB 0 (C ++ [r]) = mB 0 C ++ rowM C.length r.mg := by rw [mB_append]; simp [mB]
  have hr : 0 < (rowM C.length r.mg).length := by rw [rowM_length, h2, h1]; omega
  have key : ∀ (L : List Em) (hL : 0 < L.length), L = mB 0 C ++ rowM C.length r.mg → (L[L.length - 1]'(by omega)).r = (C.length : Int) := by
    rintro L hL rfl
    have hi : (mB 0 C ++ rowM C.length r.mg).length - 1 = (mB 0 C).length + ((rowM C.length r.mg).length - 1) := by rw [List.length_append]; omega
    have : (mB 0 C ++ rowM C.length r.mg)[(mB 0 C ++ rowM C.length r.mg).length - 1] ∈ rowM C.length r.mg := by
      rw [List.getElem_append_right (by omega)]
      exact List.getElem_mem _
    exact (rowM_r this).1
  rw [key _ hl e]
  simp
end Go.Idl
namespace Go.Idl
set_option linter.all false
open Go.Proofs
set_option maxHeartbeats 16000000
set_option maxRecDepth 40000

theorem cloneEms_fun (l : List Em) (hl : l.length ≤ 2 ^ 32) : FN 24 [.fz 4 (ems l)] (fun v => v = .fz 4 (ems l)) := by
  refine IFun.of_bodyZ false 3 [4] Tryd.func24 rfl Tryd.call24 rfl fun R hR => ?_
  simp [go_sem]
  refine ⟨⟨⟨by omega, ems_one⟩, hR _ _ _ rfl (by simp [go_sem])⟩, fun e => hR _ _ _ rfl (by simp [go_sem, e])⟩
end Go.Idl
