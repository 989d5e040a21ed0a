import Derived.Test.YtamffdgopknkfaaGreatDoorC39zPartD
set_option linter.all false
set_option maxHeartbeats 8000000
set_option maxRecDepth 40000
namespace Go.Idl
open Go.Proofs
theorem shl32 {i : Nat} (h : i < 32) : IntKind.u32.wrap ((2 : Int) ^ i) = ((2 ^ i : Nat) : Int) := by
 have : 2 ^ i < 2 ^ 32 := Nat.pow_lt_pow_right (by decide) h
 rw [show (2 : Int) ^ i = ((2 ^ i : Nat) : Int) by simp]
 exact u32_of this
theorem min32 {i : Nat} (h : i ≤ 16) : min i 32 = i := by omega
theorem all_fun (teams : List Int) (rest : List IV) (hn : teams.length ≤ 16) : FN 112 [.fptr 17 [.fz 1 (ints teams) :: rest] 0 0] (fun v => v = .int .u32 ((2 ^ teams.length - 1 : Nat) : Int)) := by
 refine IFun.of_bodyZ false 3 [] Tryz.func112 rfl Tryz.call112 rfl fun R hR => ?_
 have e1 := shl32 (i := teams.length) (by omega)
 have hp : 2 ^ teams.length ≤ 2 ^ 16 := Nat.pow_le_pow_right (by decide) hn
 have hp0 : 0 < 2 ^ teams.length := Nat.pow_pos (by decide)
 obtain ⟨A, hA⟩ : ∃ A, 2 ^ teams.length = A := ⟨_, rfl⟩
 rw [hA] at e1 hp hp0
 have e2 : IntKind.u32.wrap ((A : Int) - 1) = ((A - 1 : Nat) : Int) := u32_pred (by omega) (by omega)
 obtain ⟨B, hB⟩ : ∃ B, A - 1 = B := ⟨_, rfl⟩
 rw [hB] at e2
 simp [go_sem, min32 hn, e1, e2]
 exact hR _ _ _ rfl (by simp [go_sem, hA, hB])
def opC (g : Nat → Nat) : List IV := arr 16 fun k => .int .u32 (g k : Int)
def tbR (teams : List Int) (g : Nat → Nat) : List IV := .fz 1 (ints teams) :: opC g
theorem opC_rw {g : Nat → Nat} : opC g = arr 16 fun k => .int .u32 (g k : Int) := rfl
theorem tbR_cl {teams : List Int} {g : Nat → Nat} : ∀ c ∈ tbR teams g, Cl c := by
 intro c hc
 rcases List.mem_cons.1 hc with rfl | hc
 ·simp [go_sem]
 ·exact scal_cl (arr_sc (fun _ => rfl) c hc)
@[go_sem] theorem tbR_clT {teams : List Int} {g : Nat → Nat} : (∀ c ∈ tbR teams g, Cl c) = True := eq_true tbR_cl
theorem tbR_one {teams : List Int} {g : Nat → Nat} : ∀ c ∈ tbR teams g, (∃ rs, ScR rs ∧ c = .fz 1 rs) ∨ scal c = true := by
 intro c hc
 rcases List.mem_cons.1 hc with rfl | hc
 ·exact .inl ⟨_, by simp [go_sem], rfl⟩
 ·exact .inr (arr_sc (fun _ => rfl) c hc)
@[go_sem] theorem tbR_okR {d : Nat} {h : Heap} {teams : List Int} {g : Nat → Nat} : okR true d h [tbR teams g] = True := eq_true (by
 simp only [okR]
 intro row hr c hc; simp only [List.mem_singleton] at hr; subst hr
 rcases tbR_one c hc with ⟨rs, hs, rfl⟩ | hs
 ·rw [frzOK_fz]; exact ⟨rfl, hs.cl⟩
 ·exact ok_sc hs)
@[go_sem] theorem tbR_frzR {d : Nat} {h : Heap} {teams : List Int} {g : Nat → Nat} : frzR d h [tbR teams g] = [tbR teams g] := by
 have : (tbR teams g).map (frzV d h) = tbR teams g := by
  conv => rhs; rw [← List.map_id (tbR teams g)]
  apply List.map_congr_left
  intro c hc
  rcases tbR_one c hc with ⟨rs, hs, rfl⟩ | hs
  ·rw [frzV_fz]; rfl
  ·rw [frz_sc hs]; rfl
 simp [frzR, this]
@[go_sem] theorem tbR_okc {d : Nat} {h : Heap} {teams : List Int} {g : Nat → Nat} : (∀ c ∈ tbR teams g, frzOK true d h c) = True := eq_true (by
 intro c hc
 rcases tbR_one c hc with ⟨rs, h1, rfl⟩ | h1
 ·rw [frzOK_fz]; exact ⟨rfl, h1.cl⟩
 ·exact ok_sc h1)
@[go_sem] theorem tbR_map {d : Nat} {h : Heap} {teams : List Int} {g : Nat → Nat} : List.map (frzV d h) (tbR teams g) = tbR teams g := by
 conv => rhs; rw [← List.map_id (tbR teams g)]
 apply List.map_congr_left
 intro c hc
 rcases tbR_one c hc with ⟨rs, h1, rfl⟩ | h1
 ·rw [frzV_fz]; rfl
 ·rw [frz_sc h1]; rfl
@[go_sem] theorem tbR_bl {n : Nat} {teams : List Int} {g : Nat → Nat} : (∀ c ∈ tbR teams g, Bl n c) = True := eq_true fun c hc => (tbR_cl c hc).bl
theorem tbR_at {teams : List Int} {g : Nat → Nat} {i : Nat} {d : IV} (h : i < 16) : (tbR teams g)[1 + i]?.getD d = .int .u32 (g i : Int) := by
 rw [Nat.add_comm]
 simp only [tbR, List.getElem?_cons_succ]
 exact arr_at h
theorem tbR_get {teams : List Int} {g : Nat → Nat} {i : Nat} (h : i < 16) (h' : 1 + i < (tbR teams g).length) : (tbR teams g)[1 + i] = .int .u32 (g i : Int) := by
 have := tbR_at (teams := teams) (g := g) (d := .tup []) h
 rw [List.getElem?_eq_getElem h'] at this
 exact this
theorem tbR_put {teams : List Int} {g : Nat → Nat} {i x : Nat} (h : i < 16) : List.take (1 + i) (tbR teams g) ++ .int .u32 (x : Int) :: List.drop (1 + i + 1) (tbR teams g) = tbR teams fun k => if k = i then x else g k := by
 have e : 1 + i = i + 1 := by omega
 rw [e]
 simp only [tbR, List.take_succ_cons, List.drop_succ_cons, List.cons_append]
 congr 1
 rw [opC_rw, arr_put h]
 simp only [opC]
 congr 1; funext k
 simp only [upF]
 split <;> rfl
def OpenOK (teams : List Int) (met : List (Int × Int)) (g : Nat → Nat) : Prop :=
 ∀ i, i < 16 → g i < 2 ^ 32 ∧ ∀ k, i < teams.length → Nat.testBit (g i) k = (decide (k < teams.length) && !(decide (k = i)) && !(metB met (teams.getD i 0) (teams.getD k 0)))
theorem metB_snoc (met : List (Int × Int)) (A B a b : Int) : metB (met ++ [(A, B)]) a b = (metB met a b || (decide ((A, B) = (a, b)) || decide ((A, B) = (b, a)))) := by simp [metB]
theorem ix_lt {l : List Int} {x : Int} {i : Nat} (h : ix l x = some i) : ∃ hi : i < l.length, l[i] = x := by
 obtain ⟨h1, _⟩ := ix_some h
 exact List.getElem?_eq_some_iff.1 h1
theorem nodup_eq {l : List Int} (h : l.Nodup) {i j : Nat} (hi : i < l.length) (hj : j < l.length) (e : l[i] = l[j]) : i = j := by
 have hp := List.pairwise_iff_getElem.1 h
 rcases Nat.lt_trichotomy i j with h1 | h1 | h1
 ·exact absurd e (hp i j hi hj h1)
 ·exact h1
 ·exact absurd e.symm (hp j i hj hi h1)
theorem open_zero (teams : List Int) (hn : teams.length ≤ 16) : OpenOK teams [] fun k => if k < teams.length then anb (2 ^ teams.length - 1) (2 ^ k) else 0 := by
 intro i hi
 have hp : 2 ^ teams.length ≤ 2 ^ 16 := Nat.pow_le_pow_right (by decide) hn
 refine ⟨?_, fun k hk => ?_⟩
 ·simp only; split
  ·exact anb_lt _ _
  ·decide
 ·simp only [if_pos hk]
  rw [anb_bit _ (by omega), Nat.testBit_two_pow_sub_one, Nat.testBit_two_pow]
  simp only [metB, List.any_nil, Bool.not_false, Bool.and_true]
  congr 2
  exact decide_eq_decide.2 eq_comm
theorem open_skip {teams : List Int} {met : List (Int × Int)} {g : Nat → Nat} {A B : Int} (h : OpenOK teams met g) (hAB : A ∉ teams ∨ B ∉ teams) : OpenOK teams (met ++ [(A, B)]) g := by
 intro i hi
 refine ⟨(h i hi).1, fun k hk => ?_⟩
 rw [(h i hi).2 k hk, metB_snoc]
 by_cases hk2 : k < teams.length
 ·have e1 : teams.getD i 0 = teams[i] := by simp [hk]
  have e2 : teams.getD k 0 = teams[k] := by simp [hk2]
  have m1 : teams[i] ∈ teams := List.getElem_mem hk
  have m2 : teams[k] ∈ teams := List.getElem_mem hk2
  rw [e1, e2]
  have n1 : ¬ (A, B) = (teams[i], teams[k]) := by
   rintro e; cases e; rcases hAB with h | h
   ·exact h m1
   ·exact h m2
  have n2 : ¬ (A, B) = (teams[k], teams[i]) := by
   rintro e; cases e; rcases hAB with h | h
   ·exact h m2
   ·exact h m1
  simp [n1, n2]
 ·simp [hk2]
theorem open_step {teams : List Int} {met : List (Int × Int)} {g : Nat → Nat} (hnd : teams.Nodup) (hn : teams.length ≤ 16) {i j : Nat} (hi : i < teams.length) (hj : j < teams.length) (hij : teams[i] ≠ teams[j]) (h : OpenOK teams met g) :
  OpenOK teams (met ++ [(teams[i], teams[j])]) fun k => if k = j then anb ((fun k => if k = i then anb (g i) (2 ^ j) else g k) j) (2 ^ i) else (fun k => if k = i then anb (g i) (2 ^ j) else g k) k := by
 have hne : ¬ j = i := fun e => hij (by subst e; rfl)
 intro x hx
 have hx' := (h x hx).1
 refine ⟨?_, fun k hk => ?_⟩
 ·simp only
  split
  ·exact anb_lt _ _
  ·split
   ·exact anb_lt _ _
   ·exact hx'
 ·have hb := (h x hx).2 k hk
  have e1 : teams.getD x 0 = teams[x] := by simp [hk]
  have L : Nat.testBit (if x = j then anb (g j) (2 ^ i) else if x = i then anb (g i) (2 ^ j) else g x) k = (Nat.testBit (g x) k && !(decide (x = i ∧ k = j) || decide (x = j ∧ k = i))) := by
   have hgi := (h i (by omega)).1
   have hgj := (h j (by omega)).1
   by_cases hxj : x = j
   ·have hxi : ¬ x = i := fun e => hne (by rw [← hxj, e])
    rw [if_pos hxj, anb_bit _ hgj, Nat.testBit_two_pow, hxj]
    have hne' : ¬ j = i := hne
    by_cases hki : i = k
    ·simp [hki, hne']
    ·have hki2 : ¬ k = i := fun e => hki e.symm
     simp [hki, hki2, hne']
   ·by_cases hxi : x = i
    ·rw [if_neg hxj, if_pos hxi, anb_bit _ hgi, Nat.testBit_two_pow, hxi]
     have hne' : ¬ i = j := fun e => hne e.symm
     by_cases hkj : j = k
     ·simp [hkj]
     ·have hkj2 : ¬ k = j := fun e => hkj e.symm
      simp [hkj, hkj2, hne']
    ·rw [if_neg hxj, if_neg hxi]
     simp [hxi, hxj]
  simp only [if_neg hne]
  rw [L, hb, metB_snoc, e1]
  by_cases hk2 : k < teams.length
  ·have e2 : teams.getD k 0 = teams[k] := by simp [hk2]
   have q : ∀ (a b : Nat) (ha : a < teams.length) (hb : b < teams.length), teams[a] = teams[b] ↔ a = b := fun a b ha hb => ⟨nodup_eq hnd ha hb, fun e => by subst e; rfl⟩
   have q1 : ((teams[i], teams[j]) = (teams[x], teams[k])) ↔ (x = i ∧ k = j) := by
    rw [Prod.mk.injEq, q i x hi hk, q j k hj hk2]; omega
   have q2 : ((teams[i], teams[j]) = (teams[k], teams[x])) ↔ (x = j ∧ k = i) := by
    rw [Prod.mk.injEq, q i k hi hk2, q j x hj hk]; omega
   have d1 : decide ((teams[i], teams[j]) = (teams[x], teams[k])) = decide (x = i ∧ k = j) := decide_eq_decide.2 q1
   have d2 : decide ((teams[i], teams[j]) = (teams[k], teams[x])) = decide (x = j ∧ k = i) := decide_eq_decide.2 q2
   rw [e2, d1, d2]; simp only [Bool.not_or, Bool.and_assoc]
  ·simp [hk2]
def SetV (teams : List Int) (met : List (Int × Int)) (v : IV) : Prop :=
 (rightP teams met = false ∧ v = .tup [.nilp, .int .i64 2]) ∨ (rightP teams met = true ∧ 16 < teams.length ∧ v = .tup [.nilp, .int .i64 5]) ∨
 (rightP teams met = true ∧ teams.length ≤ 16 ∧ ∃ g, OpenOK teams met g ∧ v = .tup [.fptr 17 [tbR teams g] 0 0, .int .i64 0])
theorem set_fun (teams : List Int) (met : List (Int × Int)) (hl : teams.length ≤ 2 ^ 32) (hm : met.length ≤ 2 ^ 32) : ON 109 [.fz 1 (ints teams), .fz 2 (prs met)] (SetV teams met) := by
 refine IFun.of_bodyZ false 12 [15, 18, 23, 24, 25, 38, 39, 40, 41, 57] Tryz.func109 rfl Tryz.call109 rfl fun R hR => ?_
 simp [go_sem]
 refine (Right_fun teams met hl hm).callF (by simp [go_sem]) ?_
 rintro _ rfl
 cases hr : rightP teams met with
 | false =>
  simp [go_sem]
  exact hR _ _ (.tup [.nilp, .int .i64 2]) (.inl ⟨hr, rfl⟩) (by simp [go_sem])
 | true =>
  by_cases hn : 16 < teams.length
  ·have hnI : (16 : Int) < teams.length := by omega
   simp [go_sem, hnI]
   exact hR _ _ (.tup [.nilp, .int .i64 5]) (.inr (.inl ⟨hr, hn, rfl⟩)) (by simp [go_sem])
  ·have hn' : teams.length ≤ 16 := by omega
   have hnI : ¬ (16 : Int) < teams.length := by omega
   simp [go_sem, hnI]
   refine IWp.loopT (α := Nat) (fun i => (⟨false, 84, 12, [15, 18, 23, 24, 25, 38, 39, 40, 41, 57], glT, [(0, .fz 1 (ints teams)), (1, .fz 2 (prs met)), (6, .ptr 0 1 0 0), (23, .int .i64 (teams.length : Int)), (24, .int .i64 (i : Int))], []⟩, [.rows 17 [tbR teams fun k => if k < i then anb (2 ^ teams.length - 1) (2 ^ k) else 0]]))
    (fun i => i ≤ teams.length) (fun i => teams.length - i) 0 (by omega) (by simp [go_sem]; rfl) ?_
   intro i hi
   by_cases h : i < teams.length
   ·have w1 : IntKind.i64.wrap ((i : Int) + 1) = i + 1 := wrap64 (by omega) (by omega)
    have hI : (i : Int) < teams.length := by omega
    refine yC_cut fun k hk => ?_
    simp [go_sem, hI]
    refine hk _ _ ?_
    clear hk k
    refine yC_cut fun k hk => ?_
    simp [go_sem, h]
    refine hk _ _ ?_
    clear hk k
    refine yC_cut fun k0 hk0 => ?_
    rw [yC_block]
    refine yC_cut fun k hk => ?_
    simp [go_sem]
    refine hk _ _ ?_
    clear hk k
    simp [go_sem]
    refine Drawn.intro (fun k => if k = 3 then .int .u32 ((2 ^ teams.length - 1 : Nat) : Int) else .tup []) ?_
    simp [go_sem]
    have hi16 : i < 16 := by omega
    have e1 := shl32 (i := i) (by omega)
    have e2 : bitsOf .andNot .u32 ((2 ^ teams.length - 1 : Nat) : Int) (IntKind.u32.wrap (2 ^ min i 32)) = ((anb (2 ^ teams.length - 1) (2 ^ i) : Nat) : Int) := by
     rw [min32 (by omega), e1, u32_andNot]
    rw [e2, tbR_put hi16]
    refine ⟨.inl (all_fun teams _ hn'), by omega, by omega, by decide +kernel, hk0 _ _ ?_⟩
    clear hk0 k0
    simp [go_sem, w1]
    refine ⟨i + 1, ⟨by omega, ?_⟩, by omega, by omega⟩
    congr 1; funext k
    by_cases e : k = i
    ·subst e; simp
    ·have : k < i + 1 ↔ k < i := by omega
     simp [e, this]
   ·have hI : ¬ (i : Int) < teams.length := by omega
    simp [go_sem, h]
    have hin : i = teams.length := by omega
    subst hin
    have hnd : teams.Nodup := by
     have := hr
     simp only [rightP, Bool.and_eq_true, decide_eq_true_eq] at this
     exact this.1.2
    refine IWp.loopT (α := Nat × (Nat → Nat)) (fun x => (⟨false, 84, 12, [15, 18, 23, 24, 25, 38, 39, 40, 41, 57], glT, [(0, .fz 1 (ints teams)), (6, .ptr 0 1 0 0), (38, .fz 2 (prs met)), (39, .int .i64 (met.length : Int)), (40, .int .i64 (x.1 : Int))], []⟩, [.rows 17 [tbR teams x.2]]))
     (fun x => x.1 ≤ met.length ∧ OpenOK teams (met.take x.1) x.2) (fun x => met.length - x.1) (0, fun k => if k < teams.length then anb (2 ^ teams.length - 1) (2 ^ k) else 0) ⟨by simp, by simpa using open_zero teams hn'⟩ (by simp [go_sem]) ?_
    rintro ⟨j, g⟩ ⟨hj, hop⟩
    simp only at hj hop
    by_cases h2 : j < met.length
    ·have w1 : IntKind.i64.wrap ((j : Int) + 1) = j + 1 := wrap64 (by omega) (by omega)
     obtain ⟨p, hp⟩ : ∃ p, met[j] = p := ⟨_, rfl⟩
     obtain ⟨A, B⟩ := p
     have hAB : A ≠ B := by
      have := hr
      simp only [rightP, Bool.and_eq_true, List.all_eq_true] at this
      have h3 := this.2 (A, B) (hp ▸ List.getElem_mem h2)
      simpa using h3.2
     have hsn : met.take (j + 1) = met.take j ++ [(A, B)] := by rw [List.take_succ_eq_append_getElem h2, hp]
     simp [go_sem, h2, hp]
     refine Drawn.intro (fun k => if k = 3 then .int .i64 (plc teams A) else if k = 7 then .int .i64 (plc teams B) else .tup []) ?_
     have c1 := place_fun teams A hl
     have c2 := place_fun teams B hl
     have skip : (A ∉ teams ∨ B ∉ teams) → OpenOK teams (met.take (j + 1)) g := fun hs => by rw [hsn]; exact open_skip hop hs
     cases hA : ix teams A with
     | none =>
      have pA : plc teams A = -1 := by rw [plc, hA]
      rw [pA] at c1 ⊢
      simp [go_sem, c1, c2, w1]
      exact ⟨by decide +kernel, j + 1, g, ⟨by omega, rfl⟩, ⟨by omega, skip (.inl (ix_none.1 hA))⟩, by omega⟩
     | some a =>
      obtain ⟨ha, hAe⟩ := ix_lt hA
      have pA : plc teams A = (a : Int) := by rw [plc, hA]
      rw [pA] at c1 ⊢
      cases hB : ix teams B with
      | none =>
       have pB : plc teams B = -1 := by rw [plc, hB]
       rw [pB] at c2 ⊢
       simp [go_sem, c1, c2, w1]
       exact ⟨by decide +kernel, j + 1, g, ⟨by omega, rfl⟩, ⟨by omega, skip (.inr (ix_none.1 hB))⟩, by omega⟩
      | some b =>
       obtain ⟨hb, hBe⟩ := ix_lt hB
       have pB : plc teams B = (b : Int) := by rw [plc, hB]
       rw [pB] at c2 ⊢
       have ha16 : a < 16 := by omega
       have hb16 : b < 16 := by omega
       have s1 := shl32 (i := a) (by omega)
       have s2 := shl32 (i := b) (by omega)
       have st := open_step hnd hn' ha hb (by rw [hAe, hBe]; exact hAB) hop
       rw [hAe, hBe, ← hsn] at st
       have o1 : ∀ x : Nat, bitsOf .andNot .u32 (x : Int) (IntKind.u32.wrap (2 ^ min b 32)) = ((anb x (2 ^ b) : Nat) : Int) := fun x => by rw [min32 (by omega), s2, u32_andNot]
       have o2 : ∀ x : Nat, bitsOf .andNot .u32 (x : Int) (IntKind.u32.wrap (2 ^ min a 32)) = ((anb x (2 ^ a) : Nat) : Int) := fun x => by rw [min32 (by omega), s1, u32_andNot]
       simp [go_sem, c1, c2, w1, tbR_at ha16, tbR_get ha16, o1, o2, tbR_put ha16, tbR_at hb16, tbR_get hb16, tbR_put hb16]
       exact ⟨by decide +kernel, by omega, by omega, by omega, by omega, by decide +kernel, by omega, by omega, by omega, by omega, by decide +kernel, j + 1, _, ⟨by omega, rfl⟩, ⟨by omega, st⟩, by omega⟩
    ·simp [go_sem, h2]
     have e2 : met.take j = met := List.take_of_length_le (by omega)
     rw [e2] at hop
     exact hR _ _ (.tup [.fptr 17 [tbR teams g] 0 0, .int .i64 0]) (.inr (.inr ⟨hr, hn', g, hop, rfl⟩)) (by simp [go_sem])
end Go.Idl
