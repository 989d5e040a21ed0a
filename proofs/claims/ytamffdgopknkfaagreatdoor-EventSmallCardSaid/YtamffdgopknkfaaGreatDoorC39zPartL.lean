import Derived.Test.YtamffdgopknkfaaGreatDoorIdlPartK
import Derived.Test.YtamffdgopknkfaaGreatDoorC39zPartK
set_option linter.all false
set_option maxHeartbeats 8000000
set_option maxRecDepth 40000
namespace Go.Idl
open Go.Proofs
def befS (S : List Int) (i : Nat) : Int := if i = 0 then 0 else S.getD (i - 1) 0
theorem scGo_snoc {b : Int} : ∀ {S : List Int} {x : Int}, scGo b (S ++ [x]) = (scGo b S && decide ((if S = [] then b else S.getD (S.length - 1) 0) < x) && decide (x ≤ 1000000))
 | [], x => by simp [scGo]
 | y :: l, x => by
  simp only [List.cons_append, scGo]
  rw [scGo_snoc (b := y) (S := l)]
  cases l with
  | nil => simp [scGo, Bool.and_assoc]
  | cons z l => simp [Bool.and_assoc]
theorem scGo_succ {S : List Int} {i : Nat} (h : i < S.length) : scGo 0 (S.take (i + 1)) = (scGo 0 (S.take i) && decide (befS S i < S[i]) && decide (S[i] ≤ 1000000)) := by
 rw [List.take_succ_eq_append_getElem h, scGo_snoc]
 congr 3
 unfold befS
 by_cases hi : i = 0
 ·subst hi; simp
 ·have hne : S.take i ≠ [] := fun e => by have := congrArg List.length e; rw [List.length_take, Nat.min_eq_left (Nat.le_of_lt h)] at this; simp at this; omega
  rw [if_neg hne, if_neg hi]
  simp only [List.length_take, Nat.min_eq_left (Nat.le_of_lt h), eq_iff_iff]
  rw [show (S.take i).getD (i - 1) 0 = S.getD (i - 1) 0 by
   simp only [List.getD_eq_getElem?_getD, List.getElem?_take, show i - 1 < i by omega, if_true]]
theorem scGo_false {S : List Int} {i : Nat} (h : scGo 0 (S.take i) = false) : scGo 0 S = false := by
 cases hs : scGo 0 S with
 | false => rfl
 | true => rw [scGo_take hs] at h; cases h
theorem vRight_fun (S : List Int) (hl : S.length ≤ 2 ^ 32) : FN 48 [.fz 1 (ints S)] (fun v => v = .bool (scB S)) := by
 refine IFun.of_bodyZ false 6 [13, 14, 15, 16, 17, 26] Tryz.func48 rfl Tryz.call48 rfl fun R hR => ?_
 have fin : ∀ b : Bool, scB S = b → ∀ σ, frzOK false 4 σ (.bool b) ∧ nz 4 (frzV 4 σ (.bool b)) (.bool b) → R (.bool b) σ := fun b hb σ h => hR _ _ _ (by rw [hb]) h
 by_cases h1 : S.length < 1
 ·have : S = [] := List.eq_nil_of_length_eq_zero (by omega)
  subst this
  simp [go_sem]
  exact fin false (by decide) _ (by simp [go_sem])
 by_cases h2 : 50 < S.length
 ·have h2' : (50 : Int) < S.length := by omega
  have h1' : ¬ (S.length : Int) < 1 := by omega
  have h1'' : ¬ S = [] := fun e => by subst e; simp at h1
  simp [go_sem, h1', h2', h1'']
  exact fin false (by unfold scB; simp; omega) _ (by simp [go_sem])
 have h2' : ¬ (50 : Int) < S.length := by omega
 have h1' : ¬ (S.length : Int) < 1 := by omega
 have h1'' : ¬ S = [] := fun e => by subst e; simp at h1
 have hsc : scB S = scGo 0 S := by
  unfold scB
  rw [decide_eq_true (by omega), decide_eq_true (by omega)]; rfl
 simp [go_sem, h1', h2', h1'']
 refine IWp.loopT (α := Nat) (fun i => (⟨false, 29, 6, [13, 14, 15, 16, 17, 26], glT, [(3, .int .i64 (befS S i)), (14, .fz 1 (ints S)), (15, .int .i64 (S.length : Int)), (16, .int .i64 (i : Int))], []⟩, []))
  (fun i => i ≤ S.length ∧ scGo 0 (S.take i) = true) (fun i => S.length - i) 0 ⟨by omega, rfl⟩ (by simp [go_sem, befS]) ?_
 rintro i ⟨hi, hg⟩
 by_cases h : i < S.length
 ·have w1 : IntKind.i64.wrap ((i : Int) + 1) = i + 1 := wrap64 (by omega) (by omega)
  have hs := scGo_succ h
  rw [hg] at hs
  have hb : befS S (i + 1) = S[i] := by unfold befS; rw [if_neg (by omega)]; simp [h]
  generalize befS S i = B at *
  by_cases c1 : S[i] ≤ B
  ·have : scGo 0 (S.take (i + 1)) = false := by rw [hs]; simp; omega
   simp [go_sem, h, c1]
   exact fin false (by rw [hsc]; exact scGo_false this) _ (by simp [go_sem])
  ·by_cases c2 : 1000000 < S[i]
   ·have : scGo 0 (S.take (i + 1)) = false := by rw [hs]; simp; omega
    simp [go_sem, h, c1, c2]
    exact fin false (by rw [hsc]; exact scGo_false this) _ (by simp [go_sem])
   ·simp [go_sem, h, c1, c2, w1]
    refine ⟨i + 1, ⟨by rw [hb], by omega⟩, ⟨by omega, ?_⟩, by omega⟩
    rw [hs]; simp; omega
 ·obtain rfl : i = S.length := by omega
  rw [List.take_length] at hg
  simp [go_sem, h]
  exact fin true (by rw [hsc]; exact hg) _ (by simp [go_sem])
theorem points1_fun (m x : Int) (h : -1000000 ≤ m ∧ m ≤ 1000000) : FN 78 [.int .i64 x, .fptr 1 [[.int .i64 m]] 0 0] (fun v => v = .bool (decide (x ≤ max m (-m)))) := by
 refine IFun.of_bodyZ false 4 [] Tryz.func78 rfl Tryz.call78 rfl fun R hR => ?_
 have w1 : IntKind.i64.wrap (-m) = -m := wrap64 (by omega) (by omega)
 have w2 : (if m < -m then -m else m) = max m (-m) := by omega
 rw [← w2] at hR
 simp [go_sem, w1]
 exact hR _ _ _ rfl (by simp [go_sem])
theorem count_fun (S : List Int) (m : Int) (h : -1000000 ≤ m ∧ m ≤ 1000000) (hl : S.length ≤ 50) : FN 77 [.fz 1 (ints S), .func (.func 78) [] [.fptr 1 [[.int .i64 m]] 0 0]] (fun v => v = .int .i64 (cntS S m : Int)) := by
 refine IFun.of_bodyZ false 8 [8, 9, 10, 11, 16] Tryz.func77 rfl Tryz.call77 rfl fun R hR => ?_
 simp [go_sem]
 refine IWp.loopT (α := Nat) (fun i => (⟨false, 21, 8, [8, 9, 10, 11, 16], glT, [(1, .func (.func 78) [] [.fptr 1 [[.int .i64 m]] 0 0]), (5, .int .i64 (cntS (S.take i) m : Int)), (8, .fz 1 (ints S)), (9, .int .i64 (S.length : Int)), (10, .int .i64 (i : Int))], []⟩, []))
  (fun i => i ≤ S.length) (fun i => S.length - i) 0 (by omega) (by simp [go_sem, cntS]) ?_
 intro i hi
 by_cases hlt : i < S.length
 ·have w1 : IntKind.i64.wrap ((i : Int) + 1) = i + 1 := wrap64 (by omega) (by omega)
  have c1 := points1_fun m S[i] h
  have hc : cntS (S.take (i + 1)) m = cntS (S.take i) m + if S[i] ≤ max m (-m) then 1 else 0 := by
   unfold cntS
   rw [List.take_succ_eq_append_getElem hlt, List.countP_append]
   simp [List.countP_cons]
  have hb := cntS_le (S.take i) m
  simp only [List.length_take] at hb
  generalize cntS (S.take i) m = C at *
  generalize max m (-m) = M at *
  simp [go_sem, hlt]
  refine c1.callF (by simp [go_sem]) ?_
  rintro _ rfl
  by_cases hx : S[i] ≤ M
  ·rw [if_pos hx] at hc
   have w2 : IntKind.i64.wrap ((C : Int) + 1) = ((C + 1 : Nat) : Int) := by rw [wrap64 (by omega) (by omega)]; omega
   simp [go_sem, hx, w1, w2]
   exact ⟨i + 1, ⟨by rw [hc]; simp, by omega⟩, by omega, by omega⟩
  ·rw [if_neg hx] at hc
   simp [go_sem, hx, w1]
   exact ⟨i + 1, ⟨by rw [hc]; simp, by omega⟩, by omega, by omega⟩
 ·obtain rfl : i = S.length := by omega
  simp [go_sem]
  exact hR _ _ _ rfl (by simp [go_sem])
def ptsV (S : List Int) (m : Int) : IV := if scB S = true ∧ mrB m = true then .tup [.int .i64 (ptA S m), .int .i64 (ptB S m), .int .i64 0] else .tup [.int .i64 0, .int .i64 0, .int .i64 2]
theorem mrB_iff {m : Int} : mrB m = true ↔ -1000000 ≤ m ∧ m ≤ 1000000 := by simp [mrB]
theorem Points_fun (S : List Int) (m : Int) (hl : S.length ≤ 2 ^ 32) : FN 57 [.fz 1 (ints S), .int .i64 m] (fun v => v = ptsV S m) := by
 refine IFun.of_bodyW false 9 [19, 26] Tryz.func57 rfl Tryz.call57 rfl fun R hR => ?_
 have cr := vRight_fun S hl
 have w0 : IntKind.i64.wrap (-1000000) = -1000000 := by decide
 unfold ptsV at hR
 refine IWp.seqI ?_
 simp [go_sem]
 refine IWp.seqI ?_
 simp [go_sem]
 refine cr.callF (by simp [go_sem]) ?_
 rintro _ rfl
 cases hs : scB S with
 | false =>
  rw [if_neg (by simp [hs])] at hR
  simp [go_sem]
  exact hR _ _ _ rfl (by simp [go_sem])
 | true =>
 obtain ⟨hl1, hl2⟩ := scB_len hs
 by_cases h1 : m < -1000000
 ·rw [if_neg (by rw [mrB_iff]; omega)] at hR
  simp [go_sem, h1]
  exact hR _ _ _ rfl (by simp [go_sem])
 by_cases h2 : 1000000 < m
 ·rw [if_neg (by rw [mrB_iff]; omega)] at hR
  simp [go_sem, h1, h2]
  exact hR _ _ _ rfl (by simp [go_sem])
 rw [if_pos ⟨hs, mrB_iff.2 (by omega)⟩] at hR
 have cc := count_fun S m (by omega) hl2
 have hc := cntS_le S m
 unfold ptA ptB moreI at hR
 generalize cntS S m = C at *
 simp [go_sem, h1, h2]
 refine IWp.now ?_
 simp [go_sem]
 refine cc.callF (by simp [go_sem]) ?_
 rintro _ rfl
 by_cases h3 : m < 0
 ·have w1 : IntKind.i64.wrap (-(C : Int)) = -(C : Int) := wrap64 (by omega) (by omega)
  have w2 : IntKind.i64.wrap ((S.length : Int) + -(C : Int)) = (S.length : Int) + -(C : Int) := wrap64 (by omega) (by omega)
  have w3 : IntKind.i64.wrap ((S.length : Int) - -(C : Int)) = (S.length : Int) - -(C : Int) := wrap64 (by omega) (by omega)
  have w4 : IntKind.i64.wrap ((S.length : Int) + (C : Int)) = (S.length : Int) - -(C : Int) := by rw [wrap64 (by omega) (by omega)]; omega
  rw [if_pos h3] at hR
  simp [go_sem, h3, w1, w2, w3, w4]
  exact hR _ _ _ rfl (by simp [go_sem])
 ·have w2 : IntKind.i64.wrap ((S.length : Int) + (C : Int)) = (S.length : Int) + (C : Int) := wrap64 (by omega) (by omega)
  have w3 : IntKind.i64.wrap ((S.length : Int) - (C : Int)) = (S.length : Int) - (C : Int) := wrap64 (by omega) (by omega)
  rw [if_neg h3] at hR
  simp [go_sem, h3, w2, w3]
  exact hR _ _ _ rfl (by simp [go_sem])
end Go.Idl
namespace Go.Idl
open Go.Proofs
def idxP (l : List (Int × Int)) (p : Int × Int) : Int := match l.findIdx? (· == p) with | some i => i | none => -1
theorem idxP_neg {l : List (Int × Int)} {p : Int × Int} (h : p ∉ l) : idxP l p = -1 := by
 unfold idxP
 have : l.findIdx? (· == p) = none := List.findIdx?_eq_none_iff.2 fun x hx => by rw [beq_eq_false_iff_ne]; intro e; exact h (e ▸ hx)
 rw [this]
theorem idxP_at {l : List (Int × Int)} {p : Int × Int} {i : Nat} (h : i < l.length) (hi : l[i] = p) (hb : ∀ j (hj : j < l.length), j < i → l[j] ≠ p) : idxP l p = i := by
 unfold idxP
 have : l.findIdx? (· == p) = some i := by
  rw [List.findIdx?_eq_some_iff_getElem]
  exact ⟨h, by simp [hi], fun j hj => by simpa using hb j (by omega) hj⟩
 rw [this]
theorem idxP_pos {l : List (Int × Int)} {p : Int × Int} : 0 ≤ idxP l p ↔ p ∈ l := by
 constructor
 ·intro h
  apply Decidable.byContradiction
  intro hn
  rw [idxP_neg hn] at h; omega
 ·intro h
  unfold idxP
  split
  ·omega
  ·rename_i he
   rw [List.findIdx?_eq_none_iff] at he
   have := he p h
   simp at this
theorem indexPairs_fun (l : List (Int × Int)) (x y : Int) (hl : l.length ≤ 2 ^ 40) : FN 65 [.fz 2 (prs l), .agg [.int .i64 x, .int .i64 y]] (fun v => v = .int .i64 (idxP l (x, y))) := by
 refine IFun.of_bodyZ false 6 [7, 8, 9, 16] Tryz.func65 rfl Tryz.call65 rfl fun R hR => ?_
 simp [go_sem]
 refine IWp.loopT (α := Nat) (fun i => (⟨false, 19, 6, [7, 8, 9, 16], glT, [(0, .fz 2 (prs l)), (3, .ptr 0 1 0 0), (7, .int .i64 l.length), (8, .int .i64 (i : Int))], []⟩, [.rows 2 [[.int .i64 x, .int .i64 y]]]))
  (fun i => i ≤ l.length ∧ ∀ j (hj : j < l.length), j < i → l[j] ≠ (x, y)) (fun i => l.length - i) 0 (by simp) (by simp [go_sem]) ?_
 rintro i ⟨hi, hb⟩
 by_cases h : i < l.length
 ·have w1 : IntKind.i64.wrap ((i : Int) + 1) = i + 1 := wrap64 (by omega) (by omega)
  obtain ⟨q, hq⟩ : ∃ q, l[i] = q := ⟨_, rfl⟩
  obtain ⟨a, b⟩ := q
  by_cases he : x = a ∧ y = b
  ·have hx := idxP_at (p := (x, y)) h (by rw [hq, he.1, he.2]) hb
   obtain ⟨rfl, rfl⟩ := he
   simp [go_sem, h, hq]
   refine ⟨by decide +kernel, ?_⟩
   exact hR _ _ _ rfl (by simp [go_sem, hx])
  ·have he' : x = a → ¬ y = b := fun h1 h2 => he ⟨h1, h2⟩
   have he2 : (x == a && y == b) = false := by rw [← Bool.not_eq_true]; simpa using he'
   simp [go_sem, h, hq, he2, he', w1]
   exact ⟨by decide +kernel, i + 1, by simp, ⟨by omega, fun j hj h2 => by
    by_cases e : j = i
    ·subst e; rw [hq]; exact fun e2 => he ⟨(congrArg Prod.fst e2).symm, (congrArg Prod.snd e2).symm⟩
    ·exact hb j hj (by omega)⟩, by omega⟩
 ·have hx : idxP l (x, y) = -1 := idxP_neg fun hm => by
   obtain ⟨j, hj, e⟩ := List.mem_iff_getElem.1 hm
   exact hb j hj (by omega) e
  simp [go_sem, h]
  exact hR _ _ _ rfl (by simp [go_sem, hx])
theorem containsPairs_fun (l : List (Int × Int)) (x y : Int) (hl : l.length ≤ 2 ^ 40) : FN 43 [.fz 2 (prs l), .agg [.int .i64 x, .int .i64 y]] (fun v => v = .bool (decide ((x, y) ∈ l))) := by
 refine IFun.of_bodyZ false 5 [] Tryz.func43 rfl Tryz.call43 rfl fun R hR => ?_
 simp [go_sem]
 refine (indexPairs_fun l x y hl).callF (by simp [go_sem]) ?_
 rintro _ rfl
 simp [go_sem]
 refine hR _ _ _ rfl ?_
 simp [go_sem, idxP_pos]
theorem marginRight_fun (m : Int) : FN 42 [.int .i64 m] (fun v => v = .bool (mrB m)) := by
 refine IFun.of_bodyZ false 3 [] Tryz.func42 rfl Tryz.call42 rfl fun R hR => ?_
 unfold mrB at hR
 have w0 : IntKind.i64.wrap (-1000000) = -1000000 := by decide
 by_cases h : -1000000 ≤ m
 ·simp [go_sem, h]
  exact hR _ _ _ rfl (by simp [go_sem, h])
 ·simp [go_sem, h]
  exact hR _ _ _ rfl (by simp [go_sem, h])
theorem evRight_fun (p : Pl) (hl : p.s.length ≤ 2 ^ 32) : FN 31 [p.v] (fun v => v = .bool (plB p)) := by
 refine IFun.of_bodyZ false 3 [] Tryz.func31 rfl Tryz.call31 rfl fun R hR => ?_
 have cr := vRight_fun p.s hl
 have w1 : IntKind.i64.wrap (2 * (p.s.length : Int)) = 2 * (p.s.length : Int) := wrap64 (by omega) (by omega)
 obtain ⟨t, r, b, S⟩ := p
 unfold plB at hR
 simp only [Pl.v] at *
 have fin : ∀ σ (B : Bool), B = (decide (2 ≤ t) && decide (t ≤ 16) && decide (1 ≤ r) && decide (r ≤ 15) && scB S && decide (0 ≤ b) && decide (b ≤ 2 * S.length)) → R (.bool B) σ := fun σ B hB => hR _ _ _ rfl (by simp [go_sem, hB])
 clear hR
 by_cases h1 : 2 ≤ t
 case neg => simp [go_sem, h1]; exact fin _ _ (by simp [h1])
 by_cases h2 : t ≤ 16
 case neg => simp [go_sem, h1, h2]; exact fin _ _ (by simp [h2])
 by_cases h3 : 1 ≤ r
 case neg => simp [go_sem, h1, h2, h3]; exact fin _ _ (by simp [h3])
 by_cases h4 : r ≤ 15
 case neg => simp [go_sem, h1, h2, h3, h4]; exact fin _ _ (by simp [h4])
 simp [go_sem, h1, h2, h3, h4]
 refine cr.callF (by simp [go_sem]) ?_
 rintro _ rfl
 cases hs : scB S with
 | false => simp [go_sem]; exact fin _ _ (by simp [hs])
 | true =>
 by_cases h5 : 0 ≤ b
 case neg => simp [go_sem, h5]; exact fin _ _ (by simp [h5])
 simp [go_sem, h5, w1]
 exact fin _ _ (by simp [h1, h2, h3, h4, hs, h5])
theorem over_fun (r : Er) (hd : r.draw.length ≤ 2 ^ 32) : FN 64 [r.v] (fun v => v = .bool r.over) := by
 refine IFun.of_bodyZ false 3 [] Tryz.func64 rfl Tryz.call64 rfl fun R hR => ?_
 obtain ⟨d, y, S⟩ := r
 simp only [Er.v, Er.over] at *
 have hlen : (enP S).length = S.length := by simp [enP, enM]
 by_cases h : S.length = d.length
 ·simp [go_sem, hlen, h]
  exact hR _ _ _ rfl (by simp [go_sem, h])
 ·have e1 : (S.length == d.length) = false := by simpa using h
  have e2 : ((S.length : Int) == (d.length : Int)) = false := by rw [beq_eq_false_iff_ne]; omega
  have h' : ¬ (S.length : Int) = d.length := by omega
  simp [go_sem, hlen, h, h', e2]
  exact hR _ _ _ rfl (by simp [go_sem, e1])
theorem mgs_succ {l : List Em} {n : Int} {d : List (Int × Int)} {i : Nat} (h : i < l.length) : mgs (l.take (i + 1)) n d = mgStep n d (mgs (l.take i) n d) l[i] := by
 unfold mgs
 rw [List.take_succ_eq_append_getElem h, List.foldl_append]; rfl
theorem margins_fun (l : List Em) (n : Int) (d : List (Int × Int)) (hl : l.length ≤ 2 ^ 32) (hd : d.length ≤ 2 ^ 32) : FN 85 [.fz 4 (ems l), .int .i64 n, .fz 2 (prs d)] (fun v => v = .fm (enP (mgs l n d))) := by
 refine IFun.of_bodyZ false 13 [14, 15, 16, 17, 48] Tryz.func85 rfl Tryz.call85 rfl fun R hR => ?_
 simp [go_sem]
 refine IWp.loopT (α := Nat) (fun i => (⟨false, 55, 13, [14, 15, 16, 17, 48], glT, [(1, .int .i64 n), (2, .fz 2 (prs d)), (7, .map 0), (14, .fz 4 (ems l)), (15, .int .i64 l.length), (16, .int .i64 (i : Int))], []⟩, [.map (enP (mgs (l.take i) n d))]))
  (fun i => i ≤ l.length) (fun i => l.length - i) 0 (by omega) (by simp [go_sem, mgs]) ?_
 intro i hi
 by_cases h : i < l.length
 ·have w1 : IntKind.i64.wrap ((i : Int) + 1) = i + 1 := wrap64 (by omega) (by omega)
  have hs := mgs_succ (n := n) (d := d) h
  unfold mgStep at hs
  generalize mgs (l.take i) n d = S at *
  have cm := marginRight_fun l[i].m
  have cc := containsPairs_fun d l[i].a l[i].b (by omega)
  obtain ⟨q, hq⟩ : ∃ q, l[i] = q := ⟨_, rfl⟩
  rw [hq] at hs cm cc
  obtain ⟨r, a, b, m⟩ := q
  simp only at hs cm cc
  cases hg : aget (a, b) S with
  | some v =>
   rw [if_neg (by simp [hg])] at hs
   simp [go_sem, h, hq, mget_p, hg, w1]
   exact ⟨i + 1, ⟨by omega, by rw [hs]⟩, by omega, by omega⟩
  | none =>
   by_cases hr : r = n
   ·subst hr
    simp [go_sem, h, hq, mget_p, hg]
    refine cm.callF (by simp [go_sem]) ?_
    rintro _ rfl
    cases hm : mrB m with
    | false =>
     rw [if_neg (by simp [hm])] at hs
     simp [go_sem, w1]
     exact ⟨i + 1, ⟨by omega, by rw [hs]⟩, by omega, by omega⟩
    | true =>
     simp [go_sem]
     refine cc.callF (by simp [go_sem]) ?_
     rintro _ rfl
     by_cases hin : (a, b) ∈ d
     ·rw [if_pos ⟨by simp [hg], rfl, hm, hin⟩] at hs
      simp [go_sem, hin, mset_p, w1]
      exact ⟨i + 1, ⟨by omega, by rw [hs]⟩, by omega, by omega⟩
     ·rw [if_neg (by simp [hin])] at hs
      simp [go_sem, hin, w1]
      exact ⟨i + 1, ⟨by omega, by rw [hs]⟩, by omega, by omega⟩
   ·rw [if_neg (by simp [hr])] at hs
    simp [go_sem, h, hq, mget_p, hg, hr, w1]
    exact ⟨i + 1, ⟨by omega, by rw [hs]⟩, by omega, by omega⟩
 ·obtain rfl : i = l.length := by omega
  rw [List.take_length]
  simp [go_sem]
  exact hR _ _ _ rfl (by simp [go_sem])
def cmp3 (a b : Int) : Int := if a < b then -1 else if b < a then 1 else 0
theorem isNaN_fun (a : Int) : FN 62 [.int .i64 a] (fun v => v = .bool false) := by
 refine IFun.of_bodyZ false 3 [] Tryz.func62 rfl Tryz.call62 rfl fun R hR => ?_
 simp [go_sem]
 exact hR _ _ _ rfl (by simp [go_sem])
theorem compare_fun (a b : Int) : FN 40 [.int .i64 a, .int .i64 b] (fun v => v = .int .i64 (cmp3 a b)) := by
 refine IFun.of_bodyZ false 7 [11, 12, 13, 16, 19] Tryz.func40 rfl Tryz.call40 rfl fun R hR => ?_
 unfold cmp3 at hR
 simp [go_sem]
 refine (isNaN_fun a).callF (by simp [go_sem]) ?_
 rintro _ rfl
 simp [go_sem]
 refine (isNaN_fun b).callF (by simp [go_sem]) ?_
 rintro _ rfl
 by_cases h1 : a < b
 ·rw [if_pos h1] at hR
  simp [go_sem, h1]
  exact hR _ _ _ rfl (by simp [go_sem])
 ·rw [if_neg h1] at hR
  by_cases h2 : b < a
  ·rw [if_pos h2] at hR
   simp [go_sem, h1, h2]
   exact hR _ _ _ rfl (by simp [go_sem])
  ·rw [if_neg h2] at hR
   simp [go_sem, h1, h2]
   exact hR _ _ _ rfl (by simp [go_sem])
def or3 (a b c : Int) : Int := if a ≠ 0 then a else if b ≠ 0 then b else c
theorem or3_fun (a b c : Int) : FN 60 [.fz 1 [[.int .i64 a], [.int .i64 b], [.int .i64 c]]] (fun v => v = .int .i64 (or3 a b c)) := by
 refine IFun.of_bodyZ false 6 [6, 7, 8, 9, 14] Tryz.func60 rfl Tryz.call60 rfl fun R hR => ?_
 simp [go_sem]
 refine IWp.loopT (α := Nat) (fun i => (⟨false, 18, 6, [6, 7, 8, 9, 14], glT, [(3, .int .i64 0), (6, .fz 1 [[.int .i64 a], [.int .i64 b], [.int .i64 c]]), (7, .int .i64 3), (8, .int .i64 (i : Int))], []⟩, []))
  (fun i => i ≤ 3 ∧ (0 < i → a = 0) ∧ (1 < i → b = 0) ∧ (2 < i → c = 0)) (fun i => 3 - i) 0 (by simp) (by simp [go_sem]) ?_
 rintro i ⟨hi, h0, h1, h2⟩
 rcases (by omega : i = 0 ∨ i = 1 ∨ i = 2 ∨ i = 3) with rfl | rfl | rfl | rfl
 ·by_cases ha : a = 0
  ·simp [go_sem, ha]
   exact ⟨1, by decide, ⟨by omega, fun h => absurd h (by omega), fun h => absurd h (by omega)⟩, by omega⟩
  ·simp [go_sem, ha]
   exact hR _ _ _ rfl (by simp [go_sem, or3, ha])
 ·by_cases hb : b = 0
  ·simp [go_sem, hb]
   exact ⟨2, by decide, ⟨by omega, fun _ => h0 (by omega), fun h => absurd h (by omega)⟩, by omega⟩
  ·simp [go_sem, hb]
   exact hR _ _ _ rfl (by simp [go_sem, or3, hb, h0])
 ·by_cases hc : c = 0
  ·simp [go_sem, hc]
   exact ⟨3, by decide, ⟨by omega, fun _ => h0 (by omega), fun _ => h1 (by omega)⟩, by omega⟩
  ·simp [go_sem, hc]
   exact hR _ _ _ rfl (by simp [go_sem, or3, h0, h1])
 ·simp [go_sem]
  exact hR _ _ _ rfl (by simp [go_sem, or3, h0, h1, h2])
def cmpL (x y : Ln) : Int := or3 (cmp3 y.points x.points) (cmp3 y.margin x.margin) (cmp3 x.team y.team)
theorem cmpL_lt (x y : Ln) : cmpL x y < 0 ↔ lnLt x y := by
 unfold cmpL or3 cmp3 lnLt
 split <;> split <;> (try split) <;> (try split) <;> (try split) <;> (try split) <;> (try split) <;> omega
theorem table1_fun (x y : Ln) : FN 59 [x.v, y.v] (fun v => v = .int .i64 (cmpL x y)) := by
 refine IFun.of_bodyW false 5 [] Tryz.func59 rfl Tryz.call59 rfl fun R hR => ?_
 have c1 := compare_fun y.points x.points
 have c2 := compare_fun y.margin x.margin
 have c3 := compare_fun x.team y.team
 have c4 := or3_fun (cmp3 y.points x.points) (cmp3 y.margin x.margin) (cmp3 x.team y.team)
 unfold cmpL at hR
 obtain ⟨t, pl, pd, pt, mg, yb⟩ := x
 obtain ⟨t', pl', pd', pt', mg', yb'⟩ := y
 simp only [Ln.v] at *
 generalize cmp3 pt' pt = C1 at *
 generalize cmp3 mg' mg = C2 at *
 generalize cmp3 t t' = C3 at *
 refine IWp.seqI ?_
 simp [go_sem]
 refine IWp.seqI ?_
 refine Drawn.intro (fun k => if k = 4 then .int .i64 C1 else if k = 9 then .int .i64 C2 else if k = 14 then .int .i64 C3 else if k = 16 then .int .i64 (or3 C1 C2 C3) else .tup []) ?_
 simp [go_sem, c1, c2, c3, c4]
 refine ⟨by decide +kernel, ?_⟩
 refine IWp.now ?_
 simp [go_sem]
 exact hR _ _ _ rfl (by simp [go_sem])
end Go.Idl
