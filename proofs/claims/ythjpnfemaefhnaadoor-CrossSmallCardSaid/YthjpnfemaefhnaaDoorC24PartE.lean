/-
  Chapter 24: IMP, examine, Scores.
  Chapter 24: Cross.
  Chapter 24: each, at its three functions (printed by wip/tools/gen_each.py).
-/
import Derived.Test.YthjpnfemaefhnaaDoorC24PartD
import Derived.Test.YthjpnfemaefhnaaDoorC24PartC
namespace Go.Idl
set_option linter.all false
open Go.Proofs
set_option maxHeartbeats 8000000
set_option maxRecDepth 40000

def impUp (L : List Int) (d : Int) : Nat := L.countP fun s => decide (s ≤ d)
def impI (d : Int) : Int := (impUp scaleL d : Int) - impUp scaleL (-d)
theorem scaleL_pos : ∀ s ∈ scaleL, 1 ≤ s ∧ s ≤ 4000 := by decide
@[go_sem] theorem BlR_scale {n : Nat} : (∀ (c : IV), c ∈ scaleR → Bl n c) = True := eq_true fun c hc => (scaleR_cl c hc).bl
theorem scaleR_get {i : Nat} (h : i < scaleL.length) : scaleR[i]?.getD (.tup []) = .int .i64 scaleL[i] := by simp [scaleR, h]
theorem impUp_succ {i : Nat} (h : i < scaleL.length) (d : Int) : impUp (scaleL.take (i + 1)) d = impUp (scaleL.take i) d + if scaleL[i] ≤ d then 1 else 0 := by
  unfold impUp
  rw [List.take_succ_eq_append_getElem h, List.countP_append, List.countP_singleton]
  simp
theorem impUp_le (L : List Int) (d : Int) : impUp L d ≤ L.length := List.countP_le_length
theorem imp_fun (d : Int) (hd : -2 ^ 62 ≤ d ∧ d ≤ 2 ^ 62) : FN 19 [.int .i64 d] (fun v => v = .int .i64 (impI d)) := by
  refine IFun.of_bodyZ false 6 [6, 7, 8, 12, 18] Tryd.func19 rfl Tryd.call19 rfl fun R hR => ?_
  have h24 : scaleL.length = 24 := rfl
  have hsz : scaleR.length = 24 := rfl
  have htk : scaleR.take 24 = scaleR := List.take_of_length_le (by rw [hsz]; omega)
  simp [go_sem, hsz, htk]
  refine IWp.loopT (α := Nat) (fun i => (⟨false, 23, 6, [6, 7, 8, 12, 18], glT, [(0, .int .i64 d), (3, .int .i64 ((impUp (scaleL.take i) d : Int) - impUp (scaleL.take i) (-d))), (6, .agg scaleR), (7, .int .i64 (i : Int))], []⟩, []))
    (fun i => i ≤ 24) (fun i => 24 - i) 0 (by simp) (by simp [go_sem, impUp, htk]) ?_
  intro i hi
  by_cases h : i < 24
  · have hi' : i < scaleL.length := by omega
    have w1 : IntKind.i64.wrap ((i : Int) + 1) = i + 1 := wrap64 (by omega) (by omega)
    have s1 := impUp_succ hi' d
    have s2 := impUp_succ hi' (-d)
    have b1 := impUp_le (scaleL.take i) d
    have b2 := impUp_le (scaleL.take i) (-d)
    simp only [List.length_take] at b1 b2
    have hp := scaleL_pos _ (List.getElem_mem hi')
    have hg := scaleR_get hi'
    obtain ⟨s, hs⟩ : ∃ s, scaleL[i] = s := ⟨_, rfl⟩
    rw [hs] at s1 s2 hp hg
    obtain ⟨a, ha⟩ : ∃ a, impUp (scaleL.take i) d = a := ⟨_, rfl⟩
    obtain ⟨b, hb⟩ : ∃ b, impUp (scaleL.take i) (-d) = b := ⟨_, rfl⟩
    rw [ha] at s1 b1
    rw [hb] at s2 b2
    have hi'' : (i : Int) < 24 := by omega
    have w2 : IntKind.i64.wrap ((a : Int) - b + 1) = a - b + 1 := wrap64 (by omega) (by omega)
    have w3 : IntKind.i64.wrap (0 - s) = -s := by rw [wrap64 (by omega) (by omega)]; omega
    have w4 : IntKind.i64.wrap (-s) = -s := wrap64 (by omega) (by omega)
    have w5 : IntKind.i64.wrap ((a : Int) - b - 1) = a - b - 1 := wrap64 (by omega) (by omega)
    by_cases c1 : s ≤ d
    · have c2 : ¬ d ≤ -s := by omega
      have c3 : ¬ s ≤ -d := by omega
      rw [if_pos c1] at s1
      rw [if_neg c3] at s2
      simp [go_sem, hsz, ha, hb, hi'', hg, c1, c2, w1, w2, w3, w4, w5]
      exact ⟨i + 1, ⟨by rw [s1, s2]; simp; omega, by simp⟩, by omega, by omega⟩
    · rw [if_neg c1] at s1
      by_cases c2 : d ≤ -s
      · have c3 : s ≤ -d := by omega
        rw [if_pos c3] at s2
        simp [go_sem, hsz, ha, hb, hi'', hg, c1, c2, w1, w2, w3, w4, w5]
        exact ⟨i + 1, ⟨by rw [s1, s2]; simp; try omega, by simp⟩, by omega, by omega⟩
      · have c3 : ¬ s ≤ -d := by omega
        rw [if_neg c3] at s2
        simp [go_sem, hsz, ha, hb, hi'', hg, c1, c2, w1, w2, w3, w4, w5]
        exact ⟨i + 1, ⟨by rw [s1, s2]; simp; try omega, by simp⟩, by omega, by omega⟩
  · have h' : ¬ (i : Int) < 24 := by omega
    have he : scaleL.take i = scaleL := List.take_of_length_le (by omega)
    simp [go_sem, h', he]
    exact hR _ _ _ rfl (by simp [go_sem, impI])
def badS (x : Int) : Bool := decide (x < -7600) || decide (7600 < x)
def exE (l : List Int) : Int := if 24 < l.length then 5 else if l.any badS = true then 240 else 0
theorem examine_fun (l : List Int) (hl : l.length < 2 ^ 63) : FN 28 [.fz 1 (ints l)] (fun v => v = .int .i64 (exE l)) := by
  refine IFun.of_bodyZ false 5 [7, 8, 9, 10, 11, 19] Tryd.func28 rfl Tryd.call28 rfl fun R hR => ?_
  by_cases h0 : 24 < l.length
  · have h0' : (24 : Int) < l.length := by omega
    simp [go_sem, h0']
    exact hR _ _ _ rfl (by simp [go_sem, exE, h0])
  have h0' : ¬ (24 : Int) < l.length := by omega
  have hE : exE l = if l.any badS = true then 240 else 0 := by unfold exE; rw [if_neg h0]
  simp [go_sem, h0']
  refine IWp.loopT (α := Nat) (fun i => (⟨false, 21, 5, [7, 8, 9, 10, 11, 19], glT, [(8, .fz 1 (ints l)), (9, .int .i64 l.length), (10, .int .i64 (i : Int))], []⟩, []))
    (fun i => i ≤ l.length ∧ (l.take i).any badS = false) (fun i => l.length - i) 0 (by simp) (by simp [go_sem]) ?_
  rintro i ⟨hi, hno⟩
  by_cases h : i < l.length
  · have w1 : IntKind.i64.wrap ((i : Int) + 1) = i + 1 := wrap64 (by omega) (by omega)
    have hs : (l.take (i + 1)).any badS = badS l[i] := by rw [List.take_succ_eq_append_getElem h, List.any_append, hno]; simp
    have hall : badS l[i] = true → l.any badS = true := fun hb => List.any_eq_true.2 ⟨l[i], List.getElem_mem h, hb⟩
    obtain ⟨x, hx⟩ : ∃ x, l[i] = x := ⟨_, rfl⟩
    rw [hx] at hs hall
    by_cases c1 : x < -7600
    · simp [go_sem, h, hx, c1]
      exact hR _ _ _ rfl (by simp [go_sem, hE, hall (by simp [badS, c1])])
    · by_cases c2 : 7600 < x
      · simp [go_sem, h, hx, c1, c2]
        exact hR _ _ _ rfl (by simp [go_sem, hE, hall (by simp [badS, c2])])
      · simp [go_sem, h, hx, c1, c2, w1]
        exact ⟨i + 1, by omega, ⟨by omega, by
          have : (l.take (i + 1)).any badS = false := by rw [hs]; simp [badS, c1, c2]
          simpa using this⟩, by omega⟩
  · obtain rfl : i = l.length := by omega
    rw [List.take_length] at hno
    simp [go_sem]
    exact hR _ _ _ rfl (by simp [go_sem, hE, hno])
/-- A right result, made of a number. -/
def scoreI (n : Int) : Int := if n.tmod 8 ≠ 0 then (n.tmod 7601).tdiv 10 * 10 else n.tmod 7601
theorem scoreI_bd {n : Int} : -7600 ≤ scoreI n ∧ scoreI n ≤ 7600 := by
  have h1 := Int.tmod_lt_of_pos n (b := 7601) (by omega)
  have h2 := Int.lt_tmod_of_pos n (b := 7601) (by omega)
  unfold scoreI
  generalize n.tmod 7601 = x at *
  split
  · rcases Int.lt_or_le x 0 with h | h
    · have : x.tdiv 10 = -((-x) / 10) := by rw [← Int.tdiv_eq_ediv_of_nonneg (by omega), Int.neg_tdiv]; omega
      rw [this]; omega
    · rw [Int.tdiv_eq_ediv_of_nonneg h]; omega
  · omega
theorem scores_fun (l : List Int) (hl : l.length < 2 ^ 63) (hb : ∀ x ∈ l, -32768 ≤ x ∧ x ≤ 32767) : FN 12 [.fz 1 (bys .i16 l)] (fun v => v = .fz 1 (ints ((l.take 24).map scoreI))) := by
  refine IFun.of_bodyZ false 7 [11, 12, 13, 14, 22] Tryd.func12 rfl Tryd.call12 rfl fun R hR => ?_
  obtain ⟨K, hK⟩ : ∃ K : Nat, (if (24 : Int) < l.length then (24 : Int) else l.length) = K := ⟨min 24 l.length, by split <;> omega⟩
  have hKl : K ≤ l.length := by split at hK <;> omega
  have hKI : (K : Int) ≤ l.length := by omega
  have hK24 : K ≤ 24 := by split at hK <;> omega
  have hlK : l.take 24 = l.take K := by
    split at hK
    · rw [show K = 24 by omega]
    · rw [List.take_of_length_le (by omega), List.take_of_length_le (by omega)]
  obtain ⟨O, hO⟩ : ∃ O, l.take K = O := ⟨_, rfl⟩
  have hOt : (bys .i16 l).take K = bys .i16 O := by rw [← bys_take, hO]
  have hOl : O.length = K := by rw [← hO]; simp; omega
  have hOm : ∀ x ∈ O, -32768 ≤ x ∧ x ≤ 32767 := fun x hx => hb x (by rw [← hO] at hx; exact List.mem_of_mem_take hx)
  rw [hlK, hO] at hR
  simp [go_sem, hK, hKl, hKI, hOt, hOl]
  refine IWp.ownNilS 1 3 (by decide) rfl ?_
  refine IWp.loopT (α := Nat) (fun i => (⟨false, 32, 7, [11, 12, 13, 14, 22], glT, [(3, .sl 0 i 0 i none), (11, .fz 1 (bys .i16 O)), (12, .int .i64 (K : Int)), (13, .int .i64 (i : Int))], []⟩, [.rows 1 (ints ((O.map scoreI).take i))]))
    (fun i => i ≤ K) (fun i => K - i) 0 (by simp) (by simp [go_sem]) ?_
  intro i hi
  by_cases h : i < K
  · have w1 : IntKind.i64.wrap ((i : Int) + 1) = i + 1 := wrap64 (by omega) (by omega)
    have hiO : i < O.length := by omega
    have hx := hOm O[i] (List.getElem_mem hiO)
    have hsb := @scoreI_bd O[i]
    have hs : (O.map scoreI).take (i + 1) = (O.map scoreI).take i ++ [scoreI O[i]] := by rw [← List.map_take, ← List.map_take, List.take_succ_eq_append_getElem hiO, List.map_append]; rfl
    obtain ⟨x, hxe⟩ : ∃ x, O[i] = x := ⟨_, rfl⟩
    rw [hxe] at hs hx hsb
    have t1 := Int.tmod_lt_of_pos x (b := 7601) (by omega)
    have t2 := Int.lt_tmod_of_pos x (b := 7601) (by omega)
    have w2 : IntKind.i64.wrap x = x := wrap64 (by omega) (by omega)
    obtain ⟨m, hm⟩ : ∃ m, x.tmod 7601 = m := ⟨_, rfl⟩
    have hS : scoreI x = if x.tmod 8 ≠ 0 then m.tdiv 10 * 10 else m := by unfold scoreI; rw [hm]
    by_cases c : x.tmod 8 = 0
    · have hS' : scoreI x = m := by rw [hS, if_neg (by simpa using c)]
      simp [go_sem, h, hiO, hxe, w1, w2, hm, c]
      refine ⟨by omega, i + 1, ?_, by omega, by omega⟩
      rw [hs, ints_snoc, hS']
      simp
    · have hS' : scoreI x = m.tdiv 10 * 10 := by rw [hS, if_pos c]
      have hq : -760 ≤ m.tdiv 10 ∧ m.tdiv 10 ≤ 760 := by rw [hS'] at hsb; omega
      have w3 : IntKind.i64.wrap (m.tdiv 10) = m.tdiv 10 := wrap64 (by omega) (by omega)
      have w4 : IntKind.i64.wrap (m.tdiv 10 * 10) = m.tdiv 10 * 10 := wrap64 (by omega) (by omega)
      simp [go_sem, h, hiO, hxe, w1, w2, hm, c, w3, w4]
      refine ⟨by omega, i + 1, ?_, by omega, by omega⟩
      rw [hs, ints_snoc, hS']
      simp
  · obtain rfl : i = K := by omega
    have hall : (O.map scoreI).take i = O.map scoreI := List.take_of_length_le (by simp; omega)
    rw [hall]
    simp [go_sem]
    refine hR _ _ _ rfl ?_
    have hlen : (O.map scoreI).length = i := by simp [hOl]
    simp [go_sem, hlen]
end Go.Idl
namespace Go.Idl
set_option linter.all false
open Go.Proofs
set_option maxHeartbeats 8000000
set_option maxRecDepth 40000

theorem impI_bd (d : Int) : -24 ≤ impI d ∧ impI d ≤ 24 := by
  have h1 := impUp_le scaleL d
  have h2 := impUp_le scaleL (-d)
  have h3 : scaleL.length = 24 := rfl
  unfold impI; omega
/-- What a result scores against the others: of those before the k-th. -/
def vsI (l : List Int) (i : Nat) (x : Int) (k : Nat) : Int := (((l.take k).zipIdx.filter fun p => p.2 != i).map fun p => impI (x - p.1)).sum
def otherN (i k : Nat) : Nat := if i < k then k - 1 else k
theorem vsI_succ {l : List Int} {i k : Nat} {x : Int} (h : k < l.length) : vsI l i x (k + 1) = vsI l i x k + if k = i then 0 else impI (x - l[k]) := by
  unfold vsI
  rw [List.take_succ_eq_append_getElem h, List.zipIdx_append, List.filter_append, List.map_append, List.sum_append]
  have hm : min k l.length = k := by omega
  have hz : [l[k]].zipIdx (0 + (l.take k).length) = [(l[k], k)] := by simp [hm]
  rw [hz]
  by_cases e : k = i <;> simp [e]
theorem otherN_succ {i k : Nat} : otherN i (k + 1) = otherN i k + if k = i then 0 else 1 := by
  unfold otherN
  split <;> split <;> split <;> omega
theorem vsI_bd {l : List Int} {i : Nat} {x : Int} : ∀ k, k ≤ l.length → -(24 * (k : Int)) ≤ vsI l i x k ∧ vsI l i x k ≤ 24 * k
  | 0, _ => by simp [vsI]
  | k + 1, h => by
    have := vsI_bd (l := l) (i := i) (x := x) k (by omega)
    rw [vsI_succ (by omega)]
    have := impI_bd (x - l[k])
    split <;> omega
theorem addC_calls (j o i su sc ot : Int) (hsc : -2 ^ 60 ≤ sc ∧ sc ≤ 2 ^ 60) (ho : -2 ^ 60 ≤ o ∧ o ≤ 2 ^ 60) (hsu : -2 ^ 60 ≤ su ∧ su ≤ 2 ^ 60) (hot : 0 ≤ ot ∧ ot ≤ 2 ^ 60) :
    ICalls Tryd.prog glT 30 [.int .i64 j, .int .i64 o, .ptr 0 1 0 0, .ptr 1 1 0 0, .ptr 2 1 0 0, .ptr 3 1 0 0] [.rows 1 [[.int .i64 i]], .rows 1 [[.int .i64 su]], .rows 1 [[.int .i64 sc]], .rows 1 [[.int .i64 ot]]]
      (fun v σ => v = .tup [] ∧ σ = [.rows 1 [[.int .i64 i]], .rows 1 [[.int .i64 (if j = i then su else su + impI (sc - o))]], .rows 1 [[.int .i64 sc]], .rows 1 [[.int .i64 (if j = i then ot else ot + 1)]]]) := by
  refine ICalls.of_bodyE false 8 [10] Tryd.func30 rfl Tryd.call30 rfl fun R hR => ?_
  by_cases h : j = i
  · subst h
    simp [go_sem]
    exact hR _ _ ⟨rfl, by simp⟩
  · have c := imp_fun (sc - o) (by omega)
    have hb := impI_bd (sc - o)
    have w1 : IntKind.i64.wrap (sc - o) = sc - o := wrap64 (by omega) (by omega)
    have w2 : IntKind.i64.wrap (su + impI (sc - o)) = su + impI (sc - o) := wrap64 (by omega) (by omega)
    have w3 : IntKind.i64.wrap (ot + 1) = ot + 1 := wrap64 (by omega) (by omega)
    generalize hI : impI (sc - o) = I at *
    simp [go_sem, h]
    refine Drawn.intro (fun k => if k = 4 then .int .i64 I else .tup []) ?_
    simp [go_sem, h, w1, c, w2, w3]
    refine ⟨by decide +kernel, ?_⟩
    exact hR _ _ ⟨rfl, by simp [h]⟩
def crossF (l : List Int) (i : Nat) (x : Int) : Frc := if l.length = 1 then ⟨0, 1⟩ else (mkF (vsI l i x l.length) ((l.length : Int) - 1)).1
theorem against_fun (l : List Int) (i : Nat) (x : Int) (hi : i < l.length) (hl : l.length ≤ 24) (hb : ∀ y ∈ l, -7600 ≤ y ∧ y ≤ 7600) (hx : -7600 ≤ x ∧ x ≤ 7600) :
    FN 29 [.int .i64 (i : Int), .int .i64 x, .fptr 1 [[.fz 1 (ints l)]] 0 0] (fun v => v = (crossF l i x).v) := by
  refine IFun.of_bodyZ false 13 [14, 15, 16, 17, 27] Tryd.func29 rfl Tryd.call29 rfl fun R hR => ?_
  simp [go_sem]
  refine IWp.loopT (α := Nat) (fun k => (⟨false, 36, 13, [14, 15, 16, 17, 27], glT, [(5, .ptr 2 1 0 0), (6, .ptr 3 1 0 0), (7, .ptr 4 1 0 0), (8, .func (.func 30) [] [.ptr 0 1 0 0, .ptr 3 1 0 0, .ptr 1 1 0 0, .ptr 4 1 0 0]), (14, .fz 1 (ints l)), (15, .int .i64 l.length), (16, .int .i64 (k : Int))], []⟩,
      [.rows 1 [[.int .i64 (i : Int)]], .rows 1 [[.int .i64 x]], .rows 2 [[.int .i64 0, .int .i64 0]], .rows 1 [[.int .i64 (vsI l i x k)]], .rows 1 [[.int .i64 (otherN i k : Nat)]]]))
    (fun k => k ≤ l.length) (fun k => l.length - k) 0 (by simp) (by simp [go_sem, vsI, otherN]) ?_
  intro k hk
  have hvb := vsI_bd (l := l) (i := i) (x := x) k hk
  by_cases h : k < l.length
  · have w1 : IntKind.i64.wrap ((k : Int) + 1) = k + 1 := wrap64 (by omega) (by omega)
    have hs := vsI_succ (i := i) (x := x) h
    have ho := otherN_succ (i := i) (k := k)
    have hy := hb l[k] (List.getElem_mem h)
    have hon : otherN i k ≤ k := by unfold otherN; split <;> omega
    obtain ⟨y, hye⟩ : ∃ y, l[k] = y := ⟨_, rfl⟩
    rw [hye] at hs hy
    obtain ⟨S, hS⟩ : ∃ S, vsI l i x k = S := ⟨_, rfl⟩
    obtain ⟨O, hO⟩ : ∃ O, otherN i k = O := ⟨_, rfl⟩
    rw [hS] at hs hvb
    rw [hO] at ho hon
    simp [go_sem, h, hye, hS, hO]
    refine (addC_calls k y i S x O (by omega) (by omega) (by omega) (by omega)).at [0, 3, 1, 4] (by simp [go_sem]) ?_
    rintro _ _ ⟨rfl, rfl⟩
    simp [go_sem, w1]
    refine ⟨k + 1, ⟨by omega, ?_, ?_⟩, by omega, by omega⟩
    · rw [hs]; by_cases e : k = i
      · simp [e]
      · have : ¬ (k : Int) = i := by omega
        simp [e, this]
    · rw [ho]; by_cases e : k = i
      · simp [e]
      · have : ¬ (k : Int) = i := by omega
        simp [e, this]
  · obtain rfl : k = l.length := by omega
    have hon : otherN i l.length = l.length - 1 := by unfold otherN; rw [if_pos hi]
    obtain ⟨S, hS⟩ : ∃ S, vsI l i x l.length = S := ⟨_, rfl⟩
    have hF : crossF l i x = if l.length = 1 then ⟨0, 1⟩ else (mkF S ((l.length : Int) - 1)).1 := by unfold crossF; rw [hS]
    rw [hS] at hvb
    rw [hS, hon]
    by_cases h1 : l.length = 1
    · simp [go_sem, h1]
      exact hR _ _ _ rfl (by simp [go_sem, hF, h1, Frc.v])
    · have hon' : ((l.length - 1 : Nat) : Int) = (l.length : Int) - 1 := by omega
      have hz : ¬ (l.length : Int) - 1 = 0 := by omega
      have c := makeF_fun S ((l.length : Int) - 1) (by omega) (by omega)
      rw [hon']
      rw [if_neg h1] at hF
      simp [go_sem, hz]
      refine c.callF (by simp [go_sem]) ?_
      rintro _ rfl
      rw [hF] at hR
      generalize mkF S ((l.length : Int) - 1) = F at *
      simp [go_sem, Frc.v]
      exact hR _ _ _ rfl (by simp [go_sem, Frc.v])
end Go.Idl
namespace Go.Idl
set_option linter.all false
open Go.Proofs
set_option maxHeartbeats 8000000
set_option maxRecDepth 40000

theorem crossC_fun (l : List Int) (i : Nat) (x : Int) (hi : i < l.length) (hl : l.length ≤ 24) (hb : ∀ y ∈ l, -7600 ≤ y ∧ y ≤ 7600) (hx : -7600 ≤ x ∧ x ≤ 7600) :
    FN 29 [.int .i64 (i : Int), .int .i64 x, .fptr 1 [[.fz 1 (ints l)]] 0 0] (fun v => v = .agg (crossF l i x).c) := against_fun l i x hi hl hb hx
def plainF (l : List Int) (sm x : Int) : Frc := (mkF (l.length * x - sm) l.length).1
theorem plainC_fun (l : List Int) (sm : Int) (i : Nat) (x : Int) (hi : i < l.length) (hl : l.length ≤ 24) (hb : ∀ y ∈ l, -7600 ≤ y ∧ y ≤ 7600) (hx : -7600 ≤ x ∧ x ≤ 7600) (hsm : -200000 ≤ sm ∧ sm ≤ 200000) :
    FN 33 [.int .i64 (i : Int), .int .i64 x, .fptr 1 [[.fz 1 (ints l)]] 0 0, .fptr 1 [[.int .i64 sm]] 0 0] (fun v => v = .agg (plainF l sm x).c) := by
  refine IFun.of_bodyZ false 9 [] Tryd.func33 rfl Tryd.call33 rfl fun R hR => ?_
  obtain ⟨n, hn⟩ : ∃ n, l.length = n := ⟨_, rfl⟩
  have hF : plainF l sm x = (mkF (n * x - sm) n).1 := by unfold plainF; rw [hn]
  have hb1 : -(24 * 7600) ≤ (n : Int) * x ∧ (n : Int) * x ≤ 24 * 7600 := by
    rw [hn] at hl
    have h1 := Int.mul_le_mul_of_nonneg_left hx.2 (show 0 ≤ (n : Int) by omega)
    have h2 := Int.mul_le_mul_of_nonneg_left hx.1 (show 0 ≤ (n : Int) by omega)
    omega
  obtain ⟨p, hp⟩ : ∃ p, (n : Int) * x = p := ⟨_, rfl⟩
  rw [hp] at hb1 hF
  have w1 : IntKind.i64.wrap p = p := wrap64 (by omega) (by omega)
  have w2 : IntKind.i64.wrap (p - sm) = p - sm := wrap64 (by omega) (by omega)
  have c := makeF_fun (p - sm) n (by omega) (by omega)
  simp [go_sem, hn, hp, w1, w2]
  refine c.callF (by simp [go_sem]) ?_
  rintro _ rfl
  rw [hF] at hR
  generalize mkF (p - sm) n = F at *
  simp [go_sem, Frc.v]
  exact hR _ _ _ rfl (by simp [go_sem, Frc.c])
theorem butlerC_fun (l : List Int) (dt : Int) (i : Nat) (x : Int) (hi : i < l.length) (hl : l.length ≤ 24) (hb : ∀ y ∈ l, -7600 ≤ y ∧ y ≤ 7600) (hx : -7600 ≤ x ∧ x ≤ 7600) (hdt : -100000 ≤ dt ∧ dt ≤ 100000) :
    FN 35 [.int .i64 (i : Int), .int .i64 x, .fptr 1 [[.int .i64 dt]] 0 0] (fun v => v = .int .i64 (impI (x - dt))) := by
  refine IFun.of_bodyZ false 6 [] Tryd.func35 rfl Tryd.call35 rfl fun R hR => ?_
  have w1 : IntKind.i64.wrap (x - dt) = x - dt := wrap64 (by omega) (by omega)
  simp [go_sem, w1]
  refine (imp_fun (x - dt) (by omega)).callF (by simp [go_sem]) ?_
  rintro _ rfl
  simp [go_sem]
  exact hR _ _ _ rfl (by simp [go_sem])
def crossL (l : List Int) : List Frc := (List.range l.length).map fun i : Nat => crossF l i (l.getD i 0)
@[simp] theorem crossL_length (l : List Int) : (crossL l).length = l.length := by simp [crossL]
theorem crossL_succ (l : List Int) {k : Nat} (h : k < l.length) : (crossL l).take (k + 1) = (crossL l).take k ++ [(fun (i : Nat) => crossF l i (l.getD i 0)) k] := by
  rw [List.take_succ_eq_append_getElem (by simpa using h)]
  congr 2
  simp [crossL]
theorem crossEach_fun (l : List Int)  (hl : l.length ≤ 24) (hb : ∀ y ∈ l, -7600 ≤ y ∧ y ≤ 7600) :
    FN 32 [.fz 1 (ints l), .func (.func 29) [] [.fptr 1 [[.fz 1 (ints l)]] 0 0]] (fun v => v = .fz 2 (frs (crossL l))) := by
  refine IFun.of_bodyZ false 8 [11, 12, 13, 14] Tryd.func32 rfl Tryd.call32 rfl fun R hR => ?_
  simp [go_sem]
  refine ⟨by omega, ?_⟩
  refine IWp.loopT (α := Nat) (fun k => (⟨false, 27, 8, [11, 12, 13, 14], glT, [(1, .func (.func 29) [] [.fptr 1 [[.fz 1 (ints l)]] 0 0]), (5, .sl 0 k 0 k none), (11, .fz 1 (ints l)), (12, .int .i64 l.length), (13, .int .i64 (k : Int))], []⟩, [.rows 2 (frs ((crossL l).take k))]))
    (fun k => k ≤ l.length) (fun k => l.length - k) 0 (by simp) (by simp [go_sem]) ?_
  intro k hk
  by_cases h : k < l.length
  · have w1 : IntKind.i64.wrap ((k : Int) + 1) = k + 1 := wrap64 (by omega) (by omega)
    have hs := crossL_succ (l := l)  h
    have hy := hb l[k] (List.getElem_mem h)
    have hgd : l.getD k 0 = l[k] := by simp [h]
    simp only [hgd] at hs
    have c := crossC_fun l k l[k] h hl hb hy
    obtain ⟨y, hye⟩ : ∃ y, l[k] = y := ⟨_, rfl⟩
    rw [hye] at hs hy c
    have hlen : ((crossL l).take k).length = k := by simp; omega
    simp [go_sem, h, hye]
    refine c.callF (by simp [go_sem]) ?_
    rintro _ rfl
    simp only [Frc.c]
    simp [go_sem, hlen, w1]
    refine ⟨by omega, k + 1, ?_, by omega, by omega⟩
    rw [hs, frs_snoc]
    simp
  · obtain rfl : k = l.length := by omega
    have hall : (crossL l).take l.length = crossL l := List.take_of_length_le (by simp)
    rw [hall]
    simp [go_sem]
    refine hR _ _ _ rfl ?_
    simp [go_sem]
def plainL (l : List Int) (sm : Int) : List Frc := (List.range l.length).map fun i : Nat => plainF l sm (l.getD i 0)
@[simp] theorem plainL_length (l : List Int) (sm : Int) : (plainL l sm).length = l.length := by simp [plainL]
theorem plainL_succ (l : List Int) (sm : Int) {k : Nat} (h : k < l.length) : (plainL l sm).take (k + 1) = (plainL l sm).take k ++ [(fun (i : Nat) => plainF l sm (l.getD i 0)) k] := by
  rw [List.take_succ_eq_append_getElem (by simpa using h)]
  congr 2
  simp [plainL]
theorem plainEach_fun (l : List Int) (sm : Int) (hsm : -200000 ≤ sm ∧ sm ≤ 200000) (hl : l.length ≤ 24) (hb : ∀ y ∈ l, -7600 ≤ y ∧ y ≤ 7600) :
    FN 32 [.fz 1 (ints l), .func (.func 33) [] [.fptr 1 [[.fz 1 (ints l)]] 0 0, .fptr 1 [[.int .i64 sm]] 0 0]] (fun v => v = .fz 2 (frs (plainL l sm))) := by
  refine IFun.of_bodyZ false 8 [11, 12, 13, 14] Tryd.func32 rfl Tryd.call32 rfl fun R hR => ?_
  simp [go_sem]
  refine ⟨by omega, ?_⟩
  refine IWp.loopT (α := Nat) (fun k => (⟨false, 27, 8, [11, 12, 13, 14], glT, [(1, .func (.func 33) [] [.fptr 1 [[.fz 1 (ints l)]] 0 0, .fptr 1 [[.int .i64 sm]] 0 0]), (5, .sl 0 k 0 k none), (11, .fz 1 (ints l)), (12, .int .i64 l.length), (13, .int .i64 (k : Int))], []⟩, [.rows 2 (frs ((plainL l sm).take k))]))
    (fun k => k ≤ l.length) (fun k => l.length - k) 0 (by simp) (by simp [go_sem]) ?_
  intro k hk
  by_cases h : k < l.length
  · have w1 : IntKind.i64.wrap ((k : Int) + 1) = k + 1 := wrap64 (by omega) (by omega)
    have hs := plainL_succ (l := l) (sm := sm) h
    have hy := hb l[k] (List.getElem_mem h)
    have hgd : l.getD k 0 = l[k] := by simp [h]
    simp only [hgd] at hs
    have c := plainC_fun l sm k l[k] h hl hb hy hsm
    obtain ⟨y, hye⟩ : ∃ y, l[k] = y := ⟨_, rfl⟩
    rw [hye] at hs hy c
    have hlen : ((plainL l sm).take k).length = k := by simp; omega
    simp [go_sem, h, hye]
    refine c.callF (by simp [go_sem]) ?_
    rintro _ rfl
    simp only [Frc.c]
    simp [go_sem, hlen, w1]
    refine ⟨by omega, k + 1, ?_, by omega, by omega⟩
    rw [hs, frs_snoc]
    simp
  · obtain rfl : k = l.length := by omega
    have hall : (plainL l sm).take l.length = plainL l sm := List.take_of_length_le (by simp)
    rw [hall]
    simp [go_sem]
    refine hR _ _ _ rfl ?_
    simp [go_sem]
def butlerL (l : List Int) (dt : Int) : List Int := (List.range l.length).map fun i : Nat => impI (l.getD i 0 - dt)
@[simp] theorem butlerL_length (l : List Int) (dt : Int) : (butlerL l dt).length = l.length := by simp [butlerL]
theorem butlerL_succ (l : List Int) (dt : Int) {k : Nat} (h : k < l.length) : (butlerL l dt).take (k + 1) = (butlerL l dt).take k ++ [(fun (i : Nat) => impI (l.getD i 0 - dt)) k] := by
  rw [List.take_succ_eq_append_getElem (by simpa using h)]
  congr 2
  simp [butlerL]
theorem butlerEach_fun (l : List Int) (dt : Int) (hdt : -100000 ≤ dt ∧ dt ≤ 100000) (hl : l.length ≤ 24) (hb : ∀ y ∈ l, -7600 ≤ y ∧ y ≤ 7600) :
    FN 34 [.fz 1 (ints l), .func (.func 35) [] [.fptr 1 [[.int .i64 dt]] 0 0]] (fun v => v = .fz 1 (ints (butlerL l dt))) := by
  refine IFun.of_bodyZ false 8 [11, 12, 13, 14] Tryd.func34 rfl Tryd.call34 rfl fun R hR => ?_
  simp [go_sem]
  refine ⟨by omega, ?_⟩
  refine IWp.loopT (α := Nat) (fun k => (⟨false, 27, 8, [11, 12, 13, 14], glT, [(1, .func (.func 35) [] [.fptr 1 [[.int .i64 dt]] 0 0]), (5, .sl 0 k 0 k none), (11, .fz 1 (ints l)), (12, .int .i64 l.length), (13, .int .i64 (k : Int))], []⟩, [.rows 1 (ints ((butlerL l dt).take k))]))
    (fun k => k ≤ l.length) (fun k => l.length - k) 0 (by simp) (by simp [go_sem]) ?_
  intro k hk
  by_cases h : k < l.length
  · have w1 : IntKind.i64.wrap ((k : Int) + 1) = k + 1 := wrap64 (by omega) (by omega)
    have hs := butlerL_succ (l := l) (dt := dt) h
    have hy := hb l[k] (List.getElem_mem h)
    have hgd : l.getD k 0 = l[k] := by simp [h]
    simp only [hgd] at hs
    have c := butlerC_fun l dt k l[k] h hl hb hy hdt
    obtain ⟨y, hye⟩ : ∃ y, l[k] = y := ⟨_, rfl⟩
    rw [hye] at hs hy c
    have hlen : ((butlerL l dt).take k).length = k := by simp; omega
    simp [go_sem, h, hye]
    refine c.callF (by simp [go_sem]) ?_
    rintro _ rfl
    skip
    simp [go_sem, hlen, w1]
    refine ⟨by omega, k + 1, ?_, by omega, by omega⟩
    rw [hs, ints_snoc]
    simp
  · obtain rfl : k = l.length := by omega
    have hall : (butlerL l dt).take l.length = butlerL l dt := List.take_of_length_le (by simp)
    rw [hall]
    simp [go_sem]
    refine hR _ _ _ rfl ?_
    simp [go_sem]
end Go.Idl
