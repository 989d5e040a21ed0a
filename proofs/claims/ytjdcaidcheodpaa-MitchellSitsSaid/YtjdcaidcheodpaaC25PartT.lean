/-
  Chapter 25: MitchellSits.
-/
import Derived.Test.YtjdcaidcheodpaaC25PartS
namespace Go.Idl
set_option linter.all false
open Go.Proofs
set_option maxHeartbeats 8000000
set_option maxRecDepth 40000

theorem countP_same {α : Type} {P : α → Bool} {L : List α} (h : L.countP P ≤ 1) {x y : α} (hx : x ∈ L) (hy : y ∈ L) (px : P x = true) (py : P y = true) : x = y := by
  induction L with
  | nil => simp at hx
  | cons z L ih =>
    rw [List.countP_cons] at h
    by_cases hz : P z = true
    · rw [if_pos hz] at h
      have h0 : L.countP P = 0 := by omega
      have hn := List.countP_eq_zero.1 h0
      have e1 : x = z := (List.mem_cons.1 hx).resolve_right fun hm => hn x hm px
      have e2 : y = z := (List.mem_cons.1 hy).resolve_right fun hm => hn y hm py
      rw [e1, e2]
    · rw [if_neg hz] at h
      have e1 : x ∈ L := (List.mem_cons.1 hx).resolve_left fun e => hz (e ▸ px)
      have e2 : y ∈ L := (List.mem_cons.1 hy).resolve_left fun e => hz (e ▸ py)
      exact ih (by omega) e1 e2
def playsB (o : Option Rw) : Bool := match o with | some x => x.ns != 0 && x.ew != 0 | none => false
theorem sits_or_plays {T N S C Q : Int} {L : List Rw} (h : Fair T N S C Q L) {r p : Int} (hp : p ∈ prs L) : decide (p ∈ outL L r) = !playsB (wheR L r p) := by
  have h1 := (prs_mem.1 hp).1
  have ho : decide (p ∈ outL L r) = sitsB L r p := by
    unfold outL
    cases hs : sitsB L r p <;> simp [List.mem_filter, hp, hs]
  rw [ho]
  unfold wheR
  rw [if_neg (by omega)]
  cases hf : L.find? (whC r p) with
  | none =>
    have hn := List.find?_eq_none.1 hf
    have : L.any (hereB r p) = false := by
      rw [List.any_eq_false]
      intro x hx hh
      exact hn x hx hh
    unfold sitsB
    rw [this]; rfl
  | some x =>
    have hx := List.mem_of_find?_eq_some hf
    have hc : whC r p x = true := List.find?_some hf
    have h2 : L.any (hereB r p) = true := List.any_eq_true.2 ⟨x, hx, hc⟩
    have h3 : L.any (aloneB r p) = aloneB r p x := by
      rw [Bool.eq_iff_iff, List.any_eq_true]
      constructor
      · rintro ⟨y, hy, hh⟩
        have hy2 : sitB r p y = true := by
          unfold aloneB at hh
          simp only [Bool.and_eq_true] at hh
          exact hh.1
        have := countP_same (h.sits (r := r) (p := p) (by omega)) hx hy hc hy2
        rw [this]; exact hh
      · intro hh; exact ⟨x, hx, hh⟩
    unfold sitsB
    rw [h2, h3]
    have : hereB r p x = true := hc
    simp only [aloneB, this, playsB, Bool.not_true, Bool.false_or, Bool.true_and, bne]
    cases x.ns == 0 <;> cases x.ew == 0 <;> rfl
theorem whe_is {L : List Rw} {r p : Int} {x : Rw} (h : wheR L r p = some x) : x.r = r ∧ (x.ns = p ∨ x.ew = p) := by
  unfold wheR at h
  split at h
  · cases h
  · have := List.find?_some h
    simp only [whC, Bool.and_eq_true, Bool.or_eq_true, beq_iff_eq] at this
    exact this
theorem mitchellSits_fun (t r k a b : Int) (ht : 0 ≤ t ∧ t < 256) (hr : 0 ≤ r ∧ r < 256) (hk : 0 ≤ k ∧ k < 256) (ha : 0 ≤ a ∧ a < 256) (hb : 0 ≤ b ∧ b < 256) : FN 10 [.int .u8 t, .int .u8 r, .int .u8 k, .int .u8 a, .int .u8 b] (fun v => v = .bool true) := by
  refine IFun.of_bodyW false 26 [27, 40, 41, 42, 47, 57, 63, 67, 68, 69, 70, 82, 98, 99, 100, 101, 105, 106, 107, 134, 145, 152, 161] Try.func10 rfl Try.call10 rfl fun R hR => ?_
  refine IWp.seqI ?_
  simp [go_sem]
  refine IWp.seqI ?_
  simp [go_sem]
  refine awake_fun25.callF (by simp [go_sem]) ?_
  rintro _ rfl
  simp [go_sem]
  refine IWp.seqI ?_
  simp [go_sem]
  refine (made_fun t r k ht hr hk).callM (by simp [go_sem]) ?_
  rintro _ rfl
  obtain ⟨T, N, hM, _, _, hK, _⟩ := made_is (t := t) (r := r) (k := k) ht.1 hr.1 hk.1
  have rv := roving_fun hM
  obtain ⟨h1, h2, h3, h4, h5, h6⟩ := hM.head
  have hlen := hM.len
  have hn1 := hM.n1
  have hle := hM.le
  have hNT := hM.nle
  have hT2 := hM.dsg.2
  have hF := hM.fair
  have ho1 := hM.out_none
  have ho2 : ∀ (_ : decide (mdK t k = 0) = true) (_ : 2 ≤ N), T % 2 = 1 ∧ ∀ r, r < N → outL (mdM t r k).rows r = outL (mdM t r k).rows r := fun h _ => ⟨by
    have h7 := hM.yes h
    have h8 := hM.dsg
    rw [h7.1] at h8
    have := h8.1; omega, fun _ _ => rfl⟩
  have ho3 : ∀ (e : decide (mdK t k = 0) = true) (_ : 2 ≤ N), T % 2 = 1 ∧ ∀ q, q < N → outL (mdM t r k).rows q = [outR T q] := fun e hN => ⟨(ho2 e hN).1, fun q hq => by
    rw [e] at hM
    exact hM.out_rov hN hq⟩
  clear ho2
  generalize mdM t r k = M at *
  generalize decide (mdK t k = 0) = rov at *
  obtain ⟨ta, ro, se, co, wi, L⟩ := M
  simp only at h1 h2 h3 h4 h5 h6 hlen hF ho1 ho3
  subst h1 h2 h3 h4
  simp [go_sem, Mv.v]
  obtain ⟨rb, hrb⟩ : ∃ rb, (rov && decide (1 < N)) = rb := ⟨_, rfl⟩
  refine IWp.seqT (α := Unit) (fun _ => (⟨false, 163, 26, [27, 40, 41, 42, 47, 57, 63, 67, 68, 69, 70, 82, 98, 99, 100, 101, 105, 106, 107, 134, 145, 152, 161], [], [(3, .int .u8 a), (4, .int .u8 b), (11, .ptr 0 1 0 0), (12, .bool rb)], []⟩, [.rows 6 [[.int .i64 T, .int .i64 N, .int .i64 T, .int .i64 co, .int .i64 2, .fz 5 (rws L)]]])) (fun _ => True) ?_ ?_
  · simp [go_sem]
    refine rv.callF (by simp [go_sem, Mv.v]) ?_
    rintro _ rfl
    cases rov with
    | false =>
      simp at hrb
      subst hrb
      simp [go_sem]
    | true =>
      by_cases h : 1 < N
      · have h' : (1 : Int) < N := by omega
        simp [h] at hrb
        subst hrb
        simp [go_sem, h']
      · have h' : ¬ (1 : Int) < N := by omega
        simp [h] at hrb
        subst hrb
        simp [go_sem, h']
  rintro _ _
  refine IWp.seqI ?_
  simp [go_sem]
  obtain ⟨O, hO⟩ : ∃ O : Nat → List Int, O = fun q => if rb = true then (List.range q).map (outR T) else [] := ⟨_, rfl⟩
  have hO0 : O 0 = [] := by rw [hO]; simp
  have hOl : ∀ q, (O q).length ≤ q := fun q => by rw [hO]; simp only; split <;> simp
  have oF : rb = false → ∀ q, O q = [] := fun e q => by rw [hO]; simp [e]
  have oT : rb = true → ∀ q, O (q + 1) = O q ++ [outR T q] := fun e q => by rw [hO]; simp [e, List.range_succ]
  have oM : rb = true → ∀ q p, p ∈ O q → ∃ j, j < q ∧ outR T j = p := fun e q p hp => by
    rw [hO] at hp; simp [e] at hp; exact hp
  have lF : rb = false → ∀ q, q < N → outL L q = [] := fun e q hq => ho1 (fun e2 => by rw [e2, e] at hrb; simp at hrb; omega) hq
  have lT : rb = true → T % 2 = 1 ∧ ∀ q, q < N → outL L q = [outR T q] := fun e => by
    rw [e] at hrb
    simp at hrb
    exact ho3 hrb.1 hrb.2
  clear hO ho1 ho3
  have cout := fun rd => out_fun ⟨T, N, T, co, 2, L⟩ rd (by simp; omega)
  simp only [Mv.v] at cout
  refine IWp.ownNilS 1 13 (by decide) (by simp [go_sem]) ?_
  simp only [eput]
  refine IWp.seqI ?_
  simp [go_sem]
  refine IWp.loopT (α := Nat) (fun q => (⟨false, 163, 26, [27, 40, 41, 42, 47, 57, 63, 67, 68, 69, 70, 82, 98, 99, 100, 101, 105, 106, 107, 134, 145, 152, 161], [], [(3, .int .u8 a), (4, .int .u8 b), (11, .ptr 0 1 0 0), (12, .bool rb), (13, .sl 1 (O q).length 0 (O q).length none), (40, .int .i64 N), (41, .int .i64 (q : Int))], []⟩, [.rows 6 [[.int .i64 T, .int .i64 N, .int .i64 T, .int .i64 co, .int .i64 2, .fz 5 (rws L)]], .rows 1 (ints (O q))]))
    (fun q => q ≤ N) (fun q => N - q) 0 (by simp) (by simp [go_sem, hO0]) ?_
  intro q hq
  by_cases h : q < N
  · have wq : IntKind.i64.wrap ((q : Int) + 1) = q + 1 := wrap64 (by omega) (by omega)
    have hOq := hOl q
    simp [go_sem, h]
    refine (cout q).callF (by simp [go_sem]) ?_
    rintro _ rfl
    cases hrb2 : rb with
    | false =>
      rw [lF hrb2 q h]
      simp [go_sem, wq]
      exact ⟨q + 1, by rw [oF hrb2, oF hrb2]; simp, by omega, by omega⟩
    | true =>
      obtain ⟨hodd, lT⟩ := lT hrb2
      rw [lT q h]
      have hno : decide (outR T q ∈ O q) = false := by
        rw [decide_eq_false_iff_not]
        intro hm
        obtain ⟨j, hj, e⟩ := oM hrb2 q _ hm
        have := outR_inj hodd (by omega) (by omega) e
        omega
      have cc := containsInts_fun (O q) (outR T q) (by omega)
      rw [hno] at cc
      simp [go_sem, ints_cons]
      refine cc.callF (by simp [go_sem]) ?_
      rintro _ rfl
      simp [go_sem, wq]
      have e := oT hrb2 q
      exact ⟨by omega, q + 1, ⟨⟨by rw [e]; simp, by simp⟩, by rw [e, ints_snoc]⟩, by omega, by omega⟩
  have hqN : q = N := by omega
  rw [hqN]
  clear h hq hqN
  simp [go_sem]
  refine IWp.seqI ?_
  simp [go_sem]
  refine IWp.loopT (α := Nat × List Rw) (fun x => (⟨false, 163, 26, [27, 40, 41, 42, 47, 57, 63, 67, 68, 69, 70, 82, 98, 99, 100, 101, 105, 106, 107, 134, 145, 152, 161], [], [(11, .ptr 0 1 0 0), (67, .sl 2 2 0 2 none), (68, .int .i64 2), (69, .int .i64 (x.1 : Int))], []⟩, [.rows 6 [[.int .i64 T, .int .i64 N, .int .i64 T, .int .i64 co, .int .i64 2, .fz 5 (rws x.2)]], .dead, .rows 1 [[.int .u8 a], [.int .u8 b]]]))
    (fun x => x.1 ≤ 2 ∧ Fair T N T co (2 * T + 1) x.2 ∧ x.2.length = L.length) (fun x => 2 - x.1) (0, L) ⟨by omega, hF, rfl⟩ (by simp [go_sem]) ?_
  rintro ⟨i, L2⟩ ⟨hi, hF2, hl2⟩
  simp only at hi hF2 hl2
  by_cases h : i < 2
  · have wi : IntKind.i64.wrap ((i : Int) + 1) = i + 1 := wrap64 (by omega) (by omega)
    have hI : (i : Int) < 2 := by omega
    have cp := pairs_fun ⟨T, N, T, co, 2, L2⟩ (by simp; omega)
    simp only [Mv.v] at cp
    have hpl := prs_len L2
    rcases (by omega : i = 0 ∨ i = 1) with rfl | rfl
    · have e1 : a.tmod 3 = a % 3 := Int.tmod_eq_emod_of_nonneg ha.1
      have w1 : IntKind.u8.wrap (a % 3) = a % 3 := by rw [IntKind.wrap_u8]; omega
      have w2 : IntKind.i64.wrap 1 = 1 := rfl
      simp [go_sem]
      refine cp.callF (by simp [go_sem]) ?_
      rintro _ rfl
      by_cases h3 : a % 3 = 0
      · simp [go_sem, e1, w1, h3, w2]
        exact ⟨1, L2, ⟨rfl, rfl⟩, ⟨by omega, hF2, hl2⟩, by omega⟩
      · by_cases hA : (prs L2).length < 2
        · have hA' : ((prs L2).length : Int) < 2 := by omega
          simp [go_sem, e1, w1, h3, hA, hA', w2]
          exact ⟨1, L2, ⟨rfl, rfl⟩, ⟨by omega, hF2, hl2⟩, by omega⟩
        · have hA' : ¬ ((prs L2).length : Int) < 2 := by omega
          obtain ⟨q, hq⟩ : ∃ q : Nat, q = (a % ((prs L2).length : Int)).toNat := ⟨_, rfl⟩
          have hm0 := Int.emod_nonneg a (show ((prs L2).length : Int) ≠ 0 by omega)
          have hm1 := Int.emod_lt_of_pos a (show (0 : Int) < (prs L2).length by omega)
          have hql : q < (prs L2).length := by omega
          have e2 : a.tmod (prs L2).length = q := by rw [Int.tmod_eq_emod_of_nonneg ha.1, hq]; omega
          have wn : IntKind.i64.wrap a = a := wrap64 (by omega) (by omega)
          have wq : IntKind.i64.wrap (q : Int) = q := wrap64 (by omega) (by omega)
          have hA0 : ¬ ((prs L2).length : Int) = 0 := by omega
          have hA0' : ¬ (prs L2).length = 0 := by omega
          have hA0'' : ¬ prs L2 = [] := fun e => by rw [e] at hA0'; simp at hA0'
          have hmem : (prs L2)[q] ∈ prs L2 := List.getElem_mem hql
          have cw := without_fun ⟨T, N, T, co, 2, L2⟩ (prs L2)[q] (by simp; omega)
          rw [woE_mem (m := ⟨T, N, T, co, 2, L2⟩) hmem, woM_mem (m := ⟨T, N, T, co, 2, L2⟩) hmem] at cw
          have hF3 := hF2.without (prs L2)[q]
          have hl3 : (L2.map (wF (prs L2)[q])).length = L.length := by rw [List.length_map]; exact hl2
          simp only [Mv.v] at cw
          generalize hp : (prs L2)[q] = p at *
          generalize L2.map (wF p) = L3 at *
          generalize prs L2 = A at *
          simp [go_sem, e1, w1, h3, hA, hA']
          refine Drawn.intro (fun k => if k = 9 then .tup [.agg [.int .i64 T, .int .i64 N, .int .i64 T, .int .i64 co, .int .i64 2, .fz 5 (rws L3)], .int .i64 0] else .tup []) ?_
          simp [go_sem, e2, wn, wq, hql, hA0, hA0', hA0'', hp, cw, w2]
          exact ⟨by decide +kernel, 1, L3, ⟨rfl, rfl⟩, ⟨by omega, hF3, hl3⟩, by omega⟩
    · have e1 : b.tmod 3 = b % 3 := Int.tmod_eq_emod_of_nonneg hb.1
      have w1 : IntKind.u8.wrap (b % 3) = b % 3 := by rw [IntKind.wrap_u8]; omega
      have w2 : IntKind.i64.wrap 2 = 2 := rfl
      simp [go_sem]
      refine cp.callF (by simp [go_sem]) ?_
      rintro _ rfl
      by_cases h3 : b % 3 = 0
      · simp [go_sem, e1, w1, h3, w2]
        exact ⟨2, L2, ⟨rfl, rfl⟩, ⟨by omega, hF2, hl2⟩, by omega⟩
      · by_cases hA : (prs L2).length < 2
        · have hA' : ((prs L2).length : Int) < 2 := by omega
          simp [go_sem, e1, w1, h3, hA, hA', w2]
          exact ⟨2, L2, ⟨rfl, rfl⟩, ⟨by omega, hF2, hl2⟩, by omega⟩
        · have hA' : ¬ ((prs L2).length : Int) < 2 := by omega
          obtain ⟨q, hq⟩ : ∃ q : Nat, q = (b % ((prs L2).length : Int)).toNat := ⟨_, rfl⟩
          have hm0 := Int.emod_nonneg b (show ((prs L2).length : Int) ≠ 0 by omega)
          have hm1 := Int.emod_lt_of_pos b (show (0 : Int) < (prs L2).length by omega)
          have hql : q < (prs L2).length := by omega
          have e2 : b.tmod (prs L2).length = q := by rw [Int.tmod_eq_emod_of_nonneg hb.1, hq]; omega
          have wn : IntKind.i64.wrap b = b := wrap64 (by omega) (by omega)
          have wq : IntKind.i64.wrap (q : Int) = q := wrap64 (by omega) (by omega)
          have hA0 : ¬ ((prs L2).length : Int) = 0 := by omega
          have hA0' : ¬ (prs L2).length = 0 := by omega
          have hA0'' : ¬ prs L2 = [] := fun e => by rw [e] at hA0'; simp at hA0'
          have hmem : (prs L2)[q] ∈ prs L2 := List.getElem_mem hql
          have cw := without_fun ⟨T, N, T, co, 2, L2⟩ (prs L2)[q] (by simp; omega)
          rw [woE_mem (m := ⟨T, N, T, co, 2, L2⟩) hmem, woM_mem (m := ⟨T, N, T, co, 2, L2⟩) hmem] at cw
          have hF3 := hF2.without (prs L2)[q]
          have hl3 : (L2.map (wF (prs L2)[q])).length = L.length := by rw [List.length_map]; exact hl2
          simp only [Mv.v] at cw
          generalize hp : (prs L2)[q] = p at *
          generalize L2.map (wF p) = L3 at *
          generalize prs L2 = A at *
          simp [go_sem, e1, w1, h3, hA, hA']
          refine Drawn.intro (fun k => if k = 9 then .tup [.agg [.int .i64 T, .int .i64 N, .int .i64 T, .int .i64 co, .int .i64 2, .fz 5 (rws L3)], .int .i64 0] else .tup []) ?_
          simp [go_sem, e2, wn, wq, hql, hA0, hA0', hA0'', hp, cw, w2]
          exact ⟨by decide +kernel, 2, L3, ⟨rfl, rfl⟩, ⟨by omega, hF3, hl3⟩, by omega⟩
  have hi2 : i = 2 := by omega
  subst hi2
  clear h hi
  simp [go_sem]
  refine IWp.seqI ?_
  have cp := pairs_fun ⟨T, N, T, co, 2, L2⟩ (by simp; omega)
  simp only [Mv.v] at cp
  have hpl := prs_len L2
  simp [go_sem]
  refine cp.callF (by simp [go_sem]) ?_
  rintro _ rfl
  have hsp := fun {r p} (hp : p ∈ prs L2) => sits_or_plays hF2 (r := r) hp
  have cwh := fun (r p : Int) => where_fun ⟨T, N, T, co, 2, L2⟩ r p (by simp; omega)
  have cout := fun rd => out_fun ⟨T, N, T, co, 2, L2⟩ rd (by simp; omega)
  have hol : ∀ rd, (outL L2 rd).length ≤ 1152 := fun rd => by
    have := List.length_filter_le (sitsB L2 rd) (prs L2)
    unfold outL; omega
  simp only [Mv.v] at cwh cout
  have hA1 : ∀ p ∈ prs L2, 1 ≤ p := fun p hp => (prs_mem.1 hp).1
  generalize prs L2 = A at *
  simp [go_sem]
  refine IWp.loopT (α := Nat) (fun i => (⟨false, 163, 26, [27, 40, 41, 42, 47, 57, 63, 67, 68, 69, 70, 82, 98, 99, 100, 101, 105, 106, 107, 134, 145, 152, 161], [], [(11, .ptr 0 1 0 0), (98, .fz 1 (ints A)), (99, .int .i64 A.length), (100, .int .i64 (i : Int))], []⟩, [.rows 6 [[.int .i64 T, .int .i64 N, .int .i64 T, .int .i64 co, .int .i64 2, .fz 5 (rws L2)]], .dead, .dead]))
    (fun i => i ≤ A.length) (fun i => A.length - i) 0 (by simp) (by simp [go_sem]) ?_
  intro i hi
  by_cases h : i < A.length
  · have wi : IntKind.i64.wrap ((i : Int) + 1) = i + 1 := wrap64 (by omega) (by omega)
    have hpA : A[i] ∈ A := List.getElem_mem h
    generalize hp : A[i] = p at *
    simp [go_sem, h, hp]
    refine IWp.loopT (α := Nat × Nat × Nat) (fun x => (⟨false, 163, 26, [27, 40, 41, 42, 47, 57, 63, 67, 68, 69, 70, 82, 98, 99, 100, 101, 105, 106, 107, 134, 145, 152, 161], [], [(11, .ptr 0 1 0 0), (98, .fz 1 (ints A)), (99, .int .i64 A.length), (100, .int .i64 (i : Int)), (20, .int .i64 p), (21, .int .i64 (x.2.1 : Int)), (22, .int .i64 (x.2.2 : Int)), (105, .int .i64 N), (106, .int .i64 (x.1 : Int))], []⟩, [.rows 6 [[.int .i64 T, .int .i64 N, .int .i64 T, .int .i64 co, .int .i64 2, .fz 5 (rws L2)]], .dead, .dead]))
      (fun x => x.1 ≤ N ∧ x.2.1 + x.2.2 = x.1) (fun x => N - x.1) (0, 0, 0) ⟨by omega, rfl⟩ (by simp [go_sem]) ?_
    rintro ⟨q, u, v⟩ ⟨hq, huv⟩
    simp only at hq huv
    by_cases hqN : q < N
    · have wq : IntKind.i64.wrap ((q : Int) + 1) = q + 1 := wrap64 (by omega) (by omega)
      have wu : IntKind.i64.wrap ((u : Int) + 1) = u + 1 := wrap64 (by omega) (by omega)
      have wv : IntKind.i64.wrap ((v : Int) + 1) = v + 1 := wrap64 (by omega) (by omega)
      have hs := hsp (r := q) hpA
      have cc := containsInts_fun (outL L2 q) p (by have := hol q; omega)
      rw [hs] at cc
      have cw := cwh q p
      have cq := cout q
      simp [go_sem, hqN]
      refine cw.callF (by simp [go_sem]) ?_
      rintro _ rfl
      cases ho : wheR L2 q p with
      | none =>
        rw [ho] at cc
        simp only [playsB, Bool.not_false] at cc
        simp [go_sem, whV, zRw, Rw.v]
        refine cq.callF (by simp [go_sem]) ?_
        rintro _ rfl
        simp [go_sem]
        refine cc.callF (by simp [go_sem]) ?_
        rintro _ rfl
        simp [go_sem, wq, wv]
        exact ⟨q + 1, u, v + 1, ⟨rfl, by simp, by simp⟩, ⟨by omega, by omega⟩, by omega⟩
      | some x =>
        obtain ⟨hxr, hxp⟩ := whe_is ho
        rw [ho] at cc
        simp only [playsB] at cc
        have hp1 := hA1 p hpA
        have hp0 : ¬ p = 0 := by omega
        by_cases hn : x.ns = p
        · have z1 : ¬ x.ns = 0 := by omega
          by_cases z2 : x.ew = 0
          · rw [show (!(x.ns != 0 && x.ew != 0)) = true by simp [z2]] at cc
            simp [go_sem, whV, Rw.v, hxr, hn, z2, hp0]
            refine cq.callF (by simp [go_sem]) ?_
            rintro _ rfl
            simp [go_sem]
            refine cc.callF (by simp [go_sem]) ?_
            rintro _ rfl
            simp [go_sem, wq, wu, wv]
            exact ⟨q + 1, u, v + 1, ⟨rfl, by simp, by simp⟩, ⟨by omega, by omega⟩, by omega⟩
          · rw [show (!(x.ns != 0 && x.ew != 0)) = false by simp [z1, z2]] at cc
            simp [go_sem, whV, Rw.v, hxr, hn, z2, hp0]
            refine cq.callF (by simp [go_sem]) ?_
            rintro _ rfl
            simp [go_sem]
            refine cc.callF (by simp [go_sem]) ?_
            rintro _ rfl
            simp [go_sem, wq, wu, wv]
            exact ⟨q + 1, u + 1, v, ⟨rfl, by simp, by simp⟩, ⟨by omega, by omega⟩, by omega⟩
        · have he : x.ew = p := hxp.resolve_left hn
          by_cases z1 : x.ns = 0
          · rw [show (!(x.ns != 0 && x.ew != 0)) = true by simp [z1]] at cc
            have hn' : ¬ (0 : Int) = p := by omega
            simp [go_sem, whV, Rw.v, hxr, he, z1, hp0, hn']
            refine cq.callF (by simp [go_sem]) ?_
            rintro _ rfl
            simp [go_sem]
            refine cc.callF (by simp [go_sem]) ?_
            rintro _ rfl
            simp [go_sem, wq, wu, wv]
            exact ⟨q + 1, u, v + 1, ⟨rfl, by simp, by simp⟩, ⟨by omega, by omega⟩, by omega⟩
          · have z2 : ¬ x.ew = 0 := by omega
            rw [show (!(x.ns != 0 && x.ew != 0)) = false by simp [z1, z2]] at cc
            simp [go_sem, whV, Rw.v, hxr, hn, he, z1, hp0]
            refine cq.callF (by simp [go_sem]) ?_
            rintro _ rfl
            simp [go_sem]
            refine cc.callF (by simp [go_sem]) ?_
            rintro _ rfl
            simp [go_sem, wq, wu, wv]
            exact ⟨q + 1, u + 1, v, ⟨rfl, by simp, by simp⟩, ⟨by omega, by omega⟩, by omega⟩
    · have hqN2 : q = N := by omega
      rw [hqN2] at huv ⊢
      have wuv : IntKind.i64.wrap ((u : Int) + v) = N := by rw [wrap64 (by omega) (by omega)]; omega
      simp [go_sem, wuv, wi]
      exact ⟨i + 1, by simp, by omega, by omega⟩
  · have : i = A.length := by omega
    rw [this]
    simp [go_sem]
    refine IWp.now ?_
    simp [go_sem]
    exact hR _ _ _ rfl (by simp [go_sem])
theorem mitchellSits_law (t r k a b : Int) (h0 : (Lit.int .u8 t).wf = true) (h1 : (Lit.int .u8 r).wf = true) (h2 : (Lit.int .u8 k).wf = true) (h3 : (Lit.int .u8 a).wf = true) (h4 : (Lit.int .u8 b).wf = true) : FN 10 [.int .u8 t, .int .u8 r, .int .u8 k, .int .u8 a, .int .u8 b] (fun v => v = .bool true) := mitchellSits_fun t r k a b (wf8 h0) (wf8 h1) (wf8 h2) (wf8 h3) (wf8 h4)
end Go.Idl
