/-
  Chapter 25: the reference's Pairs.
  Chapter 25: Out, the reference's.
  Chapter 25: Out, the program's.
-/
import Derived.Test.YtjdcaidcheodpaaC25PartJ
namespace Go.Idl
set_option linter.all false
open Go.Proofs
set_option maxHeartbeats 4000000
set_option maxRecDepth 40000

theorem putL_inc {l : List Int} (n : Int) (h : Inc l) : Inc (putL l n) ∧ ∀ x, x ∈ putL l n ↔ x ∈ l ∨ (x = n ∧ 1 ≤ n) := by
  unfold putL
  by_cases h1 : n < 1
  · rw [if_pos h1]
    exact ⟨h, fun x => ⟨.inl, fun hh => hh.elim (fun hh => hh) fun hh => by omega⟩⟩
  rw [if_neg h1]
  have hsplit := List.takeWhile_append_dropWhile (p := fun x => decide (x < n)) (l := l)
  have hA : ∀ x ∈ l.takeWhile (fun x => decide (x < n)), x < n := fun x hx => by simpa using List.all_eq_true.1 (List.all_takeWhile (p := fun x => decide (x < n)) (l := l)) x hx
  have hh : ∀ y, (l.dropWhile (fun x => decide (x < n))).head? = some y → ¬ y < n := fun y hy => by
    have := List.head?_dropWhile_not (fun x => decide (x < n)) l
    rw [hy] at this; simpa using this
  generalize l.takeWhile (fun x => decide (x < n)) = A at *
  generalize l.dropWhile (fun x => decide (x < n)) = B at *
  subst hsplit
  obtain ⟨i1, i2, i3⟩ := List.pairwise_append.1 h
  have hB : ∀ x ∈ B, n ≤ x := fun x hx => by
    cases B with
    | nil => simp at hx
    | cons b B =>
      have h0 := hh b rfl
      rcases List.mem_cons.1 hx with rfl | hx
      · omega
      · have := (List.pairwise_cons.1 i2).1 x hx; omega
  by_cases e : B.head? = some n
  · rw [if_pos e, List.nil_append]
    refine ⟨h, fun x => ⟨.inl, ?_⟩⟩
    rintro (hx | ⟨rfl, _⟩)
    · exact hx
    · exact List.mem_append.2 (.inr (List.mem_of_mem_head? e))
  · rw [if_neg e]
    have hB' : ∀ x ∈ B, n < x := fun x hx => by
      cases B with
      | nil => simp at hx
      | cons b B =>
        have h0 := hB b (by simp)
        have : b ≠ n := fun hb => e (by simp [hb])
        rcases List.mem_cons.1 hx with rfl | hx
        · omega
        · have := (List.pairwise_cons.1 i2).1 x hx; omega
    refine ⟨List.pairwise_append.2 ⟨i1, List.pairwise_append.2 ⟨by simp, i2, fun a ha b hb => ?_⟩, fun a ha b hb => ?_⟩, fun x => ?_⟩
    · rw [List.mem_singleton] at ha; subst ha; exact hB' b hb
    · have := hA a ha
      rcases List.mem_append.1 hb with hb | hb
      · rw [List.mem_singleton] at hb; omega
      · have := hB' b hb; omega
    · simp only [List.mem_append, List.mem_singleton]
      constructor
      · rintro (hx | hx | hx)
        · exact .inl (.inl hx)
        · exact .inr ⟨hx, by omega⟩
        · exact .inl (.inr hx)
      · rintro ((hx | hx) | hx)
        · exact .inl hx
        · exact .inr (.inr hx)
        · exact .inr (.inl hx.1)
def refP (L : List Rw) : List Int := L.foldl (fun o x => putL (putL o x.ns) x.ew) []
theorem refP_spec (L : List Rw) : Inc (refP L) ∧ ∀ x, x ∈ refP L ↔ x ∈ allP L := by
  have key : ∀ (L : List Rw) (o : List Int), Inc o → Inc (L.foldl (fun o x => putL (putL o x.ns) x.ew) o) ∧ ∀ x, x ∈ L.foldl (fun o x => putL (putL o x.ns) x.ew) o ↔ x ∈ o ∨ x ∈ allP L := by
    intro L
    induction L with
    | nil => intro o ho; exact ⟨ho, fun x => by simp [allP]⟩
    | cons y L ih =>
      intro o ho
      obtain ⟨a1, a2⟩ := putL_inc y.ns ho
      obtain ⟨b1, b2⟩ := putL_inc y.ew a1
      obtain ⟨c1, c2⟩ := ih _ b1
      refine ⟨c1, fun x => ?_⟩
      rw [List.foldl_cons, c2, b2, a2]
      simp only [allP, List.flatMap_cons, List.mem_append, rowP]
      by_cases h1 : 0 < y.ns <;> by_cases h2 : 0 < y.ew <;> simp [h1, h2, show (1 ≤ y.ns) = (0 < y.ns) from rfl, show (1 ≤ y.ew) = (0 < y.ew) from rfl, or_assoc]
  obtain ⟨h1, h2⟩ := key L [] (by simp [Inc])
  exact ⟨h1, fun x => by unfold refP; rw [h2]; simp⟩
theorem refP_eq (L : List Rw) : refP L = prs L := (srt_eq (refP_spec L).1 (refP_spec L).2).symm
theorem refPairs_fun (m : Mv) (hl : m.rows.length ≤ 2 ^ 29) : ON 39 [m.v] (fun v => v = .fz 1 (ints (prs m.rows))) := by
  refine IFun.of_bodyZ false 5 [9] Try.func39 rfl Try.call39 rfl fun R hR => ?_
  obtain ⟨tb, ro, se, co, wi, L⟩ := m
  simp [go_sem, Mv.v]
  simp at hl
  obtain ⟨M, hMd⟩ : ∃ M : Nat → List Int, M = fun i => refP (L.take i) := ⟨_, rfl⟩
  have hM0 : M 0 = [] := by rw [hMd]; simp [refP]
  have hMl : M L.length = prs L := by rw [hMd]; simp [refP_eq]
  refine IWp.nzS 1 3 rfl (by simp [go_sem]) ?_
  simp only [eput]
  refine IWp.loopT (α := Nat) (fun i => (⟨false, 28, 5, [9], [], [(1, .ptr 0 1 0 0), (3, .fz 1 (ints (M i))), (4, .int .i64 (i : Int))], []⟩, [.rows 6 [[.int .i64 tb, .int .i64 ro, .int .i64 se, .int .i64 co, .int .i64 wi, .fz 5 (rws L)]]]))
    (fun i => i ≤ L.length) (fun i => L.length - i) 0 (by simp) (by simp [go_sem, hM0]) ?_
  intro i hi
  by_cases h : i < L.length
  · have w1 : IntKind.i64.wrap ((i : Int) + 1) = i + 1 := wrap64 (by omega) (by omega)
    have hs : M (i + 1) = putL (putL (M i) L[i].ns) L[i].ew := by
      rw [hMd]
      show refP (L.take (i + 1)) = _
      rw [List.take_succ_eq_append_getElem h]
      unfold refP
      rw [List.foldl_append]; rfl
    have hlen : (M i).length ≤ 2 ^ 30 := by
      rw [hMd]; show (refP _).length ≤ _
      rw [refP_eq]
      have := prs_len (L.take i)
      simp at this; omega
    have hl2 : ∀ (l : List Int) (n : Int), (putL l n).length ≤ l.length + 1 := fun l n => by
      unfold putL
      split
      · omega
      · have := congrArg List.length (List.takeWhile_append_dropWhile (p := fun x => decide (x < n)) (l := l))
        simp only [List.length_append] at this ⊢
        have : (if (l.dropWhile (fun x => decide (x < n))).head? = some n then ([] : List Int) else [n]).length ≤ 1 := by split <;> simp
        omega
    have := hl2 (M i) L[i].ns
    have c1 := put_fun (M i) L[i].ns (by omega)
    have c2 := put_fun (putL (M i) L[i].ns) L[i].ew (by omega)
    generalize hx : L[i] = x at *
    generalize hy1 : putL (M i) x.ns = y1 at *
    generalize hy2 : putL y1 x.ew = y2 at *
    simp [go_sem, h, hx]
    refine Drawn.intro (fun k => if k = 7 then .fz 1 (ints y1) else if k = 14 then .fz 1 (ints y2) else .tup []) ?_
    simp [go_sem, h, hx, c1, c2, w1]
    exact ⟨by decide +kernel, i + 1, ⟨by rw [hs], by simp⟩, by omega, by omega⟩
  · have : i = L.length := by omega
    subst this
    simp [go_sem, hMl]
    exact hR _ _ _ rfl (by simp [go_sem])
end Go.Idl
namespace Go.Idl
set_option linter.all false
open Go.Proofs
set_option maxHeartbeats 4000000
set_option maxRecDepth 40000

def hereB (rd p : Int) (x : Rw) : Bool := x.r == rd && (x.ns == p || x.ew == p)
def aloneB (rd p : Int) (x : Rw) : Bool := hereB rd p x && (x.ns == 0 || x.ew == 0)
def sitsB (L : List Rw) (rd p : Int) : Bool := !(L.any (hereB rd p)) || L.any (aloneB rd p)
def outL (L : List Rw) (rd : Int) : List Int := (prs L).filter (sitsB L rd)
theorem any_succ {f : Rw → Bool} {L : List Rw} {i : Nat} (h : i < L.length) : (L.take (i + 1)).any f = ((L.take i).any f || f L[i]) := by
  rw [List.take_succ_eq_append_getElem h, List.any_append]; simp
theorem filter_succ {f : Int → Bool} {L : List Int} {i : Nat} (h : i < L.length) : (L.take (i + 1)).filter f = (L.take i).filter f ++ if f L[i] = true then [L[i]] else [] := by
  rw [List.take_succ_eq_append_getElem h, List.filter_append]
  simp only [List.filter_cons, List.filter_nil]
theorem refOut_fun (m : Mv) (rd : Int) (hl : m.rows.length ≤ 2 ^ 29) : FN 38 [m.v, .int .i64 rd] (fun v => v = .fz 1 (ints (outL m.rows rd))) := by
  refine IFun.of_bodyZ false 13 [18, 29, 52, 60, 65] Try.func38 rfl Try.call38 rfl fun R hR => ?_
  have c := refPairs_fun m hl
  obtain ⟨tb, ro, se, co, wi, L⟩ := m
  simp [go_sem, Mv.v]
  simp at hl
  refine c.callM (by simp [go_sem, Mv.v]) ?_
  rintro _ rfl
  simp [go_sem]
  have hout : outL L rd = (prs L).filter (sitsB L rd) := rfl
  have hpl := prs_len L
  generalize prs L = A at *
  refine IWp.ownNilS 1 5 (by decide) (by simp [go_sem]) ?_
  simp only [eput]
  obtain ⟨F, hF⟩ : ∃ F : Nat → List Int, F = fun k => (A.take k).filter (sitsB L rd) := ⟨_, rfl⟩
  have hF0 : F 0 = [] := by rw [hF]; simp
  have hFl : F A.length = outL L rd := by rw [hF, hout]; simp
  have hFk : ∀ k, (F k).length ≤ 2 ^ 30 := fun k => by
    rw [hF]
    have := List.length_filter_le (sitsB L rd) (A.take k)
    simp at this ⊢; omega
  refine IWp.loopT (α := Nat) (fun k => (⟨false, 71, 13, [18, 29, 52, 60, 65], [], [(1, .int .i64 rd), (2, .ptr 0 1 0 0), (5, .sl 1 (F k).length 0 (F k).length none), (6, .fz 1 (ints A)), (7, .int .i64 (k : Int))], []⟩, [.rows 6 [[.int .i64 tb, .int .i64 ro, .int .i64 se, .int .i64 co, .int .i64 wi, .fz 5 (rws L)]], .rows 1 (ints (F k))]))
    (fun k => k ≤ A.length) (fun k => A.length - k) 0 (by simp) (by simp [go_sem, hF0]) ?_
  intro k hk
  by_cases h : k < A.length
  · have w1 : IntKind.i64.wrap ((k : Int) + 1) = k + 1 := wrap64 (by omega) (by omega)
    have hs : F (k + 1) = F k ++ if sitsB L rd A[k] = true then [A[k]] else [] := by rw [hF]; exact filter_succ h
    have h1 := hFk k
    generalize hp : A[k] = p at *
    simp [go_sem, h, hp]
    obtain ⟨H, hH⟩ : ∃ H : Nat → Bool, H = fun i => (L.take i).any (hereB rd p) := ⟨_, rfl⟩
    obtain ⟨G, hG⟩ : ∃ G : Nat → Bool, G = fun i => (L.take i).any (aloneB rd p) := ⟨_, rfl⟩
    have hH0 : H 0 = false := by rw [hH]; simp
    have hG0 : G 0 = false := by rw [hG]; simp
    have hHG : sitsB L rd p = (!H L.length || G L.length) := by rw [hH, hG]; simp [sitsB]
    refine IWp.loopT (α := Nat) (fun i => (⟨false, 71, 13, [18, 29, 52, 60, 65], [], [(1, .int .i64 rd), (2, .ptr 0 1 0 0), (5, .sl 1 (F k).length 0 (F k).length none), (6, .fz 1 (ints A)), (7, .int .i64 (k : Int)), (8, .int .i64 p), (9, .bool (H i)), (10, .bool (G i)), (11, .int .i64 (i : Int))], []⟩, [.rows 6 [[.int .i64 tb, .int .i64 ro, .int .i64 se, .int .i64 co, .int .i64 wi, .fz 5 (rws L)]], .rows 1 (ints (F k))]))
      (fun i => i ≤ L.length) (fun i => L.length - i) 0 (by simp) (by simp [go_sem, hH0, hG0]) ?_
    intro i hi
    by_cases hlt : i < L.length
    · have w2 : IntKind.i64.wrap ((i : Int) + 1) = i + 1 := wrap64 (by omega) (by omega)
      have a1 : H (i + 1) = (H i || hereB rd p L[i]) := by rw [hH]; exact any_succ hlt
      have a2 : G (i + 1) = (G i || aloneB rd p L[i]) := by rw [hG]; exact any_succ hlt
      clear hH hG
      generalize hx : L[i] = x at *
      have nil : hereB rd p x = false → H (i + 1) = H i ∧ G (i + 1) = G i := fun e => by rw [a1, a2, e]; simp [aloneB, e]
      have yes : hereB rd p x = true → H (i + 1) = true ∧ G (i + 1) = (G i || (x.ns == 0 || x.ew == 0)) := fun e => by rw [a1, a2, e]; simp [aloneB, e]
      by_cases hr : x.r = rd
      · by_cases hn : x.ns = p
        · obtain ⟨b1, b2⟩ := yes (by simp [hereB, hr, hn])
          rw [hn] at b2
          by_cases h0 : p = 0
          · simp [go_sem, hlt, hx, w2, hr, hn, h0]
            exact ⟨i + 1, ⟨by rw [b1], by rw [b2]; simp [h0], by simp⟩, by omega, by omega⟩
          · by_cases h1 : x.ew = 0
            · simp [go_sem, hlt, hx, w2, hr, hn, h0, h1]
              exact ⟨i + 1, ⟨by rw [b1], by rw [b2]; simp [h1], by simp⟩, by omega, by omega⟩
            · simp [go_sem, hlt, hx, w2, hr, hn, h0, h1]
              exact ⟨i + 1, ⟨by rw [b1], by rw [b2]; simp [h0, h1], by simp⟩, by omega, by omega⟩
        · by_cases he : x.ew = p
          · obtain ⟨b1, b2⟩ := yes (by simp [hereB, hr, he])
            rw [he] at b2
            by_cases h0 : x.ns = 0
            · simp [go_sem, hlt, hx, w2, hr, hn, he, h0]
              exact ⟨i + 1, ⟨by rw [b1], by rw [b2]; simp [h0], by simp⟩, by omega, by omega⟩
            · by_cases h1 : p = 0
              · simp [go_sem, hlt, hx, w2, hr, hn, he, h0, h1]
                exact ⟨i + 1, ⟨by rw [b1], by rw [b2]; simp [h1], by simp⟩, by omega, by omega⟩
              · simp [go_sem, hlt, hx, w2, hr, hn, he, h0, h1]
                exact ⟨i + 1, ⟨by rw [b1], by rw [b2]; simp [h0, h1], by simp⟩, by omega, by omega⟩
          · obtain ⟨b1, b2⟩ := nil (by simp [hereB, hn, he])
            simp [go_sem, hlt, hx, w2, hr, hn, he]
            exact ⟨i + 1, ⟨by rw [b1], by rw [b2], by simp⟩, by omega, by omega⟩
      · obtain ⟨b1, b2⟩ := nil (by simp [hereB, hr])
        simp [go_sem, hlt, hx, w2, hr]
        exact ⟨i + 1, ⟨by rw [b1], by rw [b2], by simp⟩, by omega, by omega⟩
    · have : i = L.length := by omega
      subst this
      rw [hHG] at hs
      generalize H L.length = u at *
      generalize G L.length = v at *
      have yes : (!u || v) = true → F (k + 1) = F k ++ [p] := fun e => by rw [hs, if_pos e]
      cases u <;> cases v <;> simp [go_sem, w1]
      · have e := yes rfl
        exact ⟨by omega, k + 1, ⟨⟨by rw [e]; simp, by simp⟩, by rw [e, ints_snoc]⟩, by omega, by omega⟩
      · have e := yes rfl
        exact ⟨by omega, k + 1, ⟨⟨by rw [e]; simp, by simp⟩, by rw [e, ints_snoc]⟩, by omega, by omega⟩
      · have e : F (k + 1) = F k := by rw [hs]; simp
        exact ⟨k + 1, ⟨⟨by rw [e], by simp⟩, by rw [e]⟩, by omega, by omega⟩
      · have e := yes rfl
        exact ⟨by omega, k + 1, ⟨⟨by rw [e]; simp, by simp⟩, by rw [e, ints_snoc]⟩, by omega, by omega⟩
  · have : k = A.length := by omega
    subst this
    simp [go_sem, hFl]
    exact hR _ _ _ rfl (by simp [go_sem])
end Go.Idl
namespace Go.Idl
set_option linter.all false
open Go.Proofs
set_option maxHeartbeats 4000000
set_option maxRecDepth 40000

def enB (S : List (Int × Bool)) : List (IV × IV) := enM (fun k : Int => .int .i64 k) (fun v : Bool => .bool v) S
theorem keI (a b : Int) : keq (.int .i64 a) (.int .i64 b) = decide (a = b) := by
  show (match ceqs [IV.int .i64 a] [IV.int .i64 b] with | some b => b | none => false) = _
  simp [ceqs, ceq]
  rfl
theorem mget_b (s : Int) (S : List (Int × Bool)) : mget (.int .i64 s) (enB S) = (aget s S).map fun v => .bool v := mget_en (kf := fun k : Int => .int .i64 k) keI s S
theorem mset_b (s : Int) (v : Bool) (S : List (Int × Bool)) : mset (.int .i64 s) (.bool v) (enB S) = enB (aset s v S) := mset_en (kf := fun k : Int => .int .i64 k) (vf := fun v : Bool => .bool v) keI s v S
@[go_sem] theorem all_enB {S : List (Int × Bool)} {X : IV → Prop} : (∀ (a b : IV), (a, b) ∈ enB S → X a) ↔ ∀ p ∈ S, X (.int .i64 p.1) := by
  simp only [enB, enM, List.mem_map, Prod.mk.injEq]
  constructor
  · intro h p hp; exact h _ _ ⟨p, hp, rfl, rfl⟩
  · rintro h a b ⟨p, hp, rfl, rfl⟩; exact h p hp
@[go_sem] theorem bl_b {n : Nat} {S : List (Int × Bool)} : BlM n (enB S) = True := eq_true (en_bl (fun a => by simp [go_sem]) (fun b => by simp [go_sem]) S)
def hasK (S : List (Int × Bool)) (p : Int) : Bool := (aget p S).getD false
theorem hasK_set (S : List (Int × Bool)) (q p : Int) : hasK (aset q true S) p = (hasK S p || q == p) := by
  unfold hasK
  rw [aget_aset]
  by_cases e : p = q
  · simp [e]
  · simp [e, Ne.symm e]
def alonB (rd p : Int) (x : Rw) : Bool := x.r == rd && (x.ns == 0 && x.ew == p || x.ew == 0 && x.ns == p)
theorem alonB_eq {rd p : Int} (h : 1 ≤ p) (x : Rw) : alonB rd p x = aloneB rd p x := by
  unfold alonB aloneB hereB
  rw [Bool.eq_iff_iff]
  simp only [Bool.and_eq_true, Bool.or_eq_true, beq_iff_eq]
  omega
theorem out_fun (m : Mv) (rd : Int) (hl : m.rows.length ≤ 2 ^ 29) : FN 26 [m.v, .int .i64 rd] (fun v => v = .fz 1 (ints (outL m.rows rd))) := by
  refine IFun.of_bodyZ false 12 [15, 16, 17, 18, 24, 33, 39, 45, 46, 47, 48, 59] Try.func26 rfl Try.call26 rfl fun R hR => ?_
  have c := pairs_fun m (by omega)
  obtain ⟨tb, ro, se, co, wi, L⟩ := m
  simp [go_sem, Mv.v]
  simp at hl
  refine IWp.loopT (α := Nat × List (Int × Bool) × List (Int × Bool)) (fun x => (⟨false, 66, 12, [15, 16, 17, 18, 24, 33, 39, 45, 46, 47, 48, 59], [], [(1, .int .i64 rd), (2, .ptr 0 1 0 0), (5, .map 1), (6, .map 2), (15, .fz 5 (rws L)), (16, .int .i64 L.length), (17, .int .i64 (x.1 : Int))], []⟩, [.rows 6 [[.int .i64 tb, .int .i64 ro, .int .i64 se, .int .i64 co, .int .i64 wi, .fz 5 (rws L)]], .map (enB x.2.1), .map (enB x.2.2)]))
    (fun x => x.1 ≤ L.length ∧ ∀ p, hasK x.2.1 p = (L.take x.1).any (hereB rd p) ∧ hasK x.2.2 p = (L.take x.1).any (alonB rd p)) (fun x => L.length - x.1) (0, [], []) ⟨by simp, fun p => by simp [hasK, aget]⟩ (by simp [go_sem, enB]) ?_
  rintro ⟨i, S, A⟩ ⟨hi, hSA⟩
  simp only at hi hSA
  by_cases h : i < L.length
  · have w1 : IntKind.i64.wrap ((i : Int) + 1) = i + 1 := wrap64 (by omega) (by omega)
    have hs1 := fun p => any_succ (f := hereB rd p) h
    have hs2 := fun p => any_succ (f := alonB rd p) h
    generalize hx : L[i] = x at *
    by_cases hr : x.r = rd
    · have e1 : ∀ p, (L.take (i + 1)).any (hereB rd p) = hasK (aset x.ew true (aset x.ns true S)) p := fun p => by
        rw [hs1, ← (hSA p).1, hasK_set, hasK_set]; simp [hereB, hr, Bool.or_assoc]
      have e2 : ∀ p, (L.take (i + 1)).any (alonB rd p) = (hasK A p || (x.ns == 0 && x.ew == p || x.ew == 0 && x.ns == p)) := fun p => by
        rw [hs2, ← (hSA p).2]; simp [alonB, hr]
      by_cases h0 : x.ns = 0
      · rw [h0] at e1
        by_cases h1 : x.ew = 0
        · rw [h1] at e1
          simp [go_sem, h, hx, w1, hr, h0, h1, mset_b]
          exact ⟨by decide +kernel, i + 1, _, _, ⟨by simp, rfl, rfl⟩, ⟨by omega, fun p => ⟨by rw [e1], by rw [e2]; simp [hasK_set, h0, h1, Bool.or_assoc]⟩⟩, by omega⟩
        · simp [go_sem, h, hx, w1, hr, h0, h1, mset_b]
          exact ⟨by decide +kernel, i + 1, _, _, ⟨by simp, rfl, rfl⟩, ⟨by omega, fun p => ⟨by rw [e1], by rw [e2]; simp [hasK_set, h0, show (x.ew == 0) = false by simpa using h1]⟩⟩, by omega⟩
      · by_cases h1 : x.ew = 0
        · rw [h1] at e1
          simp [go_sem, h, hx, w1, hr, h0, h1, mset_b]
          exact ⟨by decide +kernel, i + 1, _, _, ⟨by simp, rfl, rfl⟩, ⟨by omega, fun p => ⟨by rw [e1], by rw [e2]; simp [hasK_set, h1, show (x.ns == 0) = false by simpa using h0]⟩⟩, by omega⟩
        · simp [go_sem, h, hx, w1, hr, h0, h1, mset_b]
          exact ⟨by decide +kernel, i + 1, _, _, ⟨by simp, rfl, rfl⟩, ⟨by omega, fun p => ⟨by rw [e1], by rw [e2]; simp [h0, h1]⟩⟩, by omega⟩
    · simp [go_sem, h, hx, w1, hr]
      exact ⟨i + 1, _, _, ⟨by simp, rfl, rfl⟩, ⟨by omega, fun p => ⟨by rw [hs1, (hSA p).1]; simp [hereB, hr], by rw [hs2, (hSA p).2]; simp [alonB, hr]⟩⟩, by omega⟩
  · have : i = L.length := by omega
    subst this
    rw [List.take_length] at hSA
    simp [go_sem]
    refine c.callF (by simp [go_sem, Mv.v]) ?_
    rintro _ rfl
    simp only
    have hpm : ∀ q ∈ prs L, 1 ≤ q := fun q hq => (prs_mem.1 hq).1
    have hout : outL L rd = (prs L).filter (sitsB L rd) := rfl
    have hpl := prs_len L
    generalize prs L = Z at *
    simp [go_sem]
    refine IWp.ownNilS 1 9 (by decide) (by simp [go_sem]) ?_
    simp only [eput]
    obtain ⟨F, hF⟩ : ∃ F : Nat → List Int, F = fun k => (Z.take k).filter (sitsB L rd) := ⟨_, rfl⟩
    have hF0 : F 0 = [] := by rw [hF]; simp
    have hFl : F Z.length = outL L rd := by rw [hF, hout]; simp
    have hFk : ∀ k, (F k).length ≤ 2 ^ 30 := fun k => by
      rw [hF]
      have := List.length_filter_le (sitsB L rd) (Z.take k)
      simp at this ⊢; omega
    refine IWp.loopT (α := Nat) (fun k => (⟨false, 66, 12, [15, 16, 17, 18, 24, 33, 39, 45, 46, 47, 48, 59], [], [(5, .map 1), (6, .map 2), (9, .sl 3 (F k).length 0 (F k).length none), (45, .fz 1 (ints Z)), (46, .int .i64 Z.length), (47, .int .i64 (k : Int))], []⟩, [.dead, .map (enB S), .map (enB A), .rows 1 (ints (F k))]))
      (fun k => k ≤ Z.length) (fun k => Z.length - k) 0 (by simp) (by simp [go_sem, hF0]) ?_
    intro k hk
    by_cases h : k < Z.length
    · have w1 : IntKind.i64.wrap ((k : Int) + 1) = k + 1 := wrap64 (by omega) (by omega)
      have hs : F (k + 1) = F k ++ if sitsB L rd Z[k] = true then [Z[k]] else [] := by rw [hF]; exact filter_succ h
      have h1 := hFk k
      have hp1 := hpm Z[k] (List.getElem_mem h)
      have hS1 := (hSA Z[k]).1
      have hA1 : hasK A Z[k] = L.any (aloneB rd Z[k]) := by rw [(hSA Z[k]).2]; congr 1; funext x; exact alonB_eq hp1 x
      have hst : sitsB L rd Z[k] = (!hasK S Z[k] || hasK A Z[k]) := by rw [hS1, hA1]; rfl
      rw [hst] at hs
      have g1 := mget_b Z[k] S
      have g2 := mget_b Z[k] A
      generalize hp : Z[k] = p at *
      unfold hasK at hs
      have yes : (!(aget p S).getD false || (aget p A).getD false) = true → F (k + 1) = F k ++ [p] := fun e => by rw [hs, if_pos e]
      have no : (!(aget p S).getD false || (aget p A).getD false) = false → F (k + 1) = F k := fun e => by rw [hs, e]; simp
      cases hu : aget p S with
      | none =>
        rw [hu] at g1 yes no
        have e := yes (by simp)
        cases hv : aget p A with
        | none =>
          rw [hv] at g2
          simp [go_sem, h, hp, w1, g1, g2]
          exact ⟨by omega, k + 1, ⟨⟨by rw [e]; simp, by simp⟩, by rw [e, ints_snoc]⟩, by omega, by omega⟩
        | some v =>
          rw [hv] at g2
          cases v <;> simp [go_sem, h, hp, w1, g1, g2] <;> exact ⟨by omega, k + 1, ⟨⟨by rw [e]; simp, by simp⟩, by rw [e, ints_snoc]⟩, by omega, by omega⟩
      | some u =>
        rw [hu] at g1 yes no
        cases hv : aget p A with
        | none =>
          rw [hv] at g2 yes no
          cases u with
          | false =>
            have e := yes (by simp)
            simp [go_sem, h, hp, w1, g1, g2]
            exact ⟨by omega, k + 1, ⟨⟨by rw [e]; simp, by simp⟩, by rw [e, ints_snoc]⟩, by omega, by omega⟩
          | true =>
            have e := no (by simp)
            simp [go_sem, h, hp, w1, g1, g2]
            exact ⟨k + 1, ⟨⟨by rw [e], by simp⟩, by rw [e]⟩, by omega, by omega⟩
        | some v =>
          rw [hv] at g2 yes no
          cases u <;> cases v
          · have e := yes (by simp)
            simp [go_sem, h, hp, w1, g1, g2]
            exact ⟨by omega, k + 1, ⟨⟨by rw [e]; simp, by simp⟩, by rw [e, ints_snoc]⟩, by omega, by omega⟩
          · have e := yes (by simp)
            simp [go_sem, h, hp, w1, g1, g2]
            exact ⟨by omega, k + 1, ⟨⟨by rw [e]; simp, by simp⟩, by rw [e, ints_snoc]⟩, by omega, by omega⟩
          · have e := no (by simp)
            simp [go_sem, h, hp, w1, g1, g2]
            exact ⟨k + 1, ⟨⟨by rw [e], by simp⟩, by rw [e]⟩, by omega, by omega⟩
          · have e := yes (by simp)
            simp [go_sem, h, hp, w1, g1, g2]
            exact ⟨by omega, k + 1, ⟨⟨by rw [e]; simp, by simp⟩, by rw [e, ints_snoc]⟩, by omega, by omega⟩
    · have : k = Z.length := by omega
      subst this
      simp [go_sem, hFl]
      exact hR _ _ _ rfl (by simp [go_sem])
end Go.Idl
