/-
  Chapter 28: CheckLess.
-/
import Derived.Test.YtdnkleclccjffaaC28PartY
import Derived.Test.YtdnkleclccjffaaC28PartC
namespace Go.Idl
set_option linter.all false
open Go.Proofs Go.RowKit
set_option maxHeartbeats 8000000
set_option maxRecDepth 40000

/-- What is left of a slice behind its elements: zero rows, and what nobody knows. -/
def jk (d k : Nat) : List (List IV) := List.replicate d [.int .i64 0, .int .i64 0, .int .i64 0, .int .i64 0, .int .i64 0] ++ List.replicate k (List.replicate 5 .junk)
@[simp] theorem jk_length (d k : Nat) : (jk d k).length = d + k := by simp [jk]
theorem jk_succ (d k : Nat) : jk (d + 1) k = [.int .i64 0, .int .i64 0, .int .i64 0, .int .i64 0, .int .i64 0] :: jk d k := by simp [jk, List.replicate_succ]
theorem jk_zero (k : Nat) : jk 0 k = List.replicate k (List.replicate 5 .junk) := by simp [jk]
theorem jk_mem {d k : Nat} {r : List IV} {c : IV} (hr : r ∈ jk d k) (hc : c ∈ r) : c = .int .i64 0 ∨ c = .junk := by
  unfold jk at hr
  rw [List.mem_append] at hr
  rcases hr with hr | hr
  · rw [(List.mem_replicate.1 hr).2] at hc
    simp at hc; exact .inl hc
  · rw [(List.mem_replicate.1 hr).2] at hc
    exact .inr (List.mem_replicate.1 hc).2
@[go_sem] theorem BlR_jk {n d k : Nat} : BlR n (jk d k) = True := eq_true fun r hr c hc => by
  rcases jk_mem hr hc with rfl | rfl <;> simp [go_sem]
@[go_sem] theorem renLL_jk {π : Nat → Nat} {d k : Nat} : renLL π (jk d k) = jk d k := by
  rw [renLL_map]
  refine (List.map_congr_left fun r hr => ?_).trans (List.map_id _)
  rw [renL_map]
  refine (List.map_congr_left fun c hc => ?_).trans (List.map_id _)
  rcases jk_mem hr hc with rfl | rfl <;> rfl
def lessH (M : Mv) (L : List Rw) : Option (Nat × Nat) → Heap
  | none => [.rows 6 [[.int .i64 M.tables, .int .i64 M.rounds, .int .i64 M.sets, .int .i64 M.copies, .int .i64 M.winners, .sl 1 L.length 0 L.length none]], .rows 5 (rws L)]
  | some q => [.rows 6 [[.int .i64 M.tables, .int .i64 M.rounds, .int .i64 M.sets, .int .i64 M.copies, .int .i64 M.winners, .sl 1 (L.length + (q.1 + q.2)) 0 L.length (some (L.length + (q.1 + q.2)))]], .rows 5 (rws L ++ jk q.1 q.2)]
theorem lessH_none (M : Mv) (L : List Rw) : lessH M L none = [.rows 6 [[.int .i64 M.tables, .int .i64 M.rounds, .int .i64 M.sets, .int .i64 M.copies, .int .i64 M.winners, .sl 1 L.length 0 L.length none]], .rows 5 (rws L)] := rfl
theorem lessH_some (M : Mv) (L : List Rw) (q : Nat × Nat) : lessH M L (some q) = [.rows 6 [[.int .i64 M.tables, .int .i64 M.rounds, .int .i64 M.sets, .int .i64 M.copies, .int .i64 M.winners, .sl 1 (L.length + (q.1 + q.2)) 0 L.length (some (L.length + (q.1 + q.2)))]], .rows 5 (rws L ++ jk q.1 q.2)] := rfl
theorem checkLess_fun (t r k : Int) (out : List Int) (lim : Int) (ht : 0 ≤ t ∧ t < 256) (hr : 0 ≤ r ∧ r < 256) (hk : 0 ≤ k ∧ k < 256) (ho : ∀ x ∈ out, 0 ≤ x ∧ x < 256) (hol : out.length < 2 ^ 63) (_hl : -2 ^ 63 ≤ lim ∧ lim < 2 ^ 63) : FN 8 [.int .u8 t, .int .u8 r, .int .u8 k, .fz 1 (bys .u8 out), .int .i64 lim] (fun v => v = .bool true) := by
  refine IFun.of_bodyZ false 20 [21, 30, 31, 32, 33, 40] Try.func8 rfl Try.call8 rfl fun R hR => ?_
  obtain ⟨T, N, ok⟩ := md28_ok ht.1 hr.1 hk.1 (t := t) (r := r) (k := k)
  have c := made28_fun t r k ht hr hk
  obtain ⟨M, hM⟩ : ∃ M, md28 t r k = M := ⟨_, rfl⟩
  rw [hM] at ok c
  clear hM
  have hlen := ok.len_le
  have hfair := ok.fair
  have hfr := ok.frame
  obtain ⟨tb, ro, se, co, wi, L⟩ := M
  simp only at hlen hfair
  simp [go_sem]
  refine awake_fun.callF (by simp [go_sem]) ?_
  rintro _ rfl
  simp [go_sem]
  refine c.callM (by simp [go_sem]) ?_
  rintro _ rfl
  simp [go_sem, Mv.v]
  refine (cloneRows_fun L (by omega)).callOF (by simp [go_sem]) ?_
  rintro _ rfl
  refine ⟨fun v => v, 5, _, .here, by decide, rfl, by simp [go_sem], ?_⟩
  simp [go_sem]
  refine IWp.loopT (α := Nat × List Rw × Option (Nat × Nat)) (fun x => (⟨false, 75, 20, [21, 30, 31, 32, 33, 40], [], [(4, .int .i64 lim), (11, .ptr 0 1 0 0), (30, .fz 1 (bys .u8 out)), (31, .int .i64 out.length), (32, .int .i64 (x.1 : Int))], []⟩, lessH ⟨tb, ro, se, co, wi, L⟩ x.2.1 x.2.2))
    (fun x => x.1 ≤ out.length ∧ x.2.1.Sublist L) (fun x => out.length - x.1) (0, L, none) (by simp) (by simp [go_sem, lessH_none]) ?_
  rintro ⟨i, l, q⟩ ⟨hi, hs⟩
  simp only at hi hs
  have hll : l.length ≤ 1128 := Nat.le_trans hs.length_le hlen
  by_cases h : i < out.length
  · have w1 : IntKind.i64.wrap ((i : Int) + 1) = i + 1 := wrap64 (by omega) (by omega)
    have hx := ho out[i] (List.getElem_mem h)
    generalize hxe : out[i] = x at hx
    have w2 : IntKind.i64.wrap x = x := wrap64 (by omega) (by omega)
    by_cases h0 : l.length = 0
    · obtain rfl : l = [] := List.length_eq_zero_iff.1 h0
      cases q with
      | none =>
        rw [lessH_none]
        simp [go_sem, h, hxe, w1]
        exact ⟨i + 1, [], ⟨by omega, none, by simp [go_sem, lessH_none]⟩, ⟨by omega, hs⟩, by omega⟩
      | some q =>
        rw [lessH_some]
        simp [go_sem, h, hxe, w1]
        exact ⟨i + 1, [], ⟨by omega, some q, by simp [go_sem, lessH_some]⟩, ⟨by omega, hs⟩, by omega⟩
    · have hz : ¬ (l.length : Int) = 0 := by omega
      have hz2 : (0 : Int) < l.length := by omega
      have hne : ¬ l = [] := fun e => h0 (by rw [e]; rfl)
      have hz3 : 0 < l.length := by omega
      have e1 : x.tmod l.length = x % l.length := Int.tmod_eq_emod_of_nonneg (by omega)
      have m1 := Int.emod_nonneg x hz
      have m2 := Int.emod_lt_of_pos x hz2
      obtain ⟨j, hj⟩ : ∃ j : Nat, x % (l.length : Int) = j := ⟨(x % (l.length : Int)).toNat, by omega⟩
      rw [hj] at e1 m2
      have hjl : j < l.length := by omega
      have w3 : IntKind.i64.wrap ((j : Int) + 1) = j + 1 := wrap64 (by omega) (by omega)
      have hE : (l.eraseIdx j).length = l.length - 1 := by simp [List.length_eraseIdx, hjl]
      have hEs : (l.eraseIdx j).Sublist L := (List.eraseIdx_sublist l j).trans hs
      cases q with
      | none =>
        rw [lessH_none]
        simp [go_sem, h, hxe, w1, w2, w3, e1, hz, hz2, hz3, hne]
        refine ((deleteRows_junk l j hjl (by omega)).at [1] (by simp [go_sem])) ?_
        rintro _ _ ⟨j2, rfl, rfl⟩
        generalize l.eraseIdx j = E at *
        rw [← jk_zero, ← jk_succ]
        simp [go_sem, w1]
        refine ⟨i + 1, E, ⟨by omega, some (1, j2), ?_⟩, ⟨by omega, hEs⟩, by omega⟩
        rw [lessH_some]
        simp [go_sem, hE]
        omega
      | some q =>
        rw [lessH_some]
        simp [go_sem, h, hxe, w1, w2, w3, e1, hz, hz2, hz3, hne]
        refine ((deleteRows_some l (jk q.1 q.2) j _ hjl (by rw [jk_length]) (by omega)).at [1] (by simp [go_sem])) ?_
        rintro _ _ ⟨rfl, rfl⟩
        generalize l.eraseIdx j = E at *
        rw [← jk_succ]
        simp [go_sem, w1]
        refine ⟨i + 1, E, ⟨by omega, some (q.1 + 1, q.2), ?_⟩, ⟨by omega, hEs⟩, by omega⟩
        rw [lessH_some]
        simp [go_sem, hE]
        omega
  · have hf2 : frameP ⟨tb, ro, se, co, wi, l⟩ := by
      obtain ⟨a1, a2, a3, a4, a5, a6, a7, a8, a9⟩ := hfr
      refine ⟨a1, a2, a3, a4, a5, a6, a7, a8, ?_⟩
      have := hs.length_le
      simp only at a9 ⊢
      omega
    have hp1 := fair_pass (m := ⟨tb, ro, se, co, wi, l⟩) (lim := 1) (by omega) hf2 (hfair.sub hs)
    have hp2 := fair_pass (m := ⟨tb, ro, se, co, wi, l⟩) (lim := max lim 1) (by omega) hf2 (hfair.sub hs)
    have hmx : max lim 1 = if 1 > lim then 1 else lim := by split <;> omega
    rw [hmx] at hp2
    have v0 : IntKind.i64.wrap 0 = 0 := by decide
    have hi' : i = out.length := by omega
    subst hi'
    cases q with
    | none =>
      rw [lessH_none]
      simp [go_sem]
      refine (passes_fun ⟨tb, ro, se, co, wi, l⟩ 1).callF (by simp [go_sem, Mv.v]) ?_
      rintro _ rfl
      rw [hp1.1, hp1.2]
      simp [go_sem]
      refine (passes_fun ⟨tb, ro, se, co, wi, l⟩ (if 1 > lim then 1 else lim)).callF (by simp [go_sem, Mv.v]) ?_
      rintro _ rfl
      rw [hp2.1, hp2.2]
      simp [go_sem, v0]
      exact hR _ _ _ rfl (by simp [go_sem])
    | some q =>
      have htk : List.take l.length (rws l ++ jk q.1 q.2) = rws l := by
        rw [List.take_append_of_le_length (by simp), List.take_of_length_le (by simp)]
      rw [lessH_some]
      simp [go_sem]
      refine (passes_fun ⟨tb, ro, se, co, wi, l⟩ 1).callF (by simp [go_sem, Mv.v, htk]) ?_
      rintro _ rfl
      rw [hp1.1, hp1.2]
      simp [go_sem]
      refine (passes_fun ⟨tb, ro, se, co, wi, l⟩ (if 1 > lim then 1 else lim)).callF (by simp [go_sem, Mv.v, htk]) ?_
      rintro _ rfl
      rw [hp2.1, hp2.2]
      simp [go_sem, v0]
      exact hR _ _ _ rfl (by simp [go_sem])
theorem checkLess_law (t r k : Int) (l : List Int) (n : Int) (h0 : (Lit.int .u8 t).wf = true) (h1 : (Lit.int .u8 r).wf = true) (h2 : (Lit.int .u8 k).wf = true) (h3 : ∀ x ∈ l, (Lit.int .u8 x).wf = true) (h4 : l.length ≤ maxLen) (h5 : (Lit.int .i64 n).wf = true) :
    FN 8 [.int .u8 t, .int .u8 r, .int .u8 k, .fz 1 (bys .u8 l), .int .i64 n] (fun v => v = .bool true) := checkLess_fun t r k l n (wf8 h0) (wf8 h1) (wf8 h2) (fun x hx => wf8 (h3 x hx)) (by unfold maxLen at h4; omega) (wf64 h5)
end Go.Idl
