import Derived.Test.YtjaefodhiegmmaaC26nG
namespace Go.Idl
set_option linter.all false
open Go.Proofs
set_option maxHeartbeats 4000000
set_option maxRecDepth 20000

def kp (p : Int × Int) : IV := .agg [.int .i64 p.1, .int .i64 p.2]
theorem kp_eq (a b : Int × Int) : keq (kp a) (kp b) = decide (a = b) := by
  obtain ⟨a1, a2⟩ := a
  obtain ⟨b1, b2⟩ := b
  simp only [keq, kp, IV.cells, ceqs, ceq, Prod.mk.injEq]
  by_cases h1 : a1 = b1 <;> by_cases h2 : a2 = b2 <;> simp [h1, h2]
def seen (S : List ((Int × Int) × Bool)) : List (IV × IV) := enM kp .bool S
theorem mget_seen (w x : Int) (S : List ((Int × Int) × Bool)) : mget (.agg [.int .i64 w, .int .i64 x]) (seen S) = (aget (w, x) S).map .bool := mget_en (kf := kp) kp_eq (w, x) S
theorem mset_seen (w x : Int) (b : Bool) (S : List ((Int × Int) × Bool)) : mset (.agg [.int .i64 w, .int .i64 x]) (.bool b) (seen S) = seen (aset (w, x) b S) := mset_en (kf := kp) (vf := .bool) kp_eq (w, x) b S
theorem ok_seen (S : List ((Int × Int) × Bool)) : ∀ e ∈ seen S, keyOK Try.prog 44 [.int .i64, .int .i64] e.1 = true := en_ok (fun a => by simp [go_sem, kp, keyOK]) S
@[go_sem] theorem bl_seen {n : Nat} {S : List ((Int × Int) × Bool)} : BlM n (seen S) = True := eq_true (en_bl (fun a => by simp [go_sem, kp]) (fun b => by simp [go_sem]) S)

theorem fresh_fun (w x a b : Int) (S : List ((Int × Int) × Bool)) : ICalls Try.prog [] 36 [.int .i64 w, .int .i64 x, .ptr 1 1 0 0] [.map (seen S), .rows 1 [[.map 0]], .rows 2 [[.int .i64 a, .int .i64 b]]]
    fun r σ' => r = .bool (!(aget (w, x) S).getD false) ∧ σ' = [.map (seen (aset (w, x) true S)), .rows 1 [[.map 0]], .rows 2 [[.int .i64 a, .int .i64 b]]] := by
  refine ICalls.forget (ICalls.of_bodyE false 8 [] Try.func36 rfl Try.call36 rfl fun R hR => ?_)
  have hok : ∀ (a b : IV), (a, b) ∈ seen S → keyOK Try.prog 44 [.int .i64, .int .i64] a = true := fun a b h => ok_seen S (a, b) h
  cases hg : aget (w, x) S with
  | none =>
    simp [go_sem, mget_seen, mset_seen, hg]
    exact ⟨fun a b h => by simpa [go_sem] using hok a b h, hR _ _ ⟨_, ⟨fgt_append [_, _, _] _, by simp, by simp [go_sem], by simp [go_sem]⟩, by simp [hg], rfl⟩⟩
  | some c =>
    simp [go_sem, mget_seen, mset_seen, hg]
    exact ⟨fun a b h => by simpa [go_sem] using hok a b h, hR _ _ ⟨_, ⟨fgt_append [_, _, _] _, by simp, by simp [go_sem], by simp [go_sem]⟩, by simp [hg], rfl⟩⟩

theorem nums_snoc (l : List (Int × Int)) (p : Int × Int) : nums (l ++ [p]) = nums l ++ [p.1, p.2] := by simp [nums]
theorem difs_snoc (n : Int) (l : List (Int × Int)) (p : Int × Int) : difs n (l ++ [p]) = difs n l ++ [(p.1 - p.2 + n).tmod n, (p.2 - p.1 + n).tmod n] := by simp [difs]
theorem sums_snoc (n : Int) (l : List (Int × Int)) (p : Int × Int) : sums n (l ++ [p]) = sums n l ++ [(p.1 + p.2).tmod n] := by simp [sums]
theorem nodup_two {A : List Int} {u v : Int} : (A ++ [u, v]).Nodup ↔ A.Nodup ∧ u ∉ A ∧ v ∉ A ∧ u ≠ v := by
  rw [List.nodup_append]
  simp only [List.nodup_cons, List.mem_singleton, List.not_mem_nil, not_false_eq_true, List.nodup_nil, and_true, List.mem_cons, or_false]
  constructor
  · rintro ⟨h1, h2, h3⟩
    exact ⟨h1, fun h => h3 u h u (.inl rfl) rfl, fun h => h3 v h v (.inr rfl) rfl, h2⟩
  · rintro ⟨h1, h2, h3, h4⟩
    refine ⟨h1, h4, fun a ha b hb e => ?_⟩
    subst e
    rcases hb with rfl | rfl
    · exact h2 ha
    · exact h3 ha
theorem nodup_one {A : List Int} {u : Int} : (A ++ [u]).Nodup ↔ A.Nodup ∧ u ∉ A := by
  rw [List.nodup_append]
  simp only [List.nodup_cons, List.not_mem_nil, not_false_eq_true, List.nodup_nil, and_true, List.mem_singleton, true_and]
  constructor
  · rintro ⟨h1, h3⟩
    exact ⟨h1, fun h => h3 u h u rfl rfl⟩
  · rintro ⟨h1, h2⟩
    exact ⟨h1, fun a ha b hb e => by subst e; subst hb; exact h2 ha⟩
theorem good_take {n : Int} {l : List (Int × Int)} (h : Good n l) (i : Nat) : Good n (l.take i) := by
  obtain ⟨h1, h2, h3⟩ := h
  rw [← List.take_append_drop i l] at h2 h3
  simp only [nums, difs, List.flatMap_append] at h2 h3
  exact ⟨fun p hp => h1 p (List.mem_of_mem_take hp), (List.nodup_append.1 h2).1, (List.nodup_append.1 h3).1⟩

/-- What has been seen: the numbers, the differences, the sums. -/
def Sn (n : Int) (S : List ((Int × Int) × Bool)) (a b c : List Int) : Prop := (∀ x, (aget (0, x) S).getD false = decide (x ∈ a)) ∧ (∀ x, (aget (1, x) S).getD false = decide (x ∈ b)) ∧ ∀ x, (aget (2, x) S).getD false = decide (x ∈ c)
theorem Sn.put0 {n : Int} {S : List ((Int × Int) × Bool)} {a b c : List Int} (h : Sn n S a b c) (u : Int) : Sn n (aset (0, u) true S) (a ++ [u]) b c := by
  refine ⟨fun x => ?_, fun x => ?_, fun x => ?_⟩
  · rw [aget_aset]
    by_cases e : x = u
    · subst e; simp
    · have : ¬ ((0 : Int), x) = (0, u) := fun h => e (by simpa using h)
      rw [if_neg this, h.1 x]; simp [e]
  · rw [aget_aset, if_neg (by simp), h.2.1 x]
  · rw [aget_aset, if_neg (by simp), h.2.2 x]
theorem Sn.put1 {n : Int} {S : List ((Int × Int) × Bool)} {a b c : List Int} (h : Sn n S a b c) (u : Int) : Sn n (aset (1, u) true S) a (b ++ [u]) c := by
  refine ⟨fun x => ?_, fun x => ?_, fun x => ?_⟩
  · rw [aget_aset, if_neg (by simp), h.1 x]
  · rw [aget_aset]
    by_cases e : x = u
    · subst e; simp
    · have : ¬ ((1 : Int), x) = (1, u) := fun h => e (by simpa using h)
      rw [if_neg this, h.2.1 x]; simp [e]
  · rw [aget_aset, if_neg (by simp), h.2.2 x]
theorem Sn.put2 {n : Int} {S : List ((Int × Int) × Bool)} {a b c : List Int} (h : Sn n S a b c) (u : Int) : Sn n (aset (2, u) true S) a b (c ++ [u]) := by
  refine ⟨fun x => ?_, fun x => ?_, fun x => ?_⟩
  · rw [aget_aset, if_neg (by simp), h.1 x]
  · rw [aget_aset, if_neg (by simp), h.2.1 x]
  · rw [aget_aset]
    by_cases e : x = u
    · subst e; simp
    · have : ¬ ((2 : Int), x) = (2, u) := fun h => e (by simpa using h)
      rw [if_neg this, h.2.2 x]; simp [e]

theorem check_fun (n : Int) (l : List (Int × Int)) (hl : l.length ≤ 2 ^ 32) : IFun true Try.prog [] 19 [.int .i64 n, .fz 2 (prs l)] (fun v => ∃ b e, v = .tup [.bool b, .int .i64 e] ∧ ChkV n l b e) := by
  refine IFun.of_bodyZ false 6 [6, 7, 8, 10, 11, 12, 13, 24, 30, 33, 34, 35, 36, 70, 92, 105] Try.func19 rfl Try.call19 rfl fun R hR => ?_
  simp [go_sem]
  split
  · rename_i hb
    exact hR _ _ _ ⟨_, _, rfl, .inl ⟨by unfold BadN; omega, rfl, rfl⟩⟩ (by simp [go_sem])
  rename_i hb
  have hbad : ¬ BadN n := by unfold BadN; omega
  have hn : 3 ≤ n ∧ n ≤ 47 := by omega
  have hq0 : (n - 1).tdiv 2 = (n - 1) / 2 := Int.tdiv_eq_ediv_of_nonneg (by omega)
  rw [wrap64 (n := n - 1) (by omega) (by omega), wrap64 (by omega) (by omega)]
  split
  case isFalse hlen => exact hR _ _ _ ⟨_, _, rfl, .inr (.inl ⟨hbad, .inl hlen, rfl, rfl⟩)⟩ (by simp [go_sem])
  rename_i hlen
  refine IWp.loopT (α := Nat × List ((Int × Int) × Bool) × Bool) (fun x => (⟨false, 108, 6, [6, 7, 8, 10, 11, 12, 13, 24, 30, 33, 34, 35, 36, 70, 92, 105], [], [(0, .int .i64 n), (7, .func (.func 36) [] [.ptr 1 1 0 0]), (8, .bool x.2.2), (33, .fz 2 (prs l)), (34, .int .i64 l.length), (35, .int .i64 x.1)], []⟩, [.map (seen x.2.1), .rows 1 [[.map 0]]]))
    (fun x => x.1 ≤ l.length ∧ Good n (l.take x.1) ∧ Sn n x.2.1 (nums (l.take x.1)) (difs n (l.take x.1)) (sums n (l.take x.1)) ∧ (x.2.2 = true ↔ Str n (l.take x.1))) (fun x => l.length - x.1) (0, [], true) ⟨by simp, by simp [Good, nums, difs], by simp [Sn, nums, difs, sums, aget], by simp [Str, sums]⟩ (by simp [go_sem, seen]) ?_
  rintro ⟨i, S, b⟩ ⟨hi, hg, hS, hb⟩
  simp only at hi hg hS hb
  by_cases h : i < l.length
  · have hsucc : l.take (i + 1) = l.take i ++ [l[i]] := List.take_succ_eq_append_getElem h
    have bad : ¬ Good n (l.take (i + 1)) → ¬ Good n l := fun h hg => h (good_take hg _)
    by_cases hin : InR n l[i]
    case neg =>
      have hbad2 : ¬ Good n l := bad fun hg => hin (hg.1 _ (by rw [hsucc]; exact List.mem_append_right _ (by simp)))
      unfold InR at hin
      simp [go_sem, h]
      refine ⟨by decide +kernel, ?_⟩
      rw [if_neg (by omega)]
      exact ⟨by omega, by omega, hR _ _ _ ⟨false, 260, rfl, .inr (.inl ⟨hbad, .inr hbad2, rfl, rfl⟩)⟩ (by simp [go_sem])⟩
    have err : ¬ Good n (l.take (i + 1)) → ∀ σ, R (.tup [.bool false, .int .i64 260]) σ := fun hb σ => hR _ _ _ ⟨false, 260, rfl, .inr (.inl ⟨hbad, .inr (bad hb), rfl, rfl⟩)⟩ (by simp [go_sem])
    rw [hsucc] at err
    have hin' := hin
    unfold InR at hin
    obtain ⟨x, hx⟩ : ∃ x, x = l[i].1 := ⟨_, rfl⟩
    obtain ⟨y, hy⟩ : ∃ y, y = l[i].2 := ⟨_, rfl⟩
    rw [← hx, ← hy] at hin
    have a1 : ¬ x < 1 := by omega
    have a2 : ¬ n ≤ x := by omega
    have a3 : ¬ y < 1 := by omega
    have a4 : ¬ n ≤ y := by omega
    have b1 : 1 ≤ x := by omega
    have b2 : x < n := by omega
    have b3 : 1 ≤ y := by omega
    have b4 : y < n := by omega
    have w1 : IntKind.i64.wrap (x - y) = x - y := wrap64 (by omega) (by omega)
    have w2 : IntKind.i64.wrap (x - y + n) = x - y + n := wrap64 (by omega) (by omega)
    have w3 : IntKind.i64.wrap (y - x) = y - x := wrap64 (by omega) (by omega)
    have w4 : IntKind.i64.wrap (y - x + n) = y - x + n := wrap64 (by omega) (by omega)
    have w5 : IntKind.i64.wrap (x + y) = x + y := wrap64 (by omega) (by omega)
    have n0 : ¬ n = 0 := by omega
    have r1 := hS.1 x
    have hS1 := hS.put0 x
    have r2 := hS1.1 y
    have hS2 := hS1.put0 y
    obtain ⟨d, hd⟩ : ∃ d, d = (x - y + n).tmod n := ⟨_, rfl⟩
    have r3 := hS2.2.1 d
    have hS3 := hS2.put1 d
    obtain ⟨d', hd'⟩ : ∃ d, d = (y - x + n).tmod n := ⟨_, rfl⟩
    have r4 := hS3.2.1 d'
    have hS4 := hS3.put1 d'
    obtain ⟨z, hz⟩ : ∃ d, d = (x + y).tmod n := ⟨_, rfl⟩
    have r5 := hS4.2.2 z
    have hS5 := hS4.put2 z
    simp [go_sem, h, ← hx, ← hy, a1, a2, a3, a4, b1, b2, b3, b4]
    refine ⟨by decide +kernel, (fresh_fun 0 x x y S).mono ?_⟩
    rintro _ _ ⟨rfl, rfl⟩
    rw [r1]
    by_cases m1 : x ∈ nums (l.take i)
    · simp [go_sem, a1, a2, a3, a4, b1, b2, b3, b4, m1]
      refine err (fun hg => ?_) _
      have := hg.2.1
      rw [nums_snoc, nodup_two, ← hx] at this
      exact this.2.1 m1
    simp [go_sem, a1, a2, a3, a4, b1, b2, b3, b4, m1]
    refine (fresh_fun 0 y x y _).mono ?_
    rintro _ _ ⟨rfl, rfl⟩
    rw [r2]
    by_cases m2 : y ∈ nums (l.take i) ++ [x]
    · simp [go_sem, a1, a2, a3, a4, b1, b2, b3, b4, m1, m2, -List.mem_append]
      refine err (fun hg => ?_) _
      have := hg.2.1
      rw [nums_snoc, nodup_two, ← hx, ← hy] at this
      rcases List.mem_append.1 m2 with m2 | m2
      · exact this.2.2.1 m2
      · exact this.2.2.2 (List.mem_singleton.1 m2).symm
    simp [go_sem, a1, a2, a3, a4, b1, b2, b3, b4, m1, m2, w1, w2, ← hd, n0, -List.mem_append]
    refine (fresh_fun 1 d x y _).mono ?_
    rintro _ _ ⟨rfl, rfl⟩
    rw [r3]
    by_cases m3 : d ∈ difs n (l.take i)
    · simp [go_sem, m3]
      refine err (fun hg => ?_) _
      have := hg.2.2
      rw [difs_snoc, nodup_two, ← hx, ← hy, ← hd] at this
      exact this.2.1 m3
    simp [go_sem, m3, w3, w4, ← hd', n0]
    refine (fresh_fun 1 d' x y _).mono ?_
    rintro _ _ ⟨rfl, rfl⟩
    rw [r4]
    by_cases m4 : d' ∈ difs n (l.take i) ++ [d]
    · simp [go_sem, m4, -List.mem_append]
      refine err (fun hg => ?_) _
      have := hg.2.2
      rw [difs_snoc, nodup_two, ← hx, ← hy, ← hd, ← hd'] at this
      rcases List.mem_append.1 m4 with m4 | m4
      · exact this.2.2.1 m4
      · exact this.2.2.2 (List.mem_singleton.1 m4).symm
    simp [go_sem, m4, w5, ← hz, n0, -List.mem_append]
    refine (fresh_fun 2 z x y _).mono ?_
    rintro _ _ ⟨rfl, rfl⟩
    rw [r5]
    rw [List.mem_append, not_or, List.mem_singleton] at m2 m4
    have hgood : Good n (l.take i ++ [l[i]]) := by
      refine ⟨fun p hp => ?_, ?_, ?_⟩
      · rcases List.mem_append.1 hp with hp | hp
        · exact hg.1 p hp
        · rw [List.mem_singleton.1 hp]; exact hin'
      · rw [nums_snoc, nodup_two, ← hx, ← hy]; exact ⟨hg.2.1, m1, m2.1, fun e => m2.2 e.symm⟩
      · rw [difs_snoc, nodup_two, ← hx, ← hy, ← hd, ← hd']; exact ⟨hg.2.2, m3, m4.1, fun e => m4.2 e.symm⟩
    have hSn : Sn n (aset (2, z) true (aset (1, d') true (aset (1, d) true (aset (0, y) true (aset (0, x) true S))))) (nums (l.take (i + 1))) (difs n (l.take (i + 1))) (sums n (l.take (i + 1))) := by
      rw [hsucc, nums_snoc, difs_snoc, sums_snoc, ← hx, ← hy, ← hd, ← hd', ← hz]
      simpa using hS5
    have hstr : Str n (l.take (i + 1)) ↔ Str n (l.take i) ∧ z ∉ sums n (l.take i) ∧ z ≠ 0 := by
      unfold Str
      rw [hsucc, sums_snoc, ← hx, ← hy, ← hz, nodup_one]
      simp only [List.mem_append, List.mem_singleton, not_or]
      constructor
      · rintro ⟨⟨p1, p2⟩, p3, p4⟩; exact ⟨⟨p1, p3⟩, p2, fun e => p4 e.symm⟩
      · rintro ⟨⟨p1, p3⟩, p2, p4⟩; exact ⟨⟨p1, p2⟩, p3, fun e => p4 e.symm⟩
    have hwi : IntKind.i64.wrap ((i : Int) + 1) = ((i + 1 : Nat) : Int) := by rw [wrap64 (by omega) (by omega)]; rfl
    rw [← hsucc] at hgood
    by_cases m5 : z ∈ sums n (l.take i)
    · simp [go_sem, m5]
      exact ⟨i + 1, _, ⟨hwi, rfl⟩, ⟨by omega, hgood, hSn, fun hs => (hstr.1 hs).2.1 m5⟩, by omega⟩
    · simp [go_sem, m5]
      split
      · rename_i hz0
        exact ⟨i + 1, _, ⟨hwi, rfl⟩, ⟨by omega, hgood, hSn, fun hs => (hstr.1 hs).2.2 hz0⟩, by omega⟩
      · rename_i hz0
        refine ⟨i + 1, aset (2, z) true (aset (1, d') true (aset (1, d) true (aset (0, y) true (aset (0, x) true S)))), ?_⟩
        cases b with
        | false => exact .inl ⟨⟨⟨rfl, hwi⟩, rfl⟩, ⟨by omega, hgood, hSn, fun hs => by have := hb.2 (hstr.1 hs).1; cases this⟩, by omega⟩
        | true => exact .inr ⟨⟨⟨rfl, hwi⟩, rfl⟩, ⟨by omega, hgood, hSn, hstr.2 ⟨hb.1 rfl, m5, hz0⟩⟩, by omega⟩
  · simp [go_sem, h]
    have : i = l.length := by omega
    subst this
    rw [List.take_length] at hg hb
    exact hR _ _ _ ⟨b, 0, rfl, .inr (.inr ⟨hbad, hlen, hg, hb, rfl⟩)⟩ (by simp [go_sem])
end Go.Idl
