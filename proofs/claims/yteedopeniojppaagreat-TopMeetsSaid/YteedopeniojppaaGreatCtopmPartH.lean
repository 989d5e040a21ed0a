/-
  Package howell (turned from chapter 26).
  Package howell (turned from chapter 26).
  Package howell (turned from chapter 26).
  Package howell (turned from chapter 26).
-/
import Derived.Test.YteedopeniojppaaGreatCtopmPartG
namespace Go.Idl.How
set_option linter.all false
open Go.Idl
open Go.Proofs
set_option maxHeartbeats 4000000
set_option maxRecDepth 20000

def kp (p : Int × Int) : IV := .agg [.int .i64 p.1, .int .i64 p.2]
theorem kp_eq (a b : Int × Int) : keq (kp a) (kp b) = decide (a = b) := by
  obtain ⟨a1, a2⟩ := a
  obtain ⟨b1, b2⟩ := b
  simp only [keq, kp, IV.cells, ceqs, ceq, Prod.mk.injEq]
  by_cases h1 : a1 = b1 <;> by_cases h2 : a2 = b2 <;> simp [h1, h2]
def seen (S : List ((Int × Int) × Bool)) : List (IV × IV) := enM kp .bool S
theorem mget_seen (w x : Int) (S : List ((Int × Int) × Bool)) : mget (.agg [.int .i64 w, .int .i64 x]) (seen S) = (aget (w, x) S).map .bool := mget_en (kf := kp) kp_eq (w, x) S
theorem mset_seen (w x : Int) (b : Bool) (S : List ((Int × Int) × Bool)) : mset (.agg [.int .i64 w, .int .i64 x]) (.bool b) (seen S) = seen (aset (w, x) b S) := mset_en (kf := kp) (vf := .bool) kp_eq (w, x) b S
theorem ok_seen (S : List ((Int × Int) × Bool)) : ∀ e ∈ seen S, keyOK Tryz.prog 43 [.int .i64, .int .i64] e.1 = true := en_ok (fun a => by simp [go_sem, kp, keyOK]) S
@[go_sem] theorem bl_seen {n : Nat} {S : List ((Int × Int) × Bool)} : BlM n (seen S) = True := eq_true (en_bl (fun a => by simp [go_sem, kp]) (fun b => by simp [go_sem]) S)

theorem fresh_fun (w x a b : Int) (S : List ((Int × Int) × Bool)) : ICalls Tryz.prog [] 74 [.int .i64 w, .int .i64 x, .ptr 1 1 0 0] [.map (seen S), .rows 1 [[.map 0]], .rows 2 [[.int .i64 a, .int .i64 b]]]
    fun r σ' => r = .bool (!(aget (w, x) S).getD false) ∧ σ' = [.map (seen (aset (w, x) true S)), .rows 1 [[.map 0]], .rows 2 [[.int .i64 a, .int .i64 b]]] := by
  refine ICalls.forget (ICalls.of_bodyE false 8 [] Tryz.func74 rfl Tryz.call74 rfl fun R hR => ?_)
  have hok : ∀ (a b : IV), (a, b) ∈ seen S → keyOK Tryz.prog 43 [.int .i64, .int .i64] a = true := fun a b h => ok_seen S (a, b) h
  cases hg : aget (w, x) S with
  | none =>
    simp [go_sem, mget_seen, mset_seen, hg]
    exact ⟨fun a b h => by simpa [go_sem] using hok a b h, hR _ _ ⟨_, ⟨fgt_append [_, _, _] _, by simp, by simp [go_sem], by simp [go_sem]⟩, by simp [hg], rfl⟩⟩
  | some c =>
    simp [go_sem, mget_seen, mset_seen, hg]
    exact ⟨fun a b h => by simpa [go_sem] using hok a b h, hR _ _ ⟨_, ⟨fgt_append [_, _, _] _, by simp, by simp [go_sem], by simp [go_sem]⟩, by simp [hg], rfl⟩⟩

theorem nums_snoc (l : List (Int × Int)) (p : Int × Int) : nums (l ++ [p]) = nums l ++ [p.1, p.2] := by simp [nums]
theorem difs_snoc (n : Int) (l : List (Int × Int)) (p : Int × Int) : difs n (l ++ [p]) = difs n l ++ [(p.1 - p.2 + n).tmod n, (p.2 - p.1 + n).tmod n] := by simp [difs]
theorem sums_snoc (n : Int) (l : List (Int × Int)) (p : Int × Int) : sums n (l ++ [p]) = sums n l ++ [(p.1 + p.2).tmod n] := by simp [sums]
theorem nodup_two {A : List Int} {u v : Int} : (A ++ [u, v]).Nodup ↔ A.Nodup ∧ u ∉ A ∧ v ∉ A ∧ u ≠ v := by
  rw [List.nodup_append]
  simp only [List.nodup_cons, List.mem_singleton, List.not_mem_nil, not_false_eq_true, List.nodup_nil, and_true, List.mem_cons, or_false]
  constructor
  · rintro ⟨h1, h2, h3⟩
    exact ⟨h1, fun h => h3 u h u (.inl rfl) rfl, fun h => h3 v h v (.inr rfl) rfl, h2⟩
  · rintro ⟨h1, h2, h3, h4⟩
    refine ⟨h1, h4, fun a ha b hb e => ?_⟩
    subst e
    rcases hb with rfl | rfl
    · exact h2 ha
    · exact h3 ha
theorem nodup_one {A : List Int} {u : Int} : (A ++ [u]).Nodup ↔ A.Nodup ∧ u ∉ A := by
  rw [List.nodup_append]
  simp only [List.nodup_cons, List.not_mem_nil, not_false_eq_true, List.nodup_nil, and_true, List.mem_singleton, true_and]
  constructor
  · rintro ⟨h1, h3⟩
    exact ⟨h1, fun h => h3 u h u rfl rfl⟩
  · rintro ⟨h1, h2⟩
    exact ⟨h1, fun a ha b hb e => by subst e; subst hb; exact h2 ha⟩
theorem good_take {n : Int} {l : List (Int × Int)} (h : Good n l) (i : Nat) : Good n (l.take i) := by
  obtain ⟨h1, h2, h3⟩ := h
  rw [← List.take_append_drop i l] at h2 h3
  simp only [nums, difs, List.flatMap_append] at h2 h3
  exact ⟨fun p hp => h1 p (List.mem_of_mem_take hp), (List.nodup_append.1 h2).1, (List.nodup_append.1 h3).1⟩

/-- What has been seen: the numbers, the differences, the sums. -/
def Sn (n : Int) (S : List ((Int × Int) × Bool)) (a b c : List Int) : Prop := (∀ x, (aget (0, x) S).getD false = decide (x ∈ a)) ∧ (∀ x, (aget (1, x) S).getD false = decide (x ∈ b)) ∧ ∀ x, (aget (2, x) S).getD false = decide (x ∈ c)
theorem Sn.put0 {n : Int} {S : List ((Int × Int) × Bool)} {a b c : List Int} (h : Sn n S a b c) (u : Int) : Sn n (aset (0, u) true S) (a ++ [u]) b c := by
  refine ⟨fun x => ?_, fun x => ?_, fun x => ?_⟩
  · rw [aget_aset]
    by_cases e : x = u
    · subst e; simp
    · have : ¬ ((0 : Int), x) = (0, u) := fun h => e (by simpa using h)
      rw [if_neg this, h.1 x]; simp [e]
  · rw [aget_aset, if_neg (by simp), h.2.1 x]
  · rw [aget_aset, if_neg (by simp), h.2.2 x]
theorem Sn.put1 {n : Int} {S : List ((Int × Int) × Bool)} {a b c : List Int} (h : Sn n S a b c) (u : Int) : Sn n (aset (1, u) true S) a (b ++ [u]) c := by
  refine ⟨fun x => ?_, fun x => ?_, fun x => ?_⟩
  · rw [aget_aset, if_neg (by simp), h.1 x]
  · rw [aget_aset]
    by_cases e : x = u
    · subst e; simp
    · have : ¬ ((1 : Int), x) = (1, u) := fun h => e (by simpa using h)
      rw [if_neg this, h.2.1 x]; simp [e]
  · rw [aget_aset, if_neg (by simp), h.2.2 x]
theorem Sn.put2 {n : Int} {S : List ((Int × Int) × Bool)} {a b c : List Int} (h : Sn n S a b c) (u : Int) : Sn n (aset (2, u) true S) a b (c ++ [u]) := by
  refine ⟨fun x => ?_, fun x => ?_, fun x => ?_⟩
  · rw [aget_aset, if_neg (by simp), h.1 x]
  · rw [aget_aset, if_neg (by simp), h.2.1 x]
  · rw [aget_aset]
    by_cases e : x = u
    · subst e; simp
    · have : ¬ ((2 : Int), x) = (2, u) := fun h => e (by simpa using h)
      rw [if_neg this, h.2.2 x]; simp [e]

theorem check_fun (n : Int) (l : List (Int × Int)) (hl : l.length ≤ 2 ^ 32) : IFun true Tryz.prog [] 48 [.int .i64 n, .fz 2 (prs l)] (fun v => ∃ b e, v = .tup [.bool b, .int .i64 e] ∧ ChkV n l b e) := by
  refine IFun.of_bodyZ false 6 [6, 7, 8, 10, 11, 12, 13, 24, 30, 33, 34, 35, 36, 70, 92, 105] Tryz.func48 rfl Tryz.call48 rfl fun R hR => ?_
  simp [go_sem]
  split
  · rename_i hb
    exact hR _ _ _ ⟨_, _, rfl, .inl ⟨by unfold BadN; omega, rfl, rfl⟩⟩ (by simp [go_sem])
  rename_i hb
  have hbad : ¬ BadN n := by unfold BadN; omega
  have hn : 3 ≤ n ∧ n ≤ 47 := by omega
  have hq0 : (n - 1).tdiv 2 = (n - 1) / 2 := Int.tdiv_eq_ediv_of_nonneg (by omega)
  rw [wrap64 (n := n - 1) (by omega) (by omega), wrap64 (by omega) (by omega)]
  split
  case isFalse hlen => exact hR _ _ _ ⟨_, _, rfl, .inr (.inl ⟨hbad, .inl hlen, rfl, rfl⟩)⟩ (by simp [go_sem])
  rename_i hlen
  refine IWp.loopT (α := Nat × List ((Int × Int) × Bool) × Bool) (fun x => (⟨false, 108, 6, [6, 7, 8, 10, 11, 12, 13, 24, 30, 33, 34, 35, 36, 70, 92, 105], [], [(0, .int .i64 n), (7, .func (.func 74) [] [.ptr 1 1 0 0]), (8, .bool x.2.2), (33, .fz 2 (prs l)), (34, .int .i64 l.length), (35, .int .i64 x.1)], []⟩, [.map (seen x.2.1), .rows 1 [[.map 0]]]))
    (fun x => x.1 ≤ l.length ∧ Good n (l.take x.1) ∧ Sn n x.2.1 (nums (l.take x.1)) (difs n (l.take x.1)) (sums n (l.take x.1)) ∧ (x.2.2 = true ↔ Str n (l.take x.1))) (fun x => l.length - x.1) (0, [], true) ⟨by simp, by simp [Good, nums, difs], by simp [Sn, nums, difs, sums, aget], by simp [Str, sums]⟩ (by simp [go_sem, seen]) ?_
  rintro ⟨i, S, b⟩ ⟨hi, hg, hS, hb⟩
  simp only at hi hg hS hb
  by_cases h : i < l.length
  · have hsucc : l.take (i + 1) = l.take i ++ [l[i]] := List.take_succ_eq_append_getElem h
    have bad : ¬ Good n (l.take (i + 1)) → ¬ Good n l := fun h hg => h (good_take hg _)
    by_cases hin : InR n l[i]
    case neg =>
      have hbad2 : ¬ Good n l := bad fun hg => hin (hg.1 _ (by rw [hsucc]; exact List.mem_append_right _ (by simp)))
      unfold InR at hin
      simp [go_sem, h]
      refine ⟨by decide +kernel, ?_⟩
      rw [if_neg (by omega)]
      exact ⟨by omega, by omega, hR _ _ _ ⟨false, 260, rfl, .inr (.inl ⟨hbad, .inr hbad2, rfl, rfl⟩)⟩ (by simp [go_sem])⟩
    have err : ¬ Good n (l.take (i + 1)) → ∀ σ, R (.tup [.bool false, .int .i64 260]) σ := fun hb σ => hR _ _ _ ⟨false, 260, rfl, .inr (.inl ⟨hbad, .inr (bad hb), rfl, rfl⟩)⟩ (by simp [go_sem])
    rw [hsucc] at err
    have hin' := hin
    unfold InR at hin
    obtain ⟨x, hx⟩ : ∃ x, x = l[i].1 := ⟨_, rfl⟩
    obtain ⟨y, hy⟩ : ∃ y, y = l[i].2 := ⟨_, rfl⟩
    rw [← hx, ← hy] at hin
    have a1 : ¬ x < 1 := by omega
    have a2 : ¬ n ≤ x := by omega
    have a3 : ¬ y < 1 := by omega
    have a4 : ¬ n ≤ y := by omega
    have b1 : 1 ≤ x := by omega
    have b2 : x < n := by omega
    have b3 : 1 ≤ y := by omega
    have b4 : y < n := by omega
    have w1 : IntKind.i64.wrap (x - y) = x - y := wrap64 (by omega) (by omega)
    have w2 : IntKind.i64.wrap (x - y + n) = x - y + n := wrap64 (by omega) (by omega)
    have w3 : IntKind.i64.wrap (y - x) = y - x := wrap64 (by omega) (by omega)
    have w4 : IntKind.i64.wrap (y - x + n) = y - x + n := wrap64 (by omega) (by omega)
    have w5 : IntKind.i64.wrap (x + y) = x + y := wrap64 (by omega) (by omega)
    have n0 : ¬ n = 0 := by omega
    have r1 := hS.1 x
    have hS1 := hS.put0 x
    have r2 := hS1.1 y
    have hS2 := hS1.put0 y
    obtain ⟨d, hd⟩ : ∃ d, d = (x - y + n).tmod n := ⟨_, rfl⟩
    have r3 := hS2.2.1 d
    have hS3 := hS2.put1 d
    obtain ⟨d', hd'⟩ : ∃ d, d = (y - x + n).tmod n := ⟨_, rfl⟩
    have r4 := hS3.2.1 d'
    have hS4 := hS3.put1 d'
    obtain ⟨z, hz⟩ : ∃ d, d = (x + y).tmod n := ⟨_, rfl⟩
    have r5 := hS4.2.2 z
    have hS5 := hS4.put2 z
    simp [go_sem, h, ← hx, ← hy, a1, a2, a3, a4, b1, b2, b3, b4]
    refine ⟨by decide +kernel, (fresh_fun 0 x x y S).mono ?_⟩
    rintro _ _ ⟨rfl, rfl⟩
    rw [r1]
    by_cases m1 : x ∈ nums (l.take i)
    · simp [go_sem, a1, a2, a3, a4, b1, b2, b3, b4, m1]
      refine err (fun hg => ?_) _
      have := hg.2.1
      rw [nums_snoc, nodup_two, ← hx] at this
      exact this.2.1 m1
    simp [go_sem, a1, a2, a3, a4, b1, b2, b3, b4, m1]
    refine (fresh_fun 0 y x y _).mono ?_
    rintro _ _ ⟨rfl, rfl⟩
    rw [r2]
    by_cases m2 : y ∈ nums (l.take i) ++ [x]
    · simp [go_sem, a1, a2, a3, a4, b1, b2, b3, b4, m1, m2, -List.mem_append]
      refine err (fun hg => ?_) _
      have := hg.2.1
      rw [nums_snoc, nodup_two, ← hx, ← hy] at this
      rcases List.mem_append.1 m2 with m2 | m2
      · exact this.2.2.1 m2
      · exact this.2.2.2 (List.mem_singleton.1 m2).symm
    simp [go_sem, a1, a2, a3, a4, b1, b2, b3, b4, m1, m2, w1, w2, ← hd, n0, -List.mem_append]
    refine (fresh_fun 1 d x y _).mono ?_
    rintro _ _ ⟨rfl, rfl⟩
    rw [r3]
    by_cases m3 : d ∈ difs n (l.take i)
    · simp [go_sem, m3]
      refine err (fun hg => ?_) _
      have := hg.2.2
      rw [difs_snoc, nodup_two, ← hx, ← hy, ← hd] at this
      exact this.2.1 m3
    simp [go_sem, m3, w3, w4, ← hd', n0]
    refine (fresh_fun 1 d' x y _).mono ?_
    rintro _ _ ⟨rfl, rfl⟩
    rw [r4]
    by_cases m4 : d' ∈ difs n (l.take i) ++ [d]
    · simp [go_sem, m4, -List.mem_append]
      refine err (fun hg => ?_) _
      have := hg.2.2
      rw [difs_snoc, nodup_two, ← hx, ← hy, ← hd, ← hd'] at this
      rcases List.mem_append.1 m4 with m4 | m4
      · exact this.2.2.1 m4
      · exact this.2.2.2 (List.mem_singleton.1 m4).symm
    simp [go_sem, m4, w5, ← hz, n0, -List.mem_append]
    refine (fresh_fun 2 z x y _).mono ?_
    rintro _ _ ⟨rfl, rfl⟩
    rw [r5]
    rw [List.mem_append, not_or, List.mem_singleton] at m2 m4
    have hgood : Good n (l.take i ++ [l[i]]) := by
      refine ⟨fun p hp => ?_, ?_, ?_⟩
      · rcases List.mem_append.1 hp with hp | hp
        · exact hg.1 p hp
        · rw [List.mem_singleton.1 hp]; exact hin'
      · rw [nums_snoc, nodup_two, ← hx, ← hy]; exact ⟨hg.2.1, m1, m2.1, fun e => m2.2 e.symm⟩
      · rw [difs_snoc, nodup_two, ← hx, ← hy, ← hd, ← hd']; exact ⟨hg.2.2, m3, m4.1, fun e => m4.2 e.symm⟩
    have hSn : Sn n (aset (2, z) true (aset (1, d') true (aset (1, d) true (aset (0, y) true (aset (0, x) true S))))) (nums (l.take (i + 1))) (difs n (l.take (i + 1))) (sums n (l.take (i + 1))) := by
      rw [hsucc, nums_snoc, difs_snoc, sums_snoc, ← hx, ← hy, ← hd, ← hd', ← hz]
      simpa using hS5
    have hstr : Str n (l.take (i + 1)) ↔ Str n (l.take i) ∧ z ∉ sums n (l.take i) ∧ z ≠ 0 := by
      unfold Str
      rw [hsucc, sums_snoc, ← hx, ← hy, ← hz, nodup_one]
      simp only [List.mem_append, List.mem_singleton, not_or]
      constructor
      · rintro ⟨⟨p1, p2⟩, p3, p4⟩; exact ⟨⟨p1, p3⟩, p2, fun e => p4 e.symm⟩
      · rintro ⟨⟨p1, p3⟩, p2, p4⟩; exact ⟨⟨p1, p2⟩, p3, fun e => p4 e.symm⟩
    have hwi : IntKind.i64.wrap ((i : Int) + 1) = ((i + 1 : Nat) : Int) := by rw [wrap64 (by omega) (by omega)]; rfl
    rw [← hsucc] at hgood
    by_cases m5 : z ∈ sums n (l.take i)
    · simp [go_sem, m5]
      exact ⟨i + 1, _, ⟨hwi, rfl⟩, ⟨by omega, hgood, hSn, fun hs => (hstr.1 hs).2.1 m5⟩, by omega⟩
    · simp [go_sem, m5]
      split
      · rename_i hz0
        exact ⟨i + 1, _, ⟨hwi, rfl⟩, ⟨by omega, hgood, hSn, fun hs => (hstr.1 hs).2.2 hz0⟩, by omega⟩
      · rename_i hz0
        refine ⟨i + 1, aset (2, z) true (aset (1, d') true (aset (1, d) true (aset (0, y) true (aset (0, x) true S)))), ?_⟩
        cases b with
        | false => exact .inl ⟨⟨⟨rfl, hwi⟩, rfl⟩, ⟨by omega, hgood, hSn, fun hs => by have := hb.2 (hstr.1 hs).1; cases this⟩, by omega⟩
        | true => exact .inr ⟨⟨⟨rfl, hwi⟩, rfl⟩, ⟨by omega, hgood, hSn, hstr.2 ⟨hb.1 rfl, m5, hz0⟩⟩, by omega⟩
  · simp [go_sem, h]
    have : i = l.length := by omega
    subst this
    rw [List.take_length] at hg hb
    exact hR _ _ _ ⟨b, 0, rfl, .inr (.inr ⟨hbad, hlen, hg, hb, rfl⟩)⟩ (by simp [go_sem])
end Go.Idl.How
namespace Go.Idl.How
set_option linter.all false
open Go.Idl
open Go.Proofs
set_option maxHeartbeats 4000000
set_option maxRecDepth 20000

def rowF (n : Int) (r i : Nat) (p : Int × Int) : RowV := ⟨r, i + 1, (p.1 + r).tmod n + 1, (p.2 + r).tmod n + 1, (p.1 + p.2 + r).tmod n⟩
def innL (n T : Int) (l : List (Int × Int)) (r i : Nat) : List RowV := ⟨r, 0, 2 * T, r + 1, r⟩ :: ((l.take i).zipIdx.map fun q => rowF n r q.2 q.1)
def rowsL (n T : Int) (l : List (Int × Int)) (R : Nat) : List RowV := (List.range R).flatMap fun r => innL n T l r l.length
theorem innL_succ (n T : Int) (l : List (Int × Int)) (r i : Nat) (h : i < l.length) : innL n T l r (i + 1) = innL n T l r i ++ [rowF n r i l[i]] := by
  unfold innL
  rw [List.take_succ_eq_append_getElem h, List.zipIdx_append]
  have : min i l.length = i := by omega
  simp [this]
theorem innL_zero (n T : Int) (l : List (Int × Int)) (r : Nat) : innL n T l r 0 = [⟨r, 0, 2 * T, r + 1, r⟩] := by simp [innL]
theorem innL_length (n T : Int) (l : List (Int × Int)) (r i : Nat) (h : i ≤ l.length) : (innL n T l r i).length = i + 1 := by simp [innL]; omega
theorem rowsL_succ (n T : Int) (l : List (Int × Int)) (R : Nat) : rowsL n T l (R + 1) = rowsL n T l R ++ innL n T l R l.length := by simp [rowsL, List.range_succ]
theorem rowsL_length (n T : Int) (l : List (Int × Int)) (R : Nat) : (rowsL n T l R).length = R * (l.length + 1) := by
  induction R with
  | zero => simp [rowsL]
  | succ R ih => rw [rowsL_succ, List.length_append, ih, innL_length _ _ _ _ _ (Nat.le_refl _), Nat.add_mul, Nat.one_mul]
def movOf (n rounds : Int) (b : Bool) (l : List (Int × Int)) : Mov := ⟨(n + 1).tdiv 2, rounds, n, if b = true then 1 else (n + 1).tdiv 2, 1, rowsL n ((n + 1).tdiv 2) l rounds.toNat⟩
def FromV (n rounds : Int) (l : List (Int × Int)) (v : IV) : Prop := ∃ b e, ChkV n l b e ∧ ((e ≠ 0 ∧ v = .tup [Mov.zero.v, .int .i64 e]) ∨ (e = 0 ∧ rounds < 1 ∧ v = .tup [Mov.zero.v, .int .i64 2]) ∨ (e = 0 ∧ 1 ≤ rounds ∧ n < rounds ∧ v = .tup [Mov.zero.v, .int .i64 5]) ∨ (e = 0 ∧ 1 ≤ rounds ∧ rounds ≤ n ∧ v = .tup [(movOf n rounds b l).v, .int .i64 0]))

theorem from_fun (n rounds : Int) (l : List (Int × Int)) (hl : l.length ≤ 2 ^ 32) : IFun true Tryz.prog [] 27 [.int .i64 n, .int .i64 rounds, .fz 2 (prs l)] (FromV n rounds l) := by
  refine IFun.of_bodyZ false 8 [8, 9, 10, 11, 12, 13, 14, 15, 16, 17, 25, 29, 33, 43, 45, 46, 47, 61, 62, 63, 64] Tryz.func27 rfl Tryz.call27 rfl fun R hR => ?_
  simp [go_sem]
  refine (check_fun n l hl).callM (by simp [go_sem]) ?_
  rintro _ ⟨b, e, rfl, hc⟩
  simp [go_sem]
  split
  case isFalse he => exact hR _ _ _ ⟨b, e, hc, .inl ⟨he, rfl⟩⟩ (by simp [go_sem, Mov.v, Mov.zero])
  rename_i he
  subst he
  have hcc : ¬ BadN n ∧ (l.length : Int) = (n - 1).tdiv 2 ∧ Good n l := by
    rcases hc with ⟨_, _, h⟩ | ⟨_, _, _, h⟩ | ⟨h1, h2, h3, _⟩
    · omega
    · omega
    · exact ⟨h1, h2, h3⟩
  obtain ⟨hbad, hlen, hg⟩ := hcc
  unfold BadN at hbad
  have hlen2 : (l.length : Int) = (n - 1) / 2 := by rw [hlen, Int.tdiv_eq_ediv_of_nonneg (by omega)]
  have hT : (n + 1).tdiv 2 = (n + 1) / 2 := Int.tdiv_eq_ediv_of_nonneg (by omega)
  split
  · rename_i h1
    exact hR _ _ _ ⟨b, 0, hc, .inr (.inl ⟨rfl, h1, rfl⟩)⟩ (by simp [go_sem, Mov.v, Mov.zero])
  rename_i h1
  split
  · rename_i h2
    exact hR _ _ _ ⟨b, 0, hc, .inr (.inr (.inl ⟨rfl, by omega, h2, rfl⟩))⟩ (by simp [go_sem, Mov.v, Mov.zero])
  rename_i h2
  obtain ⟨T, hTe⟩ : ∃ T, T = (n + 1).tdiv 2 := ⟨_, rfl⟩
  have w1 : IntKind.i64.wrap (n + 1) = n + 1 := wrap64 (by omega) (by omega)
  have w2 : IntKind.i64.wrap T = T := wrap64 (by omega) (by omega)
  rw [w1, ← hTe, w2]
  obtain ⟨C, hC⟩ : ∃ C : Int, C = if b = true then 1 else T := ⟨_, rfl⟩
  have hTb : 2 ≤ T ∧ T ≤ 24 := by omega
  have hin : ∀ (i : Nat) (h : i < l.length), InR n l[i] := fun i h => hg.1 _ (by simp)
  have fin : movOf n rounds b l = ⟨T, rounds, n, C, 1, rowsL n T l rounds.toNat⟩ := by rw [movOf, ← hTe, hC]
  split <;> rename_i hb
  all_goals
    refine IWp.ownNil 5 _ [.rows 6 [[.int .i64 0, .int .i64 0, .int .i64 0, .int .i64 0, .int .i64 0, .nils]], .rows 6 [[.int .i64 T, .int .i64 rounds, .int .i64 n, .int .i64 C, .int .i64 1, .sl 2 0 0 0 none]]] (by decide) (nlL_refl _) (by simp [go_sem, hC, hb]) ?_
    refine IWp.loopT (α := Nat) (fun r => (⟨false, 106, 8, [8, 9, 10, 11, 12, 13, 14, 15, 16, 17, 25, 29, 33, 43, 45, 46, 47, 61, 62, 63, 64], [], [(0, .int .i64 n), (2, .fz 2 (prs l)), (6, .ptr 0 1 0 0), (10, .int .i64 T), (11, .ptr 1 1 0 0), (45, .int .i64 rounds), (46, .int .i64 r)], []⟩,
      [.rows 6 [[.int .i64 0, .int .i64 0, .int .i64 0, .int .i64 0, .int .i64 0, .nils]], .rows 6 [[.int .i64 T, .int .i64 rounds, .int .i64 n, .int .i64 C, .int .i64 1, .sl 2 (rowsL n T l r).length 0 (rowsL n T l r).length none]], .rows 5 (rws (rowsL n T l r))]))
      (fun r => r ≤ rounds.toNat) (fun r => rounds.toNat - r) 0 (by omega) (by simp [go_sem, rowsL]) ?_
    intro r hr
    have hRL := rowsL_length n T l r
    have hRL2 : r * (l.length + 1) ≤ 47 * 24 := Nat.mul_le_mul (by omega) (by omega)
    by_cases h : (r : Int) < rounds
    · have w3 : IntKind.i64.wrap (2 * T) = 2 * T := wrap64 (by omega) (by omega)
      have w4 : IntKind.i64.wrap ((r : Int) + 1) = r + 1 := wrap64 (by omega) (by omega)
      simp [go_sem, h, w3, w4]
      have hlr : (rowsL n T l r).length ≤ 1200 := by omega
      refine ⟨by omega, ?_⟩
      refine IWp.loopT (α := Nat) (fun i => (⟨false, 106, 8, [8, 9, 10, 11, 12, 13, 14, 15, 16, 17, 25, 29, 33, 43, 45, 46, 47, 61, 62, 63, 64], [], [(0, .int .i64 n), (2, .fz 2 (prs l)), (6, .ptr 0 1 0 0), (10, .int .i64 T), (11, .ptr 1 1 0 0), (12, .int .i64 r), (45, .int .i64 rounds), (46, .int .i64 r), (61, .fz 2 (prs l)), (62, .int .i64 l.length), (63, .int .i64 i)], []⟩,
        [.rows 6 [[.int .i64 0, .int .i64 0, .int .i64 0, .int .i64 0, .int .i64 0, .nils]], .rows 6 [[.int .i64 T, .int .i64 rounds, .int .i64 n, .int .i64 C, .int .i64 1, .sl 2 ((rowsL n T l r).length + (i + 1)) 0 ((rowsL n T l r).length + (i + 1)) none]], .rows 5 (rws (rowsL n T l r ++ innL n T l r i)), .dead]))
        (fun i => i ≤ l.length) (fun i => l.length - i) 0 (by omega) (by simp [go_sem, innL_zero, rws_snoc]) ?_
      intro i hi
      by_cases hil : i < l.length
      · have hI := hin i hil
        unfold InR at hI
        obtain ⟨x, hx⟩ : ∃ x, x = l[i].1 := ⟨_, rfl⟩
        obtain ⟨y, hy⟩ : ∃ y, y = l[i].2 := ⟨_, rfl⟩
        rw [← hx, ← hy] at hI
        have hm : ∀ a : Int, 0 ≤ a → 0 ≤ a.tmod n ∧ a.tmod n < n := fun a ha => by
          rw [Int.tmod_eq_emod_of_nonneg ha]; exact ⟨Int.emod_nonneg _ (by omega), Int.emod_lt_of_pos _ (by omega)⟩
        have m1 := hm (x + r) (by omega)
        have m2 := hm (y + r) (by omega)
        have v1 : IntKind.i64.wrap (x + r) = x + r := wrap64 (by omega) (by omega)
        have v2 : IntKind.i64.wrap (y + r) = y + r := wrap64 (by omega) (by omega)
        have v3 : IntKind.i64.wrap (x + y) = x + y := wrap64 (by omega) (by omega)
        have v4 : IntKind.i64.wrap (x + y + r) = x + y + r := wrap64 (by omega) (by omega)
        have v5 : IntKind.i64.wrap ((i : Int) + 1) = i + 1 := wrap64 (by omega) (by omega)
        have v6 : IntKind.i64.wrap ((x + r).tmod n + 1) = (x + r).tmod n + 1 := wrap64 (by omega) (by omega)
        have v7 : IntKind.i64.wrap ((y + r).tmod n + 1) = (y + r).tmod n + 1 := wrap64 (by omega) (by omega)
        have n0 : ¬ n = 0 := by omega
        have hil2 := innL_length n T l r i hi
        simp [go_sem, hil, ← hx, ← hy, v1, v2, v3, v4, v5, v6, v7, n0, hil2]
        refine ⟨by decide +kernel, by omega, i + 1, ⟨rfl, by omega, ?_⟩, by omega, by omega⟩
        rw [innL_succ _ _ _ _ _ hil, ← List.append_assoc, rws_snoc]
        simp only [rowF, ← hx, ← hy]
      · simp [go_sem, hil]
        have hie : i = l.length := by omega
        subst hie
        refine ⟨r + 1, ⟨by rw [w4]; rfl, ?_, by rw [rowsL_succ]⟩, by omega, by omega⟩
        rw [rowsL_succ, List.length_append, innL_length _ _ _ _ _ (Nat.le_refl _)]
    · simp [go_sem, h]
      refine hR _ _ _ ⟨b, 0, hc, .inr (.inr (.inr ⟨rfl, by omega, by omega, rfl⟩))⟩ ?_
      have : r = rounds.toNat := by omega
      subst this
      simp [go_sem, fin, Mov.v]
end Go.Idl.How
namespace Go.Idl.How
set_option linter.all false
open Go.Idl
open Go.Proofs
set_option maxHeartbeats 4000000
set_option maxRecDepth 20000

def hpb (t : Nat) : Bool := isPb (2 * t - 1) && (List.range 7).all fun k => !(Nat.beq (2 * t - 2) (2 ^ k))
theorem isPb_iff {p : Nat} (hp : p ≤ 1000) : isPb p = true ↔ PrimeOK p := by
  refine ⟨fun h => ?_, isPb_of hp⟩
  simp only [isPb, Bool.and_eq_true, Nat.ble_eq, List.all_eq_true, List.mem_range, Bool.or_eq_true, Nat.blt_eq, Bool.not_eq_true'] at h
  obtain ⟨h2, h⟩ := h
  refine ⟨by omega, fun d d1 d2 hd => ?_⟩
  obtain ⟨m, rfl⟩ : ∃ m : Nat, d = m := ⟨d.toNat, by omega⟩
  have hm2 : m * m ≤ p := by have : ((m * m : Nat) : Int) ≤ p := by simpa using d2
                             omega
  have hm : m < 32 := by
    apply Nat.not_le.1
    intro hle
    have : 32 * 32 ≤ m * m := Nat.mul_le_mul hle hle
    omega
  rcases h m hm with (h3 | h3) | h3
  · omega
  · omega
  · rw [Int.tmod_eq_emod_of_nonneg (by omega)] at hd
    have : p % m = 0 := by have : ((p % m : Nat) : Int) = 0 := by simpa using hd
                           omega
    rw [this] at h3
    cases h3
theorem HP_iff {t : Nat} (h1 : 2 ≤ t) (h2 : t ≤ 24) : HP t ↔ hpb t = true := by
  rw [← RPrimeOK_iff]
  unfold RPrimeOK hpb
  rw [prime_all]
  have hp := isPb_iff (p := 2 * t - 1) (by omega)
  rw [show (((2 * t - 1 : Nat)) : Int) = 2 * (t : Int) - 1 by omega] at hp
  rw [Bool.and_eq_true, hp, List.all_eq_true]
  have key : (∀ k : Nat, k < 7 → 2 * (t : Int) - 2 ≠ 2 ^ k) ↔ ∀ x ∈ List.range 7, (!(Nat.beq (2 * t - 2) (2 ^ x))) = true := by
    constructor
    · intro h k hk
      rw [List.mem_range] at hk
      cases hb : Nat.beq (2 * t - 2) (2 ^ k) with
      | false => rfl
      | true =>
        rw [Nat.beq_eq] at hb
        have : ((2 * t - 2 : Nat) : Int) = 2 ^ k := by rw [hb]; simp
        exact absurd (by omega) (h k hk)
    · intro h k hk e
      have := h k (List.mem_range.2 hk)
      have hb : 2 * t - 2 = 2 ^ k := by
        have : ((2 * t - 2 : Nat) : Int) = ((2 ^ k : Nat) : Int) := by rw [show ((2 ^ k : Nat) : Int) = 2 ^ k by simp]; omega
        exact Int.ofNat_inj.1 this
      rw [← Nat.beq_eq] at hb
      rw [hb] at this
      cases this
  exact ⟨fun ⟨_, _, a, b⟩ => ⟨a, key.1 b⟩, fun ⟨a, b⟩ => ⟨by omega, by omega, a, key.2 b⟩⟩
def stN (t : Nat) : List (Int × Int) := if hpb t = true then strgP (rootOf (2 * t - 1)) (2 * t - 1) else opp t (t - 1)
theorem stL_eq {t : Nat} (h1 : 2 ≤ t) (h2 : t ≤ 24) : stL t = stN t := by
  unfold stN
  by_cases h : HP t
  · rw [stL_pos h, if_pos ((HP_iff h1 h2).1 h)]
  · rw [stL_neg h, if_neg fun hb => h ((HP_iff h1 h2).2 hb)]; simp
theorem stN_len : ∀ t : Nat, t < 25 → 2 ≤ t → (stN t).length = t - 1 := by decide +kernel
theorem stL_length {t : Int} (h : 2 ≤ t ∧ t ≤ 24) : (stL t).length ≤ 10000 := by
  obtain ⟨n, rfl⟩ : ∃ n : Nat, t = n := ⟨t.toNat, by omega⟩
  rw [stL_eq (by omega) (by omega), stN_len n (by omega) (by omega)]
  omega
def MakeV (t rounds : Int) (v : IV) : Prop := (¬ (2 ≤ t ∧ t ≤ 24) ∧ v = .tup [Mov.zero.v, .int .i64 2]) ∨ (2 ≤ t ∧ t ≤ 24 ∧ FromV (2 * t - 1) rounds (stL t) v)
/-- The one slice in what From hands back. -/
theorem from_cx {n rounds : Int} {l : List (Int × Int)} {v : IV} (h : FromV n rounds l v) : ∃ (m : Mov) (e : Int), v = .tup [m.v, .int .i64 e] := by
  obtain ⟨b, e, _, ⟨_, rfl⟩ | ⟨_, _, rfl⟩ | ⟨_, _, _, rfl⟩ | ⟨_, _, _, rfl⟩⟩ := h
  · exact ⟨_, _, rfl⟩
  · exact ⟨_, _, rfl⟩
  · exact ⟨_, _, rfl⟩
  · exact ⟨_, _, rfl⟩
theorem mov_cx (m : Mov) (e : Int) : Cx fun v => .tup [.agg [.int .i64 m.t, .int .i64 m.r, .int .i64 m.s, .int .i64 m.c, .int .i64 m.w, v], .int .i64 e] :=
  .tup [] [.int .i64 e] (fun v => .agg [.int .i64 m.t, .int .i64 m.r, .int .i64 m.s, .int .i64 m.c, .int .i64 m.w, v]) (by simp) (by simp [scal]) (.agg [.int .i64 m.t, .int .i64 m.r, .int .i64 m.s, .int .i64 m.c, .int .i64 m.w] [] (fun v => v) (by simp [scal]) (by simp) .here)

theorem make_fun (t rounds : Int) : IFun true Tryz.prog [] 13 [.int .i64 t, .int .i64 rounds] (MakeV t rounds) := by
  refine IFun.of_bodyZ false 8 [14] Tryz.func13 rfl Tryz.call13 rfl fun R hR => ?_
  simp [go_sem]
  refine (starter_fun t).callF (by simp [go_sem]) ?_
  rintro _ (⟨h1, h2, rfl⟩ | ⟨h1, rfl⟩)
  · have w1 : IntKind.i64.wrap (2 * t) = 2 * t := wrap64 (by omega) (by omega)
    have w2 : IntKind.i64.wrap (2 * t - 1) = 2 * t - 1 := wrap64 (by omega) (by omega)
    simp [go_sem, w1, w2]
    refine (from_fun (2 * t - 1) rounds (stL t) (by have := stL_length ⟨h1, h2⟩; omega)).callOF (by simp [go_sem]) ?_
    intro v hv
    obtain ⟨m, e, rfl⟩ := from_cx hv
    refine ⟨_, 5, rws m.l, mov_cx m e, by decide, rfl, by simp [go_sem], ?_⟩
    simp [go_sem]
    refine hR _ _ _ (.inr ⟨h1, h2, hv⟩) ?_
    simp [go_sem, Mov.v]
  · simp [go_sem]
    refine hR _ _ _ (.inl ⟨h1, rfl⟩) ?_
    simp [go_sem, Mov.v, Mov.zero]
end Go.Idl.How
namespace Go.Idl.How
set_option linter.all false
open Go.Idl
open Go.Proofs
set_option maxHeartbeats 4000000
set_option maxRecDepth 20000
open Classical

noncomputable def pN (t : Int) : Int := if HP t then 2 * t - 1 else 0
noncomputable def pB (t : Int) : Bool := decide (HP t)
def RtOK (p : Int) : Prop := 3 ≤ p ∧ p ≤ 1000 ∧ PrimeOK p
noncomputable def rN (p : Int) : Int := if RtOK p then rootOf p else 0
noncomputable def rE (p : Int) : Int := if RtOK p then 0 else 2
noncomputable def sL (t : Int) : List (Int × Int) := if 2 ≤ t ∧ t ≤ 24 then stL t else []
noncomputable def sE (t : Int) : Int := if 2 ≤ t ∧ t ≤ 24 then 0 else 2
noncomputable def chkE (n : Int) (l : List (Int × Int)) : Int := if BadN n then 2 else if (l.length : Int) = (n - 1).tdiv 2 ∧ Good n l then 0 else 260
noncomputable def chkB (n : Int) (l : List (Int × Int)) : Bool := decide (¬ BadN n ∧ (l.length : Int) = (n - 1).tdiv 2 ∧ Good n l ∧ Str n l)
theorem ChkV.eq {n : Int} {l : List (Int × Int)} {b : Bool} {e : Int} (h : ChkV n l b e) : b = chkB n l ∧ e = chkE n l := by
  unfold chkB chkE
  rcases h with ⟨h1, rfl, rfl⟩ | ⟨h1, h2, rfl, rfl⟩ | ⟨h1, h2, h3, h4, rfl⟩
  · simp [h1]
  · have : ¬ ((l.length : Int) = (n - 1).tdiv 2 ∧ Good n l) := fun h => h2.elim (fun h2 => h2 h.1) fun h2 => h2 h.2
    rw [if_neg h1, if_neg this]
    refine ⟨?_, rfl⟩
    symm
    simp only [decide_eq_false_iff_not]
    exact fun h => this ⟨h.2.1, h.2.2.1⟩
  · rw [if_neg h1, if_pos ⟨h2, h3⟩]
    refine ⟨?_, rfl⟩
    by_cases hs : Str n l
    · rw [h4.2 hs, decide_eq_true]; exact ⟨h1, h2, h3, hs⟩
    · rw [decide_eq_false fun h => hs h.2.2.2]
      cases b with
      | false => rfl
      | true => exact absurd (h4.1 rfl) hs
noncomputable def fromM (n r : Int) (l : List (Int × Int)) : Mov := if chkE n l = 0 ∧ 1 ≤ r ∧ r ≤ n then movOf n r (chkB n l) l else Mov.zero
noncomputable def fromE (n r : Int) (l : List (Int × Int)) : Int := if chkE n l ≠ 0 then chkE n l else if r < 1 then 2 else if n < r then 5 else 0
theorem FromV.eq {n r : Int} {l : List (Int × Int)} {v : IV} (h : FromV n r l v) : v = .tup [(fromM n r l).v, .int .i64 (fromE n r l)] := by
  unfold fromM fromE
  obtain ⟨b, e, hc, h⟩ := h
  obtain ⟨rfl, rfl⟩ := hc.eq
  rcases h with ⟨h1, rfl⟩ | ⟨h1, h2, rfl⟩ | ⟨h1, h2, h3, rfl⟩ | ⟨h1, h2, h3, rfl⟩
  · rw [if_neg fun h => h1 h.1, if_pos h1]
  · rw [if_neg fun h => by omega, if_neg (by omega), if_pos h2]
  · rw [if_neg fun h => by omega, if_neg (by omega), if_neg (by omega), if_pos h3]
  · rw [if_pos ⟨h1, h2, h3⟩, if_neg (by omega), if_neg (by omega), if_neg (by omega)]
noncomputable def makeM (t r : Int) : Mov := if 2 ≤ t ∧ t ≤ 24 then fromM (2 * t - 1) r (stL t) else Mov.zero
noncomputable def makeE (t r : Int) : Int := if 2 ≤ t ∧ t ≤ 24 then fromE (2 * t - 1) r (stL t) else 2
theorem MakeV.eq {t r : Int} {v : IV} (h : MakeV t r v) : v = .tup [(makeM t r).v, .int .i64 (makeE t r)] := by
  unfold makeM makeE
  rcases h with ⟨h1, rfl⟩ | ⟨h1, h2, h3⟩
  · rw [if_neg h1, if_neg h1]
  · rw [if_pos ⟨h1, h2⟩, if_pos ⟨h1, h2⟩]; exact h3.eq

/-! ### the contracts, as functions -/
theorem Prime_c (t : Int) : IFun true Tryz.prog [] 43 [.int .i64 t] (fun v => v = .tup [.int .i64 (pN t), .bool (pB t)]) :=
  (Prime_fun t).mono fun v h => by
    unfold pN pB
    rcases h with ⟨rfl, h⟩ | ⟨rfl, h⟩
    · have h : HP t := h
      rw [if_pos h, decide_eq_true h]
    · have h : ¬ HP t := h
      rw [if_neg h, decide_eq_false h]
theorem Root_c (p : Int) : IFun true Tryz.prog [] 46 [.int .i64 p] (fun v => v = .tup [.int .i64 (rN p), .int .i64 (rE p)]) :=
  (Root_fun p (rootOf p) fun h1 h2 h3 => (root_ok h1 h2 h3).1).mono fun v h => by
    unfold rN rE
    rcases h with ⟨rfl, h⟩ | ⟨rfl, h⟩
    · have h : RtOK p := h
      rw [if_pos h, if_pos h]
    · have h : ¬ RtOK p := h
      rw [if_neg h, if_neg h]
theorem Starter_c (t : Int) : IFun true Tryz.prog [] 26 [.int .i64 t] (fun v => v = .tup [.fz 2 (prs (sL t)), .int .i64 (sE t)]) :=
  (starter_fun t).mono fun v h => by
    unfold sL sE
    rcases h with ⟨h1, h2, rfl⟩ | ⟨h, rfl⟩
    · rw [if_pos ⟨h1, h2⟩, if_pos ⟨h1, h2⟩]
    · rw [if_neg h, if_neg h]
theorem Check_c (n : Int) (l : List (Int × Int)) (hl : l.length ≤ 2 ^ 32) : IFun true Tryz.prog [] 48 [.int .i64 n, .fz 2 (prs l)] (fun v => v = .tup [.bool (chkB n l), .int .i64 (chkE n l)]) :=
  (check_fun n l hl).mono fun v ⟨b, e, h, hc⟩ => by obtain ⟨rfl, rfl⟩ := hc.eq; exact h
theorem From_c (n r : Int) (l : List (Int × Int)) (hl : l.length ≤ 2 ^ 32) : IFun true Tryz.prog [] 27 [.int .i64 n, .int .i64 r, .fz 2 (prs l)] (fun v => v = .tup [(fromM n r l).v, .int .i64 (fromE n r l)]) := (from_fun n r l hl).mono fun _ h => h.eq
theorem Make_c (t r : Int) : IFun true Tryz.prog [] 13 [.int .i64 t, .int .i64 r] (fun v => v = .tup [(makeM t r).v, .int .i64 (makeE t r)]) := (make_fun t r).mono fun _ h => h.eq
theorem movOf_len {n r : Int} {b : Bool} {l : List (Int × Int)} (hr : r ≤ n) (hn : n ≤ 47) (hl : l.length ≤ 23) : (movOf n r b l).l.length < 2 ^ 32 := by
  simp only [movOf, rowsL_length]
  have : r.toNat * (l.length + 1) ≤ 47 * 24 := Nat.mul_le_mul (by omega) (by omega)
  omega
theorem fromM_len (n r : Int) (l : List (Int × Int)) : (fromM n r l).l.length < 2 ^ 32 := by
  unfold fromM
  split
  · rename_i h
    have h0 := h.1
    unfold chkE at h0
    split at h0
    · omega
    · rename_i hb
      split at h0
      · rename_i h1
        unfold BadN at hb
        have := h1.1
        rw [Int.tdiv_eq_ediv_of_nonneg (by omega)] at this
        exact movOf_len h.2.2 (by omega) (by omega)
      · omega
  · simp [Mov.zero]
theorem makeM_len (t r : Int) : (makeM t r).l.length < 2 ^ 32 := by
  unfold makeM
  split
  · exact fromM_len _ _ _
  · simp [Mov.zero]
theorem sL_len (t : Int) : (sL t).length < 2 ^ 32 := by
  unfold sL
  split
  · rename_i h; have := stL_length h; omega
  · simp
end Go.Idl.How
