/-
  Chapter 24: CrossSmall.
-/
import Derived.Test.YthjpnfemaefhnaaDoorC24PartX
namespace Go.Idl
set_option linter.all false
open Go.Proofs
set_option maxHeartbeats 16000000
set_option maxRecDepth 40000

def smallG : List Int := [-100, -5, 0, 4, 5, 110, 420]
def edgeG : List Int := [-9223372036854775808, -7601, -7600, 7600, 7601, 9223372036854775807]
def longG (n : Nat) : List Int := (List.range n).map fun i : Nat => 10 * (((37 * i % 61 : Nat) : Int)) - 300
theorem longG_succ (n : Nat) : longG (n + 1) = longG n ++ [10 * (((37 * n % 61 : Nat) : Int)) - 300] := by simp [longG, List.range_succ]
@[simp] theorem longG_length (n : Nat) : (longG n).length = n := by simp [longG]
theorem crossSmall_fun : FN 4 [] (fun v => v = .bool true) := by
  refine IFun.of_bodyW false 12 [13, 14, 33, 34, 37, 54, 58, 61, 62, 63, 75, 81, 82, 83, 84, 85, 108] Tryd.func4 rfl Tryd.call4 rfl fun R hR => ?_
  have hsg : [[IV.int .i64 (-100)], [IV.int .i64 (-5)], [IV.int .i64 0], [IV.int .i64 4], [IV.int .i64 5], [IV.int .i64 110], [IV.int .i64 420]] = ints smallG := rfl
  have hsl : smallG.length = 7 := rfl
  have heg : [[IV.int .i64 (-9223372036854775808)], [IV.int .i64 (-7601)], [IV.int .i64 (-7600)], [IV.int .i64 7600], [IV.int .i64 7601], [IV.int .i64 9223372036854775807]] = ints edgeG := rfl
  have hel : edgeG.length = 6 := rfl
  have heb : ∀ x ∈ edgeG, -2 ^ 63 ≤ x ∧ x < 2 ^ 63 := by decide
  generalize smallG = G at *
  generalize edgeG = J at *
  refine IWp.seqI ?_
  simp [go_sem]
  refine IWp.seqI ?_
  simp [go_sem, hsg]
  refine IWp.seqI ?_
  simp [go_sem]
  refine IWp.loopT (α := Nat) (fun n => (⟨false, 111, 12, [13, 14, 33, 34, 37, 54, 58, 61, 62, 63, 75, 81, 82, 83, 84, 85, 108], glT, [(1, .sl 0 7 0 7 none), (13, .int .i64 (n : Int))], []⟩, [.rows 1 (ints G)]))
    (fun n => n ≤ 343) (fun n => 343 - n) 0 (by simp) (by simp [go_sem]) ?_
  intro n hn
  by_cases h : n < 343
  · have h' : (n : Int) < 343 := by omega
    have v1 : IntKind.i64.wrap ((n : Int) + 1) = n + 1 := wrap64 (by omega) (by omega)
    have j1 : n % 7 < G.length := by omega
    have j2 : n / 7 % 7 < G.length := by omega
    have j3 : n / 49 < G.length := by omega
    have t1 : (n : Int).tmod 7 = ((n % 7 : Nat) : Int) := tmodN 7
    have t2 : (n : Int).tdiv 7 = ((n / 7 : Nat) : Int) := tdivN 7
    have t3 : ((n / 7 : Nat) : Int).tmod 7 = ((n / 7 % 7 : Nat) : Int) := tmodN 7
    have t4 : (n : Int).tdiv 49 = ((n / 49 : Nat) : Int) := tdivN 49
    have u1 : IntKind.i64.wrap ((n / 7 : Nat) : Int) = ((n / 7 : Nat) : Int) := wrap64 (by omega) (by omega)
    have u2 : IntKind.i64.wrap ((n / 49 : Nat) : Int) = ((n / 49 : Nat) : Int) := wrap64 (by omega) (by omega)
    obtain ⟨x, hx⟩ : ∃ x, G[n % 7] = x := ⟨_, rfl⟩
    obtain ⟨y, hy⟩ : ∃ y, G[n / 7 % 7] = y := ⟨_, rfl⟩
    obtain ⟨z, hz⟩ : ∃ z, G[n / 49] = z := ⟨_, rfl⟩
    have q1 := ints_q j1 hx
    have q2 := ints_q j2 hy
    have q3 := ints_q j3 hz
    obtain ⟨a, ha⟩ : ∃ a, n % 7 = a := ⟨_, rfl⟩
    obtain ⟨c, hc⟩ : ∃ c, n / 49 = c := ⟨_, rfl⟩
    obtain ⟨e, he⟩ : ∃ e, n / 7 = e := ⟨_, rfl⟩
    obtain ⟨b, hb⟩ : ∃ b, e % 7 = b := ⟨_, rfl⟩
    simp only [ha, hb, hc, he] at j1 j2 j3 t1 t2 t3 t4 u1 u2 q1 q2 q3 hx hy hz
    have i1 : (a : Int) < 7 := by omega
    have i2 : (b : Int) < 7 := by omega
    have i3 : (c : Int) < 7 := by omega
    have hl3 : ([[IV.int .i64 x], [IV.int .i64 y], [IV.int .i64 z]] : List (List IV)) = ints [x, y, z] := rfl
    have hl3l : ([x, y, z] : List Int).length = 3 := rfl
    obtain ⟨L, hL⟩ : ∃ L, [x, y, z] = L := ⟨_, rfl⟩
    rw [hL] at hl3 hl3l
    have t3' : (e : Int) % 7 = b := by omega
    have t1' : (n : Int) % 7 = a := by omega
    simp [go_sem, h', t1, t1', t2, t3, t3', t4, u1, u2, j1, j2, j3, hsl, hx, hy, hz, q1, q2, q3, i1, i2, i3, hl3]
    refine ⟨by omega, by omega, by omega, by decide +kernel, ?_⟩
    refine IWp.loopT (α := Nat) (fun k => (⟨false, 111, 12, [13, 14, 33, 34, 37, 54, 58, 61, 62, 63, 75, 81, 82, 83, 84, 85, 108], glT, [(1, .sl 0 7 0 7 none), (2, .int .i64 (n : Int)), (3, .sl 17 3 0 3 none), (13, .int .i64 (n : Int)), (33, .int .i64 (k : Int))], []⟩, [.rows 1 (ints G), .dead, .dead, .dead, .dead, .dead, .dead, .dead, .dead, .dead, .dead, .dead, .dead, .dead, .dead, .dead, .dead, .rows 1 (ints L)]))
      (fun k => k ≤ 4) (fun k => 4 - k) 0 (by simp) (by simp [go_sem]) ?_
    intro k hk
    by_cases hk4 : k < 4
    · have hk' : (k : Int) < 4 := by omega
      have v2 : IntKind.i64.wrap ((k : Int) + 1) = k + 1 := wrap64 (by omega) (by omega)
      simp [go_sem, hk']
      refine IWp.loopT (α := Int) (fun d => (⟨false, 111, 12, [13, 14, 33, 34, 37, 54, 58, 61, 62, 63, 75, 81, 82, 83, 84, 85, 108], glT, [(1, .sl 0 7 0 7 none), (2, .int .i64 (n : Int)), (3, .sl 17 3 0 3 none), (4, .int .i64 (k : Int)), (5, .int .i64 d), (13, .int .i64 (n : Int)), (33, .int .i64 (k : Int))], []⟩, [.rows 1 (ints G), .dead, .dead, .dead, .dead, .dead, .dead, .dead, .dead, .dead, .dead, .dead, .dead, .dead, .dead, .dead, .dead, .rows 1 (ints L)]))
        (fun d => -1 ≤ d ∧ d ≤ 3) (fun d => (3 - d).toNat) (-1) (by simp) (by simp [go_sem]) ?_
      rintro d ⟨hd1, hd2⟩
      by_cases hd : d < 3
      · have v3 : IntKind.i64.wrap (d + 1) = d + 1 := wrap64 (by omega) (by omega)
        have v4 : IntKind.i64.wrap ((n : Int) + k) = n + k := wrap64 (by omega) (by omega)
        have v5 : IntKind.i64.wrap ((n : Int) + k + d) = n + k + d := wrap64 (by omega) (by omega)
        by_cases hm : ((n : Int) + k + d).tmod 3 = 0
        · have cs := same24_fun (L.take k) d (by simp; omega) (by omega)
          have hk3 : (k : Int) ≤ 3 := by omega
          have hcut : cutR 0 k (ints L) = ints (L.take k) := ints_cutR L k
          have hk3' : k ≤ 3 := by omega
          simp [go_sem, hd, v4, v5, hm]
          refine ⟨⟨by omega, by omega, by omega⟩, ?_⟩
          refine cs.callF (by simp [go_sem, hl3l, hcut, hk3']) ?_
          rintro _ rfl
          simp [go_sem, v3]
          omega
        · simp [go_sem, hd, v4, v5, hm, v3]
          omega
      · simp [go_sem, hd, v2]
        exact ⟨k + 1, by omega, by omega, by omega⟩
    · obtain rfl : k = 4 := by omega
      simp [go_sem, v1]
      exact ⟨n + 1, by omega, by omega, by omega⟩
  · obtain rfl : n = 343 := by omega
    simp [go_sem]
    refine IWp.seqI ?_
    simp [go_sem]
    refine IWp.loopI (α := Nat) (fun n => (⟨false, 111, 12, [13, 14, 33, 34, 37, 54, 58, 61, 62, 63, 75, 81, 82, 83, 84, 85, 108], glT, [(6, .int .i64 (n : Int))], []⟩, [.dead]))
      (fun n => n ≤ 27) (fun n => 27 - n) 23 (by simp) (by simp [go_sem]) ?_
    intro n hn
    by_cases h : n < 27
    · have h' : (n : Int) < 27 := by omega
      have v1 : IntKind.i64.wrap ((n : Int) + 1) = n + 1 := wrap64 (by omega) (by omega)
      refine IWp.seqI ?_
      simp [go_sem, h']
      refine IWp.seq ?_
      refine IWp.block ?_
      refine IWp.seqI ?_
      simp [go_sem]
      refine IWp.ownNilS 1 7 (by decide) rfl ?_
      refine IWp.seqI ?_
      simp [go_sem]
      refine IWp.loopT (α := Nat) (fun i => (⟨false, 111, 12, [13, 14, 33, 34, 37, 54, 58, 61, 62, 63, 75, 81, 82, 83, 84, 85, 108], glT, [(6, .int .i64 (n : Int)), (7, .sl 1 i 0 i none), (61, .int .i64 (n : Int)), (62, .int .i64 (i : Int))], []⟩, [.dead, .rows 1 (ints (longG i))]))
        (fun i => i ≤ n) (fun i => n - i) 0 (by simp) (by simp [go_sem, longG]) ?_
      intro i hi
      by_cases hin : i < n
      · have hin' : (i : Int) < n := by omega
        have v2 : IntKind.i64.wrap ((i : Int) + 1) = i + 1 := wrap64 (by omega) (by omega)
        have v3 : IntKind.i64.wrap (37 * (i : Int)) = 37 * i := wrap64 (by omega) (by omega)
        have v4 : (37 * (i : Int)).tmod 61 = ((37 * i % 61 : Nat) : Int) := by have := tmodN (x := 37 * i) 61; simpa using this
        have hs := longG_succ i
        have hll : (longG i).length = i := by simp
        have hlt : 37 * i % 61 < 61 := Nat.mod_lt _ (by decide)
        obtain ⟨e, he⟩ : ∃ e, 37 * i % 61 = e := ⟨_, rfl⟩
        rw [he] at v4 hs hlt
        have v4' : 37 * (i : Int) % 61 = e := by omega
        have v5 : IntKind.i64.wrap (10 * (e : Int)) = 10 * e := wrap64 (by omega) (by omega)
        have v6 : IntKind.i64.wrap (10 * (e : Int) - 300) = 10 * e - 300 := wrap64 (by omega) (by omega)
        generalize longG i = T at *
        simp [go_sem, hin', v2, v3, v4, v4', v5, v6]
        refine ⟨⟨by omega, by omega⟩, i + 1, ⟨⟨rfl, by omega⟩, by rw [hs, ints_snoc]⟩, by omega, by omega⟩
      · obtain rfl : i = n := by omega
        have hll : (longG i).length = i := by simp
        have cs := fun d hd => same24_fun (longG i) d (by omega) hd
        generalize longG i = T at *
        simp [go_sem]
        refine IWp.now ?_
        simp [go_sem]
        refine IWp.loopT (α := Int) (fun d => (⟨false, 111, 12, [13, 14, 33, 34, 37, 54, 58, 61, 62, 63, 75, 81, 82, 83, 84, 85, 108], glT, [(6, .int .i64 (i : Int)), (7, .sl 1 i 0 i none), (9, .int .i64 d)], []⟩, [.dead, .rows 1 (ints T)]))
          (fun d => -1 ≤ d ∧ d ≤ 18) (fun d => (19 - d).toNat) (-1) (by simp) (by simp [go_sem]) ?_
        rintro d ⟨hd1, hd2⟩
        by_cases hd : d < 15
        · have v3 : IntKind.i64.wrap (d + 4) = d + 4 := wrap64 (by omega) (by omega)
          simp [go_sem, hd]
          refine (cs d (by omega)).callF (by simp [go_sem, hll]) ?_
          rintro _ rfl
          simp [go_sem, v3]
          omega
        · simp [go_sem, hd]
          refine IWp.now ?_
          simp [go_sem, v1]
          exact ⟨i + 1, by omega, by omega, by omega⟩
    · obtain rfl : n = 27 := by omega
      refine IWp.seqI ?_
      simp [go_sem]
      refine IWp.seqI ?_
      simp [go_sem, heg]
      refine ⟨by omega, ?_⟩
      refine IWp.loopT (α := Nat) (fun i => (⟨false, 111, 12, [13, 14, 33, 34, 37, 54, 58, 61, 62, 63, 75, 81, 82, 83, 84, 85, 108], glT, [(82, .sl 1 6 0 6 none), (83, .int .i64 6), (84, .int .i64 (i : Int))], []⟩, [.dead, .rows 1 (ints J)]))
        (fun i => i ≤ 6) (fun i => 6 - i) 0 (by simp) (by simp [go_sem]) ?_
      intro i hi
      by_cases hi6 : i < 6
      · have hi' : (i : Int) < 6 := by omega
        have v2 : IntKind.i64.wrap ((i : Int) + 1) = i + 1 := wrap64 (by omega) (by omega)
        have hiJ : i < J.length := by omega
        have hb := heb J[i] (List.getElem_mem hiJ)
        obtain ⟨x, hx⟩ : ∃ x, J[i] = x := ⟨_, rfl⟩
        have q := ints_q hiJ hx
        rw [hx] at hb
        have c1 := same24_fun [x] 0 (by simp) (by decide)
        have c2 := same24_fun [100, x, -100] 1 (by simp) (by decide)
        have c3 := same24_fun [100, 50] x (by decide) hb
        have c4 := same24_fun [] x (by decide) hb
        simp only [ints_cons, ints_nil] at c1 c2 c3 c4
        simp [go_sem, hi', hiJ, hel, hx, q, hi6]
        refine c1.callF (by simp [go_sem]) ?_
        rintro _ rfl
        simp [go_sem]
        refine c2.callF (by simp [go_sem]) ?_
        rintro _ rfl
        simp [go_sem]
        refine c3.callF (by simp [go_sem]) ?_
        rintro _ rfl
        simp [go_sem]
        refine c4.callF (by simp [go_sem]) ?_
        rintro _ rfl
        simp [go_sem, v2]
        exact ⟨i + 1, by omega, by omega, by omega⟩
      · obtain rfl : i = 6 := by omega
        simp [go_sem]
        refine IWp.now ?_
        simp [go_sem]
        refine awake24_fun.callF (by simp [go_sem]) ?_
        rintro _ rfl
        simp [go_sem]
        exact hR _ _ _ rfl (by simp [go_sem])
theorem crossSmall_law : FN 4 [] (fun v => v = .bool true) := crossSmall_fun
end Go.Idl
