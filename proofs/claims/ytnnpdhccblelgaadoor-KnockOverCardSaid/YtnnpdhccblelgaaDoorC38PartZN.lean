/-
  Maps that count, keyed by an integer.
  Chapter 38: KnockOver: walk and law.
-/
import Derived.Test.YtnnpdhccblelgaaDoorC38PartB
import Derived.Test.YtnnpdhccblelgaaDoorC38PartZI
import Derived.Test.YtnnpdhccblelgaaDoorC38PartZK
import Derived.Test.YtnnpdhccblelgaaDoorC38PartZM
namespace Go.Idl
set_option linter.all false
open Go.Proofs
set_option maxHeartbeats 8000000
set_option maxRecDepth 40000

def enI (S : List (Int × Int)) : List (IV × IV) := enM (fun k : Int => .int .i64 k) (fun v : Int => .int .i64 v) S
theorem keI (a b : Int) : keq (.int .i64 a) (.int .i64 b) = decide (a = b) := by
  show (match ceqs [IV.int .i64 a] [IV.int .i64 b] with | some b => b | none => false) = _
  simp [ceqs, ceq]
  rfl
theorem mget_i (s : Int) (S : List (Int × Int)) : mget (.int .i64 s) (enI S) = (aget s S).map fun v => .int .i64 v := mget_en (kf := fun k : Int => .int .i64 k) keI s S
theorem mset_i (s v : Int) (S : List (Int × Int)) : mset (.int .i64 s) (.int .i64 v) (enI S) = enI (aset s v S) := mset_en (kf := fun k : Int => .int .i64 k) (vf := fun v : Int => .int .i64 v) keI s v S
theorem ok_i (S : List (Int × Int)) : ∀ e ∈ enI S, keyOK Tryd.prog 3 [.int .i64] e.1 = true := en_ok (fun a => by simp [go_sem, keyOK]) S
@[go_sem] theorem bl_i {n : Nat} {S : List (Int × Int)} : BlM n (enI S) = True := eq_true (en_bl (fun a => by simp [go_sem]) (fun b => by simp [go_sem]) S)
@[go_sem] theorem enI_nil : enI [] = [] := rfl
end Go.Idl
namespace Go.Idl
set_option linter.all false
open Go.Proofs
set_option maxHeartbeats 16000000
set_option maxRecDepth 40000

theorem pow7 {r : Nat} (h : r ≤ 6) : IntKind.i64.wrap (2 ^ min r 64) = ((2 ^ r : Nat) : Int) := by
  rcases (by omega : r = 0 ∨ r = 1 ∨ r = 2 ∨ r = 3 ∨ r = 4 ∨ r = 5 ∨ r = 6) with rfl | rfl | rfl | rfl | rfl | rfl | rfl <;> decide
theorem snd38 (n : Int) : Cx fun v => .tup [.int .i64 n, v] := .tup [.int .i64 n] [] (fun v => v) (by simp [scal]) (by simp) .here
theorem same2_fun (a : List Int) (ha : a.length ≤ 2 ^ 62) : FN 37 [.fz 1 (ints a), .fz 1 (ints a)] (fun v => v = .bool true) := by
  refine IFun.of_bodyZ false 6 [10, 14, 25] Tryd.func37 rfl Tryd.call37 rfl fun R hR => ?_
  simp [go_sem]
  refine IWp.loopT (α := Nat) (fun i => (⟨false, 26, 6, [10, 14, 25], glT, [(0, .fz 1 (ints a)), (1, .fz 1 (ints a)), (5, .int .i64 (i : Int))], []⟩, []))
    (fun i => i ≤ a.length) (fun i => a.length - i) 0 (by simp) (by simp [go_sem]) ?_
  intro i hi
  by_cases h : i < a.length
  · have w1 : IntKind.i64.wrap ((i : Int) + 1) = i + 1 := wrap64 (by omega) (by omega)
    simp [go_sem, h, w1]
    exact ⟨by decide +kernel, i + 1, by omega, by omega, by omega⟩
  · obtain rfl : i = a.length := by omega
    simp [go_sem]
    exact hR _ _ _ rfl (by simp [go_sem])
/-- The last of the matches that can be played. -/
theorem last_mem {L : List Mt} (h : L ≠ []) : ∃ hh : L.length - 1 < L.length, L[L.length - 1]'hh ∈ L := by
  have hl : 0 < L.length := List.length_pos_iff.2 h
  exact ⟨by omega, List.getElem_mem _⟩
theorem knockOver_fun (t : Int) (ht : 0 ≤ t ∧ t < 256) (xs : List Sm) (hx : ∀ x ∈ xs, FitS x) (hxl : xs.length < 2 ^ 63) (turn : Int) (hu : 0 ≤ turn ∧ turn < 256) :
    FN 9 [.int .u8 t, .fz 4 (sms xs), .int .u8 turn] (fun v => v = .bool true) := by
  refine IFun.of_bodyW false 30 [31, 50, 53, 71, 104, 132, 134, 135, 136, 137, 145, 146, 147, 161, 171] Tryd.func9 rfl Tryd.call9 rfl fun R hR => ?_
  obtain ⟨n, hn⟩ : ∃ n : Nat, 2 + t % 63 = n := ⟨(2 + t % 63).toNat, by omega⟩
  have h1 : 2 ≤ n := by omega
  have h2 : n ≤ 64 := by omega
  obtain ⟨K, hK⟩ : ∃ K, min xs.length 16 = K := ⟨_, rfl⟩
  have hk : (if 16 < (xs.length : Int) then (16 : Int) else (xs.length : Int)) = (K : Int) := by split <;> omega
  have htk : List.take K (sms xs) = sms (xs.take K) := by simp [sms, mp, List.map_take]
  have hx2 : ∀ x ∈ xs.take K, FitS x := fun x hh => hx x (List.mem_of_mem_take hh)
  have hl2 : (xs.take K).length ≤ 16 := by simp; omega
  have hk2 : K ≤ xs.length := by omega
  have cm := madeF_fun t ht _ hx2 (by omega) n hn
  obtain ⟨hG, hf, hol⟩ := madeL_ok h1 h2 hx2
  generalize madeL n (xs.take K) [] = out0 at *
  generalize xs.take K = xk at *
  refine IWp.seqI ?_
  simp [go_sem]
  refine IWp.seqI ?_
  simp [go_sem]
  refine awake38_fun.callF (by simp [go_sem]) ?_
  rintro _ rfl
  simp [go_sem]
  refine IWp.seqI ?_
  simp [go_sem, hk, hk2, htk]
  refine IWp.seqI ?_
  simp [go_sem]
  refine cm.callOF (by simp [go_sem]) ?_
  rintro _ rfl
  refine ⟨_, 6, rss out0, snd38 n, by decide, rfl, by simp [go_sem], ?_⟩
  simp [go_sem]
  refine IWp.seqT (α := List Rs) (fun l => (⟨false, 216, 30, [31, 50, 53, 71, 104, 132, 134, 135, 136, 137, 145, 146, 147, 161, 171], glT, [(2, .int .u8 turn), (7, .int .i64 (n : Int)), (8, .sl 0 l.length 0 l.length none)], []⟩, [.rows 6 (rss l)])) (fun l => Good n l ∧ (∀ x ∈ l, FitR x) ∧ opens n l = []) ?_ ?_
  · simp [go_sem]
    refine IWp.loopI (α := List Rs) (fun l => (⟨false, 216, 30, [31, 50, 53, 71, 104, 132, 134, 135, 136, 137, 145, 146, 147, 161, 171], glT, [(2, .int .u8 turn), (7, .int .i64 (n : Int)), (8, .sl 0 l.length 0 l.length none)], []⟩, [.rows 6 (rss l)]))
      (fun l => Good n l ∧ ∀ x ∈ l, FitR x) (fun l => n - 1 - l.length) out0 ⟨hG, hf⟩ (by simp [go_sem]) ?_
    clear hG hf cm hol
    rintro l ⟨hG, hf⟩
    have hlen := good_len h1 h2 hG
    have co := open_good h1 h2 hG (by omega) hf
    refine IWp.block ?_
    refine IWp.seqI ?_
    simp [go_sem]
    refine co.callF (by simp [go_sem]) ?_
    rintro _ rfl
    simp [go_sem]
    have z0 : IntKind.i64.wrap 0 = 0 := by decide
    refine IWp.seqI ?_
    simp [go_sem]
    refine IWp.seqI ?_
    by_cases ho : opens n l = []
    · simp [go_sem, ho]
      exact ⟨l, ⟨rfl, rfl⟩, hG, hf, ho⟩
    · obtain ⟨hL, hLm⟩ := last_mem ho
      obtain ⟨m, hm⟩ : ∃ m, (opens n l)[(opens n l).length - 1]'hL = m := ⟨_, rfl⟩
      rw [hm] at hLm
      have hLl := opens_len h1 l
      have hbd := opens_bd h1 h2 hG hLm
      have hfs : FitS ⟨0, 1, 0, 0⟩ := by unfold FitS; simp
      have hG2 := next_good h1 h2 hG hLm hfs
      have hf2 := fit_snoc hf (mkX_fit ⟨hbd.2.2.1, hbd.2.2.2⟩ hfs)
      have cmk := made38_fun m ⟨0, 1, 0, 0⟩ hfs
      have e0 : mkX m ⟨0, 1, 0, 0⟩ = ⟨m.r, m.i, 1, 0, ⟨0, 1⟩⟩ := by
        unfold mkX
        rw [show mkF 0 (1 + (1 : Int) % 3) = (⟨0, 1⟩, 0) by decide +kernel]
      rw [e0] at cmk hG2 hf2
      have hwin := win_new h1 h2 hG hLm (x := ⟨m.r, m.i, 1, 0, ⟨0, 1⟩⟩) rfl rfl hG2 (res_one m trivial)
      have hs := rss_snoc (l := l) (x := ⟨m.r, m.i, 1, 0, ⟨0, 1⟩⟩)
      have hl2 : (l ++ [(⟨m.r, m.i, 1, 0, ⟨0, 1⟩⟩ : Rs)]).length = l.length + 1 := by simp
      have hlen2 := good_len h1 h2 hG2
      have cw := winner_good h1 h2 hG2 (by omega) hf2 m.r m.i
      rw [hwin] at cw
      have ck := check_good h1 h2 hG2 (by omega) hf2
      have cb := better_fun m m.r m.i
      have hL0 : 0 < (opens n l).length := by omega
      have v1 : IntKind.i64.wrap (((opens n l).length : Int) - 1) = (((opens n l).length - 1 : Nat) : Int) := by rw [wrap64 (by omega) (by omega)]; omega
      generalize l ++ [(⟨m.r, m.i, 1, 0, ⟨0, 1⟩⟩ : Rs)] = l2 at *
      clear hbd hwin e0
      obtain ⟨LL, hLL⟩ : ∃ LL, opens n l = LL := ⟨_, rfl⟩
      simp only [hLL] at *
      obtain ⟨J, hJ⟩ : ∃ J, LL.length - 1 = J := ⟨_, rfl⟩
      simp only [hJ] at hL hm v1
      have hJL : J < LL.length := by omega
      obtain ⟨mr, mi, ma, mb⟩ := m
      simp only [Mt.v, Sm.cells, Rs.v] at *
      have hm2 : LL[J]'hJL = ⟨mr, mi, ma, mb⟩ := by rw [← hm]
      simp [go_sem, ho]
      refine IWp.seqI ?_
      simp [go_sem, v1, hJL, hm2]
      refine IWp.seqI ?_
      simp [go_sem]
      refine cmk.callF (by simp [go_sem]) ?_
      rintro _ rfl
      simp [go_sem]
      refine IWp.seqI ?_
      simp [go_sem]
      refine ⟨by omega, ?_⟩
      rw [← hs, ← hl2]
      refine IWp.seqI ?_
      simp [go_sem]
      refine IWp.seqI ?_
      simp [go_sem]
      refine cb.callF (by simp [go_sem]) ?_
      rintro _ rfl
      simp [go_sem]
      refine IWp.seqI ?_
      simp [go_sem]
      refine cw.callF (by simp [go_sem]) ?_
      rintro _ rfl
      simp [go_sem]
      refine IWp.seqI ?_
      simp [go_sem]
      refine ck.callF (by simp [go_sem]) ?_
      rintro _ rfl
      simp [go_sem]
      refine IWp.now ?_
      simp [go_sem]
      exact ⟨l2, ⟨rfl, rfl⟩, ⟨hG2, hf2⟩, by omega⟩
  clear hG hf cm hol
  rintro l ⟨hG, hf, ho⟩
  have hll := (over_iff h1 h2 hG).1 ho
  have cp := places_good h1 h2 hG (by omega) hf
  have hPp := places_perm h1 h2 hG hll
  have hPl := placesG_len n l
  have hsame := fun (l' : List Rs) (hp : l'.Perm l) => places_same h1 h2 hG hll hp
  have cp2 := fun (l' : List Rs) (hp : l'.Perm l) => places_good h1 h2 (hG.perm hp) (by rw [hp.length_eq]; omega) (fun x hx => hf x (hp.mem_iff.1 hx))
  obtain ⟨sh1, sh2, sh3, sh4⟩ := share38 n (by omega) h1
  simp only [← hPp.count_eq] at sh1 sh2 sh3 sh4
  obtain ⟨r1, r2⟩ := rnd_bd h1
  have cr := roundsY_fun n h1 h2
  have hrp := (rnd_pow h1 h2)
  have z0 : IntKind.i64.wrap 0 = 0 := by decide
  have u1 : IntKind.i64.wrap ((n : Int) - 1) = ((n - 1 : Nat) : Int) := by rw [wrap64 (by omega) (by omega)]; omega
  have hP2 : ∀ l' : List Rs, l'.Perm l → FN 28 [.int .i64 (n : Int), .fz 6 (rss l')] (fun v => v = .tup [.fz 1 (ints (placesG n l)), .int .i64 0]) := fun l' hp => by rw [← hsame l' hp]; exact cp2 l' hp
  clear cp2 hsame hPp
  generalize placesG n l = P at *
  simp only
  refine IWp.freeze 0 6 (rss l) [(2, .int .u8 turn), (7, .int .i64 (n : Int)), (8, .fz 6 (rss l))] [.dead] (by simp) (by simp [go_sem]) (by simp [go_sem]; exact (List.take_of_length_le (by simp)).symm) (by simp [go_sem]) ?_
  refine IWp.seqI ?_
  simp [go_sem]
  refine cp.callF (by simp [go_sem]) ?_
  rintro _ rfl
  simp [go_sem]
  refine IWp.seqI ?_
  simp [go_sem]
  refine cr.callF (by simp [go_sem]) ?_
  rintro _ rfl
  simp [go_sem]
  refine IWp.seqI ?_
  obtain ⟨N1, hN1⟩ : ∃ N1, n - 1 = N1 := ⟨_, rfl⟩
  rw [hN1] at u1 hll
  simp [go_sem, z0, u1, hll, hPl]
  refine IWp.seqI ?_
  simp [go_sem]
  refine IWp.seqT (α := List (Int × Int)) (fun S => (⟨false, 216, 30, [31, 50, 53, 71, 104, 132, 134, 135, 136, 137, 145, 146, 147, 161, 171], glT, [(2, .int .u8 turn), (7, .int .i64 (n : Int)), (8, .fz 6 (rss l)), (17, .fz 1 (ints P)), (19, .int .i64 (rnd n : Nat)), (21, .map 1)], []⟩, [.dead, .map (enI S)])) (fun S => ∀ v, (aget v S).getD 0 = (P.count v : Nat)) ?_ ?_
  · simp [go_sem, hPl]
    refine IWp.loopT (α := Nat × List (Int × Int)) (fun p => (⟨false, 216, 30, [31, 50, 53, 71, 104, 132, 134, 135, 136, 137, 145, 146, 147, 161, 171], glT, [(2, .int .u8 turn), (7, .int .i64 (n : Int)), (8, .fz 6 (rss l)), (17, .fz 1 (ints P)), (19, .int .i64 (rnd n : Nat)), (21, .map 1), (134, .fz 1 (ints P)), (135, .int .i64 (n : Int)), (136, .int .i64 (p.1 : Int))], []⟩, [.dead, .map (enI p.2)]))
      (fun p => p.1 ≤ n ∧ ∀ v, (aget v p.2).getD 0 = ((P.take p.1).count v : Nat)) (fun p => n - p.1) (0, []) ⟨by simp, fun v => by simp [aget]⟩ (by simp [go_sem]) ?_
    rintro ⟨j, S⟩ ⟨hj, hS⟩
    simp only at hj hS
    by_cases h : j < n
    · have v1 : IntKind.i64.wrap ((j : Int) + 1) = ((j + 1 : Nat) : Int) := by rw [wrap64 (by omega) (by omega)]; omega
      have hjP : j < P.length := by omega
      have hsn : ∀ v, (P.take (j + 1)).count v = (P.take j).count v + (if P[j] = v then 1 else 0) := fun v => by
        rw [List.take_succ_eq_append_getElem hjP, List.count_append, List.count_singleton]
        simp only [beq_iff_eq]
      obtain ⟨p, hp⟩ : ∃ p, P[j] = p := ⟨_, rfl⟩
      rw [hp] at hsn
      have hg := mget_i p S
      have hs := fun v => mset_i p v S
      have hSp := hS p
      have hcb : (P.take j).count p ≤ 64 := Nat.le_trans List.count_le_length (by simp; omega)
      obtain ⟨c, hc⟩ : ∃ c, (P.take j).count p = c := ⟨_, rfl⟩
      rw [hc] at hSp hcb
      have wc : IntKind.i64.wrap ((c : Int) + 1) = c + 1 := wrap64 (by omega) (by omega)
      have hok := ok_i S
      simp [go_sem, h, hPl, hjP, hp, v1, hg, hs, hSp, wc]
      refine ⟨fun a b h => by simpa [go_sem, keyOK] using hok (a, b) h, j + 1, aset p ((c : Int) + 1) S, ⟨by omega, rfl⟩, ⟨by omega, fun v => ?_⟩, by omega⟩
      rw [aget_aset, hsn]
      by_cases e : v = p
      · subst e; rw [if_pos rfl, if_pos rfl, hc]; simp
      · rw [if_neg e, if_neg (fun h => e h.symm)]; exact hS v
    · obtain rfl : j = n := by omega
      rw [List.take_of_length_le (by omega)] at hS
      simp [go_sem]
      exact ⟨S, rfl, hS⟩
  intro S hS
  have hok := ok_i S
  have hgv : ∀ v, mget (.int .i64 v) (enI S) = (aget v S).map fun v => .int .i64 v := fun v => mget_i v S
  refine IWp.seqT (α := Unit) (fun _ => (⟨false, 216, 30, [31, 50, 53, 71, 104, 132, 134, 135, 136, 137, 145, 146, 147, 161, 171], glT, [(2, .int .u8 turn), (7, .int .i64 (n : Int)), (8, .fz 6 (rss l)), (17, .fz 1 (ints P)), (21, .map 1)], []⟩, [.dead, .map (enI S)])) (fun _ => True) ?_ ?_
  · simp [go_sem]
    refine IWp.loopT (α := Nat) (fun k => (⟨false, 216, 30, [31, 50, 53, 71, 104, 132, 134, 135, 136, 137, 145, 146, 147, 161, 171], glT, [(2, .int .u8 turn), (7, .int .i64 (n : Int)), (8, .fz 6 (rss l)), (17, .fz 1 (ints P)), (19, .int .i64 (rnd n : Nat)), (21, .map 1), (145, .int .i64 (rnd n : Nat)), (146, .int .i64 (k : Int))], []⟩, [.dead, .map (enI S)]))
      (fun k => k ≤ rnd n) (fun k => rnd n - k) 0 (by simp) (by simp [go_sem]) ?_
    intro k hkr
    by_cases h : k < rnd n
    · have v0 : IntKind.i64.wrap ((k : Int) + 1) = ((k + 1 : Nat) : Int) := by rw [wrap64 (by omega) (by omega)]; omega
      obtain ⟨e, he⟩ : ∃ e : Nat, rnd n - 1 - k = e := ⟨_, rfl⟩
      have v1 : IntKind.i64.wrap ((rnd n : Int) - 1) = ((rnd n - 1 : Nat) : Int) := by rw [wrap64 (by omega) (by omega)]; omega
      have v2 : IntKind.i64.wrap (((rnd n - 1 : Nat) : Int) - k) = (e : Int) := by rw [wrap64 (by omega) (by omega)]; omega
      have x1 := pow7 (show e ≤ 6 by omega)
      have x2 := pow7 (show rnd n - 1 ≤ 6 by omega)
      have hE := Nat.pow_le_pow_right (show 0 < 2 by decide) (show e ≤ 6 by omega)
      have hE2 := Nat.pow_le_pow_right (show 0 < 2 by decide) (show rnd n - 1 ≤ 6 by omega)
      have hsh := sh1 k h
      have hS2 := hS (placeX (rnd n) k)
      have hg := hgv (placeX (rnd n) k)
      rw [hsh] at hS2
      unfold placeX at hS2 hg
      rw [he] at hS2 hg
      obtain ⟨P1, hP1⟩ : ∃ P1, 2 ^ (rnd n - 1) = P1 := ⟨_, rfl⟩
      rw [hP1] at x2 hE2 hS2
      obtain ⟨P2, hP2'⟩ : ∃ P2, 2 ^ e = P2 := ⟨_, rfl⟩
      rw [hP2'] at x1 hE hS2 hg
      obtain ⟨R1, hR1⟩ : ∃ R1, rnd n - 1 = R1 := ⟨_, rfl⟩
      rw [hR1] at v1 v2 x2
      have v3 : IntKind.i64.wrap ((P2 : Int) + 1) = (P2 : Int) + 1 := wrap64 (by omega) (by omega)
      have hP1n : P1 ≤ n := by
        have h9 : 2 ^ rnd n = 2 * 2 ^ (rnd n - 1) := by rw [← Nat.pow_succ']; congr 1; omega
        rw [hP1] at h9
        omega
      have v4 : IntKind.i64.wrap ((n : Int) - P1) = ((n - P1 : Nat) : Int) := by rw [wrap64 (by omega) (by omega)]; omega
      by_cases hk0 : k = 0
      · subst hk0
        rw [if_pos rfl] at hS2
        obtain rfl : e = R1 := by omega
        have hPP : P1 = P2 := by rw [← hP1, ← hP2', hR1]
        subst hPP
        have v5 : IntKind.i64.wrap (e : Int) = e := wrap64 (by omega) (by omega)
        have z1 : IntKind.i64.wrap 1 = 1 := by decide
        have hr0 : 0 < rnd n := by omega
        simp [go_sem, hr0, v1, v5, x1, v3, v4, hg, hS2, z1]
        exact ⟨fun a b h => by simpa [go_sem, keyOK] using hok (a, b) h, 1, rfl, by omega, by omega⟩
      · have hk0' : ¬ (k : Int) = 0 := by omega
        rw [if_neg hk0] at hS2
        simp [go_sem, h, v0, v1, v2, x1, x2, v3, v4, hg, hS2, hk0, hk0']
        exact ⟨fun a b h => by simpa [go_sem, keyOK] using hok (a, b) h, k + 1, by omega, by omega, by omega⟩
    · obtain rfl : k = rnd n := by omega
      simp [go_sem]
  rintro _ _
  have hg1 := hgv 1
  have hg2 := hgv 2
  have hg0 := hgv 0
  have hS1 := hS 1
  have hS2 := hS 2
  have hS0 := hS 0
  rw [sh2] at hS1
  rw [sh3] at hS2
  rw [sh4] at hS0
  clear sh1 sh2 sh3 sh4 hgv hS cr cp
  have hN0 : 0 < N1 := by omega
  have hlt := Nat.mod_lt turn.toNat hN0
  have w4 : IntKind.i64.wrap turn = turn := wrap64 (by omega) (by omega)
  have w5 : turn.tmod (N1 : Int) = ((turn.toNat % N1 : Nat) : Int) := by
    rw [Int.tmod_eq_emod_of_nonneg (by omega), Int.natCast_emod, show ((turn.toNat : Nat) : Int) = turn by omega]
  obtain ⟨J, hJ⟩ : ∃ J, turn.toNat % N1 = J := ⟨_, rfl⟩
  rw [hJ] at hlt w5
  have hN0' : ¬ (N1 : Int) = 0 := by omega
  have hN0'' : ¬ N1 = 0 := by omega
  have hJl : J ≤ N1 := by omega
  have ht1 : List.take J (rss l) = rss (l.take J) := by simp [rss, mp, List.map_take]
  have ht2 : List.drop J (rss l) = rss (l.drop J) := by simp [rss, mp, List.map_drop]
  have ht3 : List.drop J (List.take N1 (rss l)) = rss (l.drop J) := by rw [List.take_of_length_le (by simp; omega), ht2]
  have cc := cloneRes_fun (l.drop J) (by simp; omega)
  have hrb : rss (l.drop J) ++ rss (l.take J) = rss (l.drop J ++ l.take J) := by simp [rss, mp]
  have hpm : (l.drop J ++ l.take J).reverse.Perm l := (List.reverse_perm _).trans ((List.perm_append_comm).trans (by rw [List.take_append_drop]))
  have crv := reverse_calls (l.drop J ++ l.take J) (by simp; omega)
  have hTl : (l.drop J ++ l.take J).length = N1 := by simp; omega
  have cp := hP2 _ hpm
  have csm := same2_fun P (by omega)
  generalize hT : l.drop J ++ l.take J = T at *
  refine IWp.seqI ?_
  simp [go_sem, w4, w5, hll, hN0', hN0'']
  refine IWp.seqI ?_
  refine Drawn.intro (fun k => if k = 3 then .tup [.junk, .fz 6 (rss (l.drop J))] else .tup []) ?_
  simp [go_sem, hJl, ht1, ht2, ht3, hll]
  refine ⟨cc, ⟨by omega, rss_one⟩, by decide +kernel, ?_⟩
  rw [hrb]
  rw [hTl] at crv
  refine IWp.seqI ?_
  simp [go_sem]
  refine crv.at [5] (by simp [go_sem]) ?_
  rintro _ _ rfl
  simp [go_sem]
  have hRl : T.reverse.length = N1 := by simp [hTl]
  generalize T.reverse = V at *
  refine IWp.seqI ?_
  simp [go_sem]
  refine cp.callF (by simp [go_sem, hRl]) ?_
  rintro _ rfl
  simp [go_sem]
  refine IWp.now ?_
  simp [go_sem, hg0, hg1, hg2, hS0, hS1, hS2]
  refine ⟨fun a b h => by simpa [go_sem, keyOK] using hok (a, b) h, ?_⟩
  refine csm.callF (by simp [go_sem]) ?_
  rintro _ rfl
  simp [go_sem]
  exact hR _ _ _ rfl (by simp [go_sem])
theorem knockOver_law (t : Int) (xs : List Sm) (turn : Int) (h0 : (Lit.int .u8 t).wf = true) (h1 : ∀ x ∈ xs, FitS x) (h2 : xs.length ≤ maxLen) (h3 : (Lit.int .u8 turn).wf = true) :
    FN 9 [.int .u8 t, .fz 4 (sms xs), .int .u8 turn] (fun v => v = .bool true) :=
  knockOver_fun t (wf8 h0) xs h1 (by unfold maxLen at h2; omega) turn (wf8 h3)
end Go.Idl
