/-
  Chapter 39: Made: the walk.
-/
import Derived.Test.YtamffdgopknkfaaDoorC39PartW
import Derived.Test.YtamffdgopknkfaaDoorC39PartX
import Derived.Test.YtamffdgopknkfaaDoorC39PartB
namespace Go.Idl
set_option linter.all false
open Go.Proofs
set_option maxHeartbeats 16000000
set_option maxRecDepth 40000

def Sk.cells (x : Sk) : List IV := [.int .u8 x.a, .int .u8 x.b, .int .u8 x.c, .fz 1 (bys .u8 x.L), .fz 1 (bys .i8 x.M)]
structure FitK (x : Sk) : Prop where
  a : 0 ≤ x.a ∧ x.a < 256
  b : 0 ≤ x.b ∧ x.b < 256
  c : 0 ≤ x.c ∧ x.c < 256
  L : ∀ n ∈ x.L, 0 ≤ n ∧ n < 256
  M : ∀ m ∈ x.M, -128 ≤ m ∧ m < 128
  l : x.L.length ≤ 2 ^ 63
  m : x.M.length ≤ 2 ^ 63
theorem made39_fun (x : Sk) (hx : FitK x) : FN 11 [.agg x.cells] (fun v => v = .tup [(pX x).v, .fz 4 (ems (lX x)), .bool true]) := by
  refine IFun.of_bodyZ false 17 [34, 35, 36, 37, 56, 70, 71, 72, 83, 93, 96, 97, 98, 99, 111] Tryd.func11 rfl Tryd.call11 rfl fun R hR => ?_
  obtain ⟨h1, h2, h3, h4, h5, h6, h7⟩ := hx
  have m1 : x.a.tmod 8 = x.a % 8 := Int.tmod_eq_emod_of_nonneg (by omega)
  have m2 : x.b.tmod 6 = x.b % 6 := Int.tmod_eq_emod_of_nonneg (by omega)
  have w1 : IntKind.i64.wrap x.a = x.a := wrap64 (by omega) (by omega)
  have w2 : IntKind.i64.wrap x.b = x.b := wrap64 (by omega) (by omega)
  have w3 : IntKind.i64.wrap (2 + x.a.tmod 8) = 2 + x.a % 8 := by rw [m1]; exact wrap64 (by omega) (by omega)
  have w4 : IntKind.i64.wrap (1 + x.b.tmod 6) = 1 + x.b % 6 := by rw [m2]; exact wrap64 (by omega) (by omega)
  obtain ⟨N, hN⟩ : ∃ N, min x.L.length 5 = N := ⟨_, rfl⟩
  have hN2 : (if (5 : Int) < x.L.length then (5 : Int) else (x.L.length : Int)) = (N : Int) := by split <;> omega
  have hN3 : (N : Int) ≤ x.L.length := by omega
  have hN4 : N ≤ x.L.length := by omega
  obtain ⟨T, hT⟩ : ∃ T, x.L.take N = T := ⟨_, rfl⟩
  have hTl : T.length = N := by rw [← hT]; simp; omega
  have hT5 : x.L.take 5 = T := by
    rw [← hT, ← hN]
    rcases Nat.le_total x.L.length 5 with h | h
    · rw [List.take_of_length_le h, List.take_of_length_le (by omega)]
    · rw [Nat.min_eq_right h]
  have hT0 : (x.L.length = 0) ↔ N = 0 := by omega
  have hS : scX x.L = if N = 0 then [1] else limL 0 T := by unfold scX; rw [hT5]; simp only [hT0]
  have hTb : ∀ n ∈ T, 0 ≤ n ∧ n < 256 := fun n hn => h4 n (List.mem_of_mem_take (by rw [hT]; exact hn))
  simp only [Sk.cells]
  simp [go_sem, w1, w2, w3, w4, hN2, hN3, hN4]
  rw [← bys_take, hT]
  by_cases hN0 : N = 0
  case' pos =>
    have hTn : T = [] := List.eq_nil_of_length_eq_zero (by omega)
    subst hTn
    subst hN0
    rw [if_pos rfl] at hS
    refine IWp.loopT (α := Unit) (fun _ => (⟨false, 132, 17, [34, 35, 36, 37, 56, 70, 71, 72, 83, 93, 96, 97, 98, 99, 111], glT, [(1, .ptr 0 1 0 0), (2, .ptr 1 1 0 0), (5, .ptr 2 1 0 0), (6, .int .i64 0), (34, .fz 1 (bys .u8 [])), (35, .int .i64 0), (36, .int .i64 0)], []⟩, [.rows 5 [[.int .u8 x.a, .int .u8 x.b, .int .u8 x.c, .fz 1 (bys .u8 x.L), .fz 1 (bys .i8 x.M)]], .rows 4 [[.int .i64 0, .int .i64 0, .int .i64 0, .nils]], .rows 4 [[.int .i64 (2 + x.a % 8), .int .i64 (1 + x.b % 6), .int .i64 0, .nils]]]))
      (fun _ => True) (fun _ => 0) () trivial (by simp [go_sem]) ?_
    rintro _ -
    have w9 : IntKind.i64.wrap (IntKind.i64.wrap 2 + 1) = 3 := by decide
    have w10 : IntKind.i64.wrap x.c = x.c := wrap64 (by omega) (by omega)
    have m3 : x.c.tmod 3 = x.c % 3 := Int.tmod_eq_emod_of_nonneg (by omega)
    have hb : (pX x).b = x.c % 3 := by unfold pX; rw [hS]; rfl
    simp [go_sem, w9, w10, m3]
    rw [show [[IV.int .i64 1]] = ints [1] from rfl]
    obtain ⟨S, hSe⟩ : ∃ S, S = [(1 : Int)] := ⟨_, rfl⟩
    rw [← hSe] at hS ⊢
    have hSl : S.length = 1 := by rw [hSe]; rfl
    obtain ⟨b3, hb3⟩ : ∃ b, b = x.c % 3 := ⟨_, rfl⟩
    rw [← hb3] at hb ⊢
    rw [show IV.sl 3 1 0 1 none = IV.sl 3 S.length 0 S.length none by rw [hSl]]
    clear hSe hSl hTb hT0 hT5 hTl hN hN2 hN3 hN4 w9 m3
  case' neg =>
    refine IWp.ownNil 1 _ [.rows 5 [[.int .u8 x.a, .int .u8 x.b, .int .u8 x.c, .fz 1 (bys .u8 x.L), .fz 1 (bys .i8 x.M)]], .rows 4 [[.int .i64 0, .int .i64 0, .int .i64 0, .nils]], .rows 4 [[.int .i64 (2 + x.a % 8), .int .i64 (1 + x.b % 6), .int .i64 0, .sl 3 0 0 0 none]]] (by decide) (nlL_refl _) (by simp [nlH, nlRs, nlRow, nlV]) ?_
    simp only [List.cons_append, List.nil_append]
    refine IWp.loopT (α := Nat) (fun i => (⟨false, 132, 17, [34, 35, 36, 37, 56, 70, 71, 72, 83, 93, 96, 97, 98, 99, 111], glT, [(1, .ptr 0 1 0 0), (2, .ptr 1 1 0 0), (5, .ptr 2 1 0 0), (6, .int .i64 (limE 0 (T.take i))), (34, .fz 1 (bys .u8 T)), (35, .int .i64 N), (36, .int .i64 (i : Int))], []⟩, [.rows 5 [[.int .u8 x.a, .int .u8 x.b, .int .u8 x.c, .fz 1 (bys .u8 x.L), .fz 1 (bys .i8 x.M)]], .rows 4 [[.int .i64 0, .int .i64 0, .int .i64 0, .nils]], .rows 4 [[.int .i64 (2 + x.a % 8), .int .i64 (1 + x.b % 6), .int .i64 0, .sl 3 i 0 i none]], .rows 1 (ints (limL 0 (T.take i)))]))
      (fun i => i ≤ N) (fun i => N - i) 0 (by omega) (by simp [go_sem, limE, limL]) ?_
    intro i hi
    by_cases hiN : i < N
    · have wi : IntKind.i64.wrap ((i : Int) + 1) = i + 1 := wrap64 (by omega) (by omega)
      have hiT : i < T.length := by omega
      obtain ⟨n, hn⟩ : ∃ n, T[i] = n := ⟨_, rfl⟩
      have hnb := hTb T[i] (List.getElem_mem _)
      rw [hn] at hnb
      have hm : n.tmod 20 = n % 20 := Int.tmod_eq_emod_of_nonneg (by omega)
      have sn : T.take (i + 1) = T.take i ++ [n] := by rw [List.take_succ_eq_append_getElem hiT, hn]
      have le := limE_bd (a := 0) (l := T.take i)
      have tl : (T.take i).length = i := by simp; omega
      have ll : (limL 0 (T.take i)).length = i := by rw [limL_length, tl]
      rw [tl] at le
      have e1 := limE_snoc (a := 0) (n := n) (l := T.take i)
      have e2 := limL_snoc (a := 0) (n := n) (l := T.take i)
      rw [← sn] at e1 e2
      generalize limE 0 (T.take i) = E at *
      generalize limL 0 (T.take i) = A at *
      have w5 : IntKind.i64.wrap n = n := wrap64 (by omega) (by omega)
      have w6 : IntKind.i64.wrap (1 + n.tmod 20) = 1 + n % 20 := by rw [hm]; exact wrap64 (by omega) (by omega)
      have w7 : IntKind.i64.wrap (E + (1 + n % 20)) = E + (1 + n % 20) := wrap64 (by omega) (by omega)
      simp [go_sem, hiN, hiT, hn, wi, w5, w6, w7]
      refine ⟨⟨by omega, by omega⟩, i + 1, ⟨⟨by rw [e1], by omega⟩, rfl, by rw [e2, ints_snoc]⟩, by omega, by omega⟩
    obtain rfl : i = N := by omega
    rw [List.take_of_length_le (by omega)]
    rw [if_neg hN0] at hS
    have hN0' : ¬ (i : Int) = 0 := by omega
    have hN00 : ((i : Int) == 0) = false := by rw [beq_eq_false_iff_ne]; exact hN0'
    have w8 : IntKind.i64.wrap (2 * (i : Int)) = 2 * i := wrap64 (by omega) (by omega)
    have w9 : IntKind.i64.wrap (2 * (i : Int) + 1) = 2 * i + 1 := wrap64 (by omega) (by omega)
    have w10 : IntKind.i64.wrap x.c = x.c := wrap64 (by omega) (by omega)
    have m3 : x.c.tmod (2 * (i : Int) + 1) = x.c % (2 * (i : Int) + 1) := Int.tmod_eq_emod_of_nonneg (by omega)
    have hb : (pX x).b = x.c % (2 * (i : Int) + 1) := by unfold pX; rw [hS]; simp [hTl]
    have hz : ¬ (2 * (i : Int) + 1) = 0 := by omega
    have hSl : (limL 0 T).length = i := by rw [limL_length, hTl]
    simp [go_sem, hN0, hN0', hN00, w8, w9, w10, m3, hz, hTl]
    obtain ⟨b3, hb3⟩ : ∃ b, b = x.c % (2 * (i : Int) + 1) := ⟨_, rfl⟩
    rw [← hb3] at hb ⊢
    generalize limL 0 T = S at *
    rw [show IV.sl 3 i 0 i none = IV.sl 3 S.length 0 S.length none by rw [hSl]]
    clear hSl hTb hT0 hT5 hTl hN hN2 hN3 hN4 hN0 hN0' hN00 w8 w9 m3 hz
  all_goals (
    have hbd := pX_bd x
    have hfull := (bX_full h5).1
    have hbx : mdGo (pX x) x.M (pX x).r.toNat [] = bX x := rfl
    have hpl := pX_ok x
    have hpx : pX x = ⟨2 + x.a % 8, 1 + x.b % 6, b3, S⟩ := by
      rw [← hS, ← hb]; rfl
    have hlx : lX x = mB 0 (bX x) := rfl
    rw [hlx] at hR
    clear hlx hb hS
    rw [hpx] at hbx hbd hpl hR hfull
    clear hpx
    generalize 2 + x.a % 8 = t at *
    generalize 1 + x.b % 6 = r at *
    generalize bX x = BX at *
    obtain ⟨p, hp⟩ : ∃ p : Pl, p = ⟨t, r, b3, S⟩ := ⟨_, rfl⟩
    rw [← hp] at hbx hbd hpl hR hfull
    have ht : p.t = t := by rw [hp]
    have hr : p.r = r := by rw [hp]
    have hb : p.b = b3 := by rw [hp]
    have hs : p.s = S := by rw [hp]
    rw [ht, hr] at hbd
    rw [hr] at hbx
    have hsc : S.length ≤ 50 := by
      have := scB_len (plB_t hpl).2.2.2.2.1
      rw [hs] at this; omega
    refine IWp.ownNilS 4 9 (by decide) (by simp [go_sem]) ?_
    simp [go_sem]
    refine IWp.loopT (α := List Er) (fun B => (⟨false, 132, 17, [34, 35, 36, 37, 56, 70, 71, 72, 83, 93, 96, 97, 98, 99, 111], glT, [(1, .ptr 0 1 0 0), (2, .ptr 1 1 0 0), (5, .ptr 2 1 0 0), (9, .sl 4 (mB 0 B).length 0 (mB 0 B).length none), (70, .int .i64 r), (71, .int .i64 B.length)], []⟩, [.rows 5 [[.int .u8 x.a, .int .u8 x.b, .int .u8 x.c, .fz 1 (bys .u8 x.L), .fz 1 (bys .i8 x.M)]], .rows 4 [[.int .i64 0, .int .i64 0, .int .i64 0, .nils]], .rows 4 [[.int .i64 t, .int .i64 r, .int .i64 b3, .sl 3 S.length 0 S.length none]], .rows 1 (ints S), .rows 4 (ems (mB 0 B))]))
      (fun B => FullB p B ∧ mdGo p x.M (r.toNat - B.length) B = BX) (fun B => r.toNat - B.length) [] ⟨FullB.nil hpl, by simpa using hbx⟩ (by simp [go_sem, mB]) ?_
    rintro B ⟨hB, hgo⟩
    have hBl := hB.len
    rw [hr] at hBl
    by_cases hlt : B.length < r.toNat
    case neg =>
      have hlt' : ¬ (B.length : Int) < r := by omega
      rw [show r.toNat - B.length = 0 by omega] at hgo
      simp only [mdGo] at hgo
      simp [go_sem, hlt']
      refine hR _ _ _ rfl ?_
      rw [← hgo]
      simp [go_sem, Pl.v, hp]
    have hlt' : (B.length : Int) < r := by omega
    have hml : (mB 0 B).length ≤ 100 := by
      rw [mB_le hB 0, ht]
      have h8 : t.toNat / 2 ≤ 4 := by omega
      exact Nat.le_trans (Nat.mul_le_mul (by omega : B.length ≤ 6) h8) (by omega)
    have hA : ArgE p (mB 0 B) := ⟨fun _ => by omega, by rw [hs]; omega, by omega⟩
    have cd := DrawG_calls (SR := ints S) (LR := ems (mB 0 B)) (ls := S.length) (ll := (mB 0 B).length) (cs := none) (cl := none) p (mB 0 B) B.length hA (by rw [hs]; simp [go_sem]) (by simp) (by simp [go_sem]) (by simp [go_sem]) (by simp) (by simp [go_sem])
    rw [hB.draw (by omega)] at cd
    obtain ⟨K, hK⟩ : ∃ K, r.toNat - B.length = K + 1 := ⟨r.toNat - B.length - 1, by omega⟩
    rw [hK] at hgo
    unfold mdGo at hgo
    simp only [plOw, ht, hr, hb] at cd
    by_cases hd : (drawR (ordT p B) (metT B) (byeT B)).2.2 ≠ 0
    · rw [if_pos hd] at hgo cd
      simp only [drawV] at cd
      simp [go_sem, hlt']
      refine cd.at [3, 4] (by simp [go_sem]) ?_
      rintro _ _ ⟨rfl, rfl⟩
      simp [go_sem]
      refine hR _ _ _ rfl ?_
      rw [← hgo]
      simp [go_sem, Pl.v, hp]
    rw [if_neg hd] at hgo cd
    obtain ⟨d, y, hdy⟩ : ∃ d y, drawR (ordT p B) (metT B) (byeT B) = (d, y, 0) := ⟨_, _, Prod.ext rfl (Prod.ext rfl (by simpa using hd))⟩
    rw [hdy] at hgo cd
    simp only [drawV] at hgo cd
    have hstep := hB.step (by omega) h5 hdy (k := (mB 0 B).length)
    have hdl : d.length = t.toNat / 2 := by
      have := chain_len hstep.chain (j := B.length) (r := ⟨d, y, mgX x.M (mB 0 B).length d⟩) (by simp)
      rwa [ht] at this
    have wt : IntKind.i64.wrap (t.tdiv 2) = (d.length : Int) := by
      rw [Int.tdiv_eq_ediv_of_nonneg (by omega), wrap64 (by omega) (by omega)]; omega
    have wn : IntKind.i64.wrap ((B.length : Int) + 1) = ((B.length + 1 : Nat) : Int) := by rw [wrap64 (by omega) (by omega)]; omega
    simp [go_sem, hlt']
    refine cd.at [3, 4] (by simp [go_sem]) ?_
    rintro _ _ ⟨rfl, rfl⟩
    simp [go_sem, wt]
    have hal : ∀ i, i ≤ d.length → (mB 0 B ++ rowM B.length (mgX x.M (mB 0 B).length (d.take i))).length = (mB 0 B).length + i := fun i hi => by simp; omega
    refine IWp.loopT (α := Nat) (fun i => (⟨false, 132, 17, [34, 35, 36, 37, 56, 70, 71, 72, 83, 93, 96, 97, 98, 99, 111], glT, [(1, .ptr 0 1 0 0), (2, .ptr 1 1 0 0), (5, .ptr 2 1 0 0), (9, .sl 4 (mB 0 B ++ rowM B.length (mgX x.M (mB 0 B).length (d.take i))).length 0 (mB 0 B ++ rowM B.length (mgX x.M (mB 0 B).length (d.take i))).length none), (10, .int .i64 B.length), (70, .int .i64 r), (71, .int .i64 B.length), (96, .fz 2 (prs d)), (97, .int .i64 d.length), (98, .int .i64 (i : Int))], []⟩, [.rows 5 [[.int .u8 x.a, .int .u8 x.b, .int .u8 x.c, .fz 1 (bys .u8 x.L), .fz 1 (bys .i8 x.M)]], .rows 4 [[.int .i64 0, .int .i64 0, .int .i64 0, .nils]], .rows 4 [[.int .i64 t, .int .i64 r, .int .i64 b3, .sl 3 S.length 0 S.length none]], .rows 1 (ints S), .rows 4 (ems (mB 0 B ++ rowM B.length (mgX x.M (mB 0 B).length (d.take i))))]))
      (fun i => i ≤ d.length) (fun i => d.length - i) 0 (by omega) (by simp [go_sem, mgX, rowM]) ?_
    intro i hi
    by_cases hid : i < d.length
    case neg =>
      obtain rfl : i = d.length := by omega
      rw [List.take_length]
      have hmb : mB 0 (B ++ [⟨d, y, mgX x.M (mB 0 B).length d⟩]) = mB 0 B ++ rowM B.length (mgX x.M (mB 0 B).length d) := by
        rw [mB_append]; simp [mB]
      rw [← hmb]
      simp [go_sem, wn]
      refine ⟨B ++ [⟨d, y, mgX x.M (mB 0 B).length d⟩], ⟨⟨rfl, by simp⟩, rfl⟩, ⟨hstep, ?_⟩, ?_⟩
      · rw [List.length_append, List.length_singleton, show r.toNat - (B.length + 1) = K by omega]; exact hgo
      · simp; omega
    have wi : IntKind.i64.wrap ((i : Int) + 1) = i + 1 := wrap64 (by omega) (by omega)
    obtain ⟨q, hq⟩ : ∃ q, d[i] = q := ⟨_, rfl⟩
    have hsn : mB 0 B ++ rowM B.length (mgX x.M (mB 0 B).length (d.take (i + 1))) = (mB 0 B ++ rowM B.length (mgX x.M (mB 0 B).length (d.take i))) ++ [⟨B.length, q.1, q.2, margM x.M ((mB 0 B).length + i)⟩] := by
      rw [List.take_succ_eq_append_getElem hid, mgX_snoc, hq]
      have : (d.take i).length = i := by simp; omega
      rw [this]
      simp [rowM]
    have hl1 := hal i hi
    have hl2 := hal (i + 1) hid
    obtain ⟨J, hJ⟩ : ∃ J, (mB 0 B).length + i = J := ⟨_, rfl⟩
    rw [hJ] at hsn hl1
    generalize mB 0 B ++ rowM B.length (mgX x.M (mB 0 B).length (d.take i)) = Q at *
    obtain ⟨q1, q2⟩ := q
    have hJ9 : J ≤ 200 := by omega
    unfold margM at hsn
    by_cases hM0 : x.M.length = 0
    · rw [if_pos hM0] at hsn
      simp [go_sem, hid, hq, hM0, wi]
      refine ⟨by omega, i + 1, ⟨⟨by omega, by omega⟩, by rw [hsn, ems_snoc]⟩, by omega, by omega⟩
    rw [if_neg hM0] at hsn
    have hMp : 0 < x.M.length := by omega
    obtain ⟨G, hG⟩ : ∃ G, Q.length % x.M.length = G := ⟨_, rfl⟩
    have hGl : G < x.M.length := by rw [← hG]; exact Nat.mod_lt _ hMp
    have tm : (Q.length : Int).tmod (x.M.length : Int) = (G : Int) := by
      rw [Int.tmod_eq_emod_of_nonneg (by omega), ← hG]; omega
    obtain ⟨v, hv⟩ : ∃ v, x.M[G] = v := ⟨_, rfl⟩
    have hvb := h5 x.M[G] (List.getElem_mem _)
    rw [hv] at hvb
    have wv : IntKind.i64.wrap v = v := wrap64 (by omega) (by omega)
    rw [show x.M.getD (J % x.M.length) 0 = v by rw [← hl1, hG]; simp [hGl, hv]] at hsn
    simp [go_sem, hid, hq, hM0, hMp, wi, tm, hGl, hv, wv]
    refine ⟨by decide +kernel, by omega, i + 1, ⟨⟨by omega, by omega⟩, by rw [hsn, ems_snoc]⟩, by omega, by omega⟩)
end Go.Idl
