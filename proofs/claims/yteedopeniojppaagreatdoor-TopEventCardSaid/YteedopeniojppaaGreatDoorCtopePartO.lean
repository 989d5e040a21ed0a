import Derived.Test.YteedopeniojppaaGreatDoorCtopePartN
set_option linter.all false
set_option maxHeartbeats 16000000
set_option maxRecDepth 40000
namespace Go.Idl.K38
open Go.Proofs
theorem rss_rows {l : List Rs} : ∀ r ∈ rss l, r.length = 6 := mp_rows (by simp [Rs.c])
theorem rss_one {l : List Rs} : ∀ a ∈ rss l, a.length = 6 ∧ ∀ x ∈ a, IV.one x = true := rows_one (mp_sc (by simp [scal, Rs.c])) rss_rows
def Turn (e : Env) (σ : Heap) (K : Env → Heap → Prop) : Prop := ∀ (μ : Mu) (F : Fz) (w : World) (t : Array Value), EnvR μ F w t e → HR μ F σ w → ∃ e' σ' μ' F', EnvR μ' F' w t e' ∧ HR μ' F' σ' w ∧ Ext μ F w μ' F' w ∧ K e' σ'
theorem endI {P : Program} {Q : XPost} {c : Code} {e : Env} {σ : Heap} (h : yC P c (thenQ (fun e σ => Turn e σ fun e σ => Q .normal e σ) Q) e σ) : IWp P c Q e σ := fun ro μ F a w hR hE hH => by
 refine wpIn_mono (yC_sound _ _ _ _ h ro μ F a w hR hE hH) ?_
 rintro ex a' w' ⟨xe, e', σ', μ', F', h1, h2, h3, h4, h5, h6⟩
 cases xe with
 | normal =>
  cases ex <;> simp only [XExit.rel] at h1
  obtain ⟨e2, σ2, μ2, F2, k1, k2, k3, k4⟩ := h2 μ' F' w' a'.tmps h3 h4
  exact ⟨.normal, e2, σ2, μ2, F2, trivial, k4, k1, k2, h5.trans k3, h6.trans (.refl rfl) h4 h5.size k3⟩
 | exit i => cases ex <;> simp only [XExit.rel] at h1; exact ⟨.exit i, e', σ', μ', F', h1, h2, h3, h4, h5, h6⟩
 | ret => cases ex <;> simp only [XExit.rel] at h1; exact ⟨.ret, e', σ', μ', F', trivial, h2, h3, h4, h5, h6⟩
theorem Turn.freeze {σ : Heap} {K : Env → Heap → Prop} {x : Bool} {n m : Nat} {ex : List Nat} {gl nm : List (Nat × IV)} (b s : Nat) (rs : List (List IV)) (nm' : List (Nat × IV)) (σ' : Heap) (hb : σ[b]? = some (.rows s rs)) (hl : fzL b s rs nm nm') (hσ : fzH b s rs 0 σ σ')
  (h : K ⟨x, n, m, ex, gl, nm', []⟩ σ') : Turn ⟨x, n, m, ex, gl, nm, []⟩ σ K := fun μ F w t hE hH => by
 obtain ⟨hH2, hX1⟩ := hH.freeze hb hσ
 have hv : ∀ {v : Value} {c c' : IV}, fzR b s rs c c' → VR μ F w v c → VR (μ.kill b) (F.with μ b) w v c' := fun h hv => fzR_vr hH hb h hv
 refine ⟨⟨x, n, m, ex, gl, nm', []⟩, σ', μ.kill b, F.with μ b, ⟨hE.size, fun t c hc => ?_, fun g c hc => hv (.inl rfl) (hE.glob g c hc)⟩, hH2, hX1, h⟩
 unfold Env.get at hc
 cases hn : isNamed m ex t with
 | true =>
  simp only [hn, cond_true] at hc
  obtain ⟨c0, h1, h2⟩ := fzL_get hl hc
  obtain ⟨v, v1, v2⟩ := hE.slot t c0 (by unfold Env.get; simp only [hn, cond_true]; exact h1)
  exact ⟨v, v1, hv h2 v2⟩
 | false => simp [hn, eget] at hc
theorem knockout_fun (p : Pl) (L : List Em) (hA : ArgE p L) (hc : (chkR p L).2 = 0) (hm : ∀ m ∈ L, -192 ≤ m.m ∧ m.m ≤ 192) (Q : List Int) (hQ2 : 2 ≤ Q.length) (hQ9 : Q.length ≤ 9) (hQn : Q.Nodup) (hQb : ∀ q ∈ Q, 1 ≤ q ∧ q ≤ p.t)
  (b : Nat) (hb : b ≤ 8) (t : Nat) (l : List Int) (hl : ∀ x ∈ l, 0 ≤ x ∧ x < 256) (hn : l.length < 2 ^ 63) :
  FN 9 [p.v, .fz 4 (ems L), .fz 1 (ints Q), .int .i64 (b : Int), (parF t).v, .fz 1 (bys .u8 l)] (fun v => v = .bool true) := by
 refine IFun.of_bodyW false 37 [43, 56, 93, 167, 246, 247, 248, 249, 250, 264, 266] Tryz.func9 rfl Tryz.call9 rfl fun R hR => ?_
 obtain ⟨k4, hk4, hpar⟩ := parF_eq t
 obtain ⟨n, hk⟩ : ∃ n, Q.length = n := ⟨_, rfl⟩
 have cP := fun f hf => played_fun l hl hn f b hf hb
 have cK := fun i hi => pick_fun l hl hn i hi
 rw [hpar]
 generalize hF : parI k4 = F at *
 simp only [Pl.v, Frc.v] at *
 refine IWp.seqI ?_
 simp [go_sem]
 refine IWp.seqI ?_
 simp [go_sem]
 refine IWp.seqI ?_
 simp [go_sem]
 refine IWp.ownNilS 6 14 (by decide) rfl ?_
 simp [go_sem]
 have hn2 : 2 ≤ n := by omega
 have hn9 : n ≤ 9 := by omega
 rw [hk]
 refine IWp.freeze 2 6 [] [(0, .agg [.int .i64 p.t, .int .i64 p.r, .int .i64 p.b, .fz 1 (ints p.s)]), (1, .fz 4 (ems L)), (2, .fz 1 (ints Q)), (3, .int .i64 (b : Int)), (4, .agg [.int .i64 F.num, .int .i64 F.den]), (5, .fz 1 (bys .u8 l)), (6, .ptr 0 1 0 0), (10, .ptr 1 1 0 0), (12, .bool false), (13, .int .i64 (n : Int)), (14, .fz 6 [])] [.rows 4 [[.int .i64 p.t, .int .i64 p.r, .int .i64 p.b, .fz 1 (ints p.s)]], .rows 2 [[.int .i64 F.num, .int .i64 F.den]], .dead] (by simp) (by simp [go_sem]) (by simp [go_sem]) (by simp [go_sem]) ?_
 refine IWp.seq ?_
 refine IWp.block ?_
 refine IWp.loopI (α := List Rs) (fun a => (⟨false, 272, 37, [43, 56, 93, 167, 246, 247, 248, 249, 250, 264, 266], glT, [(1, .fz 4 (ems L)), (2, .fz 1 (ints Q)), (3, .int .i64 (b : Int)), (5, .fz 1 (bys .u8 l)), (6, .ptr 0 1 0 0), (10, .ptr 1 1 0 0), (13, .int .i64 (n : Int)), (14, .fz 6 (rss a))], []⟩, [.rows 4 [[.int .i64 p.t, .int .i64 p.r, .int .i64 p.b, .fz 1 (ints p.s)]], .rows 2 [[.int .i64 F.num, .int .i64 F.den]], .dead]))
  (fun a => Good n a ∧ (∀ x ∈ a, FitR x) ∧ a.length ≤ n - 1) (fun a => n - a.length) [] ⟨⟨by simp, List.Pairwise.nil, by simp, by simp⟩, by simp, by simp⟩ (by simp [go_sem, rss, mp]) ?_
 rintro A ⟨hG, hfit, hAl⟩
 refine IWp.shut fun Q0 hQ0 => ?_
 have w1 : IntKind.i64.wrap ((n : Int) - 1) = ((n - 1 : Nat) : Int) := by rw [wrap64 (by omega) (by omega)]; omega
 obtain ⟨n1, hn1⟩ : ∃ n1, n - 1 = n1 := ⟨_, rfl⟩
 rw [hn1] at w1 hAl
 refine IWp.seq ?_
 by_cases h : A.length < n1
 ·refine IWp.now ?_
  simp [go_sem, w1, h]
  have hne : opens n A ≠ [] := fun e => by
   have := (over_iff hn2 (by omega) hG).1 e
   omega
  have cOp := open_good hn2 (by omega) hG (by omega) hfit
  have hol : 0 < (opens n A).length := List.length_pos_iff.2 hne
  have hof := fun m hm => opens_bd (m := m) hn2 (by omega) hG hm
  have hon := fun m hm => opens_ne (m := m) hn2 (by omega) hG hm
  have hnf := fun m hm x hr hi ha hb hw => next_front (m := m) (x := x) hn2 (by omega) hG hm hr hi ha hb hw
  have hff := fun m hm x hr hi ha hb hw => front_fit (m := m) (x := x) hn2 (by omega) hG hm hr hi ha hb hw
  have holl := opens_len (by omega : 2 ≤ n) A
  generalize opens n A = O at *
  refine IWp.block ?_
  refine IWp.seqI ?_
  simp [go_sem]
  refine cOp.callF (by simp [go_sem]) ?_
  rintro _ rfl
  have hol0 : ((O.length : Int) == 0) = false := beq_eq_false_iff_ne.2 (by omega)
  simp [go_sem]
  refine IWp.seq ?_
  refine IWp.now ?_
  simp [go_sem, hol0]
  have ck := cK A.length (by omega)
  have bk := pickV_bd hl A.length
  generalize pickV l A.length = z at *
  have hOI : ¬ (O.length : Int) = 0 := by omega
  have z1 : z.tmod O.length = z % O.length := Int.tmod_eq_emod_of_nonneg (by omega)
  have z2 := Int.emod_nonneg z hOI
  have z3 := Int.emod_lt_of_pos z (show (0 : Int) < O.length by omega)
  obtain ⟨c, hc9⟩ : ∃ c : Nat, z % (O.length : Int) = c := ⟨(z % (O.length : Int)).toNat, by omega⟩
  rw [hc9] at z1 z3
  have hcO : c < O.length := by omega
  have z4 : IntKind.i64.wrap (c : Int) = c := wrap64 (by omega) (by omega)
  have hmO := List.getElem_mem hcO
  obtain ⟨m, hmE⟩ : ∃ m, O[c] = m := ⟨_, rfl⟩
  rw [hmE] at hmO
  have f1 := hof m hmO
  have f2 := hon m hmO
  have f3 := hnf m hmO
  have f4 := hff m hmO
  have hneO : ¬ O = [] := hne
  obtain ⟨mr, mi, ma, mb⟩ := m
  simp only at f1 f2
  refine IWp.seqI ?_
  simp [go_sem]
  refine ck.callF (by simp [go_sem]) ?_
  rintro _ rfl
  simp [go_sem, z1, z4, hOI, hneO, hcO, hmE]
  have a1 : ¬ ma < 1 := by omega
  have a2 : ¬ (n : Int) < ma := by omega
  have a3 : ¬ mb < 1 := by omega
  have a4 : ¬ (n : Int) < mb := by omega
  refine IWp.seq ?_
  refine IWp.now ?_
  simp [go_sem, a1, a2, a3, a4, f2]
  obtain ⟨r, rfl⟩ := Int.eq_ofNat_of_zero_le f1.2.2.1.1
  obtain ⟨i, rfl⟩ := Int.eq_ofNat_of_zero_le f1.2.2.2.1
  obtain ⟨N1, hN1⟩ : ∃ N1, 3 * r = N1 := ⟨_, rfl⟩
  obtain ⟨N2, hN2⟩ : ∃ N2, 5 * i = N2 := ⟨_, rfl⟩
  obtain ⟨N3, hN3⟩ : ∃ N3, N1 + N2 = N3 := ⟨_, rfl⟩
  have t1 : IntKind.i64.wrap (3 * (r : Int)) = (N1 : Int) := by rw [wrap64 (by omega) (by omega)]; omega
  have t2 : IntKind.i64.wrap (5 * (i : Int)) = (N2 : Int) := by rw [wrap64 (by omega) (by omega)]; omega
  have t3 : IntKind.i64.wrap ((N1 : Int) + (N2 : Int)) = (N3 : Int) := by rw [wrap64 (by omega) (by omega)]; omega
  have cpl := cP N3 (by omega)
  have bpl := plM_bd l N3 b hb
  generalize plM l N3 b = mm at *
  refine IWp.seqI ?_
  simp [go_sem, t1, t2, t3]
  refine cpl.callF (by simp [go_sem]) ?_
  rintro _ rfl
  simp [go_sem]
  obtain ⟨ja, hja⟩ : ∃ ja : Nat, ma - 1 = ja := ⟨(ma - 1).toNat, by omega⟩
  obtain ⟨jb, hjb⟩ : ∃ jb : Nat, mb - 1 = jb := ⟨(mb - 1).toNat, by omega⟩
  have hjaQ : ja < Q.length := by omega
  have hjbQ : jb < Q.length := by omega
  have u1 : IntKind.i64.wrap (ma - 1) = (ja : Int) := by rw [hja]; exact wrap64 (by omega) (by omega)
  have u2 : IntKind.i64.wrap (mb - 1) = (jb : Int) := by rw [hjb]; exact wrap64 (by omega) (by omega)
  have qa := hQb _ (List.getElem_mem hjaQ)
  have qb := hQb _ (List.getElem_mem hjbQ)
  have qne : Q[ja] ≠ Q[jb] := fun e => by
   have hp := List.nodup_iff_pairwise_ne.1 hQn
   rcases Nat.lt_trichotomy ja jb with h9 | h9 | h9
   ·exact List.pairwise_iff_getElem.1 hp ja jb hjaQ hjbQ h9 e
   ·omega
   ·exact List.pairwise_iff_getElem.1 hp jb ja hjbQ hjaQ h9 e.symm
  obtain ⟨sa, hsa⟩ : ∃ sa, Q[ja] = sa := ⟨_, rfl⟩
  obtain ⟨sb, hsb⟩ : ∃ sb, Q[jb] = sb := ⟨_, rfl⟩
  rw [hsa] at qa qne
  rw [hsb] at qb qne
  obtain ⟨C, r1, r2, r3, r4, r5⟩ := car_facts hk4 hc hm qa qb qne
  rw [hF] at r1 r2
  have hFf : FitF F := by rw [← hF]; unfold parI FitF; split <;> simp only <;> omega
  have cA := evCarry_fun p L sa sb F 50 hA (fun _ m hm' => by have := hm m hm'; omega) hFf (by omega)
  have cB := evCarry_fun p L sb sa F 50 hA (fun _ m hm' => by have := hm m hm'; omega) hFf (by omega)
  rw [r1] at cA
  rw [r2] at cB
  simp only [Pl.v, Frc.v] at cA cB
  refine IWp.seq ?_
  refine IWp.now ?_
  simp [go_sem]
  refine Drawn.intro (fun q => if q = 15 then .tup [.agg [.int .i64 C.num, .int .i64 C.den], .int .i64 0] else .tup []) ?_
  simp [go_sem, cA, u1, u2, hjaQ, hjbQ, hsa, hsb]
  refine ⟨by decide +kernel, ?_⟩
  refine IWp.seq ?_
  refine IWp.now ?_
  simp [go_sem]
  refine Drawn.intro (fun q => if q = 15 then .tup [.agg [.int .i64 (-C.num), .int .i64 C.den], .int .i64 0] else .tup []) ?_
  simp [go_sem, cB, u1, u2, hjaQ, hjbQ, hsa, hsb]
  refine ⟨by decide +kernel, ?_⟩
  have wn : IntKind.i64.wrap C.num = C.num := wrap64 (by omega) (by omega)
  have wm : IntKind.i64.wrap (-mm) = -mm := wrap64 (by omega) (by omega)
  have w0 : IntKind.i64.wrap 0 = 0 := by decide
  refine IWp.seqI ?_
  simp [go_sem, wn, w0]
  refine endI ?_
  simp [go_sem, wm]
  refine ⟨⟨by omega, fun r hr => rss_one r hr⟩, ?_⟩
  obtain ⟨X, hX⟩ : ∃ X : Rs, X = ⟨(r : Int), (i : Int), (if mm < 0 then 0 else mm), (if 0 < mm then 0 else -mm), C⟩ := ⟨_, rfl⟩
  have hee : [IV.int .i64 (r : Int), IV.int .i64 (i : Int), IV.int .i64 (if mm < 0 then 0 else mm), IV.int .i64 (if 0 < mm then 0 else -mm), IV.int .i64 C.num, IV.int .i64 C.den] :: rss A = rss (X :: A) := by rw [hX]; rfl
  have hlen : 1 + A.length = (X :: A).length := by simp only [List.length_cons]; omega
  rw [hee, hlen]
  have hA2 : (if mm < 0 then 0 else mm) = X.a := by rw [hX]
  have hB2 : (if 0 < mm then 0 else -mm) = X.b := by rw [hX]
  have g1 : Good n (X :: A) := f3 X (by rw [hX]) (by rw [hX]) (by rw [← hA2]; split <;> omega) (by rw [← hB2]; split <;> omega) (by rw [hX]; exact r3)
  have g2 : FitR X := f4 X (by rw [hX]) (by rw [hX]) (by rw [← hA2]; split <;> omega) (by rw [← hB2]; split <;> omega) (by rw [hX]; unfold FitF; simp only; omega)
  obtain ⟨A2, hA3⟩ : ∃ A2, X :: A = A2 := ⟨_, rfl⟩
  have hl2 : A2.length = A.length + 1 := by rw [← hA3]; rfl
  have g3 : ∀ x ∈ A2, FitR x := fun x hx => by
   rw [← hA3] at hx
   rcases List.mem_cons.1 hx with rfl | hx
   ·exact g2
   ·exact hfit x hx
  rw [hA3] at g1 ⊢
  refine Turn.freeze 44 6 (rss A2) [(1, .fz 4 (ems L)), (2, .fz 1 (ints Q)), (3, .int .i64 (b : Int)), (5, .fz 1 (bys .u8 l)), (6, .ptr 0 1 0 0), (10, .ptr 1 1 0 0), (13, .int .i64 (n : Int)), (14, .fz 6 (rss A2)), (43, .bool true), (15, .fz 4 (mts O)), (16, .int .i64 0), (56, .bool false), (17, .ptr 3 1 0 0), (93, .bool (ma == mb)), (18, .int .i64 mm), (19, .bool true), (20, .ptr 23 1 0 0), (21, .int .i64 0), (22, .ptr 43 1 0 0), (23, .int .i64 0), (167, .bool false)]
   [.rows 4 [[.int .i64 p.t, .int .i64 p.r, .int .i64 p.b, .fz 1 (ints p.s)]], .rows 2 [[.int .i64 F.num, .int .i64 F.den]], .dead, .rows 4 [[.int .i64 r, .int .i64 i, .int .i64 ma, .int .i64 mb]], .hole, .hole, .hole, .hole, .hole, .hole, .hole, .hole, .hole, .hole, .hole, .hole, .hole, .hole, .hole, .hole, .hole, .hole, .hole, .rows 2 [[.int .i64 C.num, .int .i64 C.den]], .hole, .hole, .hole, .hole, .hole, .hole, .hole, .hole, .hole, .hole, .hole, .hole, .hole, .hole, .hole, .hole, .hole, .hole, .hole, .rows 2 [[.int .i64 (-C.num), .int .i64 C.den]], .dead] (by simp) (by simp [go_sem]; exact (List.take_of_length_le (by simp)).symm) (by simp [go_sem]) ?_
  subst hQ0
  simp [go_sem]
  exact ⟨A2, rfl, ⟨g1, g3, by omega⟩, by omega⟩
 ·have hl1 : A.length = n - 1 := by omega
  obtain ⟨k1, k2, w, k3, k4, k5⟩ := ko_end hn2 (by omega) hG hl1
  have c1 := check_good hn2 (by omega) hG (by omega) hfit
  have c2 := open_good hn2 (by omega) hG (by omega) hfit
  have c3 := places_good hn2 (by omega) hG (by omega) hfit
  have c4 := roundsY_fun n hn2 (by omega)
  have c5 := winner_good hn2 (by omega) hG (by omega) hfit ((rnd n : Int) - 1) 0
  rw [k1] at c2
  rw [k3] at c5
  have hrn := rnd_bd hn2
  have w0 : IntKind.i64.wrap 0 = 0 := by decide
  have w2 : IntKind.i64.wrap ((rnd n : Int) - 1) = (rnd n : Int) - 1 := wrap64 (by omega) (by omega)
  generalize placesG n A = PL at *
  generalize rnd n = rn at *
  refine IWp.now ?_
  simp [go_sem, w1, h]
  subst hQ0
  simp [go_sem]
  clear hA hc hm hQn hQb cP cK
  refine IWp.seqI ?_
  simp [go_sem]
  refine c1.callF (by simp [go_sem]) ?_
  rintro _ rfl
  simp [go_sem]
  refine IWp.seqI ?_
  simp [go_sem]
  refine c2.callF (by simp [go_sem]) ?_
  rintro _ rfl
  simp [go_sem]
  refine IWp.seqI ?_
  simp [go_sem]
  refine c3.callF (by simp [go_sem]) ?_
  rintro _ rfl
  simp [go_sem]
  refine IWp.seqI ?_
  simp [go_sem]
  refine c4.callF (by simp [go_sem]) ?_
  rintro _ rfl
  simp [go_sem]
  refine IWp.seqI ?_
  simp [go_sem, w2]
  refine c5.callF (by simp [go_sem]) ?_
  rintro _ rfl
  simp [go_sem]
  have e1 : ¬ w < 1 := by omega
  have e2 : ¬ (n : Int) < w := by omega
  have e3 : (w < 1) = False := eq_false e1
  refine IWp.seqI ?_
  simp [go_sem, w0, k2, e1, e2]
  obtain ⟨F9, hF9⟩ : ∃ F9 : Nat → Int, ∀ i, F9 i = if w ≤ (i : Int) then 1 else 0 := ⟨_, fun _ => rfl⟩
  have z0 : F9 0 = 0 := by rw [hF9, if_neg (by omega)]
  have zn : F9 n = 1 := by rw [hF9, if_pos (by omega)]
  refine IWp.seqI ?_
  simp [go_sem]
  refine IWp.seq ?_
  refine IWp.seqI ?_
  simp [go_sem, k2]
  refine IWp.block ?_
  refine IWp.loopT (α := Nat) (fun i => (⟨false, 272, 37, [43, 56, 93, 167, 246, 247, 248, 249, 250, 264, 266], glT, [(32, .int .i64 w), (34, .int .i64 (F9 i)), (247, .fz 1 (ints PL)), (248, .int .i64 (n : Int)), (249, .int .i64 (i : Int))], []⟩, [.rows 4 [[.int .i64 p.t, .int .i64 p.r, .int .i64 p.b, .fz 1 (ints p.s)]], .rows 2 [[.int .i64 F.num, .int .i64 F.den]], .dead]))
   (fun i => i ≤ n) (fun i => n - i) 0 (by omega) (by simp [go_sem, z0]) ?_
  intro i hi
  by_cases h9 : i < n
  ·have hiP : i < PL.length := by omega
   have f := k5 i h9
   rw [List.getD_eq_getElem?_getD, List.getElem?_eq_getElem hiP, Option.getD_some] at f
   obtain ⟨y, hy⟩ : ∃ y, PL[i] = y := ⟨_, rfl⟩
   rw [hy] at f
   obtain ⟨f1, f2⟩ := f
   have v1 : IntKind.i64.wrap ((i : Int) + 1) = ((i + 1 : Nat) : Int) := by rw [wrap64 (by omega) (by omega)]; omega
   have a1 : ¬ y < 1 := by omega
   by_cases hq : (i : Int) + 1 = w
   ·have hy1 : y = 1 := f2.2 hq
    have s0 : F9 i = 0 := by rw [hF9, if_neg (by omega)]
    have s1 : F9 (i + 1) = 1 := by rw [hF9, if_pos (by omega)]
    have v2 : IntKind.i64.wrap (0 + 1) = 1 := by decide
    have v3 : IntKind.i64.wrap 1 = 1 := by decide
    have v4 : (((i + 1 : Nat) : Int) == w) = true := by rw [beq_iff_eq]; omega
    simp [go_sem, h9, hiP, hy, hy1, v1, v4, s0, v2, v3]
    rw [if_pos hq]
    exact ⟨i + 1, ⟨s1.symm, by omega⟩, by omega, by omega⟩
   ·have hy1 : ¬ y = 1 := fun e => hq (f2.1 e)
    have s1 : F9 (i + 1) = F9 i := by
     rw [hF9, hF9]
     by_cases h3 : w ≤ (i : Int)
     ·rw [if_pos h3, if_pos (by omega)]
     ·rw [if_neg h3, if_neg (by omega)]
    have v4 : (((i + 1 : Nat) : Int) == w) = false := by rw [beq_eq_false_iff_ne]; omega
    have v5 : (y == 1) = false := by rw [beq_eq_false_iff_ne]; exact hy1
    simp [go_sem, h9, hiP, hy, a1, v1, v4, v5]
    rw [if_neg hq]
    exact ⟨i + 1, ⟨s1.symm, by omega⟩, by omega, by omega⟩
  ·obtain rfl : i = n := by omega
   simp [go_sem]
   refine IWp.now ?_
   simp [go_sem, zn]
   exact hR _ _ _ rfl (by simp [go_sem])
end Go.Idl.K38
namespace Go.Idl
open Go.Proofs
theorem usL_sc : ∀ b, b < 9 → 1 ≤ b → scB (usL b) = true := by decide +kernel
theorem teams_nodup (p : Pl) (B : List Er) : ((tabL9 p B).map (·.team)).Nodup ∧ ∀ q ∈ (tabL9 p B).map (·.team), 1 ≤ q ∧ q ≤ p.t := by
 have h := tabL9_teams p B
 refine ⟨h.nodup_iff.2 (List.pairwise_map.2 (List.Pairwise.imp (fun h e => h (by omega)) List.nodup_range)), fun q hq => ?_⟩
 ·obtain ⟨k, hk, rfl⟩ := List.mem_map.1 (h.mem_iff.1 hq)
  have := List.mem_range.1 hk
  omega
theorem topEvent_fun (t r b y m q : Nat) (ht : t < 256) (hr : r < 256) (hb : b < 256) (hy : y < 256) (hm : m < 256) (hq : q < 256) (l : List Int) (hl : ∀ x ∈ l, 0 ≤ x ∧ x < 256) (hn : l.length < 2 ^ 63) :
  FN 3 [.int .u8 (t : Int), .int .u8 (r : Int), .int .u8 (b : Int), .int .u8 (y : Int), .int .u8 (m : Int), .int .u8 (q : Int), .fz 1 (bys .u8 l)] (fun v => v = .bool true) := by
 refine IFun.of_bodyW false 32 [61, 86, 87, 88, 89, 90, 103, 125, 143, 188] Tryz.func3 rfl Tryz.call3 rfl fun R hR => ?_
 obtain ⟨t1, ht1⟩ : ∃ t1, t % 8 = t1 := ⟨_, rfl⟩
 obtain ⟨n, hnE⟩ : ∃ n, 2 + t1 = n := ⟨_, rfl⟩
 obtain ⟨b1, hb1⟩ : ∃ b1, b % 8 = b1 := ⟨_, rfl⟩
 obtain ⟨s, hsE⟩ : ∃ s, 1 + b1 = s := ⟨_, rfl⟩
 obtain ⟨r1, hr1⟩ : ∃ r1, r % 5 = r1 := ⟨_, rfl⟩
 obtain ⟨rr, hrr⟩ : ∃ rr, 1 + r1 = rr := ⟨_, rfl⟩
 obtain ⟨yy, hyy⟩ : ∃ yy, y % 21 = yy := ⟨_, rfl⟩
 have t2 : IntKind.i64.wrap (t : Int) = t := wrap64 (by omega) (by omega)
 have t3 : (t : Int).tmod 8 = t1 := by rw [Int.tmod_eq_emod_of_nonneg (by omega)]; omega
 have t4 : IntKind.i64.wrap (t1 : Int) = t1 := wrap64 (by omega) (by omega)
 have t5 : IntKind.i64.wrap (2 + (t1 : Int)) = n := by rw [wrap64 (by omega) (by omega)]; omega
 have b2 : IntKind.i64.wrap (b : Int) = b := wrap64 (by omega) (by omega)
 have b3 : (b : Int).tmod 8 = b1 := by rw [Int.tmod_eq_emod_of_nonneg (by omega)]; omega
 have b4 : IntKind.i64.wrap (b1 : Int) = b1 := wrap64 (by omega) (by omega)
 have b5 : IntKind.i64.wrap (1 + (b1 : Int)) = s := by rw [wrap64 (by omega) (by omega)]; omega
 have r2 : IntKind.i64.wrap (r : Int) = r := wrap64 (by omega) (by omega)
 have r3 : (r : Int).tmod 5 = r1 := by rw [Int.tmod_eq_emod_of_nonneg (by omega)]; omega
 have r4 : IntKind.i64.wrap (r1 : Int) = r1 := wrap64 (by omega) (by omega)
 have r5 : IntKind.i64.wrap (1 + (r1 : Int)) = rr := by rw [wrap64 (by omega) (by omega)]; omega
 have y2 : IntKind.i64.wrap (y : Int) = y := wrap64 (by omega) (by omega)
 have y3 : (y : Int).tmod 21 = yy := by rw [Int.tmod_eq_emod_of_nonneg (by omega)]; omega
 have y4 : IntKind.i64.wrap (yy : Int) = yy := wrap64 (by omega) (by omega)
 have cu := usual_fun s (by omega) (by omega)
 have hsc := usL_sc s (by omega) (by omega)
 have hul : (usL s).length = 10 := by simp [usL]
 generalize usL s = U at *
 obtain ⟨p, hp⟩ : ∃ p : Pl, p = ⟨n, rr, yy, U⟩ := ⟨_, rfl⟩
 have pt : p.t = (n : Int) := by rw [hp]
 have pr : p.r = (rr : Int) := by rw [hp]
 have pb : p.b = (yy : Int) := by rw [hp]
 have ps : p.s = U := by rw [hp]
 have hpl : plB p = true := by
  unfold plB
  rw [pt, pr, pb, ps, hsc, hul]
  simp only [Bool.and_eq_true, decide_eq_true_eq, and_true]
  omega
 have cr := evRight_fun p (by rw [ps]; omega)
 have cs := swiss_fun p hpl (by omega) (by omega) (by rw [ps]; omega) s (by omega) l hl hn
 have hA : ∀ L : List Em, L.length ≤ 20 → ArgE p L := fun L h => ⟨fun _ => by omega, by rw [ps]; omega, by omega⟩
 have ct := fun L h => Table_fun p L (hA L h)
 have cq := fun L (k : Int) h => Qualify_fun p L k (hA L h)
 rw [hpl] at cr
 simp only [Pl.v, pt, pr, pb, ps] at cr cs ct cq
 refine IWp.seqI ?_
 simp [go_sem]
 refine IWp.seqI ?_
 simp [go_sem, t2, t3, t4, t5, b2, b3, b4, b5]
 refine IWp.seqI ?_
 simp [go_sem]
 refine cu.callF (by simp [go_sem]) ?_
 rintro _ rfl
 simp [go_sem]
 refine IWp.seqI ?_
 simp [go_sem, r2, r3, r4, r5, y2, y3, y4]
 refine IWp.seqI ?_
 simp [go_sem]
 refine cr.callF (by simp [go_sem]) ?_
 rintro _ rfl
 simp [go_sem]
 refine IWp.seqI ?_
 simp [go_sem]
 refine cs.callM (by simp [go_sem]) ?_
 rintro _ ⟨B, L, hB, hE, hL, hLl, hLm, rfl⟩
 simp [go_sem]
 have hP := hB.part hE
 have hck := (hP.perm hL).1
 obtain ⟨_, _, _, hqual, htab⟩ := hP.permAll hL
 rw [hB.ovrd] at hqual htab
 have c1 := ct L hLl
 have c2 := fun k => cq L k hLl
 rw [htab] at c1
 have htl : (tabL9 p B).length = n := by rw [tabL9_length, pt]; omega
 have hmLl := hL.length_eq
 obtain ⟨TB, hTB⟩ : ∃ TB, tabL9 p B = TB := ⟨_, rfl⟩
 have hline := fun (k : Nat) (y : Ln) (hy : (tabL9 p B)[k]? = some y) => hB.line hy
 have hlineM := fun (k : Nat) (y : Ln) (hy : (tabL9 p B)[k]? = some y) => hB.lineM hy
 have hordr := fun (k : Nat) (z y : Ln) (hz : (tabL9 p B)[k]? = some z) (hy : (tabL9 p B)[k + 1]? = some y) => tabL9_ord hz hy
 obtain ⟨sm1, sm2, -⟩ := hB.sums
 have sm4 := hB.byes
 have sm5 := hB.byeN
 have hteam := teams_nodup p B
 rw [hTB] at htl hline hlineM hordr sm1 sm2 sm4 hteam hqual c1
 rw [← hmLl] at hline hlineM sm1
 rw [ps, hul] at hline sm1
 rw [pb] at hline sm1
 simp only at c1
 refine IWp.seqI ?_
 simp [go_sem]
 refine c1.callF (by simp [go_sem]) ?_
 rintro _ rfl
 simp [go_sem]
 refine IWp.seqI ?_
 simp [go_sem, htl]
 refine IWp.seqI ?_
 simp [go_sem]
 refine IWp.seq ?_
 refine IWp.seqI ?_
 simp [go_sem, htl]
 refine IWp.block ?_
 have hbnd : ∀ x ∈ TB, (0 ≤ x.points ∧ x.points ≤ 25000) ∧ (-1000000000 ≤ x.margin ∧ x.margin ≤ 1000000000) ∧ (0 ≤ yeL x ∧ yeL x ≤ 1) := fun x hx => by
  obtain ⟨k, hk⟩ := List.getElem?_of_mem hx
  have h1 := hline k x hk
  have h2 := hlineM k x hk
  have h3 : 0 ≤ yeL x ∧ yeL x ≤ 1 := by unfold yeL; split <;> omega
  omega
 refine IWp.loopI (α := Nat) (fun i => (⟨false, 209, 32, [61, 86, 87, 88, 89, 90, 103, 125, 143, 188], glT, [(4, .int .u8 (m : Int)), (5, .int .u8 (q : Int)), (6, .fz 1 (bys .u8 l)), (15, .int .i64 (n : Int)), (16, .int .i64 (s : Int)), (17, .fz 1 (ints U)), (19, .ptr 0 1 0 0), (20, .fz 4 (ems L)), (22, .fz 6 (lns TB)), (24, .int .i64 ((TB.take i).map (·.points)).sum), (25, .int .i64 ((TB.take i).map (·.margin)).sum), (26, .int .i64 ((TB.take i).map yeL).sum), (87, .fz 6 (lns TB)), (88, .int .i64 (n : Int)), (89, .int .i64 (i : Int))], []⟩, [.rows 4 [[.int .i64 (n : Int), .int .i64 (rr : Int), .int .i64 (yy : Int), .fz 1 (ints U)]]]))
  (fun i => i ≤ n) (fun i => n - i) 0 (by omega) (by simp [go_sem]) ?_
 intro i hi
 by_cases h : i < n
 ·have wk : IntKind.i64.wrap ((i : Int) + 1) = ((i + 1 : Nat) : Int) := by rw [wrap64 (by omega) (by omega)]; omega
  have hkB : i < TB.length := by omega
  have s1 := sum_take (g := (·.points)) hkB
  have s2 := sum_take (g := (·.margin)) hkB
  have s3 := sum_take (g := yeL) hkB
  have q1 := sum_bdL (g := (·.points)) (L := TB.take i) fun x hx => (hbnd x (List.mem_of_mem_take hx)).1
  have q2 := sum_bdL (g := (·.margin)) (L := TB.take i) fun x hx => (hbnd x (List.mem_of_mem_take hx)).2.1
  have q3 := sum_bdL (g := yeL) (L := TB.take i) fun x hx => (hbnd x (List.mem_of_mem_take hx)).2.2
  have tl : (TB.take i).length = i := by simp; omega
  rw [tl] at q1 q2 q3
  have hb9 := hbnd TB[i] (List.getElem_mem hkB)
  have hln9 := hline i TB[i] (List.getElem?_eq_getElem hkB)
  have hod : 0 < i → ∀ h' : i - 1 < TB.length, TB[i].points ≤ (TB[i - 1]'h').points := fun h0 h' => by
   have := hordr (i - 1) TB[i - 1] TB[i] (List.getElem?_eq_getElem h') (by rw [show i - 1 + 1 = i by omega]; exact List.getElem?_eq_getElem hkB)
   omega
  generalize ((TB.take i).map (·.points)).sum = X1 at *
  generalize ((TB.take i).map (·.margin)).sum = X2 at *
  generalize ((TB.take i).map yeL).sum = X3 at *
  obtain ⟨z, hz⟩ : ∃ z, TB[i] = z := ⟨_, rfl⟩
  rw [hz] at s1 s2 s3 hb9 hln9
  simp only [hz] at hod
  obtain ⟨z1, z2, z3, z4, z5, z6⟩ := z
  rw [List.map_take] at s1 s2 s3
  simp only [yeL] at s1 s2 s3 hb9 hln9 hod
  have e2 : z2 = ((i + 1 : Nat) : Int) := by omega
  subst e2
  have w1 : IntKind.i64.wrap (X1 + z4) = X1 + z4 := wrap64 (by omega) (by omega)
  have w2 : IntKind.i64.wrap (X2 + z5) = X2 + z5 := wrap64 (by omega) (by omega)
  refine IWp.shut fun Q0 hQ0 => ?_
  refine IWp.seqI ?_
  simp [go_sem]
  refine IWp.seqI ?_
  simp [go_sem, h]
  refine IWp.seq ?_
  refine IWp.block ?_
  refine IWp.seqI ?_
  simp [go_sem, h, hkB, hz]
  refine IWp.seqI ?_
  simp [go_sem, w1, w2]
  refine ⟨by decide +kernel, ?_⟩
  refine IWp.meet (T := Unit) (fun _ => (⟨false, 209, 32, [61, 86, 87, 88, 89, 90, 103, 125, 143, 188], glT, [(4, .int .u8 (m : Int)), (5, .int .u8 (q : Int)), (6, .fz 1 (bys .u8 l)), (15, .int .i64 (n : Int)), (16, .int .i64 (s : Int)), (17, .fz 1 (ints U)), (19, .ptr 0 1 0 0), (20, .fz 4 (ems L)), (22, .fz 6 (lns TB)), (24, .int .i64 (X1 + z4)), (25, .int .i64 (X2 + z5)), (26, .int .i64 (X3 + if z6 = true then 1 else 0)), (27, .int .i64 (i : Int)), (28, .ptr 1 1 0 0), (87, .fz 6 (lns TB)), (88, .int .i64 (n : Int)), (89, .int .i64 (i : Int))], []⟩, [.rows 4 [[.int .i64 (n : Int), .int .i64 (rr : Int), .int .i64 (yy : Int), .fz 1 (ints U)]], .rows 6 [[.int .i64 z1, .int .i64 ((i : Int) + 1), .int .i64 z3, .int .i64 z4, .int .i64 z5, .bool z6]]])) (fun _ => True) (fun _ _ => ?_) (fun Q2 hN2 _ _ => ?_)
  case refine_2 =>
   cases z6
   case false =>
    refine IWp.now ?_
    simp [go_sem]
    exact hN2 _ _ () (by simp [go_sem]) trivial
   case true =>
    have w3 : IntKind.i64.wrap (X3 + 1) = X3 + 1 := wrap64 (by omega) (by omega)
    refine IWp.now ?_
    simp [go_sem, w3]
    exact hN2 _ _ () (by simp [go_sem]) trivial
  simp only
  by_cases h0 : i = 0
  ·subst h0
   have v1 : IntKind.i64.wrap 1 = 1 := by decide
   have v0 : IntKind.i64.wrap (-1) = -1 := by decide
   have v2 : (lns TB)[0]?.getD [] = [.int .i64 z1, .int .i64 1, .int .i64 z3, .int .i64 z4, .int .i64 z5, .bool z6] := by simp [lns, mp, Ln.c, hkB, hz]
   refine IWp.now ?_
   simp [go_sem, v0, v1, v2]
   refine ⟨by decide +kernel, ?_⟩
   subst hQ0
   refine IWp.now ?_
   simp [go_sem, v1]
   refine ⟨1, ⟨by rw [s1], by rw [s2], by rw [s3], by omega⟩, by omega, by omega⟩
  ·have hi0 : 0 < i := by omega
   obtain ⟨j, hj⟩ : ∃ j, i - 1 = j := ⟨_, rfl⟩
   have wj : IntKind.i64.wrap ((i : Int) - 1) = (j : Int) := by rw [wrap64 (by omega) (by omega)]; omega
   have hjB : j < TB.length := by omega
   have hod2 := hod hi0 (by omega)
   simp only [hj] at hod2
   obtain ⟨u, hu⟩ : ∃ u, TB[j] = u := ⟨_, rfl⟩
   rw [hu] at hod2
   obtain ⟨u1, u2, u3, u4, u5, u6⟩ := u
   simp only at hod2
   have hod3 : ¬ u4 < z4 := by omega
   refine IWp.now ?_
   simp [go_sem, wk, hi0, wj, hjB, hu, hod3]
   refine ⟨by decide +kernel, ?_⟩
   subst hQ0
   refine IWp.now ?_
   simp [go_sem, wk]
   refine ⟨i + 1, ⟨by rw [s1], by rw [s2], by rw [s3], by omega⟩, by omega, by omega⟩
 ·obtain rfl : i = n := by omega
  rw [List.take_of_length_le (by omega), sm1, sm2, sm4]
  refine IWp.now ?_
  simp [go_sem]
  obtain ⟨E, hE9⟩ : ∃ E, (byeT B).length = E := ⟨_, rfl⟩
  rw [hE9] at sm5 ⊢
  have hEb : E ≤ 5 := by
   have h9 := hB.len
   rw [pr] at h9
   rcases Nat.mod_two_eq_zero_or_one p.t.toNat with hq | hq
   ·rw [hq] at sm5; omega
   ·rw [hq] at sm5; omega
  obtain ⟨W, hW⟩ : ∃ W : Nat, yy * E = W := ⟨_, rfl⟩
  have hWb : W ≤ 20 * 5 := by rw [← hW]; exact Nat.mul_le_mul (by omega) hEb
  have hWi : (yy : Int) * (E : Int) = W := by rw [← hW]; simp
  have x1 : IntKind.i64.wrap 20 = 20 := by decide
  have x2 : IntKind.i64.wrap (20 * (L.length : Int)) = 20 * L.length := wrap64 (by omega) (by omega)
  have x3 : IntKind.i64.wrap (W : Int) = W := wrap64 (by omega) (by omega)
  have x4 : IntKind.i64.wrap (20 * (L.length : Int) + W) = 20 * (L.length : Int) + W := wrap64 (by omega) (by omega)
  obtain ⟨n1, hn1⟩ : ∃ n1, i - 1 = n1 := ⟨_, rfl⟩
  obtain ⟨m1, hm1⟩ : ∃ m1, m % n1 = m1 := ⟨_, rfl⟩
  have hm1l : m1 < n1 := by rw [← hm1]; exact Nat.mod_lt _ (by omega)
  obtain ⟨k, hk⟩ : ∃ k, 2 + m1 = k := ⟨_, rfl⟩
  have m2 : IntKind.i64.wrap (m : Int) = m := wrap64 (by omega) (by omega)
  have m3 : IntKind.i64.wrap ((i : Int) - 1) = n1 := by rw [wrap64 (by omega) (by omega)]; omega
  have m4 : (m : Int).tmod n1 = m1 := by rw [Int.tmod_eq_emod_of_nonneg (by omega), ← hm1]; omega
  have m5 : IntKind.i64.wrap (m1 : Int) = m1 := wrap64 (by omega) (by omega)
  have m6 : IntKind.i64.wrap (2 + (m1 : Int)) = k := by rw [wrap64 (by omega) (by omega)]; omega
  have m7 : ¬ n1 = 0 := by omega
  refine IWp.seqI ?_
  simp [go_sem, hul, x1, x2, x3, x4, hWi]
  refine IWp.seqI ?_
  simp [go_sem, m2, m3, m4, m5, m6, m7]
  have c3 := c2 k
  rw [hqual k, if_neg (by simp), if_neg (by omega), Int.toNat_natCast] at c3
  simp only at c3
  obtain ⟨Q, hQ⟩ : ∃ Q, (TB.take k).map (·.team) = Q := ⟨_, rfl⟩
  rw [hQ] at c3
  have hQl : Q.length = k := by rw [← hQ, List.length_map, List.length_take]; omega
  have hQi : ∀ (j : Nat) (h1 : j < Q.length) (h2 : j < TB.length), Q[j] = TB[j].team := by
   rw [← hQ]; intro j h1 h2; simp
  have hQs : Q.Sublist (TB.map (·.team)) := by rw [← hQ, List.map_take]; exact List.take_sublist _ _
  have hQn : Q.Nodup := hteam.1.sublist hQs
  have hQb : ∀ x ∈ Q, 1 ≤ x ∧ x ≤ p.t := fun x hx => hteam.2 x (hQs.subset hx)
  refine IWp.seqI ?_
  simp [go_sem]
  refine c3.callF (by simp [go_sem]) ?_
  rintro _ rfl
  simp [go_sem]
  have g1 : 0 < Q.length := by omega
  have g2 : 0 < TB.length := by omega
  obtain ⟨k1, hk1⟩ : ∃ k1, k - 1 = k1 := ⟨_, rfl⟩
  have g3 : k1 < Q.length := by omega
  have g4 : k1 < TB.length := by omega
  have g5 := hQi 0 g1 g2
  have g6 := hQi k1 g3 g4
  obtain ⟨⟨za, za1, za2, za3, za4, za5⟩, hza⟩ : ∃ z, TB[0] = z := ⟨_, rfl⟩
  obtain ⟨⟨zb, zb1, zb2, zb3, zb4, zb5⟩, hzb⟩ : ∃ z, TB[k1] = z := ⟨_, rfl⟩
  rw [hza] at g5
  rw [hzb] at g6
  simp only at g5 g6
  have g7 : IntKind.i64.wrap ((k : Int) - 1) = k1 := by rw [wrap64 (by omega) (by omega)]; omega
  have g8 : ¬ Q = [] := fun e => by rw [e] at g1; simp at g1
  have g9 : ¬ TB = [] := fun e => by rw [e] at g2; simp at g2
  have u1 : (ints Q)[0]?.getD [] = [.int .i64 za] := by
   rw [← g5]; simp [ints, mp, g1]
  have u2 : (ints Q)[k1]?.getD [] = [.int .i64 zb] := by
   rw [← g6]; simp [ints, mp, g3]
  have u3 : 0 < k := by omega
  have u4 : k1 < k := by omega
  refine IWp.seqI ?_
  simp [go_sem, hQl, u1, u2, u3, u4, g2, g4, g7, g9, hza, hzb]
  refine ⟨by decide +kernel, ?_⟩
  rw [if_neg (by rw [g5, g6]; simp)]
  obtain ⟨a1, ha1⟩ : ∃ a1, q % 2 = a1 := ⟨_, rfl⟩
  obtain ⟨a2, ha2⟩ : ∃ a2, q / 2 = a2 := ⟨_, rfl⟩
  obtain ⟨a3, ha3⟩ : ∃ a3, a2 % 3 = a3 := ⟨_, rfl⟩
  obtain ⟨a4, ha4⟩ : ∃ a4, 1 + a3 = a4 := ⟨_, rfl⟩
  obtain ⟨a5, ha5⟩ : ∃ a5, a1 * a4 = a5 := ⟨_, rfl⟩
  obtain ⟨a6, ha6⟩ : ∃ a6, 1 + a5 = a6 := ⟨_, rfl⟩
  have ha5b : a5 ≤ 1 * 3 := by rw [← ha5]; exact Nat.mul_le_mul (by omega) (by omega)
  have hpar : K38.parF q = ⟨(a1 : Int), (a6 : Int)⟩ := by
   unfold K38.parF
   rw [ha1, ha2, ha3, ha4, ha5, ha6]
  have v1 : IntKind.i64.wrap (q : Int) = q := wrap64 (by omega) (by omega)
  have v2 : (q : Int).tmod 2 = a1 := by rw [Int.tmod_eq_emod_of_nonneg (by omega)]; omega
  have v3 : IntKind.i64.wrap (a1 : Int) = a1 := wrap64 (by omega) (by omega)
  have v4 : (q : Int).tdiv 2 = a2 := by rw [Int.tdiv_eq_ediv_of_nonneg (by omega)]; omega
  have v5 : IntKind.i64.wrap (a2 : Int) = a2 := wrap64 (by omega) (by omega)
  have v6 : (a2 : Int).tmod 3 = a3 := by rw [Int.tmod_eq_emod_of_nonneg (by omega)]; omega
  have v7 : IntKind.i64.wrap (a3 : Int) = a3 := wrap64 (by omega) (by omega)
  have v8 : IntKind.i64.wrap (1 + (a3 : Int)) = a4 := by rw [wrap64 (by omega) (by omega)]; omega
  have v9 : IntKind.i64.wrap ((a1 : Int) * (a4 : Int)) = a5 := by
   rw [show (a1 : Int) * (a4 : Int) = (a5 : Int) by rw [← ha5]; simp]
   exact wrap64 (by omega) (by omega)
  have v10 : IntKind.i64.wrap (1 + (a5 : Int)) = a6 := by rw [wrap64 (by omega) (by omega)]; omega
  have ck := K38.knockout_fun p L (hA L hLl) (by rw [hck]) hLm Q (by omega) (by omega) hQn hQb s (by omega) q l hl hn
  rw [hpar] at ck
  simp only [Pl.v, Frc.v, pt, pr, pb, ps] at ck
  refine IWp.now ?_
  simp [go_sem, v1, v2, v3, v4, v5, v6, v7, v8, v9, v10]
  refine ck.callF (by simp [go_sem]) ?_
  rintro _ rfl
  simp [go_sem]
  exact hR _ _ _ rfl (by simp [go_sem])
end Go.Idl
namespace Go.Idl
open Go.Proofs Go.RowKit
theorem topEvent_law (t r b y m q : Int) (l : List Int) (h0 : (Lit.int .u8 t).wf = true) (h1 : (Lit.int .u8 r).wf = true) (h2 : (Lit.int .u8 b).wf = true) (h3 : (Lit.int .u8 y).wf = true) (h4 : (Lit.int .u8 m).wf = true) (h5 : (Lit.int .u8 q).wf = true) (h6 : ∀ x ∈ l, (Lit.int .u8 x).wf = true) (h7 : l.length ≤ maxLen) :
  FN 3 [.int .u8 t, .int .u8 r, .int .u8 b, .int .u8 y, .int .u8 m, .int .u8 q, .fz 1 (bys .u8 l)] (fun v => v = .bool true) := by
 have k0 := wf8 h0
 have k1 := wf8 h1
 have k2 := wf8 h2
 have k3 := wf8 h3
 have k4 := wf8 h4
 have k5 := wf8 h5
 obtain ⟨t, rfl⟩ := Int.eq_ofNat_of_zero_le k0.1
 obtain ⟨r, rfl⟩ := Int.eq_ofNat_of_zero_le k1.1
 obtain ⟨b, rfl⟩ := Int.eq_ofNat_of_zero_le k2.1
 obtain ⟨y, rfl⟩ := Int.eq_ofNat_of_zero_le k3.1
 obtain ⟨m, rfl⟩ := Int.eq_ofNat_of_zero_le k4.1
 obtain ⟨q, rfl⟩ := Int.eq_ofNat_of_zero_le k5.1
 exact topEvent_fun t r b y m q (by omega) (by omega) (by omega) (by omega) (by omega) (by omega) l (fun x hx => wf8 (h6 x hx)) (by unfold maxLen at h7; omega)
end Go.Idl
