import Derived.Test.YtamffdgopknkfaaGreatDoorC39zPartZA
set_option linter.all false
set_option maxHeartbeats 8000000
set_option maxRecDepth 40000
namespace Go.Idl
open Go.Proofs
theorem dl_div (a k : Nat) : dl (a / 65536 ^ k) = dl a - k := by
 have h : ∀ j, dl (a / 65536 ^ k) ≤ j ↔ dl a - k ≤ j := fun j => by
  have hp := pow_ge1 k
  rw [dl_le, Nat.div_lt_iff_lt_mul (by omega), ← Nat.pow_add, ← dl_le]; omega
 have h1 := (h (dl a - k)).2 (Nat.le_refl _)
 have h2 := (h (dl (a / 65536 ^ k))).1 (Nat.le_refl _)
 omega
theorem div_step (a b j : Nat) (hb : 0 < b) : a / b / 65536 ^ j % 65536 = (a / 65536 ^ (j + 1) % b * 65536 + a / 65536 ^ j % 65536) / b ∧ a / 65536 ^ j % b = (a / 65536 ^ (j + 1) % b * 65536 + a / 65536 ^ j % 65536) % b ∧ (a / 65536 ^ (j + 1) % b * 65536 + a / 65536 ^ j % 65536) / b < 65536 := by
 have e1 := dig_split a j
 have e2 := Nat.div_add_mod (a / 65536 ^ (j + 1)) b
 have hr := Nat.mod_lt (a / 65536 ^ (j + 1)) hb
 have hd : a / 65536 ^ j % 65536 < 65536 := Nat.mod_lt _ (by decide)
 rw [Nat.div_div_eq_div_mul, Nat.mul_comm b, ← Nat.div_div_eq_div_mul]
 generalize a / 65536 ^ j % 65536 = d at *
 generalize a / 65536 ^ (j + 1) % b = r at *
 generalize a / 65536 ^ (j + 1) / b = q at *
 have hR : (r * 65536 + d) / b < 65536 := by
  rw [Nat.div_lt_iff_lt_mul hb]
  have := Nat.mul_le_mul_right 65536 (show r + 1 ≤ b from hr)
  omega
 have e3 : a / 65536 ^ j = r * 65536 + d + b * (q * 65536) := by
  rw [e1, ← e2, Nat.add_mul, Nat.mul_assoc]; omega
 rw [e3, Nat.add_mul_div_left _ _ hb, Nat.add_mul_mod_self_left]
 refine ⟨?_, rfl, hR⟩
 generalize (r * 65536 + d) / b = X at *
 omega
theorem div_start (a b : Nat) (h : b ≤ a) (hb : 0 < b) : a / 65536 ^ (dl a - dl b + 1) % b = a / 65536 ^ (dl a - dl b + 1) := by
 refine Nat.mod_eq_of_lt (dl_lt_lt ?_)
 rw [dl_div]
 have := dl_mono h
 have : 0 < dl b := (lt_dl b 0).2 (by rw [Nat.pow_zero]; exact hb)
 omega
theorem div_len (a b : Nat) (h : b ≤ a) (hb : 0 < b) : a / b < 65536 ^ (dl a - dl b + 1) := by
 have h1 := dl_self a
 have hp : 0 < dl b := (lt_dl b 0).2 (by rw [Nat.pow_zero]; exact hb)
 have h2 := (lt_dl b (dl b - 1)).1 (by omega)
 rw [Nat.div_lt_iff_lt_mul hb]
 have h3 := dl_mono h
 have h4 : 65536 ^ dl a = 65536 ^ (dl a - dl b + 1) * 65536 ^ (dl b - 1) := by rw [← Nat.pow_add]; congr 1; omega
 rw [h4] at h1
 exact Nat.lt_of_lt_of_le h1 (Nat.mul_le_mul_left _ h2)
theorem top_low (R b : Nat) (hb : 0 < b) : R / 65536 ^ (dl b - 1) / (b / 65536 ^ (dl b - 1) + 1) ≤ R / b ∧ R / b ≤ R / 65536 ^ (dl b - 1) / (b / 65536 ^ (dl b - 1)) ∧ 1 ≤ b / 65536 ^ (dl b - 1) ∧ b / 65536 ^ (dl b - 1) < 65536 ∧ b / 65536 ^ (dl b - 1) % 65536 = b / 65536 ^ (dl b - 1) := by
 have hp : 0 < dl b := (lt_dl b 0).2 (by rw [Nat.pow_zero]; exact hb)
 have h2 := (lt_dl b (dl b - 1)).1 (by omega)
 obtain ⟨h3, h4⟩ := quot_bounds (R := R) (B := b) (K := 65536 ^ (dl b - 1)) (pow_ge1 _) h2
 obtain ⟨t1, t2, t3⟩ := top_digit (n := b) (k := dl b - 1) (by omega)
 exact ⟨h3, h4, t2, t3, t1⟩
theorem dg_step {r d x : Nat} (h : r * 65536 + d = x) (hd : d < 65536) : dk x (dl r + 1) = (d : Int) :: dg r := by
 obtain ⟨k, hk⟩ : ∃ k, dl r = k := ⟨_, rfl⟩
 have h1 := dk_cons (n := r) (d := d) (k := k) hd
 obtain ⟨k1, hk1⟩ : ∃ k1, k + 1 = k1 := ⟨_, rfl⟩
 rw [hk1] at h1
 rw [hk, hk1, ← dk_dg hk, h1]
 exact congrArg (fun z => dk z k1) h.symm
theorem dl_step {r d x : Nat} (h : r * 65536 + d = x) (hd : d < 65536) : dl x ≤ dl r + 1 := by
 rw [dl_le, Nat.pow_succ]
 have h1 := dl_self r
 generalize 65536 ^ dl r = P at *
 omega
theorem div01_fun (a b : Nat) (hb : 0 < b) (ha : dl a < 2 ^ 20) (hbl : dl b < 2 ^ 20) : ON 93 [.fz 1 (ints (dg a)), .fz 1 (ints (dg b))] (fun v => v = .tup [.fz 1 (ints (dg (a / b))), .fz 1 (ints (dg (a % b)))]) := by
 refine IFun.of_bodyW false 15 [17, 41, 58, 86, 96] Tryz.func93 rfl Tryz.call93 rfl fun R hR => ?_
 have cl := less_fun a b (by omega) (by omega)
 have ta : ∀ i (h : i < (dg a).length), (dg a)[i] = ((a / 65536 ^ i % 65536 : Nat) : Int) := fun i h => dg_at h
 have tb : ∀ i (h : i < (dg b).length), (dg b)[i] = ((b / 65536 ^ i % 65536 : Nat) : Int) := fun i h => dg_at h
 have la : (dg a).length = dl a := by simp
 have lb : (dg b).length = dl b := by simp
 obtain ⟨A, hA⟩ : ∃ A, dg a = A := ⟨_, rfl⟩
 obtain ⟨B, hB⟩ : ∃ B, dg b = B := ⟨_, rfl⟩
 rw [hA, hB] at cl ⊢
 simp only [hA] at ta la
 simp only [hB] at tb lb
 have hn : 0 < dl b := (lt_dl b 0).2 (by rw [Nat.pow_zero]; exact hb)
 refine IWp.seqI ?_
 simp [go_sem]
 refine IWp.seqI ?_
 simp [go_sem]
 refine cl.callF (by simp [go_sem]) ?_
 rintro _ rfl
 by_cases hlt : a < b
 ·rw [Nat.div_eq_of_lt hlt, Nat.mod_eq_of_lt hlt, dg_zero, hA] at hR
  simp [go_sem, hlt]
  exact hR _ _ _ rfl (by simp [go_sem])
 have hle : b ≤ a := by omega
 have hdl := dl_mono hle
 obtain ⟨K, hK⟩ : ∃ K, dl a - dl b + 1 = K := ⟨_, rfl⟩
 have w1 : IntKind.i64.wrap ((dl a : Int) - dl b) = (K : Int) - 1 := by rw [show (dl a : Int) - dl b = (K : Int) - 1 by omega]; exact wrap64 (by omega) (by omega)
 have w2 : IntKind.i64.wrap (K : Int) = K := wrap64 (by omega) (by omega)
 have hKa : K ≤ dl a := by omega
 have hst := div_start a b hle hb
 have hln := div_len a b hle hb
 rw [hK] at hst hln
 have hdr : List.drop K (List.take (dl a) (ints A)) = ints (dg (a / 65536 ^ K)) := by
  rw [List.take_of_length_le (by simp [la]), ← ints_drop, ← hA]
  congr 1
  unfold dg
  rw [dk_drop, dl_div]
 have hlr : (dg (a / 65536 ^ K)).length = dl b - 1 := by rw [dg_len, dl_div]; omega
 obtain ⟨X0, hX0⟩ : ∃ X0, dg (a / 65536 ^ K) = X0 := ⟨_, rfl⟩
 rw [hX0] at hdr hlr
 obtain ⟨n1, hn1⟩ : ∃ n1, dl b - 1 = n1 := ⟨_, rfl⟩
 rw [hn1] at hlr
 have hKm : dl a - K = n1 := by omega
 simp [go_sem, hlt]
 refine IWp.seqI ?_
 simp [go_sem, lb]
 refine IWp.seqI ?_
 simp [go_sem, la, w1, w2, hKa, hdr, hKm]
 refine ⟨⟨by omega, fun r hr => ints_one r hr⟩, ?_⟩
 refine IWp.seqI ?_
 simp [go_sem, la, w1, w2]
 refine ⟨by omega, ?_⟩
 refine IWp.freeze 0 1 (ints X0) [(0, .fz 1 (ints A)), (1, .fz 1 (ints B)), (4, .nils), (5, .nils), (17, .bool false), (6, .int .i64 (dl b)), (7, .fz 1 (ints X0)), (8, .sl 1 K 0 K none)] [.dead, .rows 1 (List.replicate K [.int .i64 0])] (by simp) (by simp [go_sem]) (by simp [go_sem]; exact (List.take_of_length_le (by simp)).symm) (by simp [go_sem]) ?_
 have h0R : ints (List.replicate K 0 ++ (dk (a / b) K).drop K) = List.replicate K [.int .i64 0] := by
  rw [List.drop_of_length_le (by simp), List.append_nil]; simp [ints, mp]
 have hBl : BlR 2 (List.replicate K [IV.int .i64 0]) = True := by
  rw [show List.replicate K [IV.int .i64 0] = ints (List.replicate K 0) by simp [ints, mp]]
  exact BlR_ints
 refine IWp.seqI ?_
 simp [go_sem, la, w1, w2]
 refine IWp.loopI (α := Nat) (fun k => (⟨false, 112, 15, [17, 41, 58, 86, 96], glT, [(0, .fz 1 (ints A)), (1, .fz 1 (ints B)), (6, .int .i64 (dl b)), (7, .fz 1 (ints (dg (a / 65536 ^ k % b)))), (8, .sl 1 K 0 K none), (9, .int .i64 ((k : Int) - 1))], []⟩, [.dead, .rows 1 (ints (List.replicate k 0 ++ (dk (a / b) K).drop k))]))
  (fun k => k ≤ K) (fun k => k) K (Nat.le_refl _) (by rw [hst, hX0, h0R]; simp [go_sem, hBl]) ?_
 intro k hk
 rcases k with _ | k
 ·have ct := trim_calls (a / b) K hln (by omega)
  have htk := dk_take_dg hln
  have hdle := (dl_le (a / b) K).2 hln
  have hlen : (dk (a / b) K).length = K := by simp
  simp only [List.replicate_zero, List.nil_append, List.drop_zero, Nat.pow_zero, Nat.div_one]
  obtain ⟨Y, hY⟩ : ∃ Y, dg (a % b) = Y := ⟨_, rfl⟩
  rw [hY] at hR ⊢
  generalize dk (a / b) K = D at *
  refine IWp.seqI ?_
  simp [go_sem]
  refine IWp.now ?_
  simp [go_sem]
  refine ct.at [1] (by simp [go_sem]) ?_
  rintro _ _ ⟨rfl, rfl⟩
  simp [go_sem]
  exact hR _ _ _ rfl (by simp [go_sem, hlen, ints_cutR, htk, hdle])
 ·obtain ⟨s1, s2, s3⟩ := div_step a b k hb
  have hr := Nat.mod_lt (a / 65536 ^ (k + 1)) hb
  have hkA : k < A.length := by omega
  have xa := ta k hkA
  have qa := ints_q hkA xa
  have hd : a / 65536 ^ k % 65536 < 65536 := Nat.mod_lt _ (by decide)
  have wk : IntKind.i64.wrap ((k : Int) - 1) = k - 1 := wrap64 (by omega) (by omega)
  have hk1 : (0 : Int) ≤ k := by omega
  have hsn : (List.replicate (k + 1) (0 : Int) ++ (dk (a / b) K).drop (k + 1)).set k ((a / 65536 ^ (k + 1) % b * 65536 + a / 65536 ^ k % 65536) / b : Nat) = List.replicate k 0 ++ (dk (a / b) K).drop k := by
   rw [← s1]
   refine List.ext_getElem (by simp; omega) fun i h1 h2 => ?_
   rw [List.getElem_set]
   by_cases hik : k = i
   ·subst hik
    rw [if_pos rfl, List.getElem_append_right (by simp), List.getElem_drop, dk_at (by simp at h2; simp; omega)]
    simp
   ·rw [if_neg hik]
    by_cases hik2 : i < k
    ·rw [List.getElem_append_left (by simp; omega), List.getElem_append_left (by simpa using hik2)]; simp
    ·rw [List.getElem_append_right (by simp; omega), List.getElem_append_right (by simp; omega), List.getElem_drop, List.getElem_drop]
     congr 1; simp; omega
  obtain ⟨r, hre⟩ : ∃ r, a / 65536 ^ (k + 1) % b = r := ⟨_, rfl⟩
  obtain ⟨d, hde⟩ : ∃ d, a / 65536 ^ k % 65536 = d := ⟨_, rfl⟩
  obtain ⟨rq, hrq⟩ : ∃ rq, r * 65536 + d = rq := ⟨_, rfl⟩
  have hOl : (List.replicate (k + 1) (0 : Int) ++ (dk (a / b) K).drop (k + 1)).length = K := by simp; omega
  obtain ⟨O, hO⟩ : ∃ O, List.replicate (k + 1) (0 : Int) ++ (dk (a / b) K).drop (k + 1) = O := ⟨_, rfl⟩
  rw [hre] at s2 s3 hr hsn ⊢
  rw [hde] at s2 s3 hd hsn xa qa
  rw [hO] at hsn hOl ⊢
  rw [hrq] at s2 s3 hsn
  have hrqb : rq < b * 65536 := by
   have := Nat.mul_le_mul_right 65536 (show r + 1 ≤ b from hr)
   omega
  have hdr1 : dl rq ≤ dl r + 1 := dl_step hrq hd
  have hdr2 : dl rq ≤ dl b + 1 := by
   rw [dl_le, Nat.pow_succ]
   exact Nat.lt_trans hrqb (Nat.mul_lt_mul_of_pos_right (dl_self b) (by decide))
  have hdr3 : dl r ≤ dl b := dl_mono (Nat.le_of_lt hr)
  have hN : rq < 65536 ^ (dl r + 1) := (dl_le _ _).1 hdr1
  have hdc : dk rq (dl r + 1) = (d : Int) :: dg r := by
   exact dg_step hrq hd
  have ct := trim_calls rq (dl r + 1) hN (by omega)
  have hlr : (dg r).length = dl r := by simp
  have tR : ∀ i (h : i < (dk rq (dl r + 1)).length), (dk rq (dl r + 1))[i] = ((rq / 65536 ^ i % 65536 : Nat) : Int) := fun i h => dk_at (by simpa using h)
  have lR : (dk rq (dl r + 1)).length = dl r + 1 := by simp
  have hTK := dk_take_dg hN
  have hTK2 : List.take (dl rq) (ints (dk rq (dl r + 1))) = ints (dg rq) := by rw [← ints_take, hTK]
  have hic : ints (dk rq (dl r + 1)) = [.int .i64 (d : Int)] :: ints (dg r) := by rw [hdc]; rfl
  obtain ⟨G, hG⟩ : ∃ G, dg rq = G := ⟨_, rfl⟩
  obtain ⟨W, hW⟩ : ∃ W, dk rq (dl r + 1) = W := ⟨_, rfl⟩
  rw [hW] at hic ct tR lR hTK2
  obtain ⟨LR, hLR⟩ : ∃ LR, dg r = LR := ⟨_, rfl⟩
  rw [hLR] at hic hlr ⊢
  rw [hG] at hTK2
  have hCT : cutR 0 (dl rq) (ints W) = ints G := by rw [ints_cutR, ← hW, hTK, hG]
  obtain ⟨rl, hrl⟩ : ∃ rl, dl r = rl := ⟨_, rfl⟩
  rw [hrl] at ct lR hlr hdr1 hdr3
  obtain ⟨ql, hql⟩ : ∃ ql, dl rq = ql := ⟨_, rfl⟩
  rw [hql] at ct hdr1 hdr2 hTK2 hCT
  refine IWp.seqI ?_
  simp [go_sem, hk1]
  refine IWp.seq ?_
  refine IWp.block ?_
  refine IWp.seqI ?_
  simp [go_sem, hkA, xa, qa, hlr]
  refine ⟨⟨by omega, fun r hr => ints_one r hr⟩, ?_⟩
  rw [← hic, Nat.add_comm 1 rl]
  refine ct.at [2] (by simp [go_sem]) ?_
  rintro _ _ ⟨rfl, rfl⟩
  simp [go_sem]
  refine IWp.seqI ?_
  simp [go_sem]
  have wq : IntKind.i64.wrap ((ql : Int) - 1) = ql - 1 := wrap64 (by omega) (by omega)
  have wn : IntKind.i64.wrap ((dl b : Int) - 1) = n1 := by rw [show (dl b : Int) - 1 = n1 by omega]; exact wrap64 (by omega) (by omega)
  refine IWp.seqI ?_
  simp [go_sem, wq]
  have htop : ∀ t, n1 ≤ t → rq / 65536 ^ t < 65536 * 65536 := fun t ht => by
   have hp := pow_ge1 t
   rw [Nat.div_lt_iff_lt_mul (by omega)]
   have h1 : rq < 65536 ^ (n1 + 2) := (dl_le _ _).1 (by omega)
   have h2 : 65536 ^ (n1 + 2) ≤ 65536 ^ (t + 2) := Nat.pow_le_pow_right (by decide) (by omega)
   have h3 : 65536 ^ (t + 2) = 65536 * 65536 * 65536 ^ t := by rw [Nat.pow_succ, Nat.pow_succ, Nat.mul_assoc, Nat.mul_comm]
   omega
  refine ⟨by omega, ?_⟩
  refine IWp.loopT (α := Nat) (fun t => (⟨false, 112, 15, [17, 41, 58, 86, 96], glT, [(0, .fz 1 (ints A)), (1, .fz 1 (ints B)), (6, .int .i64 (dl b)), (7, .sl 2 (rl + 1) 0 ql none), (8, .sl 1 K 0 K none), (9, .int .i64 (k : Int)), (10, .int .i64 ((rq / 65536 ^ t : Nat) : Int)), (11, .int .i64 ((t : Int) - 1))], []⟩, [.dead, .rows 1 (ints O), .rows 1 (ints W)]))
   (fun t => t ≤ ql ∧ (t = ql ∨ n1 ≤ t)) (fun t => t) ql ⟨Nat.le_refl _, .inl rfl⟩ (by rw [← hql, Nat.div_eq_of_lt (dl_self rq)]; simp [go_sem]) ?_
  rintro t ⟨ht1, ht2⟩
  by_cases htn : n1 < t
  ·obtain ⟨u, rfl⟩ : ∃ u, t = u + 1 := ⟨t - 1, by omega⟩
   have hu := htop u (by omega)
   have hsp := dig_split rq u
   have huW : u < W.length := by omega
   have xW := tR u huW
   have qW := ints_q huW xW
   have wu : IntKind.i64.wrap ((u : Int) - 1) = u - 1 := wrap64 (by omega) (by omega)
   have hnu : (n1 : Int) ≤ u := by omega
   have hul : (u : Int) < ql := by omega
   obtain ⟨x, hxe⟩ : ∃ x, rq / 65536 ^ (u + 1) = x := ⟨_, rfl⟩
   obtain ⟨y, hye⟩ : ∃ y, rq / 65536 ^ u = y := ⟨_, rfl⟩
   have hyI : (rq : Int) / 65536 ^ u = y := by rw [← hye]; simp
   rw [hxe, hye] at hsp
   rw [hye] at xW qW hu
   rw [hxe]
   obtain ⟨e, he⟩ : ∃ e, y % 65536 = e := ⟨_, rfl⟩
   rw [he] at xW qW hsp
   have w5 : IntKind.i64.wrap ((x : Int) * 65536) = x * 65536 := wrap64 (by omega) (by omega)
   have w6 : IntKind.i64.wrap ((x : Int) * 65536 + e) = y := by rw [show (x : Int) * 65536 + e = y by omega]; exact wrap64 (by omega) (by omega)
   simp [go_sem, wn, hnu, huW, xW, qW, wu, w5, w6, hul]
   exact ⟨⟨by omega, by omega⟩, by omega, u, ⟨hyI.symm, rfl⟩, ⟨by omega, .inr (by omega)⟩, by omega⟩
  ·have hnu : ¬ (n1 : Int) ≤ (t : Int) - 1 := by omega
   have htq : rq / 65536 ^ t = rq / 65536 ^ n1 := by
    rcases ht2 with h | h
    ·rw [Nat.div_eq_of_lt (by rw [h, ← hql]; exact dl_self rq), Nat.div_eq_of_lt]
     exact Nat.lt_of_lt_of_le (dl_self rq) (Nat.pow_le_pow_right (by decide) (by omega))
    ·rw [show t = n1 by omega]
   rw [htq]
   obtain ⟨l1, l2, l3, l4, l5⟩ := top_low rq b hb
   rw [hn1] at l1 l2 l3 l4 l5
   have hT := htop n1 (Nat.le_refl _)
   have hn1B : n1 < B.length := by omega
   have xB := tb n1 hn1B
   have qB := ints_q hn1B xB
   rw [l5] at xB qB
   obtain ⟨T, hTe⟩ : ∃ T, rq / 65536 ^ n1 = T := ⟨_, rfl⟩
   obtain ⟨bt, hbt⟩ : ∃ bt, b / 65536 ^ n1 = bt := ⟨_, rfl⟩
   rw [hTe] at l1 l2 hT ⊢
   rw [hbt] at l1 l2 l3 l4 xB qB
   have d1 : (T : Int).tdiv ((bt : Int) + 1) = ((T / (bt + 1) : Nat) : Int) := by have := tdivN (x := T) (bt + 1); simpa using this
   have d2 : (T : Int).tdiv (bt : Int) = ((T / bt : Nat) : Int) := tdivN bt
   have hbz : ¬ (bt : Int) = 0 := by omega
   have hbz' : ¬ bt = 0 := by omega
   have hbz1 : ¬ (bt : Int) + 1 = 0 := by omega
   have wb : IntKind.i64.wrap ((bt : Int) + 1) = bt + 1 := wrap64 (by omega) (by omega)
   have hlo := Nat.div_le_self T (bt + 1)
   have hhi := Nat.div_le_self T bt
   obtain ⟨lo0, hlo0⟩ : ∃ x, T / (bt + 1) = x := ⟨_, rfl⟩
   obtain ⟨hi0, hhi0⟩ : ∃ x, T / bt = x := ⟨_, rfl⟩
   rw [hlo0] at l1 hlo d1
   rw [hhi0] at l2 hhi d2
   have wlo : IntKind.i64.wrap (lo0 : Int) = lo0 := wrap64 (by omega) (by omega)
   have whi : IntKind.i64.wrap (hi0 : Int) = hi0 := wrap64 (by omega) (by omega)
   simp [go_sem, wn, hnu]
   refine IWp.seqI ?_
   obtain ⟨hi1, hhi1⟩ : ∃ x : Nat, (if (65535 : Int) < hi0 then (65535 : Int) else hi0) = x := by
    split
    ·exact ⟨65535, rfl⟩
    ·exact ⟨hi0, rfl⟩
   obtain ⟨Q, hQ⟩ : ∃ Q, rq / b = Q := ⟨_, rfl⟩
   rw [hQ] at l1 l2 s3 hsn
   have hhi2 : Q ≤ hi1 ∧ hi1 ≤ 65535 := by split at hhi1 <;> omega
   simp [go_sem, wn, hn1B, xB, qB, wb, hbz, hbz', hbz1, d1, d2, wlo, whi, hhi1]
   refine ⟨by decide +kernel, ?_⟩
   have hdm : ∀ m, m < 65536 → dl (b * m) ≤ dl b + 1 := fun m hm => by
    rw [dl_le, Nat.pow_succ]
    exact Nat.mul_lt_mul'' (dl_self b) hm
   refine IWp.seqI ?_
   simp [go_sem]
   refine IWp.loopT (α := Nat × Nat) (fun x => (⟨false, 112, 15, [17, 41, 58, 86, 96], glT, [(0, .fz 1 (ints A)), (1, .fz 1 (ints B)), (6, .int .i64 (dl b)), (7, .sl 2 (rl + 1) 0 ql none), (8, .sl 1 K 0 K none), (9, .int .i64 (k : Int)), (12, .int .i64 (x.1 : Int)), (13, .int .i64 (x.2 : Int))], []⟩, [.dead, .rows 1 (ints O), .rows 1 (ints W)]))
    (fun x => x.1 ≤ Q ∧ Q ≤ x.2 ∧ x.2 ≤ 65535) (fun x => x.2 - x.1) (lo0, hi1) ⟨l1, hhi2.1, hhi2.2⟩ (by simp [go_sem]) ?_
   rintro ⟨lo, hi⟩ ⟨b1, b2, b3⟩
   simp only at b1 b2 b3
   by_cases hlh : lo < hi
   ·have hlh' : (lo : Int) < hi := by omega
    have v1 : IntKind.i64.wrap ((lo : Int) + hi) = lo + hi := wrap64 (by omega) (by omega)
    have v2 : IntKind.i64.wrap ((lo : Int) + hi + 1) = lo + hi + 1 := wrap64 (by omega) (by omega)
    obtain ⟨mid, hmid⟩ : ∃ mid, (lo + hi + 1) / 2 = mid := ⟨_, rfl⟩
    have v3 : ((lo : Int) + hi + 1).tdiv 2 = mid := by rw [Int.tdiv_eq_ediv_of_nonneg (by omega)]; omega
    have v4 : IntKind.i64.wrap (mid : Int) = mid := wrap64 (by omega) (by omega)
    have v5 : IntKind.i64.wrap ((mid : Int) - 1) = mid - 1 := wrap64 (by omega) (by omega)
    have hm : mid < 65536 := by omega
    have cs := scale_fun b mid (by omega) hm
    have cle := less_fun rq (b * mid) (by omega) (by have := hdm mid hm; omega)
    rw [hB] at cs
    rw [hG] at cle
    have hiff : rq < b * mid ↔ Q < mid := by rw [← hQ, Nat.div_lt_iff_lt_mul hb, Nat.mul_comm]
    rw [show decide (rq < b * mid) = decide (Q < mid) by rw [decide_eq_decide]; exact hiff] at cle
    obtain ⟨D, hD⟩ : ∃ D, dg (b * mid) = D := ⟨_, rfl⟩
    rw [hD] at cs cle
    simp [go_sem, hlh, hlh', v1, v2, v3, v4]
    refine cs.callF (by simp [go_sem]) ?_
    rintro _ rfl
    simp [go_sem]
    refine cle.callF (by simp [go_sem, lR, hCT, hdr1]) ?_
    rintro _ rfl
    by_cases hqm : Q < mid
    ·simp [go_sem, hqm, v5]
     exact ⟨lo, mid - 1, ⟨rfl, by omega⟩, ⟨b1, by omega, by omega⟩, by omega⟩
    ·simp [go_sem, hqm]
     exact ⟨mid, hi, ⟨rfl, rfl⟩, ⟨by omega, b2, b3⟩, by omega⟩
   ·obtain rfl : lo = hi := by omega
    obtain rfl : Q = lo := by omega
    simp [go_sem]
    have hOk : k < O.length := by omega
    have hKk : (k : Int) < K := by omega
    have hset : (ints O).set k [.int .i64 (Q : Int)] = ints (List.replicate k 0 ++ (dk (a / b) K).drop k) := by rw [← ints_set, hsn]
    have cs := scale_fun b Q (by omega) (by omega)
    have hbQ : b * Q ≤ rq := by rw [← hQ]; exact Nat.mul_div_le rq b
    have csb := sub01_fun rq (b * Q) hbQ (by omega)
    have hmod : rq - b * Q = a / 65536 ^ k % b := by
     rw [s2, ← hQ]
     have := Nat.div_add_mod rq b
     omega
    rw [hB] at cs
    rw [hG, hmod] at csb
    obtain ⟨D, hD⟩ : ∃ D, dg (b * Q) = D := ⟨_, rfl⟩
    rw [hD] at cs csb
    obtain ⟨Y, hY⟩ : ∃ Y, dg (a / 65536 ^ k % b) = Y := ⟨_, rfl⟩
    rw [hY] at csb
    obtain ⟨O2, hO2⟩ : ∃ O2, List.replicate k 0 ++ (dk (a / b) K).drop k = O2 := ⟨_, rfl⟩
    rw [hO2] at hset
    have hq0 := ints_q hOk rfl
    refine IWp.seqI ?_
    simp [go_sem, hOk, hOl, hset, hq0]
    refine ⟨by omega, ?_⟩
    refine IWp.now ?_
    simp [go_sem]
    refine cs.callF (by simp [go_sem]) ?_
    rintro _ rfl
    simp [go_sem]
    refine csb.callF (by simp [go_sem, lR, hCT, hdr1]) ?_
    rintro _ rfl
    simp [go_sem]
    refine IWp.now ?_
    simp [go_sem, wk]
    exact ⟨k, ⟨⟨by rw [hY], rfl⟩, by rw [hO2]⟩, by omega, by omega⟩
end Go.Idl
