import Derived.Test.YtamffdgopknkfaaGreatDoorC39zPartZF
import Derived.Test.YtamffdgopknkfaaGreatDoorC39zPartT
import Derived.Test.YtamffdgopknkfaaGreatDoorIdlPartM
set_option linter.all false
set_option maxHeartbeats 16000000
set_option maxRecDepth 40000
namespace Go.Idl
open Go.Proofs
def hk (k : Nat) (P X : IObj) : Heap := P :: (List.replicate k .dead ++ [X])
theorem hk_len (k : Nat) (P X : IObj) : (hk k P X).length = k + 2 := by simp [hk]
theorem hk_0 (k : Nat) (P X : IObj) : (hk k P X)[0]? = some P := rfl
theorem hk_1 (k : Nat) (P X : IObj) : (hk k P X)[k + 1]? = some X := by
 unfold hk
 rw [List.getElem?_cons_succ, List.getElem?_append_right (by simp)]
 simp
theorem hk_g0 (k : Nat) (P X : IObj) (h : 0 < (hk k P X).length) : (hk k P X)[0]'h = P := rfl
theorem hk_g1 (k : Nat) (P X : IObj) (h : k + 1 < (hk k P X).length) : (hk k P X)[k + 1]'h = X := by
 have := hk_1 k P X
 rw [List.getElem?_eq_getElem h] at this
 exact Option.some.inj this
theorem hk_a0 (k : Nat) (P X : IObj) (ρ : Heap) : (hk k P X ++ ρ)[0]? = some P := rfl
theorem hk_a1 (k : Nat) (P X : IObj) (ρ : Heap) : (hk k P X ++ ρ)[k + 1]? = some X := by
 rw [List.getElem?_append_left (by rw [hk_len]; omega), hk_1]
theorem hk_a2 (k : Nat) (P X : IObj) (ρ : Heap) (j : Nat) : (hk k P X ++ ρ)[k + 2 + j]? = ρ[j]? := by
 rw [List.getElem?_append_right (by rw [hk_len]; omega), hk_len]
 congr 1
 omega
theorem hk_a20 (k : Nat) (P X : IObj) (ρ : Heap) : (hk k P X ++ ρ)[k + 2]? = ρ[0]? := hk_a2 k P X ρ 0
theorem hk_ag2 (k : Nat) (P X Y : IObj) (ρ : Heap) (h : k + 2 < (hk k P X ++ Y :: ρ).length) : (hk k P X ++ Y :: ρ)[k + 2]'h = Y := by
 have := hk_a20 k P X (Y :: ρ)
 rw [List.getElem?_eq_getElem h] at this
 exact Option.some.inj this
theorem hk_ag1 (k : Nat) (P X : IObj) (ρ : Heap) (h : k + 1 < (hk k P X ++ ρ).length) : (hk k P X ++ ρ)[k + 1]'h = X := by
 have := hk_a1 k P X ρ
 rw [List.getElem?_eq_getElem h] at this
 exact Option.some.inj this
theorem hk_ag0 (k : Nat) (P X : IObj) (ρ : Heap) (h : 0 < (hk k P X ++ ρ).length) : (hk k P X ++ ρ)[0]'h = P := rfl
theorem hk_ag3 (k : Nat) (P X Y Z : IObj) (ρ : Heap) (h : k + 2 + 1 < (hk k P X ++ Y :: Z :: ρ).length) : (hk k P X ++ Y :: Z :: ρ)[k + 2 + 1]'h = Z := by
 have := hk_a2 k P X (Y :: Z :: ρ) 1
 rw [List.getElem?_eq_getElem h] at this
 exact Option.some.inj this
theorem hk_ag4 (k : Nat) (P X Y Z W : IObj) (ρ : Heap) (h : k + 2 + 2 < (hk k P X ++ Y :: Z :: W :: ρ).length) : (hk k P X ++ Y :: Z :: W :: ρ)[k + 2 + 2]'h = W := by
 have := hk_a2 k P X (Y :: Z :: W :: ρ) 2
 rw [List.getElem?_eq_getElem h] at this
 exact Option.some.inj this
theorem hk_a5 (k : Nat) (P X a b c : IObj) (j : Nat) : (hk k P X ++ [a, b, c])[k + 2 + 3 + j]? = none := by
 rw [List.getElem?_eq_none]
 simp [hk_len]
theorem hk_put1 (k : Nat) (P X Y : IObj) : hput (hk k P X) (k + 1) Y = hk k P Y := by
 rw [hput_set (by rw [hk_len]; omega)]
 unfold hk
 rw [List.set_cons_succ, List.set_append_right _ _ (by simp)]
 simp
theorem hk_aput1 (k : Nat) (P X Y : IObj) (ρ : Heap) : hput (hk k P X ++ ρ) (k + 1) Y = hk k P Y ++ ρ := by
 rw [hput_set (by simp [hk_len]; omega), List.set_append_left _ _ (by rw [hk_len]; omega), ← hput_set (by rw [hk_len]; omega), hk_put1]
theorem hk_aput2 (k : Nat) (P X Y : IObj) (ρ : Heap) (j : Nat) : hput (hk k P X ++ ρ) (k + 2 + j) Y = hk k P X ++ hput ρ j Y := by
 have := hput_app (hk k P X) ρ j Y
 rwa [hk_len] at this
theorem hk_put3 (k : Nat) (P X Y : IObj) (j : Nat) : hput (hk k P X) (k + 2 + j) Y = hk k P X ++ hput [] j Y := by
 have := hk_aput2 k P X Y [] j
 rwa [List.append_nil] at this
theorem hk_aput20 (k : Nat) (P X Y : IObj) (ρ : Heap) : hput (hk k P X ++ ρ) (k + 2) Y = hk k P X ++ hput ρ 0 Y := hk_aput2 k P X Y ρ 0
theorem fgt_of : ∀ {σ0 σ : Heap}, σ0.length ≤ σ.length → (∀ (b : Nat) (o : IObj), σ0[b]? = some o → o = .dead ∨ σ[b]? = some o) → fgt σ0 σ
 | [], _, _, _ => trivial
 | x :: l, [], h, _ => by simp at h
 | x :: l, y :: l', h, hg => by
  refine ⟨?_, fgt_of (by simpa using h) fun b o hb => ?_⟩
  ·have := hg 0 x rfl
   simpa [eq_comm] using this
  ·have := hg (b + 1) o (by simpa using hb)
   simpa using this
theorem fgt_hk {k : Nat} {P X : IObj} {σ : Heap} (h0 : σ[0]? = some P) (h1 : σ[k + 1]? = some X) : fgt (hk k P X) σ := by
 have hl := (List.getElem?_eq_some_iff.1 h1).1
 refine fgt_of (by rw [hk_len]; omega) fun b o hb => ?_
 rcases Nat.eq_zero_or_pos b with rfl | hb0
 ·rw [hk_0] at hb; right; rw [h0]; exact hb
 ·obtain ⟨c, rfl⟩ : ∃ c, b = c + 1 := ⟨b - 1, by omega⟩
  by_cases hc : c = k
  ·subst hc; rw [hk_1] at hb; right; rw [h1]; exact hb
  ·left
   have hbl := (List.getElem?_eq_some_iff.1 hb).1
   rw [hk_len] at hbl
   unfold hk at hb
   rw [List.getElem?_cons_succ, List.getElem?_append_left (by simp; omega)] at hb
   have := List.getElem?_replicate (a := IObj.dead) (n := k) (i := c)
   rw [if_pos (by omega)] at this
   rw [this] at hb
   exact (Option.some.inj hb).symm
theorem HeBl_hk {n k : Nat} {P X : IObj} : HeBl n (hk k P X) = (ObBl n P ∧ ObBl n X) := by
 apply propext
 unfold HeBl hk
 constructor
 ·intro h; exact ⟨h P (by simp), h X (by simp)⟩
 ·rintro ⟨h1, h2⟩ o ho
  rcases List.mem_cons.1 ho with rfl | ho
  ·exact h1
  ·rcases List.mem_append.1 ho with ho | ho
   ·rw [(List.mem_replicate.1 ho).2]; trivial
   ·rw [List.mem_singleton.1 ho]; exact h2
theorem ems_q {l : List Em} {i : Nat} {m : Em} (h : i < l.length) (hm : l[i] = m) : (ems l)[i]?.getD [] = [.int .i64 m.r, .int .i64 m.a, .int .i64 m.b, .int .i64 m.m] := by
 rw [List.getElem?_eq_getElem (by simpa using h), Option.getD_some, ems_getElem]; simp [hm]
theorem nts_cons9 {a : Nat} {A : List Nat} : nts (a :: A) = [.int .i64 (a : Int)] :: nts A := rfl
theorem nts_drop9 {A : List Nat} {n : Nat} : nts (A.drop n) = (nts A).drop n := mp_drop
theorem nts_append9 {A B : List Nat} : nts (A ++ B) = nts A ++ nts B := mp_append
theorem nts_one9 {A : List Nat} : ∀ a ∈ nts A, a.length = 1 ∧ ∀ x ∈ a, IV.one x = true := rows_one (mp_sc (by simp [scal])) (mp_rows (by simp))
def jk (n : Nat) : List (List IV) := List.replicate n [.junk]
@[simp] theorem jk_length (n : Nat) : (jk n).length = n := by simp [jk]
theorem rst_len {p : Pl} {l : List Em} {rd : Int} : ∀ (k n : Nat) (bf : List Er), (rst p l rd k n bf).2.1.length ≤ p.t.toNat
 | 0, _, _ => by simp [rst]
 | k + 1, n, bf => by
  unfold rst
  by_cases he : (drawR (ordT p bf) (metT bf) (byeT bf)).2.2 ≠ 0
  ·rw [if_pos he]; simp
  ·rw [if_neg he]
   split
   ·have := (drawR_ok (met := metT bf) (byes := byeT bf) (ordT_nodup p bf) (by simpa using he)).len
    simp only
    rw [this, ordT_length]
    omega
   ·split
    ·exact rst_len k (n + 1) _
    ·simp
theorem refCheck_fun (p : Pl) (l : List Em) (h12 : plB p = true → p.t ≤ 12) (hs : p.s.length ≤ 2 ^ 32) (hl : l.length ≤ 2 ^ 30) : FN 22 [p.v, .fz 4 (ems l)] (fun v => v = .tup [.int .i64 (chkR p l).1, .int .i64 (chkR p l).2]) := by
 refine IFun.of_bodyW false 21 [23, 27, 50, 66, 95, 111, 124, 137, 150] Tryz.func22 rfl Tryz.call22 rfl fun R hR => ?_
 have cr := refRight39_fun p hs
 have fin : ∀ (r : IV) (σ : Heap) (q : Int × Int), chkR p l = q → frzOK false 4 σ r ∧ nz 4 (frzV 4 σ r) (.tup [.int .i64 q.1, .int .i64 q.2]) → R r σ := fun r σ q e h => hR r σ _ rfl (by rw [e]; exact h)
 clear hR
 cases hp : plB p with
 | false =>
  rw [hp] at cr
  have hc : chkR p l = (-1, 2) := by unfold chkR; rw [if_neg (by simp [hp])]
  simp only [Pl.v] at *
  refine IWp.now ?_
  simp [go_sem]
  refine cr.callF (by simp [go_sem]) ?_
  rintro _ rfl
  simp [go_sem]
  exact fin _ _ _ hc (by simp [go_sem])
 | true =>
 rw [hp] at cr
 have hc : chkR p l = chkF p l (ordM l) [] := by unfold chkR; rw [if_pos hp, chk_eq (ordM_ok l)]
 rw [hc] at fin
 clear hc
 have hpv : p.v = .agg [.int .i64 p.t, .int .i64 p.r, .int .i64 p.b, .fz 1 (ints p.s)] := rfl
 obtain ⟨PB, hPB⟩ : ∃ PB : IObj, .rows 4 [[.int .i64 p.t, .int .i64 p.r, .int .i64 p.b, .fz 1 (ints p.s)]] = PB := ⟨_, rfl⟩
 simp only [Pl.v] at cr ⊢
 refine IWp.seqI ?_
 simp [go_sem]
 refine IWp.seqI ?_
 simp [go_sem]
 refine cr.callF (by simp [go_sem]) ?_
 rintro _ rfl
 simp [go_sem]
 refine IWp.seqI ?_
 simp [go_sem]
 refine IWp.ownNilC 1 6 (by decide) (by simp [go_sem]) ?_
 simp [go_sem]
 obtain ⟨n, hn⟩ : ∃ n, l.length = n := ⟨_, rfl⟩
 obtain ⟨P0, hP0⟩ : ∃ P0 : IObj, P0 = .rows 4 [[.int .i64 p.t, .int .i64 p.r, .int .i64 p.b, .fz 1 (ints p.s)]] := ⟨_, rfl⟩
 have hPbl : ∀ m, ObBl m P0 := fun m => by rw [hP0]; simp [go_sem]
 have hXbl : ∀ m (A : List Nat) dd, ObBl m (.rows 1 (nts A ++ jk dd)) := fun m A dd => by
  intro row hr c hc
  rcases List.mem_append.1 hr with hr | hr
  ·simp only [nts, ints, mp, List.mem_map] at hr
   obtain ⟨_, _, rfl⟩ := hr
   rw [List.mem_singleton.1 hc]; simp [go_sem]
  ·rw [(List.mem_replicate.1 hr).2] at hc
   rw [List.mem_singleton.1 hc]; simp [go_sem]
 have hfit : ∀ k dd A m, HeBl m (hk k P0 (.rows 1 (nts A ++ jk dd))) := fun k dd A m => by rw [HeBl_hk]; exact ⟨hPbl _, hXbl _ _ _⟩
 have hfit' := hfit
 obtain ⟨G, hG⟩ : ∃ G : Nat → Int, ∀ q, (l.getD q Em0).r = G q := ⟨_, fun _ => rfl⟩
 rw [← hP0]
 refine IWp.seqT (α := Nat × Nat) (fun z => (⟨false, 159, 21, [23, 27, 50, 66, 95, 111, 124, 137, 150], glT, [(1, .fz 4 (ems l)), (2, .ptr 0 1 0 0), (6, .sl (z.1 + 1) (n + z.2) 0 n (some (n + z.2)))], []⟩, hk z.1 P0 (.rows 1 (nts (ordM l) ++ jk z.2)))) (fun _ => True) ?_ ?_
 ·simp [go_sem]
  refine IWp.shut fun Q hQ => ?_
  refine IWp.loopI (α := Nat × Nat × Nat × List Nat) (fun z => (⟨false, 159, 21, [23, 27, 50, 66, 95, 111, 124, 137, 150], glT, [(1, .fz 4 (ems l)), (2, .ptr 0 1 0 0), (6, .sl (z.2.1 + 1) (z.1 + z.2.2.1) 0 z.1 (some (z.1 + z.2.2.1))), (7, .int .i64 (z.1 : Int))], []⟩, hk z.2.1 P0 (.rows 1 (nts z.2.2.2 ++ jk z.2.2.1))))
   (fun z => z.1 ≤ n ∧ z.2.2.2.length = z.1 ∧ z.2.2.2.Perm (List.range z.1) ∧ z.2.2.2.Pairwise (ltM l)) (fun z => n - z.1) (0, 0, 0, []) ⟨by omega, rfl, List.Perm.refl _, List.Pairwise.nil⟩ (by simp [go_sem]; exact ⟨fgt_hk rfl rfl, by rw [hk_len]; omega, ⟨by rw [hk_len]; omega, by rw [hk_len]; omega⟩, hfit 0 0 [] _⟩) ?_
  rintro ⟨i, k, dd, A⟩ ⟨hi, hAl, hAp, hAs⟩
  simp only at hi hAl hAp hAs
  by_cases hin : i < n
  ·have hil : i < l.length := by omega
   refine IWp.seqI ?_
   simp [go_sem, hin, hn]
   refine IWp.seq ?_
   refine IWp.block ?_
   refine IWp.seqI ?_
   simp [go_sem, hk_1, hAl]
   refine IWp.seqT (α := Nat) (fun j => (⟨false, 159, 21, [23, 27, 50, 66, 95, 111, 124, 137, 150], glT, [(1, .fz 4 (ems l)), (2, .ptr 0 1 0 0), (6, .sl (k + 1) (i + dd) 0 i (some (i + dd))), (7, .int .i64 (i : Int)), (8, .int .i64 (j : Int))], []⟩, hk k P0 (.rows 1 (nts A ++ jk dd))))
    (fun j => j ≤ i ∧ (∀ m (h : m < A.length), j ≤ m → G i < G A[m]) ∧ (∀ (h : j - 1 < A.length), 0 < j → G A[j - 1] ≤ G i)) ?_ ?_
   ·simp [go_sem]
    refine IWp.loopT (α := Nat) (fun j => (⟨false, 159, 21, [23, 27, 50, 66, 95, 111, 124, 137, 150], glT, [(1, .fz 4 (ems l)), (2, .ptr 0 1 0 0), (6, .sl (k + 1) (i + dd) 0 i (some (i + dd))), (7, .int .i64 (i : Int)), (8, .int .i64 (j : Int))], []⟩, hk k P0 (.rows 1 (nts A ++ jk dd))))
     (fun j => j ≤ i ∧ (∀ m (h : m < A.length), j ≤ m → G i < G A[m])) (fun j => j) i ⟨by omega, fun m h h2 => by omega⟩ (by simp [go_sem, fgt_refl, hk_len, hfit]) ?_
    rintro j ⟨hj, hj1⟩
    rcases j with _ | j
    ·have z1 : IntKind.i64.wrap (-1) = -1 := by decide
     have z2 : IntKind.i64.wrap (0 - 1) = -1 := by decide
     obtain ⟨mi, hmi⟩ : ∃ m, l[i] = m := ⟨_, rfl⟩
     have hgi := ems_q hil hmi
     rcases A with _ | ⟨a0, A⟩
     ·rcases dd with _ | dd
      ·simp [go_sem, hk_1, hk_len, hk_g1, hk_g0, z1, z2, hn, hil, jk, hgi]
       refine ⟨by decide +kernel, 0, ⟨rfl, hfit' k 0 [] _⟩, by omega⟩
      ·simp [go_sem, hk_1, hk_len, hk_g1, hk_g0, z1, z2, hn, hil, jk, List.replicate_succ, hgi]
       refine ⟨by decide +kernel, 0, ⟨rfl, hfit' k (dd + 1) [] _⟩, by omega⟩
     ·have ha0 : a0 < i := by
       have := hAp.mem_iff.1 (List.mem_cons_self ..)
       simpa using this
      have hal0 : a0 < l.length := by omega
      obtain ⟨ma, hma⟩ : ∃ m, l[a0] = m := ⟨_, rfl⟩
      have hga := ems_q hal0 hma
      simp [go_sem, hk_1, hk_len, hk_g1, hk_g0, z1, z2, hn, hil, nts_cons9, hal0, hga, hgi]
      refine ⟨by decide +kernel, 0, ⟨rfl, hfit' k dd (a0 :: A) _⟩, by omega, fun m h _ => hj1 m h (by omega), fun _ h => by omega⟩
    ·have hjA : j < A.length := by omega
     have wj : IntKind.i64.wrap ((j : Int) + 1 - 1) = j := by rw [wrap64 (by omega) (by omega)]; omega
     have wj' : IntKind.i64.wrap (j : Int) = j := wrap64 (by omega) (by omega)
     have gp : (0 : Int) < (j : Int) + 1 := by omega
     obtain ⟨a, ha⟩ : ∃ a, A[j] = a := ⟨_, rfl⟩
     have hai : a < i := by
      have := hAp.mem_iff.1 (List.getElem_mem hjA)
      rw [ha] at this
      simpa using this
     have hal : a < l.length := by omega
     have e1 : (nts A ++ jk dd)[j]?.getD [] = [.int .i64 (a : Int)] := by
      rw [List.getElem?_append_left (by simpa using hjA), nts_at hjA]
      simp [hjA, ha]
     obtain ⟨ma, hma⟩ : ∃ m, l[a] = m := ⟨_, rfl⟩
     obtain ⟨mi, hmi⟩ : ∃ m, l[i] = m := ⟨_, rfl⟩
     have g1 : ma.r = G a := by rw [← hG]; simp [hal, hma]
     have g2 : mi.r = G i := by rw [← hG]; simp [hil, hmi]
     have hji : j < i + dd := by omega
     have hji2 : j < i := by omega
     by_cases hc : mi.r < ma.r
     ·have hnx : ∀ m (h : m < A.length), j ≤ m → G i < G A[m] := fun m h h2 => by
       by_cases hmj : m = j
       ·subst hmj; rw [ha]; omega
       ·exact hj1 m h (by omega)
      simp [go_sem, gp, wj, wj', hk_1, hk_len, hk_g1, hk_g0, e1, ha, hAl, hji, hji2, hal, hil, hma, hmi, hc]
      refine ⟨by decide +kernel, j, ⟨rfl, hfit' k dd A _⟩, ⟨by omega, fun m h h2 => hnx m (by omega) h2⟩, by omega⟩
     ·simp [go_sem, gp, wj, wj', hk_1, hk_len, hk_g1, hk_g0, e1, ha, hAl, hji, hji2, hal, hil, hma, hmi, hc]
      refine ⟨by decide +kernel, j + 1, ⟨by omega, hfit' k dd A _⟩, by omega, fun m h h2 => hj1 m (by omega) h2, fun h _ => ?_⟩
      have : A[j + 1 - 1] = a := ha
      rw [this]; omega
   ·rintro j ⟨hj, hj1, hj2⟩
    obtain ⟨D, hID⟩ : ∃ D, i - j = D := ⟨_, rfl⟩
    have hsum : i = j + D := by omega
    have wi : IntKind.i64.wrap ((i : Int) + 1) = i + 1 := wrap64 (by omega) (by omega)
    have hmin : min (1 + D) (D + 1) = D + 1 := by omega
    have hji : (j : Int) ≤ i := by omega
    have hAj : (A.drop j).length = D := by rw [List.length_drop, hAl, hID]
    have htk2 : List.take (1 + D) ([.int .i64 (i : Int)] :: nts (A.drop j)) = nts (i :: A.drop j) := by
     rw [nts_cons9, List.take_of_length_le (by simp; omega)]
    have hdr : ∀ X, List.take D (List.drop j (nts A ++ X)) = nts (A.drop j) := fun X => by
     rw [List.drop_append_of_le_length (by simp; omega), ← nts_drop9, List.take_append_of_le_length (by simp; omega), List.take_of_length_le (by simp; omega)]
    have hdr0 : List.take D (List.drop j (nts A)) = nts (A.drop j) := by have := hdr []; rwa [List.append_nil] at this
    have hnx1 : (A.take j ++ i :: A.drop j).length = i + 1 := by simp; omega
    have hnx2 : (A.take j ++ i :: A.drop j).Perm (List.range (i + 1)) := by
     rw [List.range_succ]
     refine (List.perm_middle).trans ?_
     rw [List.take_append_drop]
     exact (hAp.cons i).trans (List.perm_append_singleton i _).symm
    have hnx3 : (A.take j ++ i :: A.drop j).Pairwise (ltM l) := by
     have hltG : ∀ a b, ltM l a b ↔ (G a < G b ∨ G a = G b ∧ a < b) := fun a b => by unfold ltM; rw [hG, hG]
     have hmem : ∀ a ∈ A, a < i := fun a ha => by have := hAp.mem_iff.1 ha; simpa using this
     have hmono : ∀ (x y : Nat) (hx : x < A.length) (hy : y < A.length), x ≤ y → G A[x] ≤ G A[y] := fun x y hx hy hxy => by
      by_cases e : x = y
      ·subst e; omega
      ·have := (List.pairwise_iff_getElem.1 hAs x y hx hy (by omega))
       rw [hltG] at this
       omega
     rw [List.pairwise_append, List.pairwise_cons]
     have hsub : A.take j ++ A.drop j = A := List.take_append_drop j A
     have hAs2 := hAs
     rw [← hsub, List.pairwise_append] at hAs2
     refine ⟨hAs2.1, ⟨fun b hb => ?_, hAs2.2.1⟩, fun a ha b hb => ?_⟩
     ·obtain ⟨m, hm, rfl⟩ := List.mem_iff_getElem.1 hb
      rw [List.getElem_drop, hltG]
      rw [List.length_drop] at hm
      left
      exact hj1 (j + m) (by omega) (by omega)
     ·rcases List.mem_cons.1 hb with rfl | hb
      ·obtain ⟨m, hm, rfl⟩ := List.mem_iff_getElem.1 ha
       rw [List.length_take] at hm
       rw [List.getElem_take, hltG]
       have h1 := hj2 (by omega) (by omega)
       have h2 := hmono m (j - 1) (by omega) (by omega) (by omega)
       have h3 := hmem A[m] (List.getElem_mem _)
       omega
      ·exact hAs2.2.2 a ha b hb
    have hrow : nts (A.take j) ++ nts (i :: A.drop j) = nts (A.take j ++ i :: A.drop j) := nts_append9.symm
    have htj : (nts A).take j = nts (A.take j) := (mp_take).symm
    generalize A.take j ++ i :: A.drop j = A' at *
    rcases dd with _ | dd
    ·have n9 : ¬ j + (D + 1) ≤ i := by omega
     have d9 : decide (j + (D + 1) ≤ i) = false := decide_eq_false n9
     refine IWp.now ?_
     simp [go_sem, hk_1, hk_len, hk_g1, hk_g0, hk_put3, hk_a0, hk_a1, hk_a2, hk_aput1, hk_aput2, hAl, hj, hji, jk, hID, hmin, d9, hdr0, htk2, htj, hrow]
     refine ⟨⟨by omega, by omega, nts_one9⟩, ⟨⟨by omega, by omega⟩, by omega, nts_one9⟩, by decide +kernel, ?_⟩
     have eL : j + (D + 1) = (nts A').length := by rw [nts_length, hnx1]; omega
     rw [eL]
     refine IWp.room 6 (k + 2 + 9) 1 (nts A') rfl rfl (by rw [hk_a2]; rfl) fun cap hcap => ?_
     rw [hk_aput2]
     rw [nts_length, hnx1] at hcap ⊢
     obtain ⟨d', rfl⟩ : ∃ d', cap = i + 1 + d' := ⟨cap - (i + 1), by omega⟩
     rw [Nat.add_sub_cancel_left]
     refine IWp.now ?_
     simp [go_sem, wi, hk_len]
     refine ⟨i + 1, k + 10, d', A', ⟨⟨⟨rfl, rfl, rfl, rfl⟩, by omega⟩, fgt_hk (hk_a0 _ _ _ _) (by rw [show k + 10 + 1 = k + 2 + 9 from rfl, hk_a2]; rfl), hfit' _ d' A' _⟩, ⟨by omega, hnx1, hnx2, hnx3⟩, by omega⟩
    ·have n9 : j + (D + 1) ≤ i + (dd + 1) := by omega
     have d9 : decide (j + (D + 1) ≤ i + (dd + 1)) = true := decide_eq_true n9
     have hmin2 : min D (i + (dd + 1) - j) = D := by omega
     refine IWp.now ?_
     simp [go_sem, hk_1, hk_len, hk_g1, hk_g0, hk_put3, hk_a0, hk_a1, hk_a2, hk_aput1, hk_aput2, hAl, hj, hji, hID, hmin, hmin2, d9, hdr, htk2]
     refine ⟨by omega, by omega, ⟨by omega, by omega, nts_one9⟩, ⟨⟨by omega, by omega⟩, nts_one9⟩, by decide +kernel, ?_⟩
     refine IWp.now ?_
     simp [go_sem, wi, hk_len]
     have r1 : List.take j (nts A ++ jk (dd + 1)) = nts (A.take j) := by rw [List.take_append_of_le_length (by simp; omega), htj]
     have r2 : List.drop (j + (D + 1)) (nts A ++ jk (dd + 1)) = jk dd := by
      rw [show j + (D + 1) = (nts A).length + 1 by rw [nts_length, hAl]; omega, List.drop_length_add_append]
      unfold jk
      rw [List.replicate_succ]
      rfl
     rw [r1, r2, ← List.append_assoc, hrow]
     refine ⟨i + 1, k, dd, A', ⟨⟨⟨rfl, by omega, by omega, by omega⟩, by omega⟩, fgt_hk (hk_a0 _ _ _ _) (hk_a1 _ _ _ _), hfit' k dd A' _⟩, ⟨by omega, hnx1, hnx2, hnx3⟩, by omega⟩
  ·obtain rfl : i = n := by omega
   have hAO : A = ordM l := OrdM.eq ⟨by rw [hn]; exact hAp, hAs⟩ (ordM_ok l)
   subst hAO
   refine IWp.now ?_
   simp [go_sem, hn]
   rw [hQ]
   simp [go_sem, hk_len]
   exact ⟨k, dd, ⟨rfl, rfl⟩, fgt_refl _, hfit' _ _ _ _⟩
 rintro ⟨k, dd⟩ _
 have hAl : (ordM l).length = n := by have := (ordM_ok l).1.length_eq; simpa [hn] using this
 have hAm : ∀ a ∈ ordM l, a < l.length := fun a ha => by have := (ordM_ok l).1.mem_iff.1 ha; simpa using this
 generalize ordM l = A at *
 obtain ⟨ZC, hZC⟩ : ∃ Z, chkF p l A [] = Z := ⟨_, rfl⟩
 rw [hZC] at fin
 obtain ⟨X0, hX0⟩ : ∃ X0 : IObj, .rows 1 (nts A ++ jk dd) = X0 := ⟨_, rfl⟩
 have hfit2 : ∀ E m, HeBl m (hk k P0 X0 ++ [.rows 4 (ems E)]) := fun E m o ho => by
  rcases List.mem_append.1 ho with ho | ho
  ·have := hfit' k dd A m
   rw [hX0] at this
   exact this o ho
  ·rw [List.mem_singleton.1 ho]; simp [go_sem]
 refine IWp.seqI ?_
 simp [go_sem]
 refine IWp.ownNilS 4 9 (by decide) (by simp [go_sem]) ?_
 simp [go_sem, hX0, hk_len]
 refine IWp.seqI ?_
 simp [go_sem]
 refine IWp.shut fun Q hQ => ?_
 refine IWp.loopI (α := Nat × List Em) (fun z => (⟨false, 159, 21, [23, 27, 50, 66, 95, 111, 124, 137, 150], glT, [(1, .fz 4 (ems l)), (2, .ptr 0 1 0 0), (6, .sl (k + 1) (n + dd) 0 n (some (n + dd))), (9, .sl (k + 2) z.2.length 0 z.2.length none), (10, .int .i64 (z.1 : Int))], []⟩, hk k P0 X0 ++ [.rows 4 (ems z.2)]))
  (fun z => z.1 ≤ n ∧ z.2.length = z.1 ∧ ZC = chkF p l (A.drop z.1) z.2 ∧ ∀ m ∈ z.2, mrB m.m = true) (fun z => n - z.1) (0, []) ⟨by omega, rfl, hZC.symm, by simp⟩ (by simp [go_sem, hk_len]; have h9 := hfit' k dd A (k + 3); rw [hX0] at h9; exact h9) ?_
 rintro ⟨q, E⟩ ⟨hq, hEl, hck, hEm⟩
 simp only at hq hEl hck hEm
 by_cases hqn : q < n
 ·have hqA : q < A.length := by omega
  have hal := hAm _ (List.getElem_mem hqA)
  rw [List.drop_eq_getElem_cons hqA] at hck
  obtain ⟨a, ha⟩ : ∃ a, A[q] = a := ⟨_, rfl⟩
  rw [ha] at hal hck
  unfold chkF at hck
  obtain ⟨m, hm⟩ : ∃ m, l[a] = m := ⟨_, rfl⟩
  have hgm : l.getD a Em0 = m := by simp [hal, hm]
  rw [hgm] at hck
  have e1 : (nts A ++ jk dd)[q]?.getD [] = [.int .i64 (a : Int)] := by
   rw [List.getElem?_append_left (by simpa using hqA), nts_at hqA]
   simp [hqA, ha]
  have e2 := ems_q hal hm
  have hX1 : (hk k P0 X0)[k + 1]? = some X0 := hk_1 k P0 X0
  have hqd : q < n + dd := by omega
  rw [← hX0]
  refine IWp.seqI ?_
  simp [go_sem, hqn, hk_a1, hk_len, hk_g1, hk_g0, hk_ag0, hk_ag1, hk_ag2, hk_a20, hAl]
  refine IWp.seq ?_
  refine IWp.block ?_
  refine IWp.seqI ?_
  simp [go_sem, hqn, hqd, hk_a1, hk_a2, hk_a0, hk_len, hk_g1, hk_g0, hk_ag0, hk_ag1, hk_ag2, hk_a20, hk_aput2, hAl, e1, e2, ha, hal, hm]
  obtain ⟨m1, m2, m3, m4⟩ := m
  unfold badM at hck
  simp only at hck e2
  have wM : IntKind.i64.wrap (-1000000) = -1000000 := by decide
  have bad : ∀ (σ : Heap) (z : Int), ZC = ((a : Int), z) → R (.tup [.int .i64 (a : Int), .int .i64 z]) σ := fun σ z h => fin _ _ _ h (by simp [go_sem])
  have hmrI : mrB m4 = false ↔ (1000000 < m4 ∨ m4 < -1000000) := by
   unfold mrB
   rw [Bool.and_eq_false_iff, decide_eq_false_iff_not, decide_eq_false_iff_not]
   omega
  refine IWp.seqI ?_
  by_cases c1 : m1 < 0
  ·rw [if_pos (.inl c1)] at hck
   simp [go_sem, c1, e1, ha, hAl, hqn, hqd, hP0, hk_ag3, hk_a1, hk_a2, hk_a0, hk_len, hk_g1, hk_g0, hk_ag0, hk_ag1, hk_ag2, hk_a20, hk_aput2]
   rw [hQ]
   simp [go_sem]
   exact bad _ _ hck
  by_cases c2 : p.r ≤ m1
  ·rw [if_pos (.inr (.inl c2))] at hck
   simp [go_sem, c1, c2, e1, ha, hAl, hqn, hqd, hP0, hk_ag3, hk_a1, hk_a2, hk_a0, hk_len, hk_g1, hk_g0, hk_ag0, hk_ag1, hk_ag2, hk_a20, hk_aput2]
   rw [hQ]
   simp [go_sem]
   exact bad _ _ hck
  by_cases c3 : 1000000 < m4
  ·rw [if_pos (.inr (.inr (hmrI.2 (.inl c3))))] at hck
   simp [go_sem, c1, c2, c3, e1, ha, hAl, hqn, hqd, hP0, hk_ag3, hk_a1, hk_a2, hk_a0, hk_len, hk_g1, hk_g0, hk_ag0, hk_ag1, hk_ag2, hk_a20, hk_aput2]
   rw [hQ]
   simp [go_sem]
   exact bad _ _ hck
  by_cases c4 : m4 < -1000000
  ·rw [if_pos (.inr (.inr (hmrI.2 (.inr c4))))] at hck
   simp [go_sem, c1, c2, c3, c4, e1, ha, hAl, hqn, hqd, hP0, hk_ag3, hk_a1, hk_a2, hk_a0, hk_len, hk_g1, hk_g0, hk_ag0, hk_ag1, hk_ag2, hk_a20, hk_aput2]
   rw [hQ]
   simp [go_sem]
   exact bad _ _ hck
  have hmr : mrB m4 = true := by
   cases h : mrB m4 with
   | true => rfl
   | false => have := hmrI.1 h; omega
  rw [if_neg (by rw [hmr]; simp; omega)] at hck
  simp [go_sem, c1, c2, c3, c4, e1, ha, hAl, hqn, hqd, hP0, hk_ag3, hk_a1, hk_a2, hk_a0, hk_len, hk_g1, hk_g0, hk_ag0, hk_ag1, hk_ag2, hk_a20, hk_aput2]
  have hpl := plB_ok hp (h12 hp)
  have cst := state39_fun p E m1 hpl.1 ⟨by omega, by omega⟩ (by omega) hEm
  have hdb : (rst p E m1 p.r.toNat 0 []).2.1.length ≤ p.t.toNat := rst_len _ _ _
  obtain ⟨⟨bf9, d9, y9, ok9⟩, hst⟩ : ∃ z, rst p E m1 p.r.toNat 0 [] = z := ⟨_, rfl⟩
  rw [hst] at cst hck hdb
  simp only [stV, Pl.v] at cst hck hdb
  refine IWp.seqI ?_
  simp [go_sem, hP0, hk_ag3, hk_a1, hk_a2, hk_a0, hk_len, hk_g1, hk_g0, hk_ag0, hk_ag1, hk_ag2, hk_a20, hk_aput2]
  refine cst.callF (by simp [go_sem, hP0, hk_ag3, hk_a1, hk_a2, hk_a0, hk_len, hk_g1, hk_g0, hk_ag0, hk_ag1, hk_ag2, hk_a20, hk_aput2]) ?_
  rintro _ rfl
  simp [go_sem]
  refine IWp.seqI ?_
  cases ok9 with
  | false =>
   rw [if_pos rfl] at hck
   simp [go_sem, e1, ha, hAl, hqn, hqd, hP0, hk_ag3, hk_a1, hk_a2, hk_a0, hk_len, hk_g1, hk_g0, hk_ag0, hk_ag1, hk_ag2, hk_a20, hk_aput2]
   rw [hQ]
   simp [go_sem]
   exact bad _ _ hck
  | true =>
  rw [if_neg (by simp)] at hck
  simp [go_sem]
  refine IWp.seqI ?_
  simp [go_sem, hP0, hk_ag3, hk_a1, hk_a2, hk_a0, hk_len, hk_g1, hk_g0, hk_ag0, hk_ag1, hk_ag2, hk_a20, hk_aput2]
  refine IWp.seqI ?_
  simp [go_sem, hP0, hk_ag3, hk_a1, hk_a2, hk_a0, hk_len, hk_g1, hk_g0, hk_ag0, hk_ag1, hk_ag2, hk_a20, hk_aput2]
  have hbl8 : ∀ m, HeBl m (hk k (.rows 4 [[.int .i64 p.t, .int .i64 p.r, .int .i64 p.b, .fz 1 (ints p.s)]]) (.rows 1 (nts A ++ jk dd))) := fun m => by rw [← hP0]; exact hfit' k dd A m
  have hpt := hpl.1.t
  have hbl9 : ∀ m, HeBl m (hk k (.rows 4 [[.int .i64 p.t, .int .i64 p.r, .int .i64 p.b, .fz 1 (ints p.s)]]) (.rows 1 (nts A ++ jk dd)) ++ [.rows 4 (ems E), .rows 4 [[.int .i64 m1, .int .i64 m2, .int .i64 m3, .int .i64 m4]], .rows 2 [[.int .i64 m2, .int .i64 m3]]]) := fun m o ho => by
   rcases List.mem_append.1 ho with ho | ho
   ·rw [← hP0] at ho
    exact hfit' k dd A m o ho
   ·simp only [List.mem_cons, List.not_mem_nil, or_false] at ho
    rcases ho with rfl | rfl | rfl <;> simp [go_sem]
  refine IWp.seqT (α := Unit) (fun _ => (⟨false, 159, 21, [23, 27, 50, 66, 95, 111, 124, 137, 150], glT, [(1, .fz 4 (ems l)), (2, .ptr 0 1 0 0), (6, .sl (k + 1) (n + dd) 0 n (some (n + dd))), (9, .sl (k + 2) E.length 0 E.length none), (10, .int .i64 (q : Int)), (11, .ptr (k + 2 + 1) 1 0 0), (16, .ptr (k + 2 + 2) 1 0 0), (17, .bool (decide ((m2, m3) ∈ d9)))], []⟩, hk k (.rows 4 [[.int .i64 p.t, .int .i64 p.r, .int .i64 p.b, .fz 1 (ints p.s)]]) (.rows 1 (nts A ++ jk dd)) ++ [.rows 4 (ems E), .rows 4 [[.int .i64 m1, .int .i64 m2, .int .i64 m3, .int .i64 m4]], .rows 2 [[.int .i64 m2, .int .i64 m3]]])) (fun _ => True) ?_ ?_
  ·simp [go_sem, hP0, hk_ag3, hk_ag4, hk_a1, hk_a2, hk_a0, hk_len, hk_g1, hk_g0, hk_ag0, hk_ag1, hk_ag2, hk_a20, hk_a5, hk_aput2, hk_aput20]
   refine IWp.loopT (α := Nat) (fun i => (⟨false, 159, 21, [23, 27, 50, 66, 95, 111, 124, 137, 150], glT, [(1, .fz 4 (ems l)), (2, .ptr 0 1 0 0), (6, .sl (k + 1) (n + dd) 0 n (some (n + dd))), (9, .sl (k + 2) E.length 0 E.length none), (10, .int .i64 (q : Int)), (11, .ptr (k + 2 + 1) 1 0 0), (13, .fz 2 (prs d9)), (16, .ptr (k + 2 + 2) 1 0 0), (17, .bool (decide ((m2, m3) ∈ d9.take i))), (18, .int .i64 (i : Int))], []⟩, hk k (.rows 4 [[.int .i64 p.t, .int .i64 p.r, .int .i64 p.b, .fz 1 (ints p.s)]]) (.rows 1 (nts A ++ jk dd)) ++ [.rows 4 (ems E), .rows 4 [[.int .i64 m1, .int .i64 m2, .int .i64 m3, .int .i64 m4]], .rows 2 [[.int .i64 m2, .int .i64 m3]]]))
    (fun i => i ≤ d9.length) (fun i => d9.length - i) 0 (by omega) (by simp [go_sem, hk_len, fgt_refl]; exact hbl8 _) ?_
   intro i hi
   by_cases hid : i < d9.length
   ·have wi : IntKind.i64.wrap ((i : Int) + 1) = i + 1 := wrap64 (by omega) (by omega)
    have hsn : ((m2, m3) ∈ d9.take (i + 1)) ↔ ((m2, m3) ∈ d9.take i ∨ d9[i] = (m2, m3)) := by
     rw [List.take_succ_eq_append_getElem hid, List.mem_append, List.mem_singleton]
     exact or_congr Iff.rfl eq_comm
    obtain ⟨⟨u, v⟩, hx⟩ : ∃ x, d9[i] = x := ⟨_, rfl⟩
    rw [hx] at hsn
    have dkk : decide (k + 2 + 3 = k) = false := decide_eq_false (by omega)
    by_cases hin : (m2, m3) ∈ d9.take i
    ·have hd1 : decide ((m2, m3) ∈ d9.take (i + 1)) = true := decide_eq_true (hsn.2 (.inl hin))
     simp [go_sem, fgt_refl, hid, hx, hin, wi, dkk, hP0, hk_ag3, hk_ag4, hk_a1, hk_a2, hk_a0, hk_len, hk_g1, hk_g0, hk_ag0, hk_ag1, hk_ag2, hk_a20, hk_a5, hk_aput2, hk_aput20]
     refine ⟨by decide +kernel, i + 1, ⟨⟨hsn.2 (.inl hin), by omega⟩, hbl8 _⟩, by omega, by omega⟩
    ·have hd1 : decide ((m2, m3) ∈ d9.take (i + 1)) = (u == m2 && v == m3) := by
      rw [Bool.eq_iff_iff]
      simp only [decide_eq_true_eq, Bool.and_eq_true, beq_iff_eq]
      rw [hsn, Prod.mk.injEq]
      exact ⟨fun h => h.resolve_left hin, .inr⟩
     simp [go_sem, fgt_refl, hid, hx, hin, wi, dkk, hP0, hk_ag3, hk_ag4, hk_a1, hk_a2, hk_a0, hk_len, hk_g1, hk_g0, hk_ag0, hk_ag1, hk_ag2, hk_a20, hk_a5, hk_aput2, hk_aput20]
     refine ⟨by decide +kernel, i + 1, ⟨⟨hd1.symm, by omega⟩, hbl8 _⟩, by omega, by omega⟩
   ·obtain rfl : i = d9.length := by omega
    rw [List.take_length]
    simp [go_sem, fgt_refl, hP0, hk_ag3, hk_ag4, hk_a1, hk_a2, hk_a0, hk_len, hk_g1, hk_g0, hk_ag0, hk_ag1, hk_ag2, hk_a20, hk_a5, hk_aput2, hk_aput20]
    exact hbl8 _
  rintro _ _
  refine IWp.seqI ?_
  by_cases hin : (m2, m3) ∈ d9
  case neg =>
   rw [if_pos hin] at hck
   simp [go_sem, hin, e1, ha, hAl, hqn, hqd, hP0, hk_ag3, hk_ag4, hk_a1, hk_a2, hk_a0, hk_len, hk_g1, hk_g0, hk_ag0, hk_ag1, hk_ag2, hk_a20, hk_a5, hk_aput2, hk_aput20]
   rw [hQ]
   simp [go_sem]
   exact bad _ _ hck
  rw [if_neg (by simp [hin])] at hck
  have cf := find39_fun E m1 (m2, m3) (by omega)
  simp [go_sem, hin]
  refine IWp.seq ?_
  refine IWp.seqI ?_
  simp [go_sem, hP0, hk_ag3, hk_ag4, hk_a1, hk_a2, hk_a0, hk_len, hk_g1, hk_g0, hk_ag0, hk_ag1, hk_ag2, hk_a20, hk_a5, hk_aput2, hk_aput20]
  refine cf.callF (by simp [go_sem, hP0, hk_ag3, hk_ag4, hk_a1, hk_a2, hk_a0, hk_len, hk_g1, hk_g0, hk_ag0, hk_ag1, hk_ag2, hk_a20, hk_a5, hk_aput2, hk_aput20]) ?_
  rintro _ rfl
  simp [go_sem]
  cases hfs : (fnd E m1 (m2, m3)).isSome with
  | true =>
   rw [if_pos hfs] at hck
   refine IWp.now ?_
   simp [go_sem, hfs, e1, ha, hAl, hqn, hqd, hP0, hk_ag3, hk_ag4, hk_a1, hk_a2, hk_a0, hk_len, hk_g1, hk_g0, hk_ag0, hk_ag1, hk_ag2, hk_a20, hk_a5, hk_aput2, hk_aput20]
   rw [hQ]
   simp [go_sem]
   exact bad _ _ hck
  | false =>
   rw [if_neg (by simp [hfs])] at hck
   have wq : IntKind.i64.wrap ((q : Int) + 1) = q + 1 := wrap64 (by omega) (by omega)
   refine IWp.now ?_
   simp [go_sem, hfs]
   refine IWp.now ?_
   simp [go_sem, hP0, hk_ag3, hk_ag4, hk_a1, hk_a2, hk_a0, hk_len, hk_g1, hk_g0, hk_ag0, hk_ag1, hk_ag2, hk_a20, hk_a5, hk_aput2, hk_aput20]
   refine ⟨by omega, ?_⟩
   refine IWp.now ?_
   simp [go_sem, wq, hk_len]
   refine ⟨q + 1, E ++ [⟨m1, m2, m3, m4⟩], ⟨⟨by simp, by omega⟩, ?_, ?_⟩, ⟨by omega, by simp [hEl], ?_, ?_⟩, by omega⟩
   ·rw [ems_snoc]
    have := fgt_append (hk k (.rows 4 [[.int .i64 p.t, .int .i64 p.r, .int .i64 p.b, .fz 1 (ints p.s)]]) (.rows 1 (nts A ++ jk dd)) ++ [.rows 4 (ems E ++ [[.int .i64 m1, .int .i64 m2, .int .i64 m3, .int .i64 m4]])]) [.rows 4 [[.int .i64 m1, .int .i64 m2, .int .i64 m3, .int .i64 m4]], .rows 2 [[.int .i64 m2, .int .i64 m3]], .rows 4 [[.int .i64 m1, .int .i64 m2, .int .i64 m3, .int .i64 m4]]]
    simpa using this
   ·exact hbl8 _
   ·exact hck
   ·intro x hx
    rcases List.mem_append.1 hx with hx | hx
    ·exact hEm x hx
    ·rw [List.mem_singleton.1 hx]; exact hmr
 ·have hqn2 : q = n := by omega
  rw [List.drop_of_length_le (by omega)] at hck
  unfold chkF at hck
  rw [← hX0]
  refine IWp.seqI ?_
  simp [go_sem, hqn, hqn2, hAl, hP0, hk_ag3, hk_ag4, hk_a1, hk_a2, hk_a0, hk_len, hk_g1, hk_g0, hk_ag0, hk_ag1, hk_ag2, hk_a20, hk_a5, hk_aput2, hk_aput20]
  rw [hQ]
  simp [go_sem]
  refine IWp.now ?_
  simp [go_sem]
  exact fin _ _ _ hck (by simp [go_sem])
end Go.Idl
