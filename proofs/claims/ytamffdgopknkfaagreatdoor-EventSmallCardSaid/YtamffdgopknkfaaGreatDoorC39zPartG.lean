import Derived.Test.YtamffdgopknkfaaGreatDoorC39zPartF
set_option linter.all false
set_option maxHeartbeats 8000000
set_option maxRecDepth 40000
namespace Go.Idl
section
variable {α : Type} [DecidableEq α] {ok : α → α → Bool}
theorem wo_nodup {b : α} {l : List α} (h : l.Nodup) : (wo b l).Nodup := h.filter _
theorem wo_not {b : α} {l : List α} (h : b ∉ l) : wo b l = l := by
 unfold wo; rw [List.filter_eq_self]; intro x hx; simp; exact fun e => h (e ▸ hx)
theorem wo_cons_ne {a b : α} {l : List α} (h : a ≠ b) : wo b (a :: l) = a :: wo b l := by
 unfold wo; rw [List.filter_cons]; simp [h]
theorem wo_cons_eq {b : α} {l : List α} : wo b (b :: l) = wo b l := by
 unfold wo; rw [List.filter_cons]; simp
theorem wo_length {b : α} : ∀ {l : List α}, l.Nodup → b ∈ l → (wo b l).length + 1 = l.length
 | [], _, h => by cases h
 | a :: l, hn, h => by
  rw [List.nodup_cons] at hn
  by_cases e : a = b
  ·subst e; rw [wo_cons_eq, wo_not hn.1]; rfl
  ·rw [wo_cons_ne e, List.length_cons, List.length_cons, wo_length hn.2 ((List.mem_cons.1 h).resolve_left (fun e2 => e e2.symm))]
theorem mem_drs {a : α} {rest : List α} (h : rest.Nodup) {d : List (α × α)} : d ∈ drs ok (a :: rest) ↔ ∃ b d', d = (a, b) :: d' ∧ b ∈ rest ∧ ok a b = true ∧ d' ∈ drs ok (wo b rest) := by
 rw [drs_nodup a h]
 simp only [dJ, List.mem_flatMap, List.mem_filter, List.mem_map]
 constructor
 ·rintro ⟨b, ⟨h1, h2⟩, d', h3, rfl⟩; exact ⟨b, d', rfl, h1, h2, h3⟩
 ·rintro ⟨b, d', rfl, h1, h2, h3⟩; exact ⟨b, ⟨h1, h2⟩, d', h3, rfl⟩
end
end Go.Idl
namespace Go.Idl
open Go.Proofs
def smM (g : Nat → Nat) (m : Nat) : Bool := decide (0 < cntM g m)
def enB (S : List (Nat × Bool)) : List (IV × IV) := enM (fun k : Nat => .int .u32 (k : Int)) (fun v : Bool => .bool v) S
def MemoB (g : Nat → Nat) (S : List (Nat × Bool)) : Prop := ∀ m v, aget m S = some v → v = smM g m
def smH (teams : List Int) (g : Nat → Nat) (S : List (Nat × Bool)) : Heap :=
 [.rows 1 [[.fptr 17 [tbR teams g] 0 0]], .map (enB S), .rows 1 [[.map 1]], .rows 1 [[.func (.func 123) [] [.ptr 2 1 0 0, .ptr 0 1 0 0, .ptr 3 1 0 0]]]]
def smF : IV := .func (.func 123) [] [.ptr 2 1 0 0, .ptr 0 1 0 0, .ptr 3 1 0 0]
theorem drawn_calls (teams : List Int) (g : Nat → Nat) : ICalls Tryz.prog glT 110 [.fptr 17 [tbR teams g] 0 0] [] (fun v σ => v = smF ∧ σ = smH teams g [(0, true)]) := by
 refine ICalls.of_bodyE false 5 [] Tryz.func110 rfl Tryz.call110 rfl fun R hR => ?_
 simp [go_sem]
 exact hR _ _ ⟨rfl, rfl⟩
theorem mget_b (m : Nat) (S : List (Nat × Bool)) : mget (.int .u32 (m : Int)) (enB S) = (aget m S).map fun v : Bool => .bool v := mget_en (kf := fun k : Nat => .int .u32 (k : Int)) ku32 m S
theorem mset_b (m : Nat) (v : Bool) (S : List (Nat × Bool)) : mset (.int .u32 (m : Int)) (.bool v) (enB S) = enB (aset m v S) := mset_en (kf := fun k : Nat => .int .u32 (k : Int)) (vf := fun v : Bool => .bool v) ku32 m v S
theorem ok_b (S : List (Nat × Bool)) : ∀ e ∈ enB S, keyOK Tryz.prog 66 [.int .u32] e.1 = true := en_ok (fun a => by simp [go_sem, keyOK]) S
@[go_sem] theorem bl_b {n : Nat} {S : List (Nat × Bool)} : BlM n (enB S) = True := eq_true (en_bl (fun a => by simp [go_sem]) (fun b => by simp [go_sem]) S)
theorem sum_pos {α : Type} {l : List α} {f : α → Nat} : decide (0 < (l.map f).sum) = l.any fun x => decide (0 < f x) := by
 induction l with
 | nil => rfl
 | cons a l ih =>
  rw [List.map_cons, List.sum_cons, List.any_cons, ← ih]
  by_cases h : 0 < f a
  ·simp [h]; omega
  ·have : f a = 0 := by omega
   simp [this]
theorem smM_rec {g : Nat → Nat} {m : Nat} (h0 : m ≠ 0) (h : m < 2 ^ 32) : smM g m = (bitsL ((m &&& (m - 1)) &&& g (tz m))).any fun b => smM g (anb (m &&& (m - 1)) (2 ^ b)) := by
 unfold smM
 rw [cntM_rec h0 h, sum_pos]
theorem smM_zero (g : Nat → Nat) : smM g 0 = true := by unfold smM; rw [cntM_zero]; rfl
theorem some_calls (teams : List Int) (g : Nat → Nat) (hn : teams.length ≤ 16) (hg : ∀ i, i < 16 → g i < 2 ^ 32) : ∀ (m : Nat), m < 2 ^ 16 → ∀ (S : List (Nat × Bool)) (τ : Heap), MemoB g S → aget 0 S = some true → HeBl (τ.length + 4) τ →
  ICalls Tryz.prog glT 123 [.int .u32 (m : Int), .ptr 2 1 0 0, .ptr 0 1 0 0, .ptr 3 1 0 0] (smH teams g S ++ τ) (fun v σ' => v = .bool (smM g m) ∧ ∃ S', (MemoB g S' ∧ aget 0 S' = some true) ∧ σ' = smH teams g S' ++ τ) := by
 intro m
 induction m using Nat.strongRecOn with
 | _ m ih =>
  intro hm S τ hS hS0 hτ
  refine ICalls.of_bodyE false 12 [18, 38] Tryz.func123 rfl Tryz.call123 rfl fun R hR => ?_
  have hok : ∀ (S : List (Nat × Bool)) (a b : IV), (a, b) ∈ enB S → keyOK Tryz.prog 66 [.int .u32] a = true := fun S a b h => ok_b S (a, b) h
  cases hk : aget m S with
  | some v =>
   have := hS m v hk
   simp [go_sem, smH, mget_b, hk]
   exact ⟨fun a b h => by simpa [go_sem] using hok S a b h, hR _ _ ⟨by rw [this], S, ⟨hS, hS0⟩, rfl⟩⟩
  | none =>
   have hm0 : m ≠ 0 := fun e => by subst e; rw [hS0] at hk; cases hk
   have hm32 : m < 2 ^ 32 := by omega
   have hrec := smM_rec (g := g) hm0 hm32
   have hrl : m &&& (m - 1) < m := Nat.lt_of_le_of_lt Nat.and_le_right (by omega)
   have htz := (tz_spec hm0 hm32)
   have htz16 : tz m < 16 := lt_of_bit hm htz.2.1
   simp [go_sem, smH, mget_b, hk]
   refine ⟨fun a b h => by simpa [go_sem] using hok S a b h, ?_⟩
   refine (split_fun m hm0 hm32).callF (by simp [go_sem]) ?_
   rintro _ rfl
   generalize tz m = a at *
   generalize m &&& (m - 1) = r at *
   have hr32 : r < 2 ^ 32 := by omega
   have ha := hg a htz16
   have e1 := u32_and hr32 ha
   obtain ⟨o0, ho0⟩ : ∃ o, r &&& g a = o := ⟨_, rfl⟩
   have ho32 : o0 < 2 ^ 32 := by rw [← ho0]; exact and_lt hr32
   rw [ho0] at e1 hrec
   simp [go_sem, tbR_at htz16, tbR_get htz16, e1]
   refine ⟨by omega, by omega, ?_⟩
   refine IWp.loopT (α := Nat × Bool × List (Nat × Bool)) (fun x => (⟨false, 55, 12, [18, 38], glT, [(0, .int .u32 (m : Int)), (1, .ptr 2 1 0 0), (3, .ptr 3 1 0 0), (9, .int .u32 (r : Int)), (10, .bool x.2.1), (11, .int .u32 (x.1 : Int))], []⟩, smH teams g x.2.2 ++ τ))
    (fun x => x.1 < 2 ^ 32 ∧ (x.2.1 || (bitsL x.1).any fun b => smM g (anb r (2 ^ b))) = smM g m ∧ MemoB g x.2.2 ∧ aget 0 x.2.2 = some true) (fun x => x.1) (o0, false, S) ⟨ho32, by simp [hrec], hS, hS0⟩ (by simp [go_sem, smH, hτ]) ?_
   rintro ⟨o, acc, S1⟩ ⟨ho, hsum, hS1, hS10⟩
   simp only at ho hsum hS1 hS10
   have fin : acc = smM g m → ∀ m' v, aget m' (aset m acc S1) = some v → v = smM g m' := fun e m' v hv => by
    rw [aget_aset] at hv
    split at hv
    ·rename_i e2; subst e2; rw [← Option.some.inj hv]; exact e
    ·exact hS1 m' v hv
   have fin0 : aget 0 (aset m acc S1) = some true := by rw [aget_aset, if_neg (fun e => hm0 e.symm)]; exact hS10
   by_cases h0 : o = 0
   ·subst h0
    rw [bitsL_zero, List.any_nil, Bool.or_false] at hsum
    simp [go_sem, smH]
    rw [mset_b]
    exact ⟨fun a b h => by simpa [go_sem] using hok S1 a b h, hR _ _ ⟨by rw [hsum], aset m acc S1, ⟨fin hsum, fin0⟩, rfl⟩⟩
   ·cases hacc : acc with
    | true =>
     rw [hacc, Bool.true_or] at hsum
     rw [hacc] at fin fin0
     simp [go_sem, smH, h0]
     rw [mset_b]
     exact ⟨fun a b h => by simpa [go_sem] using hok S1 a b h, hR _ _ ⟨by rw [hsum], aset m true S1, ⟨fin hsum, fin0⟩, rfl⟩⟩
    | false =>
     rw [hacc, Bool.false_or] at hsum
     have n1 := u32_neg h0 ho
     have n1' : IntKind.u32.wrap (-(o : Int)) = ((2 ^ 32 - o : Nat) : Int) := by rw [← n1]; simp
     obtain ⟨K, hK⟩ : ∃ K, 2 ^ 32 - o = K := ⟨_, rfl⟩
     have n2 := u32_and ho (b := K) (by omega)
     rw [← hK, low_bit h0 ho] at n2
     rw [hK] at n1 n1' n2
     have n3 := u32_pred h0 ho
     obtain ⟨L, hL⟩ : ∃ L, o - 1 = L := ⟨_, rfl⟩
     have n4 := u32_and ho (b := L) (by omega)
     have hcl := bitsL_clear h0 ho
     rw [hL] at n3 hcl
     have hlt : o &&& L < o := Nat.lt_of_le_of_lt Nat.and_le_right (by omega)
     obtain ⟨o2, ho2⟩ : ∃ o2, o &&& L = o2 := ⟨_, rfl⟩
     rw [ho2] at n4 hcl hlt
     rw [hcl, List.any_cons] at hsum
     have n5 : bitsOf .andNot .u32 (r : Int) ((2 ^ tz o : Nat) : Int) = ((anb r (2 ^ tz o) : Nat) : Int) := u32_andNot
     obtain ⟨P2, hP2⟩ : ∃ P2, 2 ^ tz o = P2 := ⟨_, rfl⟩
     rw [hP2] at n2 n5 hsum
     obtain ⟨q, hq⟩ : ∃ q, anb r P2 = q := ⟨_, rfl⟩
     rw [hq] at n5 hsum
     have hqm : q < m := by rw [← hq, ← hP2]; exact Nat.lt_of_le_of_lt (anb_le hr32) hrl
     simp [go_sem, smH, h0, n1, n1', n2, n5]
     refine (ih q hqm (by omega) S1 τ hS1 hS10 hτ).mono ?_
     rintro _ _ ⟨rfl, S2, ⟨hS2, hS20⟩, rfl⟩
     simp [go_sem, smH, n3, n4]
     cases hs : smM g q with
     | false => exact ⟨o2, .inl ⟨S2, ⟨⟨rfl, rfl⟩, rfl, hτ⟩, ⟨by omega, by simpa [hs] using hsum, hS2, hS20⟩, hlt⟩⟩
     | true => exact ⟨o2, .inr ⟨S2, ⟨⟨rfl, rfl⟩, rfl, hτ⟩, ⟨by omega, by simpa [hs] using hsum, hS2, hS20⟩, hlt⟩⟩
theorem cnt_head {g : Nat → Nat} {m : Nat} : smM g m = ((drs (okG g) (bitsL m)).head?).isSome := by
 unfold smM cntM cntL
 cases drs (okG g) (bitsL m) <;> simp
theorem memB0 {g : Nat → Nat} : MemoB g [(0, true)] := by
 intro m v h
 simp only [aget] at h
 split at h
 ·rename_i e; subst e; rw [smM_zero]; exact (Option.some.inj h).symm
 ·cases h
theorem first_calls (teams : List Int) (g : Nat → Nat) (hn : teams.length ≤ 16) (hg : ∀ i, i < 16 → g i < 2 ^ 32) (m : Nat) (hm : m < 2 ^ teams.length) (S : List (Nat × Bool)) (hS : MemoB g S) (hS0 : aget 0 S = some true) :
  ICalls Tryz.prog glT 111 [.fptr 17 [tbR teams g] 0 0, .int .u32 (m : Int), smF] (smH teams g S) (fun v σ' => ∃ S', (MemoB g S' ∧ aget 0 S' = some true) ∧
   (((drs (okG g) (bitsL m)).head? = none ∧ v = .tup [.nils, .bool false] ∧ σ' = smH teams g S') ∨
    ∃ D, (drs (okG g) (bitsL m)).head? = some D ∧ v = .tup [.sl 4 D.length 0 D.length none, .bool true] ∧ σ' = smH teams g S' ++ [.rows 2 (prs (asT teams D))])) := by
 refine ICalls.of_bodyE false 12 [15, 17, 32, 45] Tryz.func111 rfl Tryz.call111 rfl fun R hR => ?_
 have hp16 : 2 ^ teams.length ≤ 2 ^ 16 := Nat.pow_le_pow_right (by decide) hn
 simp [go_sem, smF, smH]
 refine (some_calls teams g hn hg m (by omega) S [] hS hS0 (by simp [go_sem])).mono ?_
 rintro _ _ ⟨rfl, S', ⟨hS', hS0'⟩, rfl⟩
 have hh := cnt_head (g := g) (m := m)
 cases hD : (drs (okG g) (bitsL m)).head? with
 | none =>
  rw [hD] at hh
  simp [go_sem, smH, hh]
  exact hR _ _ ⟨S', ⟨hS', hS0'⟩, .inl ⟨hD, rfl, rfl⟩⟩
 | some D =>
  rw [hD] at hh
  simp [go_sem, smH, hh]
  refine IWp.ownNilS 2 8 (by decide) (by simp [go_sem]) ?_
  simp only [go_sem]
  have hDl : D.length ≤ 16 := by
   have h2 := drs_len _ _ (Nat.le_refl _) D (List.mem_of_mem_head? hD)
   have h3 := bits_len (m := m) (n := 16) (by omega) (by decide)
   omega
  refine IWp.loopT (α := Nat × List (Nat × Nat) × List (Nat × Bool)) (fun x => (⟨false, 66, 12, [15, 17, 32, 45], glT, [(0, .fptr 17 [tbR teams g] 0 0), (1, .int .u32 (x.1 : Int)), (2, smF), (8, .sl 4 x.2.1.length 0 x.2.1.length none)], []⟩, smH teams g x.2.2 ++ [.rows 2 (prs (asT teams x.2.1))]))
   (fun x => x.1 < 2 ^ teams.length ∧ (∃ rest, (drs (okG g) (bitsL x.1)).head? = some rest ∧ x.2.1 ++ rest = D) ∧ (MemoB g x.2.2 ∧ aget 0 x.2.2 = some true)) (fun x => x.1) (m, [], S') ⟨hm, ⟨D, hD, rfl⟩, hS', hS0'⟩ (by simp [go_sem, smH, smF, asT]) ?_
  clear hh
  rintro ⟨m, acc, S⟩ ⟨hmn, ⟨rest, hrest, hacc⟩, hS, hS0⟩
  simp only at hmn hrest hacc hS hS0
  by_cases hm0 : m = 0
  ·subst hm0
   rw [bitsL_zero, drs_nil] at hrest
   have : rest = [] := by simpa using hrest.symm
   rw [this, List.append_nil] at hacc
   subst hacc
   simp [go_sem, smH]
   exact hR _ _ ⟨S, ⟨hS, hS0⟩, .inr ⟨acc, by assumption, rfl, rfl⟩⟩
  ·have hm32 : m < 2 ^ 32 := by omega
   have hrl : m &&& (m - 1) < m := Nat.lt_of_le_of_lt Nat.and_le_right (by omega)
   have htz := (tz_spec hm0 hm32)
   have htzn := lt_of_bit hmn htz.2.1
   have htz16 : tz m < 16 := by omega
   rw [bitsL_clear hm0 hm32] at hrest
   have hrnd := bitsL_nodup (m &&& (m - 1))
   rw [drs_nodup _ hrnd] at hrest
   simp [go_sem, smH, hm0]
   refine (split_fun m hm0 hm32).callF (by simp [go_sem]) ?_
   rintro _ rfl
   generalize tz m = a at *
   generalize m &&& (m - 1) = r at *
   have hr32 : r < 2 ^ 32 := by omega
   have ha := hg a htz16
   have e1 := u32_and hr32 ha
   have hb1 : (bitsL r).filter (okG g a) = bitsL (r &&& g a) := by rw [bitsL_and]; rfl
   rw [hb1] at hrest
   have hole : r &&& g a ≤ r := Nat.and_le_left
   obtain ⟨o0, ho0⟩ : ∃ o, r &&& g a = o := ⟨_, rfl⟩
   rw [ho0] at e1 hrest hole
   simp [go_sem, tbR_at htz16, tbR_get htz16, e1]
   refine ⟨by omega, by omega, ?_⟩
   refine IWp.loopT (α := Nat × List (Nat × Bool)) (fun x => (⟨false, 66, 12, [15, 17, 32, 45], glT, [(0, .fptr 17 [tbR teams g] 0 0), (2, smF), (8, .sl 4 acc.length 0 acc.length none), (9, .int .i64 (a : Int)), (10, .int .u32 (r : Int)), (11, .int .u32 (x.1 : Int))], []⟩, smH teams g x.2 ++ [.rows 2 (prs (asT teams acc))]))
    (fun x => x.1 < 2 ^ teams.length ∧ (∃ rest, (dJ (okG g) a (bitsL r) (bitsL x.1)).head? = some rest ∧ acc ++ rest = D) ∧ (MemoB g x.2 ∧ aget 0 x.2 = some true)) (fun x => x.1) (o0, S) ⟨by omega, ⟨rest, hrest, hacc⟩, hS, hS0⟩ (by simp [go_sem, smH, smF]) ?_
   clear hrest hacc hS hS0 rest
   rintro ⟨o, S1⟩ ⟨hon, ⟨rest, hrest, hacc⟩, hS1, hS10⟩
   simp only at hon hrest hacc hS1 hS10
   have ho32 : o < 2 ^ 32 := by omega
   by_cases h0 : o = 0
   ·subst h0
    rw [bitsL_zero, dJ_nil] at hrest
    simp at hrest
   ·have n1 := u32_neg h0 ho32
    have n1' : IntKind.u32.wrap (-(o : Int)) = ((2 ^ 32 - o : Nat) : Int) := by rw [← n1]; simp
    obtain ⟨K2, hK2⟩ : ∃ K, 2 ^ 32 - o = K := ⟨_, rfl⟩
    have n2 := u32_and ho32 (b := K2) (by omega)
    rw [← hK2, low_bit h0 ho32] at n2
    rw [hK2] at n1 n1' n2
    have n3 := u32_pred h0 ho32
    obtain ⟨L, hL⟩ : ∃ L, o - 1 = L := ⟨_, rfl⟩
    have n4 := u32_and ho32 (b := L) (by omega)
    have hcl := bitsL_clear h0 ho32
    rw [hL] at n3 hcl
    have hlt : o &&& L < o := Nat.lt_of_le_of_lt Nat.and_le_right (by omega)
    obtain ⟨o2, ho2⟩ : ∃ o2, o &&& L = o2 := ⟨_, rfl⟩
    rw [ho2] at n4 hcl hlt
    rw [hcl, dJ_cons] at hrest
    have n5 : bitsOf .andNot .u32 (r : Int) ((2 ^ tz o : Nat) : Int) = ((anb r (2 ^ tz o) : Nat) : Int) := u32_andNot
    have hbn := lt_of_bit hon (tz_spec h0 ho32).2.1
    have tzc := tz_fun o h0 ho32
    have hbq := bitsL_wo (r := r) (b := tz o) hr32
    obtain ⟨b, hb⟩ : ∃ b, tz o = b := ⟨_, rfl⟩
    rw [hb] at n2 n5 hrest hbn tzc hbq
    obtain ⟨P2, hP2⟩ : ∃ P2, 2 ^ b = P2 := ⟨_, rfl⟩
    have hqr : anb r (2 ^ b) ≤ r := anb_le hr32
    rw [hP2] at n2 n5 hbq hqr
    obtain ⟨q, hq⟩ : ∃ q, anb r P2 = q := ⟨_, rfl⟩
    rw [hq] at n5 hbq hqr
    rw [← hbq] at hrest
    have hcq := cnt_head (g := g) (m := q)
    have hal : acc.length ≤ 16 := by rw [← hacc] at hDl; simp at hDl; omega
    simp [go_sem, smH, smF, h0, n1, n1', n2, n5]
    refine (some_calls teams g hn hg q (by omega) S1 [.rows 2 (prs (asT teams acc))] hS1 hS10 (by simp [go_sem])).mono ?_
    rintro _ _ ⟨rfl, S2, ⟨hS2, hS20⟩, rfl⟩
    cases hs : smM g q with
    | true =>
     rw [hs] at hcq
     obtain ⟨rest', hr1⟩ := Option.isSome_iff_exists.1 hcq.symm
     have hr2 : rest = (a, b) :: rest' := by
      rw [List.head?_append, List.head?_map, hr1] at hrest
      simpa using hrest.symm
     simp [go_sem, smH]
     refine Drawn.intro (fun j => if j = 13 then .int .i64 (b : Int) else .tup []) ?_
     have ta : teams.getD a 0 = teams[a] := by simp [htzn]
     have tb : teams.getD b 0 = teams[b] := by simp [hbn]
     simp [go_sem, tzc, htzn, hbn, tbR]
     refine ⟨by omega, by decide +kernel, q, acc ++ [(a, b)], S2, ⟨⟨rfl, by simp⟩, rfl, ?_⟩, ⟨by omega, ⟨rest', hr1, ?_⟩, hS2, hS20⟩, by omega⟩
     ·rw [asT_snoc, prs_snoc, ta, tb]
     ·rw [← hacc, hr2]; simp
    | false =>
     rw [hs] at hcq
     have hnil : drs (okG g) (bitsL q) = [] := by
      cases hd : drs (okG g) (bitsL q) with
      | nil => rfl
      | cons x l => rw [hd] at hcq; simp at hcq
     rw [hnil, List.map_nil, List.nil_append] at hrest
     simp [go_sem, smH, n3, n4]
     exact ⟨o2, S2, ⟨rfl, rfl⟩, ⟨by omega, ⟨rest, hrest, hacc⟩, hS2, hS20⟩, hlt⟩
end Go.Idl
