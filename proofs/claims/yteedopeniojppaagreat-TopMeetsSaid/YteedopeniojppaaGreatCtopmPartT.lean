/-
  Package field: keys compared; slices.SortFunc at keys.
  Package field: the keys of a session.
-/
import Derived.Test.YteedopeniojppaaGreatCtopmPartB
import Derived.Test.YteedopeniojppaaGreatIdlPartM
import Derived.Test.YteedopeniojppaaGreatIdlPartJ
import Derived.Test.YteedopeniojppaaGreatCtopmPartO
import Derived.Test.YteedopeniojppaaGreatIdlPartK
namespace Go.Idl
set_option linter.all false
open Go.Proofs Go.Sort
set_option maxHeartbeats 16000000
set_option maxRecDepth 40000

structure Ky where
  r : Int
  t : Int
  b : Int
deriving Inhabited
theorem Ky.ext {x y : Ky} (h1 : x.r = y.r) (h2 : x.t = y.t) (h3 : x.b = y.b) : x = y := by cases x; cases y; simp_all
def ecK (x : Ky) : List Int := [x.r, x.t, x.b]
def cfK (x y : Ky) : Int := if cmpI x.r y.r = 0 then (if cmpI x.t y.t = 0 then cmpI x.b y.b else cmpI x.t y.t) else cmpI x.r y.r
def lexK (x y : Ky) : Prop := x.r < y.r ∨ x.r = y.r ∧ (x.t < y.t ∨ x.t = y.t ∧ x.b < y.b)
instance (x y : Ky) : Decidable (lexK x y) := inferInstanceAs (Decidable (_ ∨ _))
theorem cmpI_cases (a b : Int) : (a < b ∧ cmpI a b = -1) ∨ (a = b ∧ cmpI a b = 0) ∨ (b < a ∧ cmpI a b = 1) := by
  unfold cmpI
  by_cases h1 : a < b
  · exact .inl ⟨h1, by rw [if_pos h1]⟩
  · by_cases h2 : b < a
    · exact .inr (.inr ⟨h2, by rw [if_neg h1, if_pos h2]⟩)
    · exact .inr (.inl ⟨by omega, by rw [if_neg h1, if_neg h2]⟩)
theorem ltK (x y : Ky) : ltOf cfK x y = decide (lexK x y) := by
  have key : (cfK x y < 0) ↔ lexK x y := by
    unfold cfK
    rcases cmpI_cases x.r y.r with ⟨h1, e1⟩ | ⟨h1, e1⟩ | ⟨h1, e1⟩
    · rw [e1, if_neg (by decide)]
      exact ⟨fun _ => .inl h1, fun _ => by decide⟩
    · rw [e1, if_pos rfl]
      rcases cmpI_cases x.t y.t with ⟨h2, e2⟩ | ⟨h2, e2⟩ | ⟨h2, e2⟩
      · rw [e2, if_neg (by decide)]
        exact ⟨fun _ => .inr ⟨h1, .inl h2⟩, fun _ => by decide⟩
      · rw [e2, if_pos rfl]
        unfold lexK
        rcases cmpI_cases x.b y.b with ⟨h3, e3⟩ | ⟨h3, e3⟩ | ⟨h3, e3⟩ <;> rw [e3] <;> omega
      · rw [e2, if_neg (by decide)]
        unfold lexK
        omega
    · rw [e1, if_neg (by decide)]
      unfold lexK
      omega
  unfold ltOf
  exact decide_eq_decide.2 key
theorem ltK_t {p q : Ky} : ltOf cfK p q = true ↔ lexK p q := by rw [ltK]; simp
theorem ltK_f {p q : Ky} : ltOf cfK p q = false ↔ ¬ lexK p q := by rw [ltK]; simp
theorem swoK : SWO (ltOf cfK) where
  irrefl x := by rw [ltK_f]; unfold lexK; omega
  trans x y z h1 h2 := by rw [ltK_t] at h1 h2 ⊢; unfold lexK at *; omega
  ntrans x y z h1 h2 := by rw [ltK_f] at h1 h2 ⊢; unfold lexK at *; omega
theorem totK (x y : Ky) (h1 : ltOf cfK x y = false) (h2 : ltOf cfK y x = false) : x = y := by
  rw [ltK_f] at h1 h2
  unfold lexK at h1 h2
  exact Ky.ext (by omega) (by omega) (by omega)
def leK (x y : Ky) : Bool := !ltOf cfK y x
theorem leK_iff {x y : Ky} : leK x y = true ↔ ¬ lexK y x := by unfold leK; rw [ltK]; simp
theorem sortK_lex {Z : List Ky} (hn : Z.Nodup) : (Z.mergeSort leK).Pairwise lexK ∧ ∀ p, p ∈ Z.mergeSort leK ↔ p ∈ Z := by
  have hp := List.mergeSort_perm Z leK
  refine ⟨?_, fun p => hp.mem_iff⟩
  have h1 := List.pairwise_mergeSort (le := leK) (fun a b c h1 h2 => by rw [leK_iff] at h1 h2 ⊢; unfold lexK at *; omega) (fun a b => by
    by_cases h : leK a b = true
    · simp [h]
    · have : leK b a = true := by rw [leK_iff] at h ⊢; unfold lexK at *; omega
      simp [this]) Z
  have h2 : (Z.mergeSort leK).Nodup := hp.symm.nodup hn
  refine (List.Pairwise.and h1 h2).imp fun {a b} h => ?_
  have h3 := leK_iff.1 h.1
  have hne := h.2
  by_cases e : a.r = b.r
  · by_cases e2 : a.t = b.t
    · have : a.b ≠ b.b := fun e3 => hne (Ky.ext e e2 e3)
      unfold lexK at *; omega
    · unfold lexK at *; omega
  · unfold lexK at *; omega
theorem or3_fun (a b c : Int) : IFun true Tryz.prog [] 36 [.fz 1 [[.int .i64 a], [.int .i64 b], [.int .i64 c]]] (fun v => v = .int .i64 (if a = 0 then (if b = 0 then c else b) else a)) := by
  refine IFun.of_bodyZ false 6 [6, 7, 8, 9, 14] Tryz.func36 rfl Tryz.call36 rfl fun R hR => ?_
  have w1 : IntKind.i64.wrap 1 = 1 := by decide
  have w2 : IntKind.i64.wrap 2 = 2 := by decide
  have w3 : IntKind.i64.wrap 3 = 3 := by decide
  simp [go_sem]
  refine IWp.loopT (α := Nat) (fun i => (⟨false, 18, 6, [6, 7, 8, 9, 14], [], [(3, .int .i64 0), (6, .fz 1 [[.int .i64 a], [.int .i64 b], [.int .i64 c]]), (7, .int .i64 3), (8, .int .i64 (i : Int))], []⟩, []))
    (fun i => i ≤ 3 ∧ (0 < i → a = 0) ∧ (1 < i → b = 0) ∧ (2 < i → c = 0)) (fun i => 3 - i) 0 (by simp) (by simp [go_sem]) ?_
  rintro i ⟨hi, h1, h2, h3⟩
  rcases (by omega : i = 0 ∨ i = 1 ∨ i = 2 ∨ i = 3) with rfl | rfl | rfl | rfl
  · by_cases h : a = 0
    · simp [go_sem, h, w1]
      exact ⟨1, by simp, by simp [h], by omega⟩
    · rw [if_neg h] at hR
      simp [go_sem, h]
      exact hR _ _ _ rfl (by simp [go_sem])
  · have ha := h1 (by omega)
    by_cases h : b = 0
    · simp [go_sem, h, w2]
      exact ⟨2, by simp, by simp [h, ha], by omega⟩
    · rw [if_pos ha, if_neg h] at hR
      simp [go_sem, h]
      exact hR _ _ _ rfl (by simp [go_sem])
  · have ha := h1 (by omega)
    have hb := h2 (by omega)
    rw [if_pos ha, if_pos hb] at hR
    by_cases h : c = 0
    · simp [go_sem, h, w3]
      exact ⟨3, by simp, by simp [h, ha, hb], by omega⟩
    · simp [go_sem, h]
      exact hR _ _ _ rfl (by simp [go_sem])
  · rw [if_pos (h1 (by omega)), if_pos (h2 (by omega)), h3 (by omega)] at hR
    simp [go_sem]
    exact hR _ _ _ rfl (by simp [go_sem])
theorem cmpKeys_fun (x y : Ky) : IFun true Tryz.prog [] 19 [.agg (rowI ecK x), .agg (rowI ecK y)] (fun v => v = .int .i64 (cfK x y)) := by
  refine IFun.of_bodyZ false 5 [] Tryz.func19 rfl Tryz.call19 rfl fun R hR => ?_
  obtain ⟨a, b, c⟩ := x
  obtain ⟨d, e, f⟩ := y
  have c1 := cmpI_fun a d
  have c2 := cmpI_fun b e
  have c3 := cmpI_fun c f
  have c4 := or3_fun (cmpI a d) (cmpI b e) (cmpI c f)
  simp only [rowI, ecK, List.map_cons, List.map_nil, cfK] at *
  generalize cmpI a d = u at *
  generalize cmpI b e = v at *
  generalize cmpI c f = w at *
  simp [go_sem]
  refine Drawn.intro (fun k => if k = 4 then .int .i64 u else if k = 9 then .int .i64 v else if k = 14 then .int .i64 w else if k = 16 then .int .i64 (if u = 0 then (if v = 0 then w else v) else u) else .tup []) ?_
  simp [go_sem, c1, c2, c3, c4]
  refine ⟨by decide +kernel, ?_⟩
  exact hR _ _ _ rfl (by simp [go_sem])
theorem sortKeysFn : SortFn Tryz.prog 18 19 ecK 3 leK :=
  sortFn_of Tryz.sortKeys Tryz.isAgg39 Tryz.sizeOf39 (fun _ => rfl) swoK totK Tryz.call19 cmpKeys_fun
theorem sortKeys0 : SortFn0 Tryz.prog 18 := sortFn0_of Tryz.sortKeys
end Go.Idl
namespace Go.Idl
set_option linter.all false
open Go.Proofs Go.Sort
set_option maxHeartbeats 16000000
set_option maxRecDepth 40000

def keyAt (B : Int) (x : Rw) (i : Nat) : Ky := ⟨x.r, x.t, x.s * B + i + 1⟩
def keysRow (B : Int) (x : Rw) : List Ky := if x.ns ≤ 0 ∨ x.ew ≤ 0 then [] else (List.range B.toNat).map (keyAt B x)
def keysL (B : Int) (L : List Rw) : List Ky := L.flatMap (keysRow B)
def keysS (B : Int) (L : List Rw) : List Ky := (keysL B L).mergeSort leK
def kR (Z : List Ky) : List (List IV) := mp (rowI ecK) Z
@[simp] theorem kR_length {Z : List Ky} : (kR Z).length = Z.length := by simp [kR, mp]
theorem kR_snoc {Z : List Ky} {x : Ky} : kR (Z ++ [x]) = kR Z ++ [[.int .i64 x.r, .int .i64 x.t, .int .i64 x.b]] := by simp [kR, mp, rowI, ecK]
@[go_sem] theorem kR_sc {P : List Ky} : ScR (kR P) = True := eq_true (mp_sc (by simp [scal, rowI, ecK]))
@[go_sem] theorem kR_cl {P : List Ky} : ClR (kR P) = True := eq_true (ScR.cl (mp_sc (by simp [scal, rowI, ecK])))
@[go_sem] theorem kR_bl {n : Nat} {P : List Ky} : BlR n (kR P) = True := eq_true (ScR.bl (mp_sc (by simp [scal, rowI, ecK])))
theorem keysL_snoc (B : Int) (L : List Rw) (i : Nat) (h : i < L.length) : keysL B (L.take (i + 1)) = keysL B (L.take i) ++ keysRow B L[i] := by
  unfold keysL
  rw [List.take_succ_eq_append_getElem h, List.flatMap_append]
  simp
theorem keysRow_len (B : Int) (x : Rw) : (keysRow B x).length ≤ B.toNat := by
  unfold keysRow
  split <;> simp
theorem keysL_len (B : Int) : ∀ L : List Rw, (keysL B L).length ≤ L.length * B.toNat
  | [] => by simp [keysL]
  | x :: L => by
    have h1 := keysL_len B L
    have h2 := keysRow_len B x
    unfold keysL at *
    simp only [List.flatMap_cons, List.length_append, List.length_cons]
    rw [Nat.add_mul]
    omega
theorem keys_fun (m : Mv) (B : Int) (hE : sesE m B = 0) (hB : 1 ≤ B ∧ B ≤ 128) (hl : m.rows.length ≤ 2 ^ 15) (hs : ∀ x ∈ m.rows, 0 ≤ x.s ∧ x.s ≤ 1000) : FN 5 [sesV m B] (fun v => v = .tup [.fz 3 (kR (keysS B m.rows)), .int .i64 0]) := by
  refine IFun.of_bodyW false 9 [12, 16, 17, 18, 19, 29, 31, 32, 33] Tryz.func5 rfl Tryz.call5 rfl fun R hR => ?_
  have cs := session_fun m B
  rw [hE] at cs
  obtain ⟨tb, ro, se, co, wi, L⟩ := m
  simp only [sesV] at *
  refine IWp.seqI ?_
  simp [go_sem]
  refine IWp.seqI ?_
  simp [go_sem]
  refine cs.callF (by simp [go_sem]) ?_
  rintro _ rfl
  simp [go_sem]
  refine IWp.seqI ?_
  simp [go_sem]
  refine IWp.ownNilS 3 5 (by decide) rfl ?_
  simp [go_sem]
  refine IWp.seq ?_
  refine IWp.seqI ?_
  simp [go_sem]
  refine IWp.block ?_
  refine IWp.loopI (α := Nat) (fun i => (⟨false, 56, 9, [12, 16, 17, 18, 19, 29, 31, 32, 33], [], [(1, .ptr 0 1 0 0), (5, .sl 1 (keysL B (L.take i)).length 0 (keysL B (L.take i)).length none), (16, .fz 5 (rws L)), (17, .int .i64 L.length), (18, .int .i64 (i : Int))], []⟩, [.rows 7 [[.int .i64 tb, .int .i64 ro, .int .i64 se, .int .i64 co, .int .i64 wi, .fz 5 (rws L), .int .i64 B]], .rows 3 (kR (keysL B (L.take i)))]))
    (fun i => i ≤ L.length) (fun i => L.length - i) 0 (by simp) (by simp [go_sem, keysL, kR, mp]) ?_
  intro i hi
  refine IWp.shut fun Q hQ => ?_
  refine IWp.seqI ?_
  simp [go_sem]
  refine IWp.seq ?_
  by_cases h : i < L.length
  · have v1 : IntKind.i64.wrap ((i : Int) + 1) = ((i + 1 : Nat) : Int) := by rw [wrap64 (by omega) (by omega)]; omega
    have hx := hs _ (List.getElem_mem h)
    have hsn := keysL_snoc B L i h
    have hKl : (keysL B (L.take i)).length ≤ 2 ^ 15 * 128 := by
      have h1 := keysL_len B (L.take i)
      have h2 : (L.take i).length * B.toNat ≤ 2 ^ 15 * 128 := Nat.mul_le_mul (by rw [List.length_take]; omega) (by omega)
      omega
    obtain ⟨x, hxe⟩ : ∃ x, L[i] = x := ⟨_, rfl⟩
    rw [hxe] at hx hsn
    obtain ⟨K, hK⟩ : ∃ K, keysL B (L.take i) = K := ⟨_, rfl⟩
    rw [hK] at hKl hsn
    simp only [hK]
    obtain ⟨r, t, ns, ew, s⟩ := x
    simp only at hx
    refine IWp.now ?_
    simp [go_sem, h]
    refine IWp.seq ?_
    refine IWp.block ?_
    refine IWp.seqI ?_
    simp [go_sem, h, hxe, Rw.c]
    refine IWp.seqI ?_
    by_cases hz : ns ≤ 0 ∨ ew ≤ 0
    · have hr0 : keysRow B ⟨r, t, ns, ew, s⟩ = [] := if_pos hz
      rw [hr0, List.append_nil] at hsn
      subst hQ
      by_cases hn : ns ≤ 0
      · simp [go_sem, hn]
        refine IWp.now ?_
        simp [go_sem]
        exact ⟨i + 1, ⟨⟨by rw [hsn], v1⟩, by rw [hsn]⟩, by omega, by omega⟩
      · have hw : ew ≤ 0 := by omega
        simp [go_sem, hn, hw]
        refine IWp.now ?_
        simp [go_sem]
        exact ⟨i + 1, ⟨⟨by rw [hsn], v1⟩, by rw [hsn]⟩, by omega, by omega⟩
    · have hn : ¬ ns ≤ 0 := by omega
      have hw : ¬ ew ≤ 0 := by omega
      have hr0 : keysRow B ⟨r, t, ns, ew, s⟩ = (List.range B.toNat).map (keyAt B ⟨r, t, ns, ew, s⟩) := if_neg hz
      simp [go_sem, hn, hw]
      obtain ⟨b, hb⟩ : ∃ b : Nat, B = b := ⟨B.toNat, by omega⟩
      subst hb
      obtain ⟨sn, hsn2⟩ := Int.eq_ofNat_of_zero_le hx.1
      subst hsn2
      have hmul : sn * b ≤ 1000 * 128 := Nat.mul_le_mul (by omega) (by omega)
      obtain ⟨mu, hmu⟩ : ∃ mu, sn * b = mu := ⟨_, rfl⟩
      have hmuI : (sn : Int) * (b : Int) = (mu : Int) := by rw [← hmu]; exact (Int.natCast_mul _ _).symm
      rw [hmu] at hmul
      have w1 : IntKind.i64.wrap (mu : Int) = mu := wrap64 (by omega) (by omega)
      refine IWp.seqI ?_
      simp [go_sem]
      refine IWp.block ?_
      refine IWp.loopT (α := Nat × List Ky) (fun p => (⟨false, 56, 9, [12, 16, 17, 18, 19, 29, 31, 32, 33], [], [(1, .ptr 0 1 0 0), (5, .sl 1 p.2.length 0 p.2.length none), (7, .ptr 2 1 0 0), (16, .fz 5 (rws L)), (17, .int .i64 L.length), (18, .int .i64 (i : Int)), (31, .int .i64 (b : Int)), (32, .int .i64 (p.1 : Int))], []⟩, [.rows 7 [[.int .i64 tb, .int .i64 ro, .int .i64 se, .int .i64 co, .int .i64 wi, .fz 5 (rws L), .int .i64 (b : Int)]], .rows 3 (kR p.2), .rows 5 [[.int .i64 r, .int .i64 t, .int .i64 ns, .int .i64 ew, .int .i64 (sn : Int)]]]))
        (fun p => p.1 ≤ b ∧ p.2 = K ++ (List.range p.1).map (keyAt b ⟨r, t, ns, ew, sn⟩)) (fun p => b - p.1) (0, K) (by simp) (by simp [go_sem]) ?_
      rintro ⟨k, Z⟩ ⟨hk, hZ⟩
      simp only at hk hZ
      by_cases hkb : k < b
      · have hZl : Z.length = K.length + k := by rw [hZ]; simp
        have w2 : IntKind.i64.wrap ((mu : Int) + k) = ((mu + k : Nat) : Int) := by rw [wrap64 (by omega) (by omega)]; omega
        have w3 : IntKind.i64.wrap ((mu : Int) + k + 1) = ((mu + k + 1 : Nat) : Int) := by rw [wrap64 (by omega) (by omega)]; omega
        have w4 : IntKind.i64.wrap ((k : Int) + 1) = ((k + 1 : Nat) : Int) := by rw [wrap64 (by omega) (by omega)]; omega
        have g1 := kR_snoc (Z := Z) (x := ⟨r, t, ((mu : Int) + k + 1)⟩)
        have g2 : Z ++ [⟨r, t, ((mu : Int) + k + 1)⟩] = K ++ (List.range (k + 1)).map (keyAt b ⟨r, t, ns, ew, sn⟩) := by
          rw [hZ, List.range_succ, List.map_append, ← List.append_assoc]
          simp [keyAt, hmuI]
        simp only at g1
        simp [go_sem, hkb, hmuI, w1, w2, w3]
        exact ⟨by omega, k + 1, _, ⟨⟨by rw [List.length_append]; rfl, w4⟩, g1⟩, ⟨by omega, g2⟩, by omega⟩
      · obtain rfl : k = b := by omega
        have hZ2 : Z = keysL k (L.take (i + 1)) := by rw [hsn, hr0, hZ, Int.toNat_natCast]
        simp [go_sem]
        subst hQ
        refine IWp.now ?_
        simp [go_sem]
        exact ⟨i + 1, ⟨⟨by rw [hZ2], v1⟩, by rw [hZ2]⟩, by omega, by omega⟩
  · subst hQ
    obtain rfl : i = L.length := by omega
    rw [List.take_length]
    refine IWp.now ?_
    simp [go_sem]
    have hKl : (keysL B L).length ≤ 2 ^ 15 * 128 := by
      have h1 := keysL_len B L
      have h2 : L.length * B.toNat ≤ 2 ^ 15 * 128 := Nat.mul_le_mul (by omega) (by omega)
      omega
    have hms : ((keysL B L).mergeSort leK).length = (keysL B L).length := List.length_mergeSort _
    refine IWp.now ?_
    simp [go_sem]
    refine ICalls.sortK (zs := keysL B L) (b := 1) sortKeysFn sortKeys0 (fun _ => rfl) Tryz.call18 (by simp [kR]) rfl (by omega) ?_
    unfold keysS at hR
    rw [show mp (rowI ecK) ((keysL B L).mergeSort leK) = kR ((keysL B L).mergeSort leK) from rfl, ← hms]
    simp [go_sem]
    exact hR _ _ _ rfl (by simp [go_sem])
end Go.Idl
