/-
  Chapter 27: flags and keys for fair (plain).
  Chapter 27: fair.
-/
import Derived.Test.YtjmjdjdabmlgeaaC27PartB
import Derived.Test.YtjmjdjdabmlgeaaIdlPartG
import Derived.Test.YtjmjdjdabmlgeaaIdlPartK
namespace Go.Idl
set_option linter.all false
open Go.Proofs
set_option maxHeartbeats 4000000
set_option maxRecDepth 40000

/-- Flags, of which some are set. -/
def fl (n : Nat) (D : List Nat) : List (List IV) := ar n fun x => .bool (decide (x ∈ D))
@[go_sem] theorem BlR_fl {m n : Nat} {D : List Nat} : BlR m (fl n D) = True := BlR_ar_bool
@[go_sem] theorem ClR_fl {n : Nat} {D : List Nat} : ClR (fl n D) = True := ClR_ar_bool
@[go_sem] theorem ScR_fl {n : Nat} {D : List Nat} : ScR (fl n D) = True := ScR_ar_bool
@[simp] theorem fl_length {n : Nat} {D : List Nat} : (fl n D).length = n := by simp [fl, ar]
theorem fl_nil {n : Nat} : List.replicate n [IV.bool false] = fl n [] := by rw [ar_rep]; simp [fl]
@[go_sem] theorem fl_get {n : Nat} {D : List Nat} {i : Nat} (h : i < (fl n D).length) : (fl n D)[i] = [.bool (decide (i ∈ D))] := by simp [fl, ar]
theorem fl_at {n : Nat} {D : List Nat} {i : Nat} (h : i < n) : (fl n D)[i]?.getD [] = [.bool (decide (i ∈ D))] := by simp [fl, ar, h]
theorem fl_set {n : Nat} {D : List Nat} {b : Nat} : (fl n D).set b [.bool true] = fl n (b :: D) := by
  unfold fl
  rw [ar_set]
  congr 1
  funext x
  unfold upF
  by_cases h : x = b <;> simp [h]
/-- Numbers for what stands at the sets. -/
def cnts (n : Nat) (f : Nat → Int) : List (List IV) := ar n fun x => .int .i64 (f x)
@[go_sem] theorem BlR_cnts {m n : Nat} {f : Nat → Int} : BlR m (cnts n f) = True := BlR_ar_int
@[go_sem] theorem ClR_cnts {n : Nat} {f : Nat → Int} : ClR (cnts n f) = True := ClR_ar_int
@[go_sem] theorem ScR_cnts {n : Nat} {f : Nat → Int} : ScR (cnts n f) = True := ScR_ar_int
@[simp] theorem cnts_length {n : Nat} {f : Nat → Int} : (cnts n f).length = n := by simp [cnts, ar]
theorem cnts_nil {n : Nat} : List.replicate n [IV.int .i64 0] = cnts n fun _ => 0 := by rw [ar_rep]; simp [cnts]
@[go_sem] theorem cnts_get {n : Nat} {f : Nat → Int} {i : Nat} (h : i < (cnts n f).length) : (cnts n f)[i] = [.int .i64 (f i)] := by simp [cnts, ar]
theorem cnts_at {n : Nat} {f : Nat → Int} {i : Nat} (h : i < n) : (cnts n f)[i]?.getD [] = [.int .i64 (f i)] := by simp [cnts, ar, h]
theorem cnts_set {n : Nat} {f : Nat → Int} {b : Nat} {v : Int} : (cnts n f).set b [.int .i64 v] = cnts n fun x => if x = b then v else f x := by
  unfold cnts
  rw [ar_set, upF_int]
theorem key_inj {a s a' s' S : Int} (hs : 0 ≤ s ∧ s < S) (hs' : 0 ≤ s' ∧ s' < S) (h : a * S + s = a' * S + s') : a = a' ∧ s = s' := by
  have e1 : (a * S + s) / S = a := by rw [Int.add_comm, Int.add_mul_ediv_right _ _ (by omega), Int.ediv_eq_zero_of_lt hs.1 hs.2]; omega
  have e2 : (a' * S + s') / S = a' := by rw [Int.add_comm, Int.add_mul_ediv_right _ _ (by omega), Int.ediv_eq_zero_of_lt hs'.1 hs'.2]; omega
  have : a = a' := by rw [← e1, ← e2, h]
  subst this
  exact ⟨rfl, by omega⟩
/-- The rows of a movement, table by table. -/
structure Grid (T N : Nat) (L : List Rw) : Prop where
  len : L.length = N * T
  at' : ∀ i j, i < N → j < T → ∃ h : i * T + j < L.length, L[i * T + j].r = i ∧ L[i * T + j].t = j
  pos : ∀ x ∈ L, 1 ≤ x.ns ∧ 1 ≤ x.ew
theorem grid_lt {T N i j : Nat} (hi : i < N) (hj : j < T) : i * T + j < N * T := by
  have := Nat.mul_le_mul_right T (show i + 1 ≤ N by omega)
  rw [Nat.succ_mul] at this
  omega
theorem Grid.before {T N : Nat} {L : List Rw} (h : Grid T N L) {i : Nat} (hi : i ≤ N) {x : Rw} (hx : x ∈ L.take (i * T)) : x.r < i := by
  obtain ⟨q, hq, rfl⟩ := List.mem_iff_getElem.1 hx
  rw [List.length_take, h.len] at hq
  have hq1 : q < i * T := by omega
  have hT : 0 < T := by
    rcases Nat.eq_zero_or_pos T with h0 | h0
    · subst h0; omega
    · exact h0
  have hd : q / T < i := Nat.div_lt_of_lt_mul (by rw [Nat.mul_comm]; exact hq1)
  obtain ⟨h1, h2, _⟩ := h.at' (q / T) (q % T) (by omega) (Nat.mod_lt _ hT)
  have e : q / T * T + q % T = q := by rw [Nat.mul_comm]; exact Nat.div_add_mod q T
  rw [List.getElem_take]
  simp only [e] at h2
  rw [h2]
  omega
/-- What flags say, as far as row q. -/
structure PlayD (S : Int) (l : List Rw) (D : List Nat) : Prop where
  of : ∀ k ∈ D, ∃ x ∈ l, (k : Int) = x.ns * S + x.s ∨ (k : Int) = x.ew * S + x.s
structure MeetD (P : Int) (l : List Rw) (D : List Nat) : Prop where
  of : ∀ k ∈ D, ∃ x ∈ l, (k : Int) = min x.ns x.ew * (P + 1) + max x.ns x.ew
structure SitD (r : Int) (l : List Rw) (D : List Nat) : Prop where
  of : ∀ k ∈ D, ∃ x ∈ l, x.r = r ∧ ((k : Int) = x.ns ∨ (k : Int) = x.ew)
section
variable {S P r : Int} {l : List Rw} {D : List Nat} {x : Rw}
theorem PlayD.snoc (h : PlayD S l D) {a b : Nat} (ha : (a : Int) = x.ns * S + x.s) (hb : (b : Int) = x.ew * S + x.s) : PlayD S (l ++ [x]) (b :: a :: D) := ⟨fun k hk => by
  simp only [List.mem_cons] at hk
  rcases hk with rfl | rfl | hk
  · exact ⟨x, by simp, .inr hb⟩
  · exact ⟨x, by simp, .inl ha⟩
  · obtain ⟨y, hy, e⟩ := h.of k hk
    exact ⟨y, by simp [hy], e⟩⟩
theorem SitD.snoc (h : SitD r l D) (hr : x.r = r) {a b : Nat} (ha : (a : Int) = x.ns) (hb : (b : Int) = x.ew) : SitD r (l ++ [x]) (b :: a :: D) := ⟨fun k hk => by
  simp only [List.mem_cons] at hk
  rcases hk with rfl | rfl | hk
  · exact ⟨x, by simp, hr, .inr hb⟩
  · exact ⟨x, by simp, hr, .inl ha⟩
  · obtain ⟨y, hy, e⟩ := h.of k hk
    exact ⟨y, by simp [hy], e⟩⟩
theorem MeetD.snoc (h : MeetD P l D) {a : Nat} (ha : (a : Int) = min x.ns x.ew * (P + 1) + max x.ns x.ew) : MeetD P (l ++ [x]) (a :: D) := ⟨fun k hk => by
  simp only [List.mem_cons] at hk
  rcases hk with rfl | hk
  · exact ⟨x, by simp, ha⟩
  · obtain ⟨y, hy, e⟩ := h.of k hk
    exact ⟨y, by simp [hy], e⟩⟩
/-- A row that is apart from all before it. -/
structure FreshR (S Q : Int) (l : List Rw) (x : Rw) : Prop where
  ap : ∀ y ∈ l, apart y x
  rng : ∀ y ∈ l, (0 ≤ y.s ∧ y.s < S) ∧ (1 ≤ y.ns ∧ y.ns ≤ Q) ∧ (1 ≤ y.ew ∧ y.ew ≤ Q)
  me : (0 ≤ x.s ∧ x.s < S) ∧ (1 ≤ x.ns ∧ x.ns ≤ Q) ∧ (1 ≤ x.ew ∧ x.ew ≤ Q)
theorem FreshR.play {Q : Int} (hf : FreshR S Q l x) (h : PlayD S l D) {k : Nat} (hk : (k : Int) = x.ns * S + x.s ∨ (k : Int) = x.ew * S + x.s) : k ∉ D := fun hd => by
  obtain ⟨y, hy, e⟩ := h.of k hd
  have a := hf.ap y hy
  have b := hf.rng y hy
  have c := hf.me
  rcases hk with hk | hk <;> rcases e with e | e
  · obtain ⟨e1, e2⟩ := key_inj b.1 c.1 (e.symm.trans hk)
    exact (a.2.1 x.ns (by omega) (.inl e1) (.inl rfl)).2 e2
  · obtain ⟨e1, e2⟩ := key_inj b.1 c.1 (e.symm.trans hk)
    exact (a.2.1 x.ns (by omega) (.inr e1) (.inl rfl)).2 e2
  · obtain ⟨e1, e2⟩ := key_inj b.1 c.1 (e.symm.trans hk)
    exact (a.2.1 x.ew (by omega) (.inl e1) (.inr rfl)).2 e2
  · obtain ⟨e1, e2⟩ := key_inj b.1 c.1 (e.symm.trans hk)
    exact (a.2.1 x.ew (by omega) (.inr e1) (.inr rfl)).2 e2
theorem FreshR.sit {Q : Int} (hf : FreshR S Q l x) (h : SitD x.r l D) {k : Nat} (hk : (k : Int) = x.ns ∨ (k : Int) = x.ew) : k ∉ D := fun hd => by
  obtain ⟨y, hy, er, e⟩ := h.of k hd
  have a := hf.ap y hy
  have c := hf.me
  rcases hk with hk | hk <;> rcases e with e | e
  · exact (a.2.1 x.ns (by omega) (.inl (e.symm.trans hk)) (.inl rfl)).1 er
  · exact (a.2.1 x.ns (by omega) (.inr (e.symm.trans hk)) (.inl rfl)).1 er
  · exact (a.2.1 x.ew (by omega) (.inl (e.symm.trans hk)) (.inr rfl)).1 er
  · exact (a.2.1 x.ew (by omega) (.inr (e.symm.trans hk)) (.inr rfl)).1 er
theorem FreshR.meet {Q : Int} (hf : FreshR S Q l x) (h : MeetD Q l D) {k : Nat} (hk : (k : Int) = min x.ns x.ew * (Q + 1) + max x.ns x.ew) : k ∉ D := fun hd => by
  obtain ⟨y, hy, e⟩ := h.of k hd
  have a := hf.ap y hy
  have b := hf.rng y hy
  have c := hf.me
  obtain ⟨e1, e2⟩ := key_inj (by omega) (by omega) (e.symm.trans hk)
  exact a.2.2 ⟨by omega, by omega, by omega⟩
end
theorem fresh_at {T N S C Q : Int} {L : List Rw} (hF : Fair T N S C Q L) (hp : ∀ x ∈ L, 1 ≤ x.ns ∧ 1 ≤ x.ew) {q : Nat} (hq : q < L.length) : FreshR S Q (L.take q) L[q] := by
  have hr : ∀ y ∈ L, (0 ≤ y.s ∧ y.s < S) ∧ (1 ≤ y.ns ∧ y.ns ≤ Q) ∧ (1 ≤ y.ew ∧ y.ew ≤ Q) := fun y hy => by
    have := hF.rng y hy
    have := hp y hy
    omega
  refine ⟨fun y hy => ?_, fun y hy => hr y (List.mem_of_mem_take hy), hr _ (List.getElem_mem hq)⟩
  obtain ⟨j, hj, rfl⟩ := List.mem_iff_getElem.1 hy
  rw [List.length_take] at hj
  rw [List.getElem_take]
  exact List.pairwise_iff_getElem.1 hF.pw j q (by omega) hq (by omega)
end Go.Idl
namespace Go.Idl
set_option linter.all false
open Go.Proofs
set_option maxHeartbeats 8000000
set_option maxRecDepth 40000

theorem fair27_fun (T N S : Nat) (C wi : Int) (L : List Rw) (hT : 2 ≤ T ∧ T ≤ 24) (hN : N ≤ 24) (hS : S ≤ 24) (hF : Fair T N S C (2 * T) L) (hG : Grid T N L) :
    FN 16 [(⟨T, N, S, C, wi, L⟩ : Mv).v] (fun v => v = .bool true) := by
  refine IFun.of_bodyZ false 12 [28, 29, 30, 39, 40, 41, 96, 178] Try.func16 rfl Try.call16 rfl fun R hR => ?_
  have w1 : IntKind.i64.wrap (2 * (T : Int)) = ((2 * T : Nat) : Int) := by rw [wrap64 (by omega) (by omega)]; omega
  have w2 : IntKind.i64.wrap (((2 * T : Nat) : Int) + 1) = ((2 * T + 1 : Nat) : Int) := by rw [wrap64 (by omega) (by omega)]; omega
  have b1 : (2 * T + 1) * S ≤ 49 * 24 := Nat.mul_le_mul (by omega) hS
  have b2 : (2 * T + 1) * (2 * T + 1) ≤ 49 * 49 := Nat.mul_le_mul (by omega) (by omega)
  have w3 : IntKind.i64.wrap (((2 * T + 1 : Nat) : Int) * S) = (((2 * T + 1) * S : Nat) : Int) := by rw [wrap64 (by rw [← Int.natCast_mul]; omega) (by rw [← Int.natCast_mul]; omega)]; simp
  have w4 : IntKind.i64.wrap (((2 * T + 1 : Nat) : Int) * ((2 * T + 1 : Nat) : Int)) = (((2 * T + 1) * (2 * T + 1) : Nat) : Int) := by rw [wrap64 (by rw [← Int.natCast_mul]; omega) (by rw [← Int.natCast_mul]; omega)]; simp
  obtain ⟨P, hP⟩ : ∃ P, 2 * T = P := ⟨_, rfl⟩
  rw [hP] at w1 w2 w3 w4 b1 b2
  obtain ⟨A, hA⟩ : ∃ A, (P + 1) * S = A := ⟨_, rfl⟩
  obtain ⟨B, hB⟩ : ∃ B, (P + 1) * (P + 1) = B := ⟨_, rfl⟩
  rw [hA] at w3 b1
  rw [hB] at w4 b2
  have g1 : (A : Int) ≤ 1099511627776 := by omega
  have w3' : IntKind.i64.wrap (((P : Int) + 1) * S) = (A : Int) := by rw [← w3]; simp
  have w4' : IntKind.i64.wrap (((P : Int) + 1) * ((P : Int) + 1)) = (B : Int) := by rw [← w4]; simp
  have g2 : (B : Int) ≤ 1099511627776 := by omega
  have g3 : 0 ≤ (P : Int) + 1 ∧ (P : Int) + 1 ≤ 1099511627776 := by omega
  have g4 : (S : Int) ≤ 1099511627776 := by omega
  have w2' : IntKind.i64.wrap ((P : Int) + 1) = ((P + 1 : Nat) : Int) := w2
  have hpos := hG.pos
  have hlen := hG.len
  have hNT : N * T ≤ 24 * 24 := Nat.mul_le_mul hN hT.2
  simp only [Mv.v]
  simp [go_sem, w1, w2', w3', w4']
  refine ⟨g1, g2, by decide +kernel, ?_⟩
  rw [fl_nil, fl_nil]
  refine IWp.loopT (α := Nat × List Nat × List Nat) (fun x => (⟨false, 221, 12, [28, 29, 30, 39, 40, 41, 96, 178], [], [(1, .ptr 0 1 0 0), (3, .int .i64 (P : Int)), (4, .sl 6 A 0 A none), (5, .sl 12 B 0 B none), (28, .int .i64 (N : Int)), (29, .int .i64 (x.1 : Int))], []⟩, [.rows 6 [[.int .i64 (T : Int), .int .i64 (N : Int), .int .i64 (S : Int), .int .i64 C, .int .i64 wi, .fz 5 (rws L)]], .dead, .dead, .dead, .dead, .dead, .rows 1 (fl A x.2.1), .dead, .dead, .dead, .dead, .dead, .rows 1 (fl B x.2.2)]))
    (fun x => x.1 ≤ N ∧ PlayD S (L.take (x.1 * T)) x.2.1 ∧ MeetD P (L.take (x.1 * T)) x.2.2) (fun x => N - x.1) (0, [], []) ⟨by simp, ⟨fun k hk => by cases hk⟩, ⟨fun k hk => by cases hk⟩⟩ (by simp [go_sem]) ?_
  rintro ⟨i, D1, D2⟩ ⟨hi, hD1, hD2⟩
  simp only at hi hD1 hD2
  by_cases h : i < N
  · have v1 : IntKind.i64.wrap ((i : Int) + 1) = ((i + 1 : Nat) : Int) := by rw [wrap64 (by omega) (by omega)]; omega
    simp [go_sem, h, w2']
    refine ⟨g3, g4, by decide +kernel, ?_⟩
    rw [fl_nil, cnts_nil]
    refine IWp.loopI (α := Nat × List Nat × List Nat × List Nat) (fun x => (⟨false, 221, 12, [28, 29, 30, 39, 40, 41, 96, 178], [], [(1, .ptr 0 1 0 0), (3, .int .i64 (P : Int)), (4, .sl 6 A 0 A none), (5, .sl 12 B 0 B none), (6, .int .i64 (i : Int)), (7, .sl 15 (P + 1) 0 (P + 1) none), (8, .sl 18 S 0 S none), (28, .int .i64 (N : Int)), (29, .int .i64 (i : Int)), (39, .int .i64 (T : Int)), (40, .int .i64 (x.1 : Int))], []⟩, [.rows 6 [[.int .i64 (T : Int), .int .i64 (N : Int), .int .i64 (S : Int), .int .i64 C, .int .i64 wi, .fz 5 (rws L)]], .dead, .dead, .dead, .dead, .dead, .rows 1 (fl A x.2.1), .dead, .dead, .dead, .dead, .dead, .rows 1 (fl B x.2.2.1), .dead, .dead, .rows 1 (fl (P + 1) x.2.2.2), .dead, .dead, .rows 1 (cnts S fun s : Nat => ((L.take (i * T + x.1)).countP (rsB i s) : Int))]))
      (fun x => x.1 ≤ T ∧ PlayD S (L.take (i * T + x.1)) x.2.1 ∧ MeetD P (L.take (i * T + x.1)) x.2.2.1 ∧ SitD i (L.take (i * T + x.1)) x.2.2.2) (fun x => T - x.1) (0, D1, D2, []) ⟨by simp, hD1, hD2, ⟨fun k hk => by cases hk⟩⟩ ?_ ?_
    · have hz : (fun s : Nat => ((L.take (i * T)).countP (rsB i s) : Int)) = fun _ => 0 := by
        funext s
        have : (L.take (i * T)).countP (rsB i s) = 0 := List.countP_eq_zero.2 fun y hy hp => by
          have := hG.before hi hy
          simp only [rsB, Bool.and_eq_true, beq_iff_eq] at hp
          omega
        rw [this]; rfl
      simp [go_sem, hz]
    rintro ⟨j, E1, E2, E3⟩ ⟨hj, hE1, hE2, hE3⟩
    simp only at hj hE1 hE2 hE3
    by_cases h' : j < T
    · obtain ⟨hq0, hxr, hxt⟩ := hG.at' i j h h'
      have hfr := fresh_at hF hpos hq0
      have hql : i * T + j < N * T := grid_lt h h'
      have v2 : IntKind.i64.wrap ((j : Int) + 1) = ((j + 1 : Nat) : Int) := by rw [wrap64 (by omega) (by omega)]; omega
      have v3 : IntKind.i64.wrap ((i : Int) * T) = (i : Int) * T := by rw [← Int.natCast_mul]; exact wrap64 (by omega) (by omega)
      have v4 : IntKind.i64.wrap ((i : Int) * T + j) = ((i * T + j : Nat) : Int) := by rw [← Int.natCast_mul, ← Int.natCast_add]; exact wrap64 (by omega) (by omega)
      obtain ⟨x, hx⟩ : ∃ x, L[i * T + j] = x := ⟨_, rfl⟩
      rw [hx] at hxr hxt hfr
      have htk : L.take (i * T + (j + 1)) = L.take (i * T + j) ++ [x] := by rw [← Nat.add_assoc, List.take_succ_eq_append_getElem hq0, hx]
      obtain ⟨q, hqe⟩ : ∃ q, i * T + j = q := ⟨_, rfl⟩
      have hq : q < L.length := hqe ▸ hq0
      have hx' : L[q]'hq = x := by subst hqe; exact hx
      rw [hqe] at hfr hE1 hE2 hE3 hql htk v4
      clear hx hq0
      have hx := hx'
      clear hx'
      have hm := hfr.me
      obtain ⟨xr, xt, a, b, c⟩ := x
      simp only at hxr hxt hm
      subst hxr hxt
      obtain ⟨a, rfl⟩ : ∃ n : Nat, a = n := ⟨a.toNat, by omega⟩
      obtain ⟨b, rfl⟩ : ∃ n : Nat, b = n := ⟨b.toNat, by omega⟩
      obtain ⟨c, rfl⟩ : ∃ n : Nat, c = n := ⟨c.toNat, by omega⟩
      have t1 : ¬ (a : Int) < 1 := by omega
      have t2 : ¬ (P : Int) < a := by omega
      have t3 : ¬ (b : Int) < 1 := by omega
      have t4 : ¬ (P : Int) < b := by omega
      have t5 : ¬ (c : Int) < 0 := by omega
      have t6 : ¬ (S : Int) ≤ c := by omega
      refine IWp.seqI ?_
      simp [go_sem, h']
      refine IWp.seqI ?_
      simp [go_sem, h']
      refine IWp.seq ?_
      refine IWp.block ?_
      refine IWp.seqI ?_
      simp [go_sem]
      refine IWp.seqI ?_
      simp [go_sem, v3, v4, hq, hx]
      refine IWp.seqI ?_
      simp [go_sem, t1, t2, t3, t4, t5, t6]
      have hab : ¬ (a : Int) = b := fun e => by
        have := (hF.rng _ (hx ▸ List.getElem_mem hq)).2.2.2.2.2 e
        simp only at this
        omega
      have hpa : a < P + 1 := by omega
      have hpb : b < P + 1 := by omega
      have hcS : c < S := by omega
      obtain ⟨mn, hmn⟩ : ∃ mn : Nat, min a b = mn := ⟨_, rfl⟩
      obtain ⟨mx, hmx⟩ : ∃ mx : Nat, max a b = mx := ⟨_, rfl⟩
      have hmn' : (if b < a then (b : Int) else a) = mn := by split <;> omega
      have hmx' : (if a < b then (b : Int) else a) = mx := by split <;> omega
      have hmi : min (a : Int) b = mn := by omega
      have hma : max (a : Int) b = mx := by omega
      have hk1 : mn * (P + 1) + mx < B := by
        have := Nat.mul_le_mul_right (P + 1) (show mn + 1 ≤ P + 1 by omega)
        rw [Nat.succ_mul] at this
        omega
      have hk2 : a * S + c < A := by
        have := Nat.mul_le_mul_right S (show a + 1 ≤ P + 1 by omega)
        rw [Nat.succ_mul] at this
        omega
      have hk3 : b * S + c < A := by
        have := Nat.mul_le_mul_right S (show b + 1 ≤ P + 1 by omega)
        rw [Nat.succ_mul] at this
        omega
      have y1 : IntKind.i64.wrap ((mn : Int) * ((P : Int) + 1)) = (mn : Int) * ((P : Int) + 1) := by rw [show (mn : Int) * ((P : Int) + 1) = ((mn * (P + 1) : Nat) : Int) by simp]; exact wrap64 (by omega) (by omega)
      have y2 : IntKind.i64.wrap ((mn : Int) * ((P : Int) + 1) + mx) = ((mn * (P + 1) + mx : Nat) : Int) := by rw [show (mn : Int) * ((P : Int) + 1) + mx = ((mn * (P + 1) + mx : Nat) : Int) by simp]; exact wrap64 (by omega) (by omega)
      have y3 : IntKind.i64.wrap ((a : Int) * S) = (a : Int) * S := by rw [← Int.natCast_mul]; exact wrap64 (by omega) (by omega)
      have y4 : IntKind.i64.wrap ((a : Int) * S + c) = ((a * S + c : Nat) : Int) := by rw [show (a : Int) * S + c = ((a * S + c : Nat) : Int) by simp]; exact wrap64 (by omega) (by omega)
      have y5 : IntKind.i64.wrap ((b : Int) * S) = (b : Int) * S := by rw [← Int.natCast_mul]; exact wrap64 (by omega) (by omega)
      have y6 : IntKind.i64.wrap ((b : Int) * S + c) = ((b * S + c : Nat) : Int) := by rw [show (b : Int) * S + c = ((b * S + c : Nat) : Int) by simp]; exact wrap64 (by omega) (by omega)
      have f1 : a ∉ E3 := hfr.sit hE3 (.inl rfl)
      have f2 : b ∉ E3 := hfr.sit hE3 (.inr rfl)
      have f3 : a * S + c ∉ E1 := hfr.play hE1 (.inl (by simp))
      have f4 : b * S + c ∉ E1 := hfr.play hE1 (.inr (by simp))
      have f5 : mn * (P + 1) + mx ∉ E2 := by
        rw [show (2 * (T : Int)) = (P : Int) by omega] at hfr
        exact hfr.meet hE2 (by simp only [hmi, hma]; simp)
      have f6 : (((mn * (P + 1) + mx : Nat)) : Int) = min (a : Int) b * ((P : Int) + 1) + max (a : Int) b := by simp only [hmi, hma]; simp
      have f7 : ((a * S + c : Nat) : Int) = (a : Int) * S + c := by simp
      have f8 : ((b * S + c : Nat) : Int) = (b : Int) * S + c := by simp
      obtain ⟨kM, hkM⟩ : ∃ kM, mn * (P + 1) + mx = kM := ⟨_, rfl⟩
      obtain ⟨kA, hkA⟩ : ∃ kA, a * S + c = kA := ⟨_, rfl⟩
      obtain ⟨kB, hkB⟩ : ∃ kB, b * S + c = kB := ⟨_, rfl⟩
      rw [hkM] at hk1 y2 f5 f6
      rw [hkA] at hk2 y4 f3 f7
      rw [hkB] at hk3 y6 f4 f8
      refine IWp.seqI ?_
      simp [go_sem, hmn', hmx', w2', y1, y2]
      refine IWp.seqI ?_
      have q1 := cnts_at (f := fun s : Nat => ((L.take q).countP (rsB i s) : Int)) hcS
      have hu0 := (L.take q).countP_le_length (p := rsB i c)
      rw [List.length_take] at hu0
      have hld := hF.load i c
      have hu1 : ((L.take q).countP (rsB i c) : Int) + 1 ≤ C := by
        have h1 : (L.take (q + 1)).countP (rsB i c) = (L.take q).countP (rsB i c) + 1 := by
          rw [List.take_succ_eq_append_getElem hq, List.countP_append, hx]
          simp [rsB]
        have h2 := (List.take_sublist (q + 1) L).countP_le (p := rsB i c)
        omega
      have y7 : IntKind.i64.wrap (((L.take q).countP (rsB i c) : Int) + 1) = ((L.take q).countP (rsB i c) : Int) + 1 := wrap64 (by omega) (by omega)
      have hC2 : ¬ C < ((L.take q).countP (rsB i c) : Int) + 1 := by omega
      simp [go_sem, hqe, q1, hcS, y7]
      rw [cnts_set]
      obtain ⟨G, hG2⟩ : ∃ G : Nat → Int, G = fun x => if x = c then ((L.take q).countP (rsB i c) : Int) + 1 else ((L.take q).countP (rsB i x) : Int) := ⟨_, rfl⟩
      have hGc : G c = ((L.take q).countP (rsB i c) : Int) + 1 := by rw [hG2]; simp
      rw [← hG2]
      have hCG : ¬ C < G c := by rw [hGc]; exact hC2
      refine IWp.seqI ?_
      simp [go_sem, hab, hpa, hpb, hcS, hk1, hk2, hk3, y3, y4, y5, y6, f1, f2, f3, f4, f5, hCG]
      refine ⟨by omega, by omega, by decide +kernel, ?_⟩
      have hab2 : ((a : Int) == (b : Int)) = false := by simpa using hab
      rw [hab2]
      refine IWp.seqI ?_
      have p1 := fl_at (D := E3) hpa
      have p2 := fl_at (D := a :: E3) hpb
      have p3 := fl_at (D := E2) hk1
      have p4 := fl_at (D := E1) hk2
      have p5 := fl_at (D := kA :: E1) hk3
      simp [go_sem, hpa, hpb, hk1, fl_set, p1, p2, p3]
      refine ⟨by omega, by omega, by decide +kernel, ?_⟩
      refine IWp.now ?_
      simp [go_sem, hk2, hk3, fl_set, p4, p5, y3, y4, y5, y6]
      refine ⟨by decide +kernel, ?_⟩
      refine IWp.now ?_
      have hnext : (fun s : Nat => ((L.take (i * T + (j + 1))).countP (rsB i s) : Int)) = G := by
        funext s
        rw [htk, hG2, List.countP_append]
        by_cases e : s = c
        · subst e; simp [rsB]
        · have : ¬ (c : Int) = s := by omega
          simp [rsB, e, this]
      have hD1n : PlayD S (L.take (i * T + (j + 1))) (kB :: kA :: E1) := by rw [htk]; exact hE1.snoc f7 f8
      have hD2n : MeetD P (L.take (i * T + (j + 1))) (kM :: E2) := by rw [htk]; exact hE2.snoc f6
      have hD3n : SitD i (L.take (i * T + (j + 1))) (b :: a :: E3) := by rw [htk]; exact hE3.snoc rfl rfl rfl
      simp [go_sem, v2]
      exact ⟨j + 1, _, _, _, ⟨by simp, rfl, rfl, rfl, by rw [hnext]⟩, ⟨by omega, hD1n, hD2n, hD3n⟩, by omega⟩
    · obtain rfl : j = T := by omega
      have e : i * j + j = (i + 1) * j := by rw [Nat.succ_mul]
      rw [e] at hE1 hE2
      refine IWp.now ?_
      simp [go_sem, v1]
      exact ⟨i + 1, _, _, ⟨by simp, rfl, rfl⟩, ⟨by omega, hE1, hE2⟩, by omega⟩
  · obtain rfl : i = N := by omega
    have hTN : IntKind.i64.wrap ((T : Int) * i) = (L.length : Int) := by rw [← Int.natCast_mul, hlen, Nat.mul_comm]; exact wrap64 (by omega) (by omega)
    simp [go_sem, hTN]
    exact hR _ _ _ rfl (by simp [go_sem])
end Go.Idl
