/-
  Chapter 28: Passes, Session.
  Chapter 28: the reference's Session; Set and Boards of both.
-/
import Derived.Test.YteedopeniojppaaGreatCtopmPartN
namespace Go.Idl
set_option linter.all false
open Go.Proofs
set_option maxHeartbeats 8000000
set_option maxRecDepth 40000

def passB (m : Mv) (lim : Int) : Bool := decide (errF m lim = 0) && (faultsOf m lim).isEmpty
theorem passes_fun (m : Mv) (lim : Int) : FN 20 [m.v, .int .i64 lim] (fun v => v = .tup [.bool (passB m lim), .int .i64 (errF m lim)]) := by
  refine IFun.of_bodyZ false 8 [] Tryz.func20 rfl Tryz.call20 rfl fun R hR => ?_
  simp [go_sem, Mv.v]
  refine (faults_c m lim).callF (by simp [go_sem, Mv.v]) ?_
  rintro _ rfl
  by_cases he : errF m lim = 0
  · by_cases hf : faultsOf m lim = []
    · simp [go_sem, he, hf]
      exact hR _ _ _ rfl (by simp [go_sem, passB, he, hf])
    · obtain ⟨f, L, hL⟩ := List.exists_cons_of_ne_nil hf
      have hl : ¬ ((L.length : Int) + 1 = 0) := by omega
      simp [go_sem, he, hL, hl]
      refine hR _ _ _ rfl ?_
      simp [go_sem, passB, he, hL, hl]
  · simp [go_sem, he]
    exact hR _ _ _ rfl (by simp [go_sem, passB, he])
/-- The rows of a set in which two pairs meet. -/
def setN (l : List Rw) (s : Int) : Nat := l.countP fun y => meetB y && y.s == s
def manyB (l : List Rw) : Bool := l.any fun x => meetB x && decide (24 < setN l x.s)
def big : Int := 9223372036854775807
def sesE (m : Mv) (boards : Int) : Int :=
  if errF m big ≠ 0 then errF m big else if (faultsOf m big).isEmpty = false then 281 else if boards < 1 ∨ 128 / m.sets < boards then 282 else if manyB m.rows = true then 5 else 0
def enI (S : List (Int × Int)) : List (IV × IV) := enM (fun k : Int => .int .i64 k) (fun v : Int => .int .i64 v) S
theorem keI (a b : Int) : keq (.int .i64 a) (.int .i64 b) = decide (a = b) := by
  show (match ceqs [IV.int .i64 a] [IV.int .i64 b] with | some b => b | none => false) = _
  simp [ceqs, ceq]
  rfl
theorem mget_i (s : Int) (S : List (Int × Int)) : mget (.int .i64 s) (enI S) = (aget s S).map fun v => .int .i64 v := mget_en (kf := fun k : Int => .int .i64 k) keI s S
theorem mset_i (s v : Int) (S : List (Int × Int)) : mset (.int .i64 s) (.int .i64 v) (enI S) = enI (aset s v S) := mset_en (kf := fun k : Int => .int .i64 k) (vf := fun v : Int => .int .i64 v) keI s v S
theorem ok_i (S : List (Int × Int)) : ∀ e ∈ enI S, keyOK Tryz.prog 3 [.int .i64] e.1 = true := en_ok (fun a => by simp [go_sem, keyOK]) S
@[go_sem] theorem bl_i {n : Nat} {S : List (Int × Int)} : BlM n (enI S) = True := eq_true (en_bl (fun a => by simp [go_sem]) (fun b => by simp [go_sem]) S)
theorem setN_succ {l : List Rw} {i : Nat} (h : i < l.length) (s : Int) : setN (l.take (i + 1)) s = setN (l.take i) s + if meetB l[i] = true ∧ l[i].s = s then 1 else 0 := by
  unfold setN
  rw [List.take_succ_eq_append_getElem h, List.countP_append, List.countP_singleton]
  simp
theorem setN_mono {l : List Rw} {i : Nat} (s : Int) : setN (l.take i) s ≤ setN l s := by
  unfold setN
  exact List.Sublist.countP_le (List.take_sublist _ _)
theorem session_fun (m : Mv) (boards : Int) : FN 6 [sesV m boards] (fun v => v = .int .i64 (sesE m boards)) := by
  refine IFun.of_bodyZ false 9 [17, 20, 31, 34, 35, 36, 37, 41, 51] Tryz.func6 rfl Tryz.call6 rfl fun R hR => ?_
  simp [go_sem, sesV]
  refine (passes_fun m big).callF (by simp [go_sem, Mv.v, big]) ?_
  rintro _ rfl
  by_cases he : errF m big = 0
  case neg =>
    have e : sesE m boards = errF m big := by unfold sesE; rw [if_pos he]
    simp [go_sem, he]
    exact hR _ _ _ rfl (by simp [go_sem, e])
  by_cases hp : (faultsOf m big).isEmpty = true
  case neg =>
    have hpb : passB m big = false := by unfold passB; simp [hp]
    have e : sesE m boards = 281 := by unfold sesE; rw [if_neg (by simp [he]), if_pos (by simpa using hp)]
    simp [go_sem, he, hpb]
    exact hR _ _ _ rfl (by simp [go_sem, e])
  have hpb : passB m big = true := by unfold passB; simp [hp, he]
  have hf : frameP m := by
    apply Decidable.byContradiction; intro h
    unfold errF at he; rw [if_pos h] at he; omega
  have hs1 := hf.2.2.2.2.1
  have hs2 := hf.2.2.2.2.2.1
  have hrl : m.rows.length ≤ 24 * 47 := by
    have h5 : m.tables * m.rounds ≤ 24 * 47 := Int.mul_le_mul hf.2.1 hf.2.2.2.1 (by have := hf.2.2.1; omega) (by omega)
    have := hf.2.2.2.2.2.2.2.2
    omega
  have hd : (128 : Int).tdiv m.sets = 128 / m.sets := Int.tdiv_eq_ediv_of_nonneg (by omega)
  have hd1 : 0 ≤ (128 : Int) / m.sets := Int.ediv_nonneg (by omega) (by omega)
  have hd2 : (128 : Int) / m.sets ≤ 128 := Int.ediv_le_self _ (by omega)
  have wd : IntKind.i64.wrap (128 / m.sets) = 128 / m.sets := wrap64 (by omega) (by omega)
  have hs0 : ¬ m.sets = 0 := by omega
  by_cases hb : boards < 1 ∨ 128 / m.sets < boards
  · have e : sesE m boards = 282 := by unfold sesE; rw [if_neg (by simp [he]), if_neg (by simp [hp]), if_pos hb]
    simp [go_sem, he, hpb, hd, wd, hs0]
    refine ⟨by decide +kernel, ?_⟩
    rw [if_pos hb]
    exact hR _ _ _ rfl (by simp [go_sem, e])
  have hb1 : ¬ boards < 1 := fun h => hb (.inl h)
  have hb2 : ¬ 128 / m.sets < boards := fun h => hb (.inr h)
  have e : sesE m boards = if manyB m.rows = true then 5 else 0 := by unfold sesE; rw [if_neg (by simp [he]), if_neg (by simp [hp]), if_neg hb]
  simp [go_sem, he, hpb, hd, wd, hs0, hb1, hb2]
  refine ⟨by decide +kernel, ?_⟩
  refine IWp.loopT (α := Nat × List (Int × Int)) (fun x => (⟨false, 53, 9, [17, 20, 31, 34, 35, 36, 37, 41, 51], [], [(6, .map 2), (34, .fz 5 (rws m.rows)), (35, .int .i64 m.rows.length), (36, .int .i64 (x.1 : Int))], []⟩, [.dead, .dead, .map (enI x.2)]))
    (fun x => x.1 ≤ m.rows.length ∧ (∀ s, (aget s x.2).getD 0 = setN (m.rows.take x.1) s) ∧ ∀ j, j < x.1 → ∀ h : j < m.rows.length, meetB m.rows[j] = true → setN (m.rows.take x.1) m.rows[j].s ≤ 24) (fun x => m.rows.length - x.1) (0, []) ⟨by simp, fun s => by simp [aget, setN], fun j hj => by omega⟩ (by simp [go_sem, enI]) ?_
  rintro ⟨i, S⟩ ⟨hi, hS, hno⟩
  simp only at hi hS hno
  by_cases h : i < m.rows.length
  · have w1 : IntKind.i64.wrap ((i : Int) + 1) = i + 1 := wrap64 (by omega) (by omega)
    have hn := setN_succ h
    have hmax : ∀ s, setN (m.rows.take i) s ≤ 1128 := fun s => Nat.le_trans List.countP_le_length (by simp; omega)
    generalize hx : m.rows[i] = x at *
    simp [go_sem, h, hx]
    refine (meet_fun x).callF (by simp [go_sem, Rw.v]) ?_
    rintro _ rfl
    cases hm : meetB x with
    | false =>
      simp [go_sem, w1]
      refine ⟨i + 1, S, ⟨rfl, rfl⟩, ⟨by omega, fun s => by rw [hS s, hn s]; simp [hm], fun j hj hjl hmj => ?_⟩, by omega⟩
      rw [hn]; simp only [hm, Bool.false_eq_true, false_and, if_false, Nat.add_zero]
      by_cases e2 : j = i
      · subst e2; rw [hx, hm] at hmj; cases hmj
      · exact hno j (by omega) hjl hmj
    | true =>
      have hg := mget_i x.s S
      have hs := fun v => mset_i x.s v S
      obtain ⟨c, hc⟩ : ∃ c, setN (m.rows.take i) x.s = c := ⟨_, rfl⟩
      have hcb := hmax x.s
      have hSx := hS x.s
      rw [hc] at hcb hSx
      have wc : IntKind.i64.wrap ((c : Int) + 1) = c + 1 := wrap64 (by omega) (by omega)
      have hg2 : mget (.int .i64 x.s) (enI (aset x.s ((c : Int) + 1) S)) = some (.int .i64 ((c : Int) + 1)) := by rw [mget_i, aget_aset, if_pos rfl]; rfl
      simp [go_sem, w1, hg, hs, hSx, wc, hg2]
      refine ⟨fun a b h => by simpa [go_sem, keyOK] using ok_i S (a, b) h, fun a b h => by simpa [go_sem, keyOK] using ok_i _ (a, b) h, ?_⟩
      have hnx : setN (m.rows.take (i + 1)) x.s = c + 1 := by rw [hn, hc]; simp [hm]
      by_cases h24 : 24 < (c : Int) + 1
      · simp [go_sem, h24]
        have hmany : manyB m.rows = true := by
          unfold manyB
          rw [List.any_eq_true]
          refine ⟨x, by rw [← hx]; exact List.getElem_mem h, ?_⟩
          have := setN_mono (l := m.rows) (i := i + 1) x.s
          simp [hm]; omega
        rw [hmany, if_pos rfl] at e
        exact hR _ _ _ rfl (by simp [go_sem, e])
      · simp [go_sem, h24]
        refine ⟨i + 1, _, ⟨rfl, rfl⟩, ⟨by omega, fun s => ?_, fun j hj hjl hmj => ?_⟩, by omega⟩
        · rw [aget_aset]
          by_cases e2 : s = x.s
          · subst e2; rw [if_pos rfl, hnx]; simp
          · rw [if_neg e2, hS s, hn s]; simp [Ne.symm e2]
        · by_cases e2 : m.rows[j].s = x.s
          · rw [e2, hnx]; omega
          · rw [hn, if_neg (fun h => e2 h.2.symm)]
            by_cases e3 : j = i
            · subst e3; exact absurd (by rw [hx]) e2
            · exact hno j (by omega) hjl hmj
  · have : i = m.rows.length := by omega
    subst this
    rw [List.take_length] at hno
    have hmany : manyB m.rows = false := by
      unfold manyB
      rw [List.any_eq_false]
      intro y hy
      obtain ⟨j, hj, rfl⟩ := List.getElem_of_mem hy
      simp
      exact hno j hj hj
    rw [hmany, if_neg (by decide)] at e
    simp [go_sem]
    exact hR _ _ _ rfl (by simp [go_sem, e])

/-! ### without a limit -/
def not6 (f : Flt) : Bool := f.k != 6
theorem errF_one {m : Mv} : errF m 1 = errF m big := by unfold errF big; simp
theorem agL_not6 {i k : Int} {S : Mem} {key : Int → Th} (hk : k ≠ 6) (l : List Int) : (agL i k S key l).filter not6 = agL i k S key l := by
  rw [List.filter_eq_self]
  intro f hf
  simp only [agL, List.mem_flatMap] at hf
  obtain ⟨p, _, hf⟩ := hf
  unfold ag1 at hf
  split at hf
  · simp at hf
  · simp at hf; subst hf; simp [not6, hk]
theorem rowF_big {m : Mv} {S : Mem} {n : Int} (hS : MemB S n) (hn : n < big) (i : Int) (x : Rw) : rowF m big S i x = (rowF m 1 S i x).filter not6 := by
  unfold rowF
  have hb : ¬ (meetB x = true ∧ big ≤ cntM2 (encT x) S) := by
    rintro ⟨_, h⟩
    unfold cntM2 at h
    cases ha : aget (encT x) S with
    | none => rw [ha] at h; simp [big] at h
    | some q => obtain ⟨f, c⟩ := q; rw [ha] at h; have := hS _ f c ha; simp at h; omega
  rw [if_neg hb]
  simp only [List.filter_append, agL_not6 (show (3 : Int) ≠ 6 by decide)]
  have e2 : ∀ (c : Prop) [Decidable c] (f : Flt), f.k ≠ 6 → (if c then [f] else []).filter not6 = if c then [f] else [] := fun c _ f h => by split <;> simp [not6, h]
  have e6 : ∀ (c : Prop) [Decidable c] (f : Flt), f.k = 6 → (if c then [f] else []).filter not6 = [] := fun c _ f h => by split <;> simp [not6, h]
  rw [e2 _ _ (by simp), e2 _ _ (by simp), e6 _ _ rfl]
  congr 2
  split
  · rw [agL_not6 (by decide)]
  · rfl
theorem fRun_big {m : Mv} (rest : List Rw) : ∀ (i : Nat) (F : List Flt) (S : Mem), MemB S (10 * (i : Int)) → (i : Int) + rest.length < 2 ^ 40 → (fRun m big i rest (F.filter not6, S)).1 = ((fRun m 1 i rest (F, S)).1).filter not6 := by
  induction rest with
  | nil => intro i F S _ _; simp only [fRun]
  | cons x rest ih =>
    intro i F S hS hl
    rw [List.length_cons] at hl
    rw [fRun, fRun]
    unfold fStep
    simp only
    have h2 : (shL x).length ≤ 10 := by
      rw [shL_eq, List.length_append]
      have := shP_len x (seatsL x).length
      have := seatsL_len x
      split <;> simp <;> omega
    by_cases hw : wrongF m (aget ⟨1, x.r, x.t⟩ S).isSome x = true
    · rw [if_pos hw, if_pos hw]
      have := ih (i + 1) (F ++ [⟨1, i, x.ns, x.ew⟩]) S (fun t f c e => by have := hS t f c e; omega) (by omega)
      have e1 : [(⟨1, i, x.ns, x.ew⟩ : Flt)].filter not6 = [⟨1, i, x.ns, x.ew⟩] := by simp [not6]
      rw [← this, List.filter_append, e1]
    · rw [if_neg hw, if_neg hw]
      have hb := rowF_big (m := m) hS (by unfold big; omega) i x
      have hS' : MemB (putL i (shL x) S) (10 * (i + 1 : Nat)) := fun t f c e => by
        have := MemB.putL (n := 10 * i) (i := i) (by omega) (shL x) S hS t f c e
        omega
      have := ih (i + 1) (F ++ rowF m 1 S i x) (putL i (shL x) S) hS' (by omega)
      rw [← this, List.filter_append, hb]
theorem frame_rows {m : Mv} (hf : frameP m) : m.rows.length ≤ 24 * 47 := by
  have h5 : m.tables * m.rounds ≤ 24 * 47 := Int.mul_le_mul hf.2.1 hf.2.2.2.1 (by have := hf.2.2.1; omega) (by omega)
  have := hf.2.2.2.2.2.2.2.2
  omega
theorem faults_big {m : Mv} (he : errF m big = 0) (hf : frameP m) : faultsOf m big = (faultsOf m 1).filter not6 := by
  unfold faultsOf
  rw [if_pos he, if_pos (by rw [errF_one]; exact he)]
  have := frame_rows hf
  exact fRun_big m.rows 0 [] [] (fun t f c e => by simp [aget] at e) (by omega)
/-- Without faults each row is in its place. -/
theorem fRun_nil {m : Mv} {lim : Int} : ∀ (rest : List Rw) (i : Nat) (F : List Flt) (S : Mem), (fRun m lim i rest (F, S)).1 = [] → F = [] ∧ ∀ x ∈ rest, outR m x = false
  | [], i, F, S, h => ⟨h, by simp⟩
  | x :: rest, i, F, S, h => by
    rw [fRun] at h
    unfold fStep at h
    simp only at h
    by_cases hw : wrongF m (aget ⟨1, x.r, x.t⟩ S).isSome x = true
    · rw [if_pos hw] at h
      have := (fRun_nil rest _ _ _ h).1
      simp at this
    · rw [if_neg hw] at h
      obtain ⟨h1, h2⟩ := fRun_nil rest _ _ _ h
      have h3 := (List.append_eq_nil_iff.1 h1).1
      refine ⟨h3, fun y hy => ?_⟩
      rcases List.mem_cons.1 hy with rfl | hy
      · unfold wrongF outB at hw
        unfold outR
        simp at hw ⊢
        omega
      · exact h2 y hy
theorem no_faults {m : Mv} (he : errF m big = 0) (hp : (faultsOf m big).isEmpty = true) : ∀ x ∈ m.rows, 0 ≤ x.s ∧ x.s < m.sets := fun x hx => by
  unfold faultsOf at hp
  rw [if_pos he, List.isEmpty_iff] at hp
  have := (fRun_nil m.rows 0 [] [] hp).2 x hx
  unfold outR at this
  simp at this
  omega
def manyR (m : Mv) : Bool := (List.range m.sets.toNat).any fun s : Nat => decide (24 < setN m.rows s)
theorem many_eq {m : Mv} (h : ∀ x ∈ m.rows, 0 ≤ x.s ∧ x.s < m.sets) : manyR m = manyB m.rows := by
  rw [Bool.eq_iff_iff]
  unfold manyR manyB
  simp only [List.any_eq_true, List.mem_range, Bool.and_eq_true, decide_eq_true_eq]
  constructor
  · rintro ⟨s, _, h24⟩
    have : 0 < setN m.rows s := by omega
    unfold setN at this
    rw [List.countP_pos_iff] at this
    obtain ⟨x, hx, hb⟩ := this
    simp at hb
    exact ⟨x, hx, hb.1, by rw [hb.2]; exact h24⟩
  · rintro ⟨x, hx, _, h24⟩
    have := h x hx
    exact ⟨x.s.toNat, by omega, by rw [Int.toNat_of_nonneg this.1]; exact h24⟩
end Go.Idl
namespace Go.Idl
set_option linter.all false
open Go.Proofs
set_option maxHeartbeats 8000000
set_option maxRecDepth 40000

def scells (m : Mv) (b : Int) : List IV := [.int .i64 m.tables, .int .i64 m.rounds, .int .i64 m.sets, .int .i64 m.copies, .int .i64 m.winners, .fz 5 (rws m.rows), .int .i64 b]
theorem quo_le {s b : Int} (h1 : 1 ≤ s) (_h2 : s ≤ 128) : (128 / s < b) ↔ (128 < b * s) := by
  rw [← Int.not_le, Int.le_ediv_iff_mul_le (by omega)]; omega
theorem rowF_len (m : Mv) (lim : Int) (S : Mem) (i : Int) (x : Rw) : (rowF m lim S i x).length ≤ 10 := by
  rw [rowF_five]
  have hfl : ∀ j, ((fiveF m lim S i x).getD j []).length ≤ 2 := fun j => by
    by_cases hj : j < 5
    · exact fiveF_len m lim S i x j hj
    · have : (fiveF m lim S i x)[j]? = none := List.getElem?_eq_none (by simp [fiveF]; omega)
      simp [List.getD, this]
  have := partF_len [] hfl 5
  simp only [partF, List.nil_append, List.length_nil, Nat.zero_add] at this
  rw [List.take_of_length_le (by simp [fiveF])] at this
  exact this
theorem fRun_len {m : Mv} {lim : Int} : ∀ (rest : List Rw) (i : Nat) (F : List Flt) (S : Mem), (fRun m lim i rest (F, S)).1.length ≤ F.length + 10 * rest.length
  | [], i, F, S => by simp [fRun]
  | x :: rest, i, F, S => by
    rw [fRun]
    unfold fStep
    simp only
    split
    · have := fRun_len (m := m) (lim := lim) rest (i + 1) (F ++ [⟨1, i, x.ns, x.ew⟩]) S
      simp only [List.length_append, List.length_cons, List.length_nil] at this ⊢
      omega
    · have h1 := fRun_len (m := m) (lim := lim) rest (i + 1) (F ++ rowF m lim S i x) (putL i (shL x) S)
      have h2 := rowF_len m lim S i x
      simp only [List.length_append, List.length_cons] at h1 ⊢
      omega
theorem faults_len {m : Mv} {lim : Int} : (faultsOf m lim).length ≤ 10 * (24 * 47) := by
  unfold faultsOf
  split
  · rename_i he
    have hf : frameP m := by
      apply Decidable.byContradiction; intro h
      unfold errF at he; rw [if_pos h] at he; omega
    have h1 := frame_rows hf
    have h2 := fRun_len (m := m) (lim := lim) m.rows 0 [] []
    simp only [List.length_nil] at h2
    omega
  · simp
/-! ### Set and Boards -/
/-- What is known of a session that is right. -/
theorem ses_ok {m : Mv} {b : Int} (h : sesE m b = 0) : 1 ≤ m.sets ∧ m.sets ≤ 128 ∧ 1 ≤ b ∧ b ≤ 128 ∧ m.sets * b ≤ 128 := by
  unfold sesE at h
  split at h
  · omega
  rename_i he
  split at h
  · omega
  split at h
  · omega
  rename_i hb
  have hf : frameP m := by
    apply Decidable.byContradiction; intro hf
    unfold errF at he; rw [if_pos hf] at he; omega
  have hs1 := hf.2.2.2.2.1
  have hs2 := hf.2.2.2.2.2.1
  have hq := quo_le (b := b) hs1 hs2
  have : (128 : Int) / m.sets ≤ 128 := Int.ediv_le_self _ (by omega)
  refine ⟨hs1, hs2, by omega, by omega, ?_⟩
  rw [Int.mul_comm]
  have : ¬ 128 < b * m.sets := fun h => hb (.inr (hq.2 h))
  omega
def setR (m : Mv) (b n : Int) : Int × Int := if sesE m b ≠ 0 then (0, sesE m b) else if n < 1 ∨ m.sets * b < n then (0, 6) else ((n - 1) / b, 0)
def brdR (m : Mv) (b n : Int) : Int × Int × Int := if sesE m b ≠ 0 then (0, 0, sesE m b) else if n < 0 ∨ m.sets ≤ n then (0, 0, 6) else (n * b + 1, (n + 1) * b, 0)
theorem brd_bound {m : Mv} {b n : Int} (h : sesE m b = 0) (hn : ¬ (n < 0 ∨ m.sets ≤ n)) : 0 ≤ n * b ∧ n * b ≤ 128 * 128 ∧ 0 ≤ (n + 1) * b ∧ (n + 1) * b ≤ 128 * 128 ∧ n * b + b = (n + 1) * b := by
  obtain ⟨h1, h2, h3, h4, h5⟩ := ses_ok h
  refine ⟨Int.mul_nonneg (by omega) (by omega), Int.mul_le_mul (by omega) h4 (by omega) (by omega), Int.mul_nonneg (by omega) (by omega), Int.mul_le_mul (by omega) h4 (by omega) (by omega), by rw [Int.add_mul]; omega⟩
end Go.Idl
