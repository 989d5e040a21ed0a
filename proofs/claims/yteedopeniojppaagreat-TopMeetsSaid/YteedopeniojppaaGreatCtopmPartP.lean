/-
  Chapter 28: fair movements have no faults (plain).
  Chapter 28: what Made returns (plain).
-/
import Derived.Test.YteedopeniojppaaGreatCtopmPartN
import Derived.Test.YteedopeniojppaaGreatCtopmPartO
import Derived.Test.YteedopeniojppaaGreatCtopmPartE
import Derived.Test.YteedopeniojppaaGreatCtopmPartI
import Derived.Test.YteedopeniojppaaGreatCtopmPartK
namespace Go.Idl
set_option linter.all false
open Go.Proofs
set_option maxHeartbeats 4000000
set_option maxRecDepth 40000

def ptsR (m : Mv) (lim : Int) (bs : List Nat) (i : Int) (x : Rw) : List Flt := part2 i x ++ part3 m.rows bs i x ++ part3b m.rows bs i x ++ part4 m bs i x ++ part5 m.rows bs i x ++ part6 m.rows lim bs i x
theorem rStep_ok {m : Mv} {lim : Int} {i : Nat} {x : Rw} {F : List Flt} {bs : List Nat} (h : wrongR m bs x = false) : rStep m lim i x (F, bs) = (F ++ ptsR m lim bs i x, bs ++ [i]) := by
  unfold rStep ptsR
  rw [if_neg (by simp [h])]
  simp [List.append_assoc]
theorem rStep_bad {m : Mv} {lim : Int} {i : Nat} {x : Rw} {F : List Flt} {bs : List Nat} (h : wrongR m bs x = true) : rStep m lim i x (F, bs) = (F ++ [⟨1, i, x.ns, x.ew⟩], bs) := by
  unfold rStep
  rw [if_pos (by simp [h])]
theorem range_snoc (i : Nat) : List.range i ++ [i] = List.range (i + 1) := List.range_succ.symm
theorem rRun_nil {m : Mv} {lim : Int} : ∀ (rest : List Rw) (i : Nat), m.rows.drop i = rest → (∀ (j : Nat) (h : j < m.rows.length), wrongR m (List.range j) m.rows[j] = false ∧ ptsR m lim (List.range j) j m.rows[j] = []) → (rRun m lim i rest ([], List.range i)).1 = []
  | [], i, _, _ => rfl
  | x :: rest, i, hd, hj => by
    have hi : i < m.rows.length := by
      apply Nat.not_le.1; intro h
      rw [List.drop_of_length_le h] at hd; cases hd
    rw [List.drop_eq_getElem_cons hi] at hd
    obtain ⟨hx, hr⟩ := List.cons.inj hd
    obtain ⟨h1, h2⟩ := hj i hi
    rw [hx] at h1 h2
    rw [rRun, rStep_ok h1, h2, range_snoc]
    exact rRun_nil rest (i + 1) hr hj
theorem rRun_pre {m : Mv} {lim : Int} : ∀ (rest : List Rw) (i : Nat) (F : List Flt) (bs : List Nat), ∃ G, (rRun m lim i rest (F, bs)).1 = F ++ G
  | [], i, F, bs => ⟨[], by simp [rRun]⟩
  | x :: rest, i, F, bs => by
    rw [rRun]
    cases h : wrongR m bs x with
    | true =>
      rw [rStep_bad h]
      obtain ⟨G, hG⟩ := rRun_pre rest (i + 1) (F ++ [⟨1, i, x.ns, x.ew⟩]) bs
      exact ⟨_, by rw [hG, List.append_assoc]⟩
    | false =>
      rw [rStep_ok h]
      obtain ⟨G, hG⟩ := rRun_pre rest (i + 1) (F ++ ptsR m lim bs i x) (bs ++ [i])
      exact ⟨_, by rw [hG, List.append_assoc]⟩
theorem rRun_mem {m : Mv} {lim : Int} {q : Nat} (hq : q < m.rows.length) (hw : ∀ (j : Nat) (h : j < m.rows.length), j < q → wrongR m (List.range j) m.rows[j] = false) {f : Flt}
    (hf : (wrongR m (List.range q) m.rows[q] = true ∧ f = ⟨1, q, m.rows[q].ns, m.rows[q].ew⟩) ∨ (wrongR m (List.range q) m.rows[q] = false ∧ f ∈ ptsR m lim (List.range q) q m.rows[q])) :
    ∀ (rest : List Rw) (i : Nat) (F : List Flt), i ≤ q → m.rows.drop i = rest → f ∈ (rRun m lim i rest (F, List.range i)).1
  | [], i, F, hi, hd => by
    have := congrArg List.length hd
    rw [List.length_drop, List.length_nil] at this; omega
  | x :: rest, i, F, hi, hd => by
    have hil : i < m.rows.length := by omega
    rw [List.drop_eq_getElem_cons hil] at hd
    obtain ⟨hx, hr⟩ := List.cons.inj hd
    rw [rRun]
    by_cases e : i = q
    · subst e
      rw [hx] at hf
      rcases hf with ⟨h1, rfl⟩ | ⟨h1, h2⟩
      · rw [rStep_bad h1]
        obtain ⟨G, hG⟩ := rRun_pre (m := m) (lim := lim) rest (i + 1) (F ++ [⟨1, i, x.ns, x.ew⟩]) (List.range i)
        rw [hG]; simp
      · rw [rStep_ok h1]
        obtain ⟨G, hG⟩ := rRun_pre (m := m) (lim := lim) rest (i + 1) (F ++ ptsR m lim (List.range i) i x) (List.range i ++ [i])
        rw [hG]; simp [h2]
    · have h1 := hw i hil (by omega)
      rw [hx] at h1
      rw [rStep_ok h1, range_snoc]
      exact rRun_mem hq hw hf rest (i + 1) _ (by omega) hr
theorem faults_nil {m : Mv} {lim : Int} (h : ∀ (j : Nat) (h : j < m.rows.length), wrongR m (List.range j) m.rows[j] = false ∧ ptsR m lim (List.range j) j m.rows[j] = []) : faultsOf m lim = [] := by
  rw [← faultsOf_eq]
  split
  · exact rRun_nil m.rows 0 rfl h
  · rfl
theorem faults_mem {m : Mv} {lim : Int} (he : errF m lim = 0) {q : Nat} (hq : q < m.rows.length) (hw : ∀ (j : Nat) (h : j < m.rows.length), j < q → wrongR m (List.range j) m.rows[j] = false) {f : Flt}
    (hf : (wrongR m (List.range q) m.rows[q] = true ∧ f = ⟨1, q, m.rows[q].ns, m.rows[q].ew⟩) ∨ (wrongR m (List.range q) m.rows[q] = false ∧ f ∈ ptsR m lim (List.range q) q m.rows[q])) : f ∈ faultsOf m lim := by
  rw [← faultsOf_eq, if_pos he]
  exact rRun_mem hq hw hf m.rows 0 [] (by omega) rfl

/-! ### fair movements -/
theorem rAtR_get {l : List Rw} {k : Nat} (h : k < l.length) : rAtR l k = l[k] := by simp [rAtR, h]
theorem countP_range (l : List Rw) (p : Rw → Bool) : ∀ j, j ≤ l.length → (List.range j).countP (fun k => p (rAtR l k)) = (l.take j).countP p
  | 0, _ => by simp
  | j + 1, h => by
    rw [List.range_succ, List.countP_append, countP_range l p j (by omega), countP_succ (by omega), List.countP_singleton, rAtR_get (by omega)]
theorem outR_ok {m : Mv} {x : Rw} {Q : Int} (h : (0 ≤ x.r ∧ x.r < m.rounds) ∧ (0 ≤ x.t ∧ x.t < m.tables) ∧ (0 ≤ x.s ∧ x.s < m.sets) ∧ (0 ≤ x.ns ∧ x.ns ≤ Q) ∧ (0 ≤ x.ew ∧ x.ew ≤ Q) ∧ (x.ns = x.ew → x.ns = 0)) : outR m x = false := by
  unfold outR; simp; omega
theorem wrongR_false {m : Mv} {j : Nat} (hj : j < m.rows.length) (ho : outR m m.rows[j] = false) (hs : ∀ (k : Nat) (h : k < m.rows.length), k < j → ¬ (m.rows[k].r = m.rows[j].r ∧ m.rows[k].t = m.rows[j].t)) : wrongR m (List.range j) m.rows[j] = false := by
  unfold wrongR
  rw [ho, Bool.false_or, List.any_eq_false]
  intro k hk hp
  rw [List.mem_range] at hk
  unfold sameRT at hp
  rw [rAtR_get (by omega)] at hp
  simp only [Bool.and_eq_true, beq_iff_eq] at hp
  exact hs k (by omega) hk hp
theorem Fair.ap {T N S C Q : Int} {L : List Rw} (h : Fair T N S C Q L) {k j : Nat} (hj : j < L.length) (hk : k < j) : apart (L[k]'(by omega)) L[j] := List.pairwise_iff_getElem.1 h.pw k j (by omega) hj hk
theorem apart.symm {x y : Rw} (h : apart x y) : apart y x := by
  obtain ⟨h1, h2, h3⟩ := h
  refine ⟨fun e => (h1 e.symm).symm, fun p hp a b => ⟨(h2 p hp b a).1.symm, (h2 p hp b a).2.symm⟩, ?_⟩
  rintro ⟨a, b, c⟩
  apply h3
  omega
theorem Fair.ne {T N S C Q : Int} {L : List Rw} (h : Fair T N S C Q L) {k j : Nat} (hk : k < L.length) (hj : j < L.length) (e : k ≠ j) : apart L[k] L[j] := by
  rcases Nat.lt_or_gt_of_ne e with e | e
  · exact h.ap hj e
  · exact (h.ap hk e).symm
theorem fair_wrong {m : Mv} {Q : Int} (hf : Fair m.tables m.rounds m.sets m.copies Q m.rows) {j : Nat} (hj : j < m.rows.length) : wrongR m (List.range j) m.rows[j] = false :=
  wrongR_false hj (outR_ok (hf.rng _ (List.getElem_mem hj))) fun _ hk hkj e => (hf.ap hj hkj).1 e.1 e.2
theorem fair_pts {m : Mv} {Q lim : Int} (hl : 1 ≤ lim) (hf : Fair m.tables m.rounds m.sets m.copies Q m.rows) {j : Nat} (hj : j < m.rows.length) : ptsR m lim (List.range j) j m.rows[j] = [] := by
  have hr := hf.rng _ (List.getElem_mem hj)
  have hap : ∀ k ∈ List.range j, ∃ h : k < m.rows.length, rAtR m.rows k = m.rows[k] ∧ apart m.rows[k] m.rows[j] := fun k hk => by
    rw [List.mem_range] at hk
    exact ⟨by omega, rAtR_get (by omega), hf.ap hj hk⟩
  have hlc := hf.load m.rows[j].r m.rows[j].s
  have hsub : (m.rows.take (j + 1)).countP (rsB m.rows[j].r m.rows[j].s) ≤ m.rows.countP (rsB m.rows[j].r m.rows[j].s) := List.Sublist.countP_le (List.take_sublist _ _)
  rw [countP_succ hj, if_pos (by simp [rsB])] at hsub
  have hlo : (List.range j).countP (loadP m.rows m.rows[j]) = (m.rows.take j).countP (rsB m.rows[j].r m.rows[j].s) := countP_range m.rows (rsB m.rows[j].r m.rows[j].s) j (by omega)
  generalize m.rows[j] = x at *
  have h3 : ∀ p : Int, (p = x.ns ∨ p = x.ew) → firstR (sitP m.rows x.r p) (List.range j) = -1 := fun p hp => firstR_none fun k hk => by
    obtain ⟨h, e, ha⟩ := hap k hk
    unfold sitP inB
    rw [e]
    rw [Bool.eq_false_iff]
    intro hc
    simp only [Bool.and_eq_true, beq_iff_eq, decide_eq_true_eq, Bool.or_eq_true] at hc
    exact (ha.2.1 p (by omega) (by unfold sitsP; omega) (by unfold sitsP; omega)).1 hc.1
  have h5 : ∀ p : Int, (p = x.ns ∨ p = x.ew) → firstR (playP m.rows x.s p) (List.range j) = -1 := fun p hp => firstR_none fun k hk => by
    obtain ⟨h, e, ha⟩ := hap k hk
    unfold playP inB
    rw [e]
    rw [Bool.eq_false_iff]
    intro hc
    simp only [Bool.and_eq_true, beq_iff_eq, decide_eq_true_eq, Bool.or_eq_true] at hc
    exact (ha.2.1 p (by omega) (by unfold sitsP; omega) (by unfold sitsP; omega)).2 hc.1.1
  have h6 : meetB x = true → (List.range j).countP (metP m.rows x) = 0 := fun hm => List.countP_eq_zero.2 fun k hk hc => by
    obtain ⟨h, e, ha⟩ := hap k hk
    unfold metP at hc
    rw [e] at hc
    unfold meetB inB at hc
    unfold meetB at hm
    simp only [Bool.and_eq_true, beq_iff_eq, decide_eq_true_eq, Bool.or_eq_true, bne_iff_ne] at hc hm
    exact ha.2.2 (by omega)
  have p2 : part2 j x = [] := by unfold part2; rw [if_neg (by omega)]
  have p3 : part3 m.rows (List.range j) j x = [] := by unfold part3; rw [h3 _ (.inl rfl)]; rfl
  have p3b : part3b m.rows (List.range j) j x = [] := by unfold part3b; rw [h3 _ (.inr rfl)]; simp [hitF]
  have p4 : part4 m (List.range j) j x = [] := by unfold part4; rw [hlo, if_neg (by omega)]
  have p5 : part5 m.rows (List.range j) j x = [] := by unfold part5; rw [h5 _ (.inl rfl), h5 _ (.inr rfl)]; simp [hitF]
  have p6 : part6 m.rows lim (List.range j) j x = [] := by
    unfold part6
    rw [if_neg]
    rintro ⟨a, b⟩
    rw [h6 a] at b
    omega
  unfold ptsR
  rw [p2, p3, p3b, p4, p5, p6]
  rfl
theorem fair_faults {m : Mv} {Q lim : Int} (hl : 1 ≤ lim) (hf : Fair m.tables m.rounds m.sets m.copies Q m.rows) : faultsOf m lim = [] :=
  faults_nil fun _ hj => ⟨fair_wrong hf hj, fair_pts hl hf hj⟩
theorem fair_pass {m : Mv} {Q lim : Int} (hl : 1 ≤ lim) (hp : frameP m) (hf : Fair m.tables m.rounds m.sets m.copies Q m.rows) : passB m lim = true ∧ errF m lim = 0 := by
  have he : errF m lim = 0 := by unfold errF; rw [if_neg (by simp [hp]), if_neg (by omega)]
  unfold passB
  rw [he, fair_faults hl hf]
  exact ⟨rfl, rfl⟩

/-! ### how often a set is played -/
theorem nodup_bound : ∀ (Q : Nat) (l : List Int), l.Nodup → (∀ x ∈ l, 1 ≤ x ∧ x ≤ Q) → l.length ≤ Q
  | 0, l, _, h => by
    cases l with
    | nil => simp
    | cons a l => have := h a (by simp); omega
  | Q + 1, l, hn, h => by
    have := nodup_bound Q (l.erase ((Q : Int) + 1)) (hn.erase _) fun x hx => by
      rw [hn.mem_erase_iff] at hx
      have := h x hx.2
      omega
    have hl := List.length_erase (a := ((Q : Int) + 1)) (l := l)
    split at hl <;> omega
theorem fair_setN {T N S C : Int} {Q : Nat} {L : List Rw} (h : Fair T N S C Q L) (s : Int) : 2 * setN L s ≤ Q := by
  have hn : ((L.filter fun y => meetB y && y.s == s).flatMap fun y => [y.ns, y.ew]).Nodup := by
    refine List.pairwise_flatMap.2 ⟨fun y hy => ?_, (h.pw.filter _).imp_of_mem fun {x y} hx hy ha p px q qy e => ?_⟩
    · have := (List.mem_filter.1 hy).2
      unfold meetB at this
      simp only [Bool.and_eq_true, bne_iff_ne] at this
      simp [this.1.2]
    · subst e
      have ex := (List.mem_filter.1 hx).2
      have ey := (List.mem_filter.1 hy).2
      unfold meetB at ex ey
      simp only [Bool.and_eq_true, decide_eq_true_eq, beq_iff_eq] at ex ey
      simp only [List.mem_cons, List.not_mem_nil, or_false] at px qy
      exact (ha.2.1 p (by omega) (by unfold sitsP; omega) (by unfold sitsP; omega)).2 (by omega)
  have hb := nodup_bound Q _ hn fun p hp => by
    obtain ⟨y, hy, hp⟩ := List.mem_flatMap.1 hp
    have hr := h.rng y (List.mem_filter.1 hy).1
    have ey := (List.mem_filter.1 hy).2
    unfold meetB at ey
    simp only [Bool.and_eq_true, decide_eq_true_eq] at ey
    simp only [List.mem_cons, List.not_mem_nil, or_false] at hp
    omega
  have hl : ∀ l : List Rw, (l.flatMap fun y => [y.ns, y.ew]).length = 2 * l.length := fun l => by
    induction l with
    | nil => rfl
    | cons a l ih => rw [List.flatMap_cons, List.length_append, ih, List.length_cons]; simp; omega
  rw [hl] at hb
  unfold setN
  rw [List.countP_eq_length_filter]
  exact hb
theorem fair_many {T N S C : Int} {Q : Nat} {L : List Rw} (h : Fair T N S C Q L) (hQ : Q ≤ 49) : manyB L = false := by
  unfold manyB
  rw [List.any_eq_false]
  intro x _
  have := fair_setN h x.s
  simp
  omega
theorem fair_ses {m : Mv} {Q : Nat} {b : Int} (hp : frameP m) (hf : Fair m.tables m.rounds m.sets m.copies Q m.rows) (hQ : Q ≤ 49) : sesE m b = if b < 1 ∨ 128 / m.sets < b then 282 else 0 := by
  obtain ⟨h1, h2⟩ := fair_pass (lim := big) (by decide) hp hf
  have h3 := fair_faults (lim := big) (by decide) hf
  unfold sesE
  rw [if_neg (by simp [h2]), h3, if_neg (by simp), fair_many hf hQ]
  simp
end Go.Idl
namespace Go.Idl
set_option linter.all false
open Go.Proofs
set_option maxHeartbeats 4000000
set_option maxRecDepth 40000

theorem Fair.mono {T N S C Q Q' : Int} {L : List Rw} (h : Fair T N S C Q L) (hQ : Q ≤ Q') : Fair T N S C Q' L :=
  ⟨fun x hx => by have := h.rng x hx; omega, h.pw, h.load⟩
/-- A movement as Made makes it. -/
structure MdOK (M : Mv) (T N : Nat) : Prop where
  tb : M.tables = T
  rd : M.rounds = N
  t1 : 2 ≤ T
  t2 : T ≤ 24
  n1 : 1 ≤ N
  n2 : N ≤ 47
  s1 : 1 ≤ M.sets
  s2 : M.sets ≤ 47
  c1 : 1 ≤ M.copies
  w : M.winners = 1 ∨ M.winners = 2
  len : M.rows.length = N * T
  fair : Fair M.tables M.rounds M.sets M.copies ((2 * T + 1 : Nat) : Int) M.rows
  row : ∀ q (h : q < M.rows.length), M.rows[q].r = (q / T : Nat) ∧ M.rows[q].t = (q % T : Nat) ∧ 1 ≤ M.rows[q].ns ∧ 1 ≤ M.rows[q].ew
theorem MdOK.frame {M : Mv} {T N : Nat} (h : MdOK M T N) : frameP M := by
  refine ⟨?_, ?_, ?_, ?_, h.s1, ?_, h.c1, h.w, ?_⟩
  · rw [h.tb]; have := h.t1; omega
  · rw [h.tb]; have := h.t2; omega
  · rw [h.rd]; have := h.n1; omega
  · rw [h.rd]; have := h.n2; omega
  · have := h.s2; omega
  · rw [h.tb, h.rd, h.len, Int.mul_comm (T : Int)]; simp
theorem MdOK.len_le {M : Mv} {T N : Nat} (h : MdOK M T N) : M.rows.length ≤ 1128 := by
  rw [h.len]; exact Nat.mul_le_mul h.n2 h.t2
theorem MdOK.len_pos {M : Mv} {T N : Nat} (h : MdOK M T N) : 2 ≤ M.rows.length := by
  rw [h.len]; exact Nat.mul_le_mul h.n1 h.t1
theorem IsMade.ok {M : Mv} {K : Int} {rov : Bool} {T N : Nat} (h : IsMade M K rov T N) : MdOK M T N := by
  obtain ⟨h1, h2, h3, h4, h5, h6⟩ := h.head
  have d := h.dsg.2
  have := h.le
  have := h.nle
  have := h.n1
  have hc : 1 ≤ copK K := by unfold copK; split <;> omega
  exact ⟨h1, h2, by omega, by omega, by omega, by omega, by omega, by omega, by omega, .inr h4, h5, h.fair.mono (by omega), fun q hq => h.row hq⟩
theorem web_ok {k : Int} {T N : Nat} (hW : Web.Wk k T) (h1 : 1 ≤ N) (h2 : (N : Int) ≤ Web.most T k) : MdOK ⟨T, N, Web.sets T k, Web.cops T k, 2, Web.rowsX k T N⟩ T N := by
  have hm := Web.most_le hW
  have hs := Web.sets_pos hW
  have h3 := hW.2
  have hs2 : Web.sets T k ≤ 47 := by
    unfold Web.sets
    split
    · omega
    · split <;> omega
  have hc : 1 ≤ Web.cops T k := by unfold Web.cops; split <;> omega
  refine ⟨rfl, rfl, by omega, by omega, h1, by omega, by simp only; omega, hs2, hc, .inr rfl, Web.rowsX_length N, (Web.fair_rows hW h2).mono (by omega), fun q hq => ?_⟩
  simp only
  rw [Web.rowsX_get (by omega)]
  have := Int.emod_nonneg (((q % T : Nat) : Int) - (q / T : Nat) + T) (show (T : Int) ≠ 0 by omega)
  unfold Web.row
  exact ⟨rfl, rfl, by simp only; omega, by simp only; omega⟩
/-- A movement of package howell as a movement. -/
def cvM (m : How.Mov) : Mv := ⟨m.t, m.r, m.s, m.c, m.w, m.l.map cvH⟩
theorem cvM_v (m : How.Mov) : m.v = (cvM m).v := by simp [How.Mov.v, Mv.v, cvM, rws_cvH]
theorem how_ok {T N : Nat} (t1 : 2 ≤ T) (t2 : T ≤ 24) (n1 : 1 ≤ N) (n2 : (N : Int) ≤ 2 * T - 1) : MdOK (cvM (How.makeM T N)) T N ∧ How.makeE T N = 0 := by
  obtain ⟨bad, hl, hg, hst⟩ := How.stN_good T (by omega) t1
  have c := How.chk_st T t1 t2
  have m1 := How.make_at T N t1 t2 c.2 (by omega) n2
  have hT : ((2 * (T : Int) - 1) + 1).tdiv 2 = T := by rw [Int.tdiv_eq_ediv_of_nonneg (by omega)]; omega
  have hl2 : (How.stN T).length + 1 = T := by
    rw [Int.tdiv_eq_ediv_of_nonneg (by omega)] at hl; omega
  obtain ⟨C, hC⟩ : ∃ C : Int, (if How.hpb T = true then (1 : Int) else T) = C := ⟨_, rfl⟩
  have hC3 : (How.Str (2 * (T : Int) - 1) (How.stN T) ∧ C = 1) ∨ C = T := by
    rw [← hC]
    cases hh : How.hpb T with
    | true => rw [hh] at hst; exact .inl ⟨of_decide_eq_true hst, rfl⟩
    | false => exact .inr rfl
  refine ⟨?_, m1.2⟩
  rw [m1.1, How.movOf, hT, c.1, hC]
  unfold cvM
  simp only [Int.toNat_natCast]
  have hf := How.fair_how (n := 2 * (T : Int) - 1) (T := T) (l := How.stN T) (by omega) hl2 hg (R := N) (C := C) n2 hC3
  have hll : (How.rowsL (2 * (T : Int) - 1) T (How.stN T) N).length = N * T := by rw [How.rowsL_length, hl2]
  refine ⟨rfl, rfl, t1, t2, n1, by omega, by simp only; omega, by simp only; omega, by rcases hC3 with h | h <;> simp only <;> omega, .inl rfl, by simp [hll], hf.mono (by omega), fun q hq => ?_⟩
  have hq' : q < (How.rowsL (2 * (T : Int) - 1) T (How.stN T) N).length := by simpa using hq
  have hm : q % T < T := Nat.mod_lt _ (by omega)
  have hdm : q / T * T + q % T = q := by rw [Nat.mul_comm]; exact Nat.div_add_mod _ _
  have ha := How.rows_at (2 * (T : Int) - 1) T (How.stN T) (by omega) (q / T) (q % T) (by rw [hl2]; exact hm) N _ (by rw [hl2, hdm]; exact List.getElem?_eq_getElem hq')
  have hb := How.row_bd hg (r := q / T) (t := q % T) (by omega) (by rw [hl2]; exact hm)
  simp only [List.getElem_map]
  rw [ha.2]
  unfold cvH
  simp only
  omega
/-- Chapter 28's Made. -/
noncomputable def md28 (t r k : Int) : Mv := if k % 8 < 4 then mdM t r (k % 4) else if k % 8 < 7 then Web.mM t r (k % 8 - 4) else cvM (How.makeM (2 + t % 23) (1 + r % (2 * (2 + t % 23) - 1)))
theorem md28_ok {t r k : Int} (ht : 0 ≤ t) (hr : 0 ≤ r) (hk : 0 ≤ k) : ∃ T N : Nat, MdOK (md28 t r k) T N := by
  unfold md28
  split
  · obtain ⟨T, N, h, _⟩ := made_is (k := k % 4) ht hr (by omega)
    exact ⟨T, N, h.ok⟩
  · split
    · have h := Web.mT_ok (t := t) (k := k % 8 - 4) ht (by omega)
      have hW := Web.wk_of h.2.2.1
      obtain ⟨T, hT⟩ : ∃ T : Nat, Web.mT t (k % 8 - 4) = T := ⟨(Web.mT t (k % 8 - 4)).toNat, by omega⟩
      have m1 := Int.emod_nonneg r (show Web.most (Web.mT t (k % 8 - 4)) (Web.mK (k % 8 - 4)) ≠ 0 by omega)
      have m2 := Int.emod_lt_of_pos r (show 0 < Web.most (Web.mT t (k % 8 - 4)) (Web.mK (k % 8 - 4)) by omega)
      have hN : Web.mN t r (k % 8 - 4) = 1 + r % Web.most (Web.mT t (k % 8 - 4)) (Web.mK (k % 8 - 4)) := rfl
      obtain ⟨N, hN'⟩ : ∃ N : Nat, Web.mN t r (k % 8 - 4) = N := ⟨(Web.mN t r (k % 8 - 4)).toNat, by omega⟩
      unfold Web.mM
      rw [hT] at h hW m2 hN ⊢
      rw [hT] at m1
      rw [hN'] at hN ⊢
      refine ⟨T, N, ?_⟩
      have hb : 1 ≤ N ∧ (N : Int) ≤ Web.most T (Web.mK (k % 8 - 4)) := by omega
      have e0 : Web.makeE (Web.mK (k % 8 - 4)) T N = 0 := by
        unfold Web.makeE
        rw [if_neg (by simp [h.2.2.1]), if_neg (by omega), if_neg (by omega)]
      have e1 : Web.makeM (Web.mK (k % 8 - 4)) T N = ⟨T, N, Web.sets T (Web.mK (k % 8 - 4)), Web.cops T (Web.mK (k % 8 - 4)), 2, Web.rowsX (Web.mK (k % 8 - 4)) T N⟩ := by
        unfold Web.makeM; rw [if_pos e0]; simp
      rw [e1]
      exact web_ok hW hb.1 hb.2
    · obtain ⟨T, hT⟩ : ∃ T : Nat, 2 + t % 23 = T := ⟨(2 + t % 23).toNat, by omega⟩
      rw [hT]
      have m1 := Int.emod_nonneg r (show 2 * (T : Int) - 1 ≠ 0 by omega)
      have m2 := Int.emod_lt_of_pos r (show 0 < 2 * (T : Int) - 1 by omega)
      obtain ⟨N, hN⟩ : ∃ N : Nat, 1 + r % (2 * (T : Int) - 1) = N := ⟨(1 + r % (2 * (T : Int) - 1)).toNat, by omega⟩
      rw [hN]
      exact ⟨T, N, (how_ok (by omega) (by omega) (by omega) (by omega)).1⟩
end Go.Idl
