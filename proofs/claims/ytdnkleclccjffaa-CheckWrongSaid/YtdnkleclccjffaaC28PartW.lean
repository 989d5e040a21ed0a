/-
  Chapter 28: tells.
-/
import Derived.Test.YtdnkleclccjffaaC28PartV
import Derived.Test.YtdnkleclccjffaaC28PartP
import Derived.Test.YtdnkleclccjffaaC28PartD
namespace Go.Idl
set_option linter.all false
open Go.Proofs
set_option maxHeartbeats 16000000
set_option maxRecDepth 40000

def kOK (f : Flt) : Prop := 0 ≤ f.k ∧ f.k ≤ 6
theorem rowF_kind (m : Mv) (lim : Int) (S : Mem) (i : Int) (x : Rw) : ∀ f ∈ rowF m lim S i x, kOK f := by
  have ag : ∀ k key l, 0 ≤ k → k ≤ 6 → ∀ f ∈ agL i k S key l, kOK f := fun k key l h0 h1 f hf => by
    simp only [agL, List.mem_flatMap] at hf
    obtain ⟨p, _, hf⟩ := hf
    unfold ag1 at hf
    split at hf
    · simp at hf
    · simp at hf; subst hf; exact ⟨h0, h1⟩
  have one : ∀ (c : Prop) [Decidable c] (g : Flt), kOK g → ∀ f ∈ (if c then [g] else []), kOK f := fun c _ g hg f hf => by
    split at hf
    · simp at hf; subst hf; exact hg
    · simp at hf
  intro f hf
  unfold rowF at hf
  simp only [List.mem_append] at hf
  rcases hf with (((hf | hf) | hf) | hf) | hf
  · exact one _ _ ⟨by simp, by simp⟩ f hf
  · exact ag 3 _ _ (by omega) (by omega) f hf
  · exact one _ _ ⟨by simp, by simp⟩ f hf
  · split at hf
    · exact ag 5 _ _ (by omega) (by omega) f hf
    · simp at hf
  · exact one _ _ ⟨by simp, by simp⟩ f hf
theorem fRun_kind {m : Mv} {lim : Int} (rest : List Rw) : ∀ (i : Nat) (F : List Flt) (S : Mem), (∀ f ∈ F, kOK f) → ∀ f ∈ (fRun m lim i rest (F, S)).1, kOK f := by
  induction rest with
  | nil => intro i F S h; exact h
  | cons x rest ih =>
    intro i F S h
    rw [fRun]
    unfold fStep
    simp only
    split
    · refine ih _ _ _ fun f hf => ?_
      rw [List.mem_append] at hf
      rcases hf with hf | hf
      · exact h f hf
      · simp at hf; subst hf; exact ⟨by simp, by simp⟩
    · refine ih _ _ _ fun f hf => ?_
      rw [List.mem_append] at hf
      rcases hf with hf | hf
      · exact h f hf
      · exact rowF_kind _ _ _ _ _ f hf
theorem faults_kind {m : Mv} {lim : Int} : ∀ f ∈ faultsOf m lim, kOK f := by
  unfold faultsOf
  split
  · exact fRun_kind _ _ _ _ (by simp)
  · simp
theorem tells_fun (m : Mv) (bo lim a b : Int) (hl : m.rows.length ≤ 200) (hb : -2 ^ 63 ≤ b ∧ b < 2 ^ 63) : FN 11 [sesV m bo, .int .i64 lim, .int .i64 a, .int .i64 b] (fun v => v = .bool true) := by
  refine IFun.of_bodyZ false 29 [170, 171, 172, 173, 174, 192] Try.func11 rfl Try.call11 rfl fun R hR => ?_
  have hpl := playsL_len m.rows a
  simp [go_sem, sesV]
  refine (lentSession_calls m bo (by omega)).at [] (by simp [go_sem, sesV]) ?_
  rintro _ _ ⟨rfl, rfl⟩
  simp [go_sem, sesO, lentO]
  refine (faults_c m lim).callF (by simp [go_sem, Mv.v]) ?_
  rintro _ rfl
  simp [go_sem]
  refine (refFaults_c m lim).callF (by simp [go_sem, Mv.v]) ?_
  rintro _ rfl
  simp [go_sem]
  refine (passes_fun m lim).callF (by simp [go_sem, Mv.v]) ?_
  rintro _ rfl
  simp [go_sem]
  refine (plays_fun m a (by omega)).callOF (by simp [go_sem, Mv.v]) ?_
  rintro _ rfl
  refine ⟨fun v => v, 1, _, .here, by decide, rfl, by simp [go_sem], ?_⟩
  simp [go_sem]
  refine (set_fun28 m bo b hb).callF (by simp [go_sem, sesV]) ?_
  rintro _ rfl
  simp [go_sem]
  refine (refSet_fun m bo b).callF (by simp [go_sem, sesV]) ?_
  rintro _ rfl
  simp [go_sem]
  refine (boards_fun28 m bo b).callF (by simp [go_sem, sesV]) ?_
  rintro _ rfl
  simp [go_sem]
  refine (refBoards_fun m bo b).callF (by simp [go_sem, sesV]) ?_
  rintro _ rfl
  simp [go_sem]
  have c1 := frame_fun m
  have c2 := frame2_fun m
  have c3 := meets_fun m a b (by omega)
  have c4 := meets2_fun m a b (by omega)
  have c5 := plays2_fun m a (by omega)
  have c6 := sameInts_fun (playsL m.rows a) (playsL m.rows a) (by omega)
  have c7 := session_fun m bo
  have c8 := refSession_fun m bo
  have hpB : passB m lim = (errF m lim == 0 && ((faultsOf m lim).length : Int) == 0) := by
    unfold passB
    cases faultsOf m lim with
    | nil => simp; rfl
    | cons f L => simp; omega
  rw [hpB]
  simp only [Mv.v, sesV] at c1 c2 c3 c4 c5 c7 c8
  refine Drawn.intro (fun k => if k = 2 then .bool (decide (frameP m)) else if k = 5 then .bool (decide (frameP m)) else if k = 40 then .int .i64 (meetsN m.rows a b) else if k = 45 then .int .i64 (meetsN m.rows a b) else if k = 53 then .fz 1 (ints (playsL m.rows a)) else if k = 54 then .bool true else if k = 59 then .int .i64 (sesE m bo) else if k = 61 then .int .i64 (sesE m bo) else .tup []) ?_
  simp [go_sem, c1, c2, c3, c4, c5, c6, c7, c8]
  have hcl1 : ∀ row ∈ rws m.rows, ∀ c ∈ row, Cl c := ScR.cl (mp_sc (by simp [scal, Rw.c]))
  have hcl2 : ∀ row ∈ ints (playsL m.rows a), ∀ c ∈ row, Cl c := ScR.cl (mp_sc (by simp [scal]))
  have htk : List.take (playsL m.rows a).length (ints (playsL m.rows a)) = ints (playsL m.rows a) := List.take_of_length_le (by simp)
  rw [htk]
  refine ⟨hcl1, ⟨hcl2, .inl (by simpa using c6)⟩, hcl1, by decide +kernel, ?_⟩
  have hfl := faults_len (m := m) (lim := lim)
  have hkind := faults_kind (m := m) (lim := lim)
  refine IWp.loopT (α := Nat) (fun i => (⟨false, 199, 29, [170, 171, 172, 173, 174, 192], [], [(4, .ptr 0 1 0 0), (9, .ptr 6 1 0 0), (12, .fz 4 (fltr (faultsOf m lim))), (16, .sl 7 (playsL m.rows a).length 0 (playsL m.rows a).length none), (171, .fz 4 (flts (faultsOf m lim))), (172, .int .i64 (faultsOf m lim).length), (173, .int .i64 (i : Int))], []⟩,
      [.rows 7 [scells m bo], .dead, .dead, .dead, .dead, lentO m.rows, .rows 7 [(sesO m bo 5).cells], .rows 1 (ints (playsL m.rows a))]))
    (fun i => i ≤ (faultsOf m lim).length) (fun i => (faultsOf m lim).length - i) 0 (by simp) (by simp [go_sem, scells, lentO, sesO, IV.cells]) ?_
  intro i hi
  by_cases h : i < (faultsOf m lim).length
  · have w1 : IntKind.i64.wrap ((i : Int) + 1) = i + 1 := wrap64 (by omega) (by omega)
    have hk := hkind _ (List.getElem_mem h)
    generalize hx : (faultsOf m lim)[i] = f at *
    have w2 : IntKind.i64.wrap f.k = f.k := wrap64 (by have := hk.1; omega) (by have := hk.2; omega)
    simp [go_sem, scells, lentO, sesO, IV.cells, h, hx, w1, w2]
    exact ⟨by decide +kernel, i + 1, rfl, by omega, by omega⟩
  · have : i = (faultsOf m lim).length := by omega
    subst this
    simp [go_sem, scells, lentO, sesO, IV.cells]
    refine overInts_calls (rs := ints (playsL m.rows a)) rfl (by simp) (by omega) ?_
    simp [go_sem]
    refine (keptSession_calls m bo (by omega)).at [5] (by simp [go_sem, sesO, sesV, lentO]) ?_
    rintro _ _ ⟨rfl, rfl⟩
    simp [go_sem]
    exact hR _ _ _ rfl (by simp [go_sem])
end Go.Idl
