/-
  Chapter 28: meet, in, seats, encounter, Frame.
  Chapter 28: Meets and Plays, of the program and of the reference.
  Chapter 28: the memory of what rows show.
-/
import Derived.Test.YteedopeniojppaaGreatCtopmPartB
namespace Go.Idl
set_option linter.all false
open Go.Proofs
set_option maxHeartbeats 4000000
set_option maxRecDepth 40000

def meetB (x : Rw) : Bool := decide (0 < x.ns) && decide (0 < x.ew) && x.ns != x.ew
theorem meet_fun (x : Rw) : FN 21 [x.v] (fun v => v = .bool (meetB x)) := by
  refine IFun.of_bodyZ false 3 [] Tryz.func21 rfl Tryz.call21 rfl fun R hR => ?_
  simp [go_sem, Rw.v]
  exact hR _ _ _ rfl (by simp [go_sem, meetB])
def inB (x : Rw) (p : Int) : Bool := decide (0 < p) && (x.ns == p || x.ew == p)
def seatsL (x : Rw) : List Int := (if 0 < x.ns then [x.ns] else []) ++ (if 0 < x.ew ∧ x.ew ≠ x.ns then [x.ew] else [])
theorem seats_fun (x : Rw) : FN 92 [x.v] (fun v => v = .fz 1 (ints (seatsL x))) := by
  refine IFun.of_bodyZ false 4 [6, 21] Tryz.func92 rfl Tryz.call92 rfl fun R hR => ?_
  by_cases h1 : 0 < x.ns
  · by_cases h2 : 0 < x.ew
    · by_cases h3 : x.ew = x.ns
      · simp [go_sem, Rw.v, h1, h2, h3]
        exact hR _ _ _ rfl (by simp [go_sem, seatsL, h1, h2, h3, ints_cons])
      · simp [go_sem, Rw.v, h1, h2, h3]
        exact hR _ _ _ rfl (by simp [go_sem, seatsL, h1, h2, h3, ints_cons])
    · simp [go_sem, Rw.v, h1, h2]
      exact hR _ _ _ rfl (by simp [go_sem, seatsL, h1, h2, ints_cons])
  · by_cases h2 : 0 < x.ew
    · have h3 : ¬ x.ew = x.ns := by omega
      simp [go_sem, Rw.v, h1, h2, h3]
      exact hR _ _ _ rfl (by simp [go_sem, seatsL, h1, h2, h3, ints_cons])
    · simp [go_sem, Rw.v, h1, h2]
      exact hR _ _ _ rfl (by simp [go_sem, seatsL, h1, h2, ints_cons])
/-- A thing that a row shows. -/
structure Th where
  k : Int
  a : Int
  b : Int
  deriving DecidableEq
def Th.v (t : Th) : IV := .agg [.int .u8 t.k, .int .i64 t.a, .int .i64 t.b]
def encT (x : Rw) : Th := ⟨6, min x.ns x.ew, max x.ns x.ew⟩
theorem encounter_fun (x : Rw) : FN 101 [x.v] (fun v => v = (encT x).v) := by
  refine IFun.of_bodyZ false 3 [] Tryz.func101 rfl Tryz.call101 rfl fun R hR => ?_
  simp [go_sem, Rw.v]
  refine hR _ _ _ rfl ?_
  simp [go_sem, encT, Th.v]
  omega
def frameP (m : Mv) : Prop := 1 ≤ m.tables ∧ m.tables ≤ 24 ∧ 1 ≤ m.rounds ∧ m.rounds ≤ 47 ∧ 1 ≤ m.sets ∧ m.sets ≤ 128 ∧ 1 ≤ m.copies ∧ (m.winners = 1 ∨ m.winners = 2) ∧ (m.rows.length : Int) ≤ m.tables * m.rounds
instance (m : Mv) : Decidable (frameP m) := by unfold frameP; infer_instance
theorem frame_mul {m : Mv} (h1 : 1 ≤ m.tables) (h2 : m.tables ≤ 24) (h3 : 1 ≤ m.rounds) (h4 : m.rounds ≤ 47) : IntKind.i64.wrap (m.tables * m.rounds) = m.tables * m.rounds := by
  have h5 : m.tables * m.rounds ≤ 24 * 47 := Int.mul_le_mul h2 h4 (by omega) (by omega)
  have h6 : 0 ≤ m.tables * m.rounds := Int.mul_nonneg (by omega) (by omega)
  exact wrap64 (by omega) (by omega)
theorem frame_fun (m : Mv) : FN 63 [m.v] (fun v => v = .bool (decide (frameP m))) := by
  refine IFun.of_bodyZ false 3 [] Tryz.func63 rfl Tryz.call63 rfl fun R hR => ?_
  have hw : (1 ≤ m.tables ∧ m.tables ≤ 24) ∧ 1 ≤ m.rounds ∧ m.rounds ≤ 47 → IntKind.i64.wrap (m.tables * m.rounds) = m.tables * m.rounds := fun h => frame_mul h.1.1 h.1.2 h.2.1 h.2.2
  simp [go_sem, Mv.v]
  refine ⟨fun a b c d e f g h => ⟨⟨⟨⟨⟨⟨⟨a, b⟩, c⟩, d⟩, e⟩, f⟩, g⟩, h⟩, hR _ _ _ rfl ?_⟩
  simp [go_sem, frameP]
  grind
end Go.Idl
namespace Go.Idl
set_option linter.all false
open Go.Proofs
set_option maxHeartbeats 4000000
set_option maxRecDepth 40000

def bothB (a b : Int) (x : Rw) : Bool := meetB x && (x.ns == a && x.ew == b || x.ns == b && x.ew == a)
theorem both_eq (a b : Int) (x : Rw) : (meetB x && inB x a && inB x b && a != b) = bothB a b x := by
  unfold bothB meetB inB
  rw [Bool.eq_iff_iff]
  simp
  omega
def meetsN (l : List Rw) (a b : Int) : Nat := l.countP (bothB a b)
theorem countP_succ {α : Type} {p : α → Bool} {l : List α} {i : Nat} (h : i < l.length) : (l.take (i + 1)).countP p = (l.take i).countP p + if p l[i] = true then 1 else 0 := by
  rw [List.take_succ_eq_append_getElem h, List.countP_append]; simp [List.countP_cons]
def playB (p : Int) (x : Rw) : Bool := meetB x && (x.ns == p || x.ew == p)
theorem play_eq (p : Int) (x : Rw) : (meetB x && inB x p) = playB p x := by
  unfold playB meetB inB
  rw [Bool.eq_iff_iff]
  simp
  omega
def playsL (l : List Rw) (p : Int) : List Int := (l.filter (playB p)).map (·.s)
theorem playsL_succ {l : List Rw} {p : Int} {i : Nat} (h : i < l.length) : playsL (l.take (i + 1)) p = playsL (l.take i) p ++ if playB p l[i] = true then [l[i].s] else [] := by
  unfold playsL
  rw [List.take_succ_eq_append_getElem h, List.filter_append, List.map_append]
  congr 1
  cases hb : playB p l[i] <;> simp [hb]
theorem playsL_len (l : List Rw) (p : Int) : (playsL l p).length ≤ l.length := by unfold playsL; rw [List.length_map]; exact List.length_filter_le _ _
end Go.Idl
namespace Go.Idl
set_option linter.all false
open Go.Proofs
set_option maxHeartbeats 4000000
set_option maxRecDepth 40000

def mkV2 (m : Int × Int) : IV := .agg [.int .i64 m.1, .int .i64 m.2]
abbrev Mem := List (Th × (Int × Int))
def enT (S : Mem) : List (IV × IV) := enM Th.v mkV2 S
theorem keT (a b : Th) : keq a.v b.v = decide (a = b) := by
  unfold keq
  simp only [Th.v, IV.cells, ceqs, ceq]
  cases a; cases b
  simp
  grind
theorem mget_t (t : Th) (S : Mem) : mget t.v (enT S) = (aget t S).map mkV2 := mget_en keT t S
theorem mset_t (t : Th) (m : Int × Int) (S : Mem) : mset t.v (mkV2 m) (enT S) = enT (aset t m S) := mset_en keT t m S
theorem ok_t (S : Mem) : ∀ e ∈ enT S, keyOK Tryz.prog 123 [.int .u8, .int .i64, .int .i64] e.1 = true := en_ok (fun a => by simp [go_sem, keyOK, Th.v]) S
@[go_sem] theorem bl_t {n : Nat} {S : Mem} : BlM n (enT S) = True := eq_true (en_bl (fun a => by simp [go_sem, Th.v]) (fun b => by simp [go_sem, mkV2]) S)
@[go_sem] theorem ren_t {π : Nat → Nat} {S : Mem} : renM π (enT S) = enT S := renM_cl fun e he => by
  simp only [enT, enM, List.mem_map] at he
  obtain ⟨p, _, rfl⟩ := he
  simp [go_sem, Th.v, mkV2]
def memH (i : Int) (S : Mem) : Heap := [.rows 2 [[.int .i64 i, .map 1]], .map (enT S)]
def put1 (i : Int) (t : Th) (S : Mem) : Mem := match aget t S with
  | none => aset t (i, 1) S
  | some (f, c) => aset t (f, c + 1) S
def MemOK (S : Mem) : Prop := ∀ t f c, aget t S = some (f, c) → 0 ≤ c ∧ c < 2 ^ 40
theorem put_calls (i : Int) (t : Th) (S : Mem) (hS : MemOK S) : ICalls Tryz.prog [] 64 [.ptr 0 1 0 0, t.v] (memH i S) (fun v σ' => v = .tup [] ∧ σ' = memH i (put1 i t S)) := by
  refine ICalls.forget (ICalls.of_bodyE false 6 [16] Tryz.func64 rfl Tryz.call64 rfl fun R hR => ?_)
  have hok : ∀ (S : Mem) (a b : IV), (a, b) ∈ enT S → keyOK Tryz.prog 123 [.int .u8, .int .i64, .int .i64] a = true := fun S a b h => ok_t S (a, b) h
  have hg := mget_t t S
  simp only [Th.v] at hg
  have hs : ∀ m, mset (.agg [.int .u8 t.k, .int .i64 t.a, .int .i64 t.b]) (.agg [.int .i64 m.1, .int .i64 m.2]) (enT S) = enT (aset t m S) := fun m => mset_t t m S
  cases hk : aget t S with
  | none =>
    have hp : put1 i t S = aset t (i, 1) S := by unfold put1; rw [hk]
    have hs1 := hs (i, 1)
    simp only at hs1
    have w1 : IntKind.i64.wrap 1 = 1 := wrap64 (by omega) (by omega)
    simp [go_sem, memH, Th.v, hg, hk, w1, hs1]
    refine ⟨fun a b h => by simpa [go_sem, keyOK] using hok S a b h, by decide +kernel, fun a b h => by simpa [go_sem, keyOK] using hok S a b h, by decide +kernel, hR _ _ ⟨memH i (put1 i t S), ?_, rfl, rfl⟩⟩
    simp [go_sem, memH, hp]
  | some m =>
    obtain ⟨f, c⟩ := m
    have hp : put1 i t S = aset t (f, c + 1) S := by unfold put1; rw [hk]
    have hb := hS t f c hk
    have w1 : IntKind.i64.wrap (c + 1) = c + 1 := wrap64 (by omega) (by omega)
    have hs1 := hs (f, c + 1)
    simp only at hs1
    simp [go_sem, memH, Th.v, hg, hk, mkV2, w1, hs1]
    refine ⟨fun a b h => by simpa [go_sem, keyOK] using hok S a b h, by decide +kernel, fun a b h => by simpa [go_sem, keyOK] using hok S a b h, by decide +kernel, hR _ _ ⟨memH i (put1 i t S), ?_, rfl, rfl⟩⟩
    simp [go_sem, memH, hp]

/-! ### what is known of the rows before -/
/-- All that a row shows. -/
def shL (x : Rw) : List Th := [⟨1, x.r, x.t⟩, ⟨4, x.r, x.s⟩] ++ (seatsL x).flatMap (fun p => ⟨3, x.r, p⟩ :: (if meetB x = true then [⟨5, p, x.s⟩] else [])) ++ (if meetB x = true then [encT x] else [])
abbrev Bef := List (Nat × Rw)
def lookM (t : Th) (bf : Bef) : Option (Int × Int) := match bf.filter (fun y => (shL y.2).contains t) with
  | [] => none
  | y :: l => some ((y.1 : Int), (l.length : Int) + 1)
def MemI (S : Mem) (bf : Bef) : Prop := ∀ t, aget t S = lookM t bf
theorem lookM_snoc (t : Th) (bf : Bef) (i : Nat) (x : Rw) : lookM t (bf ++ [(i, x)]) = if t ∈ shL x then (match lookM t bf with | none => some ((i : Int), 1) | some (f, c) => some (f, c + 1)) else lookM t bf := by
  unfold lookM
  rw [List.filter_append]
  by_cases h : t ∈ shL x
  · rw [if_pos h]
    have : List.filter (fun y : Nat × Rw => (shL y.2).contains t) [(i, x)] = [(i, x)] := by simp [h]
    rw [this]
    cases hf : bf.filter (fun y => (shL y.2).contains t) with
    | nil => simp
    | cons y l => simp
  · rw [if_neg h]
    have : List.filter (fun y : Nat × Rw => (shL y.2).contains t) [(i, x)] = [] := by simp [h]
    rw [this, List.append_nil]
theorem lookM_ok (t : Th) (bf : Bef) (h : bf.length < 2 ^ 40) : ∀ f c, lookM t bf = some (f, c) → 0 ≤ c ∧ c < 2 ^ 40 := by
  intro f c hh
  unfold lookM at hh
  have hl := List.length_filter_le (fun y : Nat × Rw => (shL y.2).contains t) bf
  split at hh
  · cases hh
  · rename_i y l e
    rw [e] at hl
    simp at hl hh
    omega
theorem aget_put1 (i : Int) (t u : Th) (S : Mem) : aget u (put1 i t S) = if u = t then (match aget t S with | none => some (i, 1) | some (f, c) => some (f, c + 1)) else aget u S := by
  unfold put1
  cases h : aget t S with
  | none => simp only; rw [aget_aset]
  | some m => obtain ⟨f, c⟩ := m; simp only; rw [aget_aset]
def putL (i : Int) (l : List Th) (S : Mem) : Mem := l.foldl (fun S t => put1 i t S) S
theorem aget_putL (i : Int) (u : Th) : ∀ (l : List Th) (S : Mem), l.Nodup → aget u (putL i l S) = if u ∈ l then (match aget u S with | none => some (i, 1) | some (f, c) => some (f, c + 1)) else aget u S
  | [], S, _ => by simp [putL]
  | t :: l, S, h => by
    rw [List.nodup_cons] at h
    show aget u (putL i l (put1 i t S)) = _
    rw [aget_putL i u l _ h.2, aget_put1]
    by_cases e : u = t
    · subst e
      rw [if_neg h.1, if_pos rfl]; simp
    · rw [if_neg e]
      simp [e]
theorem shL_nodup (x : Rw) : (shL x).Nodup := by
  unfold shL seatsL encT meetB
  by_cases h1 : 0 < x.ns <;> by_cases h2 : 0 < x.ew <;> by_cases h3 : x.ns = x.ew <;> simp [h1, h2, h3, eq_comm (a := x.ew)] <;> try omega
theorem putL_mem {S : Mem} {bf : Bef} (h : MemI S bf) (i : Nat) (x : Rw) : MemI (putL i (shL x) S) (bf ++ [(i, x)]) := fun t => by
  rw [aget_putL _ _ _ _ (shL_nodup x), lookM_snoc, h t]
end Go.Idl
