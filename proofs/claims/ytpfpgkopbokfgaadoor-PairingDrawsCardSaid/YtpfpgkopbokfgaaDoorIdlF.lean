/-
  Each operation of the model does what its ideal does: composites, slices.
-/
import Derived.Test.YtpfpgkopbokfgaaDoorIdlE
namespace Go.Idl
set_option linter.all false
open Go.RowKit

/-- A composite's parts, cell by cell, in the model and here. -/
theorem foldl_set_eq (off : Nat) : ∀ (vs : List Value) (k : Nat) (cs : Array Value), off + k + vs.length ≤ cs.size →
    ((vs.zipIdx k).foldl (fun cs (p : Value × Nat) => cs.setIfInBounds (off + p.2) p.1) cs).toList = splice (off + k) vs cs.toList
  | [], k, cs, _ => by simp [splice]
  | v :: vs, k, cs, h => by
    simp only [List.length_cons] at h
    rw [List.zipIdx_cons, List.foldl_cons, foldl_set_eq off vs (k + 1) _ (by simp; omega)]
    apply List.ext_getElem?
    intro x
    rw [getElem?_splice _ _ _ (by simp; omega), getElem?_splice _ _ _ (by simp; omega)]
    simp only [List.length_cons, Array.toList_setIfInBounds]
    by_cases h1 : x = off + k
    · subst h1
      rw [if_neg (by omega), if_pos (by omega)]
      simp [List.getElem?_set]
      omega
    · rw [List.getElem?_set_ne (by omega)]
      by_cases h2 : off + k + 1 ≤ x ∧ x < off + k + 1 + vs.length
      · rw [if_pos (by omega), if_pos (by omega)]
        have : x - (off + k) = (x - (off + k + 1)) + 1 := by omega
        rw [this, List.getElem?_cons_succ]
        congr 1
      · rw [if_neg (by omega), if_neg (by omega)]

section
variable {P : Program} {μ : Mu} {F : Fz} {w : World} {σ : Heap} {ev : Operand → Value} {ρ : Operand → Option IV}

theorem VRs.splice {vs news : List Value} {cs newsI : List IV} {o : Nat} (h : VRs μ F w vs cs) (hn : VRs μ F w news newsI) (hl : o + newsI.length ≤ cs.length) : VRs μ F w (splice o news vs) (Idl.splice o newsI cs) := by
  have e1 := h.1
  have e2 := hn.1
  refine ⟨by rw [length_splice _ _ _ (by omega), length_splice _ _ _ (by omega)]; exact e1, fun j v c h1 h2 => ?_⟩
  rw [getElem?_splice _ _ _ (by omega)] at h1 h2
  by_cases hj : o ≤ j ∧ j < o + newsI.length
  · rw [if_pos (by omega)] at h1; rw [if_pos hj] at h2
    exact hn.2 _ v c h1 h2
  · rw [if_neg (by omega)] at h1; rw [if_neg hj] at h2
    exact h.2 _ v c h1 h2

/-- The parts stand to each other. -/
def PartsR (μ : Mu) (F : Fz) (w : World) (ps : List (Nat × Value)) (qs : List (Nat × IV)) : Prop :=
  ps.length = qs.length ∧ ∀ (j : Nat) (p : Nat × Value) (q : Nat × IV), ps[j]? = some p → qs[j]? = some q → p.1 = q.1 ∧ VR μ F w p.2 q.2

theorem partsV_rel (hρ : ∀ x c, ρ x = some c → VR μ F w (ev x) c) : ∀ (l : List (Nat × Operand)) (qs : List (Nat × IV)), partsV ρ l = some qs → PartsR μ F w (l.map fun p => (p.1, ev p.2)) qs
  | [], qs, h => by simp [partsV] at h; subst h; exact ⟨rfl, by simp⟩
  | p :: l, qs, h => by
    simp only [partsV] at h
    split at h
    · rename_i a b h1 h2
      cases h
      have ih := partsV_rel hρ l b h2
      refine ⟨by simpa using ih.1, fun j p' q' e1 e2 => ?_⟩
      cases j with
      | zero => simp at e1 e2; subst e1; subst e2; exact ⟨rfl, hρ _ _ h1⟩
      | succ j => exact ih.2 j p' q' (by simpa using e1) (by simpa using e2)
    · cases h

theorem PartsR.cons {p : Nat × Value} {ps : List (Nat × Value)} {q : Nat × IV} {qs : List (Nat × IV)} (h : PartsR μ F w (p :: ps) (q :: qs)) : p.1 = q.1 ∧ VR μ F w p.2 q.2 ∧ PartsR μ F w ps qs :=
  ⟨(h.2 0 p q rfl rfl).1, (h.2 0 p q rfl rfl).2, by simpa using h.1, fun j p' q' e1 e2 => h.2 (j + 1) p' q' (by simpa using e1) (by simpa using e2)⟩

theorem fill_rel {pl pl' : Nat → Option (Nat × Nat)} (hpl : ∀ i x, pl i = some x → pl' i = some x) : ∀ (qs : List (Nat × IV)) (ps : List (Nat × Value)) (cs : Array Value) (cells out : List IV), PartsR μ F w ps qs → VRs μ F w cs.toList cells →
    fillP pl cells qs = some out → ∃ cs', Instr.fill pl' cs ps = some cs' ∧ VRs μ F w cs'.toList out
  | [], ps, cs, cells, out, hp, hc, h => by
    have : ps = [] := by simpa using hp.1
    subst this
    simp only [fillP, Option.some.injEq] at h; subst h
    exact ⟨cs, rfl, hc⟩
  | q :: qs, ps, cs, cells, out, hp, hc, h => by
    cases ps with
    | nil => simp [PartsR] at hp
    | cons p ps =>
      obtain ⟨p1, p2, hp'⟩ := hp.cons
      obtain ⟨i, v⟩ := q
      obtain ⟨i', u⟩ := p
      simp only at p1 p2
      subst p1
      simp only [fillP] at h
      split at h
      · cases h
      · rename_i off size hpi
        cases hb : (v.cells.length == size && Nat.ble (off + size) cells.length && v.cells.all IV.one) with
        | false => rw [hb] at h; cases h
        | true =>
          rw [hb] at h
          simp only [Bool.and_eq_true, beq_iff_eq, Nat.ble_eq] at hb
          obtain ⟨⟨hs, hle⟩, hone⟩ := hb
          simp only [cond_true] at h
          obtain ⟨hvc, _⟩ := VR.cells p2 hone
          have hl1 : u.cells.size = size := by have := hvc.1; simp at this; omega
          have hl2 : cs.size = cells.length := by have := hc.1; simpa using this
          have hspl := foldl_set_eq off u.cells.toList 0 cs (by simp; omega)
          have hrel := VRs.splice (o := off) hc hvc (by omega)
          have hz : (u.cells.zipIdx.foldl (fun cs (p : Value × Nat) => cs.setIfInBounds (off + p.2) p.1) cs).toList = splice off u.cells.toList cs.toList := by
            rw [← Array.foldl_toList, Array.toList_zipIdx]
            simpa using hspl
          obtain ⟨cs', h1, h2⟩ := fill_rel hpl qs ps (u.cells.zipIdx.foldl (fun cs (p : Value × Nat) => cs.setIfInBounds (off + p.2) p.1) cs) _ out hp' (by rw [hz]; exact hrel) h
          refine ⟨cs', ?_, h2⟩
          simp only [Instr.fill, hpl _ _ hpi]
          rw [if_neg (by simp; omega)]
          exact h1

theorem mapM_places : ∀ (fs : List Field), fs.all (fun f => hasP P f.type) = true → fs.mapM (fun f => (P.info? f.type).map fun i => (f.offset, i.size)) = some (fs.map fun f => (f.offset, sizeP P f.type))
  | [], _ => by simp
  | f :: fs, h => by
    simp only [List.all_cons, Bool.and_eq_true] at h
    obtain ⟨i, d, hi, _, hs, _⟩ := hasP_spec h.1
    simp [List.mapM_cons, hi, mapM_places fs h.2, hs]

theorem build_goes {t : TypeId} {parts : Array (Nat × Operand)} {nb : Nat} {r : Out} {c : Bool} (hρ : ∀ x c, ρ x = some c → VR μ F w (ev x) c) (h : iop P c (.build t parts) ρ σ nb = some r) :
    ∃ z, (Instr.build t (parts.map fun (i, x) => (i, ev x))).run P w = .ok z w ∧ VR μ F w z r.v ∧ r.w = none := by
  simp only [iop] at h
  split at h
  · rename_i fs z ps hu hz hps
    cases hall : (fs.toList.all fun f => hasP P f.type) with
    | false => rw [hall] at h; cases h
    | true =>
      rw [hall] at h
      simp only [cond_true] at h
      split at h
      · rename_i cs hf
        simp only [ok, Option.some.injEq] at h; subst h
        obtain ⟨i, v, hi, hzv, hvs, _⟩ := zeroP_spec (μ := μ) (F := F) (w := w) hz
        obtain ⟨cs', h1, h2⟩ := fill_rel (pl' := ((fs.toList.map fun f => (f.offset, sizeP P f.type)).toArray[·]?)) (fun i x hx => by
          unfold placeS at hx
          split at hx
          · rename_i f hf; cases hx; simp at hf ⊢; exact ⟨f, hf, rfl, rfl⟩
          · cases hx) ps _ v.cells z cs (partsV_rel hρ _ _ hps) hvs hf
        refine ⟨.agg cs', ?_, ?_, rfl⟩
        · refine run_build w t _ cs' ?_
          simp only [Program.built, hi, hu, hzv, mapM_places _ hall]
          simpa using h1
        · have := VR.agg (μ := μ) (F := F) (w := w) cs'.toList cs h2.1 h2.2
          simpa using this
      · cases h
  · rename_i n e z ps hu hz hps
    cases he : hasP P e with
    | false => rw [he] at h; cases h
    | true =>
      rw [he] at h
      simp only [cond_true] at h
      split at h
      · rename_i cs hf
        simp only [ok, Option.some.injEq] at h; subst h
        obtain ⟨i, v, hi, hzv, hvs, _⟩ := zeroP_spec (μ := μ) (F := F) (w := w) hz
        obtain ⟨ie, _, hie, _, hse, _⟩ := hasP_spec he
        obtain ⟨cs', h1, h2⟩ := fill_rel (pl' := fun i => some (i * ie.size, ie.size)) (fun i x hx => by rw [← hse]; exact hx) ps _ v.cells z cs (partsV_rel hρ _ _ hps) hvs hf
        refine ⟨.agg cs', ?_, ?_, rfl⟩
        · refine run_build w t _ cs' ?_
          simp only [Program.built, hi, hu, hzv, hie]
          simpa using h1
        · have := VR.agg (μ := μ) (F := F) (w := w) cs'.toList cs h2.1 h2.2
          simpa using this
      · cases h
  · cases h

/-- Rows laid one behind the other. -/
def RowsR (μ : Mu) (F : Fz) (w : World) (s : Nat) (cs : Array Value) (rs : List (List IV)) : Prop :=
  cs.size = rs.length * s ∧ (∀ (i : Nat) (row : List IV), rs[i]? = some row → row.length = s) ∧ ∀ (i : Nat) (row : List IV) (j : Nat) (c : IV), rs[i]? = some row → row[j]? = some c → ∃ v, cs[i * s + j]? = some v ∧ VR μ F w v c

theorem made_rows {z : Array Value} {zi : List IV} (hz : VRs μ F w z.toList zi) (n : Nat) : RowsR μ F w zi.length (madeCells z (n * zi.length)) (List.replicate n zi) := by
  have hzs : z.size = zi.length := by have := hz.1; simpa using this
  refine ⟨by simp [size_madeCells], fun i row e => ?_, fun i row j c e1 e2 => ?_⟩
  · rw [List.getElem?_replicate] at e
    split at e
    · cases e; rfl
    · cases e
  · rw [List.getElem?_replicate] at e1
    split at e1
    · rename_i hi
      cases e1
      have hj := (List.getElem?_eq_some_iff.1 e2).1
      have hlt : i * zi.length + j < n * zi.length := by
        have : (i + 1) * zi.length ≤ n * zi.length := Nat.mul_le_mul_right _ hi
        rw [Nat.add_mul] at this; omega
      have hmod : (i * zi.length + j) % z.size = j := by rw [hzs, Nat.mul_comm, Nat.mul_add_mod, Nat.mod_eq_of_lt hj]
      have hjz : j < z.size := by omega
      refine ⟨z[j], ?_, hz.2 j _ c (by simp [hjz]) e2⟩
      simp only [madeCells, Array.getElem?_map]
      rw [Array.getElem?_range]
      simp [hlt, hmod, hjz]
    · cases e1

theorem makeSlice_goes {t : TypeId} {x y : Operand} {nb : Nat} {r : Out} {c : Bool} (hρ : ∀ x c, ρ x = some c → VR μ F w (ev x) c) (hH : HR μ F σ w) (hnb : ¬ μ.u nb) (h : iop P c (.makeSlice t x y) ρ σ nb = some r) (hp : r.pre) :
    ∃ z w' μ', (Instr.makeSlice t (ev x) (ev y)).run P w = .ok z w' ∧ VR μ' F w' z r.v ∧ HR μ' F (upd σ r.w) w' ∧ Ext μ F w μ' F w' := by
  simp only [iop] at h
  split at h
  · rename_i e kn n km m hu ex ey
    split at h
    · rename_i z hz
      cases hc : (hasP P e && Nat.beq z.length (sizeP P e) && Nat.blt 0 (sizeP P e)) with
      | false => rw [hc] at h; cases h
      | true =>
        rw [hc] at h
        simp only [Bool.and_eq_true, Nat.beq_eq, Nat.blt_eq] at hc
        obtain ⟨⟨he, hzl⟩, hpos⟩ := hc
        simp only [cond_true, Option.some.injEq] at h; subst h
        obtain ⟨h0, h1, h2, h3⟩ := hp
        obtain ⟨i, v, hi, hzv, hvs, _⟩ := zeroP_spec (μ := μ) (F := F) (w := w) hz
        obtain ⟨ie, _, hie, _, hse, _⟩ := hasP_spec he
        have : ie = i := by rw [hi] at hie; cases hie; rfl
        subst this
        have hx := hρ x _ ex
        have hy := hρ y _ ey
        generalize ev x = vx at *
        generalize ev y = vy at *
        cases hx
        cases hy
        have hb : (ie.bytes : Int) * m ≤ 281474976710656 := by
          have h3' : (ie.bytes : Int) ≤ 256 := by simp [hi] at h3; omega
          have : (ie.bytes : Int) * m ≤ 256 * 2 ^ 40 := Int.mul_le_mul h3' h2 (by omega) (by decide)
          omega
        have hr := run_make (P := P) w t e ie v hu hi hzv kn km n m h0 h1 hb (by omega)
        refine ⟨_, _, μ.add nb (sizeP P e) (bif c then m.toNat else n.toNat) m.toNat (.at_ w.heap.size 0), hr, ?_, ?_⟩
        · refine .sl _ nb _ 0 n.toNat _ rfl (show _ ∨ _ from .inl rfl) (by simp [Mu.add]) (fun _ => ?_)
          simp only [Mu.add, if_true]
          refine ⟨_, _, rfl, by omega, by omega, .inr (by simp), fun c' hc' => ?_⟩
          cases c <;> simp [capX] at hc'; exact hc'
        · have hsz : ie.size = z.length := by omega
          have hrows := made_rows (μ := μ) (F := F) (w := w) hvs m.toNat
          rw [← hsz] at hrows
          have hsub : ∀ (i : Nat) (row : List IV), (List.replicate (bif c then m.toNat else n.toNat) z)[i]? = some row → (List.replicate m.toNat z)[i]? = some row := fun i row e => by
            rw [List.getElem?_replicate] at e ⊢
            split at e
            · rename_i hi'
              rw [if_pos (by cases c <;> simp at hi' <;> omega)]; exact e
            · cases e
          have hnr := hH.newRows (T := e) (cs := madeCells v.cells (m.toNat * ie.size)) (rs := List.replicate (bif c then m.toNat else n.toNat) z) (c := m.toNat) hnb hpos
            (fun i row e => by rw [hrows.2.1 i row (hsub i row e)]; omega) (by cases c <;> simp <;> omega) (by rw [hse, size_madeCells]; omega) (fun i row j c' e1 e2 => by rw [hse]; exact hrows.2.2 i row j c' (hsub i row e1) e2)
          simpa [upd] using hnr
    · cases h
  · cases h

theorem RowsR.set {s : Nat} {cs : Array Value} {rs : List (List IV)} (h : RowsR μ F w s cs rs) {i : Nat} {vs : List Value} {new : List IV} (hi : i < rs.length) (hv : VRs μ F w vs new) (hn : new.length = s) :
    RowsR μ F w s (Idl.splice (i * s) vs cs.toList).toArray (rs.set i new) := by
  obtain ⟨h1, h2, h3⟩ := h
  have hvl := hv.1
  have hle : i * s + s ≤ rs.length * s := by
    have : (i + 1) * s ≤ rs.length * s := Nat.mul_le_mul_right _ hi
    rwa [Nat.add_mul, Nat.one_mul] at this
  have hb : i * s + vs.length ≤ cs.toList.length := by simp; omega
  refine ⟨by have := length_splice (i * s) vs cs.toList hb; simp at this ⊢; omega, fun k row e => ?_, fun k row j c e1 e2 => ?_⟩
  · rw [List.getElem?_set] at e
    split at e
    · try rw [if_pos hi] at e
      cases e; exact hn
    · exact h2 k row e
  · simp only [List.getElem?_toArray]
    rw [getElem?_splice _ _ _ hb]
    rw [List.getElem?_set] at e1
    by_cases e : i = k
    · subst e
      rw [if_pos rfl, if_pos hi] at e1
      cases e1
      have hj := (List.getElem?_eq_some_iff.1 e2).1
      rw [if_pos (by omega)]
      have hlt : j < vs.length := by omega
      refine ⟨vs[j], by rw [show i * s + j - i * s = j by omega]; simp [hlt], hv.2 j _ c (by simp) e2⟩
    · rw [if_neg e] at e1
      have hj : j < s := by
        have := h2 k row e1
        have := (List.getElem?_eq_some_iff.1 e2).1
        omega
      rw [if_neg (fun hh => by
        have := place_ne (s := s) (i := k) (i' := i) (j := j) (j' := k * s + j - i * s) hj (by omega) (by omega)
        exact e this.1.symm)]
      obtain ⟨u, u1, u2⟩ := h3 k row j c e1 e2
      exact ⟨u, by simpa using u1, u2⟩

theorem fill_rows {s : Nat} : ∀ (qs : List (Nat × IV)) (ps : List (Nat × Value)) (cs : Array Value) (rs : List (List IV)), PartsR μ F w ps qs → RowsR μ F w s cs rs →
    qs.all (fun p => Nat.blt p.1 rs.length && Nat.beq p.2.cells.length s && p.2.cells.all IV.one) = true →
    ∃ cs', Instr.fill (fun i => some (i * s, s)) cs ps = some cs' ∧ RowsR μ F w s cs' (qs.foldl (fun rs p => rs.set p.1 p.2.cells) rs)
  | [], ps, cs, rs, hp, hc, _ => by
    have : ps = [] := by simpa using hp.1
    subst this
    exact ⟨cs, rfl, hc⟩
  | q :: qs, ps, cs, rs, hp, hc, h => by
    cases ps with
    | nil => simp [PartsR] at hp
    | cons p ps =>
      obtain ⟨p1, p2, hp'⟩ := hp.cons
      obtain ⟨i, v⟩ := q
      obtain ⟨i', u⟩ := p
      simp only at p1 p2
      subst p1
      simp only [List.all_cons, Bool.and_eq_true, Nat.blt_eq, Nat.beq_eq] at h
      obtain ⟨⟨⟨hi, hs⟩, hone⟩, hrest⟩ := h
      obtain ⟨hvc, _⟩ := VR.cells p2 hone
      have hul : u.cells.size = s := by have := hvc.1; simp at this; omega
      have hset := hc.set hi hvc hs
      have hle : i' * s + s ≤ rs.length * s := by
        have : (i' + 1) * s ≤ rs.length * s := Nat.mul_le_mul_right _ hi
        rwa [Nat.add_mul, Nat.one_mul] at this
      have hcsz := hc.1
      have hspl := foldl_set_eq (i' * s) u.cells.toList 0 cs (by simp; omega)
      have hz : u.cells.zipIdx.foldl (fun cs (p : Value × Nat) => cs.setIfInBounds (i' * s + p.2) p.1) cs = (Idl.splice (i' * s) u.cells.toList cs.toList).toArray := by
        apply Array.ext'
        rw [← Array.foldl_toList, Array.toList_zipIdx]
        simpa using hspl
      obtain ⟨cs', h1, h2⟩ := fill_rows qs ps _ (rs.set i' v.cells) hp' hset (by simpa using hrest)
      refine ⟨cs', ?_, h2⟩
      simp only [Instr.fill]
      rw [if_neg (by simp; omega), hz]
      exact h1

theorem buildSlice_goes {t : TypeId} {len : Nat} {parts : Array (Nat × Operand)} {nb : Nat} {r : Out} {c : Bool} (hρ : ∀ x c, ρ x = some c → VR μ F w (ev x) c) (hH : HR μ F σ w) (hnb : ¬ μ.u nb) (h : iop P c (.buildSlice t len parts) ρ σ nb = some r) :
    ∃ z w' μ', (Instr.buildSlice t len (parts.map fun (i, x) => (i, ev x))).run P w = .ok z w' ∧ VR μ' F w' z r.v ∧ HR μ' F (upd σ r.w) w' ∧ Ext μ F w μ' F w' := by
  simp only [iop] at h
  split at h
  · rename_i e ps hu hps
    split at h
    · rename_i z hz
      cases hc : (hasP P e && Nat.beq z.length (sizeP P e) && Nat.blt 0 (sizeP P e) && Nat.ble (len * sizeP P e) (2 ^ 24) && ps.all (fun p => Nat.blt p.1 len && Nat.beq p.2.cells.length (sizeP P e) && p.2.cells.all IV.one)) with
      | false => rw [hc] at h; cases h
      | true =>
        rw [hc] at h
        simp only [Bool.and_eq_true, Nat.beq_eq, Nat.blt_eq, Nat.ble_eq] at hc
        obtain ⟨⟨⟨⟨he, hzl⟩, hpos⟩, hbig⟩, hall⟩ := hc
        simp only [cond_true, Option.some.injEq] at h; subst h
        obtain ⟨i, v, hi, hzv, hvs, _⟩ := zeroP_spec (μ := μ) (F := F) (w := w) hz
        obtain ⟨ie, _, hie, _, hse, hszr, _⟩ := hasP_spec he
        have : ie = i := by rw [hi] at hie; cases hie; rfl
        subst this
        have hrows := made_rows (μ := μ) (F := F) (w := w) hvs len
        rw [hzl] at hrows
        obtain ⟨cs', h1, h2⟩ := fill_rows ps _ _ _ (partsV_rel hρ _ _ hps) hrows (by simpa using hall)
        have hlen : ∀ (l : List (Nat × IV)) (rs : List (List IV)), (l.foldl (fun rs p => rs.set p.1 p.2.cells) rs).length = rs.length := by
          intro l
          induction l with
          | nil => intro rs; rfl
          | cons p l ih => intro rs; simp [ih]
        refine ⟨.slice (some ⟨w.heap.size, 0, none⟩) len len, w.alloc (.cells cs' e), μ.add nb (sizeP P e) len len (.at_ w.heap.size 0), ?_, ?_, ?_⟩
        · have hn : ¬ (2 ^ 24 < len * ie.size) := by rw [← hse]; omega
          have hfill : Instr.fill (fun i => some (i * ie.size, ie.size)) ((Array.range (len * ie.size)).map fun x => v.cells[x % v.cells.size]!) (parts.map fun (i, x) => (i, ev x)).toList = some cs' := by
            rw [← hse]
            simpa [madeCells] using h1
          by_cases h0 : len * ie.size = 0
          · have hfill0 : Instr.fill (fun i => some (i * ie.size, ie.size)) #[] (parts.map fun (i, x) => (i, ev x)).toList = some cs' := by
              rw [h0] at hfill
              simpa [Array.range_zero'] using hfill
            simp only [Array.toList_map] at hfill0
            simp [Instr.buildSlice, run_underlying hu, hszr, h0, newRow, hfill0, Array.range_zero']
          · simp only [Array.toList_map] at hfill
            have hn' : ¬ (16777216 < len * ie.size) := by simpa using hn
            simp [Instr.buildSlice, run_underlying hu, hszr, hn', h0, zeroValue, typeInfo, hi, hzv, newRow, hfill]
        · refine .sl _ nb _ 0 len _ rfl (show _ ∨ _ from .inl rfl) (by simp [Mu.add]) (fun _ => ?_)
          simp only [Mu.add, if_true]
          refine ⟨_, _, rfl, by omega, by omega, .inr (by simp), fun c' hc' => ?_⟩
          cases c <;> simp [capX] at hc'; exact hc'
        · have hl := hlen ps (List.replicate len z)
          have hnr := hH.newRows (T := e) (cs := cs') (rs := ps.foldl (fun rs p => rs.set p.1 p.2.cells) (List.replicate len z)) (c := len) hnb hpos h2.2.1 (by rw [hl]; simp) (by have := h2.1; rw [hl] at this; simp at this; omega) h2.2.2
          rw [hl] at hnr
          simpa [upd] using hnr
    · cases h
  · cases h
end
end Go.Idl
