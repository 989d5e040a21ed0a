import Derived.Test.YteedopeniojppaaGreatDoorIdlPartA
import Derived.Deep.Upon
set_option linter.all false
namespace Go.Idl
open Go.RowKit
theorem getElem?_splice {α : Type} (o : Nat) (new l : List α) (h : o + new.length ≤ l.length) (x : Nat) :
  (splice o new l)[x]? = if o ≤ x ∧ x < o + new.length then new[x - o]? else l[x]? := by
 unfold splice
 by_cases h1 : x < o
 ·have h2 : ¬ (o ≤ x ∧ x < o + new.length) := by omega
  rw [if_neg h2, List.append_assoc, List.getElem?_append_left (by simp; omega), List.getElem?_take_of_lt h1]
 ·by_cases h2 : x < o + new.length
  ·rw [if_pos ⟨by omega, h2⟩, List.append_assoc, List.getElem?_append_right (by simp; omega)]
   have e : x - (l.take o).length = x - o := by simp; omega
   rw [e, List.getElem?_append_left (by omega)]
  ·have h3 : ¬ (o ≤ x ∧ x < o + new.length) := by omega
   rw [if_neg h3, List.getElem?_append_right (by simp; omega), List.getElem?_drop]
   congr 1
   simp; omega
theorem length_splice {α : Type} (o : Nat) (new l : List α) (h : o + new.length ≤ l.length) : (splice o new l).length = l.length := by
 simp [splice]; omega
theorem place_ne {s i i' j j' : Nat} (hj : j < s) (hj' : j' < s) (h : i * s + j = i' * s + j') : i = i' ∧ j = j' := by
 have e : i = i' := by
  rcases Nat.lt_trichotomy i i' with h1 | h1 | h1
  ·have : (i + 1) * s ≤ i' * s := Nat.mul_le_mul_right s h1
   rw [Nat.add_mul] at this; omega
  ·exact h1
  ·have : (i' + 1) * s ≤ i * s := Nat.mul_le_mul_right s h1
   rw [Nat.add_mul] at this; omega
 subst e
 exact ⟨rfl, by omega⟩
section
variable {P : Program} {μ : Mu} {F : Fz} {w : World} {σ : Heap} {ev : Operand → Value} {ρ : Operand → Option IV}
theorem vr_undef : VR μ F w undef (.tup []) := .tup [] [] rfl (by simp)
theorem store_goes {t : TypeId} {x y : Operand} {nb : Nat} {r : Out} {c : Bool} (hρ : ∀ x c, ρ x = some c → VR μ F w (ev x) c) (hH : HR μ F σ w) (h : iop P c (.store t x y) ρ σ nb = some r) (hp : r.pre) :
  ∃ w', (Instr.storeAt t (ev x) (ev y)).run P w = .ok () w' ∧ r.v = .tup [] ∧ HR μ F (upd σ r.w) w' ∧ Ext μ F w μ F w' := by
 simp only [iop] at h
 cases ht : hasP P t with
 | false => rw [ht] at h; cases h
 | true =>
  rw [ht] at h
  simp only [cond_true] at h
  split at h
  ·rename_i b tot i o v ex ey
   split at h
   ·rename_i s rs hb
    cases hc : (Nat.beq v.cells.length (sizeP P t) && v.cells.all IV.one) with
    | false => rw [hc] at h; cases h
    | true =>
     rw [hc] at h
     simp only [Bool.and_eq_true, Nat.beq_eq] at hc
     obtain ⟨hsz, hone⟩ := hc
     simp only [cond_true, Option.some.injEq] at h; subst h
     obtain ⟨htot, hi, hl⟩ := hp
     obtain ⟨it, d, hit, hd, hs, hszr, hagg⟩ := hasP_spec ht
     obtain ⟨g, off, cs, T, hv, hub, hszb, hlen, hpl, hg, hcp1, hcp2, hrow, hcs⟩ := ptr_row hH hb (hρ x _ ex) htot hi
     obtain ⟨⟨hcl, hcv⟩, h1⟩ := VR.cells (hρ y _ ey) hone
     have hrl := hrow i _ (getD_eq hi)
     have hsz' : (ev y).cells.toList.length = sizeP P t := by omega
     have hsz2 : (ev y).cells.size = it.size := by rw [← hs, ← hsz']; simp
     have hbound : off + i * s + s ≤ cs.size := by
      have hpos : 0 < s := (hH.obj b _ hb).2.1
      obtain ⟨u, u1, _⟩ := hcs i _ (s - 1) _ (getD_eq hi) (List.getElem?_eq_getElem (by omega))
      have := (Array.getElem?_eq_some_iff.1 u1).1
      omega
     have hst := run_storeCells_at (P := P) g (off + i * s + o) T (ev y).cells.toList 0 cs w hg (by omega) h1
     simp only [Nat.add_zero] at hst
     refine ⟨w.setRow g (splice (off + i * s + o) (ev y).cells.toList cs.toList).toArray, ?_, rfl, ?_⟩
     ·rw [hv]
      simp [Instr.storeAt, Instr.sureAddr, storeVar, hszr, hsz2]
      exact hst
     ·have hle := Mu.le_refl μ
      have hw : ∀ k, k < w.heap.size → (μ.u b → ∀ off, μ.pl b ≠ .at_ k off) → (w.setRow g (splice (off + i * s + o) (ev y).cells.toList cs.toList).toArray).heap[k]? = w.heap[k]? := fun k _ hk => by
       apply setRow_other
       intro e; subst e; exact hk hub off hpl
      have hf := hH.frozen_same hw
      refine hH.change hle (fun _ _ => ⟨rfl, rfl, rfl, rfl, Iff.rfl⟩) hw (fun g' off' hu e => ⟨.inr ⟨hu, off', e⟩, ?_⟩) (by simp) rfl rfl ⟨rfl, Nat.le_refl _⟩ (hH.notIt hb (by intro h; cases h)) ?_
      ·rw [size_setRow]; exact hH.lt b g' off' hu e
      ·obtain ⟨_, hpos, _, _, _, _⟩ := hH.obj b _ hb
       refine ⟨hub, hpos, hszb, by simpa using hlen, fun k row hk => ?_, .inr ⟨g, off, _, T, hpl, setRow_heap w g cs _ T (0, 0) hg, by simpa using hcp1, by have := length_splice (off + i * s + o) (ev y).cells.toList cs.toList (by simp at *; omega); simp at this ⊢; omega, fun k row j c' e1 e2 => ?_⟩⟩
       ·rw [List.getElem?_set] at hk
        split at hk
        ·rename_i e; subst e
         try rw [if_pos hi] at hk
         cases hk
         rw [length_splice _ _ _ (by omega)]; exact hrl
        ·exact hrow k row hk
       ·have hcslen : off + i * s + o + (ev y).cells.toList.length ≤ cs.toList.length := by simp at *; omega
        simp only [List.getElem?_toArray]
        rw [getElem?_splice _ _ _ hcslen]
        rw [List.getElem?_set] at e1
        by_cases e : i = k
        ·subst e
         rw [if_pos rfl, if_pos hi] at e1
         cases e1
         rw [getElem?_splice _ _ _ (by omega)] at e2
         by_cases hj : o ≤ j ∧ j < o + v.cells.length
         ·rw [if_pos hj] at e2
          rw [if_pos ⟨by omega, by omega⟩]
          have hlt : j - o < (ev y).cells.toList.length := by omega
          have e3 : off + i * s + j - (off + i * s + o) = j - o := by omega
          rw [e3]
          exact ⟨_, List.getElem?_eq_getElem hlt, (hcv _ _ _ (List.getElem?_eq_getElem hlt) e2).mono hle (fun _ h => h) hf⟩
         ·rw [if_neg hj] at e2
          rw [if_neg (by omega)]
          obtain ⟨u, u1, u2⟩ := hcs i _ j c' (getD_eq hi) e2
          exact ⟨u, by simpa using u1, u2.mono hle (fun _ h => h) hf⟩
        ·rw [if_neg e] at e1
         have hj : j < s := by
          have := hrow k row e1
          have := (List.getElem?_eq_some_iff.1 e2).1
          omega
         have hnot : ¬ (off + i * s + o ≤ off + k * s + j ∧ off + k * s + j < off + i * s + o + (ev y).cells.toList.length) := by
          intro hh
          have h3 : off + k * s + j - (off + i * s) < s := by omega
          have := place_ne (s := s) (i := k) (i' := i) (j := j) (j' := off + k * s + j - (off + i * s)) hj h3 (by omega)
          exact e this.1.symm
         rw [if_neg hnot]
         obtain ⟨u, u1, u2⟩ := hcs k row j c' e1 e2
         exact ⟨u, by simpa using u1, u2.mono hle (fun _ h => h) hf⟩
   ·cases h
  ·cases h
theorem HR.newRow1 (hH : HR μ F σ w) {nb : Nat} {T : TypeId} {cs : Array Value} {z : List IV} (hnb : ¬ μ.u nb) (hz : 0 < z.length) (hv : VRs μ F w cs.toList z) :
  ∃ μ', VR μ' F (w.alloc (.cells cs T)) (.pointer (some ⟨w.heap.size, 0, none⟩)) (.ptr nb 1 0 0) ∧ HR μ' F (hput σ nb (.rows z.length [z])) (w.alloc (.cells cs T)) ∧ Ext μ F w μ' F (w.alloc (.cells cs T)) := by
 obtain ⟨h1, h2⟩ := hH.newRows (T := T) (cs := cs) (rs := [z]) (c := 1) hnb hz (fun i row e => by cases i with | zero => (simp at e; subst e; rfl) | succ i => simp at e) (by simp) (by have := hv.1; simp at this; omega) (fun i row j c e1 e2 => by
  cases i with
  | zero =>
   simp at e1; subst e1
   have hj : j < cs.toList.length := by rw [hv.1]; exact (List.getElem?_eq_some_iff.1 e2).1
   exact ⟨cs.toList[j], by simp, hv.2 j _ c (List.getElem?_eq_getElem hj) e2⟩
  | succ i => simp at e1)
 exact ⟨_, .ptr _ nb 1 0 0 rfl (show _ ∨ _ from .inl rfl) (by simp [Mu.add]) (fun _ => by simp [Mu.add, PtrOK]), h1, h2⟩
theorem alloc_goes {t : TypeId} {nb : Nat} {r : Out} {c : Bool} (hH : HR μ F σ w) (hnb : ¬ μ.u nb) (h : iop P c (.alloc t) ρ σ nb = some r) :
  ∃ z w' μ', (Instr.alloc t true (.tuple #[])).run P w = .ok z w' ∧ VR μ' F w' z r.v ∧ HR μ' F (upd σ r.w) w' ∧ Ext μ F w μ' F w' := by
 simp only [iop] at h
 split at h
 ·rename_i z hz
  cases hc : Nat.blt 0 z.length with
  | false => rw [hc] at h; cases h
  | true =>
   rw [hc] at h
   simp only [cond_true, Option.some.injEq] at h; subst h
   rw [Nat.blt_eq] at hc
   obtain ⟨i, v, hi, hzv, hvs, _⟩ := zeroP_spec (μ := μ) (F := F) (w := w) hz
   obtain ⟨μ', v1, v2, v3⟩ := hH.newRow1 (T := t) hnb hc hvs
   exact ⟨_, _, μ', by simp [Instr.alloc, zeroValue, typeInfo, hi, hzv, newVar, newRow], v1, v2, v3⟩
 ·cases h
end
end Go.Idl
namespace Go.Idl
open Go.RowKit
theorem foldl_set_eq (off : Nat) : ∀ (vs : List Value) (k : Nat) (cs : Array Value), off + k + vs.length ≤ cs.size →
  ((vs.zipIdx k).foldl (fun cs (p : Value × Nat) => cs.setIfInBounds (off + p.2) p.1) cs).toList = splice (off + k) vs cs.toList
 | [], k, cs, _ => by simp [splice]
 | v :: vs, k, cs, h => by
  simp only [List.length_cons] at h
  rw [List.zipIdx_cons, List.foldl_cons, foldl_set_eq off vs (k + 1) _ (by simp; omega)]
  apply List.ext_getElem?
  intro x
  rw [getElem?_splice _ _ _ (by simp; omega), getElem?_splice _ _ _ (by simp; omega)]
  simp only [List.length_cons, Array.toList_setIfInBounds]
  by_cases h1 : x = off + k
  ·subst h1
   rw [if_neg (by omega), if_pos (by omega)]
   simp [List.getElem?_set]
   omega
  ·rw [List.getElem?_set_ne (by omega)]
   by_cases h2 : off + k + 1 ≤ x ∧ x < off + k + 1 + vs.length
   ·rw [if_pos (by omega), if_pos (by omega)]
    have : x - (off + k) = (x - (off + k + 1)) + 1 := by omega
    rw [this, List.getElem?_cons_succ]
    congr 1
   ·rw [if_neg (by omega), if_neg (by omega)]
section
variable {P : Program} {μ : Mu} {F : Fz} {w : World} {σ : Heap} {ev : Operand → Value} {ρ : Operand → Option IV}
theorem VRs.splice {vs news : List Value} {cs newsI : List IV} {o : Nat} (h : VRs μ F w vs cs) (hn : VRs μ F w news newsI) (hl : o + newsI.length ≤ cs.length) : VRs μ F w (splice o news vs) (Idl.splice o newsI cs) := by
 have e1 := h.1
 have e2 := hn.1
 refine ⟨by rw [length_splice _ _ _ (by omega), length_splice _ _ _ (by omega)]; exact e1, fun j v c h1 h2 => ?_⟩
 rw [getElem?_splice _ _ _ (by omega)] at h1 h2
 by_cases hj : o ≤ j ∧ j < o + newsI.length
 ·rw [if_pos (by omega)] at h1; rw [if_pos hj] at h2
  exact hn.2 _ v c h1 h2
 ·rw [if_neg (by omega)] at h1; rw [if_neg hj] at h2
  exact h.2 _ v c h1 h2
def PartsR (μ : Mu) (F : Fz) (w : World) (ps : List (Nat × Value)) (qs : List (Nat × IV)) : Prop :=
 ps.length = qs.length ∧ ∀ (j : Nat) (p : Nat × Value) (q : Nat × IV), ps[j]? = some p → qs[j]? = some q → p.1 = q.1 ∧ VR μ F w p.2 q.2
theorem partsV_rel (hρ : ∀ x c, ρ x = some c → VR μ F w (ev x) c) : ∀ (l : List (Nat × Operand)) (qs : List (Nat × IV)), partsV ρ l = some qs → PartsR μ F w (l.map fun p => (p.1, ev p.2)) qs
 | [], qs, h => by simp [partsV] at h; subst h; exact ⟨rfl, by simp⟩
 | p :: l, qs, h => by
  simp only [partsV] at h
  split at h
  ·rename_i a b h1 h2
   cases h
   have ih := partsV_rel hρ l b h2
   refine ⟨by simpa using ih.1, fun j p' q' e1 e2 => ?_⟩
   cases j with
   | zero => simp at e1 e2; subst e1; subst e2; exact ⟨rfl, hρ _ _ h1⟩
   | succ j => exact ih.2 j p' q' (by simpa using e1) (by simpa using e2)
  ·cases h
theorem PartsR.cons {p : Nat × Value} {ps : List (Nat × Value)} {q : Nat × IV} {qs : List (Nat × IV)} (h : PartsR μ F w (p :: ps) (q :: qs)) : p.1 = q.1 ∧ VR μ F w p.2 q.2 ∧ PartsR μ F w ps qs :=
 ⟨(h.2 0 p q rfl rfl).1, (h.2 0 p q rfl rfl).2, by simpa using h.1, fun j p' q' e1 e2 => h.2 (j + 1) p' q' (by simpa using e1) (by simpa using e2)⟩
theorem fill_rel {pl pl' : Nat → Option (Nat × Nat)} (hpl : ∀ i x, pl i = some x → pl' i = some x) : ∀ (qs : List (Nat × IV)) (ps : List (Nat × Value)) (cs : Array Value) (cells out : List IV), PartsR μ F w ps qs → VRs μ F w cs.toList cells →
  fillP pl cells qs = some out → ∃ cs', Instr.fill pl' cs ps = some cs' ∧ VRs μ F w cs'.toList out
 | [], ps, cs, cells, out, hp, hc, h => by
  have : ps = [] := by simpa using hp.1
  subst this
  simp only [fillP, Option.some.injEq] at h; subst h
  exact ⟨cs, rfl, hc⟩
 | q :: qs, ps, cs, cells, out, hp, hc, h => by
  cases ps with
  | nil => simp [PartsR] at hp
  | cons p ps =>
   obtain ⟨p1, p2, hp'⟩ := hp.cons
   obtain ⟨i, v⟩ := q
   obtain ⟨i', u⟩ := p
   simp only at p1 p2
   subst p1
   simp only [fillP] at h
   split at h
   ·cases h
   ·rename_i off size hpi
    cases hb : (v.cells.length == size && Nat.ble (off + size) cells.length && v.cells.all IV.one) with
    | false => rw [hb] at h; cases h
    | true =>
     rw [hb] at h
     simp only [Bool.and_eq_true, beq_iff_eq, Nat.ble_eq] at hb
     obtain ⟨⟨hs, hle⟩, hone⟩ := hb
     simp only [cond_true] at h
     obtain ⟨hvc, _⟩ := VR.cells p2 hone
     have hl1 : u.cells.size = size := by have := hvc.1; simp at this; omega
     have hl2 : cs.size = cells.length := by have := hc.1; simpa using this
     have hspl := foldl_set_eq off u.cells.toList 0 cs (by simp; omega)
     have hrel := VRs.splice (o := off) hc hvc (by omega)
     have hz : (u.cells.zipIdx.foldl (fun cs (p : Value × Nat) => cs.setIfInBounds (off + p.2) p.1) cs).toList = splice off u.cells.toList cs.toList := by
      rw [← Array.foldl_toList, Array.toList_zipIdx]
      simpa using hspl
     obtain ⟨cs', h1, h2⟩ := fill_rel hpl qs ps (u.cells.zipIdx.foldl (fun cs (p : Value × Nat) => cs.setIfInBounds (off + p.2) p.1) cs) _ out hp' (by rw [hz]; exact hrel) h
     refine ⟨cs', ?_, h2⟩
     simp only [Instr.fill, hpl _ _ hpi]
     rw [if_neg (by simp; omega)]
     exact h1
theorem mapM_places : ∀ (fs : List Field), fs.all (fun f => hasP P f.type) = true → fs.mapM (fun f => (P.info? f.type).map fun i => (f.offset, i.size)) = some (fs.map fun f => (f.offset, sizeP P f.type))
 | [], _ => by simp
 | f :: fs, h => by
  simp only [List.all_cons, Bool.and_eq_true] at h
  obtain ⟨i, d, hi, _, hs, _⟩ := hasP_spec h.1
  simp [List.mapM_cons, hi, mapM_places fs h.2, hs]
theorem build_goes {t : TypeId} {parts : Array (Nat × Operand)} {nb : Nat} {r : Out} {c : Bool} (hρ : ∀ x c, ρ x = some c → VR μ F w (ev x) c) (h : iop P c (.build t parts) ρ σ nb = some r) :
  ∃ z, (Instr.build t (parts.map fun (i, x) => (i, ev x))).run P w = .ok z w ∧ VR μ F w z r.v ∧ r.w = none := by
 simp only [iop] at h
 split at h
 ·rename_i fs z ps hu hz hps
  cases hall : (fs.toList.all fun f => hasP P f.type) with
  | false => rw [hall] at h; cases h
  | true =>
   rw [hall] at h
   simp only [cond_true] at h
   split at h
   ·rename_i cs hf
    simp only [ok, Option.some.injEq] at h; subst h
    obtain ⟨i, v, hi, hzv, hvs, _⟩ := zeroP_spec (μ := μ) (F := F) (w := w) hz
    obtain ⟨cs', h1, h2⟩ := fill_rel (pl' := ((fs.toList.map fun f => (f.offset, sizeP P f.type)).toArray[·]?)) (fun i x hx => by
     unfold placeS at hx
     split at hx
     ·rename_i f hf; cases hx; simp at hf ⊢; exact ⟨f, hf, rfl, rfl⟩
     ·cases hx) ps _ v.cells z cs (partsV_rel hρ _ _ hps) hvs hf
    refine ⟨.agg cs', ?_, ?_, rfl⟩
    ·refine run_build w t _ cs' ?_
     simp only [Program.built, hi, hu, hzv, mapM_places _ hall]
     simpa using h1
    ·have := VR.agg (μ := μ) (F := F) (w := w) cs'.toList cs h2.1 h2.2
     simpa using this
   ·cases h
 ·rename_i n e z ps hu hz hps
  cases he : hasP P e with
  | false => rw [he] at h; cases h
  | true =>
   rw [he] at h
   simp only [cond_true] at h
   split at h
   ·rename_i cs hf
    simp only [ok, Option.some.injEq] at h; subst h
    obtain ⟨i, v, hi, hzv, hvs, _⟩ := zeroP_spec (μ := μ) (F := F) (w := w) hz
    obtain ⟨ie, _, hie, _, hse, _⟩ := hasP_spec he
    obtain ⟨cs', h1, h2⟩ := fill_rel (pl' := fun i => some (i * ie.size, ie.size)) (fun i x hx => by rw [← hse]; exact hx) ps _ v.cells z cs (partsV_rel hρ _ _ hps) hvs hf
    refine ⟨.agg cs', ?_, ?_, rfl⟩
    ·refine run_build w t _ cs' ?_
     simp only [Program.built, hi, hu, hzv, hie]
     simpa using h1
    ·have := VR.agg (μ := μ) (F := F) (w := w) cs'.toList cs h2.1 h2.2
     simpa using this
   ·cases h
 ·cases h
def RowsR (μ : Mu) (F : Fz) (w : World) (s : Nat) (cs : Array Value) (rs : List (List IV)) : Prop :=
 cs.size = rs.length * s ∧ (∀ (i : Nat) (row : List IV), rs[i]? = some row → row.length = s) ∧ ∀ (i : Nat) (row : List IV) (j : Nat) (c : IV), rs[i]? = some row → row[j]? = some c → ∃ v, cs[i * s + j]? = some v ∧ VR μ F w v c
theorem made_rows {z : Array Value} {zi : List IV} (hz : VRs μ F w z.toList zi) (n : Nat) : RowsR μ F w zi.length (madeCells z (n * zi.length)) (List.replicate n zi) := by
 have hzs : z.size = zi.length := by have := hz.1; simpa using this
 refine ⟨by simp [size_madeCells], fun i row e => ?_, fun i row j c e1 e2 => ?_⟩
 ·rw [List.getElem?_replicate] at e
  split at e
  ·cases e; rfl
  ·cases e
 ·rw [List.getElem?_replicate] at e1
  split at e1
  ·rename_i hi
   cases e1
   have hj := (List.getElem?_eq_some_iff.1 e2).1
   have hlt : i * zi.length + j < n * zi.length := by
    have : (i + 1) * zi.length ≤ n * zi.length := Nat.mul_le_mul_right _ hi
    rw [Nat.add_mul] at this; omega
   have hmod : (i * zi.length + j) % z.size = j := by rw [hzs, Nat.mul_comm, Nat.mul_add_mod, Nat.mod_eq_of_lt hj]
   have hjz : j < z.size := by omega
   refine ⟨z[j], ?_, hz.2 j _ c (by simp [hjz]) e2⟩
   simp only [madeCells, Array.getElem?_map]
   rw [Array.getElem?_range]
   simp [hlt, hmod, hjz]
  ·cases e1
theorem makeSlice_goes {t : TypeId} {x y : Operand} {nb : Nat} {r : Out} {c : Bool} (hρ : ∀ x c, ρ x = some c → VR μ F w (ev x) c) (hH : HR μ F σ w) (hnb : ¬ μ.u nb) (h : iop P c (.makeSlice t x y) ρ σ nb = some r) (hp : r.pre) :
  ∃ z w' μ', (Instr.makeSlice t (ev x) (ev y)).run P w = .ok z w' ∧ VR μ' F w' z r.v ∧ HR μ' F (upd σ r.w) w' ∧ Ext μ F w μ' F w' := by
 simp only [iop] at h
 split at h
 ·rename_i e kn n km m hu ex ey
  split at h
  ·rename_i z hz
   cases hc : (hasP P e && Nat.beq z.length (sizeP P e) && Nat.blt 0 (sizeP P e)) with
   | false => rw [hc] at h; cases h
   | true =>
    rw [hc] at h
    simp only [Bool.and_eq_true, Nat.beq_eq, Nat.blt_eq] at hc
    obtain ⟨⟨he, hzl⟩, hpos⟩ := hc
    simp only [cond_true, Option.some.injEq] at h; subst h
    obtain ⟨h0, h1, h2, h3⟩ := hp
    obtain ⟨i, v, hi, hzv, hvs, _⟩ := zeroP_spec (μ := μ) (F := F) (w := w) hz
    obtain ⟨ie, _, hie, _, hse, _⟩ := hasP_spec he
    have : ie = i := by rw [hi] at hie; cases hie; rfl
    subst this
    have hx := hρ x _ ex
    have hy := hρ y _ ey
    generalize ev x = vx at *
    generalize ev y = vy at *
    cases hx
    cases hy
    have hb : (ie.bytes : Int) * m ≤ 281474976710656 := by
     have h3' : (ie.bytes : Int) ≤ 256 := by simp [hi] at h3; omega
     have : (ie.bytes : Int) * m ≤ 256 * 2 ^ 40 := Int.mul_le_mul h3' h2 (by omega) (by decide)
     omega
    have hr := run_make (P := P) w t e ie v hu hi hzv kn km n m h0 h1 hb (by omega)
    refine ⟨_, _, μ.add nb (sizeP P e) (bif c then m.toNat else n.toNat) m.toNat (.at_ w.heap.size 0), hr, ?_, ?_⟩
    ·refine .sl _ nb _ 0 n.toNat _ rfl (show _ ∨ _ from .inl rfl) (by simp [Mu.add]) (fun _ => ?_)
     simp only [Mu.add, if_true]
     refine ⟨_, _, rfl, by omega, by omega, .inr (by simp), fun c' hc' => ?_⟩
     cases c <;> simp [capX] at hc'; exact hc'
    ·have hsz : ie.size = z.length := by omega
     have hrows := made_rows (μ := μ) (F := F) (w := w) hvs m.toNat
     rw [← hsz] at hrows
     have hsub : ∀ (i : Nat) (row : List IV), (List.replicate (bif c then m.toNat else n.toNat) z)[i]? = some row → (List.replicate m.toNat z)[i]? = some row := fun i row e => by
      rw [List.getElem?_replicate] at e ⊢
      split at e
      ·rename_i hi'
       rw [if_pos (by cases c <;> simp at hi' <;> omega)]; exact e
      ·cases e
     have hnr := hH.newRows (T := e) (cs := madeCells v.cells (m.toNat * ie.size)) (rs := List.replicate (bif c then m.toNat else n.toNat) z) (c := m.toNat) hnb hpos
      (fun i row e => by rw [hrows.2.1 i row (hsub i row e)]; omega) (by cases c <;> simp <;> omega) (by rw [hse, size_madeCells]; omega) (fun i row j c' e1 e2 => by rw [hse]; exact hrows.2.2 i row j c' (hsub i row e1) e2)
     simpa [upd] using hnr
  ·cases h
 ·cases h
theorem RowsR.set {s : Nat} {cs : Array Value} {rs : List (List IV)} (h : RowsR μ F w s cs rs) {i : Nat} {vs : List Value} {new : List IV} (hi : i < rs.length) (hv : VRs μ F w vs new) (hn : new.length = s) :
  RowsR μ F w s (Idl.splice (i * s) vs cs.toList).toArray (rs.set i new) := by
 obtain ⟨h1, h2, h3⟩ := h
 have hvl := hv.1
 have hle : i * s + s ≤ rs.length * s := by
  have : (i + 1) * s ≤ rs.length * s := Nat.mul_le_mul_right _ hi
  rwa [Nat.add_mul, Nat.one_mul] at this
 have hb : i * s + vs.length ≤ cs.toList.length := by simp; omega
 refine ⟨by have := length_splice (i * s) vs cs.toList hb; simp at this ⊢; omega, fun k row e => ?_, fun k row j c e1 e2 => ?_⟩
 ·rw [List.getElem?_set] at e
  split at e
  ·try rw [if_pos hi] at e
   cases e; exact hn
  ·exact h2 k row e
 ·simp only [List.getElem?_toArray]
  rw [getElem?_splice _ _ _ hb]
  rw [List.getElem?_set] at e1
  by_cases e : i = k
  ·subst e
   rw [if_pos rfl, if_pos hi] at e1
   cases e1
   have hj := (List.getElem?_eq_some_iff.1 e2).1
   rw [if_pos (by omega)]
   have hlt : j < vs.length := by omega
   refine ⟨vs[j], by rw [show i * s + j - i * s = j by omega]; simp [hlt], hv.2 j _ c (by simp) e2⟩
  ·rw [if_neg e] at e1
   have hj : j < s := by
    have := h2 k row e1
    have := (List.getElem?_eq_some_iff.1 e2).1
    omega
   rw [if_neg (fun hh => by
    have := place_ne (s := s) (i := k) (i' := i) (j := j) (j' := k * s + j - i * s) hj (by omega) (by omega)
    exact e this.1.symm)]
   obtain ⟨u, u1, u2⟩ := h3 k row j c e1 e2
   exact ⟨u, by simpa using u1, u2⟩
theorem fill_rows {s : Nat} : ∀ (qs : List (Nat × IV)) (ps : List (Nat × Value)) (cs : Array Value) (rs : List (List IV)), PartsR μ F w ps qs → RowsR μ F w s cs rs →
  qs.all (fun p => Nat.blt p.1 rs.length && Nat.beq p.2.cells.length s && p.2.cells.all IV.one) = true →
  ∃ cs', Instr.fill (fun i => some (i * s, s)) cs ps = some cs' ∧ RowsR μ F w s cs' (qs.foldl (fun rs p => rs.set p.1 p.2.cells) rs)
 | [], ps, cs, rs, hp, hc, _ => by
  have : ps = [] := by simpa using hp.1
  subst this
  exact ⟨cs, rfl, hc⟩
 | q :: qs, ps, cs, rs, hp, hc, h => by
  cases ps with
  | nil => simp [PartsR] at hp
  | cons p ps =>
   obtain ⟨p1, p2, hp'⟩ := hp.cons
   obtain ⟨i, v⟩ := q
   obtain ⟨i', u⟩ := p
   simp only at p1 p2
   subst p1
   simp only [List.all_cons, Bool.and_eq_true, Nat.blt_eq, Nat.beq_eq] at h
   obtain ⟨⟨⟨hi, hs⟩, hone⟩, hrest⟩ := h
   obtain ⟨hvc, _⟩ := VR.cells p2 hone
   have hul : u.cells.size = s := by have := hvc.1; simp at this; omega
   have hset := hc.set hi hvc hs
   have hle : i' * s + s ≤ rs.length * s := by
    have : (i' + 1) * s ≤ rs.length * s := Nat.mul_le_mul_right _ hi
    rwa [Nat.add_mul, Nat.one_mul] at this
   have hcsz := hc.1
   have hspl := foldl_set_eq (i' * s) u.cells.toList 0 cs (by simp; omega)
   have hz : u.cells.zipIdx.foldl (fun cs (p : Value × Nat) => cs.setIfInBounds (i' * s + p.2) p.1) cs = (Idl.splice (i' * s) u.cells.toList cs.toList).toArray := by
    apply Array.ext'
    rw [← Array.foldl_toList, Array.toList_zipIdx]
    simpa using hspl
   obtain ⟨cs', h1, h2⟩ := fill_rows qs ps _ (rs.set i' v.cells) hp' hset (by simpa using hrest)
   refine ⟨cs', ?_, h2⟩
   simp only [Instr.fill]
   rw [if_neg (by simp; omega), hz]
   exact h1
theorem buildSlice_goes {t : TypeId} {len : Nat} {parts : Array (Nat × Operand)} {nb : Nat} {r : Out} {c : Bool} (hρ : ∀ x c, ρ x = some c → VR μ F w (ev x) c) (hH : HR μ F σ w) (hnb : ¬ μ.u nb) (h : iop P c (.buildSlice t len parts) ρ σ nb = some r) :
  ∃ z w' μ', (Instr.buildSlice t len (parts.map fun (i, x) => (i, ev x))).run P w = .ok z w' ∧ VR μ' F w' z r.v ∧ HR μ' F (upd σ r.w) w' ∧ Ext μ F w μ' F w' := by
 simp only [iop] at h
 split at h
 ·rename_i e ps hu hps
  split at h
  ·rename_i z hz
   cases hc : (hasP P e && Nat.beq z.length (sizeP P e) && Nat.blt 0 (sizeP P e) && Nat.ble (len * sizeP P e) (2 ^ 24) && ps.all (fun p => Nat.blt p.1 len && Nat.beq p.2.cells.length (sizeP P e) && p.2.cells.all IV.one)) with
   | false => rw [hc] at h; cases h
   | true =>
    rw [hc] at h
    simp only [Bool.and_eq_true, Nat.beq_eq, Nat.blt_eq, Nat.ble_eq] at hc
    obtain ⟨⟨⟨⟨he, hzl⟩, hpos⟩, hbig⟩, hall⟩ := hc
    simp only [cond_true, Option.some.injEq] at h; subst h
    obtain ⟨i, v, hi, hzv, hvs, _⟩ := zeroP_spec (μ := μ) (F := F) (w := w) hz
    obtain ⟨ie, _, hie, _, hse, hszr, _⟩ := hasP_spec he
    have : ie = i := by rw [hi] at hie; cases hie; rfl
    subst this
    have hrows := made_rows (μ := μ) (F := F) (w := w) hvs len
    rw [hzl] at hrows
    obtain ⟨cs', h1, h2⟩ := fill_rows ps _ _ _ (partsV_rel hρ _ _ hps) hrows (by simpa using hall)
    have hlen : ∀ (l : List (Nat × IV)) (rs : List (List IV)), (l.foldl (fun rs p => rs.set p.1 p.2.cells) rs).length = rs.length := by
     intro l
     induction l with
     | nil => intro rs; rfl
     | cons p l ih => intro rs; simp [ih]
    refine ⟨.slice (some ⟨w.heap.size, 0, none⟩) len len, w.alloc (.cells cs' e), μ.add nb (sizeP P e) len len (.at_ w.heap.size 0), ?_, ?_, ?_⟩
    ·have hn : ¬ (2 ^ 24 < len * ie.size) := by rw [← hse]; omega
     have hfill : Instr.fill (fun i => some (i * ie.size, ie.size)) ((Array.range (len * ie.size)).map fun x => v.cells[x % v.cells.size]!) (parts.map fun (i, x) => (i, ev x)).toList = some cs' := by
      rw [← hse]
      simpa [madeCells] using h1
     by_cases h0 : len * ie.size = 0
     ·have hfill0 : Instr.fill (fun i => some (i * ie.size, ie.size)) #[] (parts.map fun (i, x) => (i, ev x)).toList = some cs' := by
       rw [h0] at hfill
       simpa [Array.range_zero'] using hfill
      simp only [Array.toList_map] at hfill0
      simp [Instr.buildSlice, run_underlying hu, hszr, h0, newRow, hfill0, Array.range_zero']
     ·simp only [Array.toList_map] at hfill
      have hn' : ¬ (16777216 < len * ie.size) := by simpa using hn
      simp [Instr.buildSlice, run_underlying hu, hszr, hn', h0, zeroValue, typeInfo, hi, hzv, newRow, hfill]
    ·refine .sl _ nb _ 0 len _ rfl (show _ ∨ _ from .inl rfl) (by simp [Mu.add]) (fun _ => ?_)
     simp only [Mu.add, if_true]
     refine ⟨_, _, rfl, by omega, by omega, .inr (by simp), fun c' hc' => ?_⟩
     cases c <;> simp [capX] at hc'; exact hc'
    ·have hl := hlen ps (List.replicate len z)
     have hnr := hH.newRows (T := e) (cs := cs') (rs := ps.foldl (fun rs p => rs.set p.1 p.2.cells) (List.replicate len z)) (c := len) hnb hpos h2.2.1 (by rw [hl]; simp) (by have := h2.1; rw [hl] at this; simp at this; omega) h2.2.2
     rw [hl] at hnr
     simpa [upd] using hnr
  ·cases h
 ·cases h
end
end Go.Idl
namespace Go.Idl
open Go.RowKit
section
variable {P : Program} {μ : Mu} {F : Fz} {w : World} {σ : Heap} {ev : Operand → Value} {ρ : Operand → Option IV}
theorem run_sliceRaw {t e : TypeId} {ie : TypeInfo} (hu : P.underlying t = some (.slice e)) (hi : P.info? e = some ie) (a : Option Addr) (len cap : Nat) (lo hi' : Option Operand) (l u : Int)
  (hl : loV ρ lo = some l) (hh : hiV ρ hi' len = some u) (hρ : ∀ x c, ρ x = some c → VR μ F w (ev x) c) (h0 : 0 ≤ l) (h1 : l ≤ u) (h2 : u ≤ cap) (_hlc : len ≤ cap) :
  (Instr.sliceAt t (.slice a len cap) (lo.map ev) (hi'.map ev) none).run P w =
   .ok (.slice (if cap = l.toNat then a else a.map (·.add (l.toNat * ie.size))) (u.toNat - l.toNat) (cap - l.toNat)) w := by
 have hsz : (sizeOf e).run P w = .ok ie.size w := by simp [sizeOf, typeInfo, hi]
 have hiv : ∀ x n k, ρ x = some (.int k n) → ev x = .int k n := fun x n k e => by
  have := hρ x _ e
  generalize ev x = v at *
  cases this; rfl
 cases hi' with
 | none =>
  simp only [hiV, Option.some.injEq] at hh
  subst hh
  cases lo with
  | none =>
   simp only [loV, Option.some.injEq] at hl
   subst hl
   simp [Instr.sliceAt, Instr.slice, Instr.sliceBounds, run_underlying hu, hsz]
  | some x =>
   simp only [loV] at hl
   split at hl
   ·rename_i k n ex
    cases hl
    have h1' : l ≤ (len : Int) := h1
    simp [Instr.sliceAt, Instr.slice, Instr.sliceBounds, run_underlying hu, hsz, hiv x _ _ ex, Instr.sliceBound, asIntOf, h0, h1']
   ·cases hl
 | some y =>
  simp only [hiV] at hh
  split at hh
  ·rename_i k m ey
   cases hh
   have h0u : 0 ≤ u := by omega
   cases lo with
   | none =>
    simp only [loV, Option.some.injEq] at hl
    subst hl
    simp [Instr.sliceAt, Instr.slice, Instr.sliceBounds, run_underlying hu, hsz, hiv y _ _ ey, Instr.sliceBound, asIntOf, h0u, h2]
   | some x =>
    simp only [loV] at hl
    split at hl
    ·rename_i k n ex
     cases hl
     have h1' : l ≤ ((u.toNat : Nat) : Int) := by omega
     simp [Instr.sliceAt, Instr.slice, Instr.sliceBounds, run_underlying hu, hsz, hiv x _ _ ex, hiv y _ _ ey, Instr.sliceBound, asIntOf, h0, h0u, h2]
     omega
    ·cases hl
  ·cases hh
theorem run_sliceArr {t e : TypeId} {n : Nat} {ie : TypeInfo} (hu : P.underlying t = some (.array n e)) (hi : P.info? e = some ie) (a : Addr) (lo hi' : Option Operand) (l u : Int)
  (hl : loV ρ lo = some l) (hh : hiV ρ hi' n = some u) (hρ : ∀ x c, ρ x = some c → VR μ F w (ev x) c) (h0 : 0 ≤ l) (h1 : l ≤ u) (h2 : u ≤ n) :
  (Instr.sliceAt t (.pointer (some a)) (lo.map ev) (hi'.map ev) none).run P w =
   .ok (.slice (some (if n = l.toNat then a else a.add (l.toNat * ie.size))) (u.toNat - l.toNat) (n - l.toNat)) w := by
 have hsz : (sizeOf e).run P w = .ok ie.size w := by simp [sizeOf, typeInfo, hi]
 have hiv : ∀ x n k, ρ x = some (.int k n) → ev x = .int k n := fun x n k e => by
  have := hρ x _ e
  generalize ev x = v at *
  cases this; rfl
 cases hi' with
 | none =>
  simp only [hiV, Option.some.injEq] at hh
  subst hh
  cases lo with
  | none =>
   simp only [loV, Option.some.injEq] at hl
   subst hl
   simp [Instr.sliceAt, Instr.sureAddr, Instr.sliceBounds, run_underlying hu, hsz]
  | some x =>
   simp only [loV] at hl
   split at hl
   ·rename_i k m ex
    cases hl
    have h1' : l ≤ (n : Int) := h1
    simp [Instr.sliceAt, Instr.sureAddr, Instr.sliceBounds, run_underlying hu, hsz, hiv x _ _ ex, Instr.sliceBound, asIntOf, h0, h1']
   ·cases hl
 | some y =>
  simp only [hiV] at hh
  split at hh
  ·rename_i k m ey
   cases hh
   have h0u : 0 ≤ u := by omega
   cases lo with
   | none =>
    simp only [loV, Option.some.injEq] at hl
    subst hl
    simp [Instr.sliceAt, Instr.sureAddr, Instr.sliceBounds, run_underlying hu, hsz, hiv y _ _ ey, Instr.sliceBound, asIntOf, h0u, h2]
   | some x =>
    simp only [loV] at hl
    split at hl
    ·rename_i k m ex
     cases hl
     have h1' : l ≤ ((u.toNat : Nat) : Int) := by omega
     simp [Instr.sliceAt, Instr.sureAddr, Instr.sliceBounds, run_underlying hu, hsz, hiv x _ _ ex, hiv y _ _ ey, Instr.sliceBound, asIntOf, h0, h0u, h2]
     omega
    ·cases hl
  ·cases hh
theorem arrR_length {z : Nat} {row : List IV} {o : Nat} : ∀ (n l : Nat), (arrR z row o l n).length = n
 | 0, _ => rfl
 | n + 1, l => by simp [arrR, arrR_length n (l + 1)]
theorem arrR_get {z : Nat} {row : List IV} {o : Nat} : ∀ (n l k : Nat) (r : List IV), (arrR z row o l n)[k]? = some r → k < n ∧ r = cut z (o + (l + k) * z) row
 | 0, _, _, _, h => by simp [arrR] at h
 | n + 1, l, 0, r, h => by simp [arrR] at h; exact ⟨by omega, by rw [← h]; rfl⟩
 | n + 1, l, k + 1, r, h => by
  simp only [arrR, List.getElem?_cons_succ] at h
  obtain ⟨h1, h2⟩ := arrR_get n (l + 1) k r h
  exact ⟨by omega, by rw [h2, show l + 1 + k = l + (k + 1) by omega]⟩
theorem slice_goes {t : TypeId} {x : Operand} {lo hi : Option Operand} {nb : Nat} {r : Out} {c : Bool} (hρ : ∀ x c, ρ x = some c → VR μ F w (ev x) c) (hH : HR μ F σ w) (h : iop P c (.slice t x lo hi none) ρ σ nb = some r) (hp : r.pre) :
  ∃ z, (Instr.sliceAt t (ev x) (lo.map ev) (hi.map ev) none).run P w = .ok z w ∧ VR μ F w z r.v ∧ r.w = none := by
 simp only [iop] at h
 split at h
 ·rename_i e s rows l hu ex hl
  cases hc : (hasP P e && Nat.beq (sizeP P e) s) with
  | false => rw [hc] at h; cases h
  | true =>
   rw [hc] at h
   simp only [Bool.and_eq_true, Nat.beq_eq] at hc
   obtain ⟨he, hse⟩ := hc
   simp only [cond_true] at h
   split at h
   ·rename_i u hh
    simp only [okIf, Option.some.injEq] at h; subst h
    obtain ⟨h0, h1, h2⟩ := hp
    obtain ⟨ie, _, hie, _, hsz, _⟩ := hasP_spec he
    have hes : ie.size = s := by omega
    have hx := hρ x _ ex
    generalize hvx : ev x = vx at *
    have hnil : ∀ (a : Option Addr) (n cap : Nat), ((rows.take u.toNat).drop l.toNat) = [] → n = 0 → VR μ F w (.slice a n cap) (.fz s ((rows.take u.toNat).drop l.toNat)) := fun a n cap e1 e2 => by rw [e1, e2]; exact .fz0 _ _ _
    cases hx with
    | fz g off _ _ cap us hF hrow hcell hvr hcap =>
     have hr := run_sliceRaw hu hie (some ⟨g, off, none⟩) rows.length cap lo hi l u hl hh hρ h0 h1 (by omega) hcap
     refine ⟨_, hr, ?_, rfl⟩
     have hlen : ((rows.take u.toNat).drop l.toNat).length = u.toNat - l.toNat := by simp; omega
     by_cases hz : u.toNat - l.toNat = 0
     ·exact hnil _ _ _ (List.eq_nil_of_length_eq_zero (by omega)) hz
     ·rw [if_neg (by omega)]
      simp only [Option.map_some, Addr.add_lit, hes]
      have hget : ∀ i row, ((rows.take u.toNat).drop l.toNat)[i]? = some row → rows[l.toNat + i]? = some row := fun i row e => by
       rw [List.getElem?_drop, List.getElem?_take] at e
       split at e
       ·exact e
       ·cases e
      rw [← hlen]
      refine .fz g (off + l.toNat * s) s _ _ (fun i j => us (l.toNat + i) j) hF (fun i row e => hrow _ row (hget i row e)) (fun i row j e hj => ?_) (fun i row j c e1 e2 => hvr _ row j c (hget i row e1) e2) (by omega)
      have := hcell _ row j (hget i row e) hj
      rwa [Nat.add_mul, ← Nat.add_assoc] at this
    | fz0 a cap _ =>
     simp only [List.length_nil] at h2
     have hr := run_sliceRaw hu hie a 0 cap lo hi l u hl (by simpa using hh) hρ h0 h1 (by omega) (by omega)
     exact ⟨_, hr, hnil _ _ _ (by simp) (by omega), rfl⟩
   ·cases h
 ·rename_i e b tot i len cap l hu ex hl
  cases he : hasP P e with
  | false => rw [he] at h; cases h
  | true =>
   rw [he] at h
   simp only [cond_true] at h
   split at h
   ·rename_i s rs hb
    cases hse : Nat.beq (sizeP P e) s with
    | false => rw [hse] at h; cases h
    | true =>
     rw [hse] at h
     rw [Nat.beq_eq] at hse
     simp only [cond_true] at h
     split at h
     ·rename_i u hh
      simp only [okIf, Option.some.injEq] at h; subst h
      obtain ⟨h0, h1, h2, htot, hil⟩ := hp
      obtain ⟨ie, _, hie, _, hsz, _⟩ := hasP_spec he
      have hes : ie.size = s := by omega
      obtain ⟨hub, hpos, hszb, hlen, hrow, hcs⟩ := hH.obj b _ hb
      have hx := hρ x _ ex
      generalize hvx : ev x = vx at *
      cases hx with
      | sl _ _ _ _ _ _ hk hb' ht' hsl =>
       have hsl := hsl (by omega)
       cases hpl : μ.pl b with
       | dead => rcases hcs with ⟨h, _⟩ | ⟨_, _, _, _, h, _⟩ <;> rw [hpl] at h <;> cases h
       | empty =>
        rw [hpl] at hsl
        obtain ⟨rfl, h3⟩ := hsl
        subst h3
        have hrs : rs.length = 0 := by rcases hcs with ⟨_, h⟩ | ⟨_, _, _, _, h, _⟩; (· rw [h]; rfl); (· rw [hpl] at h; cases h)
        have hr := run_sliceRaw hu hie none 0 0 lo hi l u hl (by simpa using hh) hρ h0 h1 (by omega) (by omega)
        have e1 : l.toNat = 0 := by omega
        have e2 : u.toNat = 0 := by omega
        refine ⟨_, hr, ?_, rfl⟩
        rw [e1, e2]
        refine .sl _ b tot _ _ _ rfl hub (by omega) (fun _ => ?_)
        rw [hpl]; exact ⟨by simp, rfl⟩
       | at_ g off =>
        rw [hpl] at hsl
        obtain ⟨a, c', rfl, hle, hcp, ha, hcap⟩ := hsl
        have hcc : cap.getD len ≤ c' := by
         cases hcp2 : cap with
         | none => exact hle
         | some c2 => rw [hcap c2 hcp2]; exact Nat.le_refl _
        have hr := run_sliceRaw hu hie a len c' lo hi l u hl hh hρ h0 h1 (by omega) hle
        refine ⟨_, hr, .sl _ b tot _ _ _ rfl hub (by omega) (fun _ => ?_), rfl⟩
        rw [hpl]
        refine ⟨_, _, rfl, by omega, by omega, ?_, fun c2 hc2 => ?_⟩
        ·by_cases hz : c' = l.toNat
         ·exact .inl (by omega)
         ·refine .inr ?_
          rw [if_neg hz]
          rcases ha with ha | ha
          ·omega
          ·rw [ha, hszb]; simp [Addr.add_lit, hes, Nat.add_mul, Nat.add_assoc]
        ·simp only [Option.map_eq_some_iff] at hc2
         obtain ⟨c3, hc3, rfl⟩ := hc2
         rw [hcap c3 hc3]
     ·cases h
   ·cases h
 ·rename_i n e s rows i o l hu ex hl
  cases hc : (hasP P e && Nat.blt 0 (sizeP P e)) with
  | false => rw [hc] at h; cases h
  | true =>
   rw [hc] at h
   simp only [Bool.and_eq_true, Nat.blt_eq] at hc
   obtain ⟨he, hz⟩ := hc
   simp only [cond_true] at h
   split at h
   ·rename_i u hh
    simp only [okIf, Option.some.injEq] at h; subst h
    obtain ⟨h0, h1, h2, h3, h4⟩ := hp
    obtain ⟨ie, _, hie, _, hsz, _⟩ := hasP_spec he
    have hx := hρ x _ ex
    generalize hvx : ev x = vx at *
    cases hx with
    | fptr g off _ _ _ _ us hF hrow hcell hvr =>
     have hr := run_sliceArr hu hie ⟨g, off + i * s + o, none⟩ lo hi l u hl hh hρ h0 h1 h2
     refine ⟨_, hr, ?_, rfl⟩
     obtain ⟨z, hzz⟩ : ∃ z, sizeP P e = z := ⟨_, rfl⟩
     rw [hzz] at hz h4 ⊢
     rw [hzz] at hsz
     rw [← hsz]
     have hlen := arrR_length (z := z) (row := rows.getD i []) (o := o) (u.toNat - l.toNat) l.toNat
     have hri : rows[i]? = some rows[i] := List.getElem?_eq_getElem h3
     have hrd : rows.getD i [] = rows[i] := by simp [List.getD, hri]
     have hrl := hrow i _ hri
     have hmul : ∀ k, k < u.toNat - l.toNat → (l.toNat + k) * z + z ≤ n * z := fun k hk => by
      have := Nat.mul_le_mul_right z (show l.toNat + k + 1 ≤ n by omega)
      rw [Nat.succ_mul] at this; exact this
     by_cases hz0 : u.toNat - l.toNat = 0
     ·have e0 : arrR z (rows.getD i []) o l.toNat (u.toNat - l.toNat) = [] := List.eq_nil_of_length_eq_zero (by omega)
      rw [e0, hz0]; exact .fz0 _ _ _
     ·rw [if_neg (by omega)]
      simp only [Addr.add_lit]
      have := VR.fz (μ := μ) (F := F) (w := w) g (off + i * s + o + l.toNat * z) z (arrR z (rows.getD i []) o l.toNat (u.toNat - l.toNat)) (n - l.toNat) (fun k j => us i (o + (l.toNat + k) * z + j)) hF (fun k row' hk => ?_) (fun k row' j hk hj => ?_) (fun k row' j c hk hj => ?_) (by omega)
      ·rw [hlen] at this; exact this
      ·obtain ⟨hk1, rfl⟩ := arrR_get _ _ _ _ hk
       have := hmul k hk1
       rw [hrd]; simp [cut]; omega
      ·obtain ⟨hk1, rfl⟩ := arrR_get _ _ _ _ hk
       have := hmul k hk1
       have := hcell i _ (o + (l.toNat + k) * z + j) hri (by omega)
       rw [← this]
       congr 2
       rw [Nat.add_mul]; omega
      ·obtain ⟨hk1, rfl⟩ := arrR_get _ _ _ _ hk
       have hjz : j < z := by
        have := (List.getElem?_eq_some_iff.1 hj).1
        simp [cut] at this; omega
       refine hvr i _ (o + (l.toNat + k) * z + j) c hri ?_
       rw [hrd] at hj
       simp only [cut, List.getElem?_take, List.getElem?_drop] at hj
       rw [if_pos hjz] at hj
       exact hj
   ·cases h
 ·cases h
theorem run_slice3 {t e : TypeId} {ie : TypeInfo} (hu : P.underlying t = some (.slice e)) (hi : P.info? e = some ie) (a : Option Addr) (len cap : Nat) (lo : Option Operand) (y z : Operand) (l u m : Int) {ku km : IntKind}
  (hl : loV ρ lo = some l) (hy : ρ y = some (.int ku u)) (hz : ρ z = some (.int km m)) (hρ : ∀ x c, ρ x = some c → VR μ F w (ev x) c) (h0 : 0 ≤ l) (h1 : l ≤ u) (h2 : u ≤ m) (h3 : m ≤ cap) :
  (Instr.sliceAt t (.slice a len cap) (lo.map ev) (some (ev y)) (some (ev z))).run P w =
   .ok (.slice (if m.toNat = l.toNat then a else a.map (·.add (l.toNat * ie.size))) (u.toNat - l.toNat) (m.toNat - l.toNat)) w := by
 have hsz : (sizeOf e).run P w = .ok ie.size w := by simp [sizeOf, typeInfo, hi]
 have hiv : ∀ x n k, ρ x = some (.int k n) → ev x = .int k n := fun x n k e => by
  have := hρ x _ e
  generalize ev x = v at *
  cases this; rfl
 have h0u : 0 ≤ u := by omega
 have h0m : 0 ≤ m := by omega
 have hum : u ≤ max m 0 := by omega
 cases lo with
 | none =>
  simp only [loV, Option.some.injEq] at hl
  subst hl
  simp [Instr.sliceAt, Instr.slice, Instr.sliceBounds, run_underlying hu, hsz, hiv y _ _ hy, hiv z _ _ hz, Instr.sliceBound, asIntOf, h0u, h0m, hum, h3]
 | some x =>
  simp only [loV] at hl
  split at hl
  ·rename_i k n ex
   cases hl
   have h1' : l ≤ max u 0 := by omega
   simp [Instr.sliceAt, Instr.slice, Instr.sliceBounds, run_underlying hu, hsz, hiv x _ _ ex, hiv y _ _ hy, hiv z _ _ hz, Instr.sliceBound, asIntOf, h0, h0u, h0m, hum, h1', h3]
  ·cases hl
theorem slice3_goes {t : TypeId} {x y zz : Operand} {lo : Option Operand} {nb : Nat} {r : Out} {c : Bool} (hρ : ∀ x c, ρ x = some c → VR μ F w (ev x) c) (hH : HR μ F σ w) (h : iop P c (.slice t x lo (some y) (some zz)) ρ σ nb = some r) (hp : r.pre) :
  ∃ z, (Instr.sliceAt t (ev x) (lo.map ev) (some (ev y)) (some (ev zz))).run P w = .ok z w ∧ VR μ F w z r.v ∧ r.w = none := by
 simp only [iop] at h
 split at h
 ·rename_i e b tot i len cap l ku u km m hu ex hl ey ez
  cases he : hasP P e with
  | false => rw [he] at h; cases h
  | true =>
   rw [he] at h
   simp only [cond_true] at h
   split at h
   ·rename_i s rs hb
    cases hse : Nat.beq (sizeP P e) s with
    | false => rw [hse] at h; cases h
    | true =>
     rw [hse] at h
     rw [Nat.beq_eq] at hse
     simp only [cond_true, okIf, Option.some.injEq] at h
     subst h
     obtain ⟨h0, h1, h2, h3, htot, hil⟩ := hp
     obtain ⟨ie, _, hie, _, hsz, _⟩ := hasP_spec he
     have hes : ie.size = s := by omega
     obtain ⟨hub, hpos, hszb, hlen, hrow, hcs⟩ := hH.obj b _ hb
     have hx := hρ x _ ex
     generalize hvx : ev x = vx at *
     cases hx with
     | sl _ _ _ _ _ _ hk hb' ht' hsl =>
      have hsl := hsl (by omega)
      cases hpl : μ.pl b with
      | dead => rcases hcs with ⟨h, _⟩ | ⟨_, _, _, _, h, _⟩ <;> rw [hpl] at h <;> cases h
      | empty =>
       rw [hpl] at hsl
       obtain ⟨rfl, h4⟩ := hsl
       subst h4
       have hrs : rs.length = 0 := by rcases hcs with ⟨_, h⟩ | ⟨_, _, _, _, h, _⟩; (· rw [h]; rfl); (· rw [hpl] at h; cases h)
       have hr := run_slice3 hu hie none 0 0 lo y zz l u m hl ey ez hρ h0 h1 h2 (by omega)
       have e1 : l.toNat = 0 := by omega
       have e2 : u.toNat = 0 := by omega
       have e3 : m.toNat = 0 := by omega
       refine ⟨_, hr, ?_, rfl⟩
       rw [e1, e2, e3]
       refine .sl _ b tot _ _ _ rfl hub (by omega) (fun _ => ?_)
       rw [hpl]; exact ⟨by simp, rfl⟩
      | at_ g off =>
       rw [hpl] at hsl
       obtain ⟨a, c', rfl, hle, hcp, ha, hcap⟩ := hsl
       have hcc : cap.getD len ≤ c' := by
        cases hcp2 : cap with
        | none => exact hle
        | some c2 => rw [hcap c2 hcp2]; exact Nat.le_refl _
       have hr := run_slice3 hu hie a len c' lo y zz l u m hl ey ez hρ h0 h1 h2 (by omega)
       refine ⟨_, hr, .sl _ b tot _ _ _ rfl hub (by omega) (fun _ => ?_), rfl⟩
       rw [hpl]
       refine ⟨_, _, rfl, by omega, by omega, ?_, fun c2 hc2 => by cases hc2; rfl⟩
       by_cases hz : m.toNat = l.toNat
       ·exact .inl (by omega)
       ·refine .inr ?_
        rw [if_neg hz]
        rcases ha with ha | ha
        ·omega
        ·rw [ha, hszb]; simp [Addr.add_lit, hes, Nat.add_mul, Nat.add_assoc]
   ·cases h
 ·cases h
theorem minmax_run (max : Bool) : ∀ (l : List IV) (vs : List Value) (a : IV) (v : Value) (r : IV), VR μ F w v a → VRs μ F w vs l → mms max a l = some r →
  ∃ z, (vs.foldlM (if max then Builtin.max2 else Builtin.min2) v).run P w = .ok z w ∧ VR μ F w z r
 | [], vs, a, v, r, ha, hl, h => by
  have : vs = [] := by simpa using hl.1
  subst this
  simp only [mms, Option.some.injEq] at h; subst h
  exact ⟨v, rfl, ha⟩
 | b :: l, vs, a, v, r, ha, hl, h => by
  cases vs with
  | nil => simp [VRs] at hl
  | cons u vs =>
   have hb := hl.2 0 u b rfl rfl
   have hl' : VRs μ F w vs l := ⟨by simpa using hl.1, fun j v c e1 e2 => hl.2 (j + 1) v c (by simpa using e1) (by simpa using e2)⟩
   simp only [mms] at h
   split at h
   ·rename_i c hc
    unfold mm at hc
    split at hc
    ·rename_i k x k' y
     cases hc
     cases ha
     cases hb
     obtain ⟨z, z1, z2⟩ := minmax_run max l vs _ (.int k (bif max then (if y > x then y else x) else (if y < x then y else x))) r (.int _ _) hl' h
     refine ⟨z, ?_, z2⟩
     rw [List.foldlM_cons, Sem.run_bind]
     cases max
     ·simpa [Builtin.min2] using z1
     ·simpa [Builtin.max2] using z1
    ·cases hc
   ·cases h
structure Src0 (P : Program) (size : Nat) (tx : TypeId) (x : Value) (n : Nat) (news : List Value) (w : World) : Prop where
 kind : (∃ e', P.underlying tx = some (.slice e')) ∨ P.underlying tx = some .string
 len : ∀ w' : World, (Builtin.lenOf x).run P w' = .ok n w'
 cells : (Builtin.firstCells size n x).run P w = .ok news.toArray w
 cellsD : (Builtin.firstCells size n x).run P w.drew = .ok news.toArray w.drew
 newsLen : news.length = n * size
theorem Src0.src {size : Nat} {tx : TypeId} {x : Value} {n : Nat} {news : List Value} (h : Src0 P size tx x n news w) (h1 : ∀ u ∈ news, u.oneCell' = true) : Src P size tx x n news w := ⟨h.kind, h.len, h.cells, h.cellsD, h.newsLen, h1⟩
theorem Src0.ofSlice {size : Nat} {tx e' : TypeId} (hk : P.underlying tx = some (.slice e')) (a : Addr) (n c : Nat) (news : List Value) (hl : news.length = n * size) (hnews : ∀ j u, news[j]? = some u → w.cell? (a.add j) = some u) : Src0 P size tx (.slice (some a) n c) n news w :=
 ⟨.inl ⟨e', hk⟩, fun _ => rfl, run_firstCells_some w size n a n c news hl hnews, run_firstCells_some w.drew size n a n c news hl (by simpa using hnews), hl⟩
theorem Src0.ofNil {size : Nat} {tx e' : TypeId} (hk : P.underlying tx = some (.slice e')) (c : Nat) : Src0 P size tx (.slice none 0 c) 0 [] w :=
 ⟨.inl ⟨e', hk⟩, fun _ => rfl, run_firstCells_none w size 0 0 c, run_firstCells_none w.drew size 0 0 c, by simp⟩
theorem src_rows0 {y : Value} {c : IV} {s : Nat} {pre : Prop} {src : List (List IV)} {tx e' : TypeId} (hk : P.underlying tx = some (.slice e')) (hH : HR μ F σ w) (hy : VR μ F w y c) (h : srcRows σ c = some (pre, src)) (hp : pre)
  (hs : ∀ r ∈ src, r.length = s) (hpos : 0 < s) : ∃ news, Src0 P s tx y src.length news w ∧ news.length = src.length * s ∧ ∀ (i : Nat) (row : List IV) (j : Nat) (c : IV), src[i]? = some row → row[j]? = some c → ∃ v, news[i * s + j]? = some v ∧ VR μ F w v c := by
 have hdiv : ∀ k n, k < n * s → k / s < n ∧ k / s * s + k % s = k ∧ k % s < s := fun k n hk => by
  have h1 : k / s < n := Nat.div_lt_of_lt_mul (by rwa [Nat.mul_comm])
  have h2 := Nat.div_add_mod k s
  exact ⟨h1, by rw [Nat.mul_comm]; exact h2, Nat.mod_lt _ hpos⟩
 have none0 : ∀ (a : Option Addr) (cap : Nat), ∃ news, Src0 P s tx (.slice a 0 cap) 0 news w ∧ news.length = 0 * s := fun a cap => by
  refine ⟨[], ?_, by simp⟩
  cases a with
  | none => exact Src0.ofNil hk cap
  | some a => exact Src0.ofSlice hk a 0 cap [] (by simp) (by simp)
 have at1 : ∀ (g off cap : Nat) (us : Nat → Nat → Value), (∀ i j row, src[i]? = some row → j < s → w.cell? ⟨g, off + i * s + j, none⟩ = some (us i j)) →
   (∀ (i : Nat) (row : List IV) (j : Nat) (c : IV), src[i]? = some row → row[j]? = some c → VR μ F w (us i j) c) →
   ∃ news, Src0 P s tx (.slice (some ⟨g, off, none⟩) src.length cap) src.length news w ∧ news.length = src.length * s ∧ ∀ (i : Nat) (row : List IV) (j : Nat) (c : IV), src[i]? = some row → row[j]? = some c → ∃ v, news[i * s + j]? = some v ∧ VR μ F w v c :=
  fun g off cap us hc hv => by
  refine ⟨(List.range (src.length * s)).map fun k => us (k / s) (k % s), ?_, by simp, fun i row j c e1 e2 => ?_⟩
  ·refine Src0.ofSlice hk _ _ _ _ (by simp) (fun k u hu => ?_)
   ·have hk := (List.getElem?_eq_some_iff.1 hu).1
    simp at hk
    simp [hk] at hu
    subst hu
    obtain ⟨d1, d2, d3⟩ := hdiv k _ hk
    rw [Addr.add_lit]
    have := hc (k / s) (k % s) _ (List.getElem?_eq_getElem d1) d3
    rwa [Nat.add_assoc, d2] at this
  ·have hi := (List.getElem?_eq_some_iff.1 e1).1
   have hr := hs row (List.mem_of_getElem? e1)
   have hj := (List.getElem?_eq_some_iff.1 e2).1
   have hlt : i * s + j < src.length * s := by
    have : (i + 1) * s ≤ src.length * s := Nat.mul_le_mul_right _ hi
    rw [Nat.add_mul] at this; omega
   have e3 : (i * s + j) / s = i := by rw [Nat.mul_comm, Nat.mul_add_div hpos, Nat.div_eq_of_lt (by omega)]; rfl
   have e4 : (i * s + j) % s = j := by rw [Nat.mul_comm, Nat.mul_add_mod, Nat.mod_eq_of_lt (by omega)]
   exact ⟨us i j, by simp [hlt, e3, e4], hv i row j c e1 e2⟩
 unfold srcRows at h
 split at h
 ·cases h
  cases hy with
  | fz g off _ _ cap us hF hrow hcell hvr hcap =>
   by_cases h0 : src = []
   ·subst h0
    obtain ⟨news, n1, n2⟩ := none0 (some ⟨g, off, none⟩) cap
    exact ⟨news, n1, n2, by simp⟩
   ·have hs0 : ∀ (i : Nat) (row : List IV), src[i]? = some row → row.length = s := fun i row e => hs row (List.mem_of_getElem? e)
    obtain ⟨r0, rest, e0⟩ := List.exists_cons_of_ne_nil h0
    have e1 := hrow 0 r0 (by simp [e0])
    have e2 := hs0 0 r0 (by simp [e0])
    rw [e1] at e2
    subst e2
    exact at1 g off cap us (fun i j row e hj => hcell i row j e hj) hvr
  | fz0 a cap _ =>
   obtain ⟨news, n1, n2⟩ := none0 a cap
   exact ⟨news, n1, n2, by simp⟩
 ·cases h
  cases hy
  obtain ⟨news, n1, n2⟩ := none0 none 0
  exact ⟨news, n1, n2, by simp⟩
 ·rename_i b tot i len cap
  split at h
  ·rename_i s' rs hb
   cases h
   obtain ⟨htot, hil⟩ := hp
   obtain ⟨hub, hpos', hszb, hlen, hrow, hcs⟩ := hH.obj b _ hb
   cases hy with
   | sl _ _ _ _ _ _ hk hb' ht' hsl =>
    have hsl := hsl (by omega)
    have hlen' : ((rs.drop i).take len).length = len := by simp; omega
    rcases hcs with ⟨hpl, h0⟩ | ⟨g, off, cs, T, hpl, hg, hcp1, hcp2, hcs⟩
    ·rw [hpl] at hsl
     obtain ⟨rfl, rfl⟩ := hsl
     obtain ⟨news, n1, n2⟩ := none0 none 0
     exact ⟨news, by simpa using n1, by simpa using n2, by simp⟩
    ·rw [hpl] at hsl
     obtain ⟨a, c', rfl, hle, hcp, ha, _⟩ := hsl
     by_cases hz : len = 0
     ·subst hz
      obtain ⟨news, n1, n2⟩ := none0 a c'
      exact ⟨news, by simpa using n1, by simpa using n2, by simp⟩
     ·have ha : a = some ⟨g, off + i * μ.sz b, none⟩ := by
       rcases ha with h | h
       ·omega
       ·exact h
      subst ha
      have hget : ∀ k row, ((rs.drop i).take len)[k]? = some row → rs[i + k]? = some row := fun k row e => by
       rw [List.getElem?_take] at e
       split at e
       ·rwa [List.getElem?_drop] at e
       ·cases e
      have hss : s' = s := by
       have hi0 : 0 < ((rs.drop i).take len).length := by omega
       have := hs _ (List.getElem_mem hi0)
       rw [← this]
       exact (hrow _ _ (hget 0 _ (List.getElem?_eq_getElem hi0))).symm
      subst hss
      rw [hszb]
      have := at1 g (off + i * s') c' (fun k j => cs.getD (off + (i + k) * s' + j) undef) (fun k j row e hj => by
        have hr := hget k row e
        have hj' : j < row.length := by rw [hrow _ _ hr]; exact hj
        obtain ⟨v, v1, _⟩ := hcs _ _ j _ hr (List.getElem?_eq_getElem hj')
        rw [show off + i * s' + k * s' + j = off + (i + k) * s' + j by rw [Nat.add_mul]; omega]
        rw [cell_of_row w g _ cs T (0, 0) hg, v1]
        simp [v1])
       (fun k row j c e1 e2 => by
        obtain ⟨v, v1, v2⟩ := hcs _ _ j c (hget k row e1) e2
        simpa [v1] using v2)
      rwa [hlen'] at this ⊢
  ·cases h
 ·cases h
theorem src_rows {y : Value} {c : IV} {s : Nat} {pre : Prop} {src : List (List IV)} {tx e' : TypeId} (hk : P.underlying tx = some (.slice e')) (hH : HR μ F σ w) (hy : VR μ F w y c) (h : srcRows σ c = some (pre, src)) (hp : pre)
  (hs : ∀ r ∈ src, r.length = s ∧ r.all IV.one = true) (hpos : 0 < s) : ∃ news, Src P s tx y src.length news w ∧ news.length = src.length * s ∧ ∀ (i : Nat) (row : List IV) (j : Nat) (c : IV), src[i]? = some row → row[j]? = some c → ∃ v, news[i * s + j]? = some v ∧ VR μ F w v c := by
 obtain ⟨news, h1, h2, h3⟩ := src_rows0 hk hH hy h hp (fun r hr => (hs r hr).1) hpos
 refine ⟨news, h1.src fun u hu => ?_, h2, h3⟩
 obtain ⟨k, hk', rfl⟩ := List.getElem_of_mem hu
 have d1 : k / s < src.length := Nat.div_lt_of_lt_mul (by rw [Nat.mul_comm]; omega)
 have d2 := Nat.div_add_mod k s
 have d3 := Nat.mod_lt k hpos
 have hr := hs _ (List.getElem_mem d1)
 have hj : k % s < (src[k / s]).length := by omega
 obtain ⟨v, v1, v2⟩ := h3 (k / s) _ (k % s) _ (List.getElem?_eq_getElem d1) (List.getElem?_eq_getElem hj)
 rw [show k / s * s + k % s = k by rw [Nat.mul_comm]; exact d2] at v1
 rw [List.getElem?_eq_getElem hk'] at v1
 cases v1
 exact VR.one v2 (List.all_eq_true.1 hr.2 _ (List.getElem_mem hj))
end
end Go.Idl
namespace Go.Idl
open Go.RowKit
section
variable {P : Program} {μ : Mu} {F : Fz} {w : World} {σ : Heap} {ev : Operand → Value} {ρ : Operand → Option IV}
theorem rows_append {s : Nat} {os ns : List Value} {ro rn : List (List IV)} (ho : os.length = ro.length * s)
  (h1 : ∀ (i : Nat) (row : List IV) (j : Nat) (c : IV), ro[i]? = some row → row[j]? = some c → ∃ v, os[i * s + j]? = some v ∧ VR μ F w v c)
  (h2 : ∀ (i : Nat) (row : List IV) (j : Nat) (c : IV), rn[i]? = some row → row[j]? = some c → ∃ v, ns[i * s + j]? = some v ∧ VR μ F w v c) (tail : List Value) :
  ∀ (i : Nat) (row : List IV) (j : Nat) (c : IV), (ro ++ rn)[i]? = some row → row[j]? = some c → ∃ v, (os ++ ns ++ tail)[i * s + j]? = some v ∧ VR μ F w v c := by
 intro i row j c e1 e2
 by_cases hi : i < ro.length
 ·rw [List.getElem?_append_left hi] at e1
  obtain ⟨v, v1, v2⟩ := h1 i row j c e1 e2
  refine ⟨v, ?_, v2⟩
  have := (List.getElem?_eq_some_iff.1 v1).1
  rw [List.append_assoc, List.getElem?_append_left this]; exact v1
 ·rw [List.getElem?_append_right (by omega)] at e1
  obtain ⟨v, v1, v2⟩ := h2 _ row j c e1 e2
  refine ⟨v, ?_, v2⟩
  have hlt := (List.getElem?_eq_some_iff.1 v1).1
  have e3 : i * s + j - os.length = (i - ro.length) * s + j := by
   rw [ho, Nat.sub_mul]
   have : ro.length * s ≤ i * s := Nat.mul_le_mul_right _ (by omega)
   omega
  have hge : os.length ≤ i * s + j := by
   rw [ho]
   have : ro.length * s ≤ i * s := Nat.mul_le_mul_right _ (by omega)
   omega
  rw [List.append_assoc, List.getElem?_append_right hge, e3, List.getElem?_append_left hlt]; exact v1
theorem Mu.le_re {b s n c : Nat} {p : Place} (hs : μ.u b → μ.sz b = s) (hl : μ.u b → μ.len b < n) (hpos : 0 < s) : μ.le (μ.add b s n c p) := by
 intro x hx
 by_cases e : x = b
 ·subst e
  have h1 := hs hx
  have h2 := hl hx
  refine ⟨.inl rfl, by simp [Mu.add, h1], by simp [Mu.add]; omega, fun h => by simp [Mu.add] at h; omega, fun h => by omega⟩
 ·simp [Mu.add, e, hx]
theorem Mu.le_keep {b : Nat} : μ.le (μ.add b (μ.sz b) (μ.len b) (μ.cp b) (μ.pl b)) := by
 intro x hx
 by_cases e : x = b
 ·subst e; simp [Mu.add]
 ·simp [Mu.add, e, hx]
theorem append_growR {t tx ty e : TypeId} {ie : TypeInfo} {z : Value} {zi : List IV} {s : Nat} (hzi : VRs μ F w z.cells.toList zi) (hzl : zi.length = s) (hs : ie.size = s) (hpos : 0 < s)
  (hby : ie.bytes ≤ 1024) (hH : HR μ F σ w) {base : Option Addr} {sLen sCap : Nat} {olds : List Value} {ro : List (List IV)} (hro : ro.length = sLen) (hol : olds.length = sLen * s)
  (hor : ∀ r ∈ ro, r.length = s) (hoc : ∀ (i : Nat) (row : List IV) (j : Nat) (c : IV), ro[i]? = some row → row[j]? = some c → ∃ v, olds[i * s + j]? = some v ∧ VR μ F w v c)
  {x : Value} {src : List (List IV)} {news : List Value} (hnl : news.length = src.length * s)
  (hrun0 : sCap < sLen + src.length → ((sLen + src.length : Nat) : Int) ≤ 9223372036854775807 → Builtin.nextslicecap (sLen + src.length) sCap * ie.bytes ≤ 281474976710656 →
   (Builtin.append_ #[t, tx] ty #[.slice base sLen sCap, x]).run P w = .ok (.slice (some ⟨w.heap.size, 0, none⟩) (sLen + src.length) (grownCap w (sLen + src.length) sCap e)) (w.drew.alloc (.cells ((olds ++ news).toArray ++ Builtin.zeroCells z.cells (grownCap w (sLen + src.length) sCap e - (sLen + src.length))) e))) (hnr : ∀ r ∈ src, r.length = s)
  (hnc : ∀ (i : Nat) (row : List IV) (j : Nat) (c : IV), src[i]? = some row → row[j]? = some c → ∃ v, news[i * s + j]? = some v ∧ VR μ F w v c)
  (hg : sCap < sLen + src.length) (h32 : sLen + src.length ≤ 2 ^ 32) {b : Nat} (hbs : μ.u b → μ.sz b = s) (hbl : μ.u b → μ.len b < sLen + src.length) :
  ∃ C w', (Builtin.append_ #[t, tx] ty #[.slice base sLen sCap, x]).run P w = .ok (.slice (some ⟨w.heap.size, 0, none⟩) (sLen + src.length) C) w' ∧ sLen + src.length ≤ C ∧
   HR (μ.add b s (sLen + src.length) C (.at_ w.heap.size 0)) F (hput σ b (.rows s (ro ++ src))) w' ∧ Ext μ F w (μ.add b s (sLen + src.length) C (.at_ w.heap.size 0)) F w' := by
 subst hs
 have hrun := hrun0 hg (by omega)
  (growslice_fits hg (by
   have : (sLen + src.length) * ie.bytes ≤ 2 ^ 32 * 1024 := Nat.mul_le_mul h32 hby
   omega))
 have hC := grownCap_ge w (sLen + src.length) sCap e
 generalize grownCap w (sLen + src.length) sCap e = C at *
 refine ⟨C, _, hrun, hC, ?_⟩
 have hle : μ.le (μ.add b ie.size (sLen + src.length) C (.at_ w.heap.size 0)) := Mu.le_re hbs hbl hpos
 have hzs : z.cells.size = ie.size := by have := hzi.1; simp at this; omega
 have hw : ∀ g, g < w.heap.size → (μ.u b → ∀ off, μ.pl b ≠ .at_ g off) → ((w.drew).alloc (.cells ((olds ++ news).toArray ++ Builtin.zeroCells z.cells (C - (sLen + src.length))) e)).heap[g]? = w.heap[g]? :=
  fun g hg _ => Below.heap_alloc w.drew _ _ hg
 refine hH.change hle (fun x e => Mu.add_other x e) hw (fun g off _ e => ?_) (by simp) rfl rfl ⟨rfl, Nat.le_add_right _ _⟩ (fun x b' es cur todo h e => by subst e; obtain ⟨_, _, _, _, h3⟩ := hH.obj x _ h; have := hbs h3.1; have := h3.2.1; omega) ?_
 ·simp [Mu.add] at e; obtain ⟨rfl, rfl⟩ := e; simp
 ·refine ⟨.inl rfl, hpos, by simp [Mu.add], by simp [Mu.add, hro], fun i row e => ?_, .inr ⟨w.heap.size, 0, _, e, by simp [Mu.add], heap_alloc_new w.drew _, by simp [Mu.add, hro]; omega, ?_, fun i row j c e1 e2 => ?_⟩⟩
  ·rcases List.mem_append.1 (List.mem_of_getElem? e) with h | h
   ·exact hor _ h
   ·exact hnr _ h
  ·have h1 := hol
   have h2 := hnl
   simp [Mu.add, size_zeroCells, hzs, h1, h2]
   rw [← Nat.add_mul, ← Nat.add_mul]
   exact Nat.mul_le_mul_right _ (by omega)
  ·obtain ⟨v, v1, v2⟩ := rows_append (by rw [hol, hro]) hoc hnc (Builtin.zeroCells z.cells (C - (sLen + src.length))).toList i row j c e1 e2
   refine ⟨v, ?_, v2.mono hle (fun _ h => h) (hH.frozen_same hw)⟩
   rw [← Array.getElem?_toList]
   simpa using v1
theorem append_grow {t tx ty e : TypeId} {ie : TypeInfo} {z : Value} {zi : List IV} {s : Nat} (hu : P.underlying t = some (.slice e)) (hi : P.info? e = some ie) (hz : ie.zero = some z) (hzi : VRs μ F w z.cells.toList zi) (hzl : zi.length = s) (hs : ie.size = s) (hpos : 0 < s)
  (hby : ie.bytes ≤ 1024) (hH : HR μ F σ w) {base : Option Addr} {sLen sCap : Nat} {olds : List Value} {ro : List (List IV)} (hro : ro.length = sLen) (hold : (Builtin.firstCells s sLen (.slice base sLen sCap)).run P w.drew = .ok olds.toArray w.drew) (hol : olds.length = sLen * s)
  (hor : ∀ r ∈ ro, r.length = s) (hoc : ∀ (i : Nat) (row : List IV) (j : Nat) (c : IV), ro[i]? = some row → row[j]? = some c → ∃ v, olds[i * s + j]? = some v ∧ VR μ F w v c)
  {x : Value} {src : List (List IV)} {news : List Value} (hsrc : Src P s tx x src.length news w) (hnr : ∀ r ∈ src, r.length = s)
  (hnc : ∀ (i : Nat) (row : List IV) (j : Nat) (c : IV), src[i]? = some row → row[j]? = some c → ∃ v, news[i * s + j]? = some v ∧ VR μ F w v c)
  (hg : sCap < sLen + src.length) (h32 : sLen + src.length ≤ 2 ^ 32) {b : Nat} (hbs : μ.u b → μ.sz b = s) (hbl : μ.u b → μ.len b < sLen + src.length) :
  ∃ C w', (Builtin.append_ #[t, tx] ty #[.slice base sLen sCap, x]).run P w = .ok (.slice (some ⟨w.heap.size, 0, none⟩) (sLen + src.length) C) w' ∧ sLen + src.length ≤ C ∧
   HR (μ.add b s (sLen + src.length) C (.at_ w.heap.size 0)) F (hput σ b (.rows s (ro ++ src))) w' ∧ Ext μ F w (μ.add b s (sLen + src.length) C (.at_ w.heap.size 0)) F w' := by
 subst hs
 exact append_growR (ie := ie) (z := z) hzi hzl rfl hpos hby hH hro hol hor hoc hsrc.newsLen (fun h1 h2 h3 => run_append_grow_src (P := P) w t tx ty e ie z hu hi hz base sLen sCap olds hold x src.length news hsrc h1 h2 h3) hnr hnc hg h32 hbs hbl
theorem append_room {t tx ty e e' : TypeId} {ie : TypeInfo} {s : Nat} (hu : P.underlying t = some (.slice e)) (hi : P.info? e = some ie) (hs : ie.size = s) (hk : P.underlying tx = some (.slice e'))
  {g off p sLen sCap : Nat} {cs : Array Value} {T : TypeId} (hg : w.heap[g]? = some (.cells cs T (0, 0))) {x : Value} {n : Nat} {news : List Value} (hsrc : Src P s tx x n news w)
  (hroom : sLen + n ≤ sCap) (hp : p = off + sLen * s) (hb : p + n * s ≤ cs.size) :
  (Builtin.append_ #[t, tx] ty #[.slice (some ⟨g, off, none⟩) sLen sCap, x]).run P w = .ok (.slice (some ⟨g, off, none⟩) (sLen + n) sCap) (w.setRow g (splice p news cs.toList).toArray) := by
 subst hs
 subst hp
 have hst := run_storeCells_at (P := P) g (off + sLen * ie.size) T news 0 cs w hg (by rw [hsrc.newsLen]; omega) hsrc.one
 simp only [Nat.add_zero] at hst
 simp [Builtin.append_, run_underlying hu, run_underlying hk, sizeOf, typeInfo, hi, hsrc.len, hroom, hsrc.cells, Addr.add_lit]
 rw [hst]
 rfl
theorem HR.rowsPut (hH : HR μ F σ w) {b s g off p n : Nat} {cs : Array Value} {T : TypeId} {rs rs' : List (List IV)} {news : List Value} {μ' : Mu} (hb : σ[b]? = some (.rows s rs)) (hpl : μ.pl b = .at_ g off) (hg : w.heap[g]? = some (.cells cs T (0, 0)))
  (hμ' : μ' = μ.add b s rs'.length (μ.cp b) (.at_ g off)) (hle : μ.le μ') (hlen : rs'.length ≤ μ.cp b) (hcp : off + μ.cp b * s ≤ cs.size) (hrow : ∀ (i : Nat) (row : List IV), rs'[i]? = some row → row.length = s)
  (hnl : news.length = n * s) (hp : p + n * s ≤ cs.size)
  (hc : ∀ (i : Nat) (row : List IV) (j : Nat) (c : IV), rs'[i]? = some row → row[j]? = some c → ∃ v, (splice p news cs.toList)[off + i * s + j]? = some v ∧ VR μ F w v c) :
  HR μ' F (hput σ b (.rows s rs')) (w.setRow g (splice p news cs.toList).toArray) ∧ Ext μ F w μ' F (w.setRow g (splice p news cs.toList).toArray) := by
 obtain ⟨hub, hpos, hszb, hl, _, _⟩ := hH.obj b _ hb
 have hw : ∀ k, k < w.heap.size → (μ.u b → ∀ off, μ.pl b ≠ .at_ k off) → (w.setRow g (splice p news cs.toList).toArray).heap[k]? = w.heap[k]? := fun k _ hk => by
  apply setRow_other
  intro e; subst e; exact hk hub off hpl
 refine hH.change hle (fun x e => by rw [hμ']; exact Mu.add_other x e) hw (fun g' off' hu e => ?_) (by simp) rfl rfl ⟨rfl, Nat.le_refl _⟩ (hH.notIt hb (by intro h; cases h)) ?_
 ·rw [hμ'] at e
  simp [Mu.add] at e
  obtain ⟨rfl, rfl⟩ := e
  exact ⟨.inr ⟨hub, off, hpl⟩, by rw [size_setRow]; exact hH.lt b g off hub hpl⟩
 ·refine ⟨by rw [hμ']; exact .inl rfl, hpos, by rw [hμ']; simp [Mu.add], by rw [hμ']; simp [Mu.add], hrow, .inr ⟨g, off, _, T, by rw [hμ']; simp [Mu.add], setRow_heap w g cs _ T (0, 0) hg, by rw [hμ']; simpa [Mu.add] using hlen, ?_, fun i row j c e1 e2 => ?_⟩⟩
  ·rw [hμ']
   have := length_splice p news cs.toList (by simp; omega)
   simp [Mu.add] at this ⊢
   omega
  ·obtain ⟨v, v1, v2⟩ := hc i row j c e1 e2
   exact ⟨v, by simpa using v1, v2.mono hle (fun _ h => h) (hH.frozen_same hw)⟩
theorem run_clear {t ty e : TypeId} {ie : TypeInfo} {z : Value} (hu : P.underlying t = some (.slice e)) (hi : P.info? e = some ie) (hz : ie.zero = some z) (hone : ∀ u ∈ z.cells.toList, u.oneCell' = true)
  {g p n cap : Nat} {cs : Array Value} {T : TypeId} (hg : w.heap[g]? = some (.cells cs T (0, 0))) (hn : 0 < n) (hb : p + n * z.cells.size ≤ cs.size) :
  (Builtin.clear_ #[t] ty #[.slice (some ⟨g, p, none⟩) n cap]).run P w = .ok (.tuple #[]) (w.setRow g (splice p (madeCells z.cells (n * z.cells.size)).toList cs.toList).toArray) := by
 have hlen : (madeCells z.cells (n * z.cells.size)).toList.length = n * z.cells.size := by simp [size_madeCells]
 have hst := run_storeCells_at (P := P) g p T (madeCells z.cells (n * z.cells.size)).toList 0 cs w hg (by rw [hlen]; omega) (fun v hv => by
  simp only [madeCells, Array.toList_map, List.mem_map] at hv
  obtain ⟨k, hk, rfl⟩ := hv
  simp only [Array.toList_range, List.mem_range] at hk
  have hpos : 0 < z.cells.size := by
   rcases Nat.eq_zero_or_pos z.cells.size with h | h
   ·rw [h] at hk; simp at hk
   ·exact h
  have hlt : k % z.cells.size < z.cells.size := Nat.mod_lt _ hpos
  rw [getElem!_pos z.cells _ hlt]
  exact hone _ (by simp))
 simp only [Nat.add_zero] at hst
 obtain ⟨m, rfl⟩ : ∃ m, n = m + 1 := ⟨n - 1, by omega⟩
 have hzv : (zeroValue e).run P w = .ok z w := by simp [zeroValue, typeInfo, hi, hz]
 have hze : Builtin.zeroCells z.cells (m + 1) = madeCells z.cells ((m + 1) * z.cells.size) := rfl
 simp only [Builtin.clear_]
 simp [run_underlying hu, hzv, hze, hst, splice]
theorem clear_goes {t ty : TypeId} {vd : Value} {b tot i len nb : Nat} {cap : Option Nat} {r : Out} (hH : HR μ F σ w) (hd : VR μ F w vd (.sl b tot i len cap))
  (h : ibuiltin P .clear [t] [.sl b tot i len cap] σ nb = some r) (hp : r.pre) :
  ∃ z w' μ', (Builtin.clear_ #[t] ty #[vd]).run P w = .ok z w' ∧ VR μ' F w' z r.v ∧ HR μ' F (upd σ r.w) w' ∧ Ext μ F w μ' F w' := by
 simp only [ibuiltin] at h
 split at h
 ·rename_i e s rs hu hb
  split at h
  ·rename_i z hz
   cases hc : (hasP P e && Nat.beq (sizeP P e) s && Nat.beq z.length s) with
   | false => rw [hc] at h; cases h
   | true =>
    rw [hc] at h
    simp only [Bool.and_eq_true, Nat.beq_eq] at hc
    obtain ⟨⟨he, hse⟩, hzl⟩ := hc
    simp only [cond_true, Option.some.injEq] at h; subst h
    obtain ⟨htot, hil⟩ := hp
    obtain ⟨ie, v, hi, hzv, hvs, hone⟩ := zeroP_spec (μ := μ) (F := F) (w := w) hz
    obtain ⟨hub, hpos, hszb, hml, hrow, hcs⟩ := hH.obj b _ hb
    have hvl : v.cells.size = s := by have := hvs.1; simp at this; omega
    have hones : ∀ u ∈ v.cells.toList, u.oneCell' = true := fun u hu => by
     obtain ⟨j, hj, rfl⟩ := List.getElem_of_mem hu
     have hjz : j < z.length := by have := hvs.1; omega
     exact (hvs.2 j _ z[j] (List.getElem?_eq_getElem hj) (List.getElem?_eq_getElem hjz)).one (List.all_eq_true.1 hone _ (List.getElem_mem hjz))
    have hspl : rs.take i ++ List.replicate len z ++ rs.drop (i + len) = Idl.splice i (List.replicate len z) rs := by simp [splice]
    have hsame : len = 0 → hput σ b (.rows s (rs.take i ++ List.replicate len z ++ rs.drop (i + len))) = σ := fun h0 => by
     subst h0
     apply List.ext_getElem?
     intro x
     rw [getElem?_hput]
     have hbl := (List.getElem?_eq_some_iff.1 hb).1
     split
     ·rename_i e; subst e; rw [hb]; simp
     ·split
      ·rfl
      ·rw [if_neg (by omega)]; simp at *; omega
    cases hd with
    | sl _ _ _ _ _ _ hk hb' ht' hsl =>
     have hsl := hsl (by omega)
     by_cases h0 : len = 0
     ·have hv : ∃ a c, vd = .slice a 0 c := by
       rcases hcs with ⟨hpl, _⟩ | ⟨g, off, cs, T, hpl, _⟩
       ·rw [hpl] at hsl; exact ⟨_, _, hsl.1⟩
       ·rw [hpl] at hsl; obtain ⟨a, c, rfl, _⟩ := hsl; exact ⟨a, c, by rw [h0]⟩
      obtain ⟨a, c, rfl⟩ := hv
      refine ⟨.tuple #[], w, μ, ?_, .tup [] [] rfl (by simp), ?_, Ext.refl _ _ _⟩
      ·cases a <;> simp [Builtin.clear_, run_underlying hu]
      ·simp only [upd]; rw [hsame h0]; exact hH
     ·rcases hcs with ⟨hpl, he0⟩ | ⟨g, off, cs, T, hpl, hg, hcp1, hcp2, hcs⟩
      ·subst he0; simp at hil; omega
      ·rw [hpl] at hsl
       obtain ⟨a, c, rfl, hle, hcp, ha, _⟩ := hsl
       have ha : a = some ⟨g, off + i * s, none⟩ := by
        rcases ha with h | h
        ·omega
        ·rw [hszb] at h; exact h
       subst ha
       have hb2 : off + i * s + len * s ≤ cs.size := by
        have : (i + len) * s ≤ μ.cp b * s := Nat.mul_le_mul_right _ (by omega)
        rw [Nat.add_mul] at this; omega
       have hr := run_clear (ty := ty) (cap := c) hu hi hzv hones hg (show 0 < len by omega) (by rw [hvl]; exact hb2)
       have hlen2 : (rs.take i ++ List.replicate len z ++ rs.drop (i + len)).length = rs.length := by simp; omega
       have hle' : μ.le (μ.add b s (rs.take i ++ List.replicate len z ++ rs.drop (i + len)).length (μ.cp b) (.at_ g off)) := by
        rw [hlen2, ← hml, ← hszb, ← hpl]; exact Mu.le_keep
       have hmr := made_rows (μ := μ) (F := F) (w := w) hvs len
       rw [hzl] at hmr
       have hnl : (madeCells v.cells (len * v.cells.size)).toList.length = len * s := by simp [size_madeCells, hvl]
       have hput := hH.rowsPut (rs' := rs.take i ++ List.replicate len z ++ rs.drop (i + len)) (p := off + i * s) (n := len) hb hpl hg rfl hle' (by rw [hlen2]; exact hcp1) hcp2
        (fun k row e1 => by
         rw [hspl, getElem?_splice _ _ _ (by simp; omega)] at e1
         split at e1
         ·exact hmr.2.1 _ row e1
         ·exact hrow k row e1) hnl hb2 (fun k row j c2 e1 e2 => ?_)
       ·exact ⟨_, _, _, hr, .tup [] [] rfl (by simp), hput.1, hput.2⟩
       ·rw [hspl, getElem?_splice _ _ _ (by simp; omega)] at e1
        rw [getElem?_splice _ _ _ (by rw [hnl]; simpa using hb2)]
        simp only [List.length_replicate] at e1
        by_cases hk2 : i ≤ k ∧ k < i + len
        ·rw [if_pos hk2] at e1
         obtain ⟨u, u1, u2⟩ := hmr.2.2 _ row j c2 e1 e2
         have hlt := (Array.getElem?_eq_some_iff.1 u1).1
         simp only [size_madeCells] at hlt
         have e3 : off + k * s + j = off + i * s + ((k - i) * s + j) := by
          rw [Nat.sub_mul]
          have : i * s ≤ k * s := Nat.mul_le_mul_right _ hk2.1
          omega
         rw [e3, if_pos (by rw [hnl]; omega), Nat.add_sub_cancel_left, hvl]
         exact ⟨u, by simpa using u1, u2⟩
        ·rw [if_neg hk2] at e1
         have hj := (List.getElem?_eq_some_iff.1 e2).1
         have hrl := hrow k row e1
         have hnot : ¬ (off + i * s ≤ off + k * s + j ∧ off + k * s + j < off + i * s + (madeCells v.cells (len * v.cells.size)).toList.length) := by
          rw [hnl]
          intro hh
          apply hk2
          constructor
          ·rcases Nat.lt_or_ge k i with h3 | h3
           ·have : (k + 1) * s ≤ i * s := Nat.mul_le_mul_right _ h3
            rw [Nat.add_mul] at this; omega
           ·exact h3
          ·rcases Nat.lt_or_ge k (i + len) with h3 | h3
           ·exact h3
           ·have : (i + len) * s ≤ k * s := Nat.mul_le_mul_right _ h3
            rw [Nat.add_mul] at this; omega
         rw [if_neg hnot]
         obtain ⟨u, u1, u2⟩ := hcs k row j c2 e1 e2
         exact ⟨u, by simpa using u1, u2⟩
  ·cases h
 ·cases h
theorem run_append_grow_zeros (t tx ty e : TypeId) (kx : IntKind) (i : TypeInfo) (z : Value) (ht : P.underlying t = some (.slice e)) (hk : P.underlying tx = some (.int kx)) (hi : P.info? e = some i) (hz : i.zero = some z) (hby : i.bytes ≤ 1024) (hsz : 0 < i.size) (base : Option Addr) (sLen sCap : Nat) (olds : List Value)
  (hold : (Builtin.firstCells i.size sLen (.slice base sLen sCap)).run P w.drew = .ok olds.toArray w.drew) (k : IntKind) (n : Nat) (h1 : 1 ≤ n) (h32 : n ≤ 2 ^ 32)
  (hg : sCap < sLen + n) (h63 : ((sLen + n : Nat) : Int) ≤ 9223372036854775807) (hfit : Builtin.nextslicecap (sLen + n) sCap * i.bytes ≤ 281474976710656) :
  (Builtin.append_ #[t, tx] ty #[.slice base sLen sCap, .int k n]).run P w =
   .ok (.slice (some ⟨w.heap.size, 0, none⟩) (sLen + n) (grownCap w (sLen + n) sCap e))
    (w.drew.alloc (.cells ((olds ++ (Builtin.zeroCells z.cells n).toList).toArray ++ Builtin.zeroCells z.cells (grownCap w (sLen + n) sCap e - (sLen + n))) e)) := by
 have hn : ¬ (sLen + n ≤ sCap) := by omega
 have h63' : ¬ (9223372036854775807 < ((sLen : Int) + (n : Int))) := by omega
 have h48' : ¬ (281474976710656 < Builtin.nextslicecap (sLen + n) sCap * i.bytes) := by omega
 have hw : IntKind.i64.wrap (n : Int) = n := by simp [IntKind.wrap, IntKind.bits, IntKind.signed]; omega
 have hneg : ¬ (n : Int) < 0 := by omega
 have hmul : (n : Int) * (i.bytes : Int) ≤ 2 ^ 32 * 1024 := Int.mul_le_mul (by omega) (by omega) (by omega) (by omega)
 have h48 : ¬ (281474976710656 < (n : Int) * (i.bytes : Int)) := by omega
 have hns : ¬ n * i.size = 0 := by
  intro h; rcases Nat.mul_eq_zero.1 h with h | h <;> omega
 have hns' : ¬ (n = 0 ∨ i.size = 0) := by omega
 simp [Builtin.append_, run_underlying ht, run_underlying hk, sizeOf, typeInfo, zeroValue, hi, hz, asInt, asIntOf, hw, hneg, h48, hn, h63', h48', hns, hns', Question.forced, hold, newRow, grownCap]
 congr 2
 apply Array.ext'
 simp [List.append_assoc]
theorem append_room_zeros {t tx ty e : TypeId} {kx : IntKind} {ie : TypeInfo} {z : Value} {s n : Nat} (hu : P.underlying t = some (.slice e)) (hi : P.info? e = some ie) (hz : ie.zero = some z) (hs : ie.size = s) (hk : P.underlying tx = some (.int kx)) (hby : ie.bytes ≤ 1024) (hpos : 0 < s)
  (hone : ∀ u ∈ (Builtin.zeroCells z.cells n).toList, u.oneCell' = true) (hnl : (Builtin.zeroCells z.cells n).toList.length = n * s)
  {g off p sLen sCap : Nat} {cs : Array Value} {T : TypeId} (hg : w.heap[g]? = some (.cells cs T (0, 0))) (k : IntKind) (h1 : 1 ≤ n) (h32 : n ≤ 2 ^ 32)
  (hroom : sLen + n ≤ sCap) (hp : p = off + sLen * s) (hb : p + n * s ≤ cs.size) :
  (Builtin.append_ #[t, tx] ty #[.slice (some ⟨g, off, none⟩) sLen sCap, .int k n]).run P w = .ok (.slice (some ⟨g, off, none⟩) (sLen + n) sCap) (w.setRow g (splice p (Builtin.zeroCells z.cells n).toList cs.toList).toArray) := by
 subst hs
 subst hp
 have hst := run_storeCells_at (P := P) g (off + sLen * ie.size) T (Builtin.zeroCells z.cells n).toList 0 cs w hg (by rw [hnl]; omega) hone
 simp only [Nat.add_zero] at hst
 have hw : IntKind.i64.wrap (n : Int) = n := by simp [IntKind.wrap, IntKind.bits, IntKind.signed]; omega
 have hneg : ¬ (n : Int) < 0 := by omega
 have hmul : (n : Int) * (ie.bytes : Int) ≤ 2 ^ 32 * 1024 := Int.mul_le_mul (by omega) (by omega) (by omega) (by omega)
 have h48 : ¬ (281474976710656 < (n : Int) * (ie.bytes : Int)) := by omega
 have hns' : ¬ (n = 0 ∨ ie.size = 0) := by omega
 have hns : ¬ n * ie.size = 0 := by
  intro h; rcases Nat.mul_eq_zero.1 h with h | h <;> omega
 simp [hns, Builtin.append_, run_underlying hu, run_underlying hk, sizeOf, typeInfo, zeroValue, hi, hz, asInt, asIntOf, hw, hneg, h48, hroom, hns', Addr.add_lit]
 rw [hst]
 rfl
theorem appendZ_goes {t tx ty e : TypeId} {kx : IntKind} {vd vy : Value} {d yI : IV} {nb : Nat} {r : Out} (hH : HR μ F σ w) (hnb : ¬ μ.u nb) (hd : VR μ F w vd d) (hy : VR μ F w vy yI) (hu : P.underlying t = some (.slice e)) (hk : P.underlying tx = some (.int kx))
  (h : appZ P σ nb e d yI = some r) (hp : r.pre) :
  ∃ z w' μ', (Builtin.append_ #[t, tx] ty #[vd, vy]).run P w = .ok z w' ∧ VR μ' F w' z r.v ∧ HR μ' F (upd σ r.w) w' ∧ Ext μ F w μ' F w' := by
 unfold appZ at h
 split at h
 ·rename_i b tot i len k n
  split at h
  ·rename_i s rs zi hb hz
   cases hc : (hasP P e && Nat.beq (sizeP P e) s && Nat.beq zi.length s && Nat.ble (bytesP P e) 1024) with
   | false => rw [hc] at h; cases h
   | true =>
    rw [hc] at h
    simp only [Bool.and_eq_true, Nat.beq_eq, Nat.ble_eq] at hc
    obtain ⟨⟨⟨he, hss⟩, hzl⟩, hby⟩ := hc
    simp only [cond_true, Option.some.injEq] at h; subst h
    obtain ⟨h1, htot, rfl, hlen, h32⟩ := hp
    obtain ⟨N, rfl⟩ : ∃ N : Nat, n = N := ⟨n.toNat, by omega⟩
    simp only [Int.toNat_natCast] at *
    subst hss
    obtain ⟨ie, v, hi, hzv, hvs, hone⟩ := zeroP_spec (μ := μ) (F := F) (w := w) hz
    obtain ⟨ie', _, hie, _, hse, _⟩ := hasP_spec he
    have : ie' = ie := by rw [hi] at hie; cases hie; rfl
    subst this
    have hby' : ie'.bytes ≤ 1024 := by simpa [bytesP, hi] using hby
    obtain ⟨hub, hpos, hszb, hml, hrow, hcs⟩ := hH.obj b _ hb
    have hvl : v.cells.size = sizeP P e := by have := hvs.1; simp at this; omega
    have hones : ∀ u ∈ v.cells.toList, u.oneCell' = true := fun u hu => by
     obtain ⟨j, hj, rfl⟩ := List.getElem_of_mem hu
     have hjz : j < zi.length := by have := hvs.1; omega
     exact (hvs.2 j _ zi[j] (List.getElem?_eq_getElem hj) (List.getElem?_eq_getElem hjz)).one (List.all_eq_true.1 hone _ (List.getElem_mem hjz))
    have hze : Builtin.zeroCells v.cells N = madeCells v.cells (N * v.cells.size) := rfl
    have hmr := made_rows (μ := μ) (F := F) (w := w) hvs N
    rw [hzl] at hmr
    have hnl : (Builtin.zeroCells v.cells N).toList.length = N * sizeP P e := by rw [hze]; simp [size_madeCells, hvl]
    have hnone : ∀ u ∈ (Builtin.zeroCells v.cells N).toList, u.oneCell' = true := fun u hu => by
     rw [hze] at hu
     simp only [madeCells, Array.toList_map, List.mem_map] at hu
     obtain ⟨q, hq, rfl⟩ := hu
     have hlt : q % v.cells.size < v.cells.size := Nat.mod_lt _ (by omega)
     rw [getElem!_pos v.cells _ hlt]
     exact hones _ (by simp)
    have hnc : ∀ (i : Nat) (row : List IV) (j : Nat) (c : IV), (List.replicate N zi)[i]? = some row → row[j]? = some c → ∃ u, (Builtin.zeroCells v.cells N).toList[i * sizeP P e + j]? = some u ∧ VR μ F w u c := fun i row j c e1 e2 => by
     obtain ⟨u, u1, u2⟩ := hmr.2.2 i row j c e1 e2
     exact ⟨u, by rw [hze, hvl]; simpa using u1, u2⟩
    have hnr : ∀ r ∈ List.replicate N zi, r.length = sizeP P e := fun r hr => by rw [List.eq_of_mem_replicate hr]; exact hzl
    have hRl : (List.replicate N zi).length = N := List.length_replicate
    have hself : srcRows σ (.sl b tot 0 len none) = some (tot = rs.length ∧ 0 + len ≤ rs.length, (rs.drop 0).take len) := by simp only [srcRows, hb]
    have htake : (rs.drop 0).take len = rs := by simp [hlen]
    generalize hev : vy = vy' at hy
    cases hy
    rcases hcs with ⟨hpl, he0⟩ | ⟨g, off, cs, T, hpl, hg, hcp1, hcp2, hcs⟩
    ·subst he0
     cases hd with
     | sl _ _ _ _ _ _ hk' hb' ht' hsl =>
      have hsl := hsl (by omega)
      rw [hpl] at hsl
      obtain ⟨rfl, rfl⟩ := hsl
      have hold : Src0 P (sizeP P e) t (.slice none 0 0) 0 [] w := Src0.ofNil hu 0
      obtain ⟨C, w', hr, hC, q1, q2⟩ := append_growR (t := t) (tx := tx) (ty := ty) (e := e) (ie := ie') (b := b) (base := none) (sLen := 0) (sCap := 0) (olds := []) (ro := []) (x := .int k N) (src := List.replicate N zi) (news := (Builtin.zeroCells v.cells N).toList) hvs hzl hse.symm hpos hby' hH rfl (by simp) (by simp) (by simp)
       (by rw [hRl]; exact hnl) (fun g1 g2 g3 => by
        rw [hRl] at g1 g2 g3 ⊢
        exact run_append_grow_zeros t tx ty e kx ie' v hu hk hi hzv hby' (by omega) none 0 0 [] (by rw [← hse]; exact hold.cellsD) k N (by omega) (by omega) g1 g2 g3) hnr hnc (by rw [hRl]; omega) (by rw [hRl]; omega) (fun _ => hszb) (fun _ => by rw [hRl]; simp at hml; omega)
      rw [hRl] at hr hC q1 q2
      subst hev
      exact ⟨_, w', _, hr, .sl _ b _ _ _ _ rfl (show _ ∨ _ from .inl rfl) (by simp [Mu.add]) (fun _ => by simp only [Mu.add, if_true]; exact ⟨_, _, rfl, hC, by omega, .inr (by simp), by simp⟩), q1, q2⟩
    ·obtain ⟨olds, hold, hol, hoc⟩ := src_rows0 hu hH hd hself ⟨htot, by omega⟩ (s := sizeP P e) (fun r hr => by rw [htake] at hr; obtain ⟨j, hj, rfl⟩ := List.getElem_of_mem hr; exact hrow j _ (List.getElem?_eq_getElem hj)) hpos
     rw [htake] at hold hol hoc
     cases hd with
     | sl _ _ _ _ _ _ hk' hb' ht' hsl =>
      have hsl := hsl (by omega)
      rw [hpl] at hsl
      obtain ⟨a, c, rfl, hle, hcp, ha, _⟩ := hsl
      by_cases hroom : len + N ≤ c
      ·have ha : a = some ⟨g, off, none⟩ := by
        rcases ha with h | h
        ·omega
        ·simpa using h
       subst ha
       have hb2 : off + len * sizeP P e + N * sizeP P e ≤ cs.size := by
        have : (len + N) * sizeP P e ≤ μ.cp b * sizeP P e := Nat.mul_le_mul_right _ (by omega)
        rw [Nat.add_mul] at this; omega
       have hr := append_room_zeros (ty := ty) hu hi hzv hse.symm hk hby' hpos hnone hnl hg k (by omega) (by omega) hroom rfl hb2
       have hlen2 : (rs ++ List.replicate N zi).length = len + N := by simp [hlen]
       have hle : μ.le (μ.add b (sizeP P e) (rs ++ List.replicate N zi).length (μ.cp b) (.at_ g off)) := Mu.le_re (fun _ => hszb) (fun _ => by rw [hlen2]; omega) hpos
       have hput := hH.rowsPut (rs' := rs ++ List.replicate N zi) (p := off + len * sizeP P e) (n := N) hb hpl hg rfl hle (by rw [hlen2]; omega) hcp2
        (fun i row e1 => by rcases List.mem_append.1 (List.mem_of_getElem? e1) with h | h; (obtain ⟨j, hj, rfl⟩ := List.getElem_of_mem h; exact hrow j _ (List.getElem?_eq_getElem hj)); exact hnr _ h) hnl hb2 (fun i row j c' e1 e2 => ?_)
       ·subst hev
        refine ⟨_, _, _, hr, .sl _ b _ _ _ _ rfl (show _ ∨ _ from .inl rfl) (by simp [Mu.add, hlen]) (fun _ => by simp only [Mu.add, if_true]; exact ⟨_, _, rfl, hroom, by omega, .inr (by simp), by simp⟩), hput.1, hput.2⟩
       ·rw [getElem?_splice _ _ _ (by rw [hnl]; simpa using hb2)]
        by_cases hi' : i < rs.length
        ·rw [List.getElem?_append_left hi'] at e1
         have hj := (List.getElem?_eq_some_iff.1 e2).1
         have hrl := hrow i row e1
         have : (i + 1) * sizeP P e ≤ len * sizeP P e := Nat.mul_le_mul_right _ (by omega)
         rw [Nat.add_mul] at this
         rw [if_neg (by omega)]
         obtain ⟨u, u1, u2⟩ := hcs i row j c' e1 e2
         exact ⟨u, by simpa using u1, u2⟩
        ·rw [List.getElem?_append_right (by omega)] at e1
         obtain ⟨u, u1, u2⟩ := hnc _ row j c' e1 e2
         have hlt := (List.getElem?_eq_some_iff.1 u1).1
         have e3 : off + i * sizeP P e + j = off + len * sizeP P e + ((i - rs.length) * sizeP P e + j) := by
          rw [← hlen, Nat.sub_mul]
          have : len * sizeP P e ≤ i * sizeP P e := Nat.mul_le_mul_right _ (by omega)
          omega
         rw [e3, if_pos (by omega), Nat.add_sub_cancel_left]
         exact ⟨u, u1, u2⟩
      ·obtain ⟨C, w', hr, hC, q1, q2⟩ := append_growR (t := t) (tx := tx) (ty := ty) (e := e) (ie := ie') (b := b) (base := a) (sLen := len) (sCap := c) (olds := olds) (ro := rs) (x := .int k N) (src := List.replicate N zi) (news := (Builtin.zeroCells v.cells N).toList) hvs hzl hse.symm hpos hby' hH hlen.symm (by rw [hlen]; exact hol) (fun r hr => by obtain ⟨j, hj, rfl⟩ := List.getElem_of_mem hr; exact hrow j _ (List.getElem?_eq_getElem hj)) hoc
        (by rw [hRl]; exact hnl) (fun g1 g2 g3 => by
         rw [hRl] at g1 g2 g3 ⊢
         exact run_append_grow_zeros t tx ty e kx ie' v hu hk hi hzv hby' (by omega) a len c olds (by rw [← hse]; rw [← hlen] at hold; exact hold.cellsD) k N (by omega) (by omega) g1 g2 g3) hnr hnc (by rw [hRl]; omega) (by rw [hRl]; omega) (fun _ => hszb) (fun _ => by rw [hRl]; omega)
       rw [hRl] at hr hC q1 q2
       subst hev
       exact ⟨_, w', _, hr, .sl _ b _ _ _ _ rfl (show _ ∨ _ from .inl rfl) (by simp [Mu.add]) (fun _ => by simp only [Mu.add, if_true]; exact ⟨_, _, rfl, hC, by omega, .inr (by simp), by simp⟩), q1, q2⟩
  ·cases h
 ·rename_i b tot i len c0 k n
  split at h
  ·rename_i s rs zi hb hz
   cases hc : (hasP P e && Nat.beq (sizeP P e) s && Nat.beq zi.length s && Nat.ble (bytesP P e) 1024) with
   | false => rw [hc] at h; cases h
   | true =>
    rw [hc] at h
    simp only [Bool.and_eq_true, Nat.beq_eq, Nat.ble_eq] at hc
    obtain ⟨⟨⟨he, hss⟩, hzl⟩, hby⟩ := hc
    simp only [cond_true, Option.some.injEq] at h; subst h
    obtain ⟨h1, htot, rfl, hlen, hc0, h32⟩ := hp
    obtain ⟨N, rfl⟩ : ∃ N : Nat, n = N := ⟨n.toNat, by omega⟩
    simp only [Int.toNat_natCast] at *
    subst hss
    obtain ⟨ie, v, hi, hzv, hvs, hone⟩ := zeroP_spec (μ := μ) (F := F) (w := w) hz
    obtain ⟨ie', _, hie, _, hse, _⟩ := hasP_spec he
    have : ie' = ie := by rw [hi] at hie; cases hie; rfl
    subst this
    have hby' : ie'.bytes ≤ 1024 := by simpa [bytesP, hi] using hby
    obtain ⟨hub, hpos, hszb, hml, hrow, hcs⟩ := hH.obj b _ hb
    have hvl : v.cells.size = sizeP P e := by have := hvs.1; simp at this; omega
    have hones : ∀ u ∈ v.cells.toList, u.oneCell' = true := fun u hu => by
     obtain ⟨j, hj, rfl⟩ := List.getElem_of_mem hu
     have hjz : j < zi.length := by have := hvs.1; omega
     exact (hvs.2 j _ zi[j] (List.getElem?_eq_getElem hj) (List.getElem?_eq_getElem hjz)).one (List.all_eq_true.1 hone _ (List.getElem_mem hjz))
    have hze : Builtin.zeroCells v.cells N = madeCells v.cells (N * v.cells.size) := rfl
    have hmr := made_rows (μ := μ) (F := F) (w := w) hvs N
    rw [hzl] at hmr
    have hnl : (Builtin.zeroCells v.cells N).toList.length = N * sizeP P e := by rw [hze]; simp [size_madeCells, hvl]
    have hnone : ∀ u ∈ (Builtin.zeroCells v.cells N).toList, u.oneCell' = true := fun u hu => by
     rw [hze] at hu
     simp only [madeCells, Array.toList_map, List.mem_map] at hu
     obtain ⟨q, hq, rfl⟩ := hu
     have hlt : q % v.cells.size < v.cells.size := Nat.mod_lt _ (by omega)
     rw [getElem!_pos v.cells _ hlt]
     exact hones _ (by simp)
    have hnc : ∀ (i : Nat) (row : List IV) (j : Nat) (c : IV), (List.replicate N zi)[i]? = some row → row[j]? = some c → ∃ u, (Builtin.zeroCells v.cells N).toList[i * sizeP P e + j]? = some u ∧ VR μ F w u c := fun i row j c e1 e2 => by
     obtain ⟨u, u1, u2⟩ := hmr.2.2 i row j c e1 e2
     exact ⟨u, by rw [hze, hvl]; simpa using u1, u2⟩
    have hnr : ∀ r ∈ List.replicate N zi, r.length = sizeP P e := fun r hr => by rw [List.eq_of_mem_replicate hr]; exact hzl
    have hRl : (List.replicate N zi).length = N := List.length_replicate
    have hself : srcRows σ (.sl b tot 0 len none) = some (tot = rs.length ∧ 0 + len ≤ rs.length, (rs.drop 0).take len) := by simp only [srcRows, hb]
    have htake : (rs.drop 0).take len = rs := by simp [hlen]
    generalize hev : vy = vy' at hy
    cases hy
    have hdl : VR μ F w vd (.sl b tot 0 len none) := by
     cases hd with
     | sl _ _ _ _ _ _ hk' hb' ht' hsl =>
      refine .sl _ b tot 0 len none hk' hb' ht' fun e => ?_
      have := hsl e
      unfold SlOK at this ⊢
      split at this
      ·trivial
      ·exact this
      ·obtain ⟨a, c, q1, q2, q3, q4, _⟩ := this
       exact ⟨a, c, q1, q2, q3, q4, by simp⟩
    rcases hcs with ⟨hpl, he0⟩ | ⟨g, off, cs, T, hpl, hg, hcp1, hcp2, hcs⟩
    ·subst he0
     cases hd with
     | sl _ _ _ _ _ _ hk' hb' ht' hsl =>
      have hsl := hsl (by omega)
      rw [hpl] at hsl
      obtain ⟨rfl, rfl⟩ := hsl
      have hold : Src0 P (sizeP P e) t (.slice none 0 0) 0 [] w := Src0.ofNil hu 0
      obtain ⟨C, w', hr, hC, q1, q2⟩ := append_growR (t := t) (tx := tx) (ty := ty) (e := e) (ie := ie') (b := nb) (base := none) (sLen := 0) (sCap := 0) (olds := []) (ro := []) (x := .int k N) (src := List.replicate N zi) (news := (Builtin.zeroCells v.cells N).toList) hvs hzl hse.symm hpos hby' hH rfl (by simp) (by simp) (by simp)
       (by rw [hRl]; exact hnl) (fun g1 g2 g3 => by
        rw [hRl] at g1 g2 g3 ⊢
        exact run_append_grow_zeros t tx ty e kx ie' v hu hk hi hzv hby' (by omega) none 0 0 [] (by rw [← hse]; exact hold.cellsD) k N (by omega) (by omega) g1 g2 g3) hnr hnc (by rw [hRl]; omega) (by rw [hRl]; omega) (fun h => absurd h hnb) (fun h => absurd h hnb)
      rw [hRl] at hr hC q1 q2
      subst hev
      exact ⟨_, w', _, hr, .sl _ nb _ _ _ _ rfl (show _ ∨ _ from .inl rfl) (by simp [Mu.add]) (fun _ => by simp only [Mu.add, if_true]; exact ⟨_, _, rfl, hC, by omega, .inr (by simp), by simp⟩), q1, q2⟩
    ·obtain ⟨olds, hold, hol, hoc⟩ := src_rows0 hu hH hdl hself ⟨htot, by omega⟩ (s := sizeP P e) (fun r hr => by rw [htake] at hr; obtain ⟨j, hj, rfl⟩ := List.getElem_of_mem hr; exact hrow j _ (List.getElem?_eq_getElem hj)) hpos
     rw [htake] at hold hol hoc
     cases hd with
     | sl _ _ _ _ _ _ hk' hb' ht' hsl =>
      have hsl := hsl (by omega)
      rw [hpl] at hsl
      obtain ⟨a, c, rfl, hle, hcp, ha, hcc⟩ := hsl
      have hcl : c = len := by rw [hcc c0 rfl, hc0]
      obtain ⟨C, w', hr, hC, q1, q2⟩ := append_growR (t := t) (tx := tx) (ty := ty) (e := e) (ie := ie') (b := nb) (base := a) (sLen := len) (sCap := c) (olds := olds) (ro := rs) (x := .int k N) (src := List.replicate N zi) (news := (Builtin.zeroCells v.cells N).toList) hvs hzl hse.symm hpos hby' hH hlen.symm (by rw [hlen]; exact hol) (fun r hr => by obtain ⟨j, hj, rfl⟩ := List.getElem_of_mem hr; exact hrow j _ (List.getElem?_eq_getElem hj)) hoc
        (by rw [hRl]; exact hnl) (fun g1 g2 g3 => by
         rw [hRl] at g1 g2 g3 ⊢
         exact run_append_grow_zeros t tx ty e kx ie' v hu hk hi hzv hby' (by omega) a len c olds (by rw [← hse]; rw [← hlen] at hold; exact hold.cellsD) k N (by omega) (by omega) g1 g2 g3) hnr hnc (by rw [hRl]; omega) (by rw [hRl]; omega) (fun h => absurd h hnb) (fun h => absurd h hnb)
      rw [hRl] at hr hC q1 q2
      subst hev
      exact ⟨_, w', _, hr, .sl _ nb _ _ _ _ rfl (show _ ∨ _ from .inl rfl) (by simp [Mu.add]) (fun _ => by simp only [Mu.add, if_true]; exact ⟨_, _, rfl, hC, by omega, .inr (by simp), by simp⟩), q1, q2⟩
  ·cases h
 ·cases h
theorem append_goes {t tx ty : TypeId} {vd vy : Value} {d yI : IV} {nb : Nat} {r : Out} (hH : HR μ F σ w) (hnb : ¬ μ.u nb) (hd : VR μ F w vd d) (hy : VR μ F w vy yI)
  (h : ibuiltin P .append [t, tx] [d, yI] σ nb = some r) (hp : r.pre) :
  ∃ z w' μ', (Builtin.append_ #[t, tx] ty #[vd, vy]).run P w = .ok z w' ∧ VR μ' F w' z r.v ∧ HR μ' F (upd σ r.w) w' ∧ Ext μ F w μ' F w' := by
 simp only [ibuiltin] at h
 split at h
 ·rename_i e e' pre src hu hk hsr
  cases hc : (hasP P e && Nat.blt 0 (sizeP P e) && Nat.ble (bytesP P e) 1024 && zeroOK P e) with
  | false => rw [hc] at h; cases h
  | true =>
   rw [hc] at h
   simp only [Bool.and_eq_true, Nat.blt_eq, Nat.ble_eq] at hc
   obtain ⟨⟨⟨he, hpos⟩, hby⟩, hzo⟩ := hc
   obtain ⟨zi, hz, hzl0⟩ : ∃ zi, zeroP P e = some zi ∧ zi.length = sizeP P e := by
    unfold zeroOK at hzo
    split at hzo
    ·rename_i z hz; exact ⟨z, hz, by simpa using hzo⟩
    ·cases hzo
   simp only [cond_true] at h
   obtain ⟨ie, v, hi, hzv, hvs, _⟩ := zeroP_spec (μ := μ) (F := F) (w := w) hz
   obtain ⟨ie', _, hie, _, hse, _⟩ := hasP_spec he
   have : ie' = ie := by rw [hi] at hie; cases hie; rfl
   subst this
   have hby' : ie'.bytes ≤ 1024 := by simpa [bytesP, hi] using hby
   have hzl : zi.length = ie'.size := hzl0.trans hse
   split at h
   ·-- nil
    simp only [Option.some.injEq] at h; subst h
    obtain ⟨hpre, h32, hrows⟩ := hp
    obtain ⟨news, hsrc, hnl, hnc⟩ := src_rows hk hH hy hsr hpre hrows hpos
    cases hd
    by_cases h0 : src.length = 0
    ·have hs0 : src = [] := List.eq_nil_of_length_eq_zero h0
     have hn0 : news = [] := List.eq_nil_of_length_eq_zero (by rw [hnl, h0]; simp)
     subst hs0; subst hn0
     have hr := run_append_nothing (P := P) w t tx ty e ie' hu hi none 0 0 (Nat.le_refl _) vy (by rw [← hse]; exact hsrc)
     have hle : μ.le (μ.add nb (sizeP P e) 0 0 .empty) := Mu.le_add hnb
     have hch := hH.change (b := nb) (o' := .rows (sizeP P e) []) hle (fun x e => Mu.add_other x e) (fun g _ _ => rfl) (fun g off _ e => by simp [Mu.add] at e) (Nat.le_refl _) rfl rfl ⟨rfl, Nat.le_refl _⟩ (hH.notItN hnb)
      ⟨.inl rfl, hpos, by simp [Mu.add], by simp [Mu.add], by simp, .inl ⟨by simp [Mu.add], rfl⟩⟩
     exact ⟨_, w, _, hr, .sl _ nb _ _ _ _ rfl (show _ ∨ _ from .inl rfl) (by simp [Mu.add]) (fun _ => by simp [Mu.add, SlOK]), hch.1, hch.2⟩
    ·have hold : Src0 P (sizeP P e) tx (.slice none 0 0) 0 [] w := Src0.ofNil hk 0
     obtain ⟨C, w', hr, hC, h1, h2⟩ := append_grow (t := t) (tx := tx) (ty := ty) (b := nb) (ro := []) hu hi hzv hvs (hzl.trans hse.symm) hse.symm hpos hby' hH (sLen := 0) (sCap := 0) rfl hold.cellsD (by simp) (by simp) (by simp) hsrc (fun r hr => (hrows r hr).1) hnc (by omega) (by omega) (fun h => absurd h hnb) (fun h => absurd h hnb)
     simp only [Nat.zero_add, List.nil_append] at hr h1 h2 hC
     exact ⟨_, w', _, hr, .sl _ nb _ _ _ _ rfl (show _ ∨ _ from .inl rfl) (by simp [Mu.add]) (fun _ => by simp only [Mu.add, if_true]; exact ⟨_, _, rfl, hC, by omega, .inr (by simp), by simp⟩), h1, h2⟩
   ·-- a slice of whose room nothing is known
    rename_i b tot i len
    split at h
    ·rename_i s rs hb
     cases hss : Nat.beq (sizeP P e) s with
     | false => rw [hss] at h; cases h
     | true =>
      rw [hss] at h
      rw [Nat.beq_eq] at hss
      simp only [cond_true, Option.some.injEq] at h; subst h
      obtain ⟨hpre, htot, rfl, hlen, h32, hrows⟩ := hp
      subst hss
      obtain ⟨news, hsrc, hnl, hnc⟩ := src_rows hk hH hy hsr hpre hrows hpos
      obtain ⟨hub, _, hszb, hml, hrow, hcs⟩ := hH.obj b _ hb
      have hself : srcRows σ (.sl b tot 0 len none) = some (tot = rs.length ∧ 0 + len ≤ rs.length, (rs.drop 0).take len) := by simp only [srcRows, hb]
      have htake : (rs.drop 0).take len = rs := by simp [hlen]
      by_cases h0 : src.length = 0
      ·have hs0 : src = [] := List.eq_nil_of_length_eq_zero h0
       have hn0 : news = [] := List.eq_nil_of_length_eq_zero (by rw [hnl, h0]; simp)
       subst hs0; subst hn0
       have hd2 := hd
       cases hd with
       | sl _ _ _ _ _ _ hk' hb' ht' hsl =>
        have hsl := hsl (by omega)
        have hv : ∃ a c, vd = .slice a len c ∧ len ≤ c := by
         rcases hcs with ⟨hpl, h0⟩ | ⟨g, off, cs, T, hpl, hg, hcp1, hcp2, hcs⟩
         ·rw [hpl] at hsl; obtain ⟨rfl, rfl⟩ := hsl; exact ⟨none, 0, rfl, Nat.le_refl _⟩
         ·rw [hpl] at hsl; obtain ⟨a, c, rfl, hle, _⟩ := hsl; exact ⟨a, c, rfl, hle⟩
        obtain ⟨a, c, rfl, hle⟩ := hv
        have hr := run_append_nothing (P := P) w t tx ty e ie' hu hi a len c hle vy (by rw [← hse]; exact hsrc)
        have hput : hput σ b (.rows (sizeP P e) (rs ++ [])) = σ := by
         apply List.ext_getElem?
         intro x
         rw [getElem?_hput]
         have hbl := (List.getElem?_eq_some_iff.1 hb).1
         split
         ·rename_i e; subst e; rw [hb]; simp
         ·split
          ·rfl
          ·rw [if_neg (by omega)]; simp at *; omega
        refine ⟨_, w, μ, hr, ?_, ?_, Ext.refl _ _ _⟩
        ·have : tot = len := by omega
         subst this
         simpa using hd2
        ·simp only [upd]; rw [hput]; exact hH
      ·rcases hcs with ⟨hpl, he0⟩ | ⟨g, off, cs, T, hpl, hg, hcp1, hcp2, hcs⟩
       ·subst he0
        cases hd with
        | sl _ _ _ _ _ _ hk' hb' ht' hsl =>
         have hsl := hsl (by omega)
         rw [hpl] at hsl
         obtain ⟨rfl, rfl⟩ := hsl
         have hold : Src0 P (sizeP P e) tx (.slice none 0 0) 0 [] w := Src0.ofNil hk 0
         obtain ⟨C, w', hr, hC, h1, h2⟩ := append_grow (t := t) (tx := tx) (ty := ty) (b := b) (ro := []) hu hi hzv hvs (hzl.trans hse.symm) hse.symm hpos hby' hH (sLen := 0) (sCap := 0) rfl hold.cellsD (by simp) (by simp) (by simp) hsrc (fun r hr => (hrows r hr).1) hnc (by omega) (by omega) (fun _ => hszb) (fun _ => by simp at hml; omega)
         exact ⟨_, w', _, hr, .sl _ b _ _ _ _ rfl (show _ ∨ _ from .inl rfl) (by simp [Mu.add]) (fun _ => by simp only [Mu.add, if_true]; exact ⟨_, _, rfl, hC, by omega, .inr (by simp), by simp⟩), h1, h2⟩
       ·obtain ⟨olds, hold, hol, hoc⟩ := src_rows0 hk hH hd hself ⟨htot, by omega⟩ (s := sizeP P e) (fun r hr => by rw [htake] at hr; obtain ⟨j, hj, rfl⟩ := List.getElem_of_mem hr; exact hrow j _ (List.getElem?_eq_getElem hj)) hpos
        rw [htake] at hold hol hoc
        cases hd with
        | sl _ _ _ _ _ _ hk' hb' ht' hsl =>
         have hsl := hsl (by omega)
         rw [hpl] at hsl
         obtain ⟨a, c, rfl, hle, hcp, ha, _⟩ := hsl
         by_cases hroom : len + src.length ≤ c
         ·have ha : a = some ⟨g, off, none⟩ := by
           rcases ha with h | h
           ·omega
           ·simpa using h
          subst ha
          have hb2 : off + len * sizeP P e + src.length * sizeP P e ≤ cs.size := by
           have : (len + src.length) * sizeP P e ≤ μ.cp b * sizeP P e := Nat.mul_le_mul_right _ (by omega)
           rw [Nat.add_mul] at this; omega
          have hr := append_room (ty := ty) hu hi hse.symm hk hg hsrc hroom rfl hb2
          have hle : μ.le (μ.add b (sizeP P e) (rs ++ src).length (μ.cp b) (.at_ g off)) := Mu.le_re (fun _ => hszb) (fun _ => by simp; omega) hpos
          have hlen2 : (rs ++ src).length = len + src.length := by simp [hlen]
          have hput := hH.rowsPut (rs' := rs ++ src) (p := off + len * sizeP P e) (n := src.length) hb hpl hg rfl hle (by rw [hlen2]; omega) hcp2
           (fun i row e1 => by rcases List.mem_append.1 (List.mem_of_getElem? e1) with h | h; (obtain ⟨j, hj, rfl⟩ := List.getElem_of_mem h; exact hrow j _ (List.getElem?_eq_getElem hj)); exact (hrows _ h).1) hnl hb2 (fun i row j c' e1 e2 => ?_)
          ·refine ⟨_, _, _, hr, .sl _ b _ _ _ _ rfl (show _ ∨ _ from .inl rfl) (by simp [Mu.add, hlen]) (fun _ => by simp only [Mu.add, if_true]; exact ⟨_, _, rfl, hroom, by omega, .inr (by simp), by simp⟩), hput.1, hput.2⟩
          ·rw [getElem?_splice _ _ _ (by rw [hnl]; simpa using hb2)]
           by_cases hi' : i < rs.length
           ·rw [List.getElem?_append_left hi'] at e1
            have hj := (List.getElem?_eq_some_iff.1 e2).1
            have hrl := hrow i row e1
            have : (i + 1) * sizeP P e ≤ len * sizeP P e := Nat.mul_le_mul_right _ (by omega)
            rw [Nat.add_mul] at this
            rw [if_neg (by omega)]
            obtain ⟨u, u1, u2⟩ := hcs i row j c' e1 e2
            exact ⟨u, by simpa using u1, u2⟩
           ·rw [List.getElem?_append_right (by omega)] at e1
            obtain ⟨u, u1, u2⟩ := hnc _ row j c' e1 e2
            have hlt := (List.getElem?_eq_some_iff.1 u1).1
            have e3 : off + i * sizeP P e + j = off + len * sizeP P e + ((i - rs.length) * sizeP P e + j) := by
             rw [← hlen, Nat.sub_mul]
             have : len * sizeP P e ≤ i * sizeP P e := Nat.mul_le_mul_right _ (by omega)
             omega
            rw [e3, if_pos (by omega), Nat.add_sub_cancel_left]
            exact ⟨u, u1, u2⟩
         ·obtain ⟨C, w', hr, hC, h1, h2⟩ := append_grow (t := t) (tx := tx) (ty := ty) (b := b) (ro := rs) hu hi hzv hvs (hzl.trans hse.symm) hse.symm hpos hby' hH (sLen := len) (sCap := c) hlen.symm (by rw [← hlen] at hold; exact hold.cellsD) (by rw [hlen]; exact hol) (fun r hr => by obtain ⟨j, hj, rfl⟩ := List.getElem_of_mem hr; exact hrow j _ (List.getElem?_eq_getElem hj)) hoc hsrc (fun r hr => (hrows r hr).1) hnc (by omega) h32 (fun _ => hszb) (fun _ => by omega)
          exact ⟨_, w', _, hr, .sl _ b _ _ _ _ rfl (show _ ∨ _ from .inl rfl) (by simp [Mu.add]) (fun _ => by simp only [Mu.add, if_true]; exact ⟨_, _, rfl, hC, by omega, .inr (by simp), by simp⟩), h1, h2⟩
    ·cases h
   ·-- a slice of known room
    rename_i b tot i len c
    split at h
    ·rename_i s rs hb
     cases hss : Nat.beq (sizeP P e) s with
     | false => rw [hss] at h; cases h
     | true =>
      rw [hss] at h
      rw [Nat.beq_eq] at hss
      simp only [cond_true] at h
      subst hss
      obtain ⟨hub, _, hszb, hml, hrow, hcs⟩ := hH.obj b _ hb
      cases hfit : Nat.ble (len + src.length) c with
      | true =>
       rw [hfit] at h
       rw [Nat.ble_eq] at hfit
       simp only [cond_true, Option.some.injEq] at h; subst h
       obtain ⟨hpre, htot, hic, hrows⟩ := hp
       obtain ⟨news, hsrc, hnl, hnc⟩ := src_rows hk hH hy hsr hpre hrows hpos
       cases hd with
       | sl _ _ _ _ _ _ hk' hb' ht' hsl =>
        have hsl := hsl (by omega)
        rcases hcs with ⟨hpl, he0⟩ | ⟨g, off, cs, T, hpl, hg, hcp1, hcp2, hcs⟩
        ·subst he0
         rw [hpl] at hsl
         obtain ⟨rfl, rfl⟩ := hsl
         simp at hic
         have h0 : src.length = 0 := by omega
         have hs0 : src = [] := List.eq_nil_of_length_eq_zero h0
         have hn0 : news = [] := List.eq_nil_of_length_eq_zero (by rw [hnl, h0]; simp)
         subst hs0; subst hn0
         have hr := run_append_nothing (P := P) w t tx ty e ie' hu hi none 0 0 (Nat.le_refl _) vy (by rw [← hse]; exact hsrc)
         have hput : hput σ b (.rows (sizeP P e) []) = σ := by
          apply List.ext_getElem?
          intro x
          rw [getElem?_hput]
          have hbl := (List.getElem?_eq_some_iff.1 hb).1
          split
          ·rename_i e; subst e; rw [hb]
          ·split
           ·rfl
           ·rw [if_neg (by omega)]; simp at *; omega
         refine ⟨_, w, μ, hr, .sl _ b _ _ _ _ rfl hub (by omega) (fun _ => by rw [hpl]; exact ⟨rfl, by simp⟩), ?_, Ext.refl _ _ _⟩
         simp only [upd]
         simpa [hput] using hH
        ·rw [hpl] at hsl
         obtain ⟨a, c', rfl, hle, hcp, ha, hcc⟩ := hsl
         have hcc : c' = c := hcc c rfl
         subst hcc
         by_cases hz : c' = 0
         ·have h0 : src.length = 0 := by omega
          have hs0 : src = [] := List.eq_nil_of_length_eq_zero h0
          have hn0 : news = [] := List.eq_nil_of_length_eq_zero (by rw [hnl, h0]; simp)
          have hl0 : len = 0 := by omega
          subst hs0; subst hn0; subst hl0; subst hz
          have hr := run_append_nothing (P := P) w t tx ty e ie' hu hi a 0 0 (Nat.le_refl _) vy (by rw [← hse]; exact hsrc)
          have hput : hput σ b (.rows (sizeP P e) rs) = σ := by
           apply List.ext_getElem?
           intro x
           rw [getElem?_hput]
           have hbl := (List.getElem?_eq_some_iff.1 hb).1
           split
           ·rename_i e; subst e; rw [hb]
           ·split
            ·rfl
            ·rw [if_neg (by omega)]; simp at *; omega
          refine ⟨_, w, μ, hr, .sl _ b _ _ _ _ rfl hub (by omega) (fun _ => by rw [hpl]; exact ⟨_, _, rfl, by simp, by omega, .inl rfl, by simp⟩), ?_, Ext.refl _ _ _⟩
          simp only [upd]
          simpa [hput] using hH
         ·have ha : a = some ⟨g, off + i * sizeP P e, none⟩ := by
           rcases ha with h | h
           ·omega
           ·rw [hszb] at h; exact h
          subst ha
          have hb2 : off + i * sizeP P e + len * sizeP P e + src.length * sizeP P e ≤ cs.size := by
           have : (i + len + src.length) * sizeP P e ≤ μ.cp b * sizeP P e := Nat.mul_le_mul_right _ (by omega)
           rw [Nat.add_mul, Nat.add_mul] at this; omega
          have hr := append_room (ty := ty) hu hi hse.symm hk hg hsrc hfit rfl hb2
          have hle' : μ.le (μ.add b (sizeP P e) (rs.take (i + len) ++ src ++ rs.drop (i + len + src.length)).length (μ.cp b) (.at_ g off)) := by
           have hl2 : (rs.take (i + len) ++ src ++ rs.drop (i + len + src.length)).length = μ.len b := by simp; omega
           rw [hl2, ← hszb, ← hpl]; exact Mu.le_keep
          have hlen2 : (rs.take (i + len) ++ src ++ rs.drop (i + len + src.length)).length = rs.length := by simp; omega
          have hspl : rs.take (i + len) ++ src ++ rs.drop (i + len + src.length) = Idl.splice (i + len) src rs := rfl
          have hput := hH.rowsPut (rs' := rs.take (i + len) ++ src ++ rs.drop (i + len + src.length)) (p := off + i * sizeP P e + len * sizeP P e) (n := src.length) hb hpl hg rfl hle' (by rw [hlen2]; exact hcp1) hcp2
           (fun k row e1 => by
            rw [hspl, getElem?_splice _ _ _ (by omega)] at e1
            split at e1
            ·exact (hrows _ (List.mem_of_getElem? e1)).1
            ·exact hrow k row e1) hnl hb2 (fun k row j c2 e1 e2 => ?_)
          ·refine ⟨_, _, _, hr, .sl _ b _ _ _ _ rfl (show _ ∨ _ from .inl rfl) (by simp only [Mu.add, if_true]; rw [hlen2]; omega) (fun _ => by simp only [Mu.add, if_true]; exact ⟨_, _, rfl, hfit, by omega, .inr rfl, by simp⟩), hput.1, hput.2⟩
          ·rw [hspl, getElem?_splice _ _ _ (by omega)] at e1
           rw [getElem?_splice _ _ _ (by rw [hnl]; simpa using hb2)]
           by_cases hk2 : i + len ≤ k ∧ k < i + len + src.length
           ·rw [if_pos hk2] at e1
            obtain ⟨u, u1, u2⟩ := hnc _ row j c2 e1 e2
            have hlt := (List.getElem?_eq_some_iff.1 u1).1
            have e3 : off + k * sizeP P e + j = off + i * sizeP P e + len * sizeP P e + ((k - (i + len)) * sizeP P e + j) := by
             rw [Nat.sub_mul, Nat.add_mul]
             have : (i + len) * sizeP P e ≤ k * sizeP P e := Nat.mul_le_mul_right _ hk2.1
             rw [Nat.add_mul] at this
             omega
            rw [e3, if_pos (by omega), Nat.add_sub_cancel_left]
            exact ⟨u, u1, u2⟩
           ·rw [if_neg hk2] at e1
            have hj := (List.getElem?_eq_some_iff.1 e2).1
            have hrl := hrow k row e1
            have hnot : ¬ (off + i * sizeP P e + len * sizeP P e ≤ off + k * sizeP P e + j ∧ off + k * sizeP P e + j < off + i * sizeP P e + len * sizeP P e + news.length) := by
             rw [hnl]
             intro hh
             apply hk2
             constructor
             ·rcases Nat.lt_or_ge k (i + len) with h3 | h3
              ·have : (k + 1) * sizeP P e ≤ (i + len) * sizeP P e := Nat.mul_le_mul_right _ h3
               rw [Nat.add_mul, Nat.add_mul] at this; omega
              ·exact h3
             ·rcases Nat.lt_or_ge k (i + len + src.length) with h3 | h3
              ·exact h3
              ·have : (i + len + src.length) * sizeP P e ≤ k * sizeP P e := Nat.mul_le_mul_right _ h3
               rw [Nat.add_mul, Nat.add_mul] at this; omega
            rw [if_neg hnot]
            obtain ⟨u, u1, u2⟩ := hcs k row j c2 e1 e2
            exact ⟨u, by simpa using u1, u2⟩
      | false =>
       rw [hfit] at h
       have hfit' : ¬ (len + src.length ≤ c) := fun h => by rw [← Nat.ble_eq] at h; rw [h] at hfit; cases hfit
       simp only [cond_false, Option.some.injEq] at h; subst h
       obtain ⟨hpre, htot, hil, h32, hrows⟩ := hp
       obtain ⟨news, hsrc, hnl, hnc⟩ := src_rows hk hH hy hsr hpre hrows hpos
       have hself : srcRows σ (.sl b tot i len (some c)) = some (tot = rs.length ∧ i + len ≤ rs.length, (rs.drop i).take len) := by simp only [srcRows, hb]
       have hor : ∀ r ∈ (rs.drop i).take len, r.length = sizeP P e := fun r hr => by
        obtain ⟨j, hj, rfl⟩ := List.getElem_of_mem (List.mem_of_mem_drop (List.mem_of_mem_take hr))
        exact hrow j _ (List.getElem?_eq_getElem hj)
       obtain ⟨olds, hold, hol, hoc⟩ := src_rows0 hk hH hd hself ⟨htot, hil⟩ (s := sizeP P e) hor hpos
       have hlen' : ((rs.drop i).take len).length = len := by simp; omega
       rw [hlen'] at hold hol
       have hv : ∃ a c', vd = .slice a len c' ∧ (c' = c ∨ c' = 0) := by
        cases hd with
        | sl _ _ _ _ _ _ hk' hb' ht' hsl =>
         have hsl := hsl (by omega)
         rcases hcs with ⟨hpl, he0⟩ | ⟨g, off, cs, T, hpl, hg, hcp1, hcp2, hcs⟩
         ·rw [hpl] at hsl; obtain ⟨rfl, rfl⟩ := hsl; exact ⟨none, 0, rfl, .inr rfl⟩
         ·rw [hpl] at hsl; obtain ⟨a, c', rfl, hle, _, _, hcc⟩ := hsl; exact ⟨a, c', rfl, .inl (hcc c rfl)⟩
       obtain ⟨a, c', rfl, hcc⟩ := hv
       obtain ⟨C, w', hr, hC, h1, h2⟩ := append_grow (t := t) (tx := tx) (ty := ty) (b := nb) (ro := (rs.drop i).take len) hu hi hzv hvs (hzl.trans hse.symm) hse.symm hpos hby' hH (sLen := len) (sCap := c') hlen' hold.cellsD hol hor hoc hsrc (fun r hr => (hrows r hr).1) hnc (by rcases hcc with h | h <;> omega) h32 (fun h => absurd h hnb) (fun h => absurd h hnb)
       exact ⟨_, w', _, hr, .sl _ nb _ _ _ _ rfl (show _ ∨ _ from .inl rfl) (by simp [Mu.add]) (fun _ => by simp only [Mu.add, if_true]; exact ⟨_, _, rfl, hC, by omega, .inr (by simp), by simp⟩), h1, h2⟩
    ·cases h
   ·cases h
 ·rename_i e kx hu hk _
  exact appendZ_goes hH hnb hd hy hu hk h hp
 ·cases h
end
end Go.Idl
namespace Go.Idl
open Go.RowKit
section
variable {P : Program} {μ : Mu} {F : Fz} {w : World} {σ : Heap}
theorem bytes_beq {a b : ByteArray} : (a == b) = true ↔ a = b := by
 cases a with
 | mk x => cases b with
  | mk y =>
   show (x == y) = true ↔ _
   simp
theorem kindsOK_ceqs : ∀ {ks : List TypeDesc} {cs ds : List IV}, kindsOK ks cs = true → kindsOK ks ds = true → ∃ b, ceqs cs ds = some b
 | [], [], [], _, _ => ⟨true, rfl⟩
 | [], c :: cs, _, h, _ => by simp [kindsOK] at h
 | [], [], d :: ds, _, h => by simp [kindsOK] at h
 | k :: ks, [], _, h, _ => by cases k <;> simp [kindsOK] at h
 | k :: ks, c :: cs, [], _, h => by cases k <;> simp [kindsOK] at h
 | k :: ks, c :: cs, d :: ds, h1, h2 => by
  cases k <;> cases c <;> simp only [kindsOK, Bool.and_eq_true, reduceCtorEq, beq_iff_eq] at h1 <;> cases d <;> simp only [kindsOK, Bool.and_eq_true, reduceCtorEq, beq_iff_eq] at h2
  ·obtain ⟨b, hb⟩ := kindsOK_ceqs h1 h2; exact ⟨_, by simp only [ceqs, ceq, hb]; rfl⟩
  ·obtain ⟨b, hb⟩ := kindsOK_ceqs h1.2 h2.2
   obtain ⟨rfl, _⟩ := h1
   obtain ⟨rfl, _⟩ := h2
   exact ⟨_, by simp only [ceqs, ceq, hb, BEq.rfl, cond_true]; rfl⟩
  ·obtain ⟨b, hb⟩ := kindsOK_ceqs h1 h2; exact ⟨_, by simp only [ceqs, ceq, hb]; rfl⟩
theorem ceqs_true : ∀ {cs ds : List IV}, ceqs cs ds = some true → cs = ds
 | [], [], _ => rfl
 | [], _ :: _, h => by simp [ceqs] at h
 | _ :: _, [], h => by simp [ceqs] at h
 | c :: cs, d :: ds, h => by
  simp only [ceqs] at h
  cases h1 : ceq c d with
  | none => rw [h1] at h; cases h
  | some x =>
   rw [h1] at h
   cases h2 : ceqs cs ds with
   | none => rw [h2] at h; cases h
   | some y =>
    rw [h2] at h
    simp only [Option.some.injEq, Bool.and_eq_true] at h
    obtain ⟨rfl, rfl⟩ := h
    rw [ceqs_true h2]
    congr 1
    cases c <;> cases d <;> simp only [ceq, reduceCtorEq, Option.some.injEq, beq_iff_eq] at h1
    ·rw [h1]
    ·rename_i k a k' b
     cases hk : (k == k') with
     | false => rw [hk] at h1; cases h1
     | true =>
      rw [hk] at h1
      simp only [cond_true, Option.some.injEq, beq_iff_eq] at h1
      have : k = k' := by simpa using hk
      rw [this, h1]
    ·rw [bytes_beq.1 h1]
theorem flat_vals {ks : List TypeDesc} {cs : List IV} {us vs : List Value} (hk : kindsOK ks cs = true) (h1 : VRs μ F w us cs) (h2 : VRs μ F w vs cs) : us = vs := by
 induction ks generalizing cs us vs with
 | nil =>
  have := kindsOK_length hk
  have e1 : us = [] := List.eq_nil_of_length_eq_zero (by rw [h1.1]; simpa using this)
  have e2 : vs = [] := List.eq_nil_of_length_eq_zero (by rw [h2.1]; simpa using this)
  rw [e1, e2]
 | cons k ks ih =>
  cases cs with
  | nil => cases k <;> simp [kindsOK] at hk
  | cons c cs =>
   cases us with
   | nil => have := h1.1; simp at this
   | cons u us =>
    cases vs with
    | nil => have := h2.1; simp at this
    | cons v vs =>
     have hu := h1.2 0 u c rfl rfl
     have hv := h2.2 0 v c rfl rfl
     have hk2 : kindsOK ks cs = true := by cases k <;> cases c <;> simp_all [kindsOK]
     have tu : VRs μ F w us cs := ⟨by simpa using h1.1, fun j v c e1 e2 => h1.2 (j + 1) v c (by simpa using e1) (by simpa using e2)⟩
     have tv : VRs μ F w vs cs := ⟨by simpa using h2.1, fun j v c e1 e2 => h2.2 (j + 1) v c (by simpa using e1) (by simpa using e2)⟩
     rw [ih hk2 tu tv]
     congr 1
     cases k <;> cases c <;> simp only [kindsOK, reduceCtorEq] at hk <;> cases hu <;> cases hv <;> rfl
theorem sameBits_flat {d : Nat} {ks : List TypeDesc} : ∀ {cs : List IV} {us : List Value}, kindsOK ks cs = true → VRs μ F w us cs → (us.zip us).all (fun p => Instr.sameBits (d + 1) p.1 p.2) = true := by
 induction ks with
 | nil =>
  intro cs us hk h1
  have := kindsOK_length hk
  have e1 : us = [] := List.eq_nil_of_length_eq_zero (by rw [h1.1]; simpa using this)
  rw [e1]; rfl
 | cons k ks ih =>
  intro cs us hk h1
  cases cs with
  | nil => cases k <;> simp [kindsOK] at hk
  | cons c cs =>
   cases us with
   | nil => have := h1.1; simp at this
   | cons u us =>
    have hu := h1.2 0 u c rfl rfl
    have hk2 : kindsOK ks cs = true := by cases k <;> cases c <;> simp_all [kindsOK]
    have tu : VRs μ F w us cs := ⟨by simpa using h1.1, fun j v c e1 e2 => h1.2 (j + 1) v c (by simpa using e1) (by simpa using e2)⟩
    simp only [List.zip_cons_cons, List.all_cons, ih hk2 tu, Bool.and_true]
    cases k <;> cases c <;> simp only [kindsOK, reduceCtorEq] at hk <;> cases hu <;> simp [Instr.sameBits, bytes_beq]
theorem key_shape {t : TypeId} {ks : List TypeDesc} {k : IV} (h : keyOK P t ks k = true) (hl : aggP P t = true ∨ ks.length = 1) : k = mkV (aggP P t) k.cells ∧ kindsOK ks k.cells = true := by
 simp only [keyOK, Bool.and_eq_true, beq_iff_eq] at h
 refine ⟨?_, h.2⟩
 cases k <;> simp only [IV.isAgg] at h <;> simp [mkV, IV.cells, ← h.1]
theorem keyK_len {t : TypeId} {ks : List TypeDesc} (h : keyK P t = some ks) : aggP P t = true ∨ ks.length = 1 := by
 unfold keyK at h
 split at h
 ·cases h; exact .inr rfl
 ·cases h; exact .inr rfl
 ·cases h; exact .inr rfl
 ·unfold flatP at h
  split at h
  ·rename_i hc; exact .inl hc.1
  ·cases h
theorem keyK_flat {t : TypeId} {ks : List TypeDesc} (h : keyK P t = some ks) : flatK P 8 t = some ks := by
 unfold keyK at h
 split at h
 ·rename_i hu; cases h; simp [flatK, hu]
 ·rename_i hu; cases h; simp [flatK, hu]
 ·rename_i hu; cases h; simp [flatK, hu]
 ·unfold flatP at h
  split at h
  ·exact h
  ·cases h
theorem equal_key {t : TypeId} {ks : List TypeDesc} {k k' : IV} {u u' : Value} (hk : keyK P t = some ks) (h1 : keyOK P t ks k = true) (h2 : keyOK P t ks k' = true) (v1 : VR μ F w u k) (v2 : VR μ F w u' k') : (Op.equal t u u').run P w = .ok (keq k k') w := by
 obtain ⟨e1, f1⟩ := key_shape h1 (keyK_len hk)
 obtain ⟨e2, f2⟩ := key_shape h2 (keyK_len hk)
 obtain ⟨b, hb⟩ := kindsOK_ceqs f1 f2
 have : keq k k' = b := by simp [keq, hb]
 rw [this]
 exact flat_eq (μ := μ) (F := F) (w := w) 8 9992 t ks (keyK_flat hk) _ _ u u' b f1 f2 (by rw [← e1]; exact v1) (by rw [← e2]; exact v2) hb
def mix (k : IV) : List (IV × IV) → Nat → Option Nat
 | [], _ => none
 | (k', _) :: l, i => if keq k k' = true then some i else mix k l (i + 1)
theorem ask_run {t : TypeId} {ks : List TypeDesc} {k : IV} {u : Value} (hk : keyK P t = some ks) (h1 : keyOK P t ks k = true) (v1 : VR μ F w u k) : ∀ (es' : List MapEntry) (es : List (IV × IV)) (i : Nat), EntsR μ F w es' es → (∀ e ∈ es, keyOK P t ks e.1 = true) →
  ∃ r, (Instr.findAsking t u es' i).run P w = .ok r w ∧ ((mix k es i = none ∧ r = none ∧ mget k es = none) ∨ ∃ j v c, mix k es i = some (i + j) ∧ j < es.length ∧ r = some (i + j, v) ∧ mget k es = some c ∧ VR μ F w v c ∧ ∃ e, es'[j]? = some e ∧ e.val = v ∧ VR μ F w e.key k)
 | [], [], i, _, _ => ⟨none, by simp [Instr.findAsking], .inl ⟨rfl, rfl, rfl⟩⟩
 | [], _ :: _, i, h, _ => by have := h.1; simp at this
 | _ :: _, [], i, h, _ => by have := h.1; simp at this
 | e :: es', (k', c) :: es, i, h, ho => by
  obtain ⟨vk, vv⟩ := h.2 0 e (k', c) rfl rfl
  have h2 := ho (k', c) (by simp)
  have heq := equal_key hk h1 h2 v1 vk
  have ht : EntsR μ F w es' es := ⟨by simpa using h.1, fun j e p e1 e2 => h.2 (j + 1) e p (by simpa using e1) (by simpa using e2)⟩
  cases hq : keq k k' with
  | true =>
   rw [hq] at heq
   refine ⟨some (i, e.val), by simp [Instr.findAsking, heq], .inr ⟨0, e.val, c, by simp [mix, hq], by simp, by simp, by simp [mget, hq], vv, e, rfl, rfl, ?_⟩⟩
   have : k.cells = k'.cells := by
    unfold keq at hq
    split at hq
    ·rename_i b hb; subst hq; exact ceqs_true hb
    ·cases hq
   have e1 := (key_shape h1 (keyK_len hk)).1
   have e2 := (key_shape h2 (keyK_len hk)).1
   rw [e1, this, ← e2]; exact vk
  | false =>
   rw [hq] at heq
   obtain ⟨r, hr, hcase⟩ := ask_run hk h1 v1 es' es (i + 1) ht fun x hx => ho x (by simp [hx])
   refine ⟨r, by simp [Instr.findAsking, heq, hr], ?_⟩
   rcases hcase with ⟨m1, m2, m3⟩ | ⟨j, v, c', m1, m2, m3, m4, m5, m6⟩
   ·exact .inl ⟨by simp [mix, hq, m1], m2, by simp [mget, hq, m3]⟩
   ·exact .inr ⟨j + 1, v, c', by simp [mix, hq, m1]; omega, by simp; omega, by rw [m3]; congr 2; omega, by simp [mget, hq, m4], m5, by simpa using m6⟩
theorem equalIn_str (d : Nat) {t : TypeId} (hd : P.underlying t = some .string) (a b : ByteArray) : (Op.equalIn (d + 1) t (.string a) (.string b)).run P w = .ok (a == b) w := by
 simp only [Op.equalIn, Sem.run_bind, run_underlying hd, Result.andThen_ok, Sem.run_pure]
theorem now_ask {t : TypeId} {d : TypeDesc} {u : Value} (hd : P.underlying t = some d) : ∀ (es' : List MapEntry) (i : Nat) (r : Option (Nat × Value)), Instr.findNow d u es' i = some r → (Instr.findAsking t u es' i).run P w = .ok r w
 | [], i, r, h => by simp [Instr.findNow] at h; subst h; simp [Instr.findAsking]
 | e :: es', i, r, h => by
  simp only [Instr.findNow] at h
  have one : ∀ b, Instr.sameNow d u e.key = some b → (Op.equal t u e.key).run P w = .ok b w := fun b hb => by
   generalize e.key = kk at *
   unfold Instr.sameNow at hb
   split at hb
   ·split at hb
    ·rename_i hk; subst hk; cases hb
     exact run_equalIn_int w 9999 t _ _ _ _ hd
    ·cases hb
   ·cases hb
    exact equalIn_str 9999 hd _ _
   ·cases hb
    exact run_equalIn_bool w 9999 t _ _ hd
   ·cases hb
  split at h
  ·rename_i hs; cases h; simp [Instr.findAsking, one _ hs]
  ·rename_i hs; simp [Instr.findAsking, one _ hs, now_ask hd es' (i + 1) r h]
  ·cases h
theorem find_run {t : TypeId} {ks : List TypeDesc} {k : IV} {u : Value} (hk : keyK P t = some ks) (h1 : keyOK P t ks k = true) (v1 : VR μ F w u k) (es' : List MapEntry) (es : List (IV × IV)) (h : EntsR μ F w es' es) (ho : ∀ e ∈ es, keyOK P t ks e.1 = true) :
  ∃ r, (Instr.findKey t u es').run P w = .ok r w ∧ ((mix k es 0 = none ∧ r = none ∧ mget k es = none) ∨ ∃ j v c, mix k es 0 = some j ∧ j < es.length ∧ r = some (j, v) ∧ mget k es = some c ∧ VR μ F w v c ∧ ∃ e, es'[j]? = some e ∧ e.val = v ∧ VR μ F w e.key k) := by
 obtain ⟨r, hr, hc⟩ := ask_run hk h1 v1 es' es 0 h ho
 have hu : ∃ d, P.underlying t = some d := by
  cases hu : P.underlying t with
  | none => simp [keyK, hu, flatP, aggP] at hk
  | some d => exact ⟨d, rfl⟩
 obtain ⟨d, hd⟩ := hu
 refine ⟨r, ?_, by simpa using hc⟩
 unfold Instr.findKey
 simp only [Sem.run_bind, run_underlying hd, Result.andThen_ok]
 cases hn : Instr.findNow d u es' 0 with
 | none => exact hr
 | some r' =>
  have := now_ask (w := w) hd es' 0 r' hn
  rw [hr] at this
  cases this
  rfl
def CheckOK (P : Program) (μ : Mu) (F : Fz) (w : World) (em : Bool) (d : Nat) (t : TypeId) (ks : List TypeDesc) : Prop :=
 ∀ (cs : List IV) (u : Value), kindsOK ks cs = true → VR μ F w u (mkV (aggP P t) cs) → (Instr.checkKey em d t u).run P w = .ok () w
theorem check_part {em : Bool} {d : Nat} {t : TypeId} {ks : List TypeDesc} {us : List Value} {cs : List IV} {o : Nat} (hE : CheckOK P μ F w em d t ks) (hu : VRs μ F w us cs) (ht : hasP P t = true) (hsz : sizeP P t = ks.length)
  (h1 : aggP P t = true ∨ sizeP P t = 1) (hc : kindsOK ks ((cs.drop o).take ks.length) = true) (ho : o + ks.length ≤ cs.length) :
  ∃ a, (part t us.toArray o).run P w = .ok a w ∧ (Instr.checkKey em d t a).run P w = .ok () w := by
 obtain ⟨a, a1, a2⟩ := part_run (o := o) hu ht (by omega) h1
 have key : loadAt (aggP P t) (sizeP P t) cs o = mkV (aggP P t) ((cs.drop o).take ks.length) := by
  unfold loadAt mkV
  cases ha : aggP P t with
  | true => simp [cut, hsz]
  | false =>
   have : ks.length = 1 := by rw [ha] at h1; simpa [hsz] using h1
   rw [this]
   simp [List.getD]
 exact ⟨a, a1, hE _ a hc (by rw [← key]; exact a2)⟩
theorem check_flat (em : Bool) : ∀ (k m : Nat) (t : TypeId) (ks : List TypeDesc), flatK P k t = some ks → CheckOK P μ F w em (m + k) t ks
 | 0, _, _, _, h => by simp [flatK] at h
 | k + 1, m, t, ks, h => by
  intro cs u hc hu
  have lc := kindsOK_length hc
  unfold flatK at h
  cases hk : P.underlying t with
  | none => rw [hk] at h; cases h
  | some td =>
   rw [hk] at h
   cases td <;> simp only [Option.some.injEq, reduceCtorEq] at h
   case bool =>
    show (Instr.checkKey em (m + k + 1) t u).run P w = _
    simp only [Instr.checkKey, Sem.run_bind, run_underlying hk, Result.andThen_ok, Sem.run_pure]
   case int q =>
    show (Instr.checkKey em (m + k + 1) t u).run P w = _
    simp only [Instr.checkKey, Sem.run_bind, run_underlying hk, Result.andThen_ok, Sem.run_pure]
   case string =>
    show (Instr.checkKey em (m + k + 1) t u).run P w = _
    simp only [Instr.checkKey, Sem.run_bind, run_underlying hk, Result.andThen_ok, Sem.run_pure]
   case struct fs =>
    split at h
    ·cases h
    ·have ha : aggP P t = true := by simp [aggP, hk]
     rw [ha] at hu
     simp only [mkV, cond_true] at hu
     cases hu with
     | agg us _ l1 h1 =>
      show (Instr.checkKey em (m + k + 1) t _).run P w = _
      rw [Instr.checkKey]
      simp only [Sem.run_bind, run_underlying hk, Result.andThen_ok]
      rw [← Array.forIn_toList]
      have H : ∀ (L : List Field) (off : Nat) (ls : List TypeDesc), flatFs P (flatK P k) L off = some ls → kindsOK ls (cs.drop off) = true → off ≤ cs.length →
        (forIn L PUnit.unit fun f _ => if f.name ≠ "_" then do { let x ← part f.type us.toArray f.offset; Instr.checkKey em (m + k) f.type x; pure (ForInStep.yield PUnit.unit) } else pure (ForInStep.yield PUnit.unit) : Sem PUnit).run P w = .ok () w := by
       intro L
       induction L with
       | nil => intro off ls _ _ _; simp
       | cons f L ih =>
        intro off ls hf hc' hoc
        simp only [flatFs] at hf
        cases e1 : flatK P k f.type with
        | none => rw [e1] at hf; cases hf
        | some l =>
         rw [e1] at hf
         simp only at hf
         cases e2 : flatFs P (flatK P k) L (off + l.length) with
         | none => rw [e2] at hf; cases hf
         | some l' =>
          rw [e2] at hf
          simp only at hf
          split at hf
          ·rename_i hcond
           obtain ⟨hn, hoff, hsz⟩ := hcond
           cases hf
           obtain ⟨c1, c2⟩ := kindsOK_append hc'
           have lc' := kindsOK_length hc'
           simp only [List.length_append, List.length_drop] at lc'
           obtain ⟨hhas, hone⟩ := flat_one e1 hsz
           obtain ⟨a, a1, a2⟩ := check_part (o := off) (check_flat em k m f.type l e1) ⟨l1, h1⟩ hhas (sizeOK_spec hsz) hone c1 (by omega)
           have := ih (off + l.length) l' e2 (by rw [← List.drop_drop]; exact c2) (by omega)
           simp only [List.forIn_cons, Sem.run_bind]
           rw [if_pos hn, hoff]
           simp only [Sem.run_bind, a1, a2, Result.andThen_ok, Sem.run_pure]
           exact this
          ·cases hf
      have hfin := H fs.toList 0 ks h (by simpa using hc) (Nat.zero_le _)
      simp at hfin
      simp [hfin]
   case array n e =>
    cases he : flatK P k e with
    | none => rw [he] at h; cases h
    | some l =>
     rw [he] at h
     simp only at h
     split at h
     ·rename_i hs
      cases h
      have ha : aggP P t = true := by simp [aggP, hk]
      rw [ha] at hu
      simp only [mkV, cond_true] at hu
      obtain ⟨hhas, hone⟩ := flat_one he hs
      have hsz := sizeOK_spec hs
      cases hi : P.info? e with
      | none => simp [sizeOK, hi] at hs
      | some i =>
       have hcell : P.cellsOf e = l.length := by rw [← hsz]; simp [sizeP, Program.cellsOf, hi]
       cases hu with
       | agg us _ l1 h1 =>
        show (Instr.checkKey em (m + k + 1) t _).run P w = _
        rw [Instr.checkKey]
        simp only [Sem.run_bind, run_underlying hk, Result.andThen_ok]
        simp only [Std.Legacy.Range.forIn_eq_forIn_range', Std.Legacy.Range.size, Nat.sub_zero, Nat.add_one_sub_one, Nat.div_one]
        have H : ∀ (n j : Nat), kindsOK (List.replicate n l).flatten (cs.drop (j * l.length)) = true → j * l.length ≤ cs.length →
          (forIn (List.range' j n) PUnit.unit fun i _ => do { let s ← sizeOf e; let x ← part e us.toArray (i * s); Instr.checkKey em (m + k) e x; pure (ForInStep.yield PUnit.unit) } : Sem PUnit).run P w = .ok () w := by
         intro n
         induction n with
         | zero => intro j _ _; simp
         | succ n ih =>
          intro j hc' hoc
          rw [List.replicate_succ, List.flatten_cons] at hc'
          obtain ⟨c1, c2⟩ := kindsOK_append hc'
          have lc' := kindsOK_length hc'
          simp only [List.length_append, List.length_drop] at lc'
          obtain ⟨a, a1, a2⟩ := check_part (o := j * l.length) (check_flat em k m e l he) ⟨l1, h1⟩ hhas hsz hone c1 (by omega)
          have := ih (j + 1) (by rw [Nat.add_mul, Nat.one_mul, ← List.drop_drop]; exact c2) (by rw [Nat.add_mul]; omega)
          rw [List.range'_succ]
          simp only [List.forIn_cons, Sem.run_bind, run_sizeOf w hi, hcell, a1, a2, Result.andThen_ok, Sem.run_pure]
          exact this
        have hfin := H n 0 (by simpa using hc) (by simp)
        simp at hfin
        simp [hfin]
     ·cases h
theorem check_key (em : Bool) {t : TypeId} {ks : List TypeDesc} {k : IV} {u : Value} (hk : keyK P t = some ks) (h1 : keyOK P t ks k = true) (v1 : VR μ F w u k) : (Instr.checkKey em 10000 t u).run P w = .ok () w := by
 obtain ⟨e1, f1⟩ := key_shape h1 (keyK_len hk)
 exact check_flat (μ := μ) (F := F) (w := w) em 8 9992 t ks (keyK_flat hk) _ u f1 (by rw [← e1]; exact v1)
variable {ev : Operand → Value} {ρ : Operand → Option IV}
theorem getObj_run {g : Nat} {es : Array MapEntry} {cl : Nat} (h : w.heap[g]? = some (.map es cl)) : (getObj g).run P w = .ok (.map es cl) w := by simp [getObj, Sem.run, h]
theorem setObj_run {g : Nat} {es : Array MapEntry} {cl : Nat} {o' : Obj} (h : w.heap[g]? = some (.map es cl)) : (setObj g o').run P w = .ok () { w with heap := w.heap.setIfInBounds g o' } := by
 simp [setObj, Sem.run, h]
theorem zeroI_run {t : TypeId} {z : IV} (h : zeroI P t = some z) : ∃ v, (zeroValue t).run P w = .ok v w ∧ VR μ F w v z := by
 unfold zeroI at h
 cases hi : P.info? t with
 | none => rw [hi] at h; cases h
 | some i =>
  rw [hi] at h
  simp only [Option.bind_eq_some_iff] at h
  obtain ⟨v, hv, hz⟩ := h
  exact ⟨v, by simp [zeroValue, typeInfo, hi, hv], ofV_vr hz⟩
theorem map_obj {b : Nat} {es : List (IV × IV)} {v : Value} (hH : HR μ F σ w) (hb : σ[b]? = some (.map es)) (h : VR μ F w v (.map b)) : ∃ g es' cl, v = .map (some g) ∧ μ.u b ∧ μ.sz b = 0 ∧ μ.pl b = .at_ g 0 ∧ w.heap[g]? = some (.map es' cl) ∧ EntsR μ F w es'.toList es ∧ (es'.toList.map (·.born)).Nodup ∧ ∀ e ∈ es'.toList, e.born < cl := by
 obtain ⟨hu, hs, g, es', cl, hpl, hg, he, hn, hc⟩ := hH.obj b _ hb
 cases h with
 | map _ _ hk hb' h hl =>
  rw [hpl] at h
  exact ⟨g, es', cl, h, hu, hs, hpl, hg, he, hn, hc⟩
theorem lookup_goes {t : TypeId} {x k : Operand} {cok : Bool} {nb : Nat} {r : Out} {c : Bool} (hρ : ∀ x c, ρ x = some c → VR μ F w (ev x) c) (hH : HR μ F σ w) (h : iop P c (.lookup t x k cok) ρ σ nb = some r) (hp : r.pre) :
  ∃ z, (Instr.lookup t (ev x) (ev k) cok).run P w = .ok z w ∧ VR μ F w z r.v ∧ r.w = none := by
 simp only [iop] at h
 split at h
 ·rename_i kt et m kv ht hm hk
  split at h
  ·rename_i ks z es hks hz hes
   cases hko : keyOK P kt ks kv with
   | false => rw [hko] at h; cases h
   | true =>
    rw [hko] at h
    simp only [cond_true, Option.some.injEq] at h; subst h
    have hp : ∀ e ∈ es, keyOK P kt ks e.1 = true := hp
    have vk := hρ k _ hk
    have vm := hρ x _ hm
    obtain ⟨zv, z1, z2⟩ := zeroI_run (μ := μ) (F := F) (w := w) hz
    have main : ∀ (es' : Array MapEntry), EntsR μ F w es'.toList es → ∃ u, (do
      let (v, ok) ← match ← Instr.findKey kt (ev k) es'.toList with
       | some (_, v) => pure (v, true)
       | none => pure (← zeroValue et, false)
      pure (if cok then Value.tuple #[v, .bool ok] else v) : Sem Value).run P w = .ok u w ∧ VR μ F w u (found cok z (mget kv es)) := fun es' he => by
     obtain ⟨r, hr, hc⟩ := find_run hks hko vk es'.toList es he hp
     rcases hc with ⟨_, rfl, hg⟩ | ⟨j, v, c', _, _, rfl, hg, hv, _⟩
     ·refine ⟨_, by simp [hr, z1]; rfl, ?_⟩
      rw [hg]
      cases cok with
      | true =>
       exact .tup [zv, .bool false] [z, .bool false] rfl fun j v c e1 e2 => by
        match j with
        | 0 => simp at e1 e2; subst e1; subst e2; exact z2
        | 1 => simp at e1 e2; subst e1; subst e2; exact .bool _
        | j + 2 => simp at e1
      | false => exact z2
     ·refine ⟨_, by simp [hr]; rfl, ?_⟩
      rw [hg]
      cases cok with
      | true =>
       exact .tup [v, .bool true] [c', .bool true] rfl fun j v c e1 e2 => by
        match j with
        | 0 => simp at e1 e2; subst e1; subst e2; exact hv
        | 1 => simp at e1 e2; subst e1; subst e2; exact .bool _
        | j + 2 => simp at e1
      | false => exact hv
    cases m with
    | nilm =>
     simp only [mapOf, Option.some.injEq] at hes; subst hes
     obtain ⟨u, u1, u2⟩ := main #[] ⟨rfl, by simp⟩
     refine ⟨u, ?_, u2, rfl⟩
     generalize ev x = vx at *
     cases vm
     unfold Instr.lookup
     simp only [Sem.run_bind, run_underlying ht, Result.andThen_ok, Sem.run_pure]
     rw [check_key (μ := μ) (F := F) _ hks hko vk]
     simp only [Sem.run_bind, Result.andThen_ok, Sem.run_pure] at u1 ⊢
     exact u1
    | map b =>
     simp only [mapOf] at hes
     split at hes
     ·rename_i es0 hb
      cases hes
      obtain ⟨g, es', cl, hv, hu, hs, hpl, hg, he, _, _⟩ := map_obj hH hb vm
      obtain ⟨u, u1, u2⟩ := main es' he
      refine ⟨u, ?_, u2, rfl⟩
      rw [hv]
      unfold Instr.lookup
      simp only [Sem.run_bind, run_underlying ht, Result.andThen_ok, Sem.run_pure, getObj_run hg]
      rw [check_key (μ := μ) (F := F) _ hks hko vk]
      simp only [Sem.run_bind, Result.andThen_ok, Sem.run_pure] at u1 ⊢
      exact u1
     ·cases hes
    | fm es0 =>
     simp only [mapOf, Option.some.injEq] at hes; subst hes
     generalize ev x = vx at *
     cases vm with
     | fm g _ es' cl h1 hg hfl hen hnd hcl =>
     obtain ⟨u, u1, u2⟩ := main es' (EntsV.ents ⟨hen, hfl⟩)
     refine ⟨u, ?_, u2, rfl⟩
     unfold Instr.lookup
     simp only [Sem.run_bind, run_underlying ht, Result.andThen_ok, Sem.run_pure, getObj_run hg]
     rw [check_key (μ := μ) (F := F) _ hks hko vk]
     simp only [Sem.run_bind, Result.andThen_ok, Sem.run_pure] at u1 ⊢
     exact u1
    | _ => simp [mapOf] at hes
  ·cases h
 ·cases h
theorem ents_modify {k v : IV} {V : Value} (hv : VR μ F w V v) : ∀ (es' : List MapEntry) (es : List (IV × IV)) (i j : Nat) (e : MapEntry), EntsR μ F w es' es → mix k es i = some (i + j) → es'[j]? = some e → EntsR μ F w (es'.modify j fun x => { x with key := e.key, val := V }) (mset k v es)
 | [], [], i, j, e, _, h, _ => by simp [mix] at h
 | [], _ :: _, _, _, _, h, _, _ => by have := h.1; simp at this
 | _ :: _, [], _, _, _, h, _, _ => by have := h.1; simp at this
 | e0 :: es', (k', c) :: es, i, j, e, h, hm, he => by
  have ht : EntsR μ F w es' es := ⟨by simpa using h.1, fun j e p e1 e2 => h.2 (j + 1) e p (by simpa using e1) (by simpa using e2)⟩
  obtain ⟨vk, vv⟩ := h.2 0 e0 (k', c) rfl rfl
  simp only [mix] at hm
  cases hq : keq k k' with
  | true =>
   rw [hq] at hm
   simp only [if_true, Option.some.injEq] at hm
   have : j = 0 := by omega
   subst this
   simp at he; subst he
   simp only [mset, hq, if_true, List.modify_zero_cons]
   refine ⟨by simpa using h.1, fun j e p e1 e2 => ?_⟩
   cases j with
   | zero => simp at e1 e2; subst e1; subst e2; exact ⟨vk, hv⟩
   | succ j => exact ht.2 j e p (by simpa using e1) (by simpa using e2)
  | false =>
   rw [hq] at hm
   simp only [Bool.false_eq_true, if_false] at hm
   have hge : ∀ (es : List (IV × IV)) (i r : Nat), mix k es i = some r → i ≤ r := fun es => by
    induction es with
    | nil => intro i r h; simp [mix] at h
    | cons p es ih =>
     intro i r h
     obtain ⟨k', c⟩ := p
     simp only [mix] at h
     split at h
     ·cases h; exact Nat.le_refl _
     ·have := ih _ _ h; omega
   have := hge _ _ _ hm
   obtain ⟨j, rfl⟩ : ∃ j', j = j' + 1 := ⟨j - 1, by omega⟩
   have ih := ents_modify hv es' es (i + 1) j e ht (by rw [hm]; congr 1; omega) (by simpa using he)
   simp only [mset, hq, Bool.false_eq_true, if_false, List.modify_succ_cons]
   refine ⟨by simp [ih.1], fun j e p e1 e2 => ?_⟩
   cases j with
   | zero => simp at e1 e2; subst e1; subst e2; exact ⟨vk, vv⟩
   | succ j => exact ih.2 j e p (by simpa using e1) (by simpa using e2)
theorem ents_push {k v : IV} {K V : Value} {b : Nat} (hk : VR μ F w K k) (hv : VR μ F w V v) : ∀ (es' : List MapEntry) (es : List (IV × IV)) (i : Nat), EntsR μ F w es' es → mix k es i = none → EntsR μ F w (es' ++ [⟨K, V, b⟩]) (mset k v es)
 | [], [], i, _, _ => ⟨rfl, fun j e p e1 e2 => by
   cases j with
   | zero => simp [mset] at e1 e2; subst e1; subst e2; exact ⟨hk, hv⟩
   | succ j => simp at e1⟩
 | [], _ :: _, _, h, _ => by have := h.1; simp at this
 | _ :: _, [], _, h, _ => by have := h.1; simp at this
 | e0 :: es', (k', c) :: es, i, h, hm => by
  have ht : EntsR μ F w es' es := ⟨by simpa using h.1, fun j e p e1 e2 => h.2 (j + 1) e p (by simpa using e1) (by simpa using e2)⟩
  obtain ⟨vk, vv⟩ := h.2 0 e0 (k', c) rfl rfl
  simp only [mix] at hm
  cases hq : keq k k' with
  | true => rw [hq] at hm; simp at hm
  | false =>
   rw [hq] at hm
   simp only [Bool.false_eq_true, if_false] at hm
   have ih := ents_push (b := b) hk hv es' es (i + 1) ht hm
   simp only [mset, hq, Bool.false_eq_true, if_false, List.cons_append]
   refine ⟨by simp [ih.1], fun j e p e1 e2 => ?_⟩
   cases j with
   | zero => simp at e1 e2; subst e1; subst e2; exact ⟨vk, vv⟩
   | succ j => exact ih.2 j e p (by simpa using e1) (by simpa using e2)
theorem key_same {t : TypeId} {ks : List TypeDesc} {k : IV} {u u' : Value} (hk : keyK P t = some ks) (h1 : keyOK P t ks k = true) (v1 : VR μ F w u k) (v2 : VR μ F w u' k) : u = u' ∧ Instr.sameBits 10000 u u' = true := by
 obtain ⟨e1, f1⟩ := key_shape h1 (keyK_len hk)
 cases k <;> simp only [IV.cells] at f1
 case agg cs =>
  cases v1 with
  | agg us _ l1 h1 =>
   cases v2 with
   | agg vs _ l2 h2 =>
    have := flat_vals f1 ⟨l1, h1⟩ ⟨l2, h2⟩
    subst this
    refine ⟨rfl, ?_⟩
    have := sameBits_flat (d := 9998) f1 ⟨l1, h1⟩
    show (_ && _) = true
    simpa using this
 case bool => cases v1; cases v2; exact ⟨rfl, by simp [Instr.sameBits]⟩
 case int => cases v1; cases v2; exact ⟨rfl, by simp [Instr.sameBits]⟩
 case str => cases v1; cases v2; exact ⟨rfl, by simp [Instr.sameBits, bytes_beq]⟩
 all_goals (exfalso; cases ks with | nil => simp [kindsOK] at f1 | cons k0 ks => cases k0 <;> simp [kindsOK] at f1)
theorem mapUpdate_goes {t : TypeId} {m k x : Operand} {nb : Nat} {r : Out} {c : Bool} (hρ : ∀ x c, ρ x = some c → VR μ F w (ev x) c) (hH : HR μ F σ w) (h : iop P c (.mapUpdate t m k x) ρ σ nb = some r) (hp : r.pre) :
  ∃ w', (Instr.mapUpdate t (ev m) (ev k) (ev x)).run P w = .ok () w' ∧ r.v = .tup [] ∧ HR μ F (upd σ r.w) w' ∧ Ext μ F w μ F w' := by
 simp only [iop] at h
 split at h
 ·rename_i kt et b kv vv ht hm hk hx
  split at h
  ·rename_i ks es hks hb
   cases hko : keyOK P kt ks kv with
   | false => rw [hko] at h; cases h
   | true =>
    rw [hko] at h
    simp only [cond_true, Option.some.injEq] at h; subst h
    have hp : ∀ e ∈ es, keyOK P kt ks e.1 = true := hp
    have vk := hρ k _ hk
    have vx := hρ x _ hx
    obtain ⟨g, es', cl, hv, hu, hs, hpl, hg, he, hnd, hcl⟩ := map_obj hH hb (hρ m _ hm)
    have hlt := hH.lt b g 0 hu hpl
    have fin : ∀ (es2 : Array MapEntry) (cl2 : Nat), EntsR μ F w es2.toList (mset kv vv es) → (es2.toList.map (·.born)).Nodup → (∀ e ∈ es2.toList, e.born < cl2) →
      HR μ F (hput σ b (.map (mset kv vv es))) { w with heap := w.heap.setIfInBounds g (.map es2 cl2) } ∧ Ext μ F w μ F { w with heap := w.heap.setIfInBounds g (.map es2 cl2) } := fun es2 cl2 q1 q2 q3 => by
     have hw : ∀ k, k < w.heap.size → (μ.u b → ∀ off, μ.pl b ≠ .at_ k off) → ({ w with heap := w.heap.setIfInBounds g (.map es2 cl2) } : World).heap[k]? = w.heap[k]? := fun k _ hk => by
      have : g ≠ k := fun e => by subst e; exact hk hu 0 hpl
      simp [Array.getElem?_setIfInBounds_ne this]
     have hf := hH.frozen_same hw
     refine hH.change (Mu.le_refl μ) (fun _ _ => ⟨rfl, rfl, rfl, rfl, Iff.rfl⟩) hw (fun g' off' hu' e => ⟨.inr ⟨hu', off', e⟩, ?_⟩) (by simp) rfl rfl ⟨rfl, Nat.le_refl _⟩ (hH.notIt hb (by intro h; cases h)) ?_
     ·simpa using hH.lt b g' off' hu' e
     ·exact ⟨hu, hs, g, es2, cl2, hpl, by simp [hlt], ⟨q1.1, fun j e p e1 e2 => let ⟨v1, v2⟩ := q1.2 j e p e1 e2; ⟨v1.mono (Mu.le_refl _) (fun _ h => h) hf, v2.mono (Mu.le_refl _) (fun _ h => h) hf⟩⟩, q2, q3⟩
    obtain ⟨r, hr, hc⟩ := find_run hks hko vk es'.toList es he hp
    rcases hc with ⟨m1, rfl, _⟩ | ⟨j, v, c', m1, m2, rfl, _, _, e, m3, _, m4⟩
    ·obtain ⟨f1, f2⟩ := fin (es'.push ⟨ev k, ev x, cl⟩) (cl + 1) (by simpa using ents_push (b := cl) vk vx es'.toList es 0 he m1) (by
      simp only [Array.toList_push, List.map_append, List.map_cons, List.map_nil]
      rw [List.nodup_append]
      refine ⟨hnd, by simp, fun a ha b hb e => ?_⟩
      simp only [List.mem_singleton] at hb
      rw [List.mem_map] at ha
      obtain ⟨x, hx, rfl⟩ := ha
      have := hcl x hx
      omega) (fun e he => by
      simp only [Array.toList_push, List.mem_append, List.mem_singleton] at he
      rcases he with he | he
      ·have := hcl e he; omega
      ·subst he; simp)
     refine ⟨_, ?_, rfl, f1, f2⟩
     rw [hv]
     unfold Instr.mapUpdate
     simp only [Sem.run_bind, run_underlying ht, Result.andThen_ok, getObj_run hg]
     rw [check_key (μ := μ) (F := F) _ hks hko vk]
     simp only [Result.andThen_ok, hr]
     exact setObj_run hg
    ·have hkey := key_same hks hko m4 vk
     have hmod : (es'.modify j fun y => { y with key := ev k, val := ev x }).toList = es'.toList.modify j fun y => { y with key := e.key, val := ev x } := by
      rw [hkey.1]; simp
     have hborn : ∀ (l : List MapEntry) (j : Nat), (l.modify j fun y => { y with key := e.key, val := ev x }).map (·.born) = l.map (·.born) := fun l => by
      induction l with
      | nil => intro j; simp
      | cons a l ih =>
       intro j
       cases j with
       | zero => simp
       | succ j => simp [ih j]
     obtain ⟨f1, f2⟩ := fin (es'.modify j fun y => { y with key := ev k, val := ev x }) cl (by rw [hmod]; exact ents_modify vx es'.toList es 0 j e he (by simpa using m1) m3) (by rw [hmod, hborn]; exact hnd) (fun a ha => by
      rw [hmod] at ha
      have : a.born ∈ (es'.toList.modify j fun y => { y with key := e.key, val := ev x }).map (·.born) := List.mem_map.2 ⟨a, ha, rfl⟩
      rw [hborn] at this
      obtain ⟨y, hy, hyb⟩ := List.mem_map.1 this
      rw [← hyb]; exact hcl y hy)
     refine ⟨_, ?_, rfl, f1, f2⟩
     rw [hv]
     unfold Instr.mapUpdate
     simp only [Sem.run_bind, run_underlying ht, Result.andThen_ok, getObj_run hg]
     rw [check_key (μ := μ) (F := F) _ hks hko vk]
     have hold : ((es'[j]?).map (·.key)).getD (ev k) = e.key := by
      have : es'[j]? = some e := by simpa using m3
      simp [this]
     simp only [Result.andThen_ok, hr, Sem.run_bind, hold, Instr.keyThatStays, hkey.2, if_true, Sem.run_pure]
     exact setObj_run hg
  ·cases h
 ·cases h
end
end Go.Idl
