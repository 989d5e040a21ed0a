/-
  Each operation of the model does what its ideal does: what writes, what makes.
-/
import Derived.Test.YtpfpgkopbokfgaaDoorIdlD
namespace Go.Idl
set_option linter.all false
open Go.RowKit

theorem getElem?_splice {α : Type} (o : Nat) (new l : List α) (h : o + new.length ≤ l.length) (x : Nat) :
    (splice o new l)[x]? = if o ≤ x ∧ x < o + new.length then new[x - o]? else l[x]? := by
  unfold splice
  by_cases h1 : x < o
  · have h2 : ¬ (o ≤ x ∧ x < o + new.length) := by omega
    rw [if_neg h2, List.append_assoc, List.getElem?_append_left (by simp; omega), List.getElem?_take_of_lt h1]
  · by_cases h2 : x < o + new.length
    · rw [if_pos ⟨by omega, h2⟩, List.append_assoc, List.getElem?_append_right (by simp; omega)]
      have e : x - (l.take o).length = x - o := by simp; omega
      rw [e, List.getElem?_append_left (by omega)]
    · have h3 : ¬ (o ≤ x ∧ x < o + new.length) := by omega
      rw [if_neg h3, List.getElem?_append_right (by simp; omega), List.getElem?_drop]
      congr 1
      simp; omega

theorem length_splice {α : Type} (o : Nat) (new l : List α) (h : o + new.length ≤ l.length) : (splice o new l).length = l.length := by
  simp [splice]; omega

/-- Two places of a row of rows are one only if row and place are. -/
theorem place_ne {s i i' j j' : Nat} (hj : j < s) (hj' : j' < s) (h : i * s + j = i' * s + j') : i = i' ∧ j = j' := by
  have e : i = i' := by
    rcases Nat.lt_trichotomy i i' with h1 | h1 | h1
    · have : (i + 1) * s ≤ i' * s := Nat.mul_le_mul_right s h1
      rw [Nat.add_mul] at this; omega
    · exact h1
    · have : (i' + 1) * s ≤ i * s := Nat.mul_le_mul_right s h1
      rw [Nat.add_mul] at this; omega
  subst e
  exact ⟨rfl, by omega⟩

section
variable {P : Program} {μ : Mu} {F : Fz} {w : World} {σ : Heap} {ev : Operand → Value} {ρ : Operand → Option IV}

theorem vr_undef : VR μ F w undef (.tup []) := .tup [] [] rfl (by simp)

theorem store_goes {t : TypeId} {x y : Operand} {nb : Nat} {r : Out} {c : Bool} (hρ : ∀ x c, ρ x = some c → VR μ F w (ev x) c) (hH : HR μ F σ w) (h : iop P c (.store t x y) ρ σ nb = some r) (hp : r.pre) :
    ∃ w', (Instr.storeAt t (ev x) (ev y)).run P w = .ok () w' ∧ r.v = .tup [] ∧ HR μ F (upd σ r.w) w' ∧ Ext μ F w μ F w' := by
  simp only [iop] at h
  cases ht : hasP P t with
  | false => rw [ht] at h; cases h
  | true =>
    rw [ht] at h
    simp only [cond_true] at h
    split at h
    · rename_i b tot i o v ex ey
      split at h
      · rename_i s rs hb
        cases hc : (Nat.beq v.cells.length (sizeP P t) && v.cells.all IV.one) with
        | false => rw [hc] at h; cases h
        | true =>
          rw [hc] at h
          simp only [Bool.and_eq_true, Nat.beq_eq] at hc
          obtain ⟨hsz, hone⟩ := hc
          simp only [cond_true, Option.some.injEq] at h; subst h
          obtain ⟨htot, hi, hl⟩ := hp
          obtain ⟨it, d, hit, hd, hs, hszr, hagg⟩ := hasP_spec ht
          obtain ⟨g, off, cs, T, hv, hub, hszb, hlen, hpl, hg, hcp1, hcp2, hrow, hcs⟩ := ptr_row hH hb (hρ x _ ex) htot hi
          obtain ⟨⟨hcl, hcv⟩, h1⟩ := VR.cells (hρ y _ ey) hone
          have hrl := hrow i _ (getD_eq hi)
          have hsz' : (ev y).cells.toList.length = sizeP P t := by omega
          have hsz2 : (ev y).cells.size = it.size := by rw [← hs, ← hsz']; simp
          -- the real row is long enough
          have hbound : off + i * s + s ≤ cs.size := by
            have hpos : 0 < s := (hH.obj b _ hb).2.1
            obtain ⟨u, u1, _⟩ := hcs i _ (s - 1) _ (getD_eq hi) (List.getElem?_eq_getElem (by omega))
            have := (Array.getElem?_eq_some_iff.1 u1).1
            omega
          have hst := run_storeCells_at (P := P) g (off + i * s + o) T (ev y).cells.toList 0 cs w hg (by omega) h1
          simp only [Nat.add_zero] at hst
          refine ⟨w.setRow g (splice (off + i * s + o) (ev y).cells.toList cs.toList).toArray, ?_, rfl, ?_⟩
          · rw [hv]
            simp [Instr.storeAt, Instr.sureAddr, storeVar, hszr, hsz2]
            exact hst
          · have hle := Mu.le_refl μ
            have hw : ∀ k, k < w.heap.size → (μ.u b → ∀ off, μ.pl b ≠ .at_ k off) → (w.setRow g (splice (off + i * s + o) (ev y).cells.toList cs.toList).toArray).heap[k]? = w.heap[k]? := fun k _ hk => by
              apply setRow_other
              intro e; subst e; exact hk hub off hpl
            have hf := hH.frozen_same hw
            refine hH.change hle (fun _ _ => ⟨rfl, rfl, rfl, rfl, Iff.rfl⟩) hw (fun g' off' hu e => ⟨.inr ⟨hu, off', e⟩, ?_⟩) (by simp) rfl rfl rfl (hH.notIt hb (by intro h; cases h)) ?_
            · rw [size_setRow]; exact hH.lt b g' off' hu e
            · obtain ⟨_, hpos, _, _, _, _⟩ := hH.obj b _ hb
              refine ⟨hub, hpos, hszb, by simpa using hlen, fun k row hk => ?_, .inr ⟨g, off, _, T, hpl, setRow_heap w g cs _ T (0, 0) hg, by simpa using hcp1, by have := length_splice (off + i * s + o) (ev y).cells.toList cs.toList (by simp at *; omega); simp at this ⊢; omega, fun k row j c' e1 e2 => ?_⟩⟩
              · rw [List.getElem?_set] at hk
                split at hk
                · rename_i e; subst e
                  try rw [if_pos hi] at hk
                  cases hk
                  rw [length_splice _ _ _ (by omega)]; exact hrl
                · exact hrow k row hk
              · have hcslen : off + i * s + o + (ev y).cells.toList.length ≤ cs.toList.length := by simp at *; omega
                simp only [List.getElem?_toArray]
                rw [getElem?_splice _ _ _ hcslen]
                rw [List.getElem?_set] at e1
                by_cases e : i = k
                · subst e
                  rw [if_pos rfl, if_pos hi] at e1
                  cases e1
                  rw [getElem?_splice _ _ _ (by omega)] at e2
                  by_cases hj : o ≤ j ∧ j < o + v.cells.length
                  · rw [if_pos hj] at e2
                    rw [if_pos ⟨by omega, by omega⟩]
                    have hlt : j - o < (ev y).cells.toList.length := by omega
                    have e3 : off + i * s + j - (off + i * s + o) = j - o := by omega
                    rw [e3]
                    exact ⟨_, List.getElem?_eq_getElem hlt, (hcv _ _ _ (List.getElem?_eq_getElem hlt) e2).mono hle (fun _ h => h) hf⟩
                  · rw [if_neg hj] at e2
                    rw [if_neg (by omega)]
                    obtain ⟨u, u1, u2⟩ := hcs i _ j c' (getD_eq hi) e2
                    exact ⟨u, by simpa using u1, u2.mono hle (fun _ h => h) hf⟩
                · rw [if_neg e] at e1
                  have hj : j < s := by
                    have := hrow k row e1
                    have := (List.getElem?_eq_some_iff.1 e2).1
                    omega
                  have hnot : ¬ (off + i * s + o ≤ off + k * s + j ∧ off + k * s + j < off + i * s + o + (ev y).cells.toList.length) := by
                    intro hh
                    have h3 : off + k * s + j - (off + i * s) < s := by omega
                    have := place_ne (s := s) (i := k) (i' := i) (j := j) (j' := off + k * s + j - (off + i * s)) hj h3 (by omega)
                    exact e this.1.symm
                  rw [if_neg hnot]
                  obtain ⟨u, u1, u2⟩ := hcs k row j c' e1 e2
                  exact ⟨u, by simpa using u1, u2.mono hle (fun _ h => h) hf⟩
      · cases h
    · cases h

/-- A new block of one row. -/
theorem HR.newRow1 (hH : HR μ F σ w) {nb : Nat} {T : TypeId} {cs : Array Value} {z : List IV} (hnb : ¬ μ.u nb) (hz : 0 < z.length) (hv : VRs μ F w cs.toList z) :
    ∃ μ', VR μ' F (w.alloc (.cells cs T)) (.pointer (some ⟨w.heap.size, 0, none⟩)) (.ptr nb 1 0 0) ∧ HR μ' F (hput σ nb (.rows z.length [z])) (w.alloc (.cells cs T)) ∧ Ext μ F w μ' F (w.alloc (.cells cs T)) := by
  obtain ⟨h1, h2⟩ := hH.newRows (T := T) (cs := cs) (rs := [z]) (c := 1) hnb hz (fun i row e => by cases i with | zero => (simp at e; subst e; rfl) | succ i => simp at e) (by simp) (by have := hv.1; simp at this; omega) (fun i row j c e1 e2 => by
    cases i with
    | zero =>
      simp at e1; subst e1
      have hj : j < cs.toList.length := by rw [hv.1]; exact (List.getElem?_eq_some_iff.1 e2).1
      exact ⟨cs.toList[j], by simp, hv.2 j _ c (List.getElem?_eq_getElem hj) e2⟩
    | succ i => simp at e1)
  exact ⟨_, .ptr _ nb 1 0 0 rfl (show _ ∨ _ from .inl rfl) (by simp [Mu.add]) (fun _ => by simp [Mu.add, PtrOK]), h1, h2⟩

theorem alloc_goes {t : TypeId} {nb : Nat} {r : Out} {c : Bool} (hH : HR μ F σ w) (hnb : ¬ μ.u nb) (h : iop P c (.alloc t) ρ σ nb = some r) :
    ∃ z w' μ', (Instr.alloc t true (.tuple #[])).run P w = .ok z w' ∧ VR μ' F w' z r.v ∧ HR μ' F (upd σ r.w) w' ∧ Ext μ F w μ' F w' := by
  simp only [iop] at h
  split at h
  · rename_i z hz
    cases hc : Nat.blt 0 z.length with
    | false => rw [hc] at h; cases h
    | true =>
      rw [hc] at h
      simp only [cond_true, Option.some.injEq] at h; subst h
      rw [Nat.blt_eq] at hc
      obtain ⟨i, v, hi, hzv, hvs, _⟩ := zeroP_spec (μ := μ) (F := F) (w := w) hz
      obtain ⟨μ', v1, v2, v3⟩ := hH.newRow1 (T := t) hnb hc hvs
      exact ⟨_, _, μ', by simp [Instr.alloc, zeroValue, typeInfo, hi, hzv, newVar, newRow], v1, v2, v3⟩
  · cases h
end
end Go.Idl
