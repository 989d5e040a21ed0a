/-
  Each operation of the model does what its ideal does: memory.
-/
import Derived.Test.YtpfpgkopbokfgaaDoorIdlC
namespace Go.Idl
set_option linter.all false
open Go.RowKit
section
variable {P : Program} {μ : Mu} {F : Fz} {w : World} {σ : Heap} {ev : Operand → Value} {ρ : Operand → Option IV}

theorem getD_eq {rows : List (List IV)} {i : Nat} (h : i < rows.length) : rows[i]? = some (rows.getD i []) := by
  simp [List.getD, h]

/-- What a frozen pointer points at. -/
theorem fptr_row {v : Value} {s i o : Nat} {rows : List (List IV)} (h : VR μ F w v (.fptr s rows i o)) (hi : i < rows.length) :
    ∃ (g off : Nat) (us : Nat → Value), v = .pointer (some ⟨g, off + i * s + o, none⟩) ∧ (rows.getD i []).length = s ∧ (∀ j, j < s → w.cell? ⟨g, off + i * s + j, none⟩ = some (us j)) ∧ ∀ (j : Nat) (c : IV), (rows.getD i [])[j]? = some c → VR μ F w (us j) c := by
  cases h with
  | fptr g off _ _ _ _ us hF hrow hcell hv =>
    have := getD_eq hi
    exact ⟨g, off, us i, rfl, hrow i _ this, fun j hj => hcell i _ j this hj, fun j c e => hv i _ j c this e⟩

/-- What a pointer to a block of the call's own points at. -/
theorem ptr_row {v : Value} {b tot i o s : Nat} {rs : List (List IV)} (hH : HR μ F σ w) (hb : σ[b]? = some (.rows s rs)) (h : VR μ F w v (.ptr b tot i o)) (ht : tot = rs.length) (hi : i < rs.length) :
    ∃ g off cs T, v = .pointer (some ⟨g, off + i * s + o, none⟩) ∧ μ.u b ∧ μ.sz b = s ∧ μ.len b = rs.length ∧ μ.pl b = .at_ g off ∧ w.heap[g]? = some (.cells cs T (0, 0)) ∧ rs.length ≤ μ.cp b ∧ off + μ.cp b * s ≤ cs.size ∧
      (∀ (i : Nat) (row : List IV), rs[i]? = some row → row.length = s) ∧ (∀ (i : Nat) (row : List IV) (j : Nat) (c : IV), rs[i]? = some row → row[j]? = some c → ∃ v, cs[off + i * s + j]? = some v ∧ VR μ F w v c) := by
  obtain ⟨hu, hs, hsz, hlen, hrow, hcs⟩ := hH.obj b _ hb
  cases h with
  | ptr _ _ _ _ _ hk hb' ht' h =>
    rcases hcs with ⟨_, h0⟩ | ⟨g, off, cs, T, hpl, hg, hcp1, hcp2, hc⟩
    · subst h0; simp at hi
    · have := h (by omega)
      rw [hpl] at this
      simp only [PtrOK] at this
      rw [hsz] at this
      exact ⟨g, off, cs, T, this, hu, hsz, hlen, hpl, hg, hcp1, hcp2, hrow, hc⟩

theorem load_run {t : TypeId} {row : List IV} {g p : Nat} {o : Nat} {us : Nat → Value} {s : Nat} (ht : hasP P t = true) (h1 : aggP P t = true ∨ sizeP P t = 1) (hrow : row.length = s) (hl : o + sizeP P t ≤ s)
    (hc : ∀ j, j < s → w.cell? ⟨g, p + j, none⟩ = some (us j)) (hv : ∀ (j : Nat) (c : IV), row[j]? = some c → VR μ F w (us j) c) :
    ∃ z, (Instr.loadAt t (.pointer (some ⟨g, p + o, none⟩))).run P w = .ok z w ∧ VR μ F w z (loadAt (aggP P t) (sizeP P t) row o) := by
  obtain ⟨i, d, hi, hd, hs, hsz, hagg⟩ := hasP_spec ht
  cases ha : aggP P t with
  | true =>
    refine ⟨.agg ((List.range (sizeP P t)).map fun j => us (o + j)).toArray, ?_, ?_⟩
    · have := run_loadCells (P := P) w ⟨g, p + o, none⟩ (sizeP P t) (fun j => us (o + j)) (fun j hj => by rw [Addr.add_lit, Nat.add_assoc]; exact hc _ (by omega))
      rw [hs] at this
      simp [Instr.loadAt, Instr.sureAddr, loadVar, hagg, ha, hsz, this, hs]
    · simp only [loadAt, cond_true, cut]
      refine .agg _ _ (by simp; omega) fun j v c e1 e2 => ?_
      rw [List.getElem?_take] at e2
      split at e2
      · rename_i hj
        rw [List.getElem?_drop] at e2
        simp [hj] at e1
        subst e1
        exact hv _ c e2
      · cases e2
  | false =>
    have hsz1 : sizeP P t = 1 := by rcases h1 with h | h; rw [ha] at h; cases h; exact h
    have ho : o < row.length := by omega
    refine ⟨us o, ?_, ?_⟩
    · simp [Instr.loadAt, Instr.sureAddr, loadVar, hagg, ha, hc o (by omega)]
    · simp only [loadAt, cond_false]
      exact hv o _ (by simp [List.getD, ho])

theorem load_goes {t : TypeId} {x : Operand} {nb : Nat} {r : Out} {c : Bool} (hρ : ∀ x c, ρ x = some c → VR μ F w (ev x) c) (hH : HR μ F σ w) (h : iop P c (.load t x) ρ σ nb = some r) (hp : r.pre) :
    ∃ z, (Instr.loadAt t (ev x)).run P w = .ok z w ∧ VR μ F w z r.v ∧ r.w = none := by
  simp only [iop] at h
  cases hc : (hasP P t && (aggP P t || Nat.beq (sizeP P t) 1)) with
  | false => rw [hc] at h; cases h
  | true =>
    rw [hc] at h
    simp only [Bool.and_eq_true, Bool.or_eq_true, Nat.beq_eq] at hc
    obtain ⟨ht, h1⟩ := hc
    simp only [cond_true] at h
    split at h
    · rename_i s rows i o e
      simp only [okIf, Option.some.injEq] at h; subst h
      obtain ⟨hi, hl⟩ := hp
      obtain ⟨g, off, us, hv, hrow, hcell, hvr⟩ := fptr_row (hρ x _ e) hi
      rw [hv]
      obtain ⟨z, z1, z2⟩ := load_run (us := us) ht h1 hrow hl hcell hvr
      exact ⟨z, z1, z2, rfl⟩
    · rename_i b tot i o e
      split at h
      · rename_i s rs hb
        simp only [okIf, Option.some.injEq] at h; subst h
        obtain ⟨htot, hi, hl⟩ := hp
        obtain ⟨g, off, cs, T, hv, hu, hsz, hlen, hpl, hg, hcp1, hcp2, hrow, hcs⟩ := ptr_row hH hb (hρ x _ e) htot hi
        rw [hv]
        have hrl := hrow i _ (getD_eq hi)
        obtain ⟨z, z1, z2⟩ := load_run (P := P) (μ := μ) (F := F) (w := w) (us := fun j => cs.getD (off + i * s + j) undef) (g := g) (p := off + i * s) ht h1 hrl hl (fun j hj => by
            have hj' : j < (rs.getD i []).length := by omega
            obtain ⟨v, v1, _⟩ := hcs i _ j _ (getD_eq hi) (List.getElem?_eq_getElem hj')
            rw [cell_of_row w g _ cs T (0, 0) hg, v1]
            simp [v1])
          (fun j c e => by
            obtain ⟨v, v1, v2⟩ := hcs i _ j c (getD_eq hi) e
            simpa [v1] using v2)
        exact ⟨z, z1, z2, rfl⟩
      · cases h
    · cases h

theorem field_goes {t : TypeId} {x : Operand} {f : Nat} {nb : Nat} {r : Out} {c : Bool} (hρ : ∀ x c, ρ x = some c → VR μ F w (ev x) c) (hH : HR μ F σ w) (h : iop P c (.fieldAddr t x f) ρ σ nb = some r) (hp : r.pre) :
    ∃ z, (Instr.fieldAt t (ev x) f).run P w = .ok z w ∧ VR μ F w z r.v ∧ r.w = none := by
  simp only [iop] at h
  split at h
  · rename_i s rows i o fs e hu
    split at h
    · rename_i fd hf
      cases hc : (hasP P fd.type && Nat.blt 0 (sizeP P fd.type)) with
      | false => rw [hc] at h; cases h
      | true =>
        rw [hc] at h
        simp only [Bool.and_eq_true, Nat.blt_eq] at hc
        obtain ⟨ht, hpos⟩ := hc
        simp only [cond_true, ok, Option.some.injEq] at h; subst h
        obtain ⟨it, d, hi, hd, hs, hsz, hagg⟩ := hasP_spec ht
        have hv := hρ x _ e
        generalize ev x = v at *
        cases hv with
        | fptr g off _ _ _ _ us hF hrow hcell hvr =>
          refine ⟨.pointer (some ⟨g, off + i * s + (o + fd.offset), none⟩), ?_, .fptr g off s rows i (o + fd.offset) us hF hrow hcell hvr, rfl⟩
          have hne : ¬ it.size = 0 := by omega
          have hf' : fs[f]? = some fd := by simpa using hf
          simp [Instr.fieldAt, run_underlying hu, hf', Instr.sureAddr, fieldPlace, hsz, hne, Addr.add_lit, Nat.add_assoc]
    · cases h
  · rename_i b tot i o fs e hu
    split at h
    · rename_i fd s rs hf hb
      cases hc : (hasP P fd.type && Nat.blt 0 (sizeP P fd.type)) with
      | false => rw [hc] at h; cases h
      | true =>
        rw [hc] at h
        simp only [Bool.and_eq_true, Nat.blt_eq] at hc
        obtain ⟨ht, hpos⟩ := hc
        simp only [cond_true, okIf, Option.some.injEq] at h; subst h
        obtain ⟨htot, hi'⟩ := hp
        obtain ⟨it, d, hi, hd, hs, hsz, hagg⟩ := hasP_spec ht
        obtain ⟨g, off, cs, T, hv, hub, hszb, hlen, hpl, hg, hcp1, hcp2, hrow, hcs⟩ := ptr_row hH hb (hρ x _ e) htot hi'
        rw [hv]
        refine ⟨.pointer (some ⟨g, off + i * s + (o + fd.offset), none⟩), ?_, .ptr _ b tot i (o + fd.offset) rfl hub (by omega) (fun _ => by rw [hpl]; simp [PtrOK, hszb]), rfl⟩
        have hne : ¬ it.size = 0 := by omega
        have hf' : fs[f]? = some fd := by simpa using hf
        simp [Instr.fieldAt, run_underlying hu, hf', Instr.sureAddr, fieldPlace, hsz, hne, Addr.add_lit, Nat.add_assoc]
    · cases h
  · cases h

theorem index_goes {t : TypeId} {x y : Operand} {nb : Nat} {r : Out} {c : Bool} (hρ : ∀ x c, ρ x = some c → VR μ F w (ev x) c) (hH : HR μ F σ w) (h : iop P c (.indexAddr t x y) ρ σ nb = some r) (hp : r.pre) :
    ∃ z, (Instr.indexAt t (ev x) (ev y)).run P w = .ok z w ∧ VR μ F w z r.v ∧ r.w = none := by
  simp only [iop] at h
  split at h
  · rename_i e s rows k n hu ex ey
    cases hc : (hasP P e && Nat.beq (sizeP P e) s) with
    | false => rw [hc] at h; cases h
    | true =>
      rw [hc] at h
      simp only [Bool.and_eq_true, Nat.beq_eq] at hc
      obtain ⟨ht, hse⟩ := hc
      simp only [cond_true, okIf, Option.some.injEq] at h; subst h
      obtain ⟨h0, h1⟩ := hp
      obtain ⟨it, d, hi, hd, hs, hsz, hagg⟩ := hasP_spec ht
      have hx := hρ x _ ex
      have hy := hρ y _ ey
      generalize ev x = v at *
      generalize ev y = u at *
      cases hy
      cases hx with
      | fz g off _ _ cap us hF hrow hcell hvr hcap =>
        refine ⟨.pointer (some ⟨g, off + n.toNat * s + 0, none⟩), ?_, .fptr g off s rows n.toNat 0 us hF hrow hcell hvr, rfl⟩
        have e2 : it.size = s := by omega
        simp [Instr.indexAt, run_underlying hu, asIntOf, h0, h1, hsz, Addr.add_lit, e2]
      | fz0 a cap _ => simp at h1; omega
  · rename_i e b tot j len cap k n hu ex ey
    cases ht : hasP P e with
    | false => rw [ht] at h; cases h
    | true =>
      rw [ht] at h
      simp only [cond_true] at h
      split at h
      · rename_i s rs hb
        cases hse : Nat.beq (sizeP P e) s with
        | false => rw [hse] at h; cases h
        | true =>
          rw [hse] at h
          rw [Nat.beq_eq] at hse
          simp only [cond_true, okIf, Option.some.injEq] at h; subst h
          obtain ⟨h0, h1, htot, hjl⟩ := hp
          obtain ⟨it, d, hi, hd, hs, hsz, hagg⟩ := hasP_spec ht
          obtain ⟨hub, hpos, hszb, hlen, hrow, hcs⟩ := hH.obj b _ hb
          have hx := hρ x _ ex
          have hy := hρ y _ ey
          generalize ev x = v at *
          generalize ev y = u at *
          cases hy
          cases hx with
          | sl _ _ _ _ _ _ hk hb' ht' hsl =>
            have hsl := hsl (by omega)
            rcases hcs with ⟨_, he⟩ | ⟨g, off, cs, T, hpl, hg, hcp1, hcp2, hc⟩
            · subst he; simp at hjl; omega
            · rw [hpl] at hsl
              obtain ⟨a, c', rfl, hle, _, ha, _⟩ := hsl
              have ha : a = some ⟨g, off + j * s, none⟩ := by
                rcases ha with h | h
                · omega
                · rw [hszb] at h; exact h
              subst ha
              refine ⟨.pointer (some ⟨g, off + (j + n.toNat) * s + 0, none⟩), ?_, .ptr _ b tot (j + n.toNat) 0 rfl hub (by omega) (fun _ => by rw [hpl]; simp [PtrOK, hszb]), rfl⟩
              have e2 : it.size = s := by omega
              simp [Instr.indexAt, run_underlying hu, asIntOf, h0, h1, hsz, Addr.add_lit, e2, Nat.add_mul, Nat.add_assoc]
      · cases h
  · rename_i len e s rows j o k n hu ex ey
    cases ht : hasP P e with
    | false => rw [ht] at h; cases h
    | true =>
      rw [ht] at h
      simp only [cond_true, okIf, Option.some.injEq] at h; subst h
      obtain ⟨h0, h1⟩ := hp
      obtain ⟨it, d, hi, hd, hs, hsz, hagg⟩ := hasP_spec ht
      have hx := hρ x _ ex
      have hy := hρ y _ ey
      generalize ev x = v at *
      generalize ev y = u at *
      cases hy
      cases hx with
      | fptr g off _ _ _ _ us hF hrow hcell hvr =>
        refine ⟨.pointer (some ⟨g, off + j * s + (o + n.toNat * sizeP P e), none⟩), ?_, .fptr g off s rows j _ us hF hrow hcell hvr, rfl⟩
        simp [Instr.indexAt, run_underlying hu, asIntOf, h0, h1, Instr.sureAddr, hsz, Addr.add_lit, hs, Nat.add_assoc]
  · rename_i len e b tot j o k n hu ex ey
    split at h
    · rename_i s rs hb
      cases ht : hasP P e with
      | false => rw [ht] at h; cases h
      | true =>
        rw [ht] at h
        simp only [cond_true, okIf, Option.some.injEq] at h; subst h
        obtain ⟨h0, h1, htot, hj⟩ := hp
        obtain ⟨it, d, hi, hd, hs, hsz, hagg⟩ := hasP_spec ht
        obtain ⟨g, off, cs, T, hv, hub, hszb, hlen, hpl, hg, hcp1, hcp2, hrow, hcs⟩ := ptr_row hH hb (hρ x _ ex) htot hj
        have hy := hρ y _ ey
        rw [hv]
        generalize ev y = u at *
        cases hy
        refine ⟨.pointer (some ⟨g, off + j * s + (o + n.toNat * sizeP P e), none⟩), ?_, .ptr _ b tot j _ rfl hub (by omega) (fun _ => by rw [hpl]; simp [PtrOK, hszb]), rfl⟩
        simp [Instr.indexAt, run_underlying hu, asIntOf, h0, h1, Instr.sureAddr, hsz, Addr.add_lit, hs, Nat.add_assoc]
    · cases h
  · cases h
end
end Go.Idl
