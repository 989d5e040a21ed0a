/-
  Maps: looking up, writing.
-/
import Derived.Test.YtpfpgkopbokfgaaDoorIdlH
namespace Go.Idl
set_option linter.all false
open Go.RowKit

section
variable {P : Program} {μ : Mu} {F : Fz} {w : World} {σ : Heap}

theorem bytes_beq {a b : ByteArray} : (a == b) = true ↔ a = b := by
  cases a with
  | mk x => cases b with
    | mk y =>
      show (x == y) = true ↔ _
      simp

theorem kindsOK_ceqs : ∀ {ks : List TypeDesc} {cs ds : List IV}, kindsOK ks cs = true → kindsOK ks ds = true → ∃ b, ceqs cs ds = some b
  | [], [], [], _, _ => ⟨true, rfl⟩
  | [], c :: cs, _, h, _ => by simp [kindsOK] at h
  | [], [], d :: ds, _, h => by simp [kindsOK] at h
  | k :: ks, [], _, h, _ => by cases k <;> simp [kindsOK] at h
  | k :: ks, c :: cs, [], _, h => by cases k <;> simp [kindsOK] at h
  | k :: ks, c :: cs, d :: ds, h1, h2 => by
    cases k <;> cases c <;> simp only [kindsOK, Bool.and_eq_true, reduceCtorEq, beq_iff_eq] at h1 <;> cases d <;> simp only [kindsOK, Bool.and_eq_true, reduceCtorEq, beq_iff_eq] at h2
    · obtain ⟨b, hb⟩ := kindsOK_ceqs h1 h2; exact ⟨_, by simp only [ceqs, ceq, hb]; rfl⟩
    · obtain ⟨b, hb⟩ := kindsOK_ceqs h1.2 h2.2
      obtain ⟨rfl, _⟩ := h1
      obtain ⟨rfl, _⟩ := h2
      exact ⟨_, by simp only [ceqs, ceq, hb, BEq.rfl, cond_true]; rfl⟩
    · obtain ⟨b, hb⟩ := kindsOK_ceqs h1 h2; exact ⟨_, by simp only [ceqs, ceq, hb]; rfl⟩

theorem ceqs_true : ∀ {cs ds : List IV}, ceqs cs ds = some true → cs = ds
  | [], [], _ => rfl
  | [], _ :: _, h => by simp [ceqs] at h
  | _ :: _, [], h => by simp [ceqs] at h
  | c :: cs, d :: ds, h => by
    simp only [ceqs] at h
    cases h1 : ceq c d with
    | none => rw [h1] at h; cases h
    | some x =>
      rw [h1] at h
      cases h2 : ceqs cs ds with
      | none => rw [h2] at h; cases h
      | some y =>
        rw [h2] at h
        simp only [Option.some.injEq, Bool.and_eq_true] at h
        obtain ⟨rfl, rfl⟩ := h
        rw [ceqs_true h2]
        congr 1
        cases c <;> cases d <;> simp only [ceq, reduceCtorEq, Option.some.injEq, beq_iff_eq] at h1
        · rw [h1]
        · rename_i k a k' b
          cases hk : (k == k') with
          | false => rw [hk] at h1; cases h1
          | true =>
            rw [hk] at h1
            simp only [cond_true, Option.some.injEq, beq_iff_eq] at h1
            have : k = k' := by simpa using hk
            rw [this, h1]
        · rw [bytes_beq.1 h1]

/-- Flat cells tell their values. -/
theorem flat_vals {ks : List TypeDesc} {cs : List IV} {us vs : List Value} (hk : kindsOK ks cs = true) (h1 : VRs μ F w us cs) (h2 : VRs μ F w vs cs) : us = vs := by
  induction ks generalizing cs us vs with
  | nil =>
    have := kindsOK_length hk
    have e1 : us = [] := List.eq_nil_of_length_eq_zero (by rw [h1.1]; simpa using this)
    have e2 : vs = [] := List.eq_nil_of_length_eq_zero (by rw [h2.1]; simpa using this)
    rw [e1, e2]
  | cons k ks ih =>
    cases cs with
    | nil => cases k <;> simp [kindsOK] at hk
    | cons c cs =>
      cases us with
      | nil => have := h1.1; simp at this
      | cons u us =>
        cases vs with
        | nil => have := h2.1; simp at this
        | cons v vs =>
          have hu := h1.2 0 u c rfl rfl
          have hv := h2.2 0 v c rfl rfl
          have hk2 : kindsOK ks cs = true := by cases k <;> cases c <;> simp_all [kindsOK]
          have tu : VRs μ F w us cs := ⟨by simpa using h1.1, fun j v c e1 e2 => h1.2 (j + 1) v c (by simpa using e1) (by simpa using e2)⟩
          have tv : VRs μ F w vs cs := ⟨by simpa using h2.1, fun j v c e1 e2 => h2.2 (j + 1) v c (by simpa using e1) (by simpa using e2)⟩
          rw [ih hk2 tu tv]
          congr 1
          cases k <;> cases c <;> simp only [kindsOK, reduceCtorEq] at hk <;> cases hu <;> cases hv <;> rfl

theorem sameBits_flat {d : Nat} {ks : List TypeDesc} : ∀ {cs : List IV} {us : List Value}, kindsOK ks cs = true → VRs μ F w us cs → (us.zip us).all (fun p => Instr.sameBits (d + 1) p.1 p.2) = true := by
  induction ks with
  | nil =>
    intro cs us hk h1
    have := kindsOK_length hk
    have e1 : us = [] := List.eq_nil_of_length_eq_zero (by rw [h1.1]; simpa using this)
    rw [e1]; rfl
  | cons k ks ih =>
    intro cs us hk h1
    cases cs with
    | nil => cases k <;> simp [kindsOK] at hk
    | cons c cs =>
      cases us with
      | nil => have := h1.1; simp at this
      | cons u us =>
        have hu := h1.2 0 u c rfl rfl
        have hk2 : kindsOK ks cs = true := by cases k <;> cases c <;> simp_all [kindsOK]
        have tu : VRs μ F w us cs := ⟨by simpa using h1.1, fun j v c e1 e2 => h1.2 (j + 1) v c (by simpa using e1) (by simpa using e2)⟩
        simp only [List.zip_cons_cons, List.all_cons, ih hk2 tu, Bool.and_true]
        cases k <;> cases c <;> simp only [kindsOK, reduceCtorEq] at hk <;> cases hu <;> simp [Instr.sameBits, bytes_beq]

theorem key_shape {t : TypeId} {ks : List TypeDesc} {k : IV} (h : keyOK P t ks k = true) (hl : aggP P t = true ∨ ks.length = 1) : k = mkV (aggP P t) k.cells ∧ kindsOK ks k.cells = true := by
  simp only [keyOK, Bool.and_eq_true, beq_iff_eq] at h
  refine ⟨?_, h.2⟩
  cases k <;> simp only [IV.isAgg] at h <;> simp [mkV, IV.cells, ← h.1]

theorem keyK_len {t : TypeId} {ks : List TypeDesc} (h : keyK P t = some ks) : aggP P t = true ∨ ks.length = 1 := by
  unfold keyK at h
  split at h
  · cases h; exact .inr rfl
  · cases h; exact .inr rfl
  · cases h; exact .inr rfl
  · unfold flatP at h
    split at h
    · rename_i hc; exact .inl hc.1
    · cases h

theorem keyK_flat {t : TypeId} {ks : List TypeDesc} (h : keyK P t = some ks) : flatK P 8 t = some ks := by
  unfold keyK at h
  split at h
  · rename_i hu; cases h; simp [flatK, hu]
  · rename_i hu; cases h; simp [flatK, hu]
  · rename_i hu; cases h; simp [flatK, hu]
  · unfold flatP at h
    split at h
    · exact h
    · cases h

theorem equal_key {t : TypeId} {ks : List TypeDesc} {k k' : IV} {u u' : Value} (hk : keyK P t = some ks) (h1 : keyOK P t ks k = true) (h2 : keyOK P t ks k' = true) (v1 : VR μ F w u k) (v2 : VR μ F w u' k') : (Op.equal t u u').run P w = .ok (keq k k') w := by
  obtain ⟨e1, f1⟩ := key_shape h1 (keyK_len hk)
  obtain ⟨e2, f2⟩ := key_shape h2 (keyK_len hk)
  obtain ⟨b, hb⟩ := kindsOK_ceqs f1 f2
  have : keq k k' = b := by simp [keq, hb]
  rw [this]
  exact flat_eq (μ := μ) (F := F) (w := w) 8 9992 t ks (keyK_flat hk) _ _ u u' b f1 f2 (by rw [← e1]; exact v1) (by rw [← e2]; exact v2) hb

/-- The place of the first entry with a key. -/
def mix (k : IV) : List (IV × IV) → Nat → Option Nat
  | [], _ => none
  | (k', _) :: l, i => if keq k k' = true then some i else mix k l (i + 1)

theorem ask_run {t : TypeId} {ks : List TypeDesc} {k : IV} {u : Value} (hk : keyK P t = some ks) (h1 : keyOK P t ks k = true) (v1 : VR μ F w u k) : ∀ (es' : List MapEntry) (es : List (IV × IV)) (i : Nat), EntsR μ F w es' es → (∀ e ∈ es, keyOK P t ks e.1 = true) →
    ∃ r, (Instr.findAsking t u es' i).run P w = .ok r w ∧ ((mix k es i = none ∧ r = none ∧ mget k es = none) ∨ ∃ j v c, mix k es i = some (i + j) ∧ j < es.length ∧ r = some (i + j, v) ∧ mget k es = some c ∧ VR μ F w v c ∧ ∃ e, es'[j]? = some e ∧ e.val = v ∧ VR μ F w e.key k)
  | [], [], i, _, _ => ⟨none, by simp [Instr.findAsking], .inl ⟨rfl, rfl, rfl⟩⟩
  | [], _ :: _, i, h, _ => by have := h.1; simp at this
  | _ :: _, [], i, h, _ => by have := h.1; simp at this
  | e :: es', (k', c) :: es, i, h, ho => by
    obtain ⟨vk, vv⟩ := h.2 0 e (k', c) rfl rfl
    have h2 := ho (k', c) (by simp)
    have heq := equal_key hk h1 h2 v1 vk
    have ht : EntsR μ F w es' es := ⟨by simpa using h.1, fun j e p e1 e2 => h.2 (j + 1) e p (by simpa using e1) (by simpa using e2)⟩
    cases hq : keq k k' with
    | true =>
      rw [hq] at heq
      refine ⟨some (i, e.val), by simp [Instr.findAsking, heq], .inr ⟨0, e.val, c, by simp [mix, hq], by simp, by simp, by simp [mget, hq], vv, e, rfl, rfl, ?_⟩⟩
      have : k.cells = k'.cells := by
        unfold keq at hq
        split at hq
        · rename_i b hb; subst hq; exact ceqs_true hb
        · cases hq
      have e1 := (key_shape h1 (keyK_len hk)).1
      have e2 := (key_shape h2 (keyK_len hk)).1
      rw [e1, this, ← e2]; exact vk
    | false =>
      rw [hq] at heq
      obtain ⟨r, hr, hcase⟩ := ask_run hk h1 v1 es' es (i + 1) ht fun x hx => ho x (by simp [hx])
      refine ⟨r, by simp [Instr.findAsking, heq, hr], ?_⟩
      rcases hcase with ⟨m1, m2, m3⟩ | ⟨j, v, c', m1, m2, m3, m4, m5, m6⟩
      · exact .inl ⟨by simp [mix, hq, m1], m2, by simp [mget, hq, m3]⟩
      · exact .inr ⟨j + 1, v, c', by simp [mix, hq, m1]; omega, by simp; omega, by rw [m3]; congr 2; omega, by simp [mget, hq, m4], m5, by simpa using m6⟩

theorem equalIn_str (d : Nat) {t : TypeId} (hd : P.underlying t = some .string) (a b : ByteArray) : (Op.equalIn (d + 1) t (.string a) (.string b)).run P w = .ok (a == b) w := by
  simp only [Op.equalIn, Sem.run_bind, run_underlying hd, Result.andThen_ok, Sem.run_pure]

/-- For keys of one cell, what is seen at once is what is asked. -/
theorem now_ask {t : TypeId} {d : TypeDesc} {u : Value} (hd : P.underlying t = some d) : ∀ (es' : List MapEntry) (i : Nat) (r : Option (Nat × Value)), Instr.findNow d u es' i = some r → (Instr.findAsking t u es' i).run P w = .ok r w
  | [], i, r, h => by simp [Instr.findNow] at h; subst h; simp [Instr.findAsking]
  | e :: es', i, r, h => by
    simp only [Instr.findNow] at h
    have one : ∀ b, Instr.sameNow d u e.key = some b → (Op.equal t u e.key).run P w = .ok b w := fun b hb => by
      generalize e.key = kk at *
      unfold Instr.sameNow at hb
      split at hb
      · split at hb
        · rename_i hk; subst hk; cases hb
          exact run_equalIn_int w 9999 t _ _ _ _ hd
        · cases hb
      · cases hb
        exact equalIn_str 9999 hd _ _
      · cases hb
        exact run_equalIn_bool w 9999 t _ _ hd
      · cases hb
    split at h
    · rename_i hs; cases h; simp [Instr.findAsking, one _ hs]
    · rename_i hs; simp [Instr.findAsking, one _ hs, now_ask hd es' (i + 1) r h]
    · cases h

theorem find_run {t : TypeId} {ks : List TypeDesc} {k : IV} {u : Value} (hk : keyK P t = some ks) (h1 : keyOK P t ks k = true) (v1 : VR μ F w u k) (es' : List MapEntry) (es : List (IV × IV)) (h : EntsR μ F w es' es) (ho : ∀ e ∈ es, keyOK P t ks e.1 = true) :
    ∃ r, (Instr.findKey t u es').run P w = .ok r w ∧ ((mix k es 0 = none ∧ r = none ∧ mget k es = none) ∨ ∃ j v c, mix k es 0 = some j ∧ j < es.length ∧ r = some (j, v) ∧ mget k es = some c ∧ VR μ F w v c ∧ ∃ e, es'[j]? = some e ∧ e.val = v ∧ VR μ F w e.key k) := by
  obtain ⟨r, hr, hc⟩ := ask_run hk h1 v1 es' es 0 h ho
  have hu : ∃ d, P.underlying t = some d := by
    cases hu : P.underlying t with
    | none => simp [keyK, hu, flatP, aggP] at hk
    | some d => exact ⟨d, rfl⟩
  obtain ⟨d, hd⟩ := hu
  refine ⟨r, ?_, by simpa using hc⟩
  unfold Instr.findKey
  simp only [Sem.run_bind, run_underlying hd, Result.andThen_ok]
  cases hn : Instr.findNow d u es' 0 with
  | none => exact hr
  | some r' =>
    have := now_ask (w := w) hd es' 0 r' hn
    rw [hr] at this
    cases this
    rfl

/-! ### keys that can be hashed -/
def CheckOK (P : Program) (μ : Mu) (F : Fz) (w : World) (em : Bool) (d : Nat) (t : TypeId) (ks : List TypeDesc) : Prop :=
  ∀ (cs : List IV) (u : Value), kindsOK ks cs = true → VR μ F w u (mkV (aggP P t) cs) → (Instr.checkKey em d t u).run P w = .ok () w

theorem check_part {em : Bool} {d : Nat} {t : TypeId} {ks : List TypeDesc} {us : List Value} {cs : List IV} {o : Nat} (hE : CheckOK P μ F w em d t ks) (hu : VRs μ F w us cs) (ht : hasP P t = true) (hsz : sizeP P t = ks.length)
    (h1 : aggP P t = true ∨ sizeP P t = 1) (hc : kindsOK ks ((cs.drop o).take ks.length) = true) (ho : o + ks.length ≤ cs.length) :
    ∃ a, (part t us.toArray o).run P w = .ok a w ∧ (Instr.checkKey em d t a).run P w = .ok () w := by
  obtain ⟨a, a1, a2⟩ := part_run (o := o) hu ht (by omega) h1
  have key : loadAt (aggP P t) (sizeP P t) cs o = mkV (aggP P t) ((cs.drop o).take ks.length) := by
    unfold loadAt mkV
    cases ha : aggP P t with
    | true => simp [cut, hsz]
    | false =>
      have : ks.length = 1 := by rw [ha] at h1; simpa [hsz] using h1
      rw [this]
      simp [List.getD]
  exact ⟨a, a1, hE _ a hc (by rw [← key]; exact a2)⟩

theorem check_flat (em : Bool) : ∀ (k m : Nat) (t : TypeId) (ks : List TypeDesc), flatK P k t = some ks → CheckOK P μ F w em (m + k) t ks
  | 0, _, _, _, h => by simp [flatK] at h
  | k + 1, m, t, ks, h => by
    intro cs u hc hu
    have lc := kindsOK_length hc
    unfold flatK at h
    cases hk : P.underlying t with
    | none => rw [hk] at h; cases h
    | some td =>
      rw [hk] at h
      cases td <;> simp only [Option.some.injEq, reduceCtorEq] at h
      case bool =>
        show (Instr.checkKey em (m + k + 1) t u).run P w = _
        simp only [Instr.checkKey, Sem.run_bind, run_underlying hk, Result.andThen_ok, Sem.run_pure]
      case int q =>
        show (Instr.checkKey em (m + k + 1) t u).run P w = _
        simp only [Instr.checkKey, Sem.run_bind, run_underlying hk, Result.andThen_ok, Sem.run_pure]
      case string =>
        show (Instr.checkKey em (m + k + 1) t u).run P w = _
        simp only [Instr.checkKey, Sem.run_bind, run_underlying hk, Result.andThen_ok, Sem.run_pure]
      case struct fs =>
        split at h
        · cases h
        · have ha : aggP P t = true := by simp [aggP, hk]
          rw [ha] at hu
          simp only [mkV, cond_true] at hu
          cases hu with
          | agg us _ l1 h1 =>
            show (Instr.checkKey em (m + k + 1) t _).run P w = _
            rw [Instr.checkKey]
            simp only [Sem.run_bind, run_underlying hk, Result.andThen_ok]
            rw [← Array.forIn_toList]
            have H : ∀ (L : List Field) (off : Nat) (ls : List TypeDesc), flatFs P (flatK P k) L off = some ls → kindsOK ls (cs.drop off) = true → off ≤ cs.length →
                (forIn L PUnit.unit fun f _ => if f.name ≠ "_" then do { let x ← part f.type us.toArray f.offset; Instr.checkKey em (m + k) f.type x; pure (ForInStep.yield PUnit.unit) } else pure (ForInStep.yield PUnit.unit) : Sem PUnit).run P w = .ok () w := by
              intro L
              induction L with
              | nil => intro off ls _ _ _; simp
              | cons f L ih =>
                intro off ls hf hc' hoc
                simp only [flatFs] at hf
                cases e1 : flatK P k f.type with
                | none => rw [e1] at hf; cases hf
                | some l =>
                  rw [e1] at hf
                  simp only at hf
                  cases e2 : flatFs P (flatK P k) L (off + l.length) with
                  | none => rw [e2] at hf; cases hf
                  | some l' =>
                    rw [e2] at hf
                    simp only at hf
                    split at hf
                    · rename_i hcond
                      obtain ⟨hn, hoff, hsz⟩ := hcond
                      cases hf
                      obtain ⟨c1, c2⟩ := kindsOK_append hc'
                      have lc' := kindsOK_length hc'
                      simp only [List.length_append, List.length_drop] at lc'
                      obtain ⟨hhas, hone⟩ := flat_one e1 hsz
                      obtain ⟨a, a1, a2⟩ := check_part (o := off) (check_flat em k m f.type l e1) ⟨l1, h1⟩ hhas (sizeOK_spec hsz) hone c1 (by omega)
                      have := ih (off + l.length) l' e2 (by rw [← List.drop_drop]; exact c2) (by omega)
                      simp only [List.forIn_cons, Sem.run_bind]
                      rw [if_pos hn, hoff]
                      simp only [Sem.run_bind, a1, a2, Result.andThen_ok, Sem.run_pure]
                      exact this
                    · cases hf
            have hfin := H fs.toList 0 ks h (by simpa using hc) (Nat.zero_le _)
            simp at hfin
            simp [hfin]
      case array n e =>
        cases he : flatK P k e with
        | none => rw [he] at h; cases h
        | some l =>
          rw [he] at h
          simp only at h
          split at h
          · rename_i hs
            cases h
            have ha : aggP P t = true := by simp [aggP, hk]
            rw [ha] at hu
            simp only [mkV, cond_true] at hu
            obtain ⟨hhas, hone⟩ := flat_one he hs
            have hsz := sizeOK_spec hs
            cases hi : P.info? e with
            | none => simp [sizeOK, hi] at hs
            | some i =>
              have hcell : P.cellsOf e = l.length := by rw [← hsz]; simp [sizeP, Program.cellsOf, hi]
              cases hu with
              | agg us _ l1 h1 =>
                show (Instr.checkKey em (m + k + 1) t _).run P w = _
                rw [Instr.checkKey]
                simp only [Sem.run_bind, run_underlying hk, Result.andThen_ok]
                simp only [Std.Legacy.Range.forIn_eq_forIn_range', Std.Legacy.Range.size, Nat.sub_zero, Nat.add_one_sub_one, Nat.div_one]
                have H : ∀ (n j : Nat), kindsOK (List.replicate n l).flatten (cs.drop (j * l.length)) = true → j * l.length ≤ cs.length →
                    (forIn (List.range' j n) PUnit.unit fun i _ => do { let s ← sizeOf e; let x ← part e us.toArray (i * s); Instr.checkKey em (m + k) e x; pure (ForInStep.yield PUnit.unit) } : Sem PUnit).run P w = .ok () w := by
                  intro n
                  induction n with
                  | zero => intro j _ _; simp
                  | succ n ih =>
                    intro j hc' hoc
                    rw [List.replicate_succ, List.flatten_cons] at hc'
                    obtain ⟨c1, c2⟩ := kindsOK_append hc'
                    have lc' := kindsOK_length hc'
                    simp only [List.length_append, List.length_drop] at lc'
                    obtain ⟨a, a1, a2⟩ := check_part (o := j * l.length) (check_flat em k m e l he) ⟨l1, h1⟩ hhas hsz hone c1 (by omega)
                    have := ih (j + 1) (by rw [Nat.add_mul, Nat.one_mul, ← List.drop_drop]; exact c2) (by rw [Nat.add_mul]; omega)
                    rw [List.range'_succ]
                    simp only [List.forIn_cons, Sem.run_bind, run_sizeOf w hi, hcell, a1, a2, Result.andThen_ok, Sem.run_pure]
                    exact this
                have hfin := H n 0 (by simpa using hc) (by simp)
                simp at hfin
                simp [hfin]
          · cases h

theorem check_key (em : Bool) {t : TypeId} {ks : List TypeDesc} {k : IV} {u : Value} (hk : keyK P t = some ks) (h1 : keyOK P t ks k = true) (v1 : VR μ F w u k) : (Instr.checkKey em 10000 t u).run P w = .ok () w := by
  obtain ⟨e1, f1⟩ := key_shape h1 (keyK_len hk)
  exact check_flat (μ := μ) (F := F) (w := w) em 8 9992 t ks (keyK_flat hk) _ u f1 (by rw [← e1]; exact v1)

variable {ev : Operand → Value} {ρ : Operand → Option IV}

theorem getObj_run {g : Nat} {es : Array MapEntry} {cl : Nat} (h : w.heap[g]? = some (.map es cl)) : (getObj g).run P w = .ok (.map es cl) w := by simp [getObj, Sem.run, h]
theorem setObj_run {g : Nat} {es : Array MapEntry} {cl : Nat} {o' : Obj} (h : w.heap[g]? = some (.map es cl)) : (setObj g o').run P w = .ok () { w with heap := w.heap.setIfInBounds g o' } := by
  simp [setObj, Sem.run, h]

theorem zeroI_run {t : TypeId} {z : IV} (h : zeroI P t = some z) : ∃ v, (zeroValue t).run P w = .ok v w ∧ VR μ F w v z := by
  unfold zeroI at h
  cases hi : P.info? t with
  | none => rw [hi] at h; cases h
  | some i =>
    rw [hi] at h
    simp only [Option.bind_eq_some_iff] at h
    obtain ⟨v, hv, hz⟩ := h
    exact ⟨v, by simp [zeroValue, typeInfo, hi, hv], ofV_vr hz⟩

theorem map_obj {b : Nat} {es : List (IV × IV)} {v : Value} (hH : HR μ F σ w) (hb : σ[b]? = some (.map es)) (h : VR μ F w v (.map b)) : ∃ g es' cl, v = .map (some g) ∧ μ.u b ∧ μ.sz b = 0 ∧ μ.pl b = .at_ g 0 ∧ w.heap[g]? = some (.map es' cl) ∧ EntsR μ F w es'.toList es ∧ (es'.toList.map (·.born)).Nodup ∧ ∀ e ∈ es'.toList, e.born < cl := by
  obtain ⟨hu, hs, g, es', cl, hpl, hg, he, hn, hc⟩ := hH.obj b _ hb
  cases h with
  | map _ _ hk hb' h hl =>
    rw [hpl] at h
    exact ⟨g, es', cl, h, hu, hs, hpl, hg, he, hn, hc⟩

theorem lookup_goes {t : TypeId} {x k : Operand} {cok : Bool} {nb : Nat} {r : Out} {c : Bool} (hρ : ∀ x c, ρ x = some c → VR μ F w (ev x) c) (hH : HR μ F σ w) (h : iop P c (.lookup t x k cok) ρ σ nb = some r) (hp : r.pre) :
    ∃ z, (Instr.lookup t (ev x) (ev k) cok).run P w = .ok z w ∧ VR μ F w z r.v ∧ r.w = none := by
  simp only [iop] at h
  split at h
  · rename_i kt et m kv ht hm hk
    split at h
    · rename_i ks z es hks hz hes
      cases hko : keyOK P kt ks kv with
      | false => rw [hko] at h; cases h
      | true =>
        rw [hko] at h
        simp only [cond_true, Option.some.injEq] at h; subst h
        have hp : ∀ e ∈ es, keyOK P kt ks e.1 = true := hp
        have vk := hρ k _ hk
        have vm := hρ x _ hm
        obtain ⟨zv, z1, z2⟩ := zeroI_run (μ := μ) (F := F) (w := w) hz
        have main : ∀ (es' : Array MapEntry), EntsR μ F w es'.toList es → ∃ u, (do
            let (v, ok) ← match ← Instr.findKey kt (ev k) es'.toList with
              | some (_, v) => pure (v, true)
              | none => pure (← zeroValue et, false)
            pure (if cok then Value.tuple #[v, .bool ok] else v) : Sem Value).run P w = .ok u w ∧ VR μ F w u (found cok z (mget kv es)) := fun es' he => by
          obtain ⟨r, hr, hc⟩ := find_run hks hko vk es'.toList es he hp
          rcases hc with ⟨_, rfl, hg⟩ | ⟨j, v, c', _, _, rfl, hg, hv, _⟩
          · refine ⟨_, by simp [hr, z1]; rfl, ?_⟩
            rw [hg]
            cases cok with
            | true =>
              exact .tup [zv, .bool false] [z, .bool false] rfl fun j v c e1 e2 => by
                match j with
                | 0 => simp at e1 e2; subst e1; subst e2; exact z2
                | 1 => simp at e1 e2; subst e1; subst e2; exact .bool _
                | j + 2 => simp at e1
            | false => exact z2
          · refine ⟨_, by simp [hr]; rfl, ?_⟩
            rw [hg]
            cases cok with
            | true =>
              exact .tup [v, .bool true] [c', .bool true] rfl fun j v c e1 e2 => by
                match j with
                | 0 => simp at e1 e2; subst e1; subst e2; exact hv
                | 1 => simp at e1 e2; subst e1; subst e2; exact .bool _
                | j + 2 => simp at e1
            | false => exact hv
        cases m with
        | nilm =>
          simp only [mapOf, Option.some.injEq] at hes; subst hes
          obtain ⟨u, u1, u2⟩ := main #[] ⟨rfl, by simp⟩
          refine ⟨u, ?_, u2, rfl⟩
          generalize ev x = vx at *
          cases vm
          unfold Instr.lookup
          simp only [Sem.run_bind, run_underlying ht, Result.andThen_ok, Sem.run_pure]
          rw [check_key (μ := μ) (F := F) _ hks hko vk]
          simp only [Sem.run_bind, Result.andThen_ok, Sem.run_pure] at u1 ⊢
          exact u1
        | map b =>
          simp only [mapOf] at hes
          split at hes
          · rename_i es0 hb
            cases hes
            obtain ⟨g, es', cl, hv, hu, hs, hpl, hg, he, _, _⟩ := map_obj hH hb vm
            obtain ⟨u, u1, u2⟩ := main es' he
            refine ⟨u, ?_, u2, rfl⟩
            rw [hv]
            unfold Instr.lookup
            simp only [Sem.run_bind, run_underlying ht, Result.andThen_ok, Sem.run_pure, getObj_run hg]
            rw [check_key (μ := μ) (F := F) _ hks hko vk]
            simp only [Sem.run_bind, Result.andThen_ok, Sem.run_pure] at u1 ⊢
            exact u1
          · cases hes
        | _ => simp [mapOf] at hes
    · cases h
  · cases h

theorem ents_modify {k v : IV} {V : Value} (hv : VR μ F w V v) : ∀ (es' : List MapEntry) (es : List (IV × IV)) (i j : Nat) (e : MapEntry), EntsR μ F w es' es → mix k es i = some (i + j) → es'[j]? = some e → EntsR μ F w (es'.modify j fun x => { x with key := e.key, val := V }) (mset k v es)
  | [], [], i, j, e, _, h, _ => by simp [mix] at h
  | [], _ :: _, _, _, _, h, _, _ => by have := h.1; simp at this
  | _ :: _, [], _, _, _, h, _, _ => by have := h.1; simp at this
  | e0 :: es', (k', c) :: es, i, j, e, h, hm, he => by
    have ht : EntsR μ F w es' es := ⟨by simpa using h.1, fun j e p e1 e2 => h.2 (j + 1) e p (by simpa using e1) (by simpa using e2)⟩
    obtain ⟨vk, vv⟩ := h.2 0 e0 (k', c) rfl rfl
    simp only [mix] at hm
    cases hq : keq k k' with
    | true =>
      rw [hq] at hm
      simp only [if_true, Option.some.injEq] at hm
      have : j = 0 := by omega
      subst this
      simp at he; subst he
      simp only [mset, hq, if_true, List.modify_zero_cons]
      refine ⟨by simpa using h.1, fun j e p e1 e2 => ?_⟩
      cases j with
      | zero => simp at e1 e2; subst e1; subst e2; exact ⟨vk, hv⟩
      | succ j => exact ht.2 j e p (by simpa using e1) (by simpa using e2)
    | false =>
      rw [hq] at hm
      simp only [Bool.false_eq_true, if_false] at hm
      have hge : ∀ (es : List (IV × IV)) (i r : Nat), mix k es i = some r → i ≤ r := fun es => by
        induction es with
        | nil => intro i r h; simp [mix] at h
        | cons p es ih =>
          intro i r h
          obtain ⟨k', c⟩ := p
          simp only [mix] at h
          split at h
          · cases h; exact Nat.le_refl _
          · have := ih _ _ h; omega
      have := hge _ _ _ hm
      obtain ⟨j, rfl⟩ : ∃ j', j = j' + 1 := ⟨j - 1, by omega⟩
      have ih := ents_modify hv es' es (i + 1) j e ht (by rw [hm]; congr 1; omega) (by simpa using he)
      simp only [mset, hq, Bool.false_eq_true, if_false, List.modify_succ_cons]
      refine ⟨by simp [ih.1], fun j e p e1 e2 => ?_⟩
      cases j with
      | zero => simp at e1 e2; subst e1; subst e2; exact ⟨vk, vv⟩
      | succ j => exact ih.2 j e p (by simpa using e1) (by simpa using e2)

theorem ents_push {k v : IV} {K V : Value} {b : Nat} (hk : VR μ F w K k) (hv : VR μ F w V v) : ∀ (es' : List MapEntry) (es : List (IV × IV)) (i : Nat), EntsR μ F w es' es → mix k es i = none → EntsR μ F w (es' ++ [⟨K, V, b⟩]) (mset k v es)
  | [], [], i, _, _ => ⟨rfl, fun j e p e1 e2 => by
      cases j with
      | zero => simp [mset] at e1 e2; subst e1; subst e2; exact ⟨hk, hv⟩
      | succ j => simp at e1⟩
  | [], _ :: _, _, h, _ => by have := h.1; simp at this
  | _ :: _, [], _, h, _ => by have := h.1; simp at this
  | e0 :: es', (k', c) :: es, i, h, hm => by
    have ht : EntsR μ F w es' es := ⟨by simpa using h.1, fun j e p e1 e2 => h.2 (j + 1) e p (by simpa using e1) (by simpa using e2)⟩
    obtain ⟨vk, vv⟩ := h.2 0 e0 (k', c) rfl rfl
    simp only [mix] at hm
    cases hq : keq k k' with
    | true => rw [hq] at hm; simp at hm
    | false =>
      rw [hq] at hm
      simp only [Bool.false_eq_true, if_false] at hm
      have ih := ents_push (b := b) hk hv es' es (i + 1) ht hm
      simp only [mset, hq, Bool.false_eq_true, if_false, List.cons_append]
      refine ⟨by simp [ih.1], fun j e p e1 e2 => ?_⟩
      cases j with
      | zero => simp at e1 e2; subst e1; subst e2; exact ⟨vk, vv⟩
      | succ j => exact ih.2 j e p (by simpa using e1) (by simpa using e2)

theorem key_same {t : TypeId} {ks : List TypeDesc} {k : IV} {u u' : Value} (hk : keyK P t = some ks) (h1 : keyOK P t ks k = true) (v1 : VR μ F w u k) (v2 : VR μ F w u' k) : u = u' ∧ Instr.sameBits 10000 u u' = true := by
  obtain ⟨e1, f1⟩ := key_shape h1 (keyK_len hk)
  cases k <;> simp only [IV.cells] at f1
  case agg cs =>
    cases v1 with
    | agg us _ l1 h1 =>
      cases v2 with
      | agg vs _ l2 h2 =>
        have := flat_vals f1 ⟨l1, h1⟩ ⟨l2, h2⟩
        subst this
        refine ⟨rfl, ?_⟩
        have := sameBits_flat (d := 9998) f1 ⟨l1, h1⟩
        show (_ && _) = true
        simpa using this
  case bool => cases v1; cases v2; exact ⟨rfl, by simp [Instr.sameBits]⟩
  case int => cases v1; cases v2; exact ⟨rfl, by simp [Instr.sameBits]⟩
  case str => cases v1; cases v2; exact ⟨rfl, by simp [Instr.sameBits, bytes_beq]⟩
  all_goals (exfalso; cases ks with | nil => simp [kindsOK] at f1 | cons k0 ks => cases k0 <;> simp [kindsOK] at f1)

theorem mapUpdate_goes {t : TypeId} {m k x : Operand} {nb : Nat} {r : Out} {c : Bool} (hρ : ∀ x c, ρ x = some c → VR μ F w (ev x) c) (hH : HR μ F σ w) (h : iop P c (.mapUpdate t m k x) ρ σ nb = some r) (hp : r.pre) :
    ∃ w', (Instr.mapUpdate t (ev m) (ev k) (ev x)).run P w = .ok () w' ∧ r.v = .tup [] ∧ HR μ F (upd σ r.w) w' ∧ Ext μ F w μ F w' := by
  simp only [iop] at h
  split at h
  · rename_i kt et b kv vv ht hm hk hx
    split at h
    · rename_i ks es hks hb
      cases hko : keyOK P kt ks kv with
      | false => rw [hko] at h; cases h
      | true =>
        rw [hko] at h
        simp only [cond_true, Option.some.injEq] at h; subst h
        have hp : ∀ e ∈ es, keyOK P kt ks e.1 = true := hp
        have vk := hρ k _ hk
        have vx := hρ x _ hx
        obtain ⟨g, es', cl, hv, hu, hs, hpl, hg, he, hnd, hcl⟩ := map_obj hH hb (hρ m _ hm)
        have hlt := hH.lt b g 0 hu hpl
        -- the block that is written
        have fin : ∀ (es2 : Array MapEntry) (cl2 : Nat), EntsR μ F w es2.toList (mset kv vv es) → (es2.toList.map (·.born)).Nodup → (∀ e ∈ es2.toList, e.born < cl2) →
            HR μ F (hput σ b (.map (mset kv vv es))) { w with heap := w.heap.setIfInBounds g (.map es2 cl2) } ∧ Ext μ F w μ F { w with heap := w.heap.setIfInBounds g (.map es2 cl2) } := fun es2 cl2 q1 q2 q3 => by
          have hw : ∀ k, k < w.heap.size → (μ.u b → ∀ off, μ.pl b ≠ .at_ k off) → ({ w with heap := w.heap.setIfInBounds g (.map es2 cl2) } : World).heap[k]? = w.heap[k]? := fun k _ hk => by
            have : g ≠ k := fun e => by subst e; exact hk hu 0 hpl
            simp [Array.getElem?_setIfInBounds_ne this]
          have hf := hH.frozen_same hw
          refine hH.change (Mu.le_refl μ) (fun _ _ => ⟨rfl, rfl, rfl, rfl, Iff.rfl⟩) hw (fun g' off' hu' e => ⟨.inr ⟨hu', off', e⟩, ?_⟩) (by simp) rfl rfl rfl (hH.notIt hb (by intro h; cases h)) ?_
          · simpa using hH.lt b g' off' hu' e
          · exact ⟨hu, hs, g, es2, cl2, hpl, by simp [hlt], ⟨q1.1, fun j e p e1 e2 => let ⟨v1, v2⟩ := q1.2 j e p e1 e2; ⟨v1.mono (Mu.le_refl _) (fun _ h => h) hf, v2.mono (Mu.le_refl _) (fun _ h => h) hf⟩⟩, q2, q3⟩
        obtain ⟨r, hr, hc⟩ := find_run hks hko vk es'.toList es he hp
        rcases hc with ⟨m1, rfl, _⟩ | ⟨j, v, c', m1, m2, rfl, _, _, e, m3, _, m4⟩
        · obtain ⟨f1, f2⟩ := fin (es'.push ⟨ev k, ev x, cl⟩) (cl + 1) (by simpa using ents_push (b := cl) vk vx es'.toList es 0 he m1) (by
            simp only [Array.toList_push, List.map_append, List.map_cons, List.map_nil]
            rw [List.nodup_append]
            refine ⟨hnd, by simp, fun a ha b hb e => ?_⟩
            simp only [List.mem_singleton] at hb
            rw [List.mem_map] at ha
            obtain ⟨x, hx, rfl⟩ := ha
            have := hcl x hx
            omega) (fun e he => by
            simp only [Array.toList_push, List.mem_append, List.mem_singleton] at he
            rcases he with he | he
            · have := hcl e he; omega
            · subst he; simp)
          refine ⟨_, ?_, rfl, f1, f2⟩
          rw [hv]
          unfold Instr.mapUpdate
          simp only [Sem.run_bind, run_underlying ht, Result.andThen_ok, getObj_run hg]
          rw [check_key (μ := μ) (F := F) _ hks hko vk]
          simp only [Result.andThen_ok, hr]
          exact setObj_run hg
        · have hkey := key_same hks hko m4 vk
          have hmod : (es'.modify j fun y => { y with key := ev k, val := ev x }).toList = es'.toList.modify j fun y => { y with key := e.key, val := ev x } := by
            rw [hkey.1]; simp
          have hborn : ∀ (l : List MapEntry) (j : Nat), (l.modify j fun y => { y with key := e.key, val := ev x }).map (·.born) = l.map (·.born) := fun l => by
            induction l with
            | nil => intro j; simp
            | cons a l ih =>
              intro j
              cases j with
              | zero => simp
              | succ j => simp [ih j]
          obtain ⟨f1, f2⟩ := fin (es'.modify j fun y => { y with key := ev k, val := ev x }) cl (by rw [hmod]; exact ents_modify vx es'.toList es 0 j e he (by simpa using m1) m3) (by rw [hmod, hborn]; exact hnd) (fun a ha => by
            rw [hmod] at ha
            have : a.born ∈ (es'.toList.modify j fun y => { y with key := e.key, val := ev x }).map (·.born) := List.mem_map.2 ⟨a, ha, rfl⟩
            rw [hborn] at this
            obtain ⟨y, hy, hyb⟩ := List.mem_map.1 this
            rw [← hyb]; exact hcl y hy)
          refine ⟨_, ?_, rfl, f1, f2⟩
          rw [hv]
          unfold Instr.mapUpdate
          simp only [Sem.run_bind, run_underlying ht, Result.andThen_ok, getObj_run hg]
          rw [check_key (μ := μ) (F := F) _ hks hko vk]
          have hold : ((es'[j]?).map (·.key)).getD (ev k) = e.key := by
            have : es'[j]? = some e := by simpa using m3
            simp [this]
          simp only [Result.andThen_ok, hr, Sem.run_bind, hold, Instr.keyThatStays, hkey.2, if_true, Sem.run_pure]
          exact setObj_run hg
    · cases h
  · cases h
end
end Go.Idl
