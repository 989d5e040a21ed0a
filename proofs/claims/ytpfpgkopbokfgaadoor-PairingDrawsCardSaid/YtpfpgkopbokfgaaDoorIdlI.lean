/-
  All operations together.
-/
import Derived.Test.YtpfpgkopbokfgaaDoorIdlR
namespace Go.Idl
set_option linter.all false
open Go.RowKit
section
variable {P : Program} {μ : Mu} {F : Fz} {w : World} {σ : Heap} {ev : Operand → Value} {ρ : Operand → Option IV}

theorem len_goes {ts : List TypeId} {ty : TypeId} {args : List IV} {vs : List Value} {nb : Nat} {r : Out} (hH : HR μ F σ w) (hv : VRs μ F w vs args) (h : ibuiltin P .len ts args σ nb = some r) (hp : r.pre) :
    ∃ z, (Builtin.len_ ts.toArray ty vs.toArray).run P w = .ok z w ∧ VR μ F w z r.v ∧ r.w = none := by
  have one : ∀ {a : IV}, args = [a] → ∃ v, vs = [v] ∧ VR μ F w v a := fun {a} e => by
    subst e
    have hl := hv.1
    match vs, hl with
    | [v], _ => exact ⟨v, rfl, hv.2 0 v a rfl rfl⟩
  unfold ibuiltin at h
  split at h <;> (try (rename_i hb; simp at hb; done)) <;> (try cases h)
  · rename_i t s rows _
    obtain ⟨v, rfl, hva⟩ := one rfl
    split at h
    · rename_i e hu
      simp only [ok, Option.some.injEq] at h; subst h
      cases hva with
      | fz g off _ _ cap us hF hrow hcell hvr hcap => exact ⟨_, by simp [Builtin.len_, run_underlying hu, goInt], .int _ _, rfl⟩
      | fz0 a cap _ => exact ⟨_, by simp [Builtin.len_, run_underlying hu, goInt], .int _ _, rfl⟩
    · cases h
  · rename_i t b tot i len cap _
    obtain ⟨v, rfl, hva⟩ := one rfl
    split at h
    · rename_i e s rs hu hb
      simp only [okIf, Option.some.injEq] at h; subst h
      obtain ⟨hub, _, hszb, hml, hrow, hcs⟩ := hH.obj b _ hb
      cases hva with
      | sl _ _ _ _ _ _ hk' hb' ht' hsl =>
        have htot : tot = rs.length := hp
        have hsl := hsl (by omega)
        have : ∃ a c, v = .slice a len c := by
          rcases hcs with ⟨hpl, he0⟩ | ⟨g, off, cs, T, hpl, _⟩
          · rw [hpl] at hsl; obtain ⟨rfl, rfl⟩ := hsl; exact ⟨_, _, rfl⟩
          · rw [hpl] at hsl; obtain ⟨a, c', rfl, _⟩ := hsl; exact ⟨_, _, rfl⟩
        obtain ⟨a, c, rfl⟩ := this
        exact ⟨_, by simp [Builtin.len_, run_underlying hu, goInt], .int _ _, rfl⟩
    · cases h
  · rename_i t _
    obtain ⟨v, rfl, hva⟩ := one rfl
    split at h
    · rename_i e hu
      simp only [ok, Option.some.injEq] at h; subst h
      cases hva
      exact ⟨_, by simp [Builtin.len_, run_underlying hu, goInt], .int _ _, rfl⟩
    · cases h
  · rename_i t b _
    obtain ⟨v, rfl, hva⟩ := one rfl
    split at h
    · rename_i k e es hu hb
      simp only [ok, Option.some.injEq] at h; subst h
      obtain ⟨hub, hz, g, es', cl, hpl, hg, hes, _⟩ := hH.obj b _ hb
      cases hva with
      | map _ _ hk hb' hm hl =>
        rw [hpl] at hm
        simp only [MapOK] at hm
        subst hm
        have hsz : es'.size = es.length := by have := hes.1; simpa using this
        exact ⟨.int .i64 es.length, by simp [Builtin.len_, run_underlying hu, goInt, getObj, Sem.run, hg, hsz], .int _ _, rfl⟩
    · cases h
  · rename_i t cs _
    obtain ⟨v, rfl, hva⟩ := one rfl
    split at h
    · rename_i n e hu
      simp only [ok, Option.some.injEq] at h; subst h
      cases hva with
      | agg vs _ hl h => exact ⟨_, by simp [Builtin.len_, run_underlying hu, goInt], .int _ _, rfl⟩
    · cases h

theorem opsnd_args {l : Array Operand} {cs : List IV} (hρ : ∀ x c, ρ x = some c → VR μ F w (ev x) c) (h : opsnd ρ l.toList = some cs) : VRs μ F w (l.map ev).toList cs := by
  have := opsnd_vrs hρ _ _ h
  simpa using this

/-- **THE OPERATIONS.** -/
theorem iop_goes {o : Oper} {op : Op} {x : Bool} {nb : Nat} {r : Out} (ho : o.op = op) (hρ : ∀ x c, ρ x = some c → VR μ F w (ev x) c) (hH : HR μ F σ w) (hnb : ¬ μ.u nb) (h : iop P x op ρ σ nb = some r) (hp : r.pre) :
    Goes μ F w σ r ((execOp ev o).run P w) := by
  have val : ∀ {s : Sem Value}, (∃ z, s.run P w = .ok z w ∧ VR μ F w z r.v ∧ r.w = none) → (execOp ev o).run P w = (do pure (Next.value (← s)) : Sem Next).run P w → Goes μ F w σ r ((execOp ev o).run P w) :=
    fun {s} ⟨z, h1, h2, h3⟩ e => Goes.pure hH (by rw [e, Sem.run_bind, h1]; rfl) h2 h3
  have val' : ∀ {s : Sem Value}, (∃ z w' μ', s.run P w = .ok z w' ∧ VR μ' F w' z r.v ∧ HR μ' F (upd σ r.w) w' ∧ Ext μ F w μ' F w') → (execOp ev o).run P w = (do pure (Next.value (← s)) : Sem Next).run P w → Goes μ F w σ r ((execOp ev o).run P w) :=
    fun {s} ⟨z, w', μ', h1, h2, h3, h4⟩ e => ⟨z, w', μ', .inl (by rw [e, Sem.run_bind, h1]; rfl), h2, h3, h4⟩
  cases op with
  | move y =>
    simp only [iop, Option.bind_eq_some_iff] at h
    obtain ⟨c, hc, h⟩ := h
    simp only [ok, Option.some.injEq] at h; subst h
    exact Goes.pure hH (by simp [execOp, ho]) (hρ y c hc) rfl
  | assign y =>
    simp only [iop, Option.bind_eq_some_iff] at h
    obtain ⟨c, hc, h⟩ := h
    simp only [ok, Option.some.injEq] at h; subst h
    exact Goes.pure hH (by simp [execOp, ho]) (hρ y c hc) rfl
  | binOp op t y z ty =>
    simp only [iop] at h
    split at h
    · rename_i a b ha hb
      exact val (bin_run (x := y) (y := z) (hρ y _ ha) (hρ z _ hb) h hp) (by simp [execOp, ho])
    · cases h
  | unOp op t y =>
    simp only [iop, Option.bind_eq_some_iff] at h
    obtain ⟨c, hc, h⟩ := h
    exact val (un_run (hρ y _ hc) h) (by simp [execOp, ho])
  | pick c y z =>
    simp only [iop] at h
    split at h
    · rename_i b p q hb hp' hq
      simp only [ok, Option.some.injEq] at h; subst h
      have h1 := hρ c _ hb
      have h2 := hρ y _ hp'
      have h3 := hρ z _ hq
      refine Goes.pure hH (u := .bool (bif b then p else q)) ?_ (.bool _) rfl
      generalize e1 : ev c = v1 at *
      generalize e2 : ev y = v2 at *
      generalize e3 : ev z = v3 at *
      cases h1; cases h2; cases h3
      cases b <;> simp [execOp, ho, e1, e2, e3, asBool]
    · cases h
  | convert src dst y =>
    simp only [iop] at h
    split at h
    · rename_i k n d k' hy hs hd
      simp only [ok, Option.some.injEq] at h; subst h
      have h1 := hρ y _ hy
      refine val ⟨.int k' (k'.wrap n), ?_, .int _ _, rfl⟩ (s := convert src dst (ev y)) (by simp [execOp, ho])
      generalize ev y = v1 at *
      cases h1
      simp [convert, run_underlying hs, run_underlying hd, Conv.intToInt]
    · cases h
  | extract y i =>
    simp only [iop] at h
    split at h
    · rename_i vs hy
      simp only [Option.bind_eq_some_iff] at h
      obtain ⟨v, hv, h⟩ := h
      simp only [ok, Option.some.injEq] at h; subst h
      have h1 := hρ y _ hy
      refine val (s := Instr.extract (ev y) i) ?_ (by simp [execOp, ho])
      generalize ev y = v1 at *
      cases h1 with
      | tup us _ hl hv' =>
        have hi := (List.getElem?_eq_some_iff.1 hv).1
        have hi' : i < us.length := by omega
        exact ⟨us[i], by simp [Instr.extract, hi'], hv' i _ _ (List.getElem?_eq_getElem hi') hv, rfl⟩
    · cases h
  | nilCheck y =>
    simp only [iop] at h
    split at h
    · rename_i b tot i o' hy
      split at h
      · rename_i s rs hb
        simp only [okIf, Option.some.injEq] at h; subst h
        obtain ⟨htot, hi⟩ := hp
        obtain ⟨g, off, cs, T, hv, _⟩ := ptr_row hH hb (hρ y _ hy) htot hi
        exact Goes.pure hH (u := ev y) (by simp [execOp, ho, hv]) (hρ y _ hy) rfl
      · cases h
    · rename_i s rows i o' hy
      simp only [ok, Option.some.injEq] at h; subst h
      have h1 := hρ y _ hy
      refine Goes.pure hH (u := ev y) ?_ h1 rfl
      generalize hv : ev y = v1 at *
      cases h1
      simp [execOp, ho, hv]
    · cases h
  | makeFunc fn first captured =>
    simp only [iop] at h
    split at h
    · rename_i a b ha hb
      simp only [ok, Option.some.injEq] at h; subst h
      have h1 := opsnd_args hρ ha
      have h2 := opsnd_args hρ hb
      refine Goes.pure hH (u := .func fn (first.map ev) (captured.map ev)) (by simp [execOp, ho, Instr.makeFunc]) ?_ rfl
      have := VR.func (μ := μ) (F := F) (w := w) fn _ _ a b h1.1 h2.1 h1.2 h2.2
      simpa only [Array.toArray_toList] using this
    · cases h
  | field t y f =>
    simp only [iop] at h
    split at h
    · rename_i cs fs hy hu
      split at h
      · rename_i fd hf
        cases hc : (hasP P fd.type && Nat.ble (fd.offset + sizeP P fd.type) cs.length && (aggP P fd.type || Nat.beq (sizeP P fd.type) 1)) with
        | false => rw [hc] at h; cases h
        | true =>
          rw [hc] at h
          simp only [Bool.and_eq_true, Nat.ble_eq, Bool.or_eq_true, Nat.beq_eq] at hc
          simp only [cond_true, ok, Option.some.injEq] at h; subst h
          have h1 := hρ y _ hy
          refine val (s := Instr.field t (ev y) f) ?_ (by simp [execOp, ho])
          generalize ev y = v1 at *
          cases h1 with
          | agg us _ hl hv' =>
            obtain ⟨z, z1, z2⟩ := part_run (P := P) ⟨hl, hv'⟩ hc.1.1 hc.1.2 hc.2
            have hf' : fs[f]? = some fd := by simpa using hf
            exact ⟨z, by simp [Instr.field, run_underlying hu, hf', asAgg, z1], z2, rfl⟩
      · cases h
    · cases h
  | fieldAddr t y f => exact val (field_goes hρ hH h hp) (by simp [execOp, ho])
  | indexAddr t y z => exact val (index_goes hρ hH h hp) (by simp [execOp, ho])
  | index t y z =>
    simp only [iop] at h
    split at h
    · rename_i len e cs k n hu hy hz
      cases hc : (hasP P e && Nat.beq cs.length (len * sizeP P e) && (aggP P e || Nat.beq (sizeP P e) 1)) with
      | false => rw [hc] at h; cases h
      | true =>
        rw [hc] at h
        simp only [Bool.and_eq_true, Bool.or_eq_true, Nat.beq_eq] at hc
        simp only [cond_true, okIf, Option.some.injEq] at h; subst h
        obtain ⟨h0, h1'⟩ := hp
        have h1 := hρ y _ hy
        have h2 := hρ z _ hz
        refine val (s := Instr.index t (ev y) (ev z)) ?_ (by simp [execOp, ho])
        generalize ev y = v1 at *
        generalize ev z = v2 at *
        cases h2
        cases h1 with
        | agg us _ hl hv' =>
          obtain ⟨ie, _, _, _, hs, hszr, _⟩ := hasP_spec hc.1.1
          have hb : n.toNat * sizeP P e + sizeP P e ≤ cs.length := by
            rw [hc.1.2]
            have : (n.toNat + 1) * sizeP P e ≤ len * sizeP P e := Nat.mul_le_mul_right _ (by omega)
            rwa [Nat.add_mul, Nat.one_mul] at this
          obtain ⟨z, z1, z2⟩ := part_run (P := P) ⟨hl, hv'⟩ hc.1.1 hb hc.2
          rw [hs] at z1
          exact ⟨z, by simp [Instr.index, asIntOf, run_underlying hu, h0, h1', hszr, z1], z2, rfl⟩
    · cases h
  | load t y => exact val (load_goes hρ hH h hp) (by simp [execOp, ho])
  | store t y z =>
    obtain ⟨w', h1, h2, h3, h4⟩ := store_goes hρ hH h hp
    exact ⟨undef, w', μ, .inr ⟨by simp [execOp, ho, h1], rfl⟩, by rw [h2]; exact vr_undef, h3, h4⟩
  | lookup t y z cok => exact val (lookup_goes hρ hH h hp) (by simp [execOp, ho])
  | mapUpdate t m y z =>
    obtain ⟨w', h1, h2, h3, h4⟩ := mapUpdate_goes hρ hH h hp
    exact ⟨undef, w', μ, .inr ⟨by simp [execOp, ho, h1], rfl⟩, by rw [h2]; exact vr_undef, h3, h4⟩
  | insert t m y z =>
    obtain ⟨w', h1, h2, h3, h4⟩ := mapUpdate_goes (t := t) (m := m) (k := y) (x := z) (nb := nb) (c := x) hρ hH h hp
    exact ⟨undef, w', μ, .inr ⟨by simp [execOp, ho, h1], rfl⟩, by rw [h2]; exact vr_undef, h3, h4⟩
  | alloc t => exact val' (alloc_goes hH hnb h) (by simp [execOp, ho])
  | box t y =>
    simp only [iop] at h
    split at h
    · rename_i v hy
      cases hc : (v.cells.all IV.one && Nat.blt 0 v.cells.length) with
      | false => rw [hc] at h; cases h
      | true =>
        rw [hc] at h
        simp only [Bool.and_eq_true, Nat.blt_eq] at hc
        simp only [cond_true, Option.some.injEq] at h; subst h
        obtain ⟨hvs, _⟩ := VR.cells (hρ y _ hy) hc.1
        obtain ⟨μ', v1, v2, v3⟩ := hH.newRow1 (T := t) hnb hc.2 hvs
        exact val' (s := Instr.box t (ev y)) ⟨_, _, μ', by simp [Instr.box, newVar, newRow], v1, v2, v3⟩ (by simp [execOp, ho])
    · cases h
  | build t parts => exact val (build_goes hρ h) (by simp [execOp, ho])
  | buildSlice t len parts => exact val' (buildSlice_goes hρ hH hnb h) (by simp [execOp, ho])
  | makeSlice t y z => exact val' (makeSlice_goes hρ hH hnb h hp) (by simp [execOp, ho])
  | makeMap t rsv =>
    cases rsv with
    | some y => simp [iop] at h
    | none =>
      simp only [iop, Option.some.injEq] at h; subst h
      have hle : μ.le (μ.add nb 0 0 0 (.at_ w.heap.size 0)) := Mu.le_add hnb
      have hw : ∀ g, g < w.heap.size → (μ.u nb → ∀ off, μ.pl nb ≠ .at_ g off) → (w.alloc (.map #[] 0)).heap[g]? = w.heap[g]? := fun g hg _ => Below.heap_alloc _ _ _ hg
      have hch := hH.change (b := nb) (o' := .map []) hle (fun x e => Mu.add_other x e) hw (fun g off _ e => by simp [Mu.add] at e; obtain ⟨rfl, rfl⟩ := e; simp) (by simp) rfl rfl rfl (hH.notItN hnb)
        ⟨.inl rfl, by simp [Mu.add], w.heap.size, #[], 0, by simp [Mu.add], heap_alloc_new _ _, ⟨rfl, by simp⟩, by simp, by simp⟩
      exact val' (s := Instr.makeMap t none) ⟨.map (some w.heap.size), _, _, by simp [Instr.makeMap], .map _ nb rfl (show _ ∨ _ from .inl rfl) (by simp [Mu.add, MapOK]) (by simp [Mu.add]), hch.1, hch.2⟩ (by simp [execOp, ho])
  | slice t y lo hi mx =>
    cases mx with
    | some _ => simp [iop] at h
    | none => exact val (slice_goes hρ hH h hp) (by simp [execOp, ho])
  | call c =>
    simp only [iop] at h
    split at h
    · rename_i b args hcal hargs
      have hvs := opsnd_args hρ hargs
      have hex : ∀ (bt : Builtin) (s : Sem Value), b = bt → (∀ (c1 : Array Bool), builtin bt c.argTypes o.type c1 (c.args.map ev) = (do pure (Next.value (← s)))) → (execOp ev o).run P w = (do pure (Next.value (← s)) : Sem Next).run P w := fun bt s hb hs => by
        subst hb
        simp only [execOp, ho, resolve, hcal, Sem.run_bind, Sem.run_pure, Result.andThen_ok, invoke]
        rw [hs]
        simp
      cases b with
      | len =>
        obtain ⟨z, z1, z2, z3⟩ := len_goes (P := P) (ty := o.type) hH hvs h hp
        exact val (s := Builtin.len_ c.argTypes o.type (c.args.map ev)) ⟨z, by simpa only [Array.toArray_toList] using z1, z2, z3⟩ (hex .len _ rfl fun _ => rfl)
      | append =>
        have hsh : ∃ t tx d y, c.argTypes.toList = [t, tx] ∧ args = [d, y] := by
          revert h
          generalize c.argTypes.toList = ts
          intro h
          rcases ts with _ | ⟨t, _ | ⟨tx, _ | _⟩⟩ <;> rcases args with _ | ⟨d, _ | ⟨y, _ | _⟩⟩ <;> first | exact ⟨_, _, _, _, rfl, rfl⟩ | (simp [ibuiltin] at h)
        obtain ⟨t, tx, d, y, hts, rfl⟩ := hsh
        rw [hts] at h
        obtain ⟨hl, hv⟩ := hvs
        obtain ⟨vd, vy, hargsv⟩ : ∃ vd vy, (c.args.map ev).toList = [vd, vy] := by
          generalize (c.args.map ev).toList = l at hl
          rcases l with _ | ⟨a, _ | ⟨b, _ | _⟩⟩ <;> simp at hl
          exact ⟨_, _, rfl⟩
        obtain ⟨z, w', μ', z1, z2, z3, z4⟩ := append_goes (P := P) (ty := o.type) hH hnb (hv 0 vd d (by rw [hargsv]; rfl) rfl) (hv 1 vy y (by rw [hargsv]; rfl) rfl) h hp
        have e1 : c.args.map ev = #[vd, vy] := Array.ext' hargsv
        have e2 : c.argTypes = #[t, tx] := Array.ext' hts
        exact val' (s := Builtin.append_ c.argTypes o.type (c.args.map ev)) ⟨z, w', μ', by rw [e1, e2]; exact z1, z2, z3, z4⟩ (hex .append _ rfl fun _ => rfl)
      | min =>
        rcases args with _ | ⟨a, l⟩
        · simp [ibuiltin] at h
        · simp only [ibuiltin] at h
          split at h
          · rename_i v hm
            simp only [ok, Option.some.injEq] at h; subst h
            obtain ⟨hl, hv⟩ := hvs
            obtain ⟨u, us, hargsv⟩ : ∃ u us, (c.args.map ev).toList = u :: us := by
              generalize (c.args.map ev).toList = l' at hl
              rcases l' with _ | ⟨a, l'⟩
              · simp at hl
              · exact ⟨_, _, rfl⟩
            obtain ⟨z, z1, z2⟩ := minmax_run (P := P) false l us a u v (hv 0 u a (by rw [hargsv]; rfl) rfl) ⟨by rw [hargsv] at hl; simpa using hl, fun j v' c' e1 e2 => hv (j + 1) v' c' (by rw [hargsv]; simpa using e1) (by simpa using e2)⟩ hm
            exact val (s := Builtin.min_ c.argTypes o.type (c.args.map ev)) ⟨z, by simp only [Builtin.min_, hargsv]; exact z1, z2, rfl⟩ (hex .min _ rfl fun _ => rfl)
          · cases h
      | max =>
        rcases args with _ | ⟨a, l⟩
        · simp [ibuiltin] at h
        · simp only [ibuiltin] at h
          split at h
          · rename_i v hm
            simp only [ok, Option.some.injEq] at h; subst h
            obtain ⟨hl, hv⟩ := hvs
            obtain ⟨u, us, hargsv⟩ : ∃ u us, (c.args.map ev).toList = u :: us := by
              generalize (c.args.map ev).toList = l' at hl
              rcases l' with _ | ⟨a, l'⟩
              · simp at hl
              · exact ⟨_, _, rfl⟩
            obtain ⟨z, z1, z2⟩ := minmax_run (P := P) true l us a u v (hv 0 u a (by rw [hargsv]; rfl) rfl) ⟨by rw [hargsv] at hl; simpa using hl, fun j v' c' e1 e2 => hv (j + 1) v' c' (by rw [hargsv]; simpa using e1) (by simpa using e2)⟩ hm
            exact val (s := Builtin.max_ c.argTypes o.type (c.args.map ev)) ⟨z, by simp only [Builtin.max_, hargsv]; exact z1, z2, rfl⟩ (hex .max _ rfl fun _ => rfl)
          · cases h
      | _ => simp [ibuiltin] at h
    · cases h
  | _ => simp [iop] at h
end
end Go.Idl
