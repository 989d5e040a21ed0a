import Derived.Test.YteedopeniojppaaGreatDoorIdlPartB
import Derived.Tactics
import Derived.TacticsIn
import Derived.RangeFuncRecord
import Derived.RangeFuncNested
import Derived.Maps.RangeRun
import Derived.Deep.LoopGhost
set_option linter.all false
namespace Go.Idl
open Go.RowKit
section
variable {P : Program} {μ : Mu} {F : Fz} {w : World} {σ : Heap} {ev : Operand → Value} {ρ : Operand → Option IV}
theorem cap_goes {ts : List TypeId} {ty : TypeId} {args : List IV} {vs : List Value} {nb : Nat} {r : Out} (hH : HR μ F σ w) (hv : VRs μ F w vs args) (h : ibuiltin P .cap ts args σ nb = some r) (hp : r.pre) :
  ∃ z, (Builtin.cap_ ts.toArray ty vs.toArray).run P w = .ok z w ∧ VR μ F w z r.v ∧ r.w = none := by
 have one : ∀ {a : IV}, args = [a] → ∃ v, vs = [v] ∧ VR μ F w v a := fun {a} e => by
  subst e
  have hl := hv.1
  match vs, hl with
  | [v], _ => exact ⟨v, rfl, hv.2 0 v a rfl rfl⟩
 unfold ibuiltin at h
 split at h <;> (try (rename_i hb; simp at hb; done)) <;> (try cases h)
 rename_i t b tot i len c _
 obtain ⟨v, rfl, hva⟩ := one rfl
 split at h
 ·rename_i e s rs hu hb
  simp only [okIf, Option.some.injEq] at h; subst h
  obtain ⟨hub, _, hszb, hml, hrow, hcs⟩ := hH.obj b _ hb
  cases hva with
  | sl _ _ _ _ _ _ hk' hb' ht' hsl =>
   obtain ⟨htot, hcr⟩ : tot = rs.length ∧ c ≤ rs.length := hp
   have hsl := hsl (by omega)
   have : ∃ a l, v = .slice a l c := by
    rcases hcs with ⟨hpl, he0⟩ | ⟨g, off, cs, T, hpl, _⟩
    ·rw [hpl] at hsl; obtain ⟨rfl, rfl⟩ := hsl
     subst he0
     have : c = 0 := by simpa using hcr
     subst this; exact ⟨_, _, rfl⟩
    ·rw [hpl] at hsl; obtain ⟨a, c', rfl, _, _, _, hc⟩ := hsl
     rw [hc c rfl]; exact ⟨_, _, rfl⟩
   obtain ⟨a, l, rfl⟩ := this
   exact ⟨_, by simp [Builtin.cap_, run_underlying hu, goInt], .int _ _, rfl⟩
 ·cases h
theorem len_goes {ts : List TypeId} {ty : TypeId} {args : List IV} {vs : List Value} {nb : Nat} {r : Out} (hH : HR μ F σ w) (hv : VRs μ F w vs args) (h : ibuiltin P .len ts args σ nb = some r) (hp : r.pre) :
  ∃ z, (Builtin.len_ ts.toArray ty vs.toArray).run P w = .ok z w ∧ VR μ F w z r.v ∧ r.w = none := by
 have one : ∀ {a : IV}, args = [a] → ∃ v, vs = [v] ∧ VR μ F w v a := fun {a} e => by
  subst e
  have hl := hv.1
  match vs, hl with
  | [v], _ => exact ⟨v, rfl, hv.2 0 v a rfl rfl⟩
 unfold ibuiltin at h
 split at h <;> (try (rename_i hb; simp at hb; done)) <;> (try cases h)
 ·rename_i t s rows _
  obtain ⟨v, rfl, hva⟩ := one rfl
  split at h
  ·rename_i e hu
   simp only [ok, Option.some.injEq] at h; subst h
   cases hva with
   | fz g off _ _ cap us hF hrow hcell hvr hcap => exact ⟨_, by simp [Builtin.len_, run_underlying hu, goInt], .int _ _, rfl⟩
   | fz0 a cap _ => exact ⟨_, by simp [Builtin.len_, run_underlying hu, goInt], .int _ _, rfl⟩
  ·cases h
 ·rename_i t b tot i len cap _
  obtain ⟨v, rfl, hva⟩ := one rfl
  split at h
  ·rename_i e s rs hu hb
   simp only [okIf, Option.some.injEq] at h; subst h
   obtain ⟨hub, _, hszb, hml, hrow, hcs⟩ := hH.obj b _ hb
   cases hva with
   | sl _ _ _ _ _ _ hk' hb' ht' hsl =>
    have htot : tot = rs.length := hp
    have hsl := hsl (by omega)
    have : ∃ a c, v = .slice a len c := by
     rcases hcs with ⟨hpl, he0⟩ | ⟨g, off, cs, T, hpl, _⟩
     ·rw [hpl] at hsl; obtain ⟨rfl, rfl⟩ := hsl; exact ⟨_, _, rfl⟩
     ·rw [hpl] at hsl; obtain ⟨a, c', rfl, _⟩ := hsl; exact ⟨_, _, rfl⟩
    obtain ⟨a, c, rfl⟩ := this
    exact ⟨_, by simp [Builtin.len_, run_underlying hu, goInt], .int _ _, rfl⟩
  ·cases h
 ·rename_i t _
  obtain ⟨v, rfl, hva⟩ := one rfl
  split at h
  ·rename_i e hu
   simp only [ok, Option.some.injEq] at h; subst h
   cases hva
   exact ⟨_, by simp [Builtin.len_, run_underlying hu, goInt], .int _ _, rfl⟩
  ·cases h
 ·rename_i t b _
  obtain ⟨v, rfl, hva⟩ := one rfl
  split at h
  ·rename_i k e es hu hb
   simp only [ok, Option.some.injEq] at h; subst h
   obtain ⟨hub, hz, g, es', cl, hpl, hg, hes, _⟩ := hH.obj b _ hb
   cases hva with
   | map _ _ hk hb' hm hl =>
    rw [hpl] at hm
    simp only [MapOK] at hm
    subst hm
    have hsz : es'.size = es.length := by have := hes.1; simpa using this
    exact ⟨.int .i64 es.length, by simp [Builtin.len_, run_underlying hu, goInt, getObj, Sem.run, hg, hsz], .int _ _, rfl⟩
  ·cases h
 ·rename_i t es _
  obtain ⟨v, rfl, hva⟩ := one rfl
  split at h
  ·rename_i k e hu
   simp only [ok, Option.some.injEq] at h; subst h
   cases hva with
   | fm g _ es' cl h1 hg hfl hen hnd hcl =>
    have hsz : es'.size = es.length := by simpa using congrArg List.length hen
    exact ⟨.int .i64 es.length, by simp [Builtin.len_, run_underlying hu, goInt, getObj, Sem.run, hg, hsz], .int _ _, rfl⟩
  ·cases h
 ·rename_i t cs _
  obtain ⟨v, rfl, hva⟩ := one rfl
  split at h
  ·rename_i n e hu
   simp only [ok, Option.some.injEq] at h; subst h
   cases hva with
   | agg vs _ hl h => exact ⟨_, by simp [Builtin.len_, run_underlying hu, goInt], .int _ _, rfl⟩
  ·cases h
theorem opsnd_args {l : Array Operand} {cs : List IV} (hρ : ∀ x c, ρ x = some c → VR μ F w (ev x) c) (h : opsnd ρ l.toList = some cs) : VRs μ F w (l.map ev).toList cs := by
 have := opsnd_vrs hρ _ _ h
 simpa using this
theorem iop_goes {o : Oper} {op : Op} {x : Bool} {nb : Nat} {r : Out} (ho : o.op = op) (hρ : ∀ x c, ρ x = some c → VR μ F w (ev x) c) (hH : HR μ F σ w) (hnb : ¬ μ.u nb) (h : iop P x op ρ σ nb = some r) (hp : r.pre) :
  Goes μ F w σ r ((execOp ev o).run P w) := by
 have val : ∀ {s : Sem Value}, (∃ z, s.run P w = .ok z w ∧ VR μ F w z r.v ∧ r.w = none) → (execOp ev o).run P w = (do pure (Next.value (← s)) : Sem Next).run P w → Goes μ F w σ r ((execOp ev o).run P w) :=
  fun {s} ⟨z, h1, h2, h3⟩ e => Goes.pure hH (by rw [e, Sem.run_bind, h1]; rfl) h2 h3
 have val' : ∀ {s : Sem Value}, (∃ z w' μ', s.run P w = .ok z w' ∧ VR μ' F w' z r.v ∧ HR μ' F (upd σ r.w) w' ∧ Ext μ F w μ' F w') → (execOp ev o).run P w = (do pure (Next.value (← s)) : Sem Next).run P w → Goes μ F w σ r ((execOp ev o).run P w) :=
  fun {s} ⟨z, w', μ', h1, h2, h3, h4⟩ e => ⟨z, w', μ', .inl (by rw [e, Sem.run_bind, h1]; rfl), h2, h3, h4⟩
 cases op with
 | move y =>
  simp only [iop, Option.bind_eq_some_iff] at h
  obtain ⟨c, hc, h⟩ := h
  simp only [ok, Option.some.injEq] at h; subst h
  exact Goes.pure hH (by simp [execOp, ho]) (hρ y c hc) rfl
 | assign y =>
  simp only [iop, Option.bind_eq_some_iff] at h
  obtain ⟨c, hc, h⟩ := h
  simp only [ok, Option.some.injEq] at h; subst h
  exact Goes.pure hH (by simp [execOp, ho]) (hρ y c hc) rfl
 | binOp op t y z ty =>
  simp only [iop] at h
  split at h
  ·rename_i a b ha hb
   exact val (bin_run (x := y) (y := z) (hρ y _ ha) (hρ z _ hb) h hp) (by simp [execOp, ho])
  ·cases h
 | unOp op t y =>
  simp only [iop, Option.bind_eq_some_iff] at h
  obtain ⟨c, hc, h⟩ := h
  exact val (un_run (hρ y _ hc) h) (by simp [execOp, ho])
 | pick c y z =>
  simp only [iop] at h
  split at h
  ·rename_i b p q hb hp' hq
   simp only [ok, Option.some.injEq] at h; subst h
   have h1 := hρ c _ hb
   have h2 := hρ y _ hp'
   have h3 := hρ z _ hq
   refine Goes.pure hH (u := .bool (bif b then p else q)) ?_ (.bool _) rfl
   generalize e1 : ev c = v1 at *
   generalize e2 : ev y = v2 at *
   generalize e3 : ev z = v3 at *
   cases h1; cases h2; cases h3
   cases b <;> simp [execOp, ho, e1, e2, e3, asBool]
  ·cases h
 | convert src dst y =>
  simp only [iop] at h
  split at h
  ·rename_i k n d k' hy hs hd
   simp only [ok, Option.some.injEq] at h; subst h
   have h1 := hρ y _ hy
   refine val ⟨.int k' (k'.wrap n), ?_, .int _ _, rfl⟩ (s := convert src dst (ev y)) (by simp [execOp, ho])
   generalize ev y = v1 at *
   cases h1
   simp [convert, run_underlying hs, run_underlying hd, Conv.intToInt]
  ·cases h
 | extract y i =>
  simp only [iop] at h
  split at h
  ·rename_i vs hy
   simp only [Option.bind_eq_some_iff] at h
   obtain ⟨v, hv, h⟩ := h
   simp only [ok, Option.some.injEq] at h; subst h
   have h1 := hρ y _ hy
   refine val (s := Instr.extract (ev y) i) ?_ (by simp [execOp, ho])
   generalize ev y = v1 at *
   cases h1 with
   | tup us _ hl hv' =>
    have hi := (List.getElem?_eq_some_iff.1 hv).1
    have hi' : i < us.length := by omega
    exact ⟨us[i], by simp [Instr.extract, hi'], hv' i _ _ (List.getElem?_eq_getElem hi') hv, rfl⟩
  ·cases h
 | nilCheck y =>
  simp only [iop] at h
  split at h
  ·rename_i b tot i o' hy
   split at h
   ·rename_i s rs hb
    simp only [okIf, Option.some.injEq] at h; subst h
    obtain ⟨htot, hi⟩ := hp
    obtain ⟨g, off, cs, T, hv, _⟩ := ptr_row hH hb (hρ y _ hy) htot hi
    exact Goes.pure hH (u := ev y) (by simp [execOp, ho, hv]) (hρ y _ hy) rfl
   ·cases h
  ·rename_i s rows i o' hy
   simp only [ok, Option.some.injEq] at h; subst h
   have h1 := hρ y _ hy
   refine Goes.pure hH (u := ev y) ?_ h1 rfl
   generalize hv : ev y = v1 at *
   cases h1
   simp [execOp, ho, hv]
  ·cases h
 | makeFunc fn first captured =>
  simp only [iop] at h
  split at h
  ·rename_i a b ha hb
   simp only [ok, Option.some.injEq] at h; subst h
   have h1 := opsnd_args hρ ha
   have h2 := opsnd_args hρ hb
   refine Goes.pure hH (u := .func fn (first.map ev) (captured.map ev)) (by simp [execOp, ho, Instr.makeFunc]) ?_ rfl
   have := VR.func (μ := μ) (F := F) (w := w) fn _ _ a b h1.1 h2.1 h1.2 h2.2
   simpa only [Array.toArray_toList] using this
  ·cases h
 | field t y f =>
  simp only [iop] at h
  split at h
  ·rename_i cs fs hy hu
   split at h
   ·rename_i fd hf
    cases hc : (hasP P fd.type && Nat.ble (fd.offset + sizeP P fd.type) cs.length && (aggP P fd.type || Nat.beq (sizeP P fd.type) 1)) with
    | false => rw [hc] at h; cases h
    | true =>
     rw [hc] at h
     simp only [Bool.and_eq_true, Nat.ble_eq, Bool.or_eq_true, Nat.beq_eq] at hc
     simp only [cond_true, ok, Option.some.injEq] at h; subst h
     have h1 := hρ y _ hy
     refine val (s := Instr.field t (ev y) f) ?_ (by simp [execOp, ho])
     generalize ev y = v1 at *
     cases h1 with
     | agg us _ hl hv' =>
      obtain ⟨z, z1, z2⟩ := part_run (P := P) ⟨hl, hv'⟩ hc.1.1 hc.1.2 hc.2
      have hf' : fs[f]? = some fd := by simpa using hf
      exact ⟨z, by simp [Instr.field, run_underlying hu, hf', asAgg, z1], z2, rfl⟩
   ·cases h
  ·cases h
 | fieldAddr t y f => exact val (field_goes hρ hH h hp) (by simp [execOp, ho])
 | indexAddr t y z => exact val (index_goes hρ hH h hp) (by simp [execOp, ho])
 | index t y z =>
  simp only [iop] at h
  split at h
  ·rename_i len e cs k n hu hy hz
   cases hc : (hasP P e && Nat.beq cs.length (len * sizeP P e) && (aggP P e || Nat.beq (sizeP P e) 1)) with
   | false => rw [hc] at h; cases h
   | true =>
    rw [hc] at h
    simp only [Bool.and_eq_true, Bool.or_eq_true, Nat.beq_eq] at hc
    simp only [cond_true, okIf, Option.some.injEq] at h; subst h
    obtain ⟨h0, h1'⟩ := hp
    have h1 := hρ y _ hy
    have h2 := hρ z _ hz
    refine val (s := Instr.index t (ev y) (ev z)) ?_ (by simp [execOp, ho])
    generalize ev y = v1 at *
    generalize ev z = v2 at *
    cases h2
    cases h1 with
    | agg us _ hl hv' =>
     obtain ⟨ie, _, _, _, hs, hszr, _⟩ := hasP_spec hc.1.1
     have hb : n.toNat * sizeP P e + sizeP P e ≤ cs.length := by
      rw [hc.1.2]
      have : (n.toNat + 1) * sizeP P e ≤ len * sizeP P e := Nat.mul_le_mul_right _ (by omega)
      rwa [Nat.add_mul, Nat.one_mul] at this
     obtain ⟨z, z1, z2⟩ := part_run (P := P) ⟨hl, hv'⟩ hc.1.1 hb hc.2
     rw [hs] at z1
     exact ⟨z, by simp [Instr.index, asIntOf, run_underlying hu, h0, h1', hszr, z1], z2, rfl⟩
  ·cases h
 | load t y => exact val (load_goes hρ hH h hp) (by simp [execOp, ho])
 | store t y z =>
  obtain ⟨w', h1, h2, h3, h4⟩ := store_goes hρ hH h hp
  exact ⟨undef, w', μ, .inr ⟨by simp [execOp, ho, h1], rfl⟩, by rw [h2]; exact vr_undef, h3, h4⟩
 | lookup t y z cok => exact val (lookup_goes hρ hH h hp) (by simp [execOp, ho])
 | mapUpdate t m y z =>
  obtain ⟨w', h1, h2, h3, h4⟩ := mapUpdate_goes hρ hH h hp
  exact ⟨undef, w', μ, .inr ⟨by simp [execOp, ho, h1], rfl⟩, by rw [h2]; exact vr_undef, h3, h4⟩
 | insert t m y z =>
  obtain ⟨w', h1, h2, h3, h4⟩ := mapUpdate_goes (t := t) (m := m) (k := y) (x := z) (nb := nb) (c := x) hρ hH h hp
  exact ⟨undef, w', μ, .inr ⟨by simp [execOp, ho, h1], rfl⟩, by rw [h2]; exact vr_undef, h3, h4⟩
 | alloc t => exact val' (alloc_goes hH hnb h) (by simp [execOp, ho])
 | box t y =>
  simp only [iop] at h
  split at h
  ·rename_i v hy
   cases hc : (v.cells.all IV.one && Nat.blt 0 v.cells.length) with
   | false => rw [hc] at h; cases h
   | true =>
    rw [hc] at h
    simp only [Bool.and_eq_true, Nat.blt_eq] at hc
    simp only [cond_true, Option.some.injEq] at h; subst h
    obtain ⟨hvs, _⟩ := VR.cells (hρ y _ hy) hc.1
    obtain ⟨μ', v1, v2, v3⟩ := hH.newRow1 (T := t) hnb hc.2 hvs
    exact val' (s := Instr.box t (ev y)) ⟨_, _, μ', by simp [Instr.box, newVar, newRow], v1, v2, v3⟩ (by simp [execOp, ho])
  ·cases h
 | build t parts => exact val (build_goes hρ h) (by simp [execOp, ho])
 | buildSlice t len parts => exact val' (buildSlice_goes hρ hH hnb h) (by simp [execOp, ho])
 | makeSlice t y z => exact val' (makeSlice_goes hρ hH hnb h hp) (by simp [execOp, ho])
 | makeMap t rsv =>
  cases rsv with
  | some y => simp [iop] at h
  | none =>
   simp only [iop, Option.some.injEq] at h; subst h
   have hle : μ.le (μ.add nb 0 0 0 (.at_ w.heap.size 0)) := Mu.le_add hnb
   have hw : ∀ g, g < w.heap.size → (μ.u nb → ∀ off, μ.pl nb ≠ .at_ g off) → (w.alloc (.map #[] 0)).heap[g]? = w.heap[g]? := fun g hg _ => Below.heap_alloc _ _ _ hg
   have hch := hH.change (b := nb) (o' := .map []) hle (fun x e => Mu.add_other x e) hw (fun g off _ e => by simp [Mu.add] at e; obtain ⟨rfl, rfl⟩ := e; simp) (by simp) rfl rfl ⟨rfl, Nat.le_refl _⟩ (hH.notItN hnb)
    ⟨.inl rfl, by simp [Mu.add], w.heap.size, #[], 0, by simp [Mu.add], heap_alloc_new _ _, ⟨rfl, by simp⟩, by simp, by simp⟩
   exact val' (s := Instr.makeMap t none) ⟨.map (some w.heap.size), _, _, by simp [Instr.makeMap], .map _ nb rfl (show _ ∨ _ from .inl rfl) (by simp [Mu.add, MapOK]) (by simp [Mu.add]), hch.1, hch.2⟩ (by simp [execOp, ho])
 | slice t y lo hi mx =>
  cases mx with
  | some z =>
   cases hi with
   | none => simp [iop] at h
   | some y' => exact val (slice3_goes hρ hH h hp) (by simp [execOp, ho])
  | none => exact val (slice_goes hρ hH h hp) (by simp [execOp, ho])
 | call c =>
  simp only [iop] at h
  split at h
  ·rename_i b args hcal hargs
   have hvs := opsnd_args hρ hargs
   have hex : ∀ (bt : Builtin) (s : Sem Value), b = bt → (∀ (c1 : Array Bool), builtin bt c.argTypes o.type c1 (c.args.map ev) = (do pure (Next.value (← s)))) → (execOp ev o).run P w = (do pure (Next.value (← s)) : Sem Next).run P w := fun bt s hb hs => by
    subst hb
    simp only [execOp, ho, resolve, hcal, Sem.run_bind, Sem.run_pure, Result.andThen_ok, invoke]
    rw [hs]
    simp
   cases b with
   | len =>
    obtain ⟨z, z1, z2, z3⟩ := len_goes (P := P) (ty := o.type) hH hvs h hp
    exact val (s := Builtin.len_ c.argTypes o.type (c.args.map ev)) ⟨z, by simpa only [Array.toArray_toList] using z1, z2, z3⟩ (hex .len _ rfl fun _ => rfl)
   | cap =>
    obtain ⟨z, z1, z2, z3⟩ := cap_goes (P := P) (ty := o.type) hH hvs h hp
    exact val (s := Builtin.cap_ c.argTypes o.type (c.args.map ev)) ⟨z, by simpa only [Array.toArray_toList] using z1, z2, z3⟩ (hex .cap _ rfl fun _ => rfl)
   | append =>
    have hsh : ∃ t tx d y, c.argTypes.toList = [t, tx] ∧ args = [d, y] := by
     revert h
     generalize c.argTypes.toList = ts
     intro h
     rcases ts with _ | ⟨t, _ | ⟨tx, _ | _⟩⟩ <;> rcases args with _ | ⟨d, _ | ⟨y, _ | _⟩⟩ <;> first | exact ⟨_, _, _, _, rfl, rfl⟩ | (simp [ibuiltin] at h)
    obtain ⟨t, tx, d, y, hts, rfl⟩ := hsh
    rw [hts] at h
    obtain ⟨hl, hv⟩ := hvs
    obtain ⟨vd, vy, hargsv⟩ : ∃ vd vy, (c.args.map ev).toList = [vd, vy] := by
     generalize (c.args.map ev).toList = l at hl
     rcases l with _ | ⟨a, _ | ⟨b, _ | _⟩⟩ <;> simp at hl
     exact ⟨_, _, rfl⟩
    obtain ⟨z, w', μ', z1, z2, z3, z4⟩ := append_goes (P := P) (ty := o.type) hH hnb (hv 0 vd d (by rw [hargsv]; rfl) rfl) (hv 1 vy y (by rw [hargsv]; rfl) rfl) h hp
    have e1 : c.args.map ev = #[vd, vy] := Array.ext' hargsv
    have e2 : c.argTypes = #[t, tx] := Array.ext' hts
    exact val' (s := Builtin.append_ c.argTypes o.type (c.args.map ev)) ⟨z, w', μ', by rw [e1, e2]; exact z1, z2, z3, z4⟩ (hex .append _ rfl fun _ => rfl)
   | clear =>
    have hsh : ∃ t b tot i len cap, c.argTypes.toList = [t] ∧ args = [.sl b tot i len cap] := by
     revert h
     generalize c.argTypes.toList = ts
     intro h
     rcases ts with _ | ⟨t, _ | _⟩ <;> rcases args with _ | ⟨d, _ | _⟩ <;> first | (simp [ibuiltin] at h; done) | skip
     cases d <;> first | exact ⟨_, _, _, _, _, _, rfl, rfl⟩ | (simp [ibuiltin] at h)
    obtain ⟨t, b, tot, i, len, cap, hts, rfl⟩ := hsh
    rw [hts] at h
    obtain ⟨hl, hv⟩ := hvs
    obtain ⟨vd, hargsv⟩ : ∃ vd, (c.args.map ev).toList = [vd] := by
     generalize (c.args.map ev).toList = l at hl
     rcases l with _ | ⟨a, _ | _⟩ <;> simp at hl
     exact ⟨_, rfl⟩
    obtain ⟨z, w', μ', z1, z2, z3, z4⟩ := clear_goes (P := P) (ty := o.type) hH (hv 0 vd _ (by rw [hargsv]; rfl) rfl) h hp
    have e1 : c.args.map ev = #[vd] := Array.ext' hargsv
    have e2 : c.argTypes = #[t] := Array.ext' hts
    exact val' (s := Builtin.clear_ c.argTypes o.type (c.args.map ev)) ⟨z, w', μ', by rw [e1, e2]; exact z1, z2, z3, z4⟩ (hex .clear _ rfl fun _ => rfl)
   | min =>
    rcases args with _ | ⟨a, l⟩
    ·simp [ibuiltin] at h
    ·simp only [ibuiltin] at h
     split at h
     ·rename_i v hm
      simp only [ok, Option.some.injEq] at h; subst h
      obtain ⟨hl, hv⟩ := hvs
      obtain ⟨u, us, hargsv⟩ : ∃ u us, (c.args.map ev).toList = u :: us := by
       generalize (c.args.map ev).toList = l' at hl
       rcases l' with _ | ⟨a, l'⟩
       ·simp at hl
       ·exact ⟨_, _, rfl⟩
      obtain ⟨z, z1, z2⟩ := minmax_run (P := P) false l us a u v (hv 0 u a (by rw [hargsv]; rfl) rfl) ⟨by rw [hargsv] at hl; simpa using hl, fun j v' c' e1 e2 => hv (j + 1) v' c' (by rw [hargsv]; simpa using e1) (by simpa using e2)⟩ hm
      exact val (s := Builtin.min_ c.argTypes o.type (c.args.map ev)) ⟨z, by simp only [Builtin.min_, hargsv]; exact z1, z2, rfl⟩ (hex .min _ rfl fun _ => rfl)
     ·cases h
   | max =>
    rcases args with _ | ⟨a, l⟩
    ·simp [ibuiltin] at h
    ·simp only [ibuiltin] at h
     split at h
     ·rename_i v hm
      simp only [ok, Option.some.injEq] at h; subst h
      obtain ⟨hl, hv⟩ := hvs
      obtain ⟨u, us, hargsv⟩ : ∃ u us, (c.args.map ev).toList = u :: us := by
       generalize (c.args.map ev).toList = l' at hl
       rcases l' with _ | ⟨a, l'⟩
       ·simp at hl
       ·exact ⟨_, _, rfl⟩
      obtain ⟨z, z1, z2⟩ := minmax_run (P := P) true l us a u v (hv 0 u a (by rw [hargsv]; rfl) rfl) ⟨by rw [hargsv] at hl; simpa using hl, fun j v' c' e1 e2 => hv (j + 1) v' c' (by rw [hargsv]; simpa using e1) (by simpa using e2)⟩ hm
      exact val (s := Builtin.max_ c.argTypes o.type (c.args.map ev)) ⟨z, by simp only [Builtin.max_, hargsv]; exact z1, z2, rfl⟩ (hex .max _ rfl fun _ => rfl)
     ·cases h
   | _ => simp [ibuiltin] at h
  ·cases h
 | _ => simp [iop] at h
end
end Go.Idl
namespace Go.Idl
open Go.RowKit
def ICalls (P : Program) (gl : List (Nat × IV)) (f : FuncId) (args : List IV) (σ : Heap) (R : IV → Heap → Prop) : Prop :=
 (∀ (args : Array Value) (w : World), (callFunc f args).run P w = .ok (.enter f args) w) ∧
 ∀ (μ : Mu) (F : Fz) (w : World) (vs : List Value), HR μ F σ w → VRs μ F w vs args → (∀ (g : Nat) (c : IV), eget gl g = some c → VR μ F w (.pointer (some ⟨g, 0, none⟩)) c) →
  Calls P f vs.toArray w fun e w' => ∃ v r σ' μ' F', e = .returned v ∧ R r σ' ∧ VR μ' F' w' v r ∧ HR μ' F' σ' w' ∧ Ext μ F w μ' F' w'
theorem ICalls.mono {P : Program} {gl : List (Nat × IV)} {f : FuncId} {args : List IV} {σ : Heap} {R R' : IV → Heap → Prop} (h : ICalls P gl f args σ R) (hr : ∀ r σ', R r σ' → R' r σ') : ICalls P gl f args σ R' :=
 ⟨h.1, fun μ F w vs h1 h2 h3 => (h.2 μ F w vs h1 h2 h3).mono fun _ _ ⟨v, r, σ', μ', F', e1, e2, e3⟩ => ⟨v, r, σ', μ', F', e1, hr _ _ e2, e3⟩⟩
def Rd (ro : Option Nat) : Fence := { Fence.wide with round := ro }
def YCalls (P : Program) (gl : List (Nat × IV)) (l : Nat) (args : List IV) (σ : Heap) (R : IV → Heap → Prop) : Prop :=
 ∀ (μ : Mu) (F : Fz) (w : World) (vs : List Value), HR μ F σ w → VRs μ F w vs args → (∀ (g : Nat) (c : IV), eget gl g = some c → VR μ F w (.pointer (some ⟨g, 0, none⟩)) c) →
  ∃ fn tmps as body, (Instr.yield l vs.toArray).run P w = .ok (.round l fn tmps as body) w ∧
   RoundIn (Rd none) 0 P l fn tmps as body w fun e w' => ∃ v r σ' μ' F', e = .returned v ∧ R r σ' ∧ VR μ' F' w' v r ∧ HR μ' F' σ' w' ∧ Ext μ F w μ' F' w'
inductive Tgt where
 | fn (f : FuncId)
 | yl (l : Nat)
def TCalls (P : Program) (gl : List (Nat × IV)) : Tgt → List IV → Heap → (IV → Heap → Prop) → Prop
 | .fn f => ICalls P gl f
 | .yl l => YCalls P gl l
theorem TCalls.mono {P : Program} {gl : List (Nat × IV)} {f : Tgt} {args : List IV} {σ : Heap} {R R' : IV → Heap → Prop} (h : TCalls P gl f args σ R) (hr : ∀ r σ', R r σ' → R' r σ') : TCalls P gl f args σ R' := by
 cases f with
 | fn f => exact ICalls.mono h hr
 | yl l => exact fun μ F w vs h1 h2 h3 => let ⟨fn, tmps, as, body, k1, k2⟩ := h μ F w vs h1 h2 h3; ⟨fn, tmps, as, body, k1, k2.mono fun _ _ ⟨v, r, σ', μ', F', e1, e2, e3⟩ => ⟨v, r, σ', μ', F', e1, hr _ _ e2, e3⟩⟩
def wantOf (ops : List Oper) (e : Env) (o : Oper) : Option Bool :=
 match o.guard with
 | none => some true
 | some (j, want) => match gslot ops j with
  | none => some false
  | some t => match e.get t with
   | some (.bool b) => some (b == want)
   | some (.opt g (.bool b)) => some (g && (b == want))
   | some (.opt false _) => some false
   | some (.tup []) => some false
   | _ => none
def Env.opS (e : Env) (x : Operand) : Option IV := (e.opnd x).map IV.strip
def Env.wh (e : Env) (x : Operand) : Bool := match e.opnd x with | some c => c.when | none => true
def whens (e : Env) (g : Bool) : List Operand → Prop
 | [] => True
 | x :: l => (g = true → e.wh x = true) ∧ whens e g l
def xPure (P : Program) (o : Oper) (e : Env) (g : Bool) (h : Heap) (nb : Nat) : Option (Prop × Out) :=
 match o.op with
 | .pick c x y => match e.opS c, e.opS x, e.opS y with
  | some (.bool b), some (.bool p), some (.bool q) => some ((g = true → e.wh c = true) ∧ (g = true → b = true → e.wh x = true) ∧ (g = true → b = false → e.wh y = true), ⟨True, .bool (bif b then p else q), none⟩)
  | some (.bool b), some (.bool p), some (.tup []) => some ((g = true → e.wh c = true) ∧ (g = true → b = true) ∧ (g = true → e.wh x = true), ⟨True, .bool p, none⟩)
  | some (.bool b), some (.tup []), some (.bool q) => some ((g = true → e.wh c = true) ∧ (g = true → b = false) ∧ (g = true → e.wh y = true), ⟨True, .bool q, none⟩)
  | _, _, _ => none
 | op => (iop P e.x op e.opS h nb).map fun r => (whens e g op.operands.toList, r)
def callOf (o : Oper) (e : Env) : Option (Tgt × List IV) :=
 match o.op with
 | .call c => match c.callee with
  | .value f => match e.opS f with
   | some (.func (.func fid) first cap) => (opsnd e.opS c.args.toList).map fun as => (.fn fid, first ++ as ++ cap)
   | some (.func (.yield l) [] []) => (opsnd e.opS c.args.toList).map fun as => (.yl l, as)
   | _ => none
  | _ => none
 | _ => none
def putG (e : Env) (guarded : Bool) (g : Bool) (d : Option Tmp) (v : IV) : Env := e.putO d (bif guarded then .opt g v else v)
def isIt : Op → Bool
 | .range _ _ | .next _ false | .entry _ => true
 | .binOp .eql _ _ (.const (.slice none 0 0)) _ => true
 | _ => false
def nilQ (K : Bool → Prop) : IV → Prop
 | .nils => K true
 | .fz _ rs => K false ∧ (rs = [] → K true)
 | _ => False
def nextQ (K : IV → Heap → Prop) (h : Heap) (x : Nat) (b : Option Nat) (es todo : List (IV × IV)) : Prop :=
 (todo = [] → K (.tup [.bool false]) h) ∧ ∀ (i : Nat) (kv : IV × IV), todo[i]? = some kv → K (.tup [.bool true, kv.1, kv.2]) (h.set x (.iter b es (some kv) (todo.eraseIdx i)))
def iterQ (P : Program) (op : Op) (ρ : Operand → Option IV) (h : Heap) (K : IV → Heap → Prop) : Prop := match op with
 | .range t x => match P.underlying t, ρ x with
  | some (.map _ _), some (.map b) => match h[b]? with
   | some (.map es) => K (.iter h.length) (h.set b .dead ++ [.iter (some b) es none es])
   | _ => False
  | some (.map _ _), some .nilm => K (.iter h.length) (h ++ [.iter none [] none []])
  | some (.map _ _), some (.fm es) => K (.iter h.length) (h ++ [.iter none es none es])
  | _, _ => False
 | .next x false => match ρ x with
  | some (.iter x) => match h[x]? with
   | some (.iter b es _ todo) => nextQ K h x b es todo
   | _ => False
  | _ => False
 | .entry x => match ρ x with
  | some (.iter x) => match h[x]? with
   | some (.iter _ _ (some kv) _) => K (.tup [kv.1, kv.2]) h
   | _ => False
  | _ => False
 | .binOp .eql t x (.const (.slice none 0 0)) _ => match P.underlying t, ρ x with
  | some (.slice _), some c => nilQ (fun b => K (.bool b) h) c
  | _, _ => False
 | _ => False
def xOp (P : Program) (o : Oper) (e : Env) (h : Heap) (g : Bool) (K : Env → Heap → Prop) : Prop :=
 if isIt o.op = true then (g = true → whens e g o.op.operands.toList ∧ iterQ P o.op e.opS h fun r h' => K (e.putO o.dst r) h') ∧ (g = false → K (e.putO o.dst (.tup [])) h) else
 match callOf o e with
 | some (f, args) => (g = true → whens e g o.op.operands.toList ∧ TCalls P e.gl f args h fun r h' => K (e.putO o.dst r) h') ∧ (g = false → K (e.putO o.dst (.tup [])) h)
 | none => match xPure P o e g h h.length with
  | some (c, r) => match r.w with
   | none => (c ∧ (g = true → r.pre)) ∧ K (putG e o.guard.isSome g o.dst r.v) h
   | some (b, ob) => (g = true → c ∧ r.pre ∧ K (e.putO o.dst r.v) (hput h b ob)) ∧ (g = false → K (e.putO o.dst (.tup [])) h)
  | none => g = false ∧ K (e.putO o.dst (.tup [])) h
def xOps (P : Program) (ops : List Oper) : List Oper → Env → Heap → (Env → Heap → Prop) → Prop
 | [], e, h, K => K e.clean h
 | o :: rest, e, h, K => match wantOf ops e o with
  | none => False
  | some g => xOp P o e h g fun e h => xOps P ops rest e h K
section
variable {P : Program} {μ : Mu} {F : Fz} {w : World} {σ : Heap} {a : Act} {e : Env}
theorem wantOf_sound {ops : Array Oper} {o : Oper} {g : Bool} (hE : EnvR μ F w a.tmps e) (h : wantOf ops.toList e o = some g) : Region.wanted o (yielded ops a.tmps) = g := by
 unfold wantOf at h
 unfold Region.wanted
 split at h
 ·rename_i hg; cases h; rw [hg]
 ·rename_i j want hg
  rw [hg]
  simp only
  unfold yielded
  unfold gslot at h
  have e1 : ops.toList[j]? = ops[j]? := by simp
  rw [e1] at h
  cases ho : ops[j]? with
  | none => rw [ho] at h; simp at h; subst h; rfl
  | some oj =>
   rw [ho] at h
   simp only at h
   cases hd : oj.dst with
   | none => rw [hd] at h; simp at h; subst h; simp [hd]
   | some t =>
    rw [hd] at h
    simp only at h
    simp only [Option.bind_some, hd]
    split at h
    ·rename_i b hb
     obtain ⟨v, h1, h2⟩ := hE.slot t _ hb
     cases h2
     rw [h1]
     cases h
     cases b <;> cases want <;> rfl
    ·rename_i g' b hb
     obtain ⟨v, h1, h2⟩ := hE.slot t _ hb
     rw [h1]
     cases h
     cases h2 with
     | opt _ _ _ hv1 hv0 =>
      cases g' with
      | true =>
       have := hv1 rfl
       cases this
       cases b <;> cases want <;> rfl
      | false =>
       have := hv0 rfl
       subst this
       cases want <;> rfl
    ·rename_i hb
     obtain ⟨v, h1, h2⟩ := hE.slot t _ hb
     rw [h1]
     cases h
     cases h2 with
     | opt _ _ _ hv1 hv0 =>
      have := hv0 rfl
      subst this
      cases want <;> rfl
    ·rename_i hb
     obtain ⟨v, h1, h2⟩ := hE.slot t _ hb
     rw [h1]
     cases h
     cases h2 with
     | tup vs _ hl _ =>
      cases want <;> rfl
    ·cases h
theorem strip_vr {v : Value} {c : IV} (h : VR μ F w v c) (hw : c.when = true) : VR μ F w v c.strip := by
 cases c with
 | opt g u =>
  cases h with
  | opt _ _ _ h1 _ => exact h1 hw
 | _ => exact h
theorem opS_vr (hE : EnvR μ F w a.tmps e) {x : Operand} {c : IV} (h : e.opS x = some c) (hw : e.wh x = true) : VR μ F w (a.eval x) c := by
 unfold Env.opS at h
 simp only [Option.map_eq_some_iff] at h
 obtain ⟨c', h1, rfl⟩ := h
 unfold Env.wh at hw
 rw [h1] at hw
 exact strip_vr (hE.opnd x c' h1) hw
theorem whens_mem : ∀ {l : List Operand}, whens e true l → ∀ x ∈ l, e.wh x = true
 | x :: l, h, y, hy => by
  rcases List.mem_cons.1 hy with h1 | h1
  ·subst h1; exact h.1 rfl
  ·exact whens_mem h.2 y h1
theorem opsnd_congr {ρ ρ' : Operand → Option IV} : ∀ (l : List Operand), (∀ x ∈ l, ρ x = ρ' x) → opsnd ρ l = opsnd ρ' l
 | [], _ => rfl
 | x :: l, h => by simp only [opsnd, h x (by simp), opsnd_congr l fun y hy => h y (by simp [hy])]
theorem partsV_congr {ρ ρ' : Operand → Option IV} : ∀ (l : List (Nat × Operand)), (∀ p ∈ l, ρ p.2 = ρ' p.2) → partsV ρ l = partsV ρ' l
 | [], _ => rfl
 | p :: l, h => by simp only [partsV, h p (by simp), partsV_congr l fun y hy => h y (by simp [hy])]
theorem iop_congr {ρ ρ' : Operand → Option IV} {x : Bool} {op : Op} {h : Heap} {nb : Nat} (hρ : ∀ y ∈ op.operands.toList, ρ y = ρ' y) : iop P x op ρ h nb = iop P x op ρ' h nb := by
 cases op with
 | makeFunc fn first captured =>
  have h1 := opsnd_congr (ρ := ρ) (ρ' := ρ') first.toList fun y hy => hρ y (by simp [Op.operands]; exact .inl (by simpa using hy))
  have h2 := opsnd_congr (ρ := ρ) (ρ' := ρ') captured.toList fun y hy => hρ y (by simp [Op.operands]; exact .inr (by simpa using hy))
  simp only [iop, h1, h2]
 | build t parts =>
  have h1 := partsV_congr (ρ := ρ) (ρ' := ρ') parts.toList fun p hp => hρ p.2 (by simp [Op.operands]; exact ⟨p.1, by simpa using hp⟩)
  simp only [iop, h1]
 | buildSlice t len parts =>
  have h1 := partsV_congr (ρ := ρ) (ρ' := ρ') parts.toList fun p hp => hρ p.2 (by simp [Op.operands]; exact ⟨p.1, by simpa using hp⟩)
  simp only [iop, h1]
 | call c =>
  have h1 := opsnd_congr (ρ := ρ) (ρ' := ρ') c.args.toList fun y hy => hρ y (by simp [Op.operands, Call.operands]; exact .inr (by simpa using hy))
  simp only [iop, h1]
 | slice t y lo hi mx =>
  have h0 := hρ y (by simp [Op.operands])
  have h1 : loV ρ lo = loV ρ' lo := by
   cases lo with
   | none => rfl
   | some z => simp only [loV, hρ z (by simp [Op.operands])]
  have h2 : ∀ n, hiV ρ hi n = hiV ρ' hi n := fun n => by
   cases hi with
   | none => rfl
   | some z => simp only [hiV, hρ z (by simp [Op.operands])]
  cases mx with
  | none => simp only [iop, h0, h1, h2]
  | some zz =>
   cases hi with
   | none => rfl
   | some yy => simp only [iop, h0, h1, hρ yy (by simp [Op.operands]), hρ zz (by simp [Op.operands])]
 | makeMap t r => cases r <;> rfl
 | move y => simp only [iop, hρ y (by simp [Op.operands])]
 | assign y => simp only [iop, hρ y (by simp [Op.operands])]
 | unOp op t y => simp only [iop, hρ y (by simp [Op.operands])]
 | convert s d y => simp only [iop, hρ y (by simp [Op.operands])]
 | extract y i => simp only [iop, hρ y (by simp [Op.operands])]
 | nilCheck y => simp only [iop, hρ y (by simp [Op.operands])]
 | field t y f => simp only [iop, hρ y (by simp [Op.operands])]
 | fieldAddr t y f => simp only [iop, hρ y (by simp [Op.operands])]
 | load t y => simp only [iop, hρ y (by simp [Op.operands])]
 | box t y => simp only [iop, hρ y (by simp [Op.operands])]
 | binOp op t y z ty => simp only [iop, hρ y (by simp [Op.operands]), hρ z (by simp [Op.operands])]
 | indexAddr t y z => simp only [iop, hρ y (by simp [Op.operands]), hρ z (by simp [Op.operands])]
 | index t y z => simp only [iop, hρ y (by simp [Op.operands]), hρ z (by simp [Op.operands])]
 | store t y z => simp only [iop, hρ y (by simp [Op.operands]), hρ z (by simp [Op.operands])]
 | makeSlice t y z => simp only [iop, hρ y (by simp [Op.operands]), hρ z (by simp [Op.operands])]
 | pick c y z => simp only [iop, hρ c (by simp [Op.operands]), hρ y (by simp [Op.operands]), hρ z (by simp [Op.operands])]
 | alloc t => rfl
 | lookup t y z cok => simp only [iop, hρ y (by simp [Op.operands]), hρ z (by simp [Op.operands])]
 | mapUpdate t m y z => simp only [iop, hρ m (by simp [Op.operands]), hρ y (by simp [Op.operands]), hρ z (by simp [Op.operands])]
 | insert t m y z => simp only [iop, hρ m (by simp [Op.operands]), hρ y (by simp [Op.operands]), hρ z (by simp [Op.operands])]
 | _ => rfl
theorem xPure_goes {o : Oper} {nb : Nat} {c : Prop} {r : Out} (hE : EnvR μ F w a.tmps e) (hH : HR μ F σ w) (hnb : ¬ μ.u nb) (h : xPure P o e true σ nb = some (c, r)) (hc : c) (hp : r.pre) : Goes μ F w σ r ((execOp a.eval o).run P w) := by
 have gen : ∀ op, o.op = op → ((iop P e.x op e.opS σ nb).map fun r => (whens e true op.operands.toList, r)) = some (c, r) → Goes μ F w σ r ((execOp a.eval o).run P w) := fun op ho h => by
  simp only [Option.map_eq_some_iff, Prod.mk.injEq] at h
  obtain ⟨r', h1, h2, rfl⟩ := h
  have hwh : whens e true op.operands.toList := by rw [h2]; exact hc
  let ρ1 : Operand → Option IV := fun x => if e.wh x = true then e.opS x else none
  have e1 : iop P e.x op e.opS σ nb = iop P e.x op ρ1 σ nb := iop_congr fun y hy => by
   show e.opS y = if e.wh y = true then e.opS y else none
   rw [if_pos (whens_mem hwh y hy)]
  rw [e1] at h1
  refine iop_goes ho (ρ := ρ1) (fun x c hx => ?_) hH hnb h1 hp
  have hx' : (if e.wh x = true then e.opS x else none) = some c := hx
  split at hx'
  ·rename_i hw; exact opS_vr hE hx' hw
  ·cases hx'
 unfold xPure at h
 split at h
 ·rename_i cc x y ho
  split at h
  ·rename_i b p q hb hpp hq
   simp only [Option.some.injEq, Prod.mk.injEq] at h
   obtain ⟨rfl, rfl⟩ := h
   obtain ⟨c1, c2, c3⟩ := hc
   have v1 := opS_vr hE hb (c1 (by trivial))
   refine Goes.pure hH (u := .bool (bif b then p else q)) ?_ (.bool _) rfl
   generalize e1 : a.eval cc = u1 at *
   cases v1
   cases b with
   | true =>
    have v2 := opS_vr hE hpp (c2 (by trivial) rfl)
    generalize e2 : a.eval x = u2 at *
    cases v2
    simp [execOp, ho, e1, e2, asBool]
   | false =>
    have v3 := opS_vr hE hq (c3 (by trivial) rfl)
    generalize e3 : a.eval y = u3 at *
    cases v3
    simp [execOp, ho, e1, e3, asBool]
  ·rename_i b p hb hpp hq
   simp only [Option.some.injEq, Prod.mk.injEq] at h
   obtain ⟨rfl, rfl⟩ := h
   obtain ⟨c1, c2, c3⟩ := hc
   have v1 := opS_vr hE hb (c1 (by trivial))
   have hbt := c2 (by trivial)
   subst hbt
   refine Goes.pure hH (u := .bool p) ?_ (.bool _) rfl
   generalize e1 : a.eval cc = u1 at *
   cases v1
   have v2 := opS_vr hE hpp (c3 (by trivial))
   generalize e2 : a.eval x = u2 at *
   cases v2
   simp [execOp, ho, e1, e2, asBool]
  ·rename_i b q hb hpp hq
   simp only [Option.some.injEq, Prod.mk.injEq] at h
   obtain ⟨rfl, rfl⟩ := h
   obtain ⟨c1, c2, c3⟩ := hc
   have v1 := opS_vr hE hb (c1 (by trivial))
   have hbt := c2 (by trivial)
   subst hbt
   refine Goes.pure hH (u := .bool q) ?_ (.bool _) rfl
   generalize e1 : a.eval cc = u1 at *
   cases v1
   have v3 := opS_vr hE hq (c3 (by trivial))
   generalize e3 : a.eval y = u3 at *
   cases v3
   simp [execOp, ho, e1, e3, asBool]
  ·cases h
 ·exact gen _ rfl h
theorem VRs.append {us vs : List Value} {cs ds : List IV} (h : VRs μ F w us cs) (k : VRs μ F w vs ds) : VRs μ F w (us ++ vs) (cs ++ ds) := by
 refine ⟨by simp [h.1, k.1], fun j v c e1 e2 => ?_⟩
 by_cases hj : j < us.length
 ·rw [List.getElem?_append_left hj] at e1
  rw [List.getElem?_append_left (by rw [← h.1]; exact hj)] at e2
  exact h.2 j v c e1 e2
 ·rw [List.getElem?_append_right (by omega)] at e1
  rw [List.getElem?_append_right (by rw [← h.1]; omega)] at e2
  rw [← h.1] at e2
  exact k.2 _ v c e1 e2
theorem vr_tup0 : VR μ F w undef (.tup []) := .tup [] [] rfl (by simp)
theorem args_vrs (hE : EnvR μ F w a.tmps e) {l : List Operand} {as : List IV} (hwa : ∀ y ∈ l, e.wh y = true) (has : opsnd e.opS l = some as) : VRs μ F w (l.map a.eval) as := by
 have e1 : opsnd e.opS l = opsnd (fun x => if e.wh x = true then e.opS x else none) l := opsnd_congr _ fun y hy => by simp [hwa y hy]
 rw [e1] at has
 refine opsnd_vrs (fun x c hx => ?_) _ _ has
 split at hx
 ·rename_i hw; exact opS_vr hE hx hw
 ·cases hx
theorem HR.toDead (hH : HR μ F σ w) (b : Nat) : HR μ F (σ.set b .dead) w := by
 have hget : ∀ (x : Nat) (o : IObj), (σ.set b .dead)[x]? = some o → o = .dead ∨ σ[x]? = some o := fun x o h => by
  rw [List.getElem?_set] at h
  split at h
  ·split at h
   ·simp only [Option.some.injEq] at h; exact .inl h.symm
   ·cases h
  ·exact .inr h
 refine ⟨fun x hu => ?_, fun x o ho => ?_, hH.inj, hH.fro, hH.lt, hH.flt, fun x y l r r' e e' h1 h2 => ?_, fun x y es cur todo o h1 h2 => ?_⟩
 ·obtain ⟨o, h1, h2⟩ := hH.n x hu
  rw [List.getElem?_set]
  by_cases e : b = x
  ·subst e
   exact ⟨.dead, by simp [(List.getElem?_eq_some_iff.1 h1).1], rfl⟩
  ·exact ⟨o, by rw [if_neg e]; exact h1, h2⟩
 ·rcases hget x o ho with rfl | h
  ·trivial
  ·exact hH.obj x o h
 ·exact hH.yin x y l r r' e e' ((hget _ _ h1).resolve_left (by intro h; cases h)) ((hget _ _ h2).resolve_left (by intro h; cases h))
 ·rcases hget _ _ h2 with h | h
  ·exact h
  ·exact hH.itd x y es cur todo o ((hget _ _ h1).resolve_left (by intro h; cases h)) h
theorem hput_end (σ : Heap) (o : IObj) : Idl.hput σ σ.length o = σ ++ [o] := by
 apply List.ext_getElem?
 intro b
 rw [getElem?_hput, List.getElem?_append]
 by_cases h1 : b = σ.length
 ·subst h1; simp
 ·by_cases h2 : b < σ.length
  ·simp [h1, h2]
  ·simp only [h1, h2, if_false]
   symm; simp; omega
theorem hput_set {σ : Heap} {x : Nat} {o : IObj} (h : x < σ.length) : Idl.hput σ x o = σ.set x o := by
 apply List.ext_getElem?
 intro b
 rw [getElem?_hput, List.getElem?_set]
 by_cases h1 : b = x
 ·subst h1; simp [h]
 ·rw [if_neg h1, if_neg (Ne.symm h1)]
  split
  ·rfl
  ·rw [if_neg (by omega)]
   rename_i h2
   symm; simp; omega
theorem erase_filter : ∀ (L : List MapEntry) (i : Nat) (e : MapEntry), (L.map (·.born)).Nodup → L[i]? = some e → L.filter (fun x => x.born != e.born) = L.eraseIdx i
 | [], i, e, _, h => by simp at h
 | x :: L, 0, e, hn, h => by
  simp at h; subst h
  simp only [List.map_cons, List.nodup_cons] at hn
  simp only [List.filter_cons, bne_self_eq_false, Bool.false_eq_true, if_false, List.eraseIdx_cons_zero]
  refine List.filter_eq_self.2 fun y hy => ?_
  have : y.born ≠ x.born := fun e => hn.1 (by rw [← e]; exact List.mem_map_of_mem hy)
  simpa using this
 | x :: L, i + 1, e, hn, h => by
  simp only [List.map_cons, List.nodup_cons] at hn
  have h' : L[i]? = some e := by simpa using h
  have : x.born ≠ e.born := fun q => hn.1 (by rw [q]; exact List.mem_map_of_mem (List.mem_of_getElem? h'))
  simp only [List.filter_cons, List.eraseIdx_cons_succ]
  rw [if_pos (by simpa using this), erase_filter L i e hn.2 h']
theorem EntsR.erase {es' : List MapEntry} {es : List (IV × IV)} (h : EntsR μ F w es' es) (i : Nat) : EntsR μ F w (es'.eraseIdx i) (es.eraseIdx i) := by
 refine ⟨by simp [List.length_eraseIdx, h.1], fun j e p h1 h2 => ?_⟩
 rw [List.getElem?_eraseIdx] at h1 h2
 split at h1
 ·rename_i hlt; rw [if_pos hlt] at h2; exact h.2 j e p h1 h2
 ·rename_i hlt; rw [if_neg hlt] at h2; exact h.2 (j + 1) e p h1 h2
theorem iter_goes {o : Oper} {K : IV → Heap → Prop} (hE : EnvR μ F w a.tmps e) (hH : HR μ F σ w) (hwh : whens e true o.op.operands.toList) (h : iterQ P o.op e.opS σ K) :
  ∃ v w' μ' r σ', (execOp a.eval o).run P w = .ok (.value v) w' ∧ K r σ' ∧ VR μ' F w' v r ∧ HR μ' F σ' w' ∧ Ext μ F w μ' F w' := by
 have hnb : ¬ μ.u σ.length := fun hu => by obtain ⟨o, h1, _⟩ := hH.n _ hu; simp at h1
 have hwo : ∀ x, o.op.operands.toList = [x] → e.wh x = true := fun x hx => whens_mem hwh x (by rw [hx]; simp)
 unfold iterQ at h
 split at h
 ·rename_i t x hop
  split at h
  ·rename_i kt et b hu hx
   split at h
   ·rename_i es hb
    have hv := opS_vr hE hx (hwo x (by rw [hop]; rfl))
    obtain ⟨g, es', cl, hv', hub, hsb, hpl, hg, he, hnd, hcl⟩ := map_obj hH hb hv
    have hrun := run_range_map (P := P) w t kt et g es' cl hu hg
    have hle : μ.le (μ.add σ.length 0 0 0 (.at_ w.heap.size 0)) := Mu.le_add hnb
    have hw : ∀ k, k < w.heap.size → (μ.u σ.length → ∀ off, μ.pl σ.length ≠ .at_ k off) → (w.alloc (.mapIter (some g) cl #[] cl)).heap[k]? = w.heap[k]? := fun k hk _ => Below.heap_alloc _ _ _ hk
    have hd := hH.toDead b
    have hlen : (σ.set b IObj.dead).length = σ.length := by simp
    have hblt := (List.getElem?_eq_some_iff.1 hb).1
    have hglt := hH.lt b g 0 hub hpl
    have hbne : b ≠ σ.length := by omega
    have hch := hd.change (b := σ.length) (o' := .iter (some b) es none es) (w' := w.alloc (.mapIter (some g) cl #[] cl)) hle (fun x e => Mu.add_other x e) hw (fun g off _ e => by simp [Mu.add] at e; obtain ⟨rfl, rfl⟩ := e; simp) (by simp) rfl rfl ⟨rfl, Nat.le_refl _⟩ (hd.notItN hnb)
     ⟨.inl rfl, by simp [Mu.add], w.heap.size, by simp [Mu.add], .inr hub, by simp [Mu.add, hbne, hsb], g, es', cl, cl, #[], by simp [Mu.add, hbne, hpl], (Below.heap_alloc _ _ _ hglt).trans hg, heap_alloc_new _ _, Nat.le_refl _, hcl, hnd,
      he.mono fun h => h.mono hle (fun _ h => h) (hd.frozen_same hw), by
       have : es'.toList.filter (fun e => !(#[] : Array Nat).contains e.born) = es'.toList := List.filter_eq_self.2 fun _ _ => by simp
       rw [this]; exact he.mono fun h => h.mono hle (fun _ h => h) (hd.frozen_same hw), by simp⟩ rfl (by intros; intro h; cases h)
     (fun y es2 cur todo o2 ho2 hy => by
      cases ho2
      rw [getElem?_hput, if_neg hbne, if_pos (by simpa using hblt)] at hy
      simp [hblt] at hy
      exact hy.symm)
    refine ⟨.pointer (some ⟨w.heap.size, 0, none⟩), _, _, _, _, ?_, h, ?_, ?_, hch.2⟩
    ·simp [execOp, hop, hv', hrun]
    ·exact .iter _ _ rfl (show _ ∨ _ from .inl rfl) (by simp [Mu.add, IterOK]) (by simp [Mu.add])
    ·have h1 := hch.1
     have e1 : Idl.hput (σ.set b .dead) σ.length (.iter (some b) es none es) = σ.set b .dead ++ [.iter (some b) es none es] := by
      have := hput_end (σ.set b IObj.dead) (.iter (some b) es none es)
      rwa [hlen] at this
     rw [e1] at h1
     exact h1
   ·exact h.elim
  ·rename_i kt et hu hx
   have hv := opS_vr hE hx (hwo x (by rw [hop]; rfl))
   generalize hev : a.eval x = v at hv
   cases hv
   have hrun := run_range_nilMap (P := P) w t kt et hu
   have hle : μ.le (μ.add σ.length 0 0 0 (.at_ w.heap.size 0)) := Mu.le_add hnb
   have hw : ∀ k, k < w.heap.size → (μ.u σ.length → ∀ off, μ.pl σ.length ≠ .at_ k off) → (w.alloc (.mapIter none 0 #[] 0)).heap[k]? = w.heap[k]? := fun k hk _ => Below.heap_alloc _ _ _ hk
   have hch := hH.change (b := σ.length) (o' := .iter none [] none []) (w' := w.alloc (.mapIter none 0 #[] 0)) hle (fun x e => Mu.add_other x e) hw (fun g off _ e => by simp [Mu.add] at e; obtain ⟨rfl, rfl⟩ := e; simp) (by simp) rfl rfl ⟨rfl, Nat.le_refl _⟩ (hH.notItN hnb)
    ⟨.inl rfl, by simp [Mu.add], w.heap.size, by simp [Mu.add], .inl ⟨rfl, rfl, _, _, _, heap_alloc_new _ _⟩⟩
   refine ⟨.pointer (some ⟨w.heap.size, 0, none⟩), _, _, _, _, ?_, h, ?_, ?_, hch.2⟩
   ·simp [execOp, hop, hev, hrun]
   ·exact .iter _ _ rfl (show _ ∨ _ from .inl rfl) (by simp [Mu.add, IterOK]) (by simp [Mu.add])
   ·have h1 := hch.1
    rw [hput_end] at h1
    exact h1
  ·rename_i kt et es hu hx
   have hv := opS_vr hE hx (hwo x (by rw [hop]; rfl))
   generalize hev : a.eval x = v at hv
   cases hv with
   | fm g _ es' cl hFg hg hfl hen hnd hcl =>
   have hrun := run_range_map (P := P) w t kt et g es' cl hu hg
   have hle : μ.le (μ.add σ.length 0 0 0 (.at_ w.heap.size 0)) := Mu.le_add hnb
   have hw : ∀ k, k < w.heap.size → (μ.u σ.length → ∀ off, μ.pl σ.length ≠ .at_ k off) → (w.alloc (.mapIter (some g) cl #[] cl)).heap[k]? = w.heap[k]? := fun k hk _ => Below.heap_alloc _ _ _ hk
   have hglt := hH.flt g (F.sub g hFg)
   have hch := hH.change (b := σ.length) (o' := .iter none es none es) (w' := w.alloc (.mapIter (some g) cl #[] cl)) hle (fun x e => Mu.add_other x e) hw (fun g off _ e => by simp [Mu.add] at e; obtain ⟨rfl, rfl⟩ := e; simp) (by simp) rfl rfl ⟨rfl, Nat.le_refl _⟩ (hH.notItN hnb)
    ⟨.inl rfl, by simp [Mu.add], w.heap.size, by simp [Mu.add], .inr ⟨g, es', cl, cl, #[], hFg, (Below.heap_alloc _ _ _ hglt).trans hg, heap_alloc_new _ _, Nat.le_refl _, hcl, hnd, ⟨hen, hfl⟩, by
     have : es'.toList.filter (fun e => !(#[] : Array Nat).contains e.born) = es'.toList := List.filter_eq_self.2 fun _ _ => by simp
     rw [this]; exact ⟨hen, hfl⟩, by simp⟩⟩
   refine ⟨.pointer (some ⟨w.heap.size, 0, none⟩), _, _, _, _, ?_, h, ?_, ?_, hch.2⟩
   ·simp [execOp, hop, hev, hrun]
   ·exact .iter _ _ rfl (show _ ∨ _ from .inl rfl) (by simp [Mu.add, IterOK]) (by simp [Mu.add])
   ·have h1 := hch.1
    rw [hput_end] at h1
    exact h1
  ·exact h.elim
 ·rename_i x hop
  split at h
  ·rename_i x' hx
   split at h
   ·rename_i b es cur todo hb
    have hv := opS_vr hE hx (hwo x (by rw [hop]; rfl))
    obtain ⟨hu, hsz0, g, hpl, hI⟩ := hH.obj x' _ hb
    generalize hev : a.eval x = v at hv
    cases hv with
    | iter _ _ _ _ hok _ =>
    rw [hpl] at hok
    have hv' : v = .pointer (some ⟨g, 0, none⟩) := hok
    subst hv'
    have hglt := hH.lt x' g 0 hu hpl
    cases b with
    | none =>
     rcases hI with ⟨rfl, _, s, q, c, hg⟩ | ⟨gm, es', cl, since, seen, hFg, q2, q3, q4, q5, q6, q7, q8, q9⟩
     ·refine ⟨.tuple #[.bool false], w, μ, _, _, ?_, h.1 rfl, ?_, hH, Ext.refl _ _ _⟩
      ·simp [execOp, hop, hev, Instr.next, getObj, Sem.run_bind, Sem.run, hg, Result.andThen]
      ·have := VR.tup (μ := μ) (F := F) (w := w) [.bool false] [.bool false] rfl (fun j v c h1 h2 => by
        cases j with
        | zero => simp at h1 h2; subst h1; subst h2; exact .bool _
        | succ j => simp at h1)
       exact this
     ·have q8' : EntsR μ F w (es'.toList.filter fun e => !seen.contains e.born) todo := q8.ents
      rcases run_next_at (P := P) w o.type g gm since cl seen es' cl q3 q2 q5 q4 with ⟨h0, hrun⟩ | ⟨en, hen, w1, hw1, hrun⟩
      ·have hl : es'.toList.filter (fun e => !seen.contains e.born) = [] := by
        have : (leftOf es' seen).toList = [] := by rw [Array.toList_eq_nil_iff]; exact Array.eq_empty_of_size_eq_zero h0
        simpa [leftOf] using this
       have ht : todo = [] := List.eq_nil_of_length_eq_zero (by rw [← q8'.1, hl]; rfl)
       refine ⟨.tuple #[.bool false], w, μ, _, _, ?_, h.1 ht, ?_, hH, Ext.refl _ _ _⟩
       ·simp [execOp, hop, hev, hrun]
       ·have := VR.tup (μ := μ) (F := F) (w := w) [.bool false] [.bool false] rfl (fun j v c h1 h2 => by
         cases j with
         | zero => simp at h1 h2; subst h1; subst h2; exact .bool _
         | succ j => simp at h1)
        exact this
      ·have hen' : en ∈ es'.toList.filter (fun e => !seen.contains e.born) := by simpa [leftOf] using hen
       obtain ⟨i, hi⟩ := List.mem_iff_getElem?.1 hen'
       have hilt := (List.getElem?_eq_some_iff.1 hi).1
       have e2 : todo[i]? = some (todo[i]'(by rw [← q8'.1]; exact hilt)) := List.getElem?_eq_getElem _
       obtain ⟨vk, vv⟩ := q8'.2 i en _ hi e2
       have hmem : en ∈ es'.toList := (List.mem_filter.1 hen').1
       have hgg : gm ≠ g := fun e => by rw [e, q3] at q2; cases q2
       have hheap : ∀ k, k ≠ g → (ChangeMaps.setBlock w1 g (.mapIter (some gm) since (seen.push en.born) cl)).heap[k]? = w.heap[k]? := fun k hk => by
        have : (ChangeMaps.setBlock w1 g (.mapIter (some gm) since (seen.push en.born) cl)).heap[k]? = w1.heap[k]? := by simp [ChangeMaps.setBlock, Array.getElem?_setIfInBounds_ne (Ne.symm hk)]
        rw [this]; rcases hw1 with rfl | rfl <;> rfl
       have hheapg : (ChangeMaps.setBlock w1 g (.mapIter (some gm) since (seen.push en.born) cl)).heap[g]? = some (.mapIter (some gm) since (seen.push en.born) cl) := by
        have : g < w1.heap.size := by rcases hw1 with rfl | rfl <;> exact hglt
        simp [ChangeMaps.setBlock, this]
       have hw : ∀ k, k < w.heap.size → (μ.u x' → ∀ off, μ.pl x' ≠ .at_ k off) → (ChangeMaps.setBlock w1 g (.mapIter (some gm) since (seen.push en.born) cl)).heap[k]? = w.heap[k]? := fun k _ hk => hheap k fun e => by subst e; exact hk hu 0 hpl
       have hfs := hH.frozen_same hw
       have hmv : ∀ {v : Value} {c : IV}, VR μ F w v c → VR μ F (ChangeMaps.setBlock w1 g (.mapIter (some gm) since (seen.push en.born) cl)) v c := fun h => h.mono (Mu.le_refl _) (fun _ h => h) hfs
       have hfil : es'.toList.filter (fun e => !(seen.push en.born).contains e.born) = (es'.toList.filter fun e => !seen.contains e.born).eraseIdx i := by
        rw [← erase_filter _ i en _ hi, List.filter_filter]
        ·refine List.filter_congr fun y _ => ?_
         simp [Array.contains_push]
         by_cases h1 : y.born = en.born <;> simp [h1]
        ·exact (List.filter_sublist.map _).nodup q6
       have hfe : fltM (todo.eraseIdx i) = true := List.all_eq_true.2 fun p hp => List.all_eq_true.1 q8.2 p (List.mem_of_mem_eraseIdx hp)
       have hfk := fltM_mem q8.2 (List.mem_of_getElem? e2)
       have hsz : (ChangeMaps.setBlock w1 g (.mapIter (some gm) since (seen.push en.born) cl)).heap.size = w1.heap.size := by simp [ChangeMaps.setBlock]
       have hch := hH.change (b := x') (o' := .iter none es (some (todo[i]'(by rw [← q8'.1]; exact hilt))) (todo.eraseIdx i)) (w' := ChangeMaps.setBlock w1 g (.mapIter (some gm) since (seen.push en.born) cl)) (Mu.le_refl μ) (fun _ _ => ⟨rfl, rfl, rfl, rfl, Iff.rfl⟩) hw
        (fun g' off' hu' e => ⟨.inr ⟨hu', off', e⟩, by
         have : g' < w.heap.size := hH.lt x' g' off' hu' e
         rw [hsz]; rcases hw1 with rfl | rfl <;> exact this⟩)
        (by rw [hsz]; rcases hw1 with rfl | rfl <;> exact Nat.le_refl _) (by rcases hw1 with rfl | rfl <;> rfl) (by rcases hw1 with rfl | rfl <;> rfl) (by rcases hw1 with rfl | rfl <;> first | exact ⟨rfl, Nat.le_refl _⟩ | exact ⟨rfl, Nat.le_succ _⟩ | exact ⟨rfl, Nat.le_add_right _ _⟩) (hH.notIt hb (by intro h; cases h))
        ⟨hu, hsz0, g, hpl, .inr ⟨gm, es', cl, since, seen.push en.born, hFg, (hheap gm hgg).trans q2, hheapg, q4, q5, q6, q7, by rw [hfil]; exact EntsR.entsV (q8'.erase i) hfe, fun kv ekv => by
         cases ekv
         exact ⟨en, hmem, by simp, vr_flt hfk.1 vk, vr_flt hfk.2 vv, hfk.1, hfk.2⟩⟩⟩ rfl (by intros; intro h; cases h)
        (fun y es2 cur2 todo2 o2 ho2 hy => by cases ho2)
       have hput : Idl.hput σ x' (.iter none es (some (todo[i]'(by rw [← q8'.1]; exact hilt))) (todo.eraseIdx i)) = σ.set x' (.iter none es (some (todo[i]'(by rw [← q8'.1]; exact hilt))) (todo.eraseIdx i)) := hput_set (List.getElem?_eq_some_iff.1 hb).1
       rw [hput] at hch
       refine ⟨.tuple #[.bool true, en.key, en.val], _, μ, _, _, ?_, h.2 i _ e2, ?_, hch.1, hch.2⟩
       ·simp [execOp, hop, hev, hrun]
       ·refine VR.tup [.bool true, en.key, en.val] _ rfl fun j v c h1 h2 => ?_
        match j with
        | 0 => simp at h1 h2; subst h1; subst h2; exact .bool _
        | 1 => simp at h1 h2; subst h1; subst h2; exact hmv vk
        | 2 => simp at h1 h2; subst h1; subst h2; exact hmv vv
        | j + 3 => simp at h1
    | some b =>
     obtain ⟨hub, hsb, gm, es', cl, since, seen, q1, q2, q3, q4, q5, q6, q7, q8, q9⟩ := hI
     rcases run_next_at (P := P) w o.type g gm since cl seen es' cl q3 q2 q5 q4 with ⟨h0, hrun⟩ | ⟨en, hen, w1, hw1, hrun⟩
     ·have hl : es'.toList.filter (fun e => !seen.contains e.born) = [] := by
       have : (leftOf es' seen).toList = [] := by rw [Array.toList_eq_nil_iff]; exact Array.eq_empty_of_size_eq_zero h0
       simpa [leftOf] using this
      have ht : todo = [] := List.eq_nil_of_length_eq_zero (by rw [← q8.1, hl]; rfl)
      refine ⟨.tuple #[.bool false], w, μ, _, _, ?_, h.1 ht, ?_, hH, Ext.refl _ _ _⟩
      ·simp [execOp, hop, hev, hrun]
      ·have := VR.tup (μ := μ) (F := F) (w := w) [.bool false] [.bool false] rfl (fun j v c h1 h2 => by
        cases j with
        | zero => simp at h1 h2; subst h1; subst h2; exact .bool _
        | succ j => simp at h1)
       exact this
     ·have hen' : en ∈ es'.toList.filter (fun e => !seen.contains e.born) := by simpa [leftOf] using hen
      obtain ⟨i, hi⟩ := List.mem_iff_getElem?.1 hen'
      have hilt := (List.getElem?_eq_some_iff.1 hi).1
      have e2 : todo[i]? = some (todo[i]'(by rw [← q8.1]; exact hilt)) := List.getElem?_eq_getElem _
      obtain ⟨vk, vv⟩ := q8.2 i en _ hi e2
      have hmem : en ∈ es'.toList := (List.mem_filter.1 hen').1
      have hgg : gm ≠ g := fun e => by rw [e, q3] at q2; cases q2
      have hheap : ∀ k, k ≠ g → (ChangeMaps.setBlock w1 g (.mapIter (some gm) since (seen.push en.born) cl)).heap[k]? = w.heap[k]? := fun k hk => by
       have : (ChangeMaps.setBlock w1 g (.mapIter (some gm) since (seen.push en.born) cl)).heap[k]? = w1.heap[k]? := by simp [ChangeMaps.setBlock, Array.getElem?_setIfInBounds_ne (Ne.symm hk)]
       rw [this]; rcases hw1 with rfl | rfl <;> rfl
      have hheapg : (ChangeMaps.setBlock w1 g (.mapIter (some gm) since (seen.push en.born) cl)).heap[g]? = some (.mapIter (some gm) since (seen.push en.born) cl) := by
       have : g < w1.heap.size := by rcases hw1 with rfl | rfl <;> exact hglt
       simp [ChangeMaps.setBlock, this]
      have hw : ∀ k, k < w.heap.size → (μ.u x' → ∀ off, μ.pl x' ≠ .at_ k off) → (ChangeMaps.setBlock w1 g (.mapIter (some gm) since (seen.push en.born) cl)).heap[k]? = w.heap[k]? := fun k _ hk => hheap k fun e => by subst e; exact hk hu 0 hpl
      have hfs := hH.frozen_same hw
      have hmv : ∀ {v : Value} {c : IV}, VR μ F w v c → VR μ F (ChangeMaps.setBlock w1 g (.mapIter (some gm) since (seen.push en.born) cl)) v c := fun h => h.mono (Mu.le_refl _) (fun _ h => h) hfs
      have hfil : es'.toList.filter (fun e => !(seen.push en.born).contains e.born) = (es'.toList.filter fun e => !seen.contains e.born).eraseIdx i := by
       rw [← erase_filter _ i en _ hi, List.filter_filter]
       ·refine List.filter_congr fun y _ => ?_
        simp [Array.contains_push]
        by_cases h1 : y.born = en.born <;> simp [h1]
       ·exact (List.filter_sublist.map _).nodup q6
      have hch := hH.change (b := x') (o' := .iter (some b) es (some (todo[i]'(by rw [← q8.1]; exact hilt))) (todo.eraseIdx i)) (w' := ChangeMaps.setBlock w1 g (.mapIter (some gm) since (seen.push en.born) cl)) (Mu.le_refl μ) (fun _ _ => ⟨rfl, rfl, rfl, rfl, Iff.rfl⟩) hw
       (fun g' off' hu' e => ⟨.inr ⟨hu', off', e⟩, by
        have : g' < w.heap.size := hH.lt x' g' off' hu' e
        have e3 : (ChangeMaps.setBlock w1 g (.mapIter (some gm) since (seen.push en.born) cl)).heap.size = w1.heap.size := by simp [ChangeMaps.setBlock]
        rw [e3]; rcases hw1 with rfl | rfl <;> exact this⟩)
       (by
        have e3 : (ChangeMaps.setBlock w1 g (.mapIter (some gm) since (seen.push en.born) cl)).heap.size = w1.heap.size := by simp [ChangeMaps.setBlock]
        rw [e3]; rcases hw1 with rfl | rfl <;> exact Nat.le_refl _) (by rcases hw1 with rfl | rfl <;> rfl) (by rcases hw1 with rfl | rfl <;> rfl) (by rcases hw1 with rfl | rfl <;> first | exact ⟨rfl, Nat.le_refl _⟩ | exact ⟨rfl, Nat.le_succ _⟩ | exact ⟨rfl, Nat.le_add_right _ _⟩) (hH.notIt hb (by intro h; cases h))
       ⟨hu, hsz0, g, hpl, hub, hsb, gm, es', cl, since, seen.push en.born, q1, (hheap gm hgg).trans q2, hheapg, q4, q5, q6, q7.mono hmv, by rw [hfil]; exact (q8.mono hmv).erase i, fun kv ekv => by
        cases ekv
        exact ⟨en, hmem, by simp, hmv vk, hmv vv⟩⟩ rfl (by intros; intro h; cases h)
       (fun y es2 cur2 todo2 o2 ho2 hy => by
        cases ho2
        by_cases hbx : b = x'
        ·subst hbx
         have := hH.itd b b es cur todo _ hb hb
         cases this
        ·rw [getElem?_hput, if_neg hbx] at hy
         split at hy
         ·exact hH.itd x' b es cur todo o2 hb hy
         ·exfalso
          obtain ⟨o4, o5, _⟩ := hH.n b hub
          have := (List.getElem?_eq_some_iff.1 o5).1
          omega)
      have hput : Idl.hput σ x' (.iter (some b) es (some (todo[i]'(by rw [← q8.1]; exact hilt))) (todo.eraseIdx i)) = σ.set x' (.iter (some b) es (some (todo[i]'(by rw [← q8.1]; exact hilt))) (todo.eraseIdx i)) := hput_set (List.getElem?_eq_some_iff.1 hb).1
      rw [hput] at hch
      refine ⟨.tuple #[.bool true, en.key, en.val], _, μ, _, _, ?_, h.2 i _ e2, ?_, hch.1, hch.2⟩
      ·simp [execOp, hop, hev, hrun]
      ·refine VR.tup [.bool true, en.key, en.val] _ rfl fun j v c h1 h2 => ?_
       match j with
       | 0 => simp at h1 h2; subst h1; subst h2; exact .bool _
       | 1 => simp at h1 h2; subst h1; subst h2; exact hmv vk
       | 2 => simp at h1 h2; subst h1; subst h2; exact hmv vv
       | j + 3 => simp at h1
   ·exact h.elim
  ·exact h.elim
 ·rename_i x hop
  split at h
  ·rename_i x' hx
   split at h
   ·rename_i b es kv todo hb
    have hv := opS_vr hE hx (hwo x (by rw [hop]; rfl))
    obtain ⟨hu, hsz, g, hpl, hI⟩ := hH.obj x' _ hb
    generalize hev : a.eval x = v at hv
    cases hv with
    | iter _ _ _ _ hok _ =>
    rw [hpl] at hok
    have hv' : v = .pointer (some ⟨g, 0, none⟩) := hok
    subst hv'
    have hI' : ∃ gm es' cl since seen en, w.heap[gm]? = some (.map es' cl) ∧ w.heap[g]? = some (.mapIter (some gm) since seen cl) ∧ (es'.toList.map (·.born)).Nodup ∧ en ∈ es'.toList ∧ seen.back? = some en.born ∧ VR μ F w en.key kv.1 ∧ VR μ F w en.val kv.2 := by
     cases b with
     | none =>
      rcases hI with ⟨_, hc, _⟩ | ⟨gm, es', cl, since, seen, hFg, q2, q3, q4, q5, q6, q7, q8, q9⟩
      ·cases hc
      ·obtain ⟨en, e1, e2, e3, e4, e5, e6⟩ := q9 kv rfl
       exact ⟨gm, es', cl, since, seen, en, q2, q3, q6, e1, e2, by rw [e3]; exact flt_vr e5, by rw [e4]; exact flt_vr e6⟩
     | some b =>
      obtain ⟨hub, hsb, gm, es', cl, since, seen, q1, q2, q3, q4, q5, q6, q7, q8, q9⟩ := hI
      obtain ⟨en, e1, e2, e3, e4⟩ := q9 kv rfl
      exact ⟨gm, es', cl, since, seen, en, q2, q3, q6, e1, e2, e3, e4⟩
    obtain ⟨gm, es', cl, since, seen, en, q2, q3, q6, e1, e2, e3, e4⟩ := hI'
    obtain ⟨s', rfl⟩ : ∃ s' : Array Nat, seen = s'.push en.born := by
     rw [Array.back?_eq_some_iff] at e2
     exact e2
    have hrun := run_entry_at (P := P) w g gm since s' es' cl en q3 q2 e1 q6
    refine ⟨.tuple #[en.key, en.val], w, μ, _, _, ?_, h, ?_, hH, Ext.refl _ _ _⟩
    ·simp [execOp, hop, hev, hrun]
    ·refine VR.tup [en.key, en.val] _ rfl fun j v c h1 h2 => ?_
     match j with
     | 0 => simp at h1 h2; subst h1; subst h2; exact e3
     | 1 => simp at h1 h2; subst h1; subst h2; exact e4
     | j + 2 => simp at h1
   ·exact h.elim
  ·exact h.elim
 ·rename_i t x ty hop
  split at h
  ·rename_i el c hu hx
   have hv := opS_vr hE hx (whens_mem hwh x (by rw [hop]; simp [Op.operands]))
   have fin : ∀ (s : Option Addr) (n k : Nat), a.eval x = .slice s n k → K (.bool s.isNone) σ → ∃ v w' μ' r σ', (execOp a.eval o).run P w = .ok (.value v) w' ∧ K r σ' ∧ VR μ' F w' v r ∧ HR μ' F σ' w' ∧ Ext μ F w μ' F w' := fun s n k hev hk => by
    refine ⟨.bool s.isNone, w, μ, _, _, ?_, hk, .bool _, hH, Ext.refl _ _ _⟩
    have he := equal_any_nil hu s n k w
    have hz : a.eval (.const (.slice none 0 0)) = .slice none 0 0 := rfl
    have hg : eqGuard .eql t x (.const (.slice none 0 0)) (.slice s n k) (.slice none 0 0) = pure () := rfl
    simp [execOp, hop, hev, hz, hg, binOp, he]
   unfold nilQ at h
   generalize hev : a.eval x = v at hv
   split at h
   ·cases hv; exact fin _ _ _ hev h
   ·cases hv with
    | fz g off _ _ cap us hF hrow hcell hv hcap => exact fin _ _ _ hev h.1
    | fz0 s cap _ =>
     cases s with
     | none => exact fin _ _ _ hev (h.2 rfl)
     | some s => exact fin _ _ _ hev h.1
   ·exact h.elim
  ·exact h.elim
 ·exact h.elim
theorem xPure_nodefer {o : Oper} {g : Bool} {nb : Nat} {r : Prop × Out} (h : xPure P o e g σ nb = some r) : ∀ c, o.op ≠ .defer c := fun c hc => by
 unfold xPure at h
 rw [hc] at h
 simp [iop] at h
theorem xOps_sound {ro : Option Nat} {ops : Array Oper} {Q : Exit → Act → World → Prop} : ∀ (rest : List Oper) (e : Env) (σ : Heap) (K : Env → Heap → Prop), xOps P ops.toList rest e σ K → ∀ (μ : Mu) (F : Fz) (a : Act) (w : World), EnvR μ F w a.tmps e → HR μ F σ w →
  (∀ e' σ' μ' F' a' w', K e' σ' → EnvR μ' F' w' a'.tmps e' → HR μ' F' σ' w' → Ext μ F w μ' F' w' → a'.defers = a.defers → Q .normal a' w') → wpListIn (Rd ro) 0 P ops Q rest a w
 | [], e, σ, K, h, μ, F, a, w, hE, hH, hQ => hQ _ _ _ _ _ _ h hE.clean hH (Ext.refl _ _ _) rfl
 | o :: rest, e, σ, K, h, μ, F, a, w, hE, hH, hQ => by
  simp only [xOps] at h
  split at h
  ·exact h.elim
  ·rename_i g hg
   have hwant := wantOf_sound hE hg
   have hput : ∀ (d : Option Tmp) (v : Value), (a.put d v).defers = a.defers := fun d v => by cases d <;> rfl
   have skip : ∀ {e' : Env} {c : IV}, e' = e.putO o.dst c → VR μ F w undef c → xOps P ops.toList rest e' σ K → g = false → wpListIn (Rd ro) 0 P ops Q (o :: rest) a w := fun {e' c} he hc hk hgf => by
    subst he
    unfold wpListIn
    rw [hwant, hgf]
    refine ⟨fun _ _ => trivial, ?_⟩
    exact xOps_sound rest _ σ K hk μ F _ w (hE.putO o.dst hc) hH fun e' σ' μ' F' a' w' k1 k2 k3 k4 k5 => hQ e' σ' μ' F' a' w' k1 k2 k3 k4 (k5.trans (hput _ _))
   have doit : ∀ {c : Prop} {r : Out} {e' : Env}, xPure P o e true σ σ.length = some (c, r) → c → r.pre → (∀ {μ' : Mu} {w' : World} {u : Value}, VR μ' F w' u r.v → EnvR μ' F w' a.tmps e → EnvR μ' F w' (a.put o.dst u).tmps e') → xOps P ops.toList rest e' (upd σ r.w) K → g = true → wpListIn (Rd ro) 0 P ops Q (o :: rest) a w := fun {c r e'} hx hc hp he hk hgt => by
    unfold wpListIn
    rw [hwant, hgt]
    refine ⟨fun _ _ => trivial, ?_⟩
    rw [Oper.semAt_eq _ _ _ (xPure_nodefer hx)]
    obtain ⟨u, w', μ', hres, hv, hH', hext⟩ := xPure_goes hE hH (fun hu => by obtain ⟨o, h1, _⟩ := hH.n _ hu; simp at h1) hx hc hp
    rcases hres with hres | ⟨hres, hu⟩
    ·rw [hres]
     exact xOps_sound rest _ _ K hk μ' F _ w' (he hv (hext.env hE)) hH' fun e' σ' μ'' F' a' w'' k1 k2 k3 k4 k5 => hQ e' σ' μ'' F' a' w'' k1 k2 k3 (hext.trans k4) (k5.trans (hput _ _))
    ·rw [hres]
     subst hu
     exact xOps_sound rest _ _ K hk μ' F _ w' (he hv (hext.env hE)) hH' fun e' σ' μ'' F' a' w'' k1 k2 k3 k4 k5 => hQ e' σ' μ'' F' a' w'' k1 k2 k3 (hext.trans k4) (k5.trans (hput _ _))
   unfold xOp at h
   split at h
   ·rename_i hit
    cases g with
    | false => exact skip rfl vr_tup0 (h.2 rfl) rfl
    | true =>
     obtain ⟨hwh, hq⟩ := h.1 rfl
     obtain ⟨v, w', μ', r, σ', hres, hk, hv, hH', hext⟩ := iter_goes hE hH hwh hq
     unfold wpListIn
     rw [hwant]
     refine ⟨fun _ _ => trivial, ?_⟩
     rw [Oper.semAt_eq _ _ _ (fun c hc => by rw [hc] at hit; cases hit), hres]
     exact xOps_sound rest _ _ K hk μ' F _ w' ((hext.env hE).putO o.dst hv) hH' fun e' σ' μ'' F' a' w'' k1 k2 k3 k4 k5 => hQ e' σ' μ'' F' a' w'' k1 k2 k3 (hext.trans k4) (k5.trans (hput _ _))
   split at h
   ·rename_i f args hcall
    cases g with
    | false => exact skip rfl vr_tup0 (h.2 rfl) rfl
    | true =>
     obtain ⟨hwh, hcalls⟩ := h.1 rfl
     unfold callOf at hcall
     split at hcall
     ·rename_i c hop
      split at hcall
      ·rename_i fo hcal
       split at hcall
       ·rename_i fid first cap hfo
        simp only [Option.map_eq_some_iff, Prod.mk.injEq] at hcall
        obtain ⟨as, has, rfl, rfl⟩ := hcall
        obtain ⟨hent, hcalls⟩ := hcalls
        have hwf : e.wh fo = true := whens_mem hwh fo (by simp [hop, Op.operands, Call.operands, hcal])
        have hwa : ∀ y ∈ c.args.toList, e.wh y = true := fun y hy => whens_mem hwh y (by simp [hop, Op.operands, Call.operands]; exact .inr (by simpa using hy))
        have hvf := opS_vr hE hfo hwf
        have hva : VRs μ F w (c.args.toList.map a.eval) as := args_vrs hE hwa has
        generalize hfv : a.eval fo = fv at hvf
        cases hvf with
        | func _ fs cs _ _ hf hc h1 h2 =>
         unfold wpListIn
         rw [hwant]
         refine ⟨fun _ _ => trivial, ?_⟩
         rw [Oper.semAt_eq _ _ _ (fun c' hc' => by rw [hop] at hc'; cases hc')]
         have hrun : (execOp a.eval o).run P w = .ok (.enter fid (fs ++ c.args.toList.map a.eval ++ cs).toArray) w := by
          simp only [execOp, hop, resolve, hcal, hfv, Deferred.ofValue, Sem.run_bind, Sem.run_pure, Result.andThen_ok, invoke]
          rw [hent]
          congr 2
          apply Array.ext'
          simp
         rw [hrun, Oper.uponIn_enter]
         refine ⟨fun h => by simp [Rd, Fence.wide] at h, ?_⟩
         refine (callsIn_wide (n := 0 - 1)).2 ((hcalls μ F w (fs ++ c.args.toList.map a.eval ++ cs) hH (VRs.append (VRs.append ⟨hf, h1⟩ hva) ⟨hc, h2⟩) hE.glob).mono fun en w' ⟨v, r, σ', μ', F', e1, hk, hv, hH', hext⟩ => ?_)
         subst e1
         exact xOps_sound rest _ _ K hk μ' F' _ w' ((hext.env hE).putO o.dst hv) hH' fun e' σ' μ'' F'' a' w'' k1 k2 k3 k4 k5 => hQ e' σ' μ'' F'' a' w'' k1 k2 k3 (hext.trans k4) (k5.trans (hput _ _))
       ·rename_i l hfo
        simp only [Option.map_eq_some_iff, Prod.mk.injEq] at hcall
        obtain ⟨as, has, rfl, rfl⟩ := hcall
        have hwf : e.wh fo = true := whens_mem hwh fo (by simp [hop, Op.operands, Call.operands, hcal])
        have hwa : ∀ y ∈ c.args.toList, e.wh y = true := fun y hy => whens_mem hwh y (by simp [hop, Op.operands, Call.operands]; exact .inr (by simpa using hy))
        have hvf := opS_vr hE hfo hwf
        have hva : VRs μ F w (c.args.toList.map a.eval) as := args_vrs hE hwa has
        generalize hfv : a.eval fo = fv at hvf
        cases hvf with
        | func _ fs cs _ _ hf hc h1 h2 =>
         obtain rfl := List.eq_nil_of_length_eq_zero hf
         obtain rfl := List.eq_nil_of_length_eq_zero hc
         unfold wpListIn
         rw [hwant]
         refine ⟨fun _ _ => trivial, ?_⟩
         rw [Oper.semAt_eq _ _ _ (fun c' hc' => by rw [hop] at hc'; cases hc')]
         obtain ⟨fn, tmps, as', body, hy, hround⟩ := hcalls μ F w (c.args.toList.map a.eval) hH hva hE.glob
         have hrun : (execOp a.eval o).run P w = .ok (.round l fn tmps as' body) w := by
          simp only [execOp, hop, resolve, hcal, hfv, Deferred.ofValue, Sem.run_bind, Sem.run_pure, Result.andThen_ok, invoke]
          rw [← hy]
          congr 2
          apply Array.ext'
          simp
         rw [hrun, Oper.uponIn_round]
         refine ⟨fun h => by simp [Rd, Fence.wide] at h, ?_⟩
         refine RoundIn.mono hround fun en w' ⟨v, r, σ', μ', F', e1, hk, hv, hH', hext⟩ => ?_
         subst e1
         exact xOps_sound rest _ _ K hk μ' F' _ w' ((hext.env hE).putO o.dst hv) hH' fun e' σ' μ'' F'' a' w'' k1 k2 k3 k4 k5 => hQ e' σ' μ'' F'' a' w'' k1 k2 k3 (hext.trans k4) (k5.trans (hput _ _))
       ·cases hcall
      ·cases hcall
     ·cases hcall
   ·split at h
    ·rename_i c r hx
     split at h
     ·rename_i hw
      obtain ⟨⟨hc, hp⟩, hk⟩ := h
      cases g with
      | true => exact doit (e' := putG e o.guard.isSome true o.dst r.v) hx hc (hp rfl) (fun hv hE' => by
        unfold putG
        cases o.guard.isSome with
        | true => exact hE'.putO o.dst (.opt true _ _ (fun _ => hv) (by simp))
        | false => exact hE'.putO o.dst hv) (by rw [hw]; exact hk) rfl
      | false =>
       have hgd : o.guard.isSome = true := by
        cases hgd : o.guard with
        | some _ => rfl
        | none => unfold wantOf at hg; rw [hgd] at hg; cases hg
       refine skip (c := .opt false r.v) (by unfold putG; rw [hgd]; rfl) (.opt false _ _ (by simp) (fun _ => rfl)) hk rfl
     ·rename_i b ob hw
      cases g with
      | false => exact skip rfl vr_tup0 (h.2 rfl) rfl
      | true =>
       obtain ⟨hc, hp, hk⟩ := h.1 rfl
       exact doit hx hc hp (fun hv hE' => hE'.putO o.dst hv) (by rw [hw]; exact hk) rfl
    ·exact skip rfl vr_tup0 h.2 h.1
end
end Go.Idl
namespace Go.Idl
open Go.RowKit
inductive XExit where
 | normal
 | exit (id : Nat)
 | ret
def XExit.rel : XExit → Exit → Prop
 | .normal, .normal => True
 | .exit i, .exit j => i = j
 | .ret, .ret => True
 | _, _ => False
abbrev XPost := XExit → Env → Heap → Prop
def RoOK (ro : Option Nat) (F : Fz) (w : World) : Prop := match ro with | none => True | some l => F.u l ∧ ∃ r, w.heap[l]? = some (.loop r)
def markOf (D : Nat) : Deferred := { target := .collected D, args := #[] }
def Marks (w : World) (F' : Fz) (w' : World) (ds ds' : List Deferred) : Prop :=
 ∃ ms : List Nat, ds' = ms.map markOf ++ ds ∧ ms.Nodup ∧ ∀ D ∈ ms, w.heap.size ≤ D ∧ F'.u D ∧ ¬ F'.f D ∧ w'.heap[D]? = some (.deferred (some []))
theorem Marks.refl {w : World} {F' : Fz} {w' : World} {ds ds' : List Deferred} (h : ds' = ds) : Marks w F' w' ds ds' := ⟨[], by simp [h], List.nodup_nil, by simp⟩
theorem Marks.trans {μ' μ'' : Mu} {σ : Heap} {F' F'' : Fz} {w w' w'' : World} {a b c : List Deferred} (h : Marks w F' w' a b) (k : Marks w' F'' w'' b c) (hH : HR μ' F' σ w') (hsz : w.heap.size ≤ w'.heap.size) (hX : Ext μ' F' w' μ'' F'' w'') : Marks w F'' w'' a c := by
 obtain ⟨ms, rfl, h2, h3⟩ := h
 obtain ⟨ns, rfl, k2, k3⟩ := k
 refine ⟨ns ++ ms, by simp, List.nodup_append.2 ⟨k2, h2, fun x hx y hy e => ?_⟩, fun D hD => ?_⟩
 ·subst e
  have h1 := (k3 x hx).1
  have h2 := hH.flt x (h3 x hy).2.1
  omega
 ·rcases List.mem_append.1 hD with hD | hD
  ·obtain ⟨q1, q2, q3, q4⟩ := k3 D hD
   exact ⟨by omega, q2, q3, q4⟩
  ·obtain ⟨q1, q2, q3, q4⟩ := h3 D hD
   exact ⟨q1, hX.fu D q2, fun hf => (hX.new D hf).elim q3 fun hn => hn q2, (hX.same D q2).trans q4⟩
def IPost (Q : XPost) (μ : Mu) (F : Fz) (a : Act) (w : World) (ex : Exit) (a' : Act) (w' : World) : Prop :=
 ∃ xe e' σ' μ' F', XExit.rel xe ex ∧ Q xe e' σ' ∧ EnvR μ' F' w' a'.tmps e' ∧ HR μ' F' σ' w' ∧ Ext μ F w μ' F' w' ∧ Marks w F' w' a.defers a'.defers
def IWp (P : Program) (c : Code) (Q : XPost) (e : Env) (σ : Heap) : Prop :=
 ∀ (ro : Option Nat) (μ : Mu) (F : Fz) (a : Act) (w : World), RoOK ro F w → EnvR μ F w a.tmps e → HR μ F σ w → c.wpIn (Rd ro) 0 P (IPost Q μ F a w) a w
theorem RoOK.ext {ro : Option Nat} {μ μ' : Mu} {F F' : Fz} {w w' : World} (h : RoOK ro F w) (hX : Ext μ F w μ' F' w') : RoOK ro F' w' := by
 cases ro with
 | none => trivial
 | some l => exact ⟨hX.fu l h.1, h.2.imp fun r hr => (hX.same l h.1).trans hr⟩
theorem IPost.ext {Q : XPost} {μ μ' : Mu} {F F' : Fz} {a a' : Act} {w w' : World} {σ' : Heap} {ex : Exit} {a'' : Act} {w'' : World} (h : IPost Q μ' F' a' w' ex a'' w'') (hH : HR μ' F' σ' w') (hX : Ext μ F w μ' F' w') (hm : Marks w F' w' a.defers a'.defers) : IPost Q μ F a w ex a'' w'' :=
 let ⟨xe, e', σ', μ', F', h1, h2, h3, h4, h5, h6⟩ := h
 ⟨xe, e', σ', μ', F', h1, h2, h3, h4, hX.trans h5, hm.trans h6 hH hX.size h5⟩
def thenQ (k : Env → Heap → Prop) (Q : XPost) : XPost
 | .normal, e, σ => k e σ
 | x, e, σ => Q x e σ
def blockQ (id : Nat) (Q : XPost) : XPost
 | .exit i, e, σ => bif Nat.beq i id then Q .normal e σ else Q (.exit i) e σ
 | x, e, σ => Q x e σ
section
variable {P : Program} {Q : XPost} {e : Env} {σ : Heap}
theorem IWp.mono {c : Code} {Q' : XPost} (h : IWp P c Q e σ) (hq : ∀ x e σ, Q x e σ → Q' x e σ) : IWp P c Q' e σ := fun ro μ F a w hR hE hH =>
 wpIn_mono (h ro μ F a w hR hE hH) fun _ _ _ ⟨xe, e', σ', μ', F', h1, h2, h3⟩ => ⟨xe, e', σ', μ', F', h1, hq _ _ _ h2, h3⟩
theorem IWp.skip (h : Q .normal e σ) : IWp P .skip Q e σ := fun ro μ F _ _ hR hE hH => wpIn_skip ⟨.normal, e, σ, μ, F, trivial, h, hE, hH, Ext.refl _ _ _, .refl rfl⟩
theorem IWp.label {l : Nat} (h : Q .normal e σ) : IWp P (.label l) Q e σ := fun ro μ F _ _ hR hE hH => wpIn_label ⟨.normal, e, σ, μ, F, trivial, h, hE, hH, Ext.refl _ _ _, .refl rfl⟩
theorem IWp.ret (h : Q .ret e σ) : IWp P .ret Q e σ := fun ro μ F _ _ hR hE hH => wpIn_ret ⟨.ret, e, σ, μ, F, trivial, h, hE, hH, Ext.refl _ _ _, .refl rfl⟩
theorem IWp.exit {id : Nat} (h : Q (.exit id) e σ) : IWp P (.exit id) Q e σ := fun ro μ F _ _ hR hE hH => wpIn_exit ⟨.exit id, e, σ, μ, F, rfl, h, hE, hH, Ext.refl _ _ _, .refl rfl⟩
theorem IWp.region {id : Nat} {ops : Array Oper} (h : xOps P ops.toList ops.toList e σ fun e σ => Q .normal e σ) : IWp P (.region id ops false) Q e σ := fun ro μ F a w hR hE hH =>
 wpIn_region_list (xOps_sound _ e σ _ h μ F a w hE hH fun e' σ' μ' F' _ _ h1 h2 h3 h4 h5 => ⟨.normal, e', σ', μ', F', trivial, h1, h2, h3, h4, .refl h5⟩)
theorem IWp.seq {c d : Code} (h : IWp P c (thenQ (IWp P d Q) Q) e σ) : IWp P (.seq c d) Q e σ := fun ro μ F a w hR hE hH => by
 refine wpIn_seq (wpIn_mono (h ro μ F a w hR hE hH) ?_)
 rintro ex a' w' ⟨xe, e', σ', μ', F', h1, h2, h3, h4, h5, h6⟩
 cases xe with
 | normal =>
  cases ex <;> simp only [XExit.rel] at h1
  refine wpIn_mono (h2 ro μ' F' a' w' (hR.ext h5) h3 h4) fun ex a'' w'' h => h.ext h4 h5 h6
 | exit i => cases ex <;> simp only [XExit.rel] at h1; exact ⟨.exit i, e', σ', μ', F', h1, h2, h3, h4, h5, h6⟩
 | ret => cases ex <;> simp only [XExit.rel] at h1; exact ⟨.ret, e', σ', μ', F', trivial, h2, h3, h4, h5, h6⟩
theorem IWp.cond {c : Operand} {t f : Code} {b : Bool} (hc : e.opS c = some (.bool b)) (hw : e.wh c = true) (ht : b = true → IWp P t Q e σ) (hf : b = false → IWp P f Q e σ) : IWp P (.cond c t f) Q e σ := fun ro μ F a w hR hE hH => by
 have hv := opS_vr hE hc hw
 generalize hev : a.eval c = v at hv
 cases hv
 exact wpIn_cond_split hev (fun h => ht h ro μ F a w hR hE hH) (fun h => hf h ro μ F a w hR hE hH)
theorem IWp.block {id : Nat} {c : Code} (h : IWp P c (blockQ id Q) e σ) : IWp P (.block id c) Q e σ := fun ro μ F a w hR hE hH => by
 refine wpIn_block (wpIn_mono (h ro μ F a w hR hE hH) ?_)
 rintro ex a' w' ⟨xe, e', σ', μ', F', h1, h2, h3⟩
 cases xe with
 | normal => cases ex <;> simp only [XExit.rel] at h1; exact ⟨.normal, e', σ', μ', F', trivial, h2, h3⟩
 | ret => cases ex <;> simp only [XExit.rel] at h1; exact ⟨.ret, e', σ', μ', F', trivial, h2, h3⟩
 | exit i =>
  cases ex <;> simp only [XExit.rel] at h1
  subst h1
  simp only [blockQ] at h2
  simp only [Exit.inBlock]
  cases hb : Nat.beq i id with
  | true =>
   rw [hb] at h2
   rw [Nat.beq_eq] at hb
   rw [if_pos hb]
   exact ⟨.normal, e', σ', μ', F', trivial, h2, h3⟩
  | false =>
   rw [hb] at h2
   rw [if_neg (fun h => by rw [← Nat.beq_eq] at h; rw [h] at hb; cases hb)]
   exact ⟨.exit i, e', σ', μ', F', rfl, h2, h3⟩
def Env.sub (e' e : Env) : Prop := e'.n = e.n ∧ e'.gl = e.gl ∧ ∀ t c, e'.get t = some c → e.get t = some c
theorem EnvR.sub {μ : Mu} {F : Fz} {w : World} {t : Array Value} {e e' : Env} (h : EnvR μ F w t e) (hs : e'.sub e) : EnvR μ F w t e' :=
 ⟨h.size.trans hs.1.symm, fun t c hc => h.slot t c (hs.2.2 t c hc), fun g c hc => h.glob g c (by rw [← hs.2.1]; exact hc)⟩
theorem wpIn_loop_ghost {F : Fence} {n : Nat} {Q : Exit → Act → World → Prop} {a : Act} {w : World} {c : Code} (I : Nat → Act → World → Prop) (n₀ : Nat) (h₀ : I n₀ a w)
  (round : ∀ n' a w, I n' a w → c.wpIn F n P (Exit.then (fun a' w' => ∃ k, k < n' ∧ I k a' w') Q) a w) : (Code.loop c).wpIn F n P Q a w := by
 refine wpIn_loop (fun a w => ∃ n, I n a w) (fun a w => leastOf (fun n => I n a w)) ⟨n₀, h₀⟩ ?_
 intro a w hI
 refine wpIn_mono (round _ a w (leastOf_spec hI).1) ?_
 intro e a' w' hq
 cases e with
 | normal =>
  obtain ⟨n', hlt, hI'⟩ := hq
  exact show (∃ n, I n a' w') ∧ leastOf (fun n => I n a' w') < leastOf (fun n => I n a w) from ⟨⟨n', hI'⟩, Nat.lt_of_le_of_lt ((leastOf_spec ⟨n', hI'⟩).2 n' hI') hlt⟩
 | exit id => exact hq
 | goto l => exact hq
 | ret => exact hq
 | panic ch => exact hq
 | outgrown => exact hq
def resV (P : Program) (rv : ResultVar) (e : Env) (σ : Heap) : Option (Prop × IV) :=
 match rv with
 | .tmp t => (e.get t).map fun v => (v.when = true, v.strip)
 | .cell a t => bif hasP P t && (aggP P t || Nat.beq (sizeP P t) 1) then match e.get a with
  | some (.ptr b tot i o) => match σ[b]? with
   | some (.rows s rs) => some (tot = rs.length ∧ i < rs.length ∧ o + sizeP P t ≤ s, loadAt (aggP P t) (sizeP P t) (rs.getD i []) o)
   | _ => none
  | _ => none else none
def resVs (P : Program) : List ResultVar → Env → Heap → Option (Prop × List IV)
 | [], _, _ => some (True, [])
 | r :: l, e, σ => match resV P r e σ, resVs P l e σ with
  | some (p, v), some (q, vs) => some (p ∧ q, v :: vs)
  | _, _ => none
def one (l : List IV) : IV := match l with | [v] => v | l => .tup l
def retQ (P : Program) (rs : List ResultVar) (R : IV → Heap → Prop) : XPost
 | .exit _, _, _ => False
 | _, e, σ => match resVs P rs e σ with
  | some (p, l) => p ∧ R (one l) σ
  | none => False
def enum (k : Nat) : List IV → List (Nat × IV)
 | [] => []
 | v :: l => (k, v) :: enum (k + 1) l
theorem eget_enum : ∀ (l : List IV) (k t : Nat) (c : IV), eget (enum k l) t = some c → k ≤ t ∧ l[t - k]? = some c
 | [], k, t, c, h => by simp [enum, eget] at h
 | v :: l, k, t, c, h => by
  simp only [enum, eget] at h
  by_cases e : k = t
  ·subst e; simp at h; subst h; exact ⟨Nat.le_refl _, by simp⟩
  ·have : (k == t) = false := by simpa using e
   rw [this] at h
   obtain ⟨h1, h2⟩ := eget_enum l (k + 1) t c h
   refine ⟨by omega, ?_⟩
   rw [show t - k = (t - (k + 1)) + 1 by omega]
   simpa using h2
theorem res_run {rv : ResultVar} {p : Prop} {v : IV} {μ : Mu} {F : Fz} {w : World} {t : Array Value} (hE : EnvR μ F w t e) (hH : HR μ F σ w) (h : resV P rv e σ = some (p, v)) (hp : p) :
  ∃ u, ((match rv with | .tmp t' => pure (t.getD t' undef) | .cell a ty => do loadVar ty (← asAddr (t.getD a undef)) : Sem Value)).run P w = .ok u w ∧ VR μ F w u v := by
 cases rv with
 | tmp t' =>
  simp only [resV, Option.map_eq_some_iff, Prod.mk.injEq] at h
  obtain ⟨c, h1, rfl, rfl⟩ := h
  obtain ⟨u, u1, u2⟩ := hE.slot t' c h1
  exact ⟨u, by simp [u1], strip_vr u2 hp⟩
 | cell a ty =>
  simp only [resV] at h
  cases hc : (hasP P ty && (aggP P ty || Nat.beq (sizeP P ty) 1)) with
  | false => rw [hc] at h; cases h
  | true =>
   rw [hc] at h
   simp only [Bool.and_eq_true, Bool.or_eq_true, Nat.beq_eq] at hc
   simp only [cond_true] at h
   split at h
   ·rename_i b tot i o hg
    split at h
    ·rename_i s rs hb
     simp only [Option.some.injEq, Prod.mk.injEq] at h
     obtain ⟨rfl, rfl⟩ := h
     obtain ⟨htot, hi, hl⟩ := hp
     obtain ⟨u, u1, u2⟩ := hE.slot a _ hg
     have hl2 : iop P false (.load ty (.tmp a)) (fun _ => some (.ptr b tot i o)) σ 0 = some ⟨tot = rs.length ∧ i < rs.length ∧ o + sizeP P ty ≤ s, loadAt (aggP P ty) (sizeP P ty) (rs.getD i []) o, none⟩ := by
      simp only [iop]
      have : (hasP P ty && (aggP P ty || Nat.beq (sizeP P ty) 1)) = true := by simp only [Bool.and_eq_true, Bool.or_eq_true, Nat.beq_eq]; exact hc
      rw [this, hb]; rfl
     obtain ⟨z, z1, z2, _⟩ := load_goes (ev := fun _ => u) (fun x c hx => by cases hx; exact u2) hH hl2 ⟨htot, hi, hl⟩
     obtain ⟨g, off, cs, T, hv, _⟩ := ptr_row hH hb u2 htot hi
     refine ⟨z, ?_, z2⟩
     subst hv
     simp [u1, asAddr]
     simpa [Instr.loadAt, Instr.sureAddr] using z1
    ·cases h
   ·cases h
theorem ress_run {μ : Mu} {F : Fz} {w : World} {t : Array Value} (hE : EnvR μ F w t e) (hH : HR μ F σ w) : ∀ (rs : List ResultVar) (p : Prop) (l : List IV), resVs P rs e σ = some (p, l) → p →
  ∃ us, (rs.mapM fun | .tmp t' => pure (t.getD t' undef) | .cell a ty => do loadVar ty (← asAddr (t.getD a undef)) : Sem (List Value)).run P w = .ok us w ∧ VRs μ F w us l
 | [], p, l, h, _ => by
  simp only [resVs, Option.some.injEq, Prod.mk.injEq] at h
  obtain ⟨_, rfl⟩ := h
  exact ⟨[], by simp, rfl, by simp⟩
 | r :: rs, p, l, h, hp => by
  simp only [resVs] at h
  split at h
  ·rename_i p1 v1 p2 l2 h1 h2
   simp only [Option.some.injEq, Prod.mk.injEq] at h
   obtain ⟨rfl, rfl⟩ := h
   obtain ⟨u, u1, u2⟩ := res_run hE hH h1 hp.1
   obtain ⟨us, us1, us2⟩ := ress_run hE hH rs p2 l2 h2 hp.2
   refine ⟨u :: us, ?_, by simp [us2.1], fun j v c e1 e2 => ?_⟩
   ·rw [List.mapM_cons, Sem.run_bind]
    cases r <;> simp_all
   ·cases j with
    | zero => simp at e1 e2; subst e1; subst e2; exact u2
    | succ j => exact us2.2 j v c (by simpa using e1) (by simpa using e2)
  ·cases h
theorem results_run {fn : Func} {p : Prop} {l : List IV} {μ : Mu} {F : Fz} {w : World} {t : Array Value} (hE : EnvR μ F w t e) (hH : HR μ F σ w) (h : resVs P fn.results.toList e σ = some (p, l)) (hp : p) :
  ∃ v, (results fn t).run P w = .ok v w ∧ VR μ F w v (one l) := by
 obtain ⟨us, h1, h2⟩ := ress_run hE hH _ p l h hp
 have hm : (fn.results.mapM fun | .tmp t' => pure (t.getD t' undef) | .cell a ty => do loadVar ty (← asAddr (t.getD a undef)) : Sem (Array Value)).run P w = .ok us.toArray w := by
  rw [Array.mapM_eq_mapM_toList]
  simp only [Sem.run_map]
  rw [h1]; rfl
 refine ⟨if h : us.toArray.size = 1 then us.toArray[0] else .tuple us.toArray, ?_, ?_⟩
 ·unfold results
  rw [Sem.run_bind]
  exact (congrArg (fun r : Result (Array Value) => r.andThen fun a w' => (pure (if h : a.size = 1 then a[0] else Value.tuple a) : Sem Value).run P w') hm).trans rfl
 ·obtain ⟨hl, hv⟩ := h2
  match us, l, hl, hv with
  | [], [], _, _ =>
   have := VR.tup (μ := μ) (F := F) (w := w) [] [] rfl (by simp)
   simpa [one] using this
  | [u], [c], _, hv => simpa [one] using hv 0 u c rfl rfl
  | u :: u' :: us, c :: c' :: l, hl, hv =>
   have := VR.tup (μ := μ) (F := F) (w := w) (u :: u' :: us) (c :: c' :: l) hl hv
   simpa [one] using this
def Fz.less (F : Fz) (ms : List Nat) : Fz := ⟨fun g => F.f g ∧ g ∉ ms, fun g => F.u g ∧ g ∉ ms, fun g h => ⟨F.sub g h.1, h.2⟩⟩
structure Drops (F : Fz) (w : World) (ms : List Nat) (w' : World) : Prop where
 size : w'.heap.size = w.heap.size
 os : w'.os = w.os
 tape : w'.tape = w.tape
 output : OutD w' w
 same : ∀ g, g ∉ ms → w'.heap[g]? = w.heap[g]?
 nf : ∀ D ∈ ms, ¬ F.f D
theorem Drops.vr {μ : Mu} {F : Fz} {w w' : World} {ms : List Nat} (h : Drops F w ms w') {v : Value} {c : IV} (hv : VR μ F w v c) : VR μ (F.less ms) w' v c :=
 hv.mono (F' := F.less ms) (Mu.le_refl _) (fun g hg => ⟨hg, fun hm => h.nf g hm hg⟩) fun g hg => h.same g fun hm => h.nf g hm hg
theorem Drops.env {μ : Mu} {F : Fz} {w w' : World} {ms : List Nat} (h : Drops F w ms w') {t : Array Value} {e : Env} (hE : EnvR μ F w t e) : EnvR μ (F.less ms) w' t e :=
 ⟨hE.size, fun t c hc => let ⟨v, v1, v2⟩ := hE.slot t c hc; ⟨v, v1, h.vr v2⟩, fun g c hc => h.vr (hE.glob g c hc)⟩
theorem Drops.hr {μ : Mu} {F : Fz} {w w' : World} {ms : List Nat} (h : Drops F w ms w') (hu : ∀ D ∈ ms, F.u D) {σ : Heap} (hH : HR μ F σ w) : HR μ (F.less ms) σ w' := by
 refine ⟨hH.n, fun b o ho => ?_, hH.inj, fun b g off h1 h2 h3 => hH.fro b g off h1 h2 h3.1, fun b g off h1 h2 => by rw [h.size]; exact hH.lt b g off h1 h2, fun g hg => by rw [h.size]; exact hH.flt g hg.1, hH.yin, hH.itd⟩
 refine (hH.obj b o ho).mono (Mu.le_refl _) (fun g hg => ⟨hg, fun hm => h.nf g hm hg⟩) (fun g hg => h.same g fun hm => h.nf g hm hg) ⟨rfl, rfl, rfl, rfl, id⟩ (fun g off hu' hp => h.same g fun hm => hH.fro b g off hu' hp (hu g hm)) (fun l _ _ _ h1 h2 h3 h4 => ⟨h1, fun hn => h2 hn.1, h3, h.same l fun hm => h2 (hu l hm)⟩) fun b' _ _ _ _ hu' => ⟨hu', rfl, rfl, fun gm off hp => h.same gm fun hm => hH.fro b' gm off hu' hp (hu gm hm)⟩
theorem Ext.drop {μ μ' : Mu} {F F' : Fz} {w w' w'' : World} {ms : List Nat} (hX : Ext μ F w μ' F' w') (hd : Drops F' w' ms w'') (hF : ∀ g, F.u g → g < w.heap.size) (hms : ∀ D ∈ ms, w.heap.size ≤ D) : Ext μ F w μ' (F'.less ms) w'' := by
 have hn : ∀ g, F.u g → g ∉ ms := fun g hg hm => by have := hF g hg; have := hms g hm; omega
 refine ⟨hX.mu, fun g hg => ⟨hX.fr g hg, hn g (F.sub g hg)⟩, fun g hg => ⟨hX.fu g hg, hn g hg⟩, fun g hg => (hd.same g (hn g hg)).trans (hX.same g hg), by rw [hd.size]; exact hX.size, hd.os.trans hX.os, hd.tape.trans hX.tape, hd.output.trans hX.output, fun g hg => hX.new g hg.1⟩
theorem leaves_marks {fn : Func} {tmps : Array Value} {R : Ending → World → Prop} {v0 : World → Value → Prop} : ∀ (ms : List Nat) (w : World), ms.Nodup → (∀ D ∈ ms, w.heap[D]? = some (.deferred (some []))) →
  (∀ w', w'.heap.size = w.heap.size → w'.os = w.os → w'.tape = w.tape → OutD w' w → (∀ g, g ∉ ms → w'.heap[g]? = w.heap[g]?) → ∃ v, (results fn tmps).run P w' = .ok v w' ∧ R (.returned v) w') →
  LeavesInM (Rd none) 0 P fn tmps R (ms.map markOf) .returning w
 | [], w, _, _, h => h w rfl rfl rfl ⟨rfl, Nat.le_refl _⟩ fun _ _ => rfl
 | D :: ms, w, hnd, hD, h => by
  rw [List.nodup_cons] at hnd
  have h0 := hD D (by simp)
  refine ⟨by simp, .inl ⟨D, w.putObj D (.deferred none), rfl, run_takeDeferred h0, leaves_marks (v0 := v0) ms _ hnd.2 (fun D' hD' => ?_) fun w' h1 h2 h3 h4 h5 => h w' (h1.trans World.putObj_size) h2 h3 ⟨h4.o, h4.d⟩ fun g hg => ?_⟩⟩
  ·rw [World.putObj_heap_other (fun e => hnd.1 (by rw [← e]; exact hD'))]; exact hD D' (by simp [hD'])
  ·simp only [List.mem_cons, not_or] at hg
   exact (h5 g hg.2).trans (World.putObj_heap_other hg.1)
theorem ICalls.of_body {gl : List (Nat × IV)} {f : FuncId} {fn : Func} {c : Code} {args : List IV} {R : IV → Heap → Prop} (x : Bool) (m : Nat) (ex : List Nat) (hf : P.funcs[f]? = some fn) (hb : fn.body = some c)
  (hcall : ∀ (args : Array Value) (w : World), (callFunc f args).run P w = .ok (.enter f args) w) (hn : Nat.ble args.length fn.ntmps = true)
  (h : IWp P c (retQ P fn.results.toList R) ⟨x, fn.ntmps, m, ex, gl, enum 0 args, []⟩ σ) : ICalls P gl f args σ R := by
 rw [Nat.ble_eq] at hn
 refine ⟨hcall, fun μ F w vs hH hv hgl => callsIn_wide.1 (callsIn_of_wp_marks (F := Rd none) (n := 0) hf hb trivial ?_)⟩
 have hE : EnvR μ F w (vs.toArray ++ Array.replicate (fn.ntmps - vs.toArray.size) undef) ⟨x, fn.ntmps, m, ex, gl, enum 0 args, []⟩ := by
  refine ⟨by have := hv.1; simp; omega, fun t c ht => ?_, hgl⟩
  unfold Env.get at ht
  cases hnm : isNamed m ex t with
  | false => simp [hnm, eget] at ht
  | true =>
   simp only [hnm, cond_true] at ht
   obtain ⟨_, h2⟩ := eget_enum _ _ _ _ ht
   simp only [Nat.sub_zero] at h2
   have hlt := (List.getElem?_eq_some_iff.1 h2).1
   have hlt' : t < vs.length := by rw [hv.1]; exact hlt
   refine ⟨vs[t], ?_, hv.2 t _ c (List.getElem?_eq_getElem hlt') h2⟩
   rw [Array.getElem?_append_left (by simpa using hlt')]
   simp
 refine wpIn_mono (h none μ F ⟨_, []⟩ w trivial hE hH) ?_
 rintro ex' a' w' ⟨xe, e', σ', μ', F', h1, h2, h3, h4, h5, h6⟩
 have fin : (∃ p l, resVs P fn.results.toList e' σ' = some (p, l) ∧ p ∧ R (one l) σ') → LeavesInM (Rd none) 0 P fn a'.tmps (fun e w' => ∃ v r σ' μ' F', e = .returned v ∧ R r σ' ∧ VR μ' F' w' v r ∧ HR μ' F' σ' w' ∧ Ext μ F w μ' F' w') a'.defers .returning w' := by
  rintro ⟨p, l, hr, hp, hR⟩
  obtain ⟨ms, hms, hnd, hmk⟩ := h6
  rw [hms, List.append_nil]
  refine leaves_marks (v0 := fun _ _ => True) ms w' hnd (fun D hD => (hmk D hD).2.2.2) fun w'' k1 k2 k3 k4 k5 => ?_
  have hd : Drops F' w' ms w'' := ⟨k1, k2, k3, k4, k5, fun D hD => (hmk D hD).2.2.1⟩
  have hH'' := hd.hr (fun D hD => (hmk D hD).2.1) h4
  obtain ⟨v, v1, v2⟩ := results_run (hd.env h3) hH'' hr hp
  exact ⟨v, v1, v, one l, σ', μ', F'.less ms, rfl, hR, v2, hH'', h5.drop hd hH.flt fun D hD => (hmk D hD).1⟩
 cases xe with
 | exit i => exact h2.elim
 | normal =>
  cases ex' <;> simp only [XExit.rel] at h1
  simp only [retQ] at h2
  split at h2
  ·rename_i p l hr
   exact fin ⟨p, l, hr, h2⟩
  ·exact h2.elim
 | ret =>
  cases ex' <;> simp only [XExit.rel] at h1
  simp only [retQ] at h2
  split at h2
  ·rename_i p l hr
   exact fin ⟨p, l, hr, h2⟩
  ·exact h2.elim
end
end Go.Idl
