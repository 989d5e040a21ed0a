/-
  How the ideal values stand to the model's: values, blocks, frames.
-/
import Derived.Test.YtpfpgkopbokfgaaDoorIdlA
import Derived.Below
namespace Go.Idl
set_option linter.all false
open Go.RowKit

inductive Place where
  | dead
  | empty
  | at_ (g off : Nat)

/-- What the numbers of ideal blocks stand for: u: which have ever been taken; the cells of a row, the rows, the rows for which there is room, the place. -/
structure Mu where
  u : Nat → Prop
  sz : Nat → Nat
  len : Nat → Nat
  cp : Nat → Nat
  pl : Nat → Place

def Mu.le (μ μ' : Mu) : Prop :=
  ∀ b, μ.u b → μ'.u b ∧ μ'.sz b = μ.sz b ∧ μ.len b ≤ μ'.len b ∧ (μ.len b = μ'.len b → (μ'.pl b = μ.pl b ∧ μ'.cp b = μ.cp b) ∨ μ'.pl b = .dead) ∧ (μ.sz b = 0 → μ.len b = μ'.len b)

/-- Blocks that nobody writes any more: f: those that values may point into; u: all that are to stay as they are. -/
structure Fz where
  f : Nat → Prop
  u : Nat → Prop
  sub : ∀ g, f g → u g

def SlOK (p : Place) (s cp i len : Nat) (cap : Option Nat) (v : Value) : Prop :=
  match p with
  | .dead => True
  | .empty => v = .slice none 0 0 ∧ len = 0
  | .at_ g off => ∃ a c, v = .slice a len c ∧ len ≤ c ∧ i + c ≤ cp ∧ (c = 0 ∨ a = some ⟨g, off + i * s, none⟩) ∧ ∀ c', cap = some c' → c = c'

def PtrOK (p : Place) (s i o : Nat) (v : Value) : Prop :=
  match p with
  | .at_ g off => v = .pointer (some ⟨g, off + i * s + o, none⟩)
  | _ => True

def MapOK (p : Place) (v : Value) : Prop :=
  match p with
  | .at_ g _ => v = .map (some g)
  | _ => True

def IterOK (p : Place) (v : Value) : Prop :=
  match p with
  | .at_ g _ => v = .pointer (some ⟨g, 0, none⟩)
  | _ => True

inductive VR (μ : Mu) (F : Fz) (w : World) : Value → IV → Prop where
  | bool (b : Bool) : VR μ F w (.bool b) (.bool b)
  | int (k : IntKind) (n : Int) : VR μ F w (.int k n) (.int k n)
  | str (s : ByteArray) : VR μ F w (.string s) (.str s)
  | nilp : VR μ F w (.pointer none) .nilp
  | ptr (v : Value) (b tot i o : Nat) (hk : v.oneCell' = true) (hb : μ.u b) (ht : tot ≤ μ.len b) (h : tot = μ.len b → PtrOK (μ.pl b) (μ.sz b) i o v) : VR μ F w v (.ptr b tot i o)
  | fptr (g off s : Nat) (rows : List (List IV)) (i o : Nat) (us : Nat → Nat → Value) (hF : F.f g) (hrow : ∀ (i : Nat) (row : List IV), rows[i]? = some row → row.length = s)
      (hcell : ∀ (i : Nat) (row : List IV) (j : Nat), rows[i]? = some row → j < s → w.cell? ⟨g, off + i * s + j, none⟩ = some (us i j))
      (hv : ∀ (i : Nat) (row : List IV) (j : Nat) (c : IV), rows[i]? = some row → row[j]? = some c → VR μ F w (us i j) c) :
      VR μ F w (.pointer (some ⟨g, off + i * s + o, none⟩)) (.fptr s rows i o)
  | nils : VR μ F w (.slice none 0 0) .nils
  | sl (v : Value) (b tot i len : Nat) (cap : Option Nat) (hk : v.oneCell' = true) (hb : μ.u b) (ht : tot ≤ μ.len b) (h : tot = μ.len b → SlOK (μ.pl b) (μ.sz b) (μ.cp b) i len cap v) : VR μ F w v (.sl b tot i len cap)
  | fz (g off s : Nat) (rows : List (List IV)) (cap : Nat) (us : Nat → Nat → Value) (hF : F.f g) (hrow : ∀ (i : Nat) (row : List IV), rows[i]? = some row → row.length = s)
      (hcell : ∀ (i : Nat) (row : List IV) (j : Nat), rows[i]? = some row → j < s → w.cell? ⟨g, off + i * s + j, none⟩ = some (us i j))
      (hv : ∀ (i : Nat) (row : List IV) (j : Nat) (c : IV), rows[i]? = some row → row[j]? = some c → VR μ F w (us i j) c) (hcap : rows.length ≤ cap) :
      VR μ F w (.slice (some ⟨g, off, none⟩) rows.length cap) (.fz s rows)
  | fz0 (a : Option Addr) (cap s : Nat) : VR μ F w (.slice a 0 cap) (.fz s [])
  | nilm : VR μ F w (.map none) .nilm
  | map (v : Value) (b : Nat) (hk : v.oneCell' = true) (hb : μ.u b) (h : MapOK (μ.pl b) v) (hl : μ.sz b = 0) : VR μ F w v (.map b)
  | iter (v : Value) (b : Nat) (hk : v.oneCell' = true) (hb : μ.u b) (h : IterOK (μ.pl b) v) (hl : μ.sz b = 0) : VR μ F w v (.iter b)
  | nilf : VR μ F w .nilFunc .nilf
  | func (fn : Fn) (fs cs : List Value) (fs' cs' : List IV) (hf : fs.length = fs'.length) (hc : cs.length = cs'.length)
      (h1 : ∀ (j : Nat) (v : Value) (c : IV), fs[j]? = some v → fs'[j]? = some c → VR μ F w v c)
      (h2 : ∀ (j : Nat) (v : Value) (c : IV), cs[j]? = some v → cs'[j]? = some c → VR μ F w v c) : VR μ F w (.func fn fs.toArray cs.toArray) (.func fn fs' cs')
  | agg (vs : List Value) (cs : List IV) (hl : vs.length = cs.length) (h : ∀ (j : Nat) (v : Value) (c : IV), vs[j]? = some v → cs[j]? = some c → VR μ F w v c) : VR μ F w (.agg vs.toArray) (.agg cs)
  | tup (vs : List Value) (cs : List IV) (hl : vs.length = cs.length) (h : ∀ (j : Nat) (v : Value) (c : IV), vs[j]? = some v → cs[j]? = some c → VR μ F w v c) : VR μ F w (.tuple vs.toArray) (.tup cs)
  | opt (g : Bool) (v : Value) (c : IV) (h1 : g = true → VR μ F w v c) (h0 : g = false → v = undef) : VR μ F w v (.opt g c)

/-- Slot by slot, cell by cell. -/
def VRs (μ : Mu) (F : Fz) (w : World) (vs : List Value) (cs : List IV) : Prop :=
  vs.length = cs.length ∧ ∀ (j : Nat) (v : Value) (c : IV), vs[j]? = some v → cs[j]? = some c → VR μ F w v c

theorem World.cell?_of_heap {w w' : World} {a : Addr} (h : w'.heap[a.block]? = w.heap[a.block]?) : w'.cell? a = w.cell? a := by
  simp only [World.cell?, h]

theorem VR.mono {μ μ' : Mu} {F F' : Fz} {w w' : World} (hμ : μ.le μ') (hF : ∀ g, F.f g → F'.f g) (hw : ∀ g, F.f g → w'.heap[g]? = w.heap[g]?) {v : Value} {c : IV} (h : VR μ F w v c) : VR μ' F' w' v c := by
  induction h with
  | bool b => exact .bool b
  | int k n => exact .int k n
  | str s => exact .str s
  | nilp => exact .nilp
  | ptr v b tot i o hk hb ht h =>
    obtain ⟨hu, h1, h2, h3, h5⟩ := hμ b hb
    refine .ptr v b tot i o hk hu (Nat.le_trans ht h2) fun e => ?_
    have e' : μ.len b = μ'.len b := by omega
    rcases h3 e' with ⟨h4, _⟩ | h4
    · rw [h4, h1]; exact h (by omega)
    · rw [h4]; trivial
  | fptr g off s rows i o us hf hrow hcell hv ih =>
    exact .fptr g off s rows i o us (hF _ hf) hrow (fun i row j hi hj => by rw [World.cell?_of_heap (hw g hf)]; exact hcell i row j hi hj) ih
  | nils => exact .nils
  | sl v b tot i len cap hk hb ht h =>
    obtain ⟨hu, h1, h2, h3, h5⟩ := hμ b hb
    refine .sl v b tot i len cap hk hu (Nat.le_trans ht h2) fun e => ?_
    have e' : μ.len b = μ'.len b := by omega
    rcases h3 e' with ⟨h4, h6⟩ | h4
    · rw [h4, h1, h6]; exact h (by omega)
    · rw [h4]; trivial
  | fz g off s rows cap us hf hrow hcell hv hcap ih =>
    exact .fz g off s rows cap us (hF _ hf) hrow (fun i row j hi hj => by rw [World.cell?_of_heap (hw g hf)]; exact hcell i row j hi hj) ih hcap
  | fz0 a cap s => exact .fz0 a cap s
  | nilm => exact .nilm
  | map v b hk hb h hl =>
    obtain ⟨hu, h1, h2, h3, h5⟩ := hμ b hb
    refine .map v b hk hu ?_ (by omega)
    rcases h3 (h5 hl) with ⟨h4, _⟩ | h4
    · rw [h4]; exact h
    · rw [h4]; trivial
  | iter v b hk hb h hl =>
    obtain ⟨hu, h1, h2, h3, h5⟩ := hμ b hb
    refine .iter v b hk hu ?_ (by omega)
    rcases h3 (h5 hl) with ⟨h4, _⟩ | h4
    · rw [h4]; exact h
    · rw [h4]; trivial
  | nilf => exact .nilf
  | func fn fs cs fs' cs' hf hc _ _ ih1 ih2 => exact .func fn fs cs fs' cs' hf hc ih1 ih2
  | agg vs cs hl _ ih => exact .agg vs cs hl ih
  | tup vs cs hl _ ih => exact .tup vs cs hl ih
  | opt g v c _ h0 ih => exact .opt g v c ih h0

theorem Mu.le_refl (μ : Mu) : μ.le μ := fun _ h => ⟨h, rfl, Nat.le_refl _, fun _ => .inl ⟨rfl, rfl⟩, fun _ => rfl⟩
theorem Mu.le_trans {a b c : Mu} (h : a.le b) (k : b.le c) : a.le c := by
  intro i hi
  obtain ⟨h0, h1, h2, h3, h4⟩ := h i hi
  obtain ⟨k0, k1, k2, k3, k4⟩ := k i h0
  refine ⟨k0, k1.trans h1, Nat.le_trans h2 k2, fun e => ?_, fun e => (h4 e).trans (k4 (by omega))⟩
  rcases k3 (by omega) with ⟨k3, k5⟩ | k3
  · rcases h3 (by omega) with ⟨h3, h5⟩ | h3
    · exact .inl ⟨k3.trans h3, k5.trans h5⟩
    · exact .inr (k3.trans h3)
  · exact .inr k3

/-- The frame. -/
structure EnvR (μ : Mu) (F : Fz) (w : World) (tmps : Array Value) (e : Env) : Prop where
  size : tmps.size = e.n
  slot : ∀ (t : Nat) (c : IV), e.get t = some c → ∃ v, tmps[t]? = some v ∧ VR μ F w v c
  glob : ∀ (g : Nat) (c : IV), eget e.gl g = some c → VR μ F w (.pointer (some ⟨g, 0, none⟩)) c

/-- Map entries, one by one. -/
def EntsR (μ : Mu) (F : Fz) (w : World) (es' : List MapEntry) (es : List (IV × IV)) : Prop :=
  es'.length = es.length ∧ ∀ (j : Nat) (e : MapEntry) (p : IV × IV), es'[j]? = some e → es[j]? = some p → VR μ F w e.key p.1 ∧ VR μ F w e.val p.2

/-- A walk over a map, in block g. -/
def IterR (μ : Mu) (F : Fz) (w : World) : Option Nat → List (IV × IV) → Option (IV × IV) → List (IV × IV) → Nat → Prop
  | none, _, _, todo, g => todo = [] ∧ ∃ s q c, w.heap[g]? = some (.mapIter none s q c)
  | some b, es, cur, todo, g => μ.u b ∧ μ.sz b = 0 ∧ ∃ gm es' cl since seen, μ.pl b = .at_ gm 0 ∧ w.heap[gm]? = some (.map es' cl) ∧ w.heap[g]? = some (.mapIter (some gm) since seen cl) ∧ since ≤ cl ∧ (∀ e ∈ es'.toList, e.born < since) ∧ (es'.toList.map (·.born)).Nodup ∧
      EntsR μ F w es'.toList es ∧ EntsR μ F w (es'.toList.filter fun e => !seen.contains e.born) todo ∧ ∀ kv, cur = some kv → ∃ e ∈ es'.toList, seen.back? = some e.born ∧ VR μ F w e.key kv.1 ∧ VR μ F w e.val kv.2

def ObjR (μ : Mu) (F : Fz) (w : World) (b : Nat) : IObj → Prop
  | .rows s rs => μ.u b ∧ 0 < s ∧ μ.sz b = s ∧ μ.len b = rs.length ∧ (∀ (i : Nat) (row : List IV), rs[i]? = some row → row.length = s) ∧
      ((μ.pl b = .empty ∧ rs = []) ∨ ∃ g off cs T, μ.pl b = .at_ g off ∧ w.heap[g]? = some (.cells cs T (0, 0)) ∧ rs.length ≤ μ.cp b ∧ off + μ.cp b * s ≤ cs.size ∧
        ∀ (i : Nat) (row : List IV) (j : Nat) (c : IV), rs[i]? = some row → row[j]? = some c → ∃ v, cs[off + i * s + j]? = some v ∧ VR μ F w v c)
  | .map es => μ.u b ∧ μ.sz b = 0 ∧ ∃ g es' cl, μ.pl b = .at_ g 0 ∧ w.heap[g]? = some (.map es' cl) ∧ EntsR μ F w es'.toList es ∧ (es'.toList.map (·.born)).Nodup ∧ ∀ e ∈ es'.toList, e.born < cl
  | .iter b' es cur todo => μ.u b ∧ μ.sz b = 0 ∧ ∃ g, μ.pl b = .at_ g 0 ∧ IterR μ F w b' es cur todo g
  | .yrec l r e => ¬ μ.u b ∧ ¬ F.u l ∧ (∀ b' off, μ.u b' → μ.pl b' ≠ .at_ l off) ∧ w.heap[l]? = some (.loop r) ∧ EnvR μ F w r.tmps e
  | .dead => True
  | .hole => True

structure HR (μ : Mu) (F : Fz) (σ : Heap) (w : World) : Prop where
  n : ∀ b, μ.u b → ∃ o, σ[b]? = some o ∧ o.isHole = false
  obj : ∀ (b : Nat) (o : IObj), σ[b]? = some o → ObjR μ F w b o
  inj : ∀ b b' g off off', μ.u b → μ.u b' → μ.pl b = .at_ g off → μ.pl b' = .at_ g off' → b = b'
  fro : ∀ b g off, μ.u b → μ.pl b = .at_ g off → ¬ F.u g
  lt : ∀ b g off, μ.u b → μ.pl b = .at_ g off → g < w.heap.size
  flt : ∀ g, F.u g → g < w.heap.size
  yin : ∀ (b b' l : Nat) (r r' : Loop) (e e' : Env), σ[b]? = some (.yrec l r e) → σ[b']? = some (.yrec l r' e') → b = b'
  itd : ∀ (x b : Nat) (es : List (IV × IV)) (cur : Option (IV × IV)) (todo : List (IV × IV)) (o : IObj), σ[x]? = some (.iter (some b) es cur todo) → σ[b]? = some o → o = .dead

theorem EntsR.mono {μ μ' : Mu} {F F' : Fz} {w w' : World} {es' : List MapEntry} {es : List (IV × IV)} (h : EntsR μ F w es' es) (hv : ∀ {v : Value} {c : IV}, VR μ F w v c → VR μ' F' w' v c) : EntsR μ' F' w' es' es :=
  ⟨h.1, fun j e p e1 e2 => let ⟨v1, v2⟩ := h.2 j e p e1 e2; ⟨hv v1, hv v2⟩⟩
theorem IterR.mono {μ μ' : Mu} {F F' : Fz} {w w' : World} {b : Option Nat} {es : List (IV × IV)} {cur : Option (IV × IV)} {todo : List (IV × IV)} {g : Nat} (h : IterR μ F w b es cur todo g) (hv : ∀ {v : Value} {c : IV}, VR μ F w v c → VR μ' F' w' v c)
    (hg : w'.heap[g]? = w.heap[g]?) (hb : ∀ b', b = some b' → μ.u b' → μ'.u b' ∧ μ'.sz b' = μ.sz b' ∧ μ'.pl b' = μ.pl b' ∧ ∀ gm off, μ.pl b' = .at_ gm off → w'.heap[gm]? = w.heap[gm]?) : IterR μ' F' w' b es cur todo g := by
  cases b with
  | none => obtain ⟨h1, s, q, c, h2⟩ := h; exact ⟨h1, s, q, c, hg.trans h2⟩
  | some b =>
    obtain ⟨h1, h2, gm, es', cl, since, seen, q1, q2, q3, q4, q5, q6, q7, q8, q9⟩ := h
    obtain ⟨k1, k2, k3, k4⟩ := hb b rfl h1
    exact ⟨k1, k2.trans h2, gm, es', cl, since, seen, k3.trans q1, (k4 gm 0 q1).trans q2, hg.trans q3, q4, q5, q6, q7.mono hv, q8.mono hv, fun kv e => let ⟨e, a, b, c, d⟩ := q9 kv e; ⟨e, a, b, hv c, hv d⟩⟩

structure Ext (μ : Mu) (F : Fz) (w : World) (μ' : Mu) (F' : Fz) (w' : World) : Prop where
  mu : μ.le μ'
  fr : ∀ g, F.f g → F'.f g
  fu : ∀ g, F.u g → F'.u g
  same : ∀ g, F.u g → w'.heap[g]? = w.heap[g]?
  size : w.heap.size ≤ w'.heap.size
  os : w'.os = w.os
  tape : w'.tape = w.tape
  output : w'.output = w.output
  new : ∀ g, F'.f g → F.f g ∨ ¬ F.u g

theorem Ext.refl (μ : Mu) (F : Fz) (w : World) : Ext μ F w μ F w :=
  ⟨Mu.le_refl _, fun _ h => h, fun _ h => h, fun _ _ => rfl, Nat.le_refl _, rfl, rfl, rfl, fun _ h => .inl h⟩
theorem Ext.trans {μ μ' μ'' : Mu} {F F' F'' : Fz} {w w' w'' : World} (h : Ext μ F w μ' F' w') (k : Ext μ' F' w' μ'' F'' w'') : Ext μ F w μ'' F'' w'' :=
  ⟨Mu.le_trans h.mu k.mu, fun g hg => k.fr g (h.fr g hg), fun g hg => k.fu g (h.fu g hg), fun g hg => (k.same g (h.fu g hg)).trans (h.same g hg), Nat.le_trans h.size k.size, k.os.trans h.os, k.tape.trans h.tape, k.output.trans h.output, fun g hg => (k.new g hg).elim (h.new g) fun hn => .inr fun hu => hn (h.fu g hu)⟩

theorem Ext.vr {μ μ' : Mu} {F F' : Fz} {w w' : World} (h : Ext μ F w μ' F' w') {v : Value} {c : IV} (hv : VR μ F w v c) : VR μ' F' w' v c := hv.mono h.mu h.fr fun g hg => h.same g (F.sub g hg)
theorem Ext.vrs {μ μ' : Mu} {F F' : Fz} {w w' : World} (h : Ext μ F w μ' F' w') {v : List Value} {c : List IV} (hv : VRs μ F w v c) : VRs μ' F' w' v c :=
  ⟨hv.1, fun j v c h1 h2 => h.vr (hv.2 j v c h1 h2)⟩
theorem Ext.env {μ μ' : Mu} {F F' : Fz} {w w' : World} (h : Ext μ F w μ' F' w') {t : Array Value} {e : Env} (he : EnvR μ F w t e) : EnvR μ' F' w' t e :=
  ⟨he.size, fun t c hc => let ⟨v, h1, h2⟩ := he.slot t c hc; ⟨v, h1, h.vr h2⟩, fun g c hc => h.vr (he.glob g c hc)⟩

/-! ### the slots -/
theorem eget_eput (l : List (Nat × IV)) (j : Nat) (v : IV) (t : Nat) : eget (eput l j v) t = if j = t then some v else eget l t := by
  induction l with
  | nil =>
    simp only [eput, eget]
    by_cases h : j = t
    · simp [h]
    · have : (j == t) = false := by simpa using h
      simp [h, this]
  | cons p l ih =>
    obtain ⟨k, u⟩ := p
    simp only [eput]
    by_cases h : k = j
    · subst h
      simp only [BEq.rfl, cond_true, eget]
      by_cases h : k = t
      · simp [h]
      · have : (k == t) = false := by simpa using h
        simp [h, this]
    · have : (k == j) = false := by simpa using h
      simp only [this, cond_false, eget, ih]
      by_cases h2 : k = t
      · subst h2; simp [Ne.symm h]
      · have : (k == t) = false := by simpa using h2
        simp [this]

theorem Env.get_put (e : Env) (j : Nat) (v : IV) (t : Nat) (c : IV) (h : (e.put j v).get t = some c) : (j = t ∧ c = v ∧ t < e.n) ∨ (j ≠ t ∧ e.get t = some c) ∨ (e.n ≤ j ∧ e.get t = some c) := by
  unfold Env.put at h
  cases hn : Nat.blt j e.n with
  | false =>
    rw [hn] at h
    exact .inr (.inr ⟨by simp [Nat.blt_eq, ← Bool.not_eq_true] at hn; exact hn, h⟩)
  | true =>
    have hlt : j < e.n := by simpa [Nat.blt_eq] using hn
    rw [hn] at h
    simp only [cond_true] at h
    cases hm : isNamed e.m e.ex j with
    | true =>
      rw [hm] at h
      simp only [cond_true, Env.get] at h
      cases ht : isNamed e.m e.ex t with
      | true =>
        rw [ht] at h
        simp only [cond_true, eget_eput] at h
        by_cases e1 : j = t
        · subst e1; simp at h; exact .inl ⟨rfl, h.symm, hlt⟩
        · rw [if_neg e1] at h; exact .inr (.inl ⟨e1, by simp [Env.get, ht, h]⟩)
      | false =>
        rw [ht] at h
        exact .inr (.inl ⟨fun e1 => (by subst e1; rw [hm] at ht; cases ht), by simpa [Env.get, ht] using h⟩)
    | false =>
      rw [hm] at h
      simp only [cond_false, Env.get] at h
      cases ht : isNamed e.m e.ex t with
      | true =>
        rw [ht] at h
        exact .inr (.inl ⟨fun e1 => (by subst e1; rw [hm] at ht; cases ht), by simpa [Env.get, ht] using h⟩)
      | false =>
        rw [ht] at h
        simp only [cond_false, eget] at h
        by_cases e1 : j = t
        · subst e1; simp at h; exact .inl ⟨rfl, h.symm, hlt⟩
        · have : (j == t) = false := by simpa using e1
          rw [this] at h; exact .inr (.inl ⟨e1, by simpa [Env.get, ht] using h⟩)

@[simp] theorem Env.put_n (e : Env) (j : Nat) (v : IV) : (e.put j v).n = e.n := by
  unfold Env.put; cases Nat.blt j e.n <;> cases isNamed e.m e.ex j <;> rfl
@[simp] theorem Env.put_gl (e : Env) (j : Nat) (v : IV) : (e.put j v).gl = e.gl := by
  unfold Env.put; cases Nat.blt j e.n <;> cases isNamed e.m e.ex j <;> rfl

theorem EnvR.put {μ : Mu} {F : Fz} {w : World} {t : Array Value} {e : Env} (h : EnvR μ F w t e) (j : Nat) {v : Value} {c : IV} (hv : VR μ F w v c) :
    EnvR μ F w (t.setIfInBounds j v) (e.put j c) := by
  refine ⟨by simpa using h.size, fun k c' hk => ?_, fun g c' hg => h.glob g c' (by simpa using hg)⟩
  rcases Env.get_put e j c k c' hk with ⟨rfl, rfl, hlt⟩ | ⟨hne, hk⟩ | ⟨hle, hk⟩
  · exact ⟨v, by simp [h.size, hlt], hv⟩
  · obtain ⟨u, h1, h2⟩ := h.slot k c' hk
    exact ⟨u, by rw [Array.getElem?_setIfInBounds_ne hne]; exact h1, h2⟩
  · obtain ⟨u, h1, h2⟩ := h.slot k c' hk
    exact ⟨u, by rw [Array.setIfInBounds_eq_of_size_le (by rw [h.size]; exact hle)]; exact h1, h2⟩

theorem EnvR.putO {μ : Mu} {F : Fz} {w : World} {a : Act} {e : Env} (h : EnvR μ F w a.tmps e) (d : Option Nat) {v : Value} {c : IV} (hv : VR μ F w v c) :
    EnvR μ F w (a.put d v).tmps (e.putO d c) := by
  cases d with
  | none => exact h
  | some j => exact h.put j hv

theorem EnvR.clean {μ : Mu} {F : Fz} {w : World} {t : Array Value} {e : Env} (h : EnvR μ F w t e) : EnvR μ F w t e.clean := by
  refine ⟨h.size, fun k c hk => h.slot k c ?_, h.glob⟩
  unfold Env.get at *
  cases hn : isNamed e.m e.ex k with
  | true => simp only [Env.clean, hn, cond_true] at hk ⊢; exact hk
  | false => simp [Env.clean, hn, eget] at hk

/-- An operand's value. -/
theorem ofC_vr {μ : Mu} {F : Fz} {w : World} {v : Value} {c : IV} (h : ofC v = some c) : VR μ F w v c := by
  unfold ofC at h
  split at h <;> cases h
  · exact .bool _
  · exact .int _ _
  · exact .str _
  · exact .nilp
  · exact .nils
  · exact .nilm
  · exact .nilf
theorem ofCs_vr {μ : Mu} {F : Fz} {w : World} : ∀ (vs : List Value) (cs : List IV), ofCs vs = some cs → VRs μ F w vs cs
  | [], cs, h => by simp [ofCs] at h; subst h; exact ⟨rfl, by simp⟩
  | v :: vs, cs, h => by
    simp only [ofCs] at h
    split at h
    · rename_i a b h1 h2
      cases h
      have ih := ofCs_vr (μ := μ) (F := F) (w := w) vs b h2
      refine ⟨by simp [ih.1], fun j v' c' e1 e2 => ?_⟩
      cases j with
      | zero => simp at e1 e2; subst e1; subst e2; exact ofC_vr h1
      | succ j => exact ih.2 j v' c' (by simpa using e1) (by simpa using e2)
    · cases h
theorem ofV_vr {μ : Mu} {F : Fz} {w : World} {v : Value} {c : IV} (h : ofV v = some c) : VR μ F w v c := by
  unfold ofV at h
  split at h
  · rename_i cs
    cases h1 : ofCs cs.toList with
    | none => rw [h1] at h; cases h
    | some l =>
      rw [h1] at h; cases h
      have := ofCs_vr (μ := μ) (F := F) (w := w) _ _ h1
      have hx := VR.agg (μ := μ) (F := F) (w := w) cs.toList l this.1 this.2
      simpa using hx
  · rename_i cs
    cases h1 : ofCs cs.toList with
    | none => rw [h1] at h; cases h
    | some l =>
      rw [h1] at h; cases h
      have := ofCs_vr (μ := μ) (F := F) (w := w) _ _ h1
      have hx := VR.tup (μ := μ) (F := F) (w := w) cs.toList l this.1 this.2
      simpa using hx
  · exact ofC_vr h

theorem EnvR.opnd {μ : Mu} {F : Fz} {w : World} {a : Act} {e : Env} (h : EnvR μ F w a.tmps e) (x : Operand) (c : IV) (hx : e.opnd x = some c) : VR μ F w (a.eval x) c := by
  cases x with
  | tmp t =>
    obtain ⟨v, h1, h2⟩ := h.slot t c hx
    have : a.eval (.tmp t) = v := by simp [Act.eval, h1]
    rw [this]; exact h2
  | const v => exact ofV_vr hx
  | global g => exact h.glob g c hx
  | func f =>
    simp only [Env.opnd, Option.some.injEq] at hx
    subst hx
    exact .func (.func f) [] [] [] [] rfl rfl (by simp) (by simp)
end Go.Idl
