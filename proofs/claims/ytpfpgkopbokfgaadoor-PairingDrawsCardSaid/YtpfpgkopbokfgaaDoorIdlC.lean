/-
  Each operation of the model does what its ideal does.
-/
import Derived.Test.YtpfpgkopbokfgaaDoorIdlB
import Derived.Laws.Tables
import Derived.Laws.CopyRow
import Derived.Laws.MakeOwn
import Derived.Deep.MidRow
import Derived.Deep.AppendSrc
import Derived.WalkLawsBesides
namespace Go.Idl
set_option linter.all false
open Go.RowKit

def upd (σ : Heap) : Option (Nat × IObj) → Heap
  | none => σ
  | some (b, o) => hput σ b o

/-- The operation goes as its ideal goes. -/
def Goes (μ : Mu) (F : Fz) (w : World) (σ : Heap) (r : Out) (res : Result Next) : Prop :=
  ∃ u w' μ', (res = .ok (.value u) w' ∨ (res = .ok .skip w' ∧ u = undef)) ∧ VR μ' F w' u r.v ∧ HR μ' F (upd σ r.w) w' ∧ Ext μ F w μ' F w'

section
variable {P : Program} {μ : Mu} {F : Fz} {w : World} {σ : Heap}

theorem Goes.pure {r : Out} {res : Result Next} {u : Value} (hH : HR μ F σ w) (hres : res = .ok (.value u) w) (hv : VR μ F w u r.v) (hw : r.w = none) : Goes μ F w σ r res :=
  ⟨u, w, μ, .inl hres, hv, by rw [hw]; exact hH, Ext.refl _ _ _⟩

theorem hasP_spec {t : TypeId} (h : hasP P t = true) : ∃ i d, P.info? t = some i ∧ P.underlying t = some d ∧ sizeP P t = i.size ∧ (∀ w, (sizeOf t).run P w = .ok i.size w) ∧ (∀ w, (isAgg t).run P w = .ok (aggP P t) w) := by
  unfold hasP at h
  simp only [Bool.and_eq_true, Option.isSome_iff_exists] at h
  obtain ⟨⟨i, hi⟩, ⟨d, hd⟩⟩ := h
  refine ⟨i, d, hi, hd, by simp [sizeP, hi], fun w => by simp [sizeOf, typeInfo, hi], fun w => ?_⟩
  unfold isAgg aggP
  rw [Sem.run_bind, run_underlying hd]
  simp only [hd]
  cases d <;> rfl

theorem ofCs_one : ∀ (l : List Value) (m : List IV), ofCs l = some m → m.all IV.one = true
  | [], m, h => by simp [ofCs] at h; subst h; rfl
  | u :: l, m, h => by
    simp only [ofCs] at h
    split at h
    · rename_i a b h1 h2
      cases h
      simp only [List.all_cons, ofCs_one l b h2, Bool.and_true]
      unfold ofC at h1
      split at h1 <;> cases h1 <;> rfl
    · cases h

theorem zeroP_spec {t : TypeId} {z : List IV} (h : zeroP P t = some z) : ∃ i v, P.info? t = some i ∧ i.zero = some v ∧ VRs μ F w v.cells.toList z ∧ z.all IV.one = true := by
  unfold zeroP at h
  cases hi : P.info? t with
  | none => simp [hi] at h
  | some i =>
    cases hz : i.zero with
    | none => simp [hi, hz] at h
    | some v =>
      simp only [hi, hz, Option.bind_some] at h
      refine ⟨i, v, rfl, hz, ?_⟩
      unfold zeroV at h
      split at h
      · exact ⟨ofCs_vr _ _ h, ofCs_one _ _ h⟩
      · simp only [Option.map_eq_some_iff] at h
        obtain ⟨a, ha, rfl⟩ := h
        have hv := ofC_vr (μ := μ) (F := F) (w := w) ha
        have h1 : a.one = true := by unfold ofC at ha; split at ha <;> cases ha <;> rfl
        have h2 : v.cells = #[v] := by unfold ofC at ha; split at ha <;> cases ha <;> rfl
        rw [h2]
        refine ⟨⟨rfl, fun j v' c' e1 e2 => ?_⟩, by simp [h1]⟩
        cases j with
        | zero => simp at e1 e2; subst e1; subst e2; exact hv
        | succ j => simp at e1

theorem VR.one {v : Value} {c : IV} (h : VR μ F w v c) (h1 : c.one = true) : v.oneCell' = true := by
  cases h <;> first | rfl | assumption | (simp [IV.one] at h1)

/-- The cells of a value. -/
theorem VR.cells {v : Value} {c : IV} (h : VR μ F w v c) (h1 : c.cells.all IV.one = true) : VRs μ F w v.cells.toList c.cells ∧ ∀ u ∈ v.cells.toList, u.oneCell' = true := by
  have key : ∀ {v : Value} {c : IV}, VR μ F w v c → c.one = true → v.cells = #[v] := fun {v c} h h1 => by
    have := VR.one h h1
    cases v <;> first | rfl | (simp [Value.oneCell'] at this)
  have fin : ∀ {v : Value} {c : IV}, VR μ F w v c → c.one = true → c.cells = [c] → VRs μ F w v.cells.toList c.cells ∧ ∀ u ∈ v.cells.toList, u.oneCell' = true := fun {v c} h h1 h2 => by
    rw [key h h1, h2]
    refine ⟨⟨rfl, fun j v' c' e1 e2 => ?_⟩, fun u hu => ?_⟩
    · cases j with
      | zero => simp at e1 e2; subst e1; subst e2; exact h
      | succ j => simp at e1
    · simp at hu; subst hu; exact VR.one h h1
  cases c with
  | agg cs =>
    cases h with
    | agg vs _ hl h =>
      refine ⟨⟨by simpa [Value.cells, IV.cells] using hl, fun j v c e1 e2 => h j v c (by simpa [Value.cells] using e1) (by simpa [IV.cells] using e2)⟩, fun u hu => ?_⟩
      simp only [Value.cells, List.toList_toArray] at hu
      obtain ⟨j, hj, rfl⟩ := List.getElem_of_mem hu
      have hj' : j < cs.length := by omega
      have := h j vs[j] cs[j] (by simp) (by simp)
      exact VR.one this ((List.all_eq_true.1 h1) cs[j] (by simp [IV.cells]))
  | tup vs => simp [IV.cells, IV.one] at h1
  | opt g v => simp [IV.cells, IV.one] at h1
  | _ => exact fin h rfl rfl

/-! ### blocks -/
theorem getElem?_hput (σ : Heap) (b : Nat) (o : IObj) (x : Nat) : (hput σ b o)[x]? = if x = b then some o else if x < σ.length then σ[x]? else if x < b then some .hole else none := by
  induction σ generalizing b x with
  | nil =>
    induction b generalizing x with
    | zero => cases x <;> simp [hput]
    | succ b ih =>
      cases x with
      | zero => simp [hput]
      | succ x => simpa [hput] using ih x
  | cons y l ih =>
    cases b with
    | zero =>
      cases x with
      | zero => simp [hput]
      | succ x =>
        simp [hput]
        try (by_cases h : x < l.length <;> simp [h])
    | succ b =>
      cases x with
      | zero => simp [hput]
      | succ x => simpa [hput] using ih b x

theorem length_hput (σ : Heap) (b : Nat) (o : IObj) : σ.length ≤ (hput σ b o).length ∧ b < (hput σ b o).length := by
  constructor
  · rcases Nat.lt_or_ge (hput σ b o).length σ.length with h | h
    · exfalso
      have h1 : (hput σ b o)[(hput σ b o).length]? = none := by simp
      rw [getElem?_hput] at h1
      split at h1
      · cases h1
      · simp at h1; omega
    · exact h
  · rcases Nat.lt_or_ge b (hput σ b o).length with h | h
    · exact h
    · have h1 : (hput σ b o)[b]? = none := by simp [h]
      rw [getElem?_hput] at h1
      simp at h1

theorem ObjR.mono {μ' : Mu} {F' : Fz} {w' : World} {x : Nat} {o : IObj} (h : ObjR μ F w x o) (hle : μ.le μ') (hF : ∀ g, F.f g → F'.f g) (hf : ∀ g, F.f g → w'.heap[g]? = w.heap[g]?)
    (hx : μ'.sz x = μ.sz x ∧ μ'.len x = μ.len x ∧ μ'.pl x = μ.pl x ∧ μ'.cp x = μ.cp x ∧ (μ.u x → μ'.u x)) (hr : ∀ g off, μ.u x → μ.pl x = .at_ g off → w'.heap[g]? = w.heap[g]?)
    (hy : ∀ l r e, o = .yrec l r e → ¬ μ.u x → ¬ F.u l → (∀ b' off, μ.u b' → μ.pl b' ≠ .at_ l off) → l < w.heap.size → ¬ μ'.u x ∧ ¬ F'.u l ∧ (∀ b' off, μ'.u b' → μ'.pl b' ≠ .at_ l off) ∧ w'.heap[l]? = w.heap[l]?)
    (hi : ∀ b es cur todo, o = .iter (some b) es cur todo → μ.u b → μ'.u b ∧ μ'.sz b = μ.sz b ∧ μ'.pl b = μ.pl b ∧ ∀ gm off, μ.pl b = .at_ gm off → w'.heap[gm]? = w.heap[gm]?) : ObjR μ' F' w' x o := by
  obtain ⟨x1, x2, x3, x5, x4⟩ := hx
  cases o with
  | rows s rs =>
    obtain ⟨h0, h1, h2, h3, h4, h5⟩ := h
    refine ⟨x4 h0, h1, x1.trans h2, x2.trans h3, h4, ?_⟩
    rcases h5 with ⟨h5, h6⟩ | ⟨g, off, cs, T, h5, h6, h8, h9, h7⟩
    · exact .inl ⟨x3.trans h5, h6⟩
    · exact .inr ⟨g, off, cs, T, x3.trans h5, (hr g off h0 h5).trans h6, x5 ▸ h8, x5 ▸ h9, fun i row j c e1 e2 => let ⟨v, v1, v2⟩ := h7 i row j c e1 e2; ⟨v, v1, v2.mono hle hF hf⟩⟩
  | map es =>
    obtain ⟨h0, h1, g, es', cl, h2, h3, h4, h5⟩ := h
    exact ⟨x4 h0, x1.trans h1, g, es', cl, x3.trans h2, (hr g 0 h0 h2).trans h3, ⟨h4.1, fun j e p e1 e2 => let ⟨v1, v2⟩ := h4.2 j e p e1 e2; ⟨v1.mono hle hF hf, v2.mono hle hF hf⟩⟩, h5⟩
  | iter b es cur todo =>
    obtain ⟨h0, h1, g, h2, h3⟩ := h
    exact ⟨x4 h0, x1.trans h1, g, x3.trans h2, h3.mono (fun hv => hv.mono hle hF hf) (hr g 0 h0 h2) fun b' e hu => hi b' es cur todo (by rw [e]) hu⟩
  | yrec l r e =>
    obtain ⟨h1, h2, h3, h4, h5⟩ := h
    obtain ⟨k1, k2, k3, k4⟩ := hy l r e rfl h1 h2 h3 (Array.getElem?_eq_some_iff.1 h4).1
    exact ⟨k1, k2, k3, k4.trans h4, ⟨h5.size, fun t c hc => let ⟨v, v1, v2⟩ := h5.slot t c hc; ⟨v, v1, v2.mono hle hF hf⟩, fun g c hc => (h5.glob g c hc).mono hle hF hf⟩⟩
  | dead => trivial
  | hole => trivial

theorem HR.still_same (hH : HR μ F σ w) {b : Nat} {w' : World} (hw : ∀ g, g < w.heap.size → (μ.u b → ∀ off, μ.pl b ≠ .at_ g off) → w'.heap[g]? = w.heap[g]?) : ∀ g, F.u g → w'.heap[g]? = w.heap[g]? :=
  fun g hg => hw g (hH.flt g hg) fun hu off e => hH.fro b g off hu e hg

/-- Nothing frozen is touched by what touches nothing but block b's own block. -/
theorem HR.frozen_same (hH : HR μ F σ w) {b : Nat} {w' : World} (hw : ∀ g, g < w.heap.size → (μ.u b → ∀ off, μ.pl b ≠ .at_ g off) → w'.heap[g]? = w.heap[g]?) : ∀ g, F.f g → w'.heap[g]? = w.heap[g]? :=
  fun g hg => hH.still_same hw g (F.sub g hg)

theorem HR.notIt (hH : HR μ F σ w) {b : Nat} {o : IObj} (hb : σ[b]? = some o) (ho : o ≠ .dead) : ∀ (x b' : Nat) (es : List (IV × IV)) (cur : Option (IV × IV)) (todo : List (IV × IV)), σ[x]? = some (.iter (some b') es cur todo) → b' ≠ b :=
  fun x b' es cur todo h e => ho (by subst e; exact hH.itd x b' es cur todo o h hb)
theorem HR.notItN (hH : HR μ F σ w) {b : Nat} (hb : ¬ μ.u b) : ∀ (x b' : Nat) (es : List (IV × IV)) (cur : Option (IV × IV)) (todo : List (IV × IV)), σ[x]? = some (.iter (some b') es cur todo) → b' ≠ b :=
  fun x b' es cur todo h e => hb (by subst e; obtain ⟨_, _, _, _, h3⟩ := hH.obj x _ h; exact h3.1)

theorem HR.change {b : Nat} {o' : IObj} {μ' : Mu} {w' : World} (hH : HR μ F σ w) (hle : μ.le μ')
    (hag : ∀ x, x ≠ b → μ'.sz x = μ.sz x ∧ μ'.len x = μ.len x ∧ μ'.pl x = μ.pl x ∧ μ'.cp x = μ.cp x ∧ (μ'.u x ↔ μ.u x))
    (hw : ∀ g, g < w.heap.size → (μ.u b → ∀ off, μ.pl b ≠ .at_ g off) → w'.heap[g]? = w.heap[g]?)
    (hpl : ∀ g off, μ'.u b → μ'.pl b = .at_ g off → (w.heap.size ≤ g ∨ (μ.u b ∧ ∃ off', μ.pl b = .at_ g off')) ∧ g < w'.heap.size)
    (hsz : w.heap.size ≤ w'.heap.size) (hos : w'.os = w.os) (htape : w'.tape = w.tape) (hout : w'.output = w.output)
    (hit : ∀ (x b' : Nat) (es : List (IV × IV)) (cur : Option (IV × IV)) (todo : List (IV × IV)), σ[x]? = some (.iter (some b') es cur todo) → b' ≠ b) (ho : ObjR μ' F w' b o') (hno : o'.isHole = false := by rfl) (hny : ∀ l r e, o' ≠ .yrec l r e := by intros; intro h; cases h) (hni : ∀ y es cur todo o, o' = .iter (some y) es cur todo → (hput σ b o')[y]? = some o → o = .dead := by intro _ _ _ _ _ h; cases h) : HR μ' F (hput σ b o') w' ∧ Ext μ F w μ' F w' := by
  have hf := hH.frozen_same hw
  refine ⟨⟨fun x hx => ?_, fun x o hx => ?_, fun x y g off off' hx hy ex ey => ?_, fun x g off hx ex => ?_, fun x g off hx ex => ?_, fun g hg => Nat.lt_of_lt_of_le (hH.flt g hg) hsz, fun x y l r r' e e' hx hy => ?_, fun x y es cur todo o hx hy => ?_⟩, ⟨hle, fun _ h => h, fun _ h => h, hH.still_same hw, hsz, hos, htape, hout, fun _ h => .inl h⟩⟩
  · by_cases e : x = b
    · subst e; exact ⟨o', by rw [getElem?_hput, if_pos rfl], hno⟩
    · obtain ⟨o, h1, h2⟩ := hH.n x ((hag x e).2.2.2.2.1 hx)
      exact ⟨o, by rw [getElem?_hput, if_neg e, if_pos (List.getElem?_eq_some_iff.1 h1).1]; exact h1, h2⟩
  · rw [getElem?_hput] at hx
    split at hx
    · rename_i e; subst e; cases hx; exact ho
    · rename_i e
      split at hx
      · have := hH.obj x o hx
        refine this.mono hle (fun _ h => h) hf ⟨(hag x e).1, (hag x e).2.1, (hag x e).2.2.1, (hag x e).2.2.2.1, (hag x e).2.2.2.2.2⟩ (fun g off hu hp => hw g (hH.lt x g off hu hp) fun hb off' eb => e (hH.inj x b g off off' hu hb hp eb)) ?_ ?_
        rotate_left
        · intro b' es cur todo eo hu
          subst eo
          have hne := hit x b' es cur todo hx
          exact ⟨(hag b' hne).2.2.2.2.2 hu, (hag b' hne).1, (hag b' hne).2.2.1, fun gm off hp => hw gm (hH.lt b' gm off hu hp) fun hb off' eb => hne (hH.inj b' b gm off off' hu hb hp eb)⟩
        refine fun l _ _ _ k1 k2 k3 k4 => ⟨fun hu => k1 ((hag x e).2.2.2.2.1 hu), k2, fun b' off hu hp => ?_, hw l k4 fun hu off hp => k3 b off hu hp⟩
        by_cases e' : b' = b
        · subst e'
          rcases (hpl l off hu hp).1 with h | ⟨hb, o2, h⟩
          · omega
          · exact k3 b' o2 hb h
        · exact k3 b' off ((hag b' e').2.2.2.2.1 hu) ((hag b' e').2.2.1 ▸ hp)
      · split at hx
        · cases hx; trivial
        · cases hx
  · by_cases e1 : x = b
    · by_cases e2 : y = b
      · rw [e1, e2]
      · subst e1
        have hy' := (hag y e2).2.2.2.2.1 hy
        have ey' : μ.pl y = .at_ g off' := (hag y e2).2.2.1 ▸ ey
        rcases (hpl g off hx ex).1 with h | ⟨hb, o2, h⟩
        · exact absurd (hH.lt y g off' hy' ey') (by omega)
        · exact hH.inj x y g o2 off' hb hy' h ey'
    · have hx' := (hag x e1).2.2.2.2.1 hx
      have ex' : μ.pl x = .at_ g off := (hag x e1).2.2.1 ▸ ex
      by_cases e2 : y = b
      · subst e2
        rcases (hpl g off' hy ey).1 with h | ⟨hb, o2, h⟩
        · exact absurd (hH.lt x g off hx' ex') (by omega)
        · exact hH.inj x y g off o2 hx' hb ex' h
      · exact hH.inj x y g off off' hx' ((hag y e2).2.2.2.2.1 hy) ex' ((hag y e2).2.2.1 ▸ ey)
  · by_cases e : x = b
    · subst e
      rcases (hpl g off hx ex).1 with h | ⟨hb, o2, h⟩
      · exact fun hg => absurd (hH.flt g hg) (by omega)
      · exact hH.fro x g o2 hb h
    · exact hH.fro x g off ((hag x e).2.2.2.2.1 hx) ((hag x e).2.2.1 ▸ ex)
  · by_cases e : x = b
    · subst e; exact (hpl g off hx ex).2
    · exact Nat.lt_of_lt_of_le (hH.lt x g off ((hag x e).2.2.2.2.1 hx) ((hag x e).2.2.1 ▸ ex)) hsz
  · have key : ∀ (z : Nat) (r : Loop) (e : Env), (hput σ b o')[z]? = some (.yrec l r e) → σ[z]? = some (.yrec l r e) := fun z r e h => by
      rw [getElem?_hput] at h
      split at h
      · simp only [Option.some.injEq] at h; exact absurd h (hny l r e)
      · split at h
        · exact h
        · split at h <;> cases h
    exact hH.yin x y l r r' e e' (key _ _ _ hx) (key _ _ _ hy)
  · by_cases hxb : x = b
    · rw [getElem?_hput, if_pos hxb] at hx
      simp only [Option.some.injEq] at hx
      exact hni y es cur todo o hx hy
    have h1 : σ[x]? = some (.iter (some y) es cur todo) := by
      rw [getElem?_hput, if_neg hxb] at hx
      split at hx
      · exact hx
      · split at hx <;> cases hx
    have hne := hit x y es cur todo h1
    rw [getElem?_hput, if_neg hne] at hy
    split at hy
    · exact hH.itd x y es cur todo o h1 hy
    · exfalso
      obtain ⟨_, _, _, _, h3⟩ := hH.obj x _ h1
      obtain ⟨o2, o3, _⟩ := hH.n y h3.1
      have := (List.getElem?_eq_some_iff.1 o3).1
      omega

def Mu.add (μ : Mu) (b s n c : Nat) (p : Place) : Mu :=
  { u := fun x => x = b ∨ μ.u x, sz := fun x => if x = b then s else μ.sz x, len := fun x => if x = b then n else μ.len x, cp := fun x => if x = b then c else μ.cp x, pl := fun x => if x = b then p else μ.pl x }

theorem Mu.le_add {b s n c : Nat} {p : Place} (h : ¬ μ.u b) : μ.le (μ.add b s n c p) := by
  intro x hx
  have e : x ≠ b := fun e => h (e ▸ hx)
  simp [Mu.add, e, hx]

theorem Mu.add_other {b s n c : Nat} {p : Place} (x : Nat) (e : x ≠ b) : (μ.add b s n c p).sz x = μ.sz x ∧ (μ.add b s n c p).len x = μ.len x ∧ (μ.add b s n c p).pl x = μ.pl x ∧ (μ.add b s n c p).cp x = μ.cp x ∧ ((μ.add b s n c p).u x ↔ μ.u x) := by
  simp [Mu.add, e]

/-- A new block of rows. -/
theorem HR.newRows (hH : HR μ F σ w) {nb s c : Nat} {rs : List (List IV)} {cs : Array Value} {T : TypeId} (hnb : ¬ μ.u nb) (hs : 0 < s) (hrow : ∀ (i : Nat) (row : List IV), rs[i]? = some row → row.length = s)
    (hrc : rs.length ≤ c) (hc : c * s ≤ cs.size) (hcs : ∀ (i : Nat) (row : List IV) (j : Nat) (c : IV), rs[i]? = some row → row[j]? = some c → ∃ v, cs[i * s + j]? = some v ∧ VR μ F w v c) :
    HR (μ.add nb s rs.length c (.at_ w.heap.size 0)) F (hput σ nb (.rows s rs)) (w.alloc (.cells cs T)) ∧ Ext μ F w (μ.add nb s rs.length c (.at_ w.heap.size 0)) F (w.alloc (.cells cs T)) := by
  have hle : μ.le (μ.add nb s rs.length c (.at_ w.heap.size 0)) := Mu.le_add hnb
  have hw : ∀ g, g < w.heap.size → (μ.u nb → ∀ off, μ.pl nb ≠ .at_ g off) → (w.alloc (.cells cs T)).heap[g]? = w.heap[g]? := fun g hg _ => Below.heap_alloc _ _ _ hg
  refine hH.change hle (fun x e => Mu.add_other x e) hw (fun g off _ e => ?_) (by simp) rfl rfl rfl (hH.notItN hnb) ?_
  · simp [Mu.add] at e; obtain ⟨rfl, rfl⟩ := e; simp
  · refine ⟨.inl rfl, hs, by simp [Mu.add], by simp [Mu.add], hrow, .inr ⟨w.heap.size, 0, cs, T, by simp [Mu.add], heap_alloc_new _ _, by simpa [Mu.add] using hrc, by simpa [Mu.add] using hc, fun i row j c e1 e2 => ?_⟩⟩
    obtain ⟨v, h1, h2⟩ := hcs i row j c e1 e2
    exact ⟨v, by simpa using h1, h2.mono hle (fun _ h => h) (hH.frozen_same hw)⟩

/-! ### the operations -/
variable {ev : Operand → Value} {ρ : Operand → Option IV}

theorem binI_run {op : BinOp} {k : IntKind} {a b : Int} {r : Out} {t : TypeId} (h : binI op k a b = some r) (hp : r.pre) (w : World) :
    ∃ z, (binOp op t (.int k a) (.int k b)).run P w = .ok z w ∧ VR μ F w z r.v ∧ r.w = none := by
  cases op <;> simp only [binI, ok, okIf, Option.some.injEq, reduceCtorEq] at h <;> subst h
  case add => exact ⟨_, by rw [binOp_add]; rfl, .int _ _, rfl⟩
  case sub => exact ⟨_, by rw [binOp_sub]; rfl, .int _ _, rfl⟩
  case mul => exact ⟨_, by rw [binOp_mul]; rfl, .int _ _, rfl⟩
  case quo => exact ⟨_, by rw [binOp_quo]; simp only [Op.intDiv, if_neg hp]; rfl, .int _ _, rfl⟩
  case rem => exact ⟨_, by rw [binOp_rem]; simp only [Op.intDiv, if_neg hp]; rfl, .int _ _, rfl⟩
  case and => exact ⟨_, by rw [binOp_and]; rfl, .int _ _, rfl⟩
  case or => exact ⟨_, by rw [binOp_or]; rfl, .int _ _, rfl⟩
  case xor => exact ⟨_, by rw [binOp_xor]; rfl, .int _ _, rfl⟩
  case andNot => exact ⟨_, by rw [binOp_andNot]; rfl, .int _ _, rfl⟩
  case eql => exact ⟨_, by rw [binOp_eql]; rfl, .bool _, rfl⟩
  case neq => exact ⟨_, by rw [binOp_neq]; rfl, .bool _, rfl⟩
  case lss => exact ⟨_, by rw [binOp_lss]; rfl, .bool _, rfl⟩
  case leq => exact ⟨_, by rw [binOp_leq]; rfl, .bool _, rfl⟩
  case gtr => exact ⟨_, by rw [binOp_gtr]; rfl, .bool _, rfl⟩
  case geq => exact ⟨_, by rw [binOp_geq]; rfl, .bool _, rfl⟩

/-- A part of a row of cells: a scalar, or several cells. -/
theorem part_run {t : TypeId} {vs : List Value} {cs : List IV} {o : Nat} (hv : VRs μ F w vs cs) (ht : hasP P t = true) (hl : o + sizeP P t ≤ cs.length) (h1 : aggP P t = true ∨ sizeP P t = 1) :
    ∃ z, (part t vs.toArray o).run P w = .ok z w ∧ VR μ F w z (loadAt (aggP P t) (sizeP P t) cs o) := by
  obtain ⟨i, d, hi, hd, hs, hsz, hagg⟩ := hasP_spec ht
  unfold part
  cases ha : aggP P t with
  | true =>
    refine ⟨.agg ((vs.drop o).take (sizeP P t)).toArray, ?_, ?_⟩
    · simp [hagg, ha, hsz, hs]
      try (apply Array.ext'; simp [List.take_drop, Nat.add_comm])
    · simp only [loadAt, cond_true, cut]
      refine .agg _ _ (by simp [hv.1]) fun j v c e1 e2 => ?_
      rw [List.getElem?_take] at e1 e2
      split at e1
      · rename_i hj
        rw [if_pos hj] at e2
        rw [List.getElem?_drop] at e1 e2
        exact hv.2 _ v c e1 e2
      · cases e1
  | false =>
    have hsz1 : sizeP P t = 1 := by rcases h1 with h | h; rw [ha] at h; cases h; exact h
    have ho : o < cs.length := by omega
    have ho' : o < vs.length := by rw [hv.1]; exact ho
    refine ⟨vs[o], ?_, ?_⟩
    · simp [hagg, ha, ho']
    · simp only [loadAt, cond_false]
      exact hv.2 o _ _ (by simp [ho']) (by simp [List.getD, ho])

theorem kindsOK_length : ∀ {ks : List TypeDesc} {cs : List IV}, kindsOK ks cs = true → cs.length = ks.length
  | [], [], _ => rfl
  | .int _ :: ks, .int _ _ :: cs, h => by simp only [kindsOK, Bool.and_eq_true] at h; simp [kindsOK_length h.2]
  | .bool :: ks, .bool _ :: cs, h => by simp only [kindsOK] at h; simp [kindsOK_length h]
  | .string :: ks, .str _ :: cs, h => by simp only [kindsOK] at h; simp [kindsOK_length h]

theorem kindsOK_append : ∀ {ks ls : List TypeDesc} {cs : List IV}, kindsOK (ks ++ ls) cs = true → kindsOK ks (cs.take ks.length) = true ∧ kindsOK ls (cs.drop ks.length) = true
  | [], ls, cs, h => by simpa [kindsOK] using h
  | k :: ks, ls, c :: cs, h => by
    cases k <;> cases c <;> simp only [List.cons_append, kindsOK, Bool.and_eq_true, reduceCtorEq] at h
    · have := kindsOK_append h; simpa [kindsOK] using this
    · have := kindsOK_append h.2; simpa [kindsOK, h.1] using this
    · have := kindsOK_append h; simpa [kindsOK] using this
  | k :: ks, ls, [], h => by cases k <;> simp [kindsOK] at h

theorem ceqs_append : ∀ {a b c d : List IV} {r : Bool}, a.length = b.length → ceqs (a ++ c) (b ++ d) = some r → ∃ p q, ceqs a b = some p ∧ ceqs c d = some q ∧ r = (p && q)
  | [], [], c, d, r, _, h => ⟨true, r, rfl, h, by simp⟩
  | x :: a, y :: b, c, d, r, hl, h => by
    simp only [List.cons_append, ceqs] at h
    cases hx : ceq x y with
    | none => rw [hx] at h; cases h
    | some p =>
      rw [hx] at h
      cases hr : ceqs (a ++ c) (b ++ d) with
      | none => rw [hr] at h; cases h
      | some q =>
        rw [hr] at h
        obtain ⟨p', q', h1, h2, h3⟩ := ceqs_append (by simpa using hl) hr
        cases h
        exact ⟨p && p', q', by simp [ceqs, hx, h1], h2, by rw [h3, Bool.and_assoc]⟩

/-- What an equality of two values of a type answers. -/
def EqOK (P : Program) (μ : Mu) (F : Fz) (w : World) (d : Nat) (t : TypeId) (ks : List TypeDesc) : Prop :=
  ∀ (cs ds : List IV) (u v : Value) (r : Bool), kindsOK ks cs = true → kindsOK ks ds = true → VR μ F w u (mkV (aggP P t) cs) → VR μ F w v (mkV (aggP P t) ds) → ceqs cs ds = some r → (Op.equalIn d t u v).run P w = .ok r w

theorem sizeOK_spec {t : TypeId} {n : Nat} (h : sizeOK P t n = true) : sizeP P t = n := by
  unfold sizeOK at h
  unfold sizeP
  cases hi : P.info? t with
  | none => rw [hi] at h; cases h
  | some i => rw [hi] at h; simpa using h

theorem eq_part {d : Nat} {t : TypeId} {ks : List TypeDesc} {us vs : List Value} {cs ds : List IV} {o : Nat} {r : Bool} (hE : EqOK P μ F w d t ks) (hu : VRs μ F w us cs) (hv : VRs μ F w vs ds) (ht : hasP P t = true) (hsz : sizeP P t = ks.length)
    (h1 : aggP P t = true ∨ sizeP P t = 1) (hc : kindsOK ks ((cs.drop o).take ks.length) = true) (hd : kindsOK ks ((ds.drop o).take ks.length) = true) (hr : ceqs ((cs.drop o).take ks.length) ((ds.drop o).take ks.length) = some r) (ho : o + ks.length ≤ cs.length) (ho' : o + ks.length ≤ ds.length) :
    ∃ a b, (part t us.toArray o).run P w = .ok a w ∧ (part t vs.toArray o).run P w = .ok b w ∧ (Op.equalIn d t a b).run P w = .ok r w := by
  obtain ⟨a, a1, a2⟩ := part_run (o := o) hu ht (by omega) h1
  obtain ⟨b, b1, b2⟩ := part_run (o := o) hv ht (by omega) h1
  have key : ∀ (l : List IV), o + ks.length ≤ l.length → loadAt (aggP P t) (sizeP P t) l o = mkV (aggP P t) ((l.drop o).take ks.length) := fun l hl => by
    unfold loadAt mkV
    cases ha : aggP P t with
    | true => simp [cut, hsz]
    | false =>
      have : ks.length = 1 := by rw [ha] at h1; simpa [hsz] using h1
      rw [this]
      simp [List.getD]
  exact ⟨a, b, a1, b1, hE _ _ a b r hc hd (by rw [← key cs ho]; exact a2) (by rw [← key ds ho']; exact b2) hr⟩

theorem flatFs_has {g : TypeId → Option (List TypeDesc)} : ∀ {fs : List Field} {off : Nat} {ks : List TypeDesc}, flatFs P g fs off = some ks → True
  | _, _, _, _ => trivial

theorem flat_one {d : Nat} {t : TypeId} {ks : List TypeDesc} (h : flatK P d t = some ks) (hs : sizeOK P t ks.length = true) : hasP P t = true ∧ (aggP P t = true ∨ sizeP P t = 1) := by
  have hsz := sizeOK_spec hs
  cases d with
  | zero => simp [flatK] at h
  | succ d =>
    unfold flatK at h
    have hi : (P.info? t).isSome = true := by
      unfold sizeOK at hs
      cases hi : P.info? t with
      | none => rw [hi] at hs; cases hs
      | some i => rfl
    cases hu : P.underlying t with
    | none => rw [hu] at h; cases h
    | some k =>
      refine ⟨by simp [hasP, hi, hu], ?_⟩
      rw [hu] at h
      cases k <;> simp only [Option.some.injEq, reduceCtorEq] at h
      case int => subst h; right; simpa using hsz
      case bool => subst h; right; simpa using hsz
      case string => subst h; right; simpa using hsz
      case struct => left; simp [aggP, hu]
      case array => left; simp [aggP, hu]

theorem eq_fields {d : Nat} {g : TypeId → Option (List TypeDesc)} {us vs : List Value} {cs ds : List IV} (hu : VRs μ F w us cs) (hv : VRs μ F w vs ds) (hg : ∀ t ks, g t = some ks → EqOK P μ F w d t ks) (hg2 : ∀ t ks, g t = some ks → sizeOK P t ks.length = true → hasP P t = true ∧ (aggP P t = true ∨ sizeP P t = 1)) :
    ∀ (fs : List Field) (off : Nat) (ks : List TypeDesc) (r : Bool), flatFs P g fs off = some ks → kindsOK ks (cs.drop off) = true → kindsOK ks (ds.drop off) = true → ceqs (cs.drop off) (ds.drop off) = some r → off ≤ cs.length → off ≤ ds.length →
      (Op.eqFields d us.toArray vs.toArray fs).run P w = .ok r w
  | [], off, ks, r, hf, hc, hd, hr, hoc, hod => by
    simp only [flatFs, Option.some.injEq] at hf
    subst hf
    have e1 := kindsOK_length hc
    have e2 := kindsOK_length hd
    rw [List.eq_nil_of_length_eq_zero e1, List.eq_nil_of_length_eq_zero e2] at hr
    cases hr
    simp [Op.eqFields]
  | f :: fs, off, ks, r, hf, hc, hd, hr, hoc, hod => by
    simp only [flatFs] at hf
    cases h1 : g f.type with
    | none => rw [h1] at hf; cases hf
    | some l =>
      rw [h1] at hf
      simp only at hf
      cases h2 : flatFs P g fs (off + l.length) with
      | none => rw [h2] at hf; cases hf
      | some l' =>
        rw [h2] at hf
        simp only at hf
        split at hf
        · rename_i hcond
          obtain ⟨hn, hoff, hsz⟩ := hcond
          cases hf
          obtain ⟨c1, c2⟩ := kindsOK_append hc
          obtain ⟨d1, d2⟩ := kindsOK_append hd
          have lc := kindsOK_length hc
          have ld := kindsOK_length hd
          simp only [List.length_append, List.length_drop] at lc ld
          obtain ⟨hhas, hone⟩ := hg2 _ _ h1 hsz
          have e0 : cs.drop off = (cs.drop off).take l.length ++ cs.drop (off + l.length) := by rw [← List.drop_drop, List.take_append_drop]
          have e0' : ds.drop off = (ds.drop off).take l.length ++ ds.drop (off + l.length) := by rw [← List.drop_drop, List.take_append_drop]
          rw [e0, e0'] at hr
          obtain ⟨p, q, hp, hq, rfl⟩ := ceqs_append (by simp; omega) hr
          obtain ⟨a, b, a1, b1, ab⟩ := eq_part (hg _ _ h1) hu hv hhas (sizeOK_spec hsz) hone c1 d1 hp (by omega) (by omega)
          have ih := eq_fields hu hv hg hg2 fs (off + l.length) l' q h2 (by rw [← List.drop_drop]; exact c2) (by rw [← List.drop_drop]; exact d2) hq (by omega) (by omega)
          simp only [Op.eqFields]
          rw [if_pos hn, hoff]
          simp only [Sem.run_bind, a1, b1, ab, Result.andThen_ok]
          cases p with
          | false => simp
          | true => simpa using ih
        · cases hf

theorem eq_items {d : Nat} {e : TypeId} {l : List TypeDesc} {us vs : List Value} {cs ds : List IV} (hu : VRs μ F w us cs) (hv : VRs μ F w vs ds) (hE : EqOK P μ F w d e l) (hhas : hasP P e = true) (hone : aggP P e = true ∨ sizeP P e = 1) (hsz : sizeP P e = l.length) :
    ∀ (n k : Nat) (r : Bool), kindsOK (List.replicate n l).flatten (cs.drop (k * l.length)) = true → kindsOK (List.replicate n l).flatten (ds.drop (k * l.length)) = true → ceqs (cs.drop (k * l.length)) (ds.drop (k * l.length)) = some r → k * l.length ≤ cs.length → k * l.length ≤ ds.length →
      (Op.eqItems d e (P.cellsOf e) us.toArray vs.toArray (List.range' k n)).run P w = .ok r w
  | 0, k, r, hc, hd, hr, hoc, hod => by
    simp only [List.replicate_zero, List.flatten_nil] at hc hd
    have e1 := kindsOK_length hc
    have e2 := kindsOK_length hd
    rw [List.eq_nil_of_length_eq_zero e1, List.eq_nil_of_length_eq_zero e2] at hr
    cases hr
    simp [Op.eqItems]
  | n + 1, k, r, hc, hd, hr, hoc, hod => by
    rw [List.replicate_succ, List.flatten_cons] at hc hd
    obtain ⟨c1, c2⟩ := kindsOK_append hc
    obtain ⟨d1, d2⟩ := kindsOK_append hd
    have lc := kindsOK_length hc
    have ld := kindsOK_length hd
    simp only [List.length_append, List.length_drop] at lc ld
    have e0 : cs.drop (k * l.length) = (cs.drop (k * l.length)).take l.length ++ cs.drop ((k + 1) * l.length) := by rw [Nat.add_mul, Nat.one_mul, ← List.drop_drop, List.take_append_drop]
    have e0' : ds.drop (k * l.length) = (ds.drop (k * l.length)).take l.length ++ ds.drop ((k + 1) * l.length) := by rw [Nat.add_mul, Nat.one_mul, ← List.drop_drop, List.take_append_drop]
    rw [e0, e0'] at hr
    obtain ⟨p, q, hp, hq, rfl⟩ := ceqs_append (by simp; omega) hr
    have hcell : P.cellsOf e = l.length := by
      rw [← hsz]; unfold Program.cellsOf sizeP; cases P.info? e <;> rfl
    obtain ⟨a, b, a1, b1, ab⟩ := eq_part hE hu hv hhas hsz hone c1 d1 hp (by omega) (by omega)
    have ih := eq_items hu hv hE hhas hone hsz n (k + 1) q (by rw [Nat.add_mul, Nat.one_mul, ← List.drop_drop]; exact c2) (by rw [Nat.add_mul, Nat.one_mul, ← List.drop_drop]; exact d2) hq (by rw [Nat.add_mul]; omega) (by rw [Nat.add_mul]; omega)
    rw [List.range'_succ]
    simp only [Op.eqItems, hcell, Sem.run_bind, a1, b1, ab, Result.andThen_ok]
    rw [hcell] at ih
    cases p with
    | false => simp
    | true => simpa using ih

theorem flat_eq : ∀ (k m : Nat) (t : TypeId) (ks : List TypeDesc), flatK P k t = some ks → EqOK P μ F w (m + k) t ks
  | 0, _, _, _, h => by simp [flatK] at h
  | k + 1, m, t, ks, h => by
    intro cs ds u v r hc hd hu hv hr
    have lc := kindsOK_length hc
    have ld := kindsOK_length hd
    unfold flatK at h
    cases hk : P.underlying t with
    | none => rw [hk] at h; cases h
    | some td =>
      rw [hk] at h
      cases td <;> simp only [Option.some.injEq, reduceCtorEq] at h
      case bool =>
        subst h
        have ha : aggP P t = false := by simp [aggP, hk]
        rw [ha] at hu hv
        obtain ⟨c, rfl⟩ := List.length_eq_one_iff.1 lc
        obtain ⟨e, rfl⟩ := List.length_eq_one_iff.1 ld
        cases c <;> simp only [kindsOK, reduceCtorEq] at hc
        cases e <;> simp only [kindsOK, reduceCtorEq] at hd
        cases hu; cases hv
        simp only [ceqs, ceq, Bool.and_true, Option.some.injEq] at hr
        subst hr
        exact run_equalIn_bool w (m + k) t _ _ hk
      case int q =>
        subst h
        have ha : aggP P t = false := by simp [aggP, hk]
        rw [ha] at hu hv
        obtain ⟨c, rfl⟩ := List.length_eq_one_iff.1 lc
        obtain ⟨e, rfl⟩ := List.length_eq_one_iff.1 ld
        cases c <;> simp only [kindsOK, reduceCtorEq] at hc
        cases e <;> simp only [kindsOK, reduceCtorEq] at hd
        simp only [Bool.and_true, beq_iff_eq] at hc hd
        subst hc; subst hd
        cases hu; cases hv
        simp only [ceqs, ceq, BEq.rfl, cond_true, Bool.and_true, Option.some.injEq] at hr
        subst hr
        exact run_equalIn_int w (m + k) t _ _ _ _ hk
      case string =>
        subst h
        have ha : aggP P t = false := by simp [aggP, hk]
        rw [ha] at hu hv
        obtain ⟨c, rfl⟩ := List.length_eq_one_iff.1 lc
        obtain ⟨e, rfl⟩ := List.length_eq_one_iff.1 ld
        cases c <;> simp only [kindsOK, reduceCtorEq] at hc
        cases e <;> simp only [kindsOK, reduceCtorEq] at hd
        cases hu; cases hv
        simp only [ceqs, ceq, Bool.and_true, Option.some.injEq] at hr
        subst hr
        show (Op.equalIn (m + k + 1) t _ _).run P w = _
        simp only [Op.equalIn, Sem.run_bind, run_underlying hk, Result.andThen_ok, Sem.run_pure]
      case struct fs =>
        split at h
        · cases h
        · rename_i hst
          have ha : aggP P t = true := by simp [aggP, hk]
          have hfo : P.fieldsOf t = fs := by simp [Program.fieldsOf, hk]
          rw [ha] at hu hv
          simp only [mkV, cond_true] at hu hv
          cases hu with
          | agg us _ l1 h1 =>
            cases hv with
            | agg vs _ l2 h2 =>
              show (Op.equalIn (m + k + 1) t _ _).run P w = _
              rw [run_equalIn_struct w (m + k) t _ _ (by rw [hfo]; exact hk) (by simpa using hst), hfo]
              exact eq_fields ⟨l1, h1⟩ ⟨l2, h2⟩ (fun t' ks' h' => flat_eq k m t' ks' h') (fun t' ks' h' hs' => flat_one h' hs') fs.toList 0 ks r h (by simpa using hc) (by simpa using hd) (by simpa using hr) (Nat.zero_le _) (Nat.zero_le _)
      case array n e =>
        cases he : flatK P k e with
        | none => rw [he] at h; cases h
        | some l =>
          rw [he] at h
          simp only at h
          split at h
          · rename_i hs
            cases h
            have ha : aggP P t = true := by simp [aggP, hk]
            rw [ha] at hu hv
            simp only [mkV, cond_true] at hu hv
            obtain ⟨hhas, hone⟩ := flat_one he hs
            cases hi : P.info? e with
            | none => simp [sizeOK, hi] at hs
            | some i =>
              cases hu with
              | agg us _ l1 h1 =>
                cases hv with
                | agg vs _ l2 h2 =>
                  show (Op.equalIn (m + k + 1) t _ _).run P w = _
                  rw [run_equalIn_array w (m + k) _ _ hk hi, List.range_eq_range']
                  exact eq_items ⟨l1, h1⟩ ⟨l2, h2⟩ (flat_eq k m e l he) hhas hone (sizeOK_spec hs) n 0 r (by simpa using hc) (by simpa using hd) (by simpa using hr) (by simp) (by simp)
          · cases h

theorem equalIn_bool (d : Nat) {t : TypeId} (hu : P.underlying t = some .bool) (a b : Bool) (w : World) : (Op.equalIn (d + 1) t (.bool a) (.bool b)).run P w = .ok (a == b) w := by
  simp only [Op.equalIn, Sem.run_bind, run_underlying hu, Result.andThen_ok, Sem.run_pure]
theorem equal_bool {t : TypeId} (hu : P.underlying t = some .bool) (a b : Bool) (w : World) : (Op.equal t (.bool a) (.bool b)).run P w = .ok (a == b) w := equalIn_bool 9999 hu a b w

theorem equalIn_slice_nil (d : Nat) {t e : TypeId} (hu : P.underlying t = some (.slice e)) (a : Addr) (n c : Nat) (w : World) : (Op.equalIn (d + 1) t (.slice (some a) n c) (.slice none 0 0)).run P w = .ok false w := by
  simp only [Op.equalIn, Sem.run_bind, run_underlying hu, Result.andThen_ok, Sem.run_pure]
theorem equalIn_nil_nil (d : Nat) {t e : TypeId} (hu : P.underlying t = some (.slice e)) (w : World) : (Op.equalIn (d + 1) t (.slice none 0 0) (.slice none 0 0)).run P w = .ok true w := by
  simp only [Op.equalIn, Sem.run_bind, run_underlying hu, Result.andThen_ok, Sem.run_pure]
  rfl
theorem equal_slice_nil {t e : TypeId} (hu : P.underlying t = some (.slice e)) (a : Addr) (n c : Nat) (w : World) : (Op.equal t (.slice (some a) n c) (.slice none 0 0)).run P w = .ok false w := equalIn_slice_nil 9999 hu a n c w
theorem equal_nil_nil {t e : TypeId} (hu : P.underlying t = some (.slice e)) (w : World) : (Op.equal t (.slice none 0 0) (.slice none 0 0)).run P w = .ok true w := equalIn_nil_nil 9999 hu w
theorem eqGuard_of_slice {op : BinOp} {t : TypeId} {x y : Operand} {a b : Option Addr} {n c n' c' : Nat} : eqGuard op t x y (.slice a n c) (.slice b n' c') = pure () := by cases op <;> rfl

theorem bin_run {op : BinOp} {t : TypeId} {x y : Operand} {u v : Value} {a b : IV} {r : Out} (hx : VR μ F w u a) (hy : VR μ F w v b) (h : bin P op t a b = some r) (hp : r.pre) :
    ∃ z, (do eqGuard op t x y u v; binOp op t u v : Sem Value).run P w = .ok z w ∧ VR μ F w z r.v ∧ r.w = none := by
  unfold bin at h
  split at h
  · rename_i k a k' b
    cases hx
    cases hy
    rw [eqGuard_at_int]
    simp only [Sem.run_bind, Sem.run_pure, Result.andThen_ok]
    split at h
    · simp only [okIf, Option.some.injEq] at h; subst h
      have hb : ¬ b < 0 := by have : 0 ≤ b := hp; omega
      exact ⟨_, by rw [binOp_shl]; simp only [Op.shift, if_neg hb]; rfl, .int _ _, rfl⟩
    · simp only [okIf, Option.some.injEq] at h; subst h
      have hb : ¬ b < 0 := by have : 0 ≤ b := hp; omega
      exact ⟨_, by rw [binOp_shr]; simp only [Op.shift, if_neg hb]; rfl, .int _ _, rfl⟩
    · by_cases e : k = k'
      · subst e
        simp only [BEq.rfl, cond_true] at h
        exact binI_run h hp w
      · have : (k == k') = false := by simpa using e
        rw [this] at h; cases h
  · rename_i a b
    cases hx
    cases hy
    rw [eqGuard_at_bool]
    simp only [Sem.run_bind, Sem.run_pure, Result.andThen_ok]
    split at h
    · rename_i hu
      split at h
      · simp only [ok, Option.some.injEq] at h; subst h
        exact ⟨.bool (a == b), by simp only [binOp, Sem.run_bind, equal_bool hu, Result.andThen_ok, Sem.run_pure], .bool _, rfl⟩
      · simp only [ok, Option.some.injEq] at h; subst h
        exact ⟨.bool (a != b), by simp only [binOp, Sem.run_bind, equal_bool hu, Result.andThen_ok, Sem.run_pure]; rfl, .bool _, rfl⟩
      · cases h
    · cases h
  · rename_i cs ds
    split at h
    · rename_i ks hks
      cases hkk : (kindsOK ks cs && kindsOK ks ds) with
      | false => rw [hkk] at h; cases h
      | true =>
        rw [hkk] at h
        simp only [cond_true] at h
        simp only [Bool.and_eq_true] at hkk
        unfold flatP at hks
        split at hks
        · rename_i hcond
          cases hr : ceqs cs ds with
          | none => rw [hr] at h; cases h
          | some b =>
            rw [hr] at h
            have heq : ∀ w', w' = w → (Op.equal t u v).run P w' = .ok b w' := fun w' hw' => by
              subst hw'
              have := flat_eq (μ := μ) (F := F) (w := w') 8 9992 t ks hks cs ds u v b hkk.1 hkk.2 (by rw [hcond.1]; exact hx) (by rw [hcond.1]; exact hy) hr
              exact this
            cases hx with
            | agg us _ l1 h1 =>
              cases hy with
              | agg vs _ l2 h2 =>
                have fin : ∀ hh : P.eqGuardType P.depth t = true, False := fun hh => by rw [hcond.2] at hh; cases hh
                cases op <;> simp only [ok, Option.some.injEq, reduceCtorEq] at h
                · subst h
                  have hg : (eqGuard .eql t x y (.agg us.toArray) (.agg vs.toArray)).run P w = .ok () w := by
                    simp [eqGuard, run_program]
                    intro hh; exact (fin hh).elim
                  rw [Sem.run_bind, hg]
                  simp only [Result.andThen_ok]
                  exact ⟨.bool b, by simp only [binOp, Sem.run_bind, heq w rfl, Result.andThen_ok, Sem.run_pure], .bool _, by first | rfl | trivial⟩
                · subst h
                  have hg : (eqGuard .neq t x y (.agg us.toArray) (.agg vs.toArray)).run P w = .ok () w := by
                    simp [eqGuard, run_program]
                    intro hh; exact (fin hh).elim
                  rw [Sem.run_bind, hg]
                  simp only [Result.andThen_ok]
                  exact ⟨.bool (!b), by simp only [binOp, Sem.run_bind, heq w rfl, Result.andThen_ok, Sem.run_pure], .bool _, by first | rfl | trivial⟩
        · cases hks
    · cases h
  · rename_i s row rows
    split at h
    · rename_i e hu
      cases hy
      generalize hrs : row :: rows = rs at hx
      cases hx with
      | fz0 => cases hrs
      | fz g off _ _ cap us hF hrow hcell hv hcap =>
        split at h
        · simp only [ok, Option.some.injEq] at h; subst h
          refine ⟨.bool false, ?_, .bool _, rfl⟩
          rw [eqGuard_of_slice]
          simp only [Sem.run_bind, Sem.run_pure, Result.andThen_ok, binOp, equal_slice_nil hu]
        · simp only [ok, Option.some.injEq] at h; subst h
          refine ⟨.bool true, ?_, .bool _, rfl⟩
          rw [eqGuard_of_slice]
          simp only [Sem.run_bind, Sem.run_pure, Result.andThen_ok, binOp, equal_slice_nil hu]
          rfl
        · cases h
    · cases h
  · split at h
    · rename_i e hu
      cases hx
      cases hy
      split at h
      · simp only [ok, Option.some.injEq] at h; subst h
        refine ⟨.bool true, ?_, .bool _, rfl⟩
        rw [eqGuard_of_slice]
        simp only [Sem.run_bind, Sem.run_pure, Result.andThen_ok, binOp, equal_nil_nil hu]
      · simp only [ok, Option.some.injEq] at h; subst h
        refine ⟨.bool false, ?_, .bool _, rfl⟩
        rw [eqGuard_of_slice]
        simp only [Sem.run_bind, Sem.run_pure, Result.andThen_ok, binOp, equal_nil_nil hu]
        rfl
      · cases h
    · cases h
  · cases h

theorem un_run {op : UnOp} {u : Value} {a : IV} {r : Out} (hx : VR μ F w u a) (h : un op a = some r) : ∃ z, (Op.unary op u).run P w = .ok z w ∧ VR μ F w z r.v ∧ r.w = none := by
  unfold un at h
  split at h
  · cases hx; simp only [ok, Option.some.injEq] at h; subst h
    exact ⟨_, rfl, .bool _, rfl⟩
  · cases hx; simp only [ok, Option.some.injEq] at h; subst h
    exact ⟨_, rfl, .int _ _, rfl⟩
  · cases h

theorem opsnd_vrs (hρ : ∀ x c, ρ x = some c → VR μ F w (ev x) c) : ∀ (l : List Operand) (cs : List IV), opsnd ρ l = some cs → VRs μ F w (l.map ev) cs
  | [], cs, h => by simp [opsnd] at h; subst h; exact ⟨rfl, by simp⟩
  | x :: l, cs, h => by
    simp only [opsnd] at h
    split at h
    · rename_i a b h1 h2
      cases h
      have ih := opsnd_vrs hρ l b h2
      refine ⟨by simpa using ih.1, fun j v c e1 e2 => ?_⟩
      cases j with
      | zero => simp at e1 e2; subst e1; subst e2; exact hρ x _ h1
      | succ j => exact ih.2 j v c (by simpa using e1) (by simpa using e2)
    · cases h

end
end Go.Idl
