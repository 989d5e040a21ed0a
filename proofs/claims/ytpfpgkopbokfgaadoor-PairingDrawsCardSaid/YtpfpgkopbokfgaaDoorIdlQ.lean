/-
  Pure functions: called with values that nobody writes, from an empty heap; slices of the caller's own are lent; what is handed back nobody writes any more, or is the caller's own.
-/
import Derived.Test.YtpfpgkopbokfgaaDoorIdlK
namespace Go.Idl
set_option linter.all false
open Go.RowKit

/-- Values that point to no block of one's own. -/
inductive Cl : IV → Prop where
  | bool (b : Bool) : Cl (.bool b)
  | int (k : IntKind) (n : Int) : Cl (.int k n)
  | str (s : ByteArray) : Cl (.str s)
  | nilp : Cl .nilp
  | nils : Cl .nils
  | nilm : Cl .nilm
  | nilf : Cl .nilf
  | fptr (s : Nat) (rows : List (List IV)) (i o : Nat) (h : ∀ (i : Nat) (row : List IV) (j : Nat) (c : IV), rows[i]? = some row → row[j]? = some c → Cl c) : Cl (.fptr s rows i o)
  | fz (s : Nat) (rows : List (List IV)) (h : ∀ (i : Nat) (row : List IV) (j : Nat) (c : IV), rows[i]? = some row → row[j]? = some c → Cl c) : Cl (.fz s rows)
  | func (fn : Fn) (fs cs : List IV) (h1 : ∀ (j : Nat) (c : IV), fs[j]? = some c → Cl c) (h2 : ∀ (j : Nat) (c : IV), cs[j]? = some c → Cl c) : Cl (.func fn fs cs)
  | agg (cs : List IV) (h : ∀ (j : Nat) (c : IV), cs[j]? = some c → Cl c) : Cl (.agg cs)
  | tup (cs : List IV) (h : ∀ (j : Nat) (c : IV), cs[j]? = some c → Cl c) : Cl (.tup cs)

/-- A value of one's own heap, and the same as one that nobody writes. fr: whether what is frozen already may be in it. -/
inductive Fr (fr : Bool) (h : Heap) : IV → IV → Prop where
  | bool (b : Bool) : Fr fr h (.bool b) (.bool b)
  | int (k : IntKind) (n : Int) : Fr fr h (.int k n) (.int k n)
  | str (s : ByteArray) : Fr fr h (.str s) (.str s)
  | nilp : Fr fr h .nilp .nilp
  | nils : Fr fr h .nils .nils
  | nilm : Fr fr h .nilm .nilm
  | nilf : Fr fr h .nilf .nilf
  | nz (s : Nat) : Fr fr h .nils (.fz s [])
  | cl (v : IV) (hf : fr = true) (hc : Cl v) : Fr fr h v v
  | sl (b tot i len : Nat) (cap : Option Nat) (s : Nat) (rs rs' : List (List IV)) (hb : h[b]? = some (.rows s rs)) (ht : tot = rs.length) (hl : i + len ≤ rs.length) (hn : rs'.length = len)
      (hr : ∀ (k : Nat) (row row' : List IV), rs[i + k]? = some row → rs'[k]? = some row' → row'.length = row.length)
      (hc : ∀ (k : Nat) (row row' : List IV) (j : Nat) (c c' : IV), rs[i + k]? = some row → rs'[k]? = some row' → row[j]? = some c → row'[j]? = some c' → Fr fr h c c') : Fr fr h (.sl b tot i len cap) (.fz s rs')
  | ptr (b tot i o s : Nat) (rs rs' : List (List IV)) (hb : h[b]? = some (.rows s rs)) (ht : tot = rs.length) (hl : i < rs.length) (hn : rs'.length = rs.length)
      (hr : ∀ (k : Nat) (row row' : List IV), rs[k]? = some row → rs'[k]? = some row' → row'.length = row.length)
      (hc : ∀ (k : Nat) (row row' : List IV) (j : Nat) (c c' : IV), rs[k]? = some row → rs'[k]? = some row' → row[j]? = some c → row'[j]? = some c' → Fr fr h c c') : Fr fr h (.ptr b tot i o) (.fptr s rs' i o)
  | func (fn : Fn) (fs cs fs' cs' : List IV) (hf : fs'.length = fs.length) (hg : cs'.length = cs.length) (h1 : ∀ (j : Nat) (c c' : IV), fs[j]? = some c → fs'[j]? = some c' → Fr fr h c c') (h2 : ∀ (j : Nat) (c c' : IV), cs[j]? = some c → cs'[j]? = some c' → Fr fr h c c') : Fr fr h (.func fn fs cs) (.func fn fs' cs')
  | agg (cs cs' : List IV) (hg : cs'.length = cs.length) (h2 : ∀ (j : Nat) (c c' : IV), cs[j]? = some c → cs'[j]? = some c' → Fr fr h c c') : Fr fr h (.agg cs) (.agg cs')
  | tup (cs cs' : List IV) (hg : cs'.length = cs.length) (h2 : ∀ (j : Nat) (c c' : IV), cs[j]? = some c → cs'[j]? = some c' → Fr fr h c c') : Fr fr h (.tup cs) (.tup cs')

section
variable {P : Program} {μ : Mu} {F : Fz} {w : World} {σ : Heap}

theorem Cl.vr {μ' : Mu} {F' : Fz} {w' : World} (hF : ∀ g, F.f g → F'.f g) (hw : ∀ g, F.f g → w'.heap[g]? = w.heap[g]?) {v : Value} {c : IV} (h : VR μ F w v c) (hc : Cl c) : VR μ' F' w' v c := by
  induction h with
  | bool b => exact .bool b
  | int k n => exact .int k n
  | str s => exact .str s
  | nilp => exact .nilp
  | ptr v b tot i o hk hb ht h => cases hc
  | fptr g off s rows i o us hf hrow hcell hv ih =>
    cases hc with
    | fptr _ _ _ _ hcl => exact .fptr g off s rows i o us (hF _ hf) hrow (fun i row j hi hj => by rw [World.cell?_of_heap (hw g hf)]; exact hcell i row j hi hj) fun i row j c h1 h2 => ih i row j c h1 h2 (hcl i row j c h1 h2)
  | nils => exact .nils
  | sl v b tot i len cap hk hb ht h => cases hc
  | fz g off s rows cap us hf hrow hcell hv hcap ih =>
    cases hc with
    | fz _ _ hcl => exact .fz g off s rows cap us (hF _ hf) hrow (fun i row j hi hj => by rw [World.cell?_of_heap (hw g hf)]; exact hcell i row j hi hj) (fun i row j c h1 h2 => ih i row j c h1 h2 (hcl i row j c h1 h2)) hcap
  | fz0 a cap s => exact .fz0 a cap s
  | nilm => exact .nilm
  | map v b hk hb h hl => cases hc
  | iter v b hk hb h hl => cases hc
  | nilf => exact .nilf
  | func fn fs cs fs' cs' hf hc' _ _ ih1 ih2 =>
    cases hc with
    | func _ _ _ c1 c2 => exact .func fn fs cs fs' cs' hf hc' (fun j v c h1 h2 => ih1 j v c h1 h2 (c1 j c h2)) fun j v c h1 h2 => ih2 j v c h1 h2 (c2 j c h2)
  | agg vs cs hl _ ih =>
    cases hc with
    | agg _ c2 => exact .agg vs cs hl fun j v c h1 h2 => ih j v c h1 h2 (c2 j c h2)
  | tup vs cs hl _ ih =>
    cases hc with
    | tup _ c2 => exact .tup vs cs hl fun j v c h1 h2 => ih j v c h1 h2 (c2 j c h2)
  | opt g v c h1 h0 ih => cases hc

theorem cell_rows {g off : Nat} {cs : Array Value} {T : TypeId} {s k j : Nat} (hg : w.heap[g]? = some (.cells cs T (0, 0))) (h : off + k * s + j < cs.size) : w.cell? ⟨g, off + k * s + j, none⟩ = some (cs.getD (off + k * s + j) undef) := by
  simp [World.cell?, hg, Array.getD_eq_getD_getElem?, Array.getElem?_eq_getElem h]

/-- **WHAT IS ONE's OWN, AS WHAT NOBODY WRITES.** -/
theorem Fr.vr {fr : Bool} {μ' : Mu} {F' : Fz} {w' : World} (hH : HR μ F σ w) (hF : fr = true → ∀ g, F.f g → F'.f g) (hw : ∀ g, F'.f g → w'.heap[g]? = w.heap[g]?) (hown : ∀ b g off, μ.u b → μ.pl b = .at_ g off → F'.f g)
    {c c' : IV} (hc : Fr fr σ c c') : ∀ {v : Value}, VR μ F w v c → VR μ' F' w' v c' := by
  induction hc with
  | bool b => intro v h; cases h; exact .bool b
  | int k n => intro v h; cases h; exact .int k n
  | str s => intro v h; cases h; exact .str s
  | nilp => intro v h; cases h; exact .nilp
  | nils => intro v h; cases h; exact .nils
  | nilm => intro v h; cases h; exact .nilm
  | nilf => intro v h; cases h; exact .nilf
  | nz s => intro v h; cases h; exact .fz0 _ _ _
  | cl v hf hc => intro u h; exact Cl.vr (hF hf) (fun g hg => hw g (hF hf g hg)) h hc
  | sl b tot i len cap s rs rs' hb ht hl hn hr hc ih =>
    intro v h
    obtain ⟨hu, hs, hsz, hlen, hrow, hcs⟩ := hH.obj b _ hb
    cases h with
    | sl _ _ _ _ _ _ hk hb' ht' h =>
      have hok := h (by omega)
      by_cases h0 : len = 0
      · have : rs' = [] := List.eq_nil_of_length_eq_zero (by omega)
        subst this
        rcases hcs with ⟨hpl, _⟩ | ⟨g, off, cs, T, hpl, _⟩
        · rw [hpl] at hok; obtain ⟨rfl, _⟩ := hok; exact .fz0 _ _ _
        · rw [hpl] at hok; obtain ⟨a, c, rfl, _⟩ := hok; rw [h0]; exact .fz0 _ _ _
      · rcases hcs with ⟨_, h1⟩ | ⟨g, off, cs, T, hpl, hg, hcp1, hcp2, hcell⟩
        · subst h1; simp at hl; omega
        · rw [hpl] at hok
          obtain ⟨a, c, rfl, hlc, hic, ha, _⟩ := hok
          have ha := ha.resolve_left (by omega)
          subst ha
          have hg' := hown b g off hu hpl
          rw [hsz] at *
          have hin : ∀ k j, k < len → j < s → off + (i + k) * s + j < cs.size := fun k j hk hj => by
            have : (i + k + 1) * s ≤ μ.cp b * s := Nat.mul_le_mul_right s (by omega)
            rw [Nat.add_mul] at this; omega
          have := VR.fz (μ := μ') (F := F') (w := w') g (off + i * s) s rs' c (fun k j => cs.getD (off + (i + k) * s + j) undef) hg' (fun k row' hk => ?_) (fun k row' j hk hj => ?_) (fun k row' j c' hk hj => ?_) (by omega)
          · rw [hn] at this; exact this
          · have hk' := (List.getElem?_eq_some_iff.1 hk).1
            have e1 : rs[i + k]? = some rs[i + k] := List.getElem?_eq_getElem (by omega)
            rw [hr k _ _ e1 hk]; exact hrow _ _ e1
          · have hk' := (List.getElem?_eq_some_iff.1 hk).1
            rw [World.cell?_of_heap (hw g hg'), show off + i * s + k * s + j = off + (i + k) * s + j by rw [Nat.add_mul]; omega]
            exact cell_rows hg (hin k j (by omega) hj)
          · have hk' := (List.getElem?_eq_some_iff.1 hk).1
            have e1 : rs[i + k]? = some rs[i + k] := List.getElem?_eq_getElem (by omega)
            have e2 := hr k _ _ e1 hk
            have e3 := hrow _ _ e1
            have hj' := (List.getElem?_eq_some_iff.1 hj).1
            have e4 : (rs[i + k])[j]? = some (rs[i + k])[j] := List.getElem?_eq_getElem (by omega)
            obtain ⟨u, u1, u2⟩ := hcell _ _ j _ e1 e4
            have : cs.getD (off + (i + k) * s + j) undef = u := by rw [Array.getD_eq_getD_getElem?, u1]; rfl
            rw [this]
            exact ih k _ _ j _ _ e1 hk e4 hj u2
  | ptr b tot i o s rs rs' hb ht hl hn hr hc ih =>
    intro v h
    obtain ⟨g, off, cs, T, rfl, hu, hsz, hlen, hpl, hg, hcp1, hcp2, hrow, hcell⟩ := ptr_row hH hb h ht hl
    have hg' := hown b g off hu hpl
    have hin : ∀ k j, k < rs.length → j < s → off + k * s + j < cs.size := fun k j hk hj => by
      have : (k + 1) * s ≤ μ.cp b * s := Nat.mul_le_mul_right s (by omega)
      rw [Nat.add_mul] at this; omega
    refine VR.fptr (μ := μ') (F := F') (w := w') g off s rs' i o (fun k j => cs.getD (off + k * s + j) undef) hg' (fun k row' hk => ?_) (fun k row' j hk hj => ?_) (fun k row' j c' hk hj => ?_)
    · have hk' := (List.getElem?_eq_some_iff.1 hk).1
      have e1 : rs[k]? = some rs[k] := List.getElem?_eq_getElem (by omega)
      rw [hr k _ _ e1 hk]; exact hrow _ _ e1
    · have hk' := (List.getElem?_eq_some_iff.1 hk).1
      rw [World.cell?_of_heap (hw g hg')]
      exact cell_rows hg (hin k j (by omega) hj)
    · have hk' := (List.getElem?_eq_some_iff.1 hk).1
      have e1 : rs[k]? = some rs[k] := List.getElem?_eq_getElem (by omega)
      have e2 := hr k _ _ e1 hk
      have e3 := hrow _ _ e1
      have hj' := (List.getElem?_eq_some_iff.1 hj).1
      have e4 : (rs[k])[j]? = some (rs[k])[j] := List.getElem?_eq_getElem (by omega)
      obtain ⟨u, u1, u2⟩ := hcell _ _ j _ e1 e4
      have : cs.getD (off + k * s + j) undef = u := by rw [Array.getD_eq_getD_getElem?, u1]; rfl
      rw [this]
      exact ih k _ _ j _ _ e1 hk e4 hj u2
  | func fn fs cs fs' cs' hf hg h1 h2 ih1 ih2 =>
    intro v h
    cases h with
    | func _ vs us _ _ k1 k2 k3 k4 =>
      refine .func fn vs us fs' cs' (by omega) (by omega) (fun j v c' e1 e2 => ?_) fun j v c' e1 e2 => ?_
      · have hj := (List.getElem?_eq_some_iff.1 e2).1
        have e3 : fs[j]? = some fs[j] := List.getElem?_eq_getElem (by omega)
        exact ih1 j _ _ e3 e2 (k3 j v _ e1 e3)
      · have hj := (List.getElem?_eq_some_iff.1 e2).1
        have e3 : cs[j]? = some cs[j] := List.getElem?_eq_getElem (by omega)
        exact ih2 j _ _ e3 e2 (k4 j v _ e1 e3)
  | agg cs cs' hg h2 ih =>
    intro v h
    cases h with
    | agg vs _ k1 k3 =>
      refine .agg vs cs' (by omega) fun j v c' e1 e2 => ?_
      have hj := (List.getElem?_eq_some_iff.1 e2).1
      have e3 : cs[j]? = some cs[j] := List.getElem?_eq_getElem (by omega)
      exact ih j _ _ e3 e2 (k3 j v _ e1 e3)
  | tup cs cs' hg h2 ih =>
    intro v h
    cases h with
    | tup vs _ k1 k3 =>
      refine .tup vs cs' (by omega) fun j v c' e1 e2 => ?_
      have hj := (List.getElem?_eq_some_iff.1 e2).1
      have e3 : cs[j]? = some cs[j] := List.getElem?_eq_getElem (by omega)
      exact ih j _ _ e3 e2 (k3 j v _ e1 e3)

/-- A block's cells, by what lies below. -/
theorem HR.frame {F' : Fz} {w' : World} (hH : HR μ F σ w) (hF : ∀ g, F.f g → F'.f g) (hsame : ∀ g, g < w.heap.size → w'.heap[g]? = w.heap[g]?) (hsz : w.heap.size ≤ w'.heap.size)
    (hfro : ∀ g, g < w.heap.size → ¬ F.u g → ¬ F'.u g) (hflt : ∀ g, F'.u g → g < w'.heap.size) : HR μ F' σ w' := by
  have hv : ∀ {v : Value} {c : IV}, VR μ F w v c → VR μ F' w' v c := fun h => h.mono (Mu.le_refl _) hF fun g hg => hsame g (hH.flt g (F.sub g hg))
  refine ⟨hH.n, fun b o ho => ?_, hH.inj, fun b g off h1 h2 => hfro g (hH.lt b g off h1 h2) (hH.fro b g off h1 h2), fun b g off h1 h2 => Nat.lt_of_lt_of_le (hH.lt b g off h1 h2) hsz, hflt, hH.yin, hH.itd⟩
  have := hH.obj b o ho
  cases o with
  | rows s rs =>
    obtain ⟨h1, h2, h3, h4, h5, h6⟩ := this
    refine ⟨h1, h2, h3, h4, h5, h6.imp (fun h => h) ?_⟩
    rintro ⟨g, off, cs, T, q1, q2, q3, q4, q5⟩
    exact ⟨g, off, cs, T, q1, by rw [hsame g (hH.lt b g off h1 q1)]; exact q2, q3, q4, fun i row j c r1 r2 => let ⟨v, v1, v2⟩ := q5 i row j c r1 r2; ⟨v, v1, hv v2⟩⟩
  | map es =>
    obtain ⟨h1, h2, g, es', cl, q1, q2, q3, q4⟩ := this
    exact ⟨h1, h2, g, es', cl, q1, by rw [hsame g (hH.lt b g 0 h1 q1)]; exact q2, ⟨q3.1, fun j e p r1 r2 => let ⟨v1, v2⟩ := q3.2 j e p r1 r2; ⟨hv v1, hv v2⟩⟩, q4⟩
  | iter b' es cur todo =>
    obtain ⟨h1, h2, g, h3, h4⟩ := this
    exact ⟨h1, h2, g, h3, h4.mono hv (hsame g (hH.lt b g 0 h1 h3)) fun b'' _ hu => ⟨hu, rfl, rfl, fun gm off hp => hsame gm (hH.lt b'' gm off hu hp)⟩⟩
  | yrec l r e =>
    obtain ⟨h1, h2, h3, h4, h5⟩ := this
    have hlt := (Array.getElem?_eq_some_iff.1 h4).1
    exact ⟨h1, hfro l hlt h2, h3, (hsame l hlt).trans h4, ⟨h5.size, fun t c hc => let ⟨v, v1, v2⟩ := h5.slot t c hc; ⟨v, v1, hv v2⟩, fun g c hc => hv (h5.glob g c hc)⟩⟩
  | dead => trivial
  | hole => trivial

/-- What a function answers whose arguments nobody writes: own: whether all that it hands back is its own. -/
def IFun (own : Bool) (P : Program) (gl : List (Nat × IV)) (f : FuncId) (args : List IV) (V : IV → Prop) : Prop :=
  ICalls P gl f args [] fun r σ => ∃ v, Fr (!own) σ r v ∧ V v

theorem IFun.mono {own : Bool} {gl : List (Nat × IV)} {f : FuncId} {args : List IV} {V V' : IV → Prop} (h : IFun own P gl f args V) (hv : ∀ v, V v → V' v) : IFun own P gl f args V' :=
  ICalls.mono h fun _ _ ⟨v, h1, h2⟩ => ⟨v, h1, hv v h2⟩

/-- Arguments, one by one. -/
inductive Frs (h : Heap) : List IV → List IV → Prop where
  | nil : Frs h [] []
  | cons {a a' : IV} {l l' : List IV} (h1 : Fr true h a a') (h2 : Frs h l l') : Frs h (a :: l) (a' :: l')
theorem Frs.get {h : Heap} : ∀ {l l' : List IV}, Frs h l l' → l'.length = l.length ∧ ∀ (j : Nat) (c c' : IV), l[j]? = some c → l'[j]? = some c' → Fr true h c c'
  | _, _, .nil => ⟨rfl, by simp⟩
  | _, _, .cons (l := l) (l' := l') h1 h2 => by
    obtain ⟨e, ih⟩ := h2.get
    refine ⟨by simp [e], fun j c c' e1 e2 => ?_⟩
    cases j with
    | zero => simp at e1 e2; subst e1; subst e2; exact h1
    | succ j => exact ih j c c' (by simpa using e1) (by simpa using e2)

def Mu.none : Mu := ⟨fun _ => False, fun _ => 0, fun _ => 0, fun _ => 0, fun _ => .dead⟩
theorem HR.empty {F : Fz} (hf : ∀ g, F.u g → g < w.heap.size) : HR Mu.none F [] w :=
  ⟨fun _ h => h.elim, fun b o h => by simp at h, fun _ _ _ _ _ h => h.elim, fun _ _ _ h => h.elim, fun _ _ _ h => h.elim, hf, fun _ _ _ _ _ _ _ h => by simp at h, fun _ _ _ _ _ _ h => by simp at h⟩

/-- **A PURE FUNCTION CALLED**: what it hands back nobody writes any more; one's own slices are lent. -/
theorem IFun.call {gl : List (Nat × IV)} {f : FuncId} {args args' : List IV} {V : IV → Prop} {K : IV → Heap → Prop} (h : IFun true P gl f args' V) (ha : Frs σ args args') (hg : ∀ g c, eget gl g = some c → Cl c) (hK : ∀ v, V v → K v σ) : ICalls P gl f args σ K := by
  refine ⟨h.1, fun μ F w vs hH hv hgl => ?_⟩
  let F1 : Fz := ⟨fun g => F.f g ∨ ∃ b off, μ.u b ∧ μ.pl b = .at_ g off, fun g => F.u g ∨ g < w.heap.size, fun g h => h.elim (fun h => .inl (F.sub g h)) fun ⟨b, off, h1, h2⟩ => .inr (hH.lt b g off h1 h2)⟩
  obtain ⟨hlen, hget⟩ := ha.get
  have hv' : VRs Mu.none F1 w vs args' := ⟨hv.1.trans hlen.symm, fun j v c' e1 e2 => by
    have hj := (List.getElem?_eq_some_iff.1 e2).1
    have e3 : args[j]? = some args[j] := List.getElem?_eq_getElem (by omega)
    exact Fr.vr (F' := F1) hH (fun _ g h => Or.inl h) (fun _ _ => rfl) (fun b g off h1 h2 => Or.inr ⟨b, off, h1, h2⟩) (hget j _ _ e3 e2) (hv.2 j v _ e1 e3)⟩
  have hgl' : ∀ (g : Nat) (c : IV), eget gl g = some c → VR Mu.none F1 w (.pointer (some ⟨g, 0, Option.none⟩)) c := fun g c hc => Cl.vr (F := F) (F' := F1) (fun g h => Or.inl h) (fun _ _ => rfl) (hgl g c hc) (hg g c hc)
  refine (h.2 Mu.none F1 w vs (HR.empty fun g h => h.elim (hH.flt g) fun h => h) hv' hgl').mono ?_
  rintro e w' ⟨v, r, σ', μ1, F2, rfl, ⟨v', hfr, hV⟩, hvr, hH1, hX⟩
  have hu1 : ∀ g, g < w.heap.size → F2.u g := fun g hg => hX.fu g (.inr hg)
  have hsame : ∀ g, g < w.heap.size → w'.heap[g]? = w.heap[g]? := fun g hg => hX.same g (.inr hg)
  let F' : Fz := ⟨fun g => F.f g ∨ ∃ b off, μ1.u b ∧ μ1.pl b = .at_ g off, fun g => F.u g ∨ ∃ b off, μ1.u b ∧ μ1.pl b = .at_ g off, fun g h => h.elim (fun h => .inl (F.sub g h)) .inr⟩
  refine ⟨v, v', σ, μ, F', rfl, hK v' hV, ?_, ?_, ?_⟩
  · exact Fr.vr (F' := F') hH1 (fun h => by cases h) (fun _ _ => rfl) (fun b g off h1 h2 => Or.inr ⟨b, off, h1, h2⟩) hfr hvr
  · refine hH.frame (fun g h => .inl h) hsame hX.size (fun g hlt hnu hu => ?_) fun g hg => ?_
    · rcases hu with hu | ⟨b', off', h3, h4⟩
      · exact hnu hu
      · exact hH1.fro b' g off' h3 h4 (hu1 g hlt)
    · rcases hg with hg | ⟨b', off', h3, h4⟩
      · exact Nat.lt_of_lt_of_le (hH.flt g hg) hX.size
      · exact hH1.lt b' g off' h3 h4
  · refine ⟨Mu.le_refl _, fun g h => .inl h, fun g h => .inl h, fun g hg => hX.same g (.inl hg), hX.size, hX.os, hX.tape, hX.output, fun g hg => ?_⟩
    rcases hg with hg | ⟨b', off', h3, h4⟩
    · exact .inl hg
    · exact .inr fun hu => hH1.fro b' g off' h3 h4 (hX.fu g (.inl hu))

/-- The same, of arguments that nobody writes: what is handed back may hold them. -/
theorem IFun.callC {own : Bool} {gl : List (Nat × IV)} {f : FuncId} {args : List IV} {V : IV → Prop} {K : IV → Heap → Prop} (h : IFun own P gl f args V) (ha : ∀ (j : Nat) (c : IV), args[j]? = some c → Cl c) (hg : ∀ g c, eget gl g = some c → Cl c) (hK : ∀ v, V v → K v σ) : ICalls P gl f args σ K := by
  refine ⟨h.1, fun μ F w vs hH hv hgl => ?_⟩
  let F1 : Fz := ⟨F.f, fun g => F.u g ∨ g < w.heap.size, fun g h => .inl (F.sub g h)⟩
  have hv' : VRs Mu.none F1 w vs args := ⟨hv.1, fun j v c e1 e2 => Cl.vr (F := F) (F' := F1) (fun g h => h) (fun _ _ => rfl) (hv.2 j v c e1 e2) (ha j c e2)⟩
  have hgl' : ∀ (g : Nat) (c : IV), eget gl g = some c → VR Mu.none F1 w (.pointer (some ⟨g, 0, Option.none⟩)) c := fun g c hc => Cl.vr (F := F) (F' := F1) (fun g h => h) (fun _ _ => rfl) (hgl g c hc) (hg g c hc)
  refine (h.2 Mu.none F1 w vs (HR.empty fun g h => h.elim (hH.flt g) fun h => h) hv' hgl').mono ?_
  rintro e w' ⟨v, r, σ', μ1, F2, rfl, ⟨v', hfr, hV⟩, hvr, hH1, hX⟩
  have hu1 : ∀ g, g < w.heap.size → F2.u g := fun g hg => hX.fu g (.inr hg)
  have hsame : ∀ g, g < w.heap.size → w'.heap[g]? = w.heap[g]? := fun g hg => hX.same g (.inr hg)
  let F' : Fz := ⟨fun g => F2.f g ∨ ∃ b off, μ1.u b ∧ μ1.pl b = .at_ g off, fun g => F.u g ∨ F2.f g ∨ ∃ b off, μ1.u b ∧ μ1.pl b = .at_ g off, fun g h => .inr h⟩
  refine ⟨v, v', σ, μ, F', rfl, hK v' hV, ?_, ?_, ?_⟩
  · exact Fr.vr (F' := F') hH1 (fun _ g h => Or.inl h) (fun _ _ => rfl) (fun b g off h1 h2 => Or.inr ⟨b, off, h1, h2⟩) hfr hvr
  · refine hH.frame (fun g h => .inl (hX.fr g h)) hsame hX.size (fun g hlt hnu hu => ?_) fun g hg => ?_
    · rcases hu with hu | hu | ⟨b', off', h3, h4⟩
      · exact hnu hu
      · rcases hX.new g hu with h5 | h5
        · exact hnu (F.sub g h5)
        · exact h5 (.inr hlt)
      · exact hH1.fro b' g off' h3 h4 (hu1 g hlt)
    · rcases hg with hg | hg | ⟨b', off', h3, h4⟩
      · exact Nat.lt_of_lt_of_le (hH.flt g hg) hX.size
      · exact hH1.flt g (F2.sub g hg)
      · exact hH1.lt b' g off' h3 h4
  · refine ⟨Mu.le_refl _, fun g h => .inl (hX.fr g h), fun g h => .inl h, fun g hg => hX.same g (.inl hg), hX.size, hX.os, hX.tape, hX.output, fun g hg => ?_⟩
    rcases hg with hg | ⟨b', off', h3, h4⟩
    · rcases hX.new g hg with h5 | h5
      · exact .inl h5
      · exact .inr fun hu => h5 (.inl hu)
    · exact .inr fun hu => hH1.fro b' g off' h3 h4 (hX.fu g (.inl hu))
end
end Go.Idl
