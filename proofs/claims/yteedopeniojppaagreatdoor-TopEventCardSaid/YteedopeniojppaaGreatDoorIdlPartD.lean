import Derived.Test.YteedopeniojppaaGreatDoorIdlPartC
import Derived.Orders
set_option linter.all false
namespace Go.Idl
open Go.RowKit
inductive Cl : IV → Prop where
 | bool (b : Bool) : Cl (.bool b)
 | int (k : IntKind) (n : Int) : Cl (.int k n)
 | str (s : ByteArray) : Cl (.str s)
 | nilp : Cl .nilp
 | nils : Cl .nils
 | nilm : Cl .nilm
 | nilf : Cl .nilf
 | fm (es : List (IV × IV)) : Cl (.fm es)
 | fptr (s : Nat) (rows : List (List IV)) (i o : Nat) (h : ∀ (i : Nat) (row : List IV) (j : Nat) (c : IV), rows[i]? = some row → row[j]? = some c → Cl c) : Cl (.fptr s rows i o)
 | fz (s : Nat) (rows : List (List IV)) (h : ∀ (i : Nat) (row : List IV) (j : Nat) (c : IV), rows[i]? = some row → row[j]? = some c → Cl c) : Cl (.fz s rows)
 | func (fn : Fn) (fs cs : List IV) (h1 : ∀ (j : Nat) (c : IV), fs[j]? = some c → Cl c) (h2 : ∀ (j : Nat) (c : IV), cs[j]? = some c → Cl c) : Cl (.func fn fs cs)
 | agg (cs : List IV) (h : ∀ (j : Nat) (c : IV), cs[j]? = some c → Cl c) : Cl (.agg cs)
 | tup (cs : List IV) (h : ∀ (j : Nat) (c : IV), cs[j]? = some c → Cl c) : Cl (.tup cs)
inductive Fr (fr : Bool) (h : Heap) : IV → IV → Prop where
 | bool (b : Bool) : Fr fr h (.bool b) (.bool b)
 | int (k : IntKind) (n : Int) : Fr fr h (.int k n) (.int k n)
 | str (s : ByteArray) : Fr fr h (.str s) (.str s)
 | nilp : Fr fr h .nilp .nilp
 | nils : Fr fr h .nils .nils
 | nilm : Fr fr h .nilm .nilm
 | nilf : Fr fr h .nilf .nilf
 | nz (s : Nat) : Fr fr h .nils (.fz s [])
 | map (b : Nat) (es : List (IV × IV)) (hb : h[b]? = some (.map es)) (hfl : fltM es = true) : Fr fr h (.map b) (.fm es)
 | cl (v : IV) (hf : fr = true) (hc : Cl v) : Fr fr h v v
 | sl (b tot i len : Nat) (cap : Option Nat) (s : Nat) (rs rs' : List (List IV)) (hb : h[b]? = some (.rows s rs)) (ht : tot = rs.length) (hl : i + len ≤ rs.length) (hn : rs'.length = len)
   (hr : ∀ (k : Nat) (row row' : List IV), rs[i + k]? = some row → rs'[k]? = some row' → row'.length = row.length)
   (hc : ∀ (k : Nat) (row row' : List IV) (j : Nat) (c c' : IV), rs[i + k]? = some row → rs'[k]? = some row' → row[j]? = some c → row'[j]? = some c' → Fr fr h c c') : Fr fr h (.sl b tot i len cap) (.fz s rs')
 | ptr (b tot i o s : Nat) (rs rs' : List (List IV)) (hb : h[b]? = some (.rows s rs)) (ht : tot = rs.length) (hl : i < rs.length) (hn : rs'.length = rs.length)
   (hr : ∀ (k : Nat) (row row' : List IV), rs[k]? = some row → rs'[k]? = some row' → row'.length = row.length)
   (hc : ∀ (k : Nat) (row row' : List IV) (j : Nat) (c c' : IV), rs[k]? = some row → rs'[k]? = some row' → row[j]? = some c → row'[j]? = some c' → Fr fr h c c') : Fr fr h (.ptr b tot i o) (.fptr s rs' i o)
 | func (fn : Fn) (fs cs fs' cs' : List IV) (hf : fs'.length = fs.length) (hg : cs'.length = cs.length) (h1 : ∀ (j : Nat) (c c' : IV), fs[j]? = some c → fs'[j]? = some c' → Fr fr h c c') (h2 : ∀ (j : Nat) (c c' : IV), cs[j]? = some c → cs'[j]? = some c' → Fr fr h c c') : Fr fr h (.func fn fs cs) (.func fn fs' cs')
 | agg (cs cs' : List IV) (hg : cs'.length = cs.length) (h2 : ∀ (j : Nat) (c c' : IV), cs[j]? = some c → cs'[j]? = some c' → Fr fr h c c') : Fr fr h (.agg cs) (.agg cs')
 | tup (cs cs' : List IV) (hg : cs'.length = cs.length) (h2 : ∀ (j : Nat) (c c' : IV), cs[j]? = some c → cs'[j]? = some c' → Fr fr h c c') : Fr fr h (.tup cs) (.tup cs')
def scal : IV → Bool
 | .bool _ | .int _ _ | .str _ | .nilp | .nils | .nilm | .nilf => true
 | _ => false
def ScR (rs : List (List IV)) : Prop := ∀ row ∈ rs, ∀ c ∈ row, scal c = true
section
variable {P : Program} {μ : Mu} {F : Fz} {w : World} {σ : Heap}
theorem Cl.vr {μ' : Mu} {F' : Fz} {w' : World} (hF : ∀ g, F.f g → F'.f g) (hw : ∀ g, F.f g → w'.heap[g]? = w.heap[g]?) {v : Value} {c : IV} (h : VR μ F w v c) (hc : Cl c) : VR μ' F' w' v c := by
 induction h with
 | bool b => exact .bool b
 | int k n => exact .int k n
 | str s => exact .str s
 | nilp => exact .nilp
 | ptr v b tot i o hk hb ht h => cases hc
 | fptr g off s rows i o us hf hrow hcell hv ih =>
  cases hc with
  | fptr _ _ _ _ hcl => exact .fptr g off s rows i o us (hF _ hf) hrow (fun i row j hi hj => by rw [World.cell?_of_heap (hw g hf)]; exact hcell i row j hi hj) fun i row j c h1 h2 => ih i row j c h1 h2 (hcl i row j c h1 h2)
 | nils => exact .nils
 | sl v b tot i len cap hk hb ht h => cases hc
 | fz g off s rows cap us hf hrow hcell hv hcap ih =>
  cases hc with
  | fz _ _ hcl => exact .fz g off s rows cap us (hF _ hf) hrow (fun i row j hi hj => by rw [World.cell?_of_heap (hw g hf)]; exact hcell i row j hi hj) (fun i row j c h1 h2 => ih i row j c h1 h2 (hcl i row j c h1 h2)) hcap
 | fz0 a cap s => exact .fz0 a cap s
 | nilm => exact .nilm
 | map v b hk hb h hl => cases hc
 | fm g es es' cl h1 hg hfl hen hnd hcl => exact .fm g es es' cl (hF _ h1) ((hw g h1).trans hg) hfl hen hnd hcl
 | iter v b hk hb h hl => cases hc
 | nilf => exact .nilf
 | func fn fs cs fs' cs' hf hc' _ _ ih1 ih2 =>
  cases hc with
  | func _ _ _ c1 c2 => exact .func fn fs cs fs' cs' hf hc' (fun j v c h1 h2 => ih1 j v c h1 h2 (c1 j c h2)) fun j v c h1 h2 => ih2 j v c h1 h2 (c2 j c h2)
 | agg vs cs hl _ ih =>
  cases hc with
  | agg _ c2 => exact .agg vs cs hl fun j v c h1 h2 => ih j v c h1 h2 (c2 j c h2)
 | tup vs cs hl _ ih =>
  cases hc with
  | tup _ c2 => exact .tup vs cs hl fun j v c h1 h2 => ih j v c h1 h2 (c2 j c h2)
 | opt g v c h1 h0 ih => cases hc
 | junk v => cases hc
theorem cell_rows {g off : Nat} {cs : Array Value} {T : TypeId} {s k j : Nat} (hg : w.heap[g]? = some (.cells cs T (0, 0))) (h : off + k * s + j < cs.size) : w.cell? ⟨g, off + k * s + j, none⟩ = some (cs.getD (off + k * s + j) undef) := by
 simp [World.cell?, hg, Array.getD_eq_getD_getElem?, Array.getElem?_eq_getElem h]
theorem Fr.vr {fr : Bool} {μ' : Mu} {F' : Fz} {w' : World} (hH : HR μ F σ w) (hF : fr = true → ∀ g, F.f g → F'.f g) (hw : ∀ g, F'.f g → w'.heap[g]? = w.heap[g]?) (hown : ∀ b g off, μ.u b → μ.pl b = .at_ g off → (∃ s rs, σ[b]? = some (.rows s rs)) ∨ (∃ es, σ[b]? = some (.map es)) → F'.f g)
  {c c' : IV} (hc : Fr fr σ c c') : ∀ {v : Value}, VR μ F w v c → VR μ' F' w' v c' := by
 induction hc with
 | bool b => intro v h; cases h; exact .bool b
 | int k n => intro v h; cases h; exact .int k n
 | str s => intro v h; cases h; exact .str s
 | nilp => intro v h; cases h; exact .nilp
 | nils => intro v h; cases h; exact .nils
 | nilm => intro v h; cases h; exact .nilm
 | nilf => intro v h; cases h; exact .nilf
 | nz s => intro v h; cases h; exact .fz0 _ _ _
 | map b es hb hfl =>
  intro v h
  obtain ⟨hu, hs, g, es', cl, hpl, hg, he, hn, hc⟩ := hH.obj b _ hb
  cases h with
  | map _ _ hk hb' h hl =>
   rw [hpl] at h
   obtain rfl : v = .map (some g) := h
   have hg' := hown b g 0 hu hpl (.inr ⟨_, hb⟩)
   have hev := he.entsV hfl
   exact .fm g es es' cl hg' ((hw g hg').trans hg) hfl hev.1 hn hc
 | cl v hf hc => intro u h; exact Cl.vr (hF hf) (fun g hg => hw g (hF hf g hg)) h hc
 | sl b tot i len cap s rs rs' hb ht hl hn hr hc ih =>
  intro v h
  obtain ⟨hu, hs, hsz, hlen, hrow, hcs⟩ := hH.obj b _ hb
  cases h with
  | sl _ _ _ _ _ _ hk hb' ht' h =>
   have hok := h (by omega)
   by_cases h0 : len = 0
   ·have : rs' = [] := List.eq_nil_of_length_eq_zero (by omega)
    subst this
    rcases hcs with ⟨hpl, _⟩ | ⟨g, off, cs, T, hpl, _⟩
    ·rw [hpl] at hok; obtain ⟨rfl, _⟩ := hok; exact .fz0 _ _ _
    ·rw [hpl] at hok; obtain ⟨a, c, rfl, _⟩ := hok; rw [h0]; exact .fz0 _ _ _
   ·rcases hcs with ⟨_, h1⟩ | ⟨g, off, cs, T, hpl, hg, hcp1, hcp2, hcell⟩
    ·subst h1; simp at hl; omega
    ·rw [hpl] at hok
     obtain ⟨a, c, rfl, hlc, hic, ha, _⟩ := hok
     have ha := ha.resolve_left (by omega)
     subst ha
     have hg' := hown b g off hu hpl (.inl ⟨_, _, hb⟩)
     rw [hsz] at *
     have hin : ∀ k j, k < len → j < s → off + (i + k) * s + j < cs.size := fun k j hk hj => by
      have : (i + k + 1) * s ≤ μ.cp b * s := Nat.mul_le_mul_right s (by omega)
      rw [Nat.add_mul] at this; omega
     have := VR.fz (μ := μ') (F := F') (w := w') g (off + i * s) s rs' c (fun k j => cs.getD (off + (i + k) * s + j) undef) hg' (fun k row' hk => ?_) (fun k row' j hk hj => ?_) (fun k row' j c' hk hj => ?_) (by omega)
     ·rw [hn] at this; exact this
     ·have hk' := (List.getElem?_eq_some_iff.1 hk).1
      have e1 : rs[i + k]? = some rs[i + k] := List.getElem?_eq_getElem (by omega)
      rw [hr k _ _ e1 hk]; exact hrow _ _ e1
     ·have hk' := (List.getElem?_eq_some_iff.1 hk).1
      rw [World.cell?_of_heap (hw g hg'), show off + i * s + k * s + j = off + (i + k) * s + j by rw [Nat.add_mul]; omega]
      exact cell_rows hg (hin k j (by omega) hj)
     ·have hk' := (List.getElem?_eq_some_iff.1 hk).1
      have e1 : rs[i + k]? = some rs[i + k] := List.getElem?_eq_getElem (by omega)
      have e2 := hr k _ _ e1 hk
      have e3 := hrow _ _ e1
      have hj' := (List.getElem?_eq_some_iff.1 hj).1
      have e4 : (rs[i + k])[j]? = some (rs[i + k])[j] := List.getElem?_eq_getElem (by omega)
      obtain ⟨u, u1, u2⟩ := hcell _ _ j _ e1 e4
      have : cs.getD (off + (i + k) * s + j) undef = u := by rw [Array.getD_eq_getD_getElem?, u1]; rfl
      rw [this]
      exact ih k _ _ j _ _ e1 hk e4 hj u2
 | ptr b tot i o s rs rs' hb ht hl hn hr hc ih =>
  intro v h
  obtain ⟨g, off, cs, T, rfl, hu, hsz, hlen, hpl, hg, hcp1, hcp2, hrow, hcell⟩ := ptr_row hH hb h ht hl
  have hg' := hown b g off hu hpl (.inl ⟨_, _, hb⟩)
  have hin : ∀ k j, k < rs.length → j < s → off + k * s + j < cs.size := fun k j hk hj => by
   have : (k + 1) * s ≤ μ.cp b * s := Nat.mul_le_mul_right s (by omega)
   rw [Nat.add_mul] at this; omega
  refine VR.fptr (μ := μ') (F := F') (w := w') g off s rs' i o (fun k j => cs.getD (off + k * s + j) undef) hg' (fun k row' hk => ?_) (fun k row' j hk hj => ?_) (fun k row' j c' hk hj => ?_)
  ·have hk' := (List.getElem?_eq_some_iff.1 hk).1
   have e1 : rs[k]? = some rs[k] := List.getElem?_eq_getElem (by omega)
   rw [hr k _ _ e1 hk]; exact hrow _ _ e1
  ·have hk' := (List.getElem?_eq_some_iff.1 hk).1
   rw [World.cell?_of_heap (hw g hg')]
   exact cell_rows hg (hin k j (by omega) hj)
  ·have hk' := (List.getElem?_eq_some_iff.1 hk).1
   have e1 : rs[k]? = some rs[k] := List.getElem?_eq_getElem (by omega)
   have e2 := hr k _ _ e1 hk
   have e3 := hrow _ _ e1
   have hj' := (List.getElem?_eq_some_iff.1 hj).1
   have e4 : (rs[k])[j]? = some (rs[k])[j] := List.getElem?_eq_getElem (by omega)
   obtain ⟨u, u1, u2⟩ := hcell _ _ j _ e1 e4
   have : cs.getD (off + k * s + j) undef = u := by rw [Array.getD_eq_getD_getElem?, u1]; rfl
   rw [this]
   exact ih k _ _ j _ _ e1 hk e4 hj u2
 | func fn fs cs fs' cs' hf hg h1 h2 ih1 ih2 =>
  intro v h
  cases h with
  | func _ vs us _ _ k1 k2 k3 k4 =>
   refine .func fn vs us fs' cs' (by omega) (by omega) (fun j v c' e1 e2 => ?_) fun j v c' e1 e2 => ?_
   ·have hj := (List.getElem?_eq_some_iff.1 e2).1
    have e3 : fs[j]? = some fs[j] := List.getElem?_eq_getElem (by omega)
    exact ih1 j _ _ e3 e2 (k3 j v _ e1 e3)
   ·have hj := (List.getElem?_eq_some_iff.1 e2).1
    have e3 : cs[j]? = some cs[j] := List.getElem?_eq_getElem (by omega)
    exact ih2 j _ _ e3 e2 (k4 j v _ e1 e3)
 | agg cs cs' hg h2 ih =>
  intro v h
  cases h with
  | agg vs _ k1 k3 =>
   refine .agg vs cs' (by omega) fun j v c' e1 e2 => ?_
   have hj := (List.getElem?_eq_some_iff.1 e2).1
   have e3 : cs[j]? = some cs[j] := List.getElem?_eq_getElem (by omega)
   exact ih j _ _ e3 e2 (k3 j v _ e1 e3)
 | tup cs cs' hg h2 ih =>
  intro v h
  cases h with
  | tup vs _ k1 k3 =>
   refine .tup vs cs' (by omega) fun j v c' e1 e2 => ?_
   have hj := (List.getElem?_eq_some_iff.1 e2).1
   have e3 : cs[j]? = some cs[j] := List.getElem?_eq_getElem (by omega)
   exact ih j _ _ e3 e2 (k3 j v _ e1 e3)
theorem HR.frame {F' : Fz} {w' : World} (hH : HR μ F σ w) (hF : ∀ g, F.f g → F'.f g) (hsame : ∀ g, g < w.heap.size → w'.heap[g]? = w.heap[g]?) (hsz : w.heap.size ≤ w'.heap.size)
  (hfro : ∀ g, g < w.heap.size → ¬ F.u g → ¬ F'.u g) (hflt : ∀ g, F'.u g → g < w'.heap.size) : HR μ F' σ w' := by
 have hv : ∀ {v : Value} {c : IV}, VR μ F w v c → VR μ F' w' v c := fun h => h.mono (Mu.le_refl _) hF fun g hg => hsame g (hH.flt g (F.sub g hg))
 refine ⟨hH.n, fun b o ho => ?_, hH.inj, fun b g off h1 h2 => hfro g (hH.lt b g off h1 h2) (hH.fro b g off h1 h2), fun b g off h1 h2 => Nat.lt_of_lt_of_le (hH.lt b g off h1 h2) hsz, hflt, hH.yin, hH.itd⟩
 have := hH.obj b o ho
 cases o with
 | rows s rs =>
  obtain ⟨h1, h2, h3, h4, h5, h6⟩ := this
  refine ⟨h1, h2, h3, h4, h5, h6.imp (fun h => h) ?_⟩
  rintro ⟨g, off, cs, T, q1, q2, q3, q4, q5⟩
  exact ⟨g, off, cs, T, q1, by rw [hsame g (hH.lt b g off h1 q1)]; exact q2, q3, q4, fun i row j c r1 r2 => let ⟨v, v1, v2⟩ := q5 i row j c r1 r2; ⟨v, v1, hv v2⟩⟩
 | map es =>
  obtain ⟨h1, h2, g, es', cl, q1, q2, q3, q4⟩ := this
  exact ⟨h1, h2, g, es', cl, q1, by rw [hsame g (hH.lt b g 0 h1 q1)]; exact q2, ⟨q3.1, fun j e p r1 r2 => let ⟨v1, v2⟩ := q3.2 j e p r1 r2; ⟨hv v1, hv v2⟩⟩, q4⟩
 | iter b' es cur todo =>
  obtain ⟨h1, h2, g, h3, h4⟩ := this
  exact ⟨h1, h2, g, h3, h4.mono hv hF (fun g hg => hsame g (hH.flt g (F.sub g hg))) (hsame g (hH.lt b g 0 h1 h3)) fun b'' _ hu => ⟨hu, rfl, rfl, fun gm off hp => hsame gm (hH.lt b'' gm off hu hp)⟩⟩
 | yrec l r e =>
  obtain ⟨h1, h2, h3, h4, h5⟩ := this
  have hlt := (Array.getElem?_eq_some_iff.1 h4).1
  exact ⟨h1, hfro l hlt h2, h3, (hsame l hlt).trans h4, ⟨h5.size, fun t c hc => let ⟨v, v1, v2⟩ := h5.slot t c hc; ⟨v, v1, hv v2⟩, fun g c hc => hv (h5.glob g c hc)⟩⟩
 | dead => trivial
 | hole => trivial
def IFun (own : Bool) (P : Program) (gl : List (Nat × IV)) (f : FuncId) (args : List IV) (V : IV → Prop) : Prop :=
 ICalls P gl f args [] fun r σ => ∃ v, Fr (!own) σ r v ∧ V v
theorem IFun.mono {own : Bool} {gl : List (Nat × IV)} {f : FuncId} {args : List IV} {V V' : IV → Prop} (h : IFun own P gl f args V) (hv : ∀ v, V v → V' v) : IFun own P gl f args V' :=
 ICalls.mono h fun _ _ ⟨v, h1, h2⟩ => ⟨v, h1, hv v h2⟩
inductive Frs (h : Heap) : List IV → List IV → Prop where
 | nil : Frs h [] []
 | cons {a a' : IV} {l l' : List IV} (h1 : Fr true h a a') (h2 : Frs h l l') : Frs h (a :: l) (a' :: l')
theorem Frs.get {h : Heap} : ∀ {l l' : List IV}, Frs h l l' → l'.length = l.length ∧ ∀ (j : Nat) (c c' : IV), l[j]? = some c → l'[j]? = some c' → Fr true h c c'
 | _, _, .nil => ⟨rfl, by simp⟩
 | _, _, .cons (l := l) (l' := l') h1 h2 => by
  obtain ⟨e, ih⟩ := h2.get
  refine ⟨by simp [e], fun j c c' e1 e2 => ?_⟩
  cases j with
  | zero => simp at e1 e2; subst e1; subst e2; exact h1
  | succ j => exact ih j c c' (by simpa using e1) (by simpa using e2)
def Mu.none : Mu := ⟨fun _ => False, fun _ => 0, fun _ => 0, fun _ => 0, fun _ => .dead⟩
theorem HR.empty {F : Fz} (hf : ∀ g, F.u g → g < w.heap.size) : HR Mu.none F [] w :=
 ⟨fun _ h => h.elim, fun b o h => by simp at h, fun _ _ _ _ _ h => h.elim, fun _ _ _ h => h.elim, fun _ _ _ h => h.elim, hf, fun _ _ _ _ _ _ _ h => by simp at h, fun _ _ _ _ _ _ h => by simp at h⟩
theorem IFun.call {gl : List (Nat × IV)} {f : FuncId} {args args' : List IV} {V : IV → Prop} {K : IV → Heap → Prop} (h : IFun true P gl f args' V) (ha : Frs σ args args') (hg : ∀ g c, eget gl g = some c → Cl c) (hK : ∀ v, V v → K v σ) : ICalls P gl f args σ K := by
 refine ⟨h.1, fun μ F w vs hH hv hgl => ?_⟩
 let F1 : Fz := ⟨fun g => F.f g ∨ ∃ b off, μ.u b ∧ μ.pl b = .at_ g off, fun g => F.u g ∨ g < w.heap.size, fun g h => h.elim (fun h => .inl (F.sub g h)) fun ⟨b, off, h1, h2⟩ => .inr (hH.lt b g off h1 h2)⟩
 obtain ⟨hlen, hget⟩ := ha.get
 have hv' : VRs Mu.none F1 w vs args' := ⟨hv.1.trans hlen.symm, fun j v c' e1 e2 => by
  have hj := (List.getElem?_eq_some_iff.1 e2).1
  have e3 : args[j]? = some args[j] := List.getElem?_eq_getElem (by omega)
  exact Fr.vr (F' := F1) hH (fun _ g h => Or.inl h) (fun _ _ => rfl) (fun b g off h1 h2 _ => Or.inr ⟨b, off, h1, h2⟩) (hget j _ _ e3 e2) (hv.2 j v _ e1 e3)⟩
 have hgl' : ∀ (g : Nat) (c : IV), eget gl g = some c → VR Mu.none F1 w (.pointer (some ⟨g, 0, Option.none⟩)) c := fun g c hc => Cl.vr (F := F) (F' := F1) (fun g h => Or.inl h) (fun _ _ => rfl) (hgl g c hc) (hg g c hc)
 refine (h.2 Mu.none F1 w vs (HR.empty fun g h => h.elim (hH.flt g) fun h => h) hv' hgl').mono ?_
 rintro e w' ⟨v, r, σ', μ1, F2, rfl, ⟨v', hfr, hV⟩, hvr, hH1, hX⟩
 have hu1 : ∀ g, g < w.heap.size → F2.u g := fun g hg => hX.fu g (.inr hg)
 have hsame : ∀ g, g < w.heap.size → w'.heap[g]? = w.heap[g]? := fun g hg => hX.same g (.inr hg)
 let F' : Fz := ⟨fun g => F.f g ∨ ∃ b off, μ1.u b ∧ μ1.pl b = .at_ g off, fun g => F.u g ∨ ∃ b off, μ1.u b ∧ μ1.pl b = .at_ g off, fun g h => h.elim (fun h => .inl (F.sub g h)) .inr⟩
 refine ⟨v, v', σ, μ, F', rfl, hK v' hV, ?_, ?_, ?_⟩
 ·exact Fr.vr (F' := F') hH1 (fun h => by cases h) (fun _ _ => rfl) (fun b g off h1 h2 _ => Or.inr ⟨b, off, h1, h2⟩) hfr hvr
 ·refine hH.frame (fun g h => .inl h) hsame hX.size (fun g hlt hnu hu => ?_) fun g hg => ?_
  ·rcases hu with hu | ⟨b', off', h3, h4⟩
   ·exact hnu hu
   ·exact hH1.fro b' g off' h3 h4 (hu1 g hlt)
  ·rcases hg with hg | ⟨b', off', h3, h4⟩
   ·exact Nat.lt_of_lt_of_le (hH.flt g hg) hX.size
   ·exact hH1.lt b' g off' h3 h4
 ·refine ⟨Mu.le_refl _, fun g h => .inl h, fun g h => .inl h, fun g hg => hX.same g (.inl hg), hX.size, hX.os, hX.tape, hX.output, fun g hg => ?_⟩
  rcases hg with hg | ⟨b', off', h3, h4⟩
  ·exact .inl hg
  ·exact .inr fun hu => hH1.fro b' g off' h3 h4 (hX.fu g (.inl hu))
theorem IFun.callC {own : Bool} {gl : List (Nat × IV)} {f : FuncId} {args : List IV} {V : IV → Prop} {K : IV → Heap → Prop} (h : IFun own P gl f args V) (ha : ∀ (j : Nat) (c : IV), args[j]? = some c → Cl c) (hg : ∀ g c, eget gl g = some c → Cl c) (hK : ∀ v, V v → K v σ) : ICalls P gl f args σ K := by
 refine ⟨h.1, fun μ F w vs hH hv hgl => ?_⟩
 let F1 : Fz := ⟨F.f, fun g => F.u g ∨ g < w.heap.size, fun g h => .inl (F.sub g h)⟩
 have hv' : VRs Mu.none F1 w vs args := ⟨hv.1, fun j v c e1 e2 => Cl.vr (F := F) (F' := F1) (fun g h => h) (fun _ _ => rfl) (hv.2 j v c e1 e2) (ha j c e2)⟩
 have hgl' : ∀ (g : Nat) (c : IV), eget gl g = some c → VR Mu.none F1 w (.pointer (some ⟨g, 0, Option.none⟩)) c := fun g c hc => Cl.vr (F := F) (F' := F1) (fun g h => h) (fun _ _ => rfl) (hgl g c hc) (hg g c hc)
 refine (h.2 Mu.none F1 w vs (HR.empty fun g h => h.elim (hH.flt g) fun h => h) hv' hgl').mono ?_
 rintro e w' ⟨v, r, σ', μ1, F2, rfl, ⟨v', hfr, hV⟩, hvr, hH1, hX⟩
 have hu1 : ∀ g, g < w.heap.size → F2.u g := fun g hg => hX.fu g (.inr hg)
 have hsame : ∀ g, g < w.heap.size → w'.heap[g]? = w.heap[g]? := fun g hg => hX.same g (.inr hg)
 let F' : Fz := ⟨fun g => F2.f g ∨ ∃ b off, μ1.u b ∧ μ1.pl b = .at_ g off, fun g => F.u g ∨ F2.f g ∨ ∃ b off, μ1.u b ∧ μ1.pl b = .at_ g off, fun g h => .inr h⟩
 refine ⟨v, v', σ, μ, F', rfl, hK v' hV, ?_, ?_, ?_⟩
 ·exact Fr.vr (F' := F') hH1 (fun _ g h => Or.inl h) (fun _ _ => rfl) (fun b g off h1 h2 _ => Or.inr ⟨b, off, h1, h2⟩) hfr hvr
 ·refine hH.frame (fun g h => .inl (hX.fr g h)) hsame hX.size (fun g hlt hnu hu => ?_) fun g hg => ?_
  ·rcases hu with hu | hu | ⟨b', off', h3, h4⟩
   ·exact hnu hu
   ·rcases hX.new g hu with h5 | h5
    ·exact hnu (F.sub g h5)
    ·exact h5 (.inr hlt)
   ·exact hH1.fro b' g off' h3 h4 (hu1 g hlt)
  ·rcases hg with hg | hg | ⟨b', off', h3, h4⟩
   ·exact Nat.lt_of_lt_of_le (hH.flt g hg) hX.size
   ·exact hH1.flt g (F2.sub g hg)
   ·exact hH1.lt b' g off' h3 h4
 ·refine ⟨Mu.le_refl _, fun g h => .inl (hX.fr g h), fun g h => .inl h, fun g hg => hX.same g (.inl hg), hX.size, hX.os, hX.tape, hX.output, fun g hg => ?_⟩
  rcases hg with hg | ⟨b', off', h3, h4⟩
  ·rcases hX.new g hg with h5 | h5
   ·exact .inl h5
   ·exact .inr fun hu => h5 (.inl hu)
  ·exact .inr fun hu => hH1.fro b' g off' h3 h4 (hX.fu g (.inl hu))
theorem scal_vr {μ' : Mu} {F' : Fz} {w' : World} {u : Value} {r v : IV} (h : VR μ F w u r) (hf : Fr false σ r v) (hs : scal v = true) : VR μ' F' w' u v := by
 cases hf with
 | bool b => cases h; exact .bool b
 | int k n => cases h; exact .int k n
 | str s => cases h; exact .str s
 | nilp => cases h; exact .nilp
 | nils => cases h; exact .nils
 | nilm => cases h; exact .nilm
 | nilf => cases h; exact .nilf
 | nz s => simp [scal] at hs
 | map => simp [scal] at hs
 | cl v hf hc => cases hf
 | sl => simp [scal] at hs
 | ptr => simp [scal] at hs
 | func => simp [scal] at hs
 | agg => simp [scal] at hs
 | tup => simp [scal] at hs
theorem IFun.callAt {gl : List (Nat × IV)} {f : FuncId} {args args' : List IV} {s nb : Nat} {rows : List (List IV)} (h : IFun true P gl f args' (fun v => v = .fz s rows)) (ha : Frs σ args args') (hg : ∀ g c, eget gl g = some c → Cl c) (hs0 : 0 < s) (hsc : ScR rows) (hnbo : ∀ o, σ[nb]? = some o → o.isHole = true) :
  ICalls P gl f args σ (fun v σ' => v = .sl nb rows.length 0 rows.length none ∧ σ' = hput σ nb (.rows s rows)) := by
 refine ⟨h.1, fun μ F w vs hH hv hgl => ?_⟩
 let F1 : Fz := ⟨fun g => F.f g ∨ ∃ b off, μ.u b ∧ μ.pl b = .at_ g off, fun g => F.u g ∨ g < w.heap.size, fun g h => h.elim (fun h => .inl (F.sub g h)) fun ⟨b, off, h1, h2⟩ => .inr (hH.lt b g off h1 h2)⟩
 obtain ⟨hlen, hget⟩ := ha.get
 have hv' : VRs Mu.none F1 w vs args' := ⟨hv.1.trans hlen.symm, fun j v c' e1 e2 => by
  have hj := (List.getElem?_eq_some_iff.1 e2).1
  have e3 : args[j]? = some (args[j]'(by omega)) := List.getElem?_eq_getElem (by omega)
  exact Fr.vr (F' := F1) hH (fun _ g h => Or.inl h) (fun _ _ => rfl) (fun b g off h1 h2 _ => Or.inr ⟨b, off, h1, h2⟩) (hget j _ _ e3 e2) (hv.2 j v _ e1 e3)⟩
 have hgl' : ∀ (g : Nat) (c : IV), eget gl g = some c → VR Mu.none F1 w (.pointer (some ⟨g, 0, Option.none⟩)) c := fun g c hc => Cl.vr (F := F) (F' := F1) (fun g h => Or.inl h) (fun _ _ => rfl) (hgl g c hc) (hg g c hc)
 refine (h.2 Mu.none F1 w vs (HR.empty fun g h => h.elim (hH.flt g) fun h => h) hv' hgl').mono ?_
 rintro e w' ⟨v, r, σ', μ1, F2, rfl, ⟨v', q2, rfl⟩, q1, hH1, hX⟩
 have hu1 : ∀ g, g < w.heap.size → F2.u g := fun g hg => hX.fu g (.inr hg)
 have hsame : ∀ g, g < w.heap.size → w'.heap[g]? = w.heap[g]? := fun g hg => hX.same g (.inr hg)
 have hnb : ¬ μ.u nb := fun hu => by obtain ⟨o, h1, h2⟩ := hH.n _ hu; rw [hnbo o h1] at h2; cases h2
 cases q2 with
 | cl v hf hc => cases hf
 | nz _ =>
  cases q1
  have hch := hH.change (b := nb) (o' := .rows s []) (w' := w') (Mu.le_add (s := s) (n := 0) (c := 0) (p := .empty) hnb) (fun x e => Mu.add_other x e) (fun g hg _ => hsame g hg) (fun g off _ e => by simp [Mu.add] at e) hX.size hX.os hX.tape hX.output (hH.notItN hnb)
   ⟨.inl rfl, hs0, by simp [Mu.add], by simp [Mu.add], by simp, .inl ⟨by simp [Mu.add], rfl⟩⟩
  exact ⟨_, _, _, _, F, rfl, ⟨rfl, rfl⟩, .sl _ nb 0 0 0 none rfl (show _ ∨ _ from .inl rfl) (by simp [Mu.add]) fun _ => by simp [Mu.add, SlOK], hch.1, hch.2⟩
 | sl b tot i len cap _ rs _ hb ht hl hn hr hc =>
  obtain ⟨hu, hs, hsz, hml, hrow, hcs⟩ := hH1.obj b _ hb
  cases q1 with
  | sl _ _ _ _ _ _ hk' hb' ht' hok =>
   have hok := hok (by omega)
   rcases hcs with ⟨hpl, h0⟩ | ⟨g, off, cs, T, hpl, hg', hcp1, hcp2, hcell⟩
   ·rw [hpl] at hok
    obtain ⟨rfl, rfl⟩ := hok
    have : rows = [] := List.eq_nil_of_length_eq_zero (by omega)
    subst this
    have hch := hH.change (b := nb) (o' := .rows s []) (w' := w') (Mu.le_add (s := s) (n := 0) (c := 0) (p := .empty) hnb) (fun x e => Mu.add_other x e) (fun g hg _ => hsame g hg) (fun g off _ e => by simp [Mu.add] at e) hX.size hX.os hX.tape hX.output (hH.notItN hnb)
     ⟨.inl rfl, hs, by simp [Mu.add], by simp [Mu.add], by simp, .inl ⟨by simp [Mu.add], rfl⟩⟩
    exact ⟨_, _, _, _, F, rfl, ⟨rfl, rfl⟩, .sl _ nb 0 0 0 none rfl (show _ ∨ _ from .inl rfl) (by simp [Mu.add]) fun _ => by simp [Mu.add, SlOK], hch.1, hch.2⟩
   ·rw [hpl] at hok
    obtain ⟨a, c, rfl, hlc, hic, ha', hcap⟩ := hok
    rw [hsz] at *
    have hglt := hH1.lt b g off hu hpl
    have hgge : w.heap.size ≤ g := by
     rcases Nat.lt_or_ge g w.heap.size with h | h
     ·exact absurd (hu1 g h) (hH1.fro b g off hu hpl)
     ·exact h
    let p : Place := .at_ g (off + i * s)
    have hle : μ.le (μ.add nb s rows.length c p) := Mu.le_add hnb
    have hbound : off + (i + c) * s ≤ cs.size := by
     have : (i + c) * s ≤ μ1.cp b * s := Nat.mul_le_mul_right s hic
     omega
    have hch := hH.change (b := nb) (o' := .rows s rows) (w' := w') hle (fun x e => Mu.add_other x e) (fun g hg _ => hsame g hg) (fun g' off' _ e => by
     simp only [Mu.add, if_true, p, Place.at_.injEq] at e
     obtain ⟨rfl, _⟩ := e
     exact ⟨.inl hgge, hglt⟩) hX.size hX.os hX.tape hX.output (hH.notItN hnb)
     ⟨.inl rfl, hs, by simp [Mu.add], by simp [Mu.add], fun k row' hk' => by
      have hk'' := (List.getElem?_eq_some_iff.1 hk').1
      have e1 : rs[i + k]? = some (rs[i + k]'(by omega)) := List.getElem?_eq_getElem (by omega)
      rw [hr k _ _ e1 hk']; exact hrow _ _ e1, .inr ⟨g, off + i * s, cs, T, by simp [Mu.add, p], hg', by simp [Mu.add]; omega, by simp [Mu.add]; rw [Nat.add_mul] at hbound; omega, fun k row' j c' hk' hj => by
      have hk'' := (List.getElem?_eq_some_iff.1 hk').1
      have e1 : rs[i + k]? = some (rs[i + k]'(by omega)) := List.getElem?_eq_getElem (by omega)
      have hrl := hr k _ _ e1 hk'
      have hj' := (List.getElem?_eq_some_iff.1 hj).1
      have e4 : (rs[i + k]'(by omega))[j]? = some ((rs[i + k]'(by omega))[j]'(by omega)) := List.getElem?_eq_getElem (by omega)
      obtain ⟨u, u1, u2⟩ := hcell _ _ j _ e1 e4
      refine ⟨u, by rw [show off + i * s + k * s + j = off + (i + k) * s + j by rw [Nat.add_mul]; omega]; exact u1, ?_⟩
      exact scal_vr u2 (hc k _ _ j _ _ e1 hk' e4 hj) (hsc row' (List.mem_of_getElem? hk') c' (List.mem_of_getElem? hj))⟩⟩
    refine ⟨_, _, _, _, F, rfl, ⟨rfl, rfl⟩, .sl _ nb _ 0 _ none rfl (show _ ∨ _ from .inl rfl) (by simp [Mu.add]) fun _ => ?_, hch.1, hch.2⟩
    simp only [Mu.add, if_true, p, SlOK]
    exact ⟨a, c, by rw [hn], by omega, by omega, by rcases ha' with h | h; exact .inl h; exact .inr (by rw [h]; simp), by simp⟩
end
end Go.Idl
namespace Go.Idl
open Go.RowKit
def hsame (h h' : Heap) (b : Nat) : Prop := h[b]? = h'[b]? ∨ ((h[b]? = none ∨ h[b]? = some .hole) ∧ (h'[b]? = none ∨ h'[b]? = some .hole))
def hget (h : Heap) (b : Nat) : Option IObj := match h[b]? with | some .hole => none | r => r
theorem hsame_iff {h h' : Heap} {b : Nat} : hget h b = hget h' b ↔ hsame h h' b := by
 unfold hget hsame
 rcases e1 : h[b]? with _ | o <;> rcases e2 : h'[b]? with _ | o' <;> try cases o <;> try cases o' <;> simp
 all_goals (try cases o') <;> simp
 all_goals (try cases o) <;> simp
def blk : IV → List Nat
 | .ptr b _ _ _ => [b]
 | .sl b _ _ _ _ => [b]
 | .map b => [b]
 | .iter b => [b]
 | _ => []
def blks : List IV → List Nat
 | [] => []
 | v :: l => blk v ++ blks l
theorem mem_blks {b : Nat} : ∀ {l : List IV} {v : IV}, v ∈ l → b ∈ blk v → b ∈ blks l
 | a :: l, v, hv, hb => by
  simp only [blks, List.mem_append]
  rcases List.mem_cons.1 hv with h | h
  ·subst h; exact .inl hb
  ·exact .inr (mem_blks h hb)
def blkO (r : Option IV) : List Nat := match r with | some v => blk v | none => []
def foots (e : Env) : List Operand → List Nat
 | [] => []
 | x :: l => blkO (e.opS x) ++ foots e l
def readsOf (op : Op) : List Operand := match op with | .move _ | .assign _ => [] | op => op.operands.toList
def blkA : IV → List Nat
 | .agg cs => blks cs
 | v => blk v
def blksA : List IV → List Nat
 | [] => []
 | v :: l => blkA v ++ blksA l
theorem mem_blksA {b : Nat} : ∀ {l : List IV} {v : IV}, v ∈ l → b ∈ blkA v → b ∈ blksA l
 | a :: l, v, hv, hb => by
  simp only [blksA, List.mem_append]
  rcases List.mem_cons.1 hv with h | h
  ·subst h; exact .inl hb
  ·exact .inr (mem_blksA h hb)
theorem blksA_mem {b : Nat} : ∀ {l : List IV}, b ∈ blksA l → ∃ v ∈ l, b ∈ blkA v
 | [], h => by simp [blksA] at h
 | a :: l, h => by
  simp only [blksA, List.mem_append] at h
  rcases h with h | h
  ·exact ⟨a, by simp, h⟩
  ·obtain ⟨v, h1, h2⟩ := blksA_mem h
   exact ⟨v, by simp [h1], h2⟩
def blksO (r : Option (List IV)) : List Nat := match r with | some l => blksA l | none => []
def capB (e : Env) (op : Op) : List Nat := match op with
 | .call c => match c.callee with
  | .value f => match e.opS f with
   | some (.func _ first cap) => blksA first ++ (blksA cap ++ blksO (opsnd e.opS c.args.toList))
   | _ => []
  | _ => []
 | _ => []
def foot (e : Env) (o : Oper) : List Nat := capB e o.op ++ foots e (readsOf o.op)
section
variable {P : Program}
theorem srcRows_same {h h' : Heap} {v : IV} (hs : ∀ b ∈ blk v, hsame h h' b) : srcRows h v = srcRows h' v := by
 cases v with
 | sl b tot i len cap =>
  rcases hs b (by simp [blk]) with h1 | ⟨h1 | h1, h2 | h2⟩
  ·simp only [srcRows, h1]
  all_goals simp only [srcRows, h1, h2]
 | _ => rfl
theorem appZ_same {e : TypeId} {nb b tot i len : Nat} {cap : Option Nat} {y : IV} {h h' : Heap} (hs : hsame h h' b) : appZ P h nb e (.sl b tot i len cap) y = appZ P h' nb e (.sl b tot i len cap) y := by
 cases y with
 | int k n =>
  rcases hs with h1 | ⟨h1 | h1, h2 | h2⟩
  ·cases cap <;> simp only [appZ, h1]
  all_goals cases cap <;> simp only [appZ, h1, h2]
 | _ => cases cap <;> rfl
theorem ibuiltin_same {b : Builtin} {ts : List TypeId} {args : List IV} {h h' : Heap} {nb : Nat} (hs : ∀ v ∈ args, ∀ b ∈ blk v, hsame h h' b) : ibuiltin P b ts args h nb = ibuiltin P b ts args h' nb := by
 unfold ibuiltin
 split
 ·rfl
 ·rename_i t b tot i len cap
  rcases hs (.sl b tot i len cap) (by simp) b (by simp [blk]) with h1 | ⟨h1 | h1, h2 | h2⟩
  ·simp only [h1]
  all_goals (rw [h1, h2]; try (generalize P.underlying t = u; cases u with | none => rfl | some d => cases d <;> rfl))
 ·rfl
 ·rename_i t b
  rcases hs (.map b) (by simp) b (by simp [blk]) with h1 | ⟨h1 | h1, h2 | h2⟩
  ·simp only [h1]
  all_goals (rw [h1, h2]; try (generalize P.underlying t = u; cases u with | none => rfl | some d => cases d <;> rfl))
 ·rfl
 ·rfl
 ·rename_i t b tot i len c
  rcases hs (.sl b tot i len (some c)) (by simp) b (by simp [blk]) with h1 | ⟨h1 | h1, h2 | h2⟩
  ·simp only [h1]
  all_goals (rw [h1, h2]; try (generalize P.underlying t = u; cases u with | none => rfl | some d => cases d <;> rfl))
 ·rename_i t b tot i len cap
  rcases hs (.sl b tot i len cap) (by simp) b (by simp [blk]) with h1 | ⟨h1 | h1, h2 | h2⟩
  ·simp only [h1]
  all_goals (rw [h1, h2]; try (generalize P.underlying t = u; cases u with | none => rfl | some d => cases d <;> rfl))
 ·rfl
 ·rfl
 ·rename_i t tx d y
  rw [srcRows_same (hs y (by simp))]
  generalize srcRows h' y = sr
  generalize P.underlying t = u
  generalize P.underlying tx = u2
  rcases u with _ | u
  ·rfl
  ·cases u with
   | slice e =>
    rcases u2 with _ | u2
    ·rfl
    ·cases u2 with
     | slice e2 =>
      rcases sr with _ | ⟨pre, src⟩
      ·rfl
      ·cases d with
       | sl b tot i len cap =>
        rcases hs (.sl b tot i len cap) (by simp) b (by simp [blk]) with h1 | ⟨h1 | h1, h2 | h2⟩
        ·cases cap <;> simp only [h1]
        all_goals (simp only; cases cap <;> simp only [h1, h2])
       | _ => rfl
     | int k =>
      rcases sr with _ | sr
      ·cases d with
       | sl b tot i len cap => exact appZ_same (hs (.sl b tot i len cap) (by simp) b (by simp [blk]))
       | _ => rfl
      ·rfl
     | _ => rfl
   | _ => rfl
 ·rfl
theorem mem_opsnd {ρ : Operand → Option IV} : ∀ {l : List Operand} {as : List IV}, opsnd ρ l = some as → ∀ v ∈ as, ∃ y ∈ l, ρ y = some v
 | [], as, h, v, hv => by simp [opsnd] at h; subst h; cases hv
 | x :: l, as, h, v, hv => by
  simp only [opsnd] at h
  split at h
  ·rename_i a b h1 h2
   cases h
   rcases List.mem_cons.1 hv with e | e
   ·subst e; exact ⟨x, by simp, h1⟩
   ·obtain ⟨y, h3, h4⟩ := mem_opsnd h2 v e; exact ⟨y, by simp [h3], h4⟩
  ·cases h
theorem iop_same {x : Bool} {op : Op} {ρ : Operand → Option IV} {h h' : Heap} {nb : Nat} (hs : ∀ y ∈ op.operands.toList, ∀ v, ρ y = some v → ∀ b ∈ blk v, hsame h h' b) : iop P x op ρ h nb = iop P x op ρ h' nb := by
 cases op with
 | nilCheck y =>
  have hs := hs y (by simp [Op.operands])
  simp only [iop]
  generalize ρ y = r at *
  rcases r with _ | r
  ·rfl
  ·cases r with
   | ptr b tot i o =>
    rcases hs _ rfl b (by simp [blk]) with h1 | ⟨h1 | h1, h2 | h2⟩
    ·simp only [h1]
    all_goals simp only [h1, h2]
   | _ => rfl
 | fieldAddr t y f =>
  have hs := hs y (by simp [Op.operands])
  simp only [iop]
  generalize ρ y = r at *
  generalize P.underlying t = u
  rcases r with _ | r
  ·rfl
  ·cases r with
   | ptr b tot i o =>
    rcases u with _ | u
    ·rfl
    ·cases u with
     | struct fs =>
      simp only
      generalize fs.toList[f]? = z
      rcases hs _ rfl b (by simp [blk]) with h1 | ⟨h1 | h1, h2 | h2⟩
      ·simp only [h1]
      all_goals (simp only [h1, h2] <;> cases z <;> rfl)
     | _ => rfl
   | _ => cases u with
    | none => rfl
    | some u => cases u <;> rfl
 | indexAddr t y z =>
  have hs := hs y (by simp [Op.operands])
  simp only [iop]
  generalize ρ y = r at *
  generalize ρ z = rz at *
  generalize P.underlying t = u
  rcases u with _ | u
  ·rfl
  ·rcases r with _ | r
   ·cases u <;> rfl
   ·rcases rz with _ | rz
    ·cases u <;> cases r <;> rfl
    ·cases r with
     | ptr b tot i o =>
      cases u with
      | array len e =>
       cases rz with
       | int k n =>
        simp only
        rcases hs _ rfl b (by simp [blk]) with h1 | ⟨h1 | h1, h2 | h2⟩
        ·simp only [h1]
        all_goals simp only [h1, h2]
       | _ => rfl
      | _ => cases rz <;> rfl
     | sl b tot i len cap =>
      cases u with
      | slice e =>
       cases rz with
       | int k n =>
        simp only
        rcases hs _ rfl b (by simp [blk]) with h1 | ⟨h1 | h1, h2 | h2⟩
        ·simp only [h1]
        all_goals simp only [h1, h2]
       | _ => rfl
      | _ => cases rz <;> rfl
     | _ => cases u <;> cases rz <;> rfl
 | load t y =>
  have hs := hs y (by simp [Op.operands])
  simp only [iop]
  generalize ρ y = r at *
  rcases r with _ | r
  ·rfl
  ·cases r with
   | ptr b tot i o =>
    rcases hs _ rfl b (by simp [blk]) with h1 | ⟨h1 | h1, h2 | h2⟩
    ·simp only [h1]
    all_goals simp only [h1, h2]
   | _ => rfl
 | store t y z =>
  have hs := hs y (by simp [Op.operands])
  simp only [iop]
  generalize ρ y = r at *
  generalize ρ z = rz at *
  rcases r with _ | r
  ·rfl
  ·cases r with
   | ptr b tot i o =>
    rcases rz with _ | rz
    ·rfl
    ·simp only
     rcases hs _ rfl b (by simp [blk]) with h1 | ⟨h1 | h1, h2 | h2⟩
     ·simp only [h1]
     all_goals simp only [h1, h2]
   | _ => rfl
 | slice t y lo hi mx =>
  cases mx with
  | some zz =>
   cases hi with
   | none => rfl
   | some yy =>
    have hs := hs y (by simp [Op.operands])
    simp only [iop]
    generalize ρ yy = r2
    generalize ρ zz = r3
    generalize loV ρ lo = l
    generalize P.underlying t = u
    generalize ρ y = r at *
    rcases u with _ | u
    ·rfl
    ·rcases r with _ | r
     ·cases u <;> rfl
     ·cases r with
      | sl b tot i len cap =>
       cases u with
       | slice e =>
        rcases l with _ | l
        ·rfl
        ·rcases r2 with _ | r2
         ·rfl
         ·cases r2 with
          | int k n =>
           rcases r3 with _ | r3
           ·rfl
           ·cases r3 with
            | int k3 n3 =>
             simp only
             rcases hs _ rfl b (by simp [blk]) with h1 | ⟨h1 | h1, h2 | h2⟩
             ·simp only [h1]
             all_goals simp only [h1, h2]
            | _ => rfl
          | _ => rfl
       | _ => rfl
      | _ => cases u <;> rfl
  | none =>
  have hs := hs y (by simp [Op.operands])
  simp only [iop]
  generalize ρ y = r at *
  generalize P.underlying t = u
  generalize loV ρ lo = l
  rcases u with _ | u
  ·rfl
  ·rcases r with _ | r
   ·cases u <;> rfl
   ·cases r with
    | sl b tot i len cap =>
     cases u with
     | slice e =>
      rcases l with _ | l
      ·rfl
      ·simp only
       rcases hs _ rfl b (by simp [blk]) with h1 | ⟨h1 | h1, h2 | h2⟩
       ·simp only [h1]
       all_goals simp only [h1, h2]
     | _ => cases l <;> rfl
    | _ => cases u <;> cases l <;> rfl
 | call c =>
  cases hc : c.callee with
  | builtin b =>
   cases ha : opsnd ρ c.args.toList with
   | none => simp only [iop, hc, ha]
   | some as =>
    simp only [iop, hc, ha]
    refine ibuiltin_same fun v hv => ?_
    obtain ⟨y, h1, h2⟩ := mem_opsnd ha v hv
    exact hs y (by simp [Op.operands, Call.operands]; exact .inr (by simpa using h1)) v h2
  | _ => simp only [iop, hc]
 | makeMap t r => cases r <;> rfl
 | lookup t y z cok =>
  have hs := hs y (by simp [Op.operands])
  simp only [iop]
  have hm : ∀ m, ρ y = some m → mapOf h m = mapOf h' m := fun m hm => by
   cases m with
   | map b =>
    rcases hs _ hm b (by simp [blk]) with h1 | ⟨h1 | h1, h2 | h2⟩
    ·simp only [mapOf, h1]
    all_goals simp only [mapOf, h1, h2]
   | _ => rfl
  generalize ρ y = r at *
  generalize ρ z = rz at *
  generalize P.underlying t = u
  rcases u with _ | u
  ·rfl
  ·rcases r with _ | r
   ·cases u <;> rfl
   ·rcases rz with _ | rz
    ·cases u <;> rfl
    ·cases u with
     | map kt et => simp only [hm _ rfl]
     | _ => rfl
 | mapUpdate t m y z =>
  have hs := hs m (by simp [Op.operands])
  simp only [iop]
  generalize ρ m = r at *
  generalize ρ y = ry at *
  generalize ρ z = rz at *
  generalize P.underlying t = u
  rcases u with _ | u
  ·rfl
  ·rcases r with _ | r
   ·cases u <;> rfl
   ·rcases ry with _ | ry
    ·cases u <;> cases r <;> rfl
    ·rcases rz with _ | rz
     ·cases u <;> cases r <;> rfl
     ·cases r with
      | map b =>
       cases u with
       | map kt et =>
        simp only
        rcases hs _ rfl b (by simp [blk]) with h1 | ⟨h1 | h1, h2 | h2⟩
        ·simp only [h1]
        all_goals (simp only [h1, h2] <;> cases keyK P kt <;> rfl)
       | _ => rfl
      | _ => cases u <;> rfl
 | insert t m y z =>
  have hs := hs m (by simp [Op.operands])
  simp only [iop]
  generalize ρ m = r at *
  generalize ρ y = ry at *
  generalize ρ z = rz at *
  generalize P.underlying t = u
  rcases u with _ | u
  ·rfl
  ·rcases r with _ | r
   ·cases u <;> rfl
   ·rcases ry with _ | ry
    ·cases u <;> cases r <;> rfl
    ·rcases rz with _ | rz
     ·cases u <;> cases r <;> rfl
     ·cases r with
      | map b =>
       cases u with
       | map kt et =>
        simp only
        rcases hs _ rfl b (by simp [blk]) with h1 | ⟨h1 | h1, h2 | h2⟩
        ·simp only [h1]
        all_goals (simp only [h1, h2] <;> cases keyK P kt <;> rfl)
       | _ => rfl
      | _ => cases u <;> rfl
 | _ => rfl
theorem mem_foots {e : Env} : ∀ {l : List Operand} {x : Operand} {v : IV} {b : Nat}, x ∈ l → e.opS x = some v → b ∈ blk v → b ∈ foots e l
 | y :: l, x, v, b, hx, hv, hb => by
  simp only [foots, List.mem_append]
  rcases List.mem_cons.1 hx with h | h
  ·subst h; rw [hv]; exact .inl hb
  ·exact .inr (mem_foots h hv hb)
theorem xPure_same {o : Oper} {e : Env} {g : Bool} {h h' : Heap} {nb : Nat} (hs : ∀ b ∈ foot e o, hsame h h' b) : xPure P o e g h nb = xPure P o e g h' nb := by
 have gen : ∀ op, o.op = op → iop P e.x op e.opS h nb = iop P e.x op e.opS h' nb := fun op ho =>
  match op, ho with
  | .move _, _ => rfl
  | .assign _, _ => rfl
  | op, ho => by
   by_cases hro : readsOf op = op.operands.toList
   ·exact iop_same fun y hy v hv b hb => hs b (by unfold foot; rw [ho, hro]; exact List.mem_append_right _ (mem_foots hy hv hb))
   ·cases op <;> first | rfl | exact absurd rfl hro
 unfold xPure
 split
 ·rfl
 ·rw [gen _ rfl]
end
theorem Env.get_put_eq (e : Env) (j : Nat) (v : IV) (t : Nat) : (e.put j v).get t = if j = t ∧ j < e.n then some v else e.get t := by
 unfold Env.put
 by_cases hn : j < e.n
 ·rw [show Nat.blt j e.n = true from by rw [Nat.blt_eq]; exact hn]
  simp only [cond_true, hn, and_true]
  cases hm : isNamed e.m e.ex j with
  | true =>
   simp only [cond_true, Env.get, eget_eput]
   by_cases e1 : j = t
   ·subst e1; simp [hm]
   ·simp only [e1, if_false]
  | false =>
   simp only [cond_false, Env.get, eget]
   by_cases e1 : j = t
   ·subst e1; simp [hm]
   ·have : (j == t) = false := by simpa using e1
    simp only [this, cond_false, e1, if_false]
 ·have : Nat.blt j e.n = false := by
   cases h : Nat.blt j e.n with
   | false => rfl
   | true => rw [Nat.blt_eq] at h; exact absurd h hn
  rw [this]
  simp [hn]
theorem Env.put_x (e : Env) (j : Nat) (v : IV) : (e.put j v).x = e.x := by
 unfold Env.put; cases Nat.blt j e.n <;> cases isNamed e.m e.ex j <;> rfl
@[simp] theorem Env.putO_n (e : Env) (d : Option Nat) (v : IV) : (e.putO d v).n = e.n := by cases d <;> simp [Env.putO]
@[simp] theorem Env.putO_gl (e : Env) (d : Option Nat) (v : IV) : (e.putO d v).gl = e.gl := by cases d <;> simp [Env.putO]
@[simp] theorem Env.putO_x (e : Env) (d : Option Nat) (v : IV) : (e.putO d v).x = e.x := by cases d <;> simp [Env.putO, Env.put_x]
theorem Env.get_putO_ne {e : Env} {d : Option Nat} {v : IV} {t : Nat} (h : d ≠ some t) : (e.putO d v).get t = e.get t := by
 cases d with
 | none => rfl
 | some j => simp only [Env.putO, Env.get_put_eq]; rw [if_neg]; rintro ⟨h1, _⟩; exact h (by rw [h1])
theorem hput_get : ∀ (h : Heap) (b : Nat) (o : IObj) (b' : Nat), (hput h b o)[b']? = if b' = b then some o else if b' < h.length then h[b']? else if b' < b then some .hole else none
 | [], 0, o, b' => by
  cases b' with
  | zero => simp [hput]
  | succ b' => simp [hput]
 | [], n + 1, o, b' => by
  cases b' with
  | zero => simp [hput]
  | succ b' => simp [hput, hput_get [] n o b']
 | x :: l, 0, o, b' => by
  cases b' with
  | zero => simp [hput]
  | succ b' =>
   simp only [hput, List.getElem?_cons_succ, Nat.succ_ne_zero, if_false, List.length_cons, Nat.add_lt_add_iff_right, Nat.not_lt_zero]
   split
   ·rfl
   ·rename_i h; rw [List.getElem?_eq_none (by omega)]
 | x :: l, n + 1, o, b' => by
  cases b' with
  | zero => simp [hput]
  | succ b' => simp [hput, hput_get l n o b']
theorem hget_hput_ne {h : Heap} {b b' : Nat} {o : IObj} (hb : b' ≠ b) : hget (hput h b o) b' = hget h b' := by
 rw [hsame_iff]
 unfold hsame
 rw [hput_get, if_neg hb]
 by_cases h1 : b' < h.length
 ·rw [if_pos h1]; exact .inl rfl
 ·rw [if_neg h1, List.getElem?_eq_none (by omega)]
  by_cases h2 : b' < b
  ·rw [if_pos h2]; exact .inr ⟨.inr rfl, .inl rfl⟩
  ·rw [if_neg h2]; exact .inl rfl
theorem hget_hput_eq {h : Heap} {b : Nat} {o : IObj} : hget (hput h b o) b = (match o with | .hole => none | o => some o) := by
 unfold hget
 rw [hput_get, if_pos rfl]
 cases o <;> rfl
theorem hget_some {h : Heap} {b : Nat} {o : IObj} : hget h b = some o ↔ h[b]? = some o ∧ o.isHole = false := by
 unfold hget
 rcases e : h[b]? with _ | o'
 ·simp
 ·cases o' with
  | hole => exact ⟨fun h => (by cases h), fun h => (by obtain ⟨h1, h2⟩ := h; cases h1; cases h2)⟩
  | _ => exact ⟨fun h => (by cases h; exact ⟨rfl, rfl⟩), fun h => h.1⟩
theorem HR.same {μ : Mu} {F : Fz} {w : World} {σ σ' : Heap} (h : HR μ F σ w) (hs : ∀ b, hget σ b = hget σ' b) : HR μ F σ' w := by
 refine ⟨fun b hu => ?_, fun b o ho => ?_, h.inj, h.fro, h.lt, h.flt, fun b b' l r r' e e' h1 h2 => h.yin b b' l r r' e e' (hget_some.1 ((hs b).trans (hget_some.2 ⟨h1, rfl⟩))).1 (hget_some.1 ((hs b').trans (hget_some.2 ⟨h2, rfl⟩))).1, fun x b es cur todo o h1 h2 => ?_⟩
 ·obtain ⟨o, h1, h2⟩ := h.n b hu
  have h3 := hget_some.2 ⟨h1, h2⟩
  rw [hs b] at h3
  exact ⟨o, hget_some.1 h3⟩
 ·cases hh : o.isHole with
  | true => cases o <;> simp only [IObj.isHole, reduceCtorEq] at hh; trivial
  | false =>
   have h3 := hget_some.2 ⟨ho, hh⟩
   rw [← hs b] at h3
   exact h.obj b o (hget_some.1 h3).1
 ·have h3 := (hget_some.1 ((hs x).trans (hget_some.2 ⟨h1, rfl⟩))).1
  cases hh : o.isHole with
  | true =>
   obtain ⟨_, _, _, _, q⟩ := h.obj x _ h3
   obtain ⟨o2, o3, o4⟩ := h.n b q.1
   have := hget_some.1 ((hs b).symm.trans (hget_some.2 ⟨o3, o4⟩))
   rw [h2] at this
   obtain ⟨e1, e2⟩ := this
   cases e1
   rw [hh] at e2; cases e2
  | false => exact h.itd x b es cur todo o h3 (hget_some.1 ((hs b).trans (hget_some.2 ⟨h2, hh⟩))).1
theorem EnvR.same {μ : Mu} {F : Fz} {w : World} {t : Array Value} {e e' : Env} (h : EnvR μ F w t e) (hn : e'.n = e.n) (hg : e'.gl = e.gl) (hs : ∀ t, e'.get t = e.get t) : EnvR μ F w t e' :=
 ⟨h.size.trans hn.symm, fun k c hc => h.slot k c (by rw [← hs k]; exact hc), fun g c hc => h.glob g c (by rw [← hg]; exact hc)⟩
def callsGo (o : Oper) : Bool := match o.op with
 | .call c => match c.callee with | .builtin _ => false | _ => true
 | _ => false
theorem callOf_none {o : Oper} {e : Env} (h : callsGo o = false) : callOf o e = none := by
 unfold callsGo at h
 unfold callOf
 split at h
 ·rename_i c hop
  simp only [hop]
  split at h
  ·rename_i b hc; simp only [hc]
  ·cases h
 ·rename_i hno
  split
  ·rename_i c hc; exact absurd hc (hno c)
  ·rfl
section
variable {P : Program}
def callP (o : Oper) (e : Env) : Option (FuncId × List IV) := match o.op with
 | .call c => match c.callee with
  | .value f => match e.opS f with
   | some (.func (.func fid) first cap) => (opsnd e.opS c.args.toList).map fun as => (fid, first ++ as ++ cap)
   | _ => none
  | _ => none
 | _ => none
def lend1 (h : Heap) : IV → IV
 | .ptr b tot i o => match h[b]? with | some (.rows s rs) => .fptr s rs i o | _ => .ptr b tot i o
 | .sl b tot i len cap => match h[b]? with | some (.rows s rs) => .fz s ((rs.drop i).take len) | _ => .sl b tot i len cap
 | v => v
def lendOK1 (h : Heap) : IV → Prop
 | .ptr b tot i _ => match h[b]? with | some (.rows _ rs) => tot = rs.length ∧ i < rs.length ∧ ∀ row ∈ rs, ∀ c ∈ row, Cl c | _ => False
 | .sl b tot i len _ => match h[b]? with | some (.rows _ rs) => tot = rs.length ∧ i + len ≤ rs.length ∧ ∀ row ∈ (rs.drop i).take len, ∀ c ∈ row, Cl c | _ => False
 | v => Cl v
def lendAll1 (h : Heap) : List IV → Prop
 | [] => True
 | v :: l => lendOK1 h v ∧ lendAll1 h l
def lends1 (h : Heap) : List IV → List IV
 | [] => []
 | v :: l => lend1 h v :: lends1 h l
def lend (h : Heap) : IV → IV
 | .agg cs => .agg (lends1 h cs)
 | v => lend1 h v
def lendOK (h : Heap) : IV → Prop
 | .agg cs => lendAll1 h cs
 | v => lendOK1 h v
def lendAll (h : Heap) : List IV → Prop
 | [] => True
 | v :: l => lendOK h v ∧ lendAll h l
def lends (h : Heap) : List IV → List IV
 | [] => []
 | v :: l => lend h v :: lends h l
def glCl : List (Nat × IV) → Prop
 | [] => True
 | p :: l => Cl p.2 ∧ glCl l
theorem glCl_get : ∀ {gl : List (Nat × IV)}, glCl gl → ∀ g c, eget gl g = some c → Cl c
 | [], _, g, c, h => by simp [eget] at h
 | (k, v) :: l, hc, g, c, h => by
  simp only [eget] at h
  cases hk : k == g with
  | true => rw [hk] at h; simp only [cond_true, Option.some.injEq] at h; subst h; exact hc.1
  | false => rw [hk] at h; exact glCl_get hc.2 g c h
theorem lend_fr1 {h : Heap} {v : IV} (hv : lendOK1 h v) : Fr true h v (lend1 h v) := by
 cases v with
 | ptr b tot i o =>
  simp only [lendOK1, lend1] at *
  split at hv
  ·rename_i s rs hb
   exact .ptr b tot i o s rs rs hb hv.1 hv.2.1 rfl (fun k row row' h1 h2 => by rw [h1] at h2; cases h2; rfl) fun k row row' j c c' h1 h2 h3 h4 => by
    rw [h1] at h2; cases h2; rw [h3] at h4; cases h4
    exact .cl c rfl (hv.2.2 row (List.mem_of_getElem? h1) c (List.mem_of_getElem? h3))
  ·exact hv.elim
 | sl b tot i len cap =>
  simp only [lendOK1, lend1] at *
  split at hv
  ·rename_i s rs hb
   have key : ∀ (k : Nat) (row row' : List IV), rs[i + k]? = some row → ((rs.drop i).take len)[k]? = some row' → row' = row ∧ row ∈ (rs.drop i).take len := fun k row row' h1 h2 => by
    have h3 := h2
    rw [List.getElem?_take] at h2
    split at h2
    ·rw [List.getElem?_drop, h1] at h2; cases h2; exact ⟨rfl, List.mem_of_getElem? h3⟩
    ·cases h2
   exact .sl b tot i len cap s rs _ hb hv.1 hv.2.1 (by simp; omega) (fun k row row' h1 h2 => by rw [(key k row row' h1 h2).1]) fun k row row' j c c' h1 h2 h3 h4 => by
    obtain ⟨rfl, hm⟩ := key k row row' h1 h2
    rw [h3] at h4; cases h4
    exact .cl c rfl (hv.2.2 _ hm c (List.mem_of_getElem? h3))
  ·exact hv.elim
 | _ => exact .cl _ rfl hv
theorem lends_get {h : Heap} : ∀ {l : List IV}, lendAll1 h l → (lends1 h l).length = l.length ∧ ∀ (j : Nat) (c c' : IV), l[j]? = some c → (lends1 h l)[j]? = some c' → Fr true h c c'
 | [], _ => ⟨rfl, fun j c c' h1 _ => by simp at h1⟩
 | v :: l, hv => by
  obtain ⟨h1, h2⟩ := lends_get (l := l) hv.2
  refine ⟨by simp [lends1, h1], fun j c c' e1 e2 => ?_⟩
  cases j with
  | zero => simp [lends1] at e1 e2; subst e1; subst e2; exact lend_fr1 hv.1
  | succ j => simp [lends1] at e1 e2; exact h2 j c c' e1 e2
theorem lend_fr {h : Heap} {v : IV} (hv : lendOK h v) : Fr true h v (lend h v) := by
 cases v with
 | agg cs => obtain ⟨h1, h2⟩ := lends_get hv; exact .agg cs _ h1 h2
 | _ => exact lend_fr1 hv
theorem lends_frs {h : Heap} : ∀ {l : List IV}, lendAll h l → Frs h l (lends h l)
 | [], _ => .nil
 | _ :: _, hv => .cons (lend_fr hv.1) (lends_frs hv.2)
def clAll : List IV → Prop
 | [] => True
 | c :: l => Cl c ∧ clAll l
theorem clAll_get : ∀ {l : List IV}, clAll l → ∀ (j : Nat) (c : IV), l[j]? = some c → Cl c
 | [], _, j, c, h => by simp at h
 | a :: l, h, j, c, e => by
  cases j with
  | zero => simp at e; subst e; exact h.1
  | succ j => exact clAll_get h.2 j c (by simpa using e)
def ownO : IV → Option (Nat × List (List IV))
 | .tup [.junk, .fz s rows] => some (s, rows)
 | _ => none
def ownV : IV → Option IV
 | .tup [.junk, .junk, v] => some v
 | _ => none
def agreeH (l : List Nat) (H h : Heap) : Prop := ∀ b ∈ l, hget H b = hget h b
theorem agreeH_same {l : List Nat} {H h h' : Heap} (hs : ∀ b ∈ l, hget h' b = hget h b) : agreeH l H h' = agreeH l H h :=
 propext ⟨fun a b hb => (a b hb).trans (hs b hb), fun a b hb => (a b hb).trans (hs b hb).symm⟩
def readsOnly (P : Program) (gl : List (Nat × IV)) (f : FuncId) (as : List IV) (h : Heap) (v : IV) : Prop := ∀ H, agreeH (blksA as) H h → ICalls P gl f as H (fun u σ' => u = v ∧ σ' = H)
def step1 (P : Program) (orc : Nat → IV) (ops : List Oper) (o : Oper) (e : Env) (h : Heap) (nb : Nat) : Option (Prop × IV × Option (Nat × IObj)) :=
 if callsGo o = true then
 match wantOf ops e o with
 | none => none
 | some false => some (True, .opt false (orc nb), none)
 | some true => match callP o e with
  | none => none
  | some (f, as) => match ownV (orc nb) with
   | some v => some ((whens e true o.op.operands.toList ∧ glCl e.gl) ∧ readsOnly P e.gl f as h v, v, none)
   | none => match ownO (orc nb) with
   | none => some ((whens e true o.op.operands.toList ∧ lendAll h as ∧ glCl e.gl) ∧ (IFun true P e.gl f (lends h as) (fun v => v = orc nb) ∨ (clAll as ∧ IFun false P e.gl f as (fun v => v = orc nb))), orc nb, none)
   | some (s, rows) => some ((whens e true o.op.operands.toList ∧ lendAll h as ∧ glCl e.gl) ∧ (0 < s ∧ ScR rows) ∧ IFun true P e.gl f (lends h as) (fun v => v = .fz s rows), .sl nb rows.length 0 rows.length none, some (nb, .rows s rows))
 else
 match wantOf ops e o with
 | none => none
 | some g => match xPure P o e g h nb with
  | none => match g with
   | false => some (True, .tup [], none)
   | true => none
  | some (c, r) => match r.w with
   | none => some ((c ∧ (g = true → r.pre)), (bif o.guard.isSome then .opt g r.v else r.v), none)
   | some bo => match g with
    | true => some (c ∧ r.pre, r.v, some bo)
    | false => some (True, .tup [], none)
theorem Env.opS_congr {e e' : Env} {x : Operand} (hg : e'.gl = e.gl) (h : ∀ t, x = .tmp t → e'.get t = e.get t) : e'.opS x = e.opS x ∧ e'.wh x = e.wh x := by
 have : e'.opnd x = e.opnd x := by
  cases x with
  | tmp t => exact h t rfl
  | const v => rfl
  | global g => simp only [Env.opnd, hg]
  | func f => rfl
 simp only [Env.opS, Env.wh, this, and_self]
theorem whens_congr {e e' : Env} {g : Bool} : ∀ (l : List Operand), (∀ x ∈ l, e'.wh x = e.wh x) → whens e' g l = whens e g l
 | [], _ => rfl
 | x :: l, h => by simp only [whens, h x (by simp), whens_congr l fun y hy => h y (by simp [hy])]
theorem foots_congr {e e' : Env} : ∀ (l : List Operand), (∀ x ∈ l, e'.opS x = e.opS x) → foots e' l = foots e l
 | [], _ => rfl
 | x :: l, h => by simp only [foots, h x (by simp), foots_congr l fun y hy => h y (by simp [hy])]
theorem xPure_env {o : Oper} {e e' : Env} {g : Bool} {h : Heap} {nb : Nat} (hx : e'.x = e.x) (ho : ∀ x ∈ o.op.operands.toList, e'.opS x = e.opS x ∧ e'.wh x = e.wh x) : xPure P o e' g h nb = xPure P o e g h nb := by
 have gen : ∀ op, o.op = op → (iop P e'.x op e'.opS h nb).map (fun r => (whens e' g op.operands.toList, r)) = (iop P e.x op e.opS h nb).map (fun r => (whens e g op.operands.toList, r)) := fun op hop => by
  subst hop
  rw [hx, iop_congr (ρ := e'.opS) (ρ' := e.opS) fun y hy => (ho y hy).1, whens_congr _ fun y hy => (ho y hy).2]
 unfold xPure
 split
 ·rename_i c x y hop
  rw [hop] at ho
  have h1 := ho c (by simp [Op.operands])
  have h2 := ho x (by simp [Op.operands])
  have h3 := ho y (by simp [Op.operands])
  rw [h1.1, h2.1, h3.1, h1.2, h2.2, h3.2]
 ·exact gen _ rfl
theorem lend_same1 {h h' : Heap} {v : IV} (hs : ∀ b ∈ blk v, hsame h h' b) : lend1 h v = lend1 h' v ∧ lendOK1 h v = lendOK1 h' v := by
 cases v with
 | ptr b tot i o =>
  rcases hs b (by simp [blk]) with h1 | ⟨h1 | h1, h2 | h2⟩
  ·simp only [lend1, lendOK1, h1, and_self]
  all_goals simp only [lend1, lendOK1, h1, h2, and_self]
 | sl b tot i len cap =>
  rcases hs b (by simp [blk]) with h1 | ⟨h1 | h1, h2 | h2⟩
  ·simp only [lend1, lendOK1, h1, and_self]
  all_goals simp only [lend1, lendOK1, h1, h2, and_self]
 | _ => exact ⟨rfl, rfl⟩
theorem lends_same1 {h h' : Heap} : ∀ {l : List IV}, (∀ v ∈ l, ∀ b ∈ blk v, hsame h h' b) → lends1 h l = lends1 h' l ∧ lendAll1 h l = lendAll1 h' l
 | [], _ => ⟨rfl, rfl⟩
 | v :: l, hs => by
  obtain ⟨a, b⟩ := lend_same1 (hs v (by simp))
  obtain ⟨c, d⟩ := lends_same1 (l := l) fun x hx => hs x (by simp [hx])
  simp only [lends1, lendAll1, a, b, c, d, and_self]
theorem lend_same {h h' : Heap} {v : IV} (hs : ∀ b ∈ blkA v, hsame h h' b) : lend h v = lend h' v ∧ lendOK h v = lendOK h' v := by
 cases v with
 | agg cs =>
  obtain ⟨a, b⟩ := lends_same1 (h := h) (h' := h') (l := cs) fun x hx b hb => hs b (mem_blks hx hb)
  simp only [lend, lendOK, a, b, and_self]
 | _ => exact lend_same1 fun b hb => hs b (by simpa only [blkA] using hb)
theorem lends_same {h h' : Heap} : ∀ {l : List IV}, (∀ v ∈ l, ∀ b ∈ blkA v, hsame h h' b) → lends h l = lends h' l ∧ lendAll h l = lendAll h' l
 | [], _ => ⟨rfl, rfl⟩
 | v :: l, hs => by
  obtain ⟨a, b⟩ := lend_same (hs v (by simp))
  obtain ⟨c, d⟩ := lends_same (l := l) fun x hx => hs x (by simp [hx])
  simp only [lends, lendAll, a, b, c, d, and_self]
theorem callP_env {o : Oper} {e e' : Env} (ho : ∀ x ∈ o.op.operands.toList, e'.opS x = e.opS x ∧ e'.wh x = e.wh x) : callP o e' = callP o e := by
 unfold callP
 split
 ·rename_i c hop
  rw [hop] at ho
  split
  ·rename_i f hc
   have h1 := (ho f (by simp [Op.operands, Call.operands, hc])).1
   have h2 : opsnd e'.opS c.args.toList = opsnd e.opS c.args.toList := opsnd_congr _ fun x hx => (ho x (by simp [Op.operands, Call.operands]; exact .inr (by simpa using hx))).1
   rw [h1, h2]
  ·rfl
 ·rfl
theorem callP_blk {o : Oper} {e : Env} {f : FuncId} {as : List IV} (h : callP o e = some (f, as)) : ∀ v ∈ as, ∀ b ∈ blkA v, b ∈ foot e o := by
 unfold callP at h
 split at h
 ·rename_i c hop
  split at h
  ·rename_i fo hcal
   split at h
   ·rename_i fid first cap hfo
    cases ha : opsnd e.opS c.args.toList with
    | none => rw [ha] at h; cases h
    | some as' =>
     rw [ha] at h
     simp only [Option.map_some, Option.some.injEq, Prod.mk.injEq] at h
     obtain ⟨_, rfl⟩ := h
     intro v hv b hb
     unfold foot
     rw [hop]
     refine List.mem_append_left _ ?_
     simp only [capB, hcal, hfo, ha, blksO]
     rcases List.mem_append.1 hv with hv | hv
     case inr => exact List.mem_append_right _ (List.mem_append_left _ (mem_blksA hv hb))
     rcases List.mem_append.1 hv with hv | hv
     ·exact List.mem_append_left _ (mem_blksA hv hb)
     ·exact List.mem_append_right _ (List.mem_append_right _ (mem_blksA hv hb))
   ·cases h
  ·cases h
 ·cases h
theorem step1_congr {orc : Nat → IV} {ops : Array Oper} {o : Oper} {e e' : Env} {h h' : Heap} {nb : Nat} (hx : e'.x = e.x) (hg : e'.gl = e.gl) (he : ∀ t ∈ o.looksAt ops, e'.get t = e.get t) (hs : ∀ b ∈ foot e o, hget h' b = hget h b) :
  step1 P orc ops.toList o e' h' nb = step1 P orc ops.toList o e h nb := by
 have ho : ∀ x ∈ o.op.operands.toList, e'.opS x = e.opS x ∧ e'.wh x = e.wh x := fun x hx => Env.opS_congr hg fun t ht => he t (by
  subst ht; unfold Oper.looksAt; exact List.mem_append_left _ (List.mem_filterMap.2 ⟨.tmp t, hx, rfl⟩))
 have hw : wantOf ops.toList e' o = wantOf ops.toList e o := by
  unfold wantOf
  cases hgd : o.guard with
  | none => rfl
  | some jw =>
   obtain ⟨j, want⟩ := jw
   simp only
   cases hsl : gslot ops.toList j with
   | none => rfl
   | some t =>
    have : e'.get t = e.get t := he t (by
     unfold Oper.looksAt
     refine List.mem_append_right _ ?_
     rw [hgd]
     unfold gslot at hsl
     simp only [Array.getElem?_toList] at hsl
     cases ho' : ops[j]? with
     | none => rw [ho'] at hsl; cases hsl
     | some oj => rw [ho'] at hsl; simp only at hsl; simp [ho', hsl])
    simp only [this]
 have hcb : capB e' o.op = capB e o.op := by
  unfold capB
  split
  ·rename_i c hop
   split
   ·rename_i f hc
    rw [(ho f (by rw [hop]; simp [Op.operands, Call.operands, hc])).1, opsnd_congr _ fun x hx => (ho x (by rw [hop]; simp [Op.operands, Call.operands]; exact .inr (by simpa using hx))).1]
   ·rfl
  ·rfl
 have hf : foot e' o = foot e o := by
  unfold foot
  rw [hcb]
  congr 1
  exact foots_congr _ fun x hx => (ho x (by
  unfold readsOf at hx
  split at hx
  ·cases hx
  ·cases hx
  ·exact hx)).1
 unfold step1
 rw [hw]
 have hp : ∀ g, xPure P o e' g h' nb = xPure P o e g h nb := fun g => by
  rw [xPure_env hx ho, xPure_same fun b hb => hsame_iff.1 (hs b hb)]
 rw [callP_env ho]
 have hcp : ∀ f as, callP o e = some (f, as) → lends h' as = lends h as ∧ lendAll h' as = lendAll h as := fun f as hc =>
  lends_same (h := h') (h' := h) (l := as) fun v hv b hb => hsame_iff.1 (hs b (callP_blk hc v hv b hb))
 have hwh : whens e' true o.op.operands.toList = whens e true o.op.operands.toList := whens_congr _ fun x hx => (ho x hx).2
 cases hcc : callP o e with
 | none => simp only [hp]
 | some fa =>
  obtain ⟨f, as⟩ := fa
  obtain ⟨k1, k2⟩ := hcp f as hcc
  have k3 : ∀ v, readsOnly P e.gl f as h' v = readsOnly P e.gl f as h v := fun v => by
   unfold readsOnly
   have : ∀ H, agreeH (blksA as) H h' = agreeH (blksA as) H h := fun H => agreeH_same fun b hb => by
    obtain ⟨u, hu, hbu⟩ := blksA_mem hb
    exact hs b (callP_blk hcc u hu b hbu)
   simp only [this]
  simp only [hp, k1, k2, k3, hg, hwh]
end
end Go.Idl
