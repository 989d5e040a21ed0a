import Derived.Test.YteedopeniojppaaGreatDoorIdlPartE
set_option linter.all false
namespace Go.Idl
open Go.RowKit
inductive Bl (n : Nat) : IV → Prop where
 | bool (b : Bool) : Bl n (.bool b)
 | int (k : IntKind) (i : Int) : Bl n (.int k i)
 | str (s : ByteArray) : Bl n (.str s)
 | nilp : Bl n .nilp
 | nils : Bl n .nils
 | nilm : Bl n .nilm
 | nilf : Bl n .nilf
 | ptr (b tot i o : Nat) (h : b < n) : Bl n (.ptr b tot i o)
 | sl (b tot i len : Nat) (cap : Option Nat) (h : b < n) : Bl n (.sl b tot i len cap)
 | map (b : Nat) (h : b < n) : Bl n (.map b)
 | fm (es : List (IV × IV)) : Bl n (.fm es)
 | iter (b : Nat) (h : b < n) : Bl n (.iter b)
 | fptr (s : Nat) (rows : List (List IV)) (i o : Nat) (h : ∀ (i : Nat) (row : List IV) (j : Nat) (c : IV), rows[i]? = some row → row[j]? = some c → Bl n c) : Bl n (.fptr s rows i o)
 | fz (s : Nat) (rows : List (List IV)) (h : ∀ (i : Nat) (row : List IV) (j : Nat) (c : IV), rows[i]? = some row → row[j]? = some c → Bl n c) : Bl n (.fz s rows)
 | func (fn : Fn) (fs cs : List IV) (h1 : ∀ (j : Nat) (c : IV), fs[j]? = some c → Bl n c) (h2 : ∀ (j : Nat) (c : IV), cs[j]? = some c → Bl n c) : Bl n (.func fn fs cs)
 | agg (cs : List IV) (h : ∀ (j : Nat) (c : IV), cs[j]? = some c → Bl n c) : Bl n (.agg cs)
 | tup (cs : List IV) (h : ∀ (j : Nat) (c : IV), cs[j]? = some c → Bl n c) : Bl n (.tup cs)
 | opt (g : Bool) (v : IV) (h : Bl n v) : Bl n (.opt g v)
 | junk : Bl n .junk
theorem Cl.bl {n : Nat} {v : IV} (h : Cl v) : Bl n v := by
 induction h with
 | bool b => exact .bool b
 | int k i => exact .int k i
 | str s => exact .str s
 | nilp => exact .nilp
 | nils => exact .nils
 | nilm => exact .nilm
 | nilf => exact .nilf
 | fm es => exact .fm es
 | fptr s rows i o _ ih => exact .fptr s rows i o ih
 | fz s rows _ ih => exact .fz s rows ih
 | func fn fs cs _ _ i1 i2 => exact .func fn fs cs i1 i2
 | agg cs _ ih => exact .agg cs ih
 | tup cs _ ih => exact .tup cs ih
def ObBl (n : Nat) : IObj → Prop
 | .rows _ rs => ∀ row ∈ rs, ∀ c ∈ row, Bl n c
 | .map es => ∀ e ∈ es, Bl n e.1 ∧ Bl n e.2
 | .iter b es cur todo => (∀ b', b = some b' → b' < n) ∧ (∀ e ∈ es, Bl n e.1 ∧ Bl n e.2) ∧ (∀ e ∈ todo, Bl n e.1 ∧ Bl n e.2) ∧ ∀ e, cur = some e → Bl n e.1 ∧ Bl n e.2
 | .yrec _ _ e => (∀ p ∈ e.nm, Bl n p.2) ∧ (∀ p ∈ e.tm, Bl n p.2) ∧ ∀ p ∈ e.gl, Bl n p.2
 | _ => True
def HeBl (n : Nat) (σ : Heap) : Prop := ∀ o ∈ σ, ObBl n o
def EnBl (n : Nat) (l : List (Nat × IV)) : Prop := ∀ p ∈ l, Bl n p.2
def Mu.cut (μ : Mu) (n : Nat) : Mu := { μ with u := fun b => μ.u b ∧ b < n }
section
variable {P : Program} {μ : Mu} {F : Fz} {w : World} {σ : Heap} {Q : XPost}
theorem Bl.vr {n : Nat} {v : Value} {c : IV} (h : VR μ F w v c) (hb : Bl n c) : VR (μ.cut n) F w v c := by
 induction h with
 | bool b => exact .bool b
 | int k n => exact .int k n
 | str s => exact .str s
 | nilp => exact .nilp
 | ptr v b tot i o hk hb' ht h => cases hb with | ptr _ _ _ _ hn => exact .ptr v b tot i o hk ⟨hb', hn⟩ ht h
 | fptr g off s rows i o us hf hrow hcell hv ih =>
  cases hb with
  | fptr _ _ _ _ hcl => exact .fptr g off s rows i o us hf hrow hcell fun i row j c h1 h2 => ih i row j c h1 h2 (hcl i row j c h1 h2)
 | junk v => exact .junk v
 | nils => exact .nils
 | sl v b tot i len cap hk hb' ht h => cases hb with | sl _ _ _ _ _ hn => exact .sl v b tot i len cap hk ⟨hb', hn⟩ ht h
 | fz g off s rows cap us hf hrow hcell hv hcap ih =>
  cases hb with
  | fz _ _ hcl => exact .fz g off s rows cap us hf hrow hcell (fun i row j c h1 h2 => ih i row j c h1 h2 (hcl i row j c h1 h2)) hcap
 | fz0 a cap s => exact .fz0 a cap s
 | nilm => exact .nilm
 | map v b hk hb' h hl => cases hb with | map _ hn => exact .map v b hk ⟨hb', hn⟩ h hl
 | fm g es es' cl h1 hg hfl hen hnd hcl => exact .fm g es es' cl h1 hg hfl hen hnd hcl
 | iter v b hk hb' h hl => cases hb with | iter _ hn => exact .iter v b hk ⟨hb', hn⟩ h hl
 | nilf => exact .nilf
 | func fn fs cs fs' cs' hf hc' _ _ ih1 ih2 =>
  cases hb with
  | func _ _ _ c1 c2 => exact .func fn fs cs fs' cs' hf hc' (fun j v c h1 h2 => ih1 j v c h1 h2 (c1 j c h2)) fun j v c h1 h2 => ih2 j v c h1 h2 (c2 j c h2)
 | agg vs cs hl _ ih => cases hb with | agg _ c2 => exact .agg vs cs hl fun j v c h1 h2 => ih j v c h1 h2 (c2 j c h2)
 | tup vs cs hl _ ih => cases hb with | tup _ c2 => exact .tup vs cs hl fun j v c h1 h2 => ih j v c h1 h2 (c2 j c h2)
 | opt g v c h1 h0 ih => cases hb with | opt _ _ hc => exact .opt g v c (fun hg => ih hg hc) h0
theorem eget_bl {n t : Nat} {l : List (Nat × IV)} {c : IV} (h : ∀ p ∈ l, Bl n p.2) (hc : eget l t = some c) : Bl n c := by
 induction l with
 | nil => simp [eget] at hc
 | cons p l ih =>
  obtain ⟨k, v⟩ := p
  simp only [eget] at hc
  cases hk : (k == t) with
  | true => rw [hk] at hc; simp only [cond_true, Option.some.injEq] at hc; subst hc; exact h (k, v) (by simp)
  | false => rw [hk] at hc; exact ih (fun p hp => h p (by simp [hp])) hc
theorem EnBl.get {n t : Nat} {e : Env} {c : IV} (h : ∀ p ∈ e.nm, Bl n p.2) (h' : ∀ p ∈ e.tm, Bl n p.2) (hc : e.get t = some c) : Bl n c := by
 unfold Env.get at hc
 cases hn : isNamed e.m e.ex t with
 | true => rw [hn] at hc; exact eget_bl h hc
 | false => rw [hn] at hc; exact eget_bl h' hc
def fgt : Heap → Heap → Prop
 | [], _ => True
 | o :: l, o' :: l' => (o = .dead ∨ o = o') ∧ fgt l l'
 | _ :: _, [] => False
theorem fgt_get : ∀ {σ0 σ : Heap}, fgt σ0 σ → ∀ (b : Nat) (o : IObj), σ0[b]? = some o → b < σ.length ∧ (o = .dead ∨ σ[b]? = some o)
 | [], _, _, b, o, h => by simp at h
 | x :: l, x' :: l', hf, b, o, h => by
  cases b with
  | zero => simp at h; subst h; exact ⟨by simp, hf.1.imp _root_.id fun e => by simp [e]⟩
  | succ b =>
   obtain ⟨h1, h2⟩ := fgt_get hf.2 b o (by simpa using h)
   exact ⟨by simpa using h1, h2.imp _root_.id fun e => by simpa using e⟩
 | _ :: _, [], hf, _, _, _ => hf.elim
theorem fgt_refl : ∀ (σ : Heap), fgt σ σ
 | [] => trivial
 | _ :: l => ⟨.inr rfl, fgt_refl l⟩
theorem fgt_append : ∀ (σ τ : Heap), fgt σ (σ ++ τ)
 | [], _ => trivial
 | _ :: l, τ => ⟨.inr rfl, fgt_append l τ⟩
theorem HR.cut {σ0 : Heap} (hH : HR μ F σ w) (hp : fgt σ0 σ) (hb : HeBl σ0.length σ0) : HR (μ.cut σ0.length) F σ0 w := by
 have get := fgt_get hp
 refine ⟨fun b hu => ?_, fun b o ho => ?_, fun b b' g off off' h1 h2 => hH.inj b b' g off off' h1.1 h2.1, fun b g off h1 => hH.fro b g off h1.1, fun b g off h1 => hH.lt b g off h1.1, hH.flt, fun b b' l r r' e e' h1 h2 => ?_, fun x b es cur todo o h1 h2 => ?_⟩
 ·obtain ⟨o, h1, h2⟩ := hH.n b hu.1
  have e1 : σ0[b]? = some (σ0[b]'hu.2) := List.getElem?_eq_getElem hu.2
  refine ⟨_, e1, ?_⟩
  rcases (get b _ e1).2 with h | h
  ·rw [h]; rfl
  ·rw [h] at h1; cases h1; exact h2
 ·have hlt := (List.getElem?_eq_some_iff.1 ho).1
  have hmem : o ∈ σ0 := List.mem_of_getElem? ho
  rcases (get b o ho).2 with rfl | ho'
  ·trivial
  have := hH.obj b o ho'
  have hob := hb o hmem
  cases o with
  | rows s rs =>
   obtain ⟨h1, h2, h3, h4, h5, h6⟩ := this
   refine ⟨⟨h1, hlt⟩, h2, h3, h4, h5, h6.imp (fun h => h) ?_⟩
   rintro ⟨g, off, cs, T, q1, q2, q3, q4, q5⟩
   exact ⟨g, off, cs, T, q1, q2, q3, q4, fun i row j c r1 r2 => let ⟨v, v1, v2⟩ := q5 i row j c r1 r2; ⟨v, v1, Bl.vr v2 (hob row (List.mem_of_getElem? r1) c (List.mem_of_getElem? r2))⟩⟩
  | map es =>
   obtain ⟨h1, h2, g, es', cl, q1, q2, q3, q4⟩ := this
   exact ⟨⟨h1, hlt⟩, h2, g, es', cl, q1, q2, ⟨q3.1, fun j e p r1 r2 => let ⟨v1, v2⟩ := q3.2 j e p r1 r2; let hp := hob p (List.mem_of_getElem? r2); ⟨Bl.vr v1 hp.1, Bl.vr v2 hp.2⟩⟩, q4⟩
  | iter b' es cur todo =>
   obtain ⟨h1, h2, g, h3, h4⟩ := this
   refine ⟨⟨h1, hlt⟩, h2, g, h3, ?_⟩
   cases b' with
   | none => exact h4
   | some b' =>
    obtain ⟨k1, k2, gm, es', cl, since, seen, q1, q2, q3, q4, q5, q6, q7, q8, q9⟩ := h4
    have ent : ∀ {es' : List MapEntry} {es : List (IV × IV)}, (∀ e ∈ es, Bl σ0.length e.1 ∧ Bl σ0.length e.2) → EntsR μ F w es' es → EntsR (μ.cut σ0.length) F w es' es := fun hb h =>
     ⟨h.1, fun j e p r1 r2 => let ⟨v1, v2⟩ := h.2 j e p r1 r2; let hp := hb p (List.mem_of_getElem? r2); ⟨Bl.vr v1 hp.1, Bl.vr v2 hp.2⟩⟩
    exact ⟨⟨k1, hob.1 b' rfl⟩, k2, gm, es', cl, since, seen, q1, q2, q3, q4, q5, q6, ent hob.2.1 q7, ent hob.2.2.1 q8, fun kv e => let ⟨x, x1, x2, x3, x4⟩ := q9 kv e; let hc := hob.2.2.2 kv e; ⟨x, x1, x2, Bl.vr x3 hc.1, Bl.vr x4 hc.2⟩⟩
  | yrec l r e =>
   obtain ⟨h1, h2, h3, h4, h5⟩ := this
   exact ⟨fun hu => h1 hu.1, h2, fun b' off hu => h3 b' off hu.1, h4, ⟨h5.size, fun t c hc => let ⟨v, v1, v2⟩ := h5.slot t c hc; ⟨v, v1, Bl.vr v2 (EnBl.get hob.1 hob.2.1 hc)⟩, fun g c hc => Bl.vr (h5.glob g c hc) (eget_bl hob.2.2 hc)⟩⟩
  | dead => trivial
  | hole => trivial
 ·have key : ∀ (z : Nat) (r : Loop) (e : Env), σ0[z]? = some (.yrec l r e) → σ[z]? = some (.yrec l r e) := fun z r e h => (get z _ h).2.resolve_left (by intro h; cases h)
  exact hH.yin b b' l r r' e e' (key _ _ _ h1) (key _ _ _ h2)
 ·have h3 := (get x _ h1).2.resolve_left (by intro h; cases h)
  rcases (get b o h2).2 with h4 | h4
  ·exact h4
  ·exact hH.itd x b es cur todo o h3 h4
def blS (e : Env) (σ : Heap) : Prop := EnBl σ.length e.nm ∧ EnBl σ.length e.gl ∧ HeBl σ.length σ
theorem forget_sound {σ0 : Heap} {e e0 : Env} {t : Array Value} (hE : EnvR μ F w t e) (hH : HR μ F σ w) (hs : e0.subE e) (hf : fgt σ0 σ) (hb : blS e0 σ0) : EnvR (μ.cut σ0.length) F w t e0 ∧ HR (μ.cut σ0.length) F σ0 w := by
 have hE' := hE.sub hs.sub
 refine ⟨⟨hE'.size, fun t c hc => ?_, fun g c hc => Bl.vr (hE'.glob g c hc) (eget_bl hb.2.1 hc)⟩, hH.cut hf hb.2.2⟩
 obtain ⟨v, v1, v2⟩ := hE'.slot t c hc
 refine ⟨v, v1, Bl.vr v2 ?_⟩
 unfold Env.get at hc
 cases hn : isNamed e0.m e0.ex t with
 | true => rw [hn] at hc; exact eget_bl hb.1 hc
 | false => rw [hn, hs.1] at hc; simp [eget] at hc
theorem Mu.cut_ext {n : Nat} {μ' : Mu} {F' : Fz} {w' : World} (hH : HR μ F σ w) (hX : Ext μ F w μ' F' w') (hn : σ.length ≤ n) : Ext μ F w (μ'.cut n) F' w' := by
 refine ⟨fun b hu => ?_, hX.fr, hX.fu, hX.same, hX.size, hX.os, hX.tape, hX.output, hX.new⟩
 obtain ⟨q1, q2⟩ := hX.mu b hu
 obtain ⟨o, o1, _⟩ := hH.n b hu
 have := (List.getElem?_eq_some_iff.1 o1).1
 exact ⟨⟨q1, by omega⟩, q2⟩
theorem IWp.loopT {c : Code} {e : Env} {α : Type} (st : α → Env × Heap) (inv : α → Prop) (me : α → Nat) (a₀ : α) (h0 : inv a₀) (hs : (st a₀).1.subE e ∧ fgt (st a₀).2 σ ∧ σ.length ≤ (st a₀).2.length ∧ blS (st a₀).1 (st a₀).2)
  (round : ∀ x, inv x → yC P c (thenQ (fun e' σ' => ∃ y, ((st y).1.subE e' ∧ fgt (st y).2 σ' ∧ σ.length ≤ (st y).2.length ∧ blS (st y).1 (st y).2) ∧ inv y ∧ me y < me x) Q) (st x).1 (st x).2) : IWp P (.loop c) Q e σ := fun ro μ F a w hR hE hH => by
 refine wpIn_loop_ghost (fun n a' w' => ∃ x μ' F', me x = n ∧ inv x ∧ EnvR μ' F' w' a'.tmps (st x).1 ∧ HR μ' F' (st x).2 w' ∧ Ext μ F w μ' F' w' ∧ Marks w F' w' a.defers a'.defers) (me a₀)
  ⟨a₀, _, F, rfl, h0, (forget_sound hE hH hs.1 hs.2.1 hs.2.2.2).1, (forget_sound hE hH hs.1 hs.2.1 hs.2.2.2).2, Mu.cut_ext hH (Ext.refl _ _ _) hs.2.2.1, .refl rfl⟩ ?_
 rintro n a' w' ⟨x, μ', F', rfl, hok, hE', hH', hX, hd⟩
 refine wpIn_mono (yC_sound _ _ _ _ (round x hok) ro μ' F' a' w' (hR.ext hX) hE' hH') ?_
 rintro ex a'' w'' ⟨xe, e'', σ'', μ'', F'', h1, h2, h3, h4, h5, h6⟩
 have h6' := hd.trans h6 hH' hX.size h5
 cases xe with
 | normal =>
  cases ex <;> simp only [XExit.rel] at h1
  obtain ⟨y, ⟨hsub, hpre, hb0, hbl⟩, hy, hlt⟩ := h2
  obtain ⟨k1, k2⟩ := forget_sound h3 h4 hsub hpre hbl
  exact ⟨me y, hlt, y, _, F'', rfl, hy, k1, k2, Mu.cut_ext hH (hX.trans h5) hb0, h6'⟩
 | exit i => cases ex <;> simp only [XExit.rel] at h1; exact ⟨.exit i, e'', σ'', μ'', F'', h1, h2, h3, h4, hX.trans h5, h6'⟩
 | ret => cases ex <;> simp only [XExit.rel] at h1; exact ⟨.ret, e'', σ'', μ'', F'', trivial, h2, h3, h4, hX.trans h5, h6'⟩
theorem IFun.of_body {own : Bool} {gl : List (Nat × IV)} {f : FuncId} {fn : Func} {c : Code} {args : List IV} {V : IV → Prop} (x : Bool) (m : Nat) (ex : List Nat) (hf : P.funcs[f]? = some fn) (hb : fn.body = some c)
  (hcall : ∀ (args : Array Value) (w : World), (callFunc f args).run P w = .ok (.enter f args) w) (hn : Nat.ble args.length fn.ntmps = true)
  (h : ∀ R : IV → Heap → Prop, (∀ r σ v, Fr (!own) σ r v → V v → R r σ) → yC P c (retQ P fn.results.toList R) ⟨x, fn.ntmps, m, ex, gl, enum 0 args, []⟩ []) : IFun own P gl f args V :=
 ICalls.of_body x m ex hf hb hcall hn (yC_sound _ _ _ _ (h _ fun _ _ v h1 h2 => ⟨v, h1, h2⟩))
end
end Go.Idl
namespace Go.Idl
theorem wrap64 {n : Int} (h1 : -9223372036854775808 ≤ n) (h2 : n < 9223372036854775808) : IntKind.i64.wrap n = n := by
 simp [IntKind.wrap, IntKind.bits, IntKind.signed]
 omega
end Go.Idl
namespace Go.Idl
open Go.RowKit
def Fz.all (w : World) : Fz := ⟨fun g => g < w.heap.size, fun g => g < w.heap.size, fun _ h => h⟩
theorem IFun.law {own : Bool} {P : Program} {f : FuncId} {args : List IV} {vs : List Value} {w : World} (h : IFun own P [] f args (fun v => v = .bool true)) (hv : VRs Mu.none (Fz.all w) w vs args) :
  Calls P f vs.toArray w fun e w' => e = .returned (.bool true) ∧ Below w.heap.size w w' := by
 refine (h.2 Mu.none (Fz.all w) w vs (HR.empty fun g h => h) hv (fun g c hc => by simp [eget] at hc)).mono ?_
 rintro e w' ⟨v, r, σ', μ1, F2, rfl, ⟨v', hfr, rfl⟩, hvr, hH1, hX⟩
 have hr : r = .bool true := by cases hfr <;> rfl
 subst hr
 cases hvr
 exact ⟨rfl, ⟨hX.os, hX.tape, hX.output.o, hX.size, fun g hg => hX.same g hg⟩⟩
theorem vr_in {w : World} {b off len cap s : Nat} {rows : List (List IV)} (us : Nat → Nat → Value) (hl : rows.length = len) (hcap : len ≤ cap) (hs : 0 < s) (hrow : ∀ (i : Nat) (row : List IV), rows[i]? = some row → row.length = s)
  (hcell : ∀ (i j : Nat), i < len → j < s → w.cell? ⟨b, off + i * s + j, none⟩ = some (us i j)) (hv : ∀ (i : Nat) (row : List IV) (j : Nat) (c : IV), rows[i]? = some row → row[j]? = some c → VR Mu.none (Fz.all w) w (us i j) c) :
  VR Mu.none (Fz.all w) w (.slice (some ⟨b, off, none⟩) len cap) (.fz s rows) := by
 by_cases h0 : len = 0
 ·have : rows = [] := List.eq_nil_of_length_eq_zero (by omega)
  subst this; subst h0
  exact .fz0 _ _ _
 ·have hb : b < w.heap.size := by
   have := hcell 0 0 (by omega) hs
   unfold World.cell? at this
   cases hh : w.heap[b]? with
   | none => simp [hh] at this
   | some o => exact (Array.getElem?_eq_some_iff.1 hh).1
  have := VR.fz (μ := Mu.none) (F := Fz.all w) (w := w) b off s rows cap us hb hrow (fun i row j hi hj => hcell i j (by have := (List.getElem?_eq_some_iff.1 hi).1; omega) hj) hv (by omega)
  rw [hl] at this
  exact this
theorem IFun.callM {own : Bool} {P : Program} {gl : List (Nat × IV)} {f : FuncId} {args : List IV} {V : IV → Prop} {σ : Heap} {K : IV → Heap → Prop} (h : IFun own P gl f args V) (ha : ∀ c ∈ args, Cl c) (hK : ∀ v, V v → K v σ) (hg : glCl gl := by first | exact trivial | simp [go_sem]) : ICalls P gl f args σ K :=
 h.callC (fun _ _ e => ha _ (List.mem_of_getElem? e)) (glCl_get hg) hK
end Go.Idl
namespace Go.Idl
open Go.RowKit
section
variable {P : Program} {μ : Mu} {F : Fz} {w : World} {σ : Heap} {Q : XPost}
structure Pokes (w : World) (l : Nat) (w' : World) : Prop where
 size : w'.heap.size = w.heap.size
 os : w'.os = w.os
 tape : w'.tape = w.tape
 output : OutD w' w
 same : ∀ g, g ≠ l → w'.heap[g]? = w.heap[g]?
theorem Pokes.refl (w : World) (l : Nat) : Pokes w l w := ⟨rfl, rfl, rfl, ⟨rfl, Nat.le_refl _⟩, fun _ _ => rfl⟩
theorem Pokes.put (w : World) (l : Nat) (o : Obj) : Pokes w l (w.putObj l o) := ⟨World.putObj_size, rfl, rfl, ⟨rfl, Nat.le_refl _⟩, fun _ h => World.putObj_heap_other h⟩
theorem Pokes.vr {w' : World} {l : Nat} (h : Pokes w l w') (hl : ¬ F.f l) {v : Value} {c : IV} (hv : VR μ F w v c) : VR μ F w' v c :=
 hv.mono (Mu.le_refl _) (fun _ h => h) fun g hg => h.same g fun e => hl (e ▸ hg)
theorem Pokes.env {w' : World} {l : Nat} (h : Pokes w l w') (hl : ¬ F.f l) {t : Array Value} {e : Env} (hE : EnvR μ F w t e) : EnvR μ F w' t e :=
 ⟨hE.size, fun t c hc => let ⟨v, v1, v2⟩ := hE.slot t c hc; ⟨v, v1, h.vr hl v2⟩, fun g c hc => h.vr hl (hE.glob g c hc)⟩
def Fz.plus (F : Fz) (l : Nat) : Fz := ⟨F.f, fun g => F.u g ∨ g = l, fun g h => .inl (F.sub g h)⟩
theorem Fz.plus_vr {l : Nat} {v : Value} {c : IV} (hv : VR μ F w v c) : VR μ (F.plus l) w v c := hv.mono (F := F) (F' := F.plus l) (Mu.le_refl _) (fun _ h => h) fun _ _ => rfl
theorem Fz.plus_env {l : Nat} {t : Array Value} {e : Env} (hE : EnvR μ F w t e) : EnvR μ (F.plus l) w t e :=
 ⟨hE.size, fun t c hc => let ⟨v, v1, v2⟩ := hE.slot t c hc; ⟨v, v1, Fz.plus_vr v2⟩, fun g c hc => Fz.plus_vr (hE.glob g c hc)⟩
theorem HR.poke {l : Nat} {w' : World} (hH : HR μ F σ w) (hu : F.u l) (hf : ¬ F.f l) (hp : Pokes w l w') : HR μ F σ w' := by
 refine ⟨hH.n, fun b o ho => ?_, hH.inj, hH.fro, fun b g off h1 h2 => by rw [hp.size]; exact hH.lt b g off h1 h2, fun g hg => by rw [hp.size]; exact hH.flt g hg, hH.yin, hH.itd⟩
 refine (hH.obj b o ho).mono (Mu.le_refl _) (fun _ h => h) (fun g hg => hp.same g fun e => hf (e ▸ hg)) ⟨rfl, rfl, rfl, rfl, id⟩ (fun g off hu' hpl => hp.same g fun e => hH.fro b g off hu' hpl (e ▸ hu)) (fun l' _ _ _ h1 h2 h3 h4 => ⟨h1, h2, h3, hp.same l' fun e => h2 (e ▸ hu)⟩) fun b' _ _ _ _ hu' => ⟨hu', rfl, rfl, fun gm off hpl => hp.same gm fun e => hH.fro b' gm off hu' hpl (e ▸ hu)⟩
theorem HR.strike {b l : Nat} {r : Loop} {e : Env} {o' : IObj} {F' : Fz} {w' : World} (hH : HR μ F σ w) (hb : σ[b]? = some (.yrec l r e)) (ho' : o' = .hole ∨ o' = .dead) (hF : ∀ g, F.f g → F'.f g) (hF' : ∀ g, F'.u g → F.u g ∨ g = l) (hp : Pokes w l w') : HR μ F' (σ.set b o') w' := by
 obtain ⟨y1, y2, y3, y4, y5⟩ := hH.obj b _ hb
 have hlt := (List.getElem?_eq_some_iff.1 hb).1
 have hl := (Array.getElem?_eq_some_iff.1 y4).1
 have hset : ∀ x, x ≠ b → (σ.set b o')[x]? = σ[x]? := fun x hx => List.getElem?_set_ne (Ne.symm hx)
 have hself : (σ.set b o')[b]? = some o' := by simp [hlt]
 have hny : ∀ l r e, o' ≠ .yrec l r e := fun l r e h => by rcases ho' with h' | h' <;> rw [h'] at h <;> cases h
 refine ⟨fun x hx => ?_, fun x o ho => ?_, hH.inj, fun x g off h1 h2 h3 => ?_, fun x g off h1 h2 => by rw [hp.size]; exact hH.lt x g off h1 h2, fun g hg => ?_, fun x y l' r1 r2 e1 e2 hx hy => ?_, fun x y es cur todo o hx hy => ?_⟩
 ·have hne : x ≠ b := fun h => y1 (h ▸ hx)
  rw [hset x hne]; exact hH.n x hx
 ·by_cases hne : x = b
  ·subst hne
   rw [hself] at ho
   simp only [Option.some.injEq] at ho
   subst ho
   rcases ho' with rfl | rfl <;> trivial
  ·rw [hset x hne] at ho
   refine (hH.obj x o ho).mono (Mu.le_refl _) hF (fun g hg => hp.same g fun h => y2 (h ▸ F.sub g hg)) ⟨rfl, rfl, rfl, rfl, id⟩ (fun g off hu' hpl => hp.same g fun h => y3 x off hu' (h ▸ hpl)) (fun l' r' e' ho2 h1 h2 h3 h4 => ?_) fun b' _ _ _ _ hu' => ⟨hu', rfl, rfl, fun gm off hpl => hp.same gm fun h => y3 b' off hu' (h ▸ hpl)⟩
   have hll : l' ≠ l := fun h => by subst h; rw [ho2] at ho; exact hne (hH.yin x b l' r' r e' e ho hb)
   exact ⟨h1, fun h => (hF' l' h).elim h2 hll, h3, hp.same l' hll⟩
 ·rcases hF' g h3 with h | h
  ·exact hH.fro x g off h1 h2 h
  ·exact y3 x off h1 (h ▸ h2)
 ·rw [hp.size]
  rcases hF' g hg with h | h
  ·exact hH.flt g h
  ·omega
 ·have hne : ∀ z r e, (σ.set b o')[z]? = some (.yrec l' r e) → z ≠ b := fun z r e hz h => by
   subst h; rw [hself] at hz; simp only [Option.some.injEq] at hz; exact hny _ _ _ hz
  rw [hset x (hne x _ _ hx)] at hx
  rw [hset y (hne y _ _ hy)] at hy
  exact hH.yin x y l' r1 r2 e1 e2 hx hy
 ·have hxb : x ≠ b := fun h => by subst h; rw [hself] at hx; simp only [Option.some.injEq] at hx; rcases ho' with h' | h' <;> rw [h'] at hx <;> cases hx
  rw [hset x hxb] at hx
  have hyb : y ≠ b := fun h => by
   subst h
   obtain ⟨_, _, _, _, q⟩ := hH.obj x _ hx
   exact y1 q.1
  rw [hset y hyb] at hy
  exact hH.itd x y es cur todo o hx hy
theorem HR.fill {b l : Nat} {r : Loop} {e : Env} (hH : HR μ F σ w) (hb : σ[b]? = some .hole) (h2 : ¬ F.u l) (h3 : ∀ b' off, μ.u b' → μ.pl b' ≠ .at_ l off) (h4 : w.heap[l]? = some (.loop r)) (h5 : EnvR μ F w r.tmps e)
  (hn : ∀ (b' : Nat) (r' : Loop) (e' : Env), σ[b']? ≠ some (.yrec l r' e')) : HR μ F (σ.set b (.yrec l r e)) w := by
 have hlt := (List.getElem?_eq_some_iff.1 hb).1
 have hset : ∀ x, x ≠ b → (σ.set b (.yrec l r e))[x]? = σ[x]? := fun x hx => List.getElem?_set_ne (Ne.symm hx)
 have hself : (σ.set b (.yrec l r e))[b]? = some (.yrec l r e) := by simp [hlt]
 have hnu : ¬ μ.u b := fun hu => by obtain ⟨o, o1, o2⟩ := hH.n b hu; rw [hb] at o1; cases o1; cases o2
 refine ⟨fun x hx => ?_, fun x o ho => ?_, hH.inj, hH.fro, hH.lt, hH.flt, fun x y l' r1 r2 e1 e2 hx hy => ?_, fun x y es cur todo o hx hy => ?_⟩
 ·rw [hset x fun h => hnu (h ▸ hx)]; exact hH.n x hx
 ·by_cases hne : x = b
  ·subst hne
   rw [hself] at ho
   simp only [Option.some.injEq] at ho
   subst ho
   exact ⟨hnu, h2, h3, h4, h5⟩
  ·rw [hset x hne] at ho; exact hH.obj x o ho
 ·by_cases hxb : x = b
  ·by_cases hyb : y = b
   ·rw [hxb, hyb]
   ·subst hxb
    rw [hself] at hx; cases hx
    rw [hset y hyb] at hy
    exact absurd hy (hn y r2 e2)
  ·rw [hset x hxb] at hx
   by_cases hyb : y = b
   ·subst hyb
    rw [hself] at hy; cases hy
    exact absurd hx (hn x r1 e1)
   ·rw [hset y hyb] at hy
    exact hH.yin x y l' r1 r2 e1 e2 hx hy
 ·have hxb : x ≠ b := fun h => by subst h; rw [hself] at hx; cases hx
  rw [hset x hxb] at hx
  have hyb : y ≠ b := fun h => by
   subst h
   obtain ⟨_, _, _, _, q⟩ := hH.obj x _ hx
   exact hnu q.1
  rw [hset y hyb] at hy
  exact hH.itd x y es cur todo o hx hy
def Env.puts (e : Env) : List Tmp → List IV → Env
 | p :: ps, c :: cs => (e.put p c).puts ps cs
 | _, _ => e
theorem EnvR.puts : ∀ (ps : List Tmp) (vs : List Value) (cs : List IV) {t : Array Value} {e : Env}, EnvR μ F w t e → VRs μ F w vs cs → vs.length = ps.length →
  EnvR μ F w ((ps.zip vs).foldl (fun t (p, v) => t.setIfInBounds p v) t) (e.puts ps cs)
 | [], vs, cs, t, e, hE, _, _ => by simpa [Env.puts] using hE
 | p :: ps, [], cs, t, e, hE, _, hl => by simp at hl
 | p :: ps, v :: vs, [], t, e, hE, hv, hl => by have := hv.1; simp at this
 | p :: ps, v :: vs, c :: cs, t, e, hE, hv, hl => by
  simp only [List.zip_cons_cons, List.foldl_cons, Env.puts]
  exact EnvR.puts ps vs cs (hE.put p (hv.2 0 v c rfl rfl)) ⟨by have := hv.1; simpa using this, fun j v c h1 h2 => hv.2 (j + 1) v c (by simpa using h1) (by simpa using h2)⟩ (by simpa using hl)
def roundQ (b l : Nat) (r : Loop) (e : Env) (R : IV → Heap → Prop) : XPost
 | .normal, _, σ => σ[b]? = some .hole ∧ R (.bool true) (σ.set b (.yrec l r e))
 | .exit i, _, σ => σ[b]? = some .hole ∧ R (.bool false) (σ.set b (.yrec l { r with state := .done, pending := some (.exit i) } e))
 | .ret, _, σ => σ[b]? = some .hole ∧ R (.bool false) (σ.set b (.yrec l { r with state := .done, pending := some .ret } e))
def noQ : XPost := fun _ _ _ => False
theorem YCalls.round {gl : List (Nat × IV)} {l : Nat} {args : List IV} {R : IV → Heap → Prop} {b : Nat} {r : Loop} {e : Env} (hσ : σ[b]? = some (.yrec l r e)) (hst : r.state = .ready) (hpe : r.pending = none) (hlen : args.length = r.params.size)
  (h : IWp P r.assign (thenQ (IWp P r.body (roundQ b l r e R)) noQ) (e.puts r.params.toList args) (σ.set b .hole)) : YCalls P gl l args σ R := by
 intro μ F w vs hH hv hgl
 obtain ⟨y1, y2, y3, y4, y5⟩ := hH.obj b _ hσ
 have hl := (Array.getElem?_eq_some_iff.1 y4).1
 refine ⟨r.fn, _, r.assign, r.body, run_yield y4 (by simpa using hv.1.trans hlen), ?_⟩
 refine roundIn_of_wpIn (F := Rd none) trivial ?_
 have hH0 : HR μ (F.plus l) (σ.set b .hole) w := hH.strike hσ (.inl rfl) (fun _ h => h) (fun _ h => h) (Pokes.refl w l)
 have hE0 : EnvR μ (F.plus l) w ((r.params.zip vs.toArray).foldl (fun tmps (t, a) => tmps.setIfInBounds t a) r.tmps) (e.puts r.params.toList args) := by
  have := EnvR.puts r.params.toList vs args (Fz.plus_env (l := l) y5) ⟨hv.1, fun j v c h1 h2 => Fz.plus_vr (hv.2 j v c h1 h2)⟩ (by simpa using hv.1.trans hlen)
  rw [← Array.foldl_toList, Array.toList_zip]
  exact this
 refine wpIn_mono (h (some l) μ (F.plus l) ⟨_, []⟩ w ⟨.inr rfl, r, y4⟩ hE0 hH0) ?_
 rintro ex a1 w1 ⟨xe, e1, σ1, μ1, F1, k1, k2, k3, k4, k5, k6⟩
 cases xe with
 | exit i => exact k2.elim
 | ret => exact k2.elim
 | normal =>
  cases ex <;> simp only [XExit.rel] at k1
  have hl1 : w1.heap[l]? = some (.loop r) := (k5.same l (.inr rfl)).trans y4
  have hu1 : F1.u l := k5.fu l (.inr rfl)
  have hf1 : ¬ F1.f l := fun h => (k5.new l h).elim (fun h => y2 (F.sub l h)) fun h => h (.inr rfl)
  refine ⟨_, run_beginRound hl1 hst, ?_⟩
  have hp := Pokes.put w1 l (.loop { r with state := .busy })
  have hlt1 := (Array.getElem?_eq_some_iff.1 hl1).1
  have hl2 : (w1.putObj l (.loop { r with state := .busy })).heap[l]? = some (.loop { r with state := .busy }) := World.putObj_heap_same hlt1
  have k2 : IWp P r.body (roundQ b l r e R) e1 σ1 := k2
  have hX2 : Ext μ (F.plus l) w μ1 F1 w1 := k5
  refine wpIn_mono (k2 (some l) μ1 F1 a1 _ ⟨hu1, _, hl2⟩ (hp.env hf1 k3) (k4.poke hu1 hf1 hp)) ?_
  rintro ex a2 w2 ⟨xe, e2, σ2, μ2, F2, q1, q2, q3, q4, q5, q6⟩
  have hl3 : w2.heap[l]? = some (.loop { r with state := .busy }) := (q5.same l hu1).trans hl2
  have hlt3 := (Array.getElem?_eq_some_iff.1 hl3).1
  have hpl : (w1.putObj l (.loop { r with state := .busy })).heap.size = w1.heap.size := World.putObj_size
  have fin : ∀ (ok : Bool) (r' : Loop), r'.tmps = r.tmps → σ2[b]? = some .hole → R (.bool ok) (σ2.set b (.yrec l r' e)) →
    ∃ v r σ' μ' F', Ending.returned (.bool ok) = .returned v ∧ R r σ' ∧ VR μ' F' (w2.putObj l (.loop r')) v r ∧ HR μ' F' σ' (w2.putObj l (.loop r')) ∧ Ext μ F w μ' F' (w2.putObj l (.loop r')) := by
   intro ok r' hr' hhole hR
   have hu2 : F2.u l := q5.fu l hu1
   have hf2 : ¬ F2.f l := fun h => (q5.new l h).elim hf1 fun h => h hu1
   have hd : Drops F2 w2 [l] (w2.putObj l (.loop r')) := ⟨World.putObj_size, rfl, rfl, ⟨rfl, Nat.le_refl _⟩, fun g hg => World.putObj_heap_other (by simpa using hg), fun D hD => by simp at hD; subst hD; exact hf2⟩
   have hne : ∀ g, F.u g → g ∉ [l] := fun g hg h => by simp at h; subst h; exact y2 hg
   have hH2 := hd.hr (fun D hD => by simp at hD; subst hD; exact hu2) q4
   have hmono : ∀ {v : Value} {c : IV}, VR μ F w v c → VR μ2 F2 w2 v c := fun hv => q5.vr (hp.vr hf1 (k5.vr (Fz.plus_vr hv)))
   have hE2 : EnvR μ2 F2 w2 r.tmps e := ⟨y5.size, fun t c hc => let ⟨v, v1, v2⟩ := y5.slot t c hc; ⟨v, v1, hmono v2⟩, fun g c hc => hmono (y5.glob g c hc)⟩
   refine ⟨_, .bool ok, _, μ2, F2.less [l], rfl, hR, .bool _, hH2.fill hhole (fun h => h.2 (by simp)) (fun b' off h1 h2 => q4.fro b' l off h1 h2 hu2) (World.putObj_heap_same hlt3) (by rw [hr']; exact hd.env hE2) (fun b' r2 e2 hb' => (q4.obj b' _ hb').2.1 hu2), ?_⟩
   refine ⟨Mu.le_trans k5.mu q5.mu, fun g hg => ⟨q5.fr g (k5.fr g hg), hne g (F.sub g hg)⟩, fun g hg => ⟨q5.fu g (k5.fu g (.inl hg)), hne g hg⟩, fun g hg => ?_, ?_, ?_, ?_, ?_, fun g hg => ?_⟩
   ·have hgl : g ≠ l := fun h => y2 (h ▸ hg)
    exact (hd.same g (hne g hg)).trans ((q5.same g (k5.fu g (.inl hg))).trans ((hp.same g hgl).trans (k5.same g (.inl hg))))
   ·rw [hd.size]; exact Nat.le_trans k5.size (by rw [← hpl]; exact q5.size)
   ·exact hd.os.trans (q5.os.trans (hp.os.trans k5.os))
   ·exact hd.tape.trans (q5.tape.trans (hp.tape.trans k5.tape))
   ·exact hd.output.trans (q5.output.trans (hp.output.trans k5.output))
   ·rcases q5.new g hg.1 with h | h
    ·exact (k5.new g h).imp _root_.id fun h hu => h (.inl hu)
    ·exact .inr fun hu => h (k5.fu g (.inl hu))
  have hrr : ({ r with state := .ready, pending := none } : Loop) = r := by
   obtain ⟨st, pe, _⟩ := r
   simp only at hst hpe
   subst hst; subst hpe; rfl
  cases xe with
  | normal =>
   cases ex <;> simp only [XExit.rel] at q1
   refine ⟨_, _, run_endRound none hl3, ?_⟩
   have := fin true r rfl q2.1 q2.2
   simp only [Option.isNone_none, if_true]
   show ∃ v r σ' μ' F', _
   rw [show ({ r with state := .ready, pending := none } : Loop) = r from hrr]
   exact this
  | exit i =>
   cases ex <;> simp only [XExit.rel] at q1
   subst q1
   exact ⟨_, _, run_endRound _ hl3, fin false _ rfl q2.1 q2.2⟩
  | ret =>
   cases ex <;> simp only [XExit.rel] at q1
   exact ⟨_, _, run_endRound _ hl3, fin false _ rfl q2.1 q2.2⟩
def jumpQ (Q : XPost) (e : Env) (σ : Heap) : Option Code → Prop
 | none => Q .normal e σ
 | some (.exit i) => Q (.exit i) e σ
 | some .ret => Q .ret e σ
 | _ => False
theorem HR.hole (hH : HR μ F σ w) : HR μ F (σ ++ [IObj.hole]) w := by
 have hlt : ∀ (b : Nat) (o : IObj), (σ ++ [IObj.hole])[b]? = some o → σ[b]? = some o ∨ o = IObj.hole := fun b o h => by
  rw [List.getElem?_append] at h
  split at h
  ·exact .inl h
  ·exact .inr (by simpa using List.mem_of_getElem? h)
 refine ⟨fun b hu => ?_, fun b o ho => ?_, hH.inj, hH.fro, hH.lt, hH.flt, fun b b' l r r' e e' h1 h2 => ?_, fun x b es cur todo o h1 h2 => ?_⟩
 ·obtain ⟨o, h1, h2⟩ := hH.n b hu
  exact ⟨o, by rw [List.getElem?_append_left (List.getElem?_eq_some_iff.1 h1).1]; exact h1, h2⟩
 ·rcases hlt b o ho with h | h
  ·exact hH.obj b o h
  ·subst h; trivial
 ·rcases hlt b _ h1 with h1 | h1
  ·rcases hlt b' _ h2 with h2 | h2
   ·exact hH.yin b b' l r r' e e' h1 h2
   ·cases h2
  ·cases h1
 ·rcases hlt x _ h1 with h1 | h1
  ·rcases hlt b _ h2 with h3 | h3
   ·exact hH.itd x b es cur todo o h1 h3
   ·subst h3
    exfalso
    obtain ⟨_, _, _, _, q⟩ := hH.obj x _ h1
    obtain ⟨o2, o3, o4⟩ := hH.n b q.1
    rw [List.getElem?_append_left (List.getElem?_eq_some_iff.1 o3).1, o3] at h2
    cases h2; cases o4
  ·cases h1
theorem IWp.rangeFunc {f : Operand} {ps : Array Tmp} {as body : Code} {e : Env} {g : FuncId} {cap : List IV} (hf : e.opS f = some (.func (.func g) [] cap)) (hw : e.wh f = true)
  (h : ∀ (l : Nat) (r : Loop), r.state = .ready → r.pending = none → r.params = ps → r.assign = as → r.body = body →
   ICalls P e.gl g (.func (.yield l) [] [] :: cap) (σ ++ [.yrec l r e]) fun _ σ' => ∃ r', σ'[σ.length]? = some (.yrec l r' e) ∧ r'.state ≠ .busy ∧ jumpQ Q e (σ'.set σ.length .dead) r'.pending) : IWp P (.rangeFunc f ps as body) Q e σ := by
 intro ro μ F a w hR hE hH
 refine wpIn_rangeFunc fun fn hfn => ?_
 have hv := opS_vr hE hf hw
 generalize hev : a.eval f = fv at hv
 cases hv with
 | func _ fs cs _ _ hfs hcs _ hcv =>
  obtain rfl := List.eq_nil_of_length_eq_zero hfs
  have key : ∀ (l : Nat) (r : Loop) (ms : List Nat) (W1 : World), r.state = .ready → r.pending = none → r.params = ps → r.assign = as → r.body = body → r.tmps = a.tmps → W1.heap[l]? = some (.loop r) → (∀ g, g < w.heap.size → W1.heap[g]? = w.heap[g]?) → w.heap.size ≤ l → w.heap.size ≤ W1.heap.size → W1.os = w.os → W1.tape = w.tape → OutD W1 w → ms.Nodup →
    (∀ D ∈ ms, w.heap.size ≤ D ∧ D ≠ l ∧ W1.heap[D]? = some (.deferred (some []))) → ∃ (d : Deferred) (w₁' : World) (f' : FuncId) (args : Array Value) (w₂ : World),
     (resolve a.eval (rangeCall f l) 0).run P W1 = .ok d w₁' ∧ (∀ f'', Target.leads P w₁' d.target d.args = some f'' → (Rd ro).fn f'') ∧ (invoke d.target d.args).run P w₁' = .ok (.enter f' args) w₂ ∧ ((Rd ro).depth.isSome = true → 1 ≤ 0) ∧
     CallsIn (Rd ro) (0 - 1) P f' args w₂ (rangePost (Rd ro) 0 P l (IPost Q μ F a w) { a with defers := ms.map markOf ++ a.defers }) := by
   intro l r ms W1 r1 r2 r3 r4 r5 r6 hl hsame hle hsz hos htape hout hnd hms
   have hcalls := h l r r1 r2 r3 r4 r5
   refine ⟨{ target := .fn (.func g) cs.toArray, args := #[.func (.yield l) #[] #[]] }, W1, g, (.func (.yield l) #[] #[] :: cs : List Value).toArray, W1, ?_, fun _ _ => trivial, ?_, fun h => by simp [Rd, Fence.wide] at h, ?_⟩
   ·simp only [resolve, hev]
    simp [go_sem]
   ·have := hcalls.1 (.func (.yield l) #[] #[] :: cs : List Value).toArray W1
    simp only [invoke]
    rw [← this]
    congr 2
    apply Array.ext'
    simp
   ·let F1 : Fz := ⟨F.f, fun g => F.u g ∨ g ∈ ms, fun g h => .inl (F.sub g h)⟩
    have hX1 : ∀ {v : Value} {c : IV}, VR μ F w v c → VR μ F1 W1 v c := fun hv => hv.mono (F := F) (F' := F1) (Mu.le_refl _) (fun _ h => h) fun g hg => hsame g (hH.flt g (F.sub g hg))
    have hE1 : EnvR μ F1 W1 a.tmps e := ⟨hE.size, fun t c hc => let ⟨v, v1, v2⟩ := hE.slot t c hc; ⟨v, v1, hX1 v2⟩, fun g c hc => hX1 (hE.glob g c hc)⟩
    have hH1 : HR μ F1 σ W1 := hH.frame (F' := F1) (fun _ h => h) hsame hsz (fun g hg hnu hu => hu.elim hnu fun hm => by have := (hms g hm).1; omega) fun g hu => hu.elim (fun hu => Nat.lt_of_lt_of_le (hH.flt g hu) hsz) fun hm => (Array.getElem?_eq_some_iff.1 (hms g hm).2.2).1
    have hH2 : HR μ F1 (σ ++ [.yrec l r e]) W1 := by
     have := hH1.hole.fill (b := σ.length) (l := l) (r := r) (e := e) (by simp) (fun hu => hu.elim (fun hu => by have := hH.flt l hu; omega) fun hm => (hms l hm).2.1 rfl) (fun b' off hu hp => by have := hH.lt b' l off hu hp; omega) hl (by rw [r6]; exact hE1) (fun b' r' e' hb' => by
      rw [List.getElem?_append] at hb'
      split at hb'
      ·have h4 := (hH.obj b' _ hb').2.2.2.1
       have := (Array.getElem?_eq_some_iff.1 h4).1
       omega
      ·have := List.mem_of_getElem? hb'
       simp at this)
     rwa [List.set_append_right _ _ (Nat.le_refl _), Nat.sub_self] at this
    refine (callsIn_wide (n := 0 - 1)).2 ((hcalls.2 μ F1 W1 (.func (.yield l) #[] #[] :: cs) hH2 ⟨by simp [hcs], fun j v c h1 h2 => ?_⟩ fun g c hc => hX1 (hE.glob g c hc)).mono ?_)
    ·cases j with
     | zero => simp at h1 h2; subst h1; subst h2; exact .func (.yield l) [] [] [] [] rfl rfl (by simp) (by simp)
     | succ j => exact hX1 (hcv j v c (by simpa using h1) (by simpa using h2))
    rintro en w3 ⟨v, rv, σ', μ', F', rfl, ⟨r', hb, hst, hj⟩, hvr, hH', hX⟩
    obtain ⟨y1, y2, y3, y4, y5⟩ := hH'.obj _ _ hb
    have hp := Pokes.put w3 l (.loop { r' with state := .exhausted })
    have hH4 := hH'.strike (o' := .dead) hb (.inr rfl) (F' := F') (fun _ h => h) (fun _ h => .inl h) hp
    have hfl : ¬ F'.f l := fun h => y2 (F'.sub l h)
    have hE4 : EnvR μ' F' (w3.putObj l (.loop { r' with state := .exhausted })) a.tmps e := hp.env hfl (hX.env hE1)
    have hX4 : Ext μ F w μ' F' (w3.putObj l (.loop { r' with state := .exhausted })) := by
     refine ⟨hX.mu, fun g hg => hX.fr g hg, fun g hg => hX.fu g (.inl hg), fun g hg => ?_, ?_, hp.os.trans (hX.os.trans hos), hp.tape.trans (hX.tape.trans htape), hp.output.trans (hX.output.trans hout), fun g hg => (hX.new g hg).imp _root_.id fun h hu => h (.inl hu)⟩
     ·have := hH.flt g hg
      exact (hp.same g (by omega)).trans ((hX.same g (.inl hg)).trans (hsame g this))
     ·rw [hp.size]; exact Nat.le_trans hsz hX.size
    have hM : Marks w F' (w3.putObj l (.loop { r' with state := .exhausted })) a.defers (ms.map markOf ++ a.defers) := by
     refine ⟨ms, rfl, hnd, fun D hD => ?_⟩
     obtain ⟨q1, q2, q3⟩ := hms D hD
     refine ⟨q1, hX.fu D (.inr hD), fun hf => ?_, (hp.same D q2).trans ((hX.same D (.inr hD)).trans q3)⟩
     rcases hX.new D hf with h | h
     ·have := hH.flt D (F.sub D h); omega
     ·exact h (.inr hD)
    refine ⟨_, _, run_endLoop y4 hst, ?_⟩
    generalize w3.putObj l (.loop { r' with state := .exhausted }) = w4 at hE4 hH4 hX4 hM ⊢
    cases hpe : r'.pending with
    | none => rw [hpe] at hj; exact ⟨.normal, e, _, μ', F', trivial, hj, hE4, hH4, hX4, hM⟩
    | some c =>
     rw [hpe] at hj
     simp only
     cases c <;> simp only [jumpQ] at hj
     case exit i => exact wpIn_exit ⟨.exit i, e, _, μ', F', rfl, hj, hE4, hH4, hX4, hM⟩
     case ret => exact wpIn_ret ⟨.ret, e, _, μ', F', trivial, hj, hE4, hH4, hX4, hM⟩
  cases ro with
  | none =>
   have hsz : (w.alloc (.deferred (some []))).heap.size = w.heap.size + 1 := by simp
   obtain ⟨d, w₁', f', args, w₂, k⟩ := key (w.heap.size + 1) { state := .ready, pending := none, fn, tmps := a.tmps, params := ps, assign := as, body, defers := w.heap.size } [w.heap.size]
    ((w.alloc (.deferred (some []))).alloc (.loop { state := .ready, pending := none, fn, tmps := a.tmps, params := ps, assign := as, body, defers := w.heap.size })) rfl rfl rfl rfl rfl rfl
    (by have := World.alloc_heap_new (w.alloc (.deferred (some []))) (.loop { state := .ready, pending := none, fn, tmps := a.tmps, params := ps, assign := as, body, defers := w.heap.size }); rwa [hsz] at this)
    (fun g hg => (Below.heap_alloc _ _ _ (by rw [hsz]; omega)).trans (Below.heap_alloc _ _ _ hg)) (by omega) (by rw [World.size_alloc, hsz]; omega) rfl rfl ⟨rfl, Nat.le_refl _⟩ (by simp)
    (fun D hD => by simp at hD; subst hD; exact ⟨Nat.le_refl _, by omega, (Below.heap_alloc _ _ _ (by simp)).trans (World.alloc_heap_new w _)⟩)
   exact ⟨_, _, _, d, w₁', f', args, w₂, run_enterLoop_outer _ _ _ _ _, k⟩
  | some l0 =>
   obtain ⟨hu0, r0, hr0⟩ := hR
   obtain ⟨d, w₁', f', args, w₂, k⟩ := key w.heap.size { state := .ready, pending := none, fn, tmps := a.tmps, params := ps, assign := as, body, defers := r0.defers } []
    (w.alloc (.loop { state := .ready, pending := none, fn, tmps := a.tmps, params := ps, assign := as, body, defers := r0.defers })) rfl rfl rfl rfl rfl rfl
    (World.alloc_heap_new w _) (fun g hg => Below.heap_alloc _ _ _ hg) (Nat.le_refl _) (by simp) rfl rfl ⟨rfl, Nat.le_refl _⟩ (by simp) (by simp)
   exact ⟨_, _, _, d, w₁', f', args, w₂, run_enterLoop_inner hr0 _ _ _ _ _, k⟩
end
end Go.Idl
