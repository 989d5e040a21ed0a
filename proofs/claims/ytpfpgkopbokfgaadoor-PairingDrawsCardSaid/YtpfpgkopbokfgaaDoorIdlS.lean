/-
  Loops whose rounds make blocks that the next round does not see.
-/
import Derived.Test.YtpfpgkopbokfgaaDoorIdlM
import Derived.Test.YtpfpgkopbokfgaaDoorIdlQ
namespace Go.Idl
set_option linter.all false
open Go.RowKit

/-- Values that point to blocks below n alone. -/
inductive Bl (n : Nat) : IV → Prop where
  | bool (b : Bool) : Bl n (.bool b)
  | int (k : IntKind) (i : Int) : Bl n (.int k i)
  | str (s : ByteArray) : Bl n (.str s)
  | nilp : Bl n .nilp
  | nils : Bl n .nils
  | nilm : Bl n .nilm
  | nilf : Bl n .nilf
  | ptr (b tot i o : Nat) (h : b < n) : Bl n (.ptr b tot i o)
  | sl (b tot i len : Nat) (cap : Option Nat) (h : b < n) : Bl n (.sl b tot i len cap)
  | map (b : Nat) (h : b < n) : Bl n (.map b)
  | iter (b : Nat) (h : b < n) : Bl n (.iter b)
  | fptr (s : Nat) (rows : List (List IV)) (i o : Nat) (h : ∀ (i : Nat) (row : List IV) (j : Nat) (c : IV), rows[i]? = some row → row[j]? = some c → Bl n c) : Bl n (.fptr s rows i o)
  | fz (s : Nat) (rows : List (List IV)) (h : ∀ (i : Nat) (row : List IV) (j : Nat) (c : IV), rows[i]? = some row → row[j]? = some c → Bl n c) : Bl n (.fz s rows)
  | func (fn : Fn) (fs cs : List IV) (h1 : ∀ (j : Nat) (c : IV), fs[j]? = some c → Bl n c) (h2 : ∀ (j : Nat) (c : IV), cs[j]? = some c → Bl n c) : Bl n (.func fn fs cs)
  | agg (cs : List IV) (h : ∀ (j : Nat) (c : IV), cs[j]? = some c → Bl n c) : Bl n (.agg cs)
  | tup (cs : List IV) (h : ∀ (j : Nat) (c : IV), cs[j]? = some c → Bl n c) : Bl n (.tup cs)
  | opt (g : Bool) (v : IV) (h : Bl n v) : Bl n (.opt g v)

theorem Cl.bl {n : Nat} {v : IV} (h : Cl v) : Bl n v := by
  induction h with
  | bool b => exact .bool b
  | int k i => exact .int k i
  | str s => exact .str s
  | nilp => exact .nilp
  | nils => exact .nils
  | nilm => exact .nilm
  | nilf => exact .nilf
  | fptr s rows i o _ ih => exact .fptr s rows i o ih
  | fz s rows _ ih => exact .fz s rows ih
  | func fn fs cs _ _ i1 i2 => exact .func fn fs cs i1 i2
  | agg cs _ ih => exact .agg cs ih
  | tup cs _ ih => exact .tup cs ih

def ObBl (n : Nat) : IObj → Prop
  | .rows _ rs => ∀ row ∈ rs, ∀ c ∈ row, Bl n c
  | .map es => ∀ e ∈ es, Bl n e.1 ∧ Bl n e.2
  | .iter b es cur todo => (∀ b', b = some b' → b' < n) ∧ (∀ e ∈ es, Bl n e.1 ∧ Bl n e.2) ∧ (∀ e ∈ todo, Bl n e.1 ∧ Bl n e.2) ∧ ∀ e, cur = some e → Bl n e.1 ∧ Bl n e.2
  | .yrec _ _ e => (∀ p ∈ e.nm, Bl n p.2) ∧ (∀ p ∈ e.tm, Bl n p.2) ∧ ∀ p ∈ e.gl, Bl n p.2
  | _ => True
def HeBl (n : Nat) (σ : Heap) : Prop := ∀ o ∈ σ, ObBl n o
def EnBl (n : Nat) (l : List (Nat × IV)) : Prop := ∀ p ∈ l, Bl n p.2

def Mu.cut (μ : Mu) (n : Nat) : Mu := { μ with u := fun b => μ.u b ∧ b < n }

section
variable {P : Program} {μ : Mu} {F : Fz} {w : World} {σ : Heap} {Q : XPost}

theorem Bl.vr {n : Nat} {v : Value} {c : IV} (h : VR μ F w v c) (hb : Bl n c) : VR (μ.cut n) F w v c := by
  induction h with
  | bool b => exact .bool b
  | int k n => exact .int k n
  | str s => exact .str s
  | nilp => exact .nilp
  | ptr v b tot i o hk hb' ht h => cases hb with | ptr _ _ _ _ hn => exact .ptr v b tot i o hk ⟨hb', hn⟩ ht h
  | fptr g off s rows i o us hf hrow hcell hv ih =>
    cases hb with
    | fptr _ _ _ _ hcl => exact .fptr g off s rows i o us hf hrow hcell fun i row j c h1 h2 => ih i row j c h1 h2 (hcl i row j c h1 h2)
  | nils => exact .nils
  | sl v b tot i len cap hk hb' ht h => cases hb with | sl _ _ _ _ _ hn => exact .sl v b tot i len cap hk ⟨hb', hn⟩ ht h
  | fz g off s rows cap us hf hrow hcell hv hcap ih =>
    cases hb with
    | fz _ _ hcl => exact .fz g off s rows cap us hf hrow hcell (fun i row j c h1 h2 => ih i row j c h1 h2 (hcl i row j c h1 h2)) hcap
  | fz0 a cap s => exact .fz0 a cap s
  | nilm => exact .nilm
  | map v b hk hb' h hl => cases hb with | map _ hn => exact .map v b hk ⟨hb', hn⟩ h hl
  | iter v b hk hb' h hl => cases hb with | iter _ hn => exact .iter v b hk ⟨hb', hn⟩ h hl
  | nilf => exact .nilf
  | func fn fs cs fs' cs' hf hc' _ _ ih1 ih2 =>
    cases hb with
    | func _ _ _ c1 c2 => exact .func fn fs cs fs' cs' hf hc' (fun j v c h1 h2 => ih1 j v c h1 h2 (c1 j c h2)) fun j v c h1 h2 => ih2 j v c h1 h2 (c2 j c h2)
  | agg vs cs hl _ ih => cases hb with | agg _ c2 => exact .agg vs cs hl fun j v c h1 h2 => ih j v c h1 h2 (c2 j c h2)
  | tup vs cs hl _ ih => cases hb with | tup _ c2 => exact .tup vs cs hl fun j v c h1 h2 => ih j v c h1 h2 (c2 j c h2)
  | opt g v c h1 h0 ih => cases hb with | opt _ _ hc => exact .opt g v c (fun hg => ih hg hc) h0

theorem eget_bl {n t : Nat} {l : List (Nat × IV)} {c : IV} (h : ∀ p ∈ l, Bl n p.2) (hc : eget l t = some c) : Bl n c := by
  induction l with
  | nil => simp [eget] at hc
  | cons p l ih =>
    obtain ⟨k, v⟩ := p
    simp only [eget] at hc
    cases hk : (k == t) with
    | true => rw [hk] at hc; simp only [cond_true, Option.some.injEq] at hc; subst hc; exact h (k, v) (by simp)
    | false => rw [hk] at hc; exact ih (fun p hp => h p (by simp [hp])) hc
theorem EnBl.get {n t : Nat} {e : Env} {c : IV} (h : ∀ p ∈ e.nm, Bl n p.2) (h' : ∀ p ∈ e.tm, Bl n p.2) (hc : e.get t = some c) : Bl n c := by
  unfold Env.get at hc
  cases hn : isNamed e.m e.ex t with
  | true => rw [hn] at hc; exact eget_bl h hc
  | false => rw [hn] at hc; exact eget_bl h' hc

/-- A heap of which some is forgotten: blocks at the end, and what is in some blocks. -/
def fgt : Heap → Heap → Prop
  | [], _ => True
  | o :: l, o' :: l' => (o = .dead ∨ o = o') ∧ fgt l l'
  | _ :: _, [] => False

theorem fgt_get : ∀ {σ0 σ : Heap}, fgt σ0 σ → ∀ (b : Nat) (o : IObj), σ0[b]? = some o → b < σ.length ∧ (o = .dead ∨ σ[b]? = some o)
  | [], _, _, b, o, h => by simp at h
  | x :: l, x' :: l', hf, b, o, h => by
    cases b with
    | zero => simp at h; subst h; exact ⟨by simp, hf.1.imp _root_.id fun e => by simp [e]⟩
    | succ b =>
      obtain ⟨h1, h2⟩ := fgt_get hf.2 b o (by simpa using h)
      exact ⟨by simpa using h1, h2.imp _root_.id fun e => by simpa using e⟩
  | _ :: _, [], hf, _, _, _ => hf.elim
theorem fgt_refl : ∀ (σ : Heap), fgt σ σ
  | [] => trivial
  | _ :: l => ⟨.inr rfl, fgt_refl l⟩
theorem fgt_append : ∀ (σ τ : Heap), fgt σ (σ ++ τ)
  | [], _ => trivial
  | _ :: l, τ => ⟨.inr rfl, fgt_append l τ⟩

theorem HR.cut {σ0 : Heap} (hH : HR μ F σ w) (hp : fgt σ0 σ) (hb : HeBl σ0.length σ0) : HR (μ.cut σ0.length) F σ0 w := by
  have get := fgt_get hp
  refine ⟨fun b hu => ?_, fun b o ho => ?_, fun b b' g off off' h1 h2 => hH.inj b b' g off off' h1.1 h2.1, fun b g off h1 => hH.fro b g off h1.1, fun b g off h1 => hH.lt b g off h1.1, hH.flt, fun b b' l r r' e e' h1 h2 => ?_, fun x b es cur todo o h1 h2 => ?_⟩
  · obtain ⟨o, h1, h2⟩ := hH.n b hu.1
    have e1 : σ0[b]? = some (σ0[b]'hu.2) := List.getElem?_eq_getElem hu.2
    refine ⟨_, e1, ?_⟩
    rcases (get b _ e1).2 with h | h
    · rw [h]; rfl
    · rw [h] at h1; cases h1; exact h2
  · have hlt := (List.getElem?_eq_some_iff.1 ho).1
    have hmem : o ∈ σ0 := List.mem_of_getElem? ho
    rcases (get b o ho).2 with rfl | ho'
    · trivial
    have := hH.obj b o ho'
    have hob := hb o hmem
    cases o with
    | rows s rs =>
      obtain ⟨h1, h2, h3, h4, h5, h6⟩ := this
      refine ⟨⟨h1, hlt⟩, h2, h3, h4, h5, h6.imp (fun h => h) ?_⟩
      rintro ⟨g, off, cs, T, q1, q2, q3, q4, q5⟩
      exact ⟨g, off, cs, T, q1, q2, q3, q4, fun i row j c r1 r2 => let ⟨v, v1, v2⟩ := q5 i row j c r1 r2; ⟨v, v1, Bl.vr v2 (hob row (List.mem_of_getElem? r1) c (List.mem_of_getElem? r2))⟩⟩
    | map es =>
      obtain ⟨h1, h2, g, es', cl, q1, q2, q3, q4⟩ := this
      exact ⟨⟨h1, hlt⟩, h2, g, es', cl, q1, q2, ⟨q3.1, fun j e p r1 r2 => let ⟨v1, v2⟩ := q3.2 j e p r1 r2; let hp := hob p (List.mem_of_getElem? r2); ⟨Bl.vr v1 hp.1, Bl.vr v2 hp.2⟩⟩, q4⟩
    | iter b' es cur todo =>
      obtain ⟨h1, h2, g, h3, h4⟩ := this
      refine ⟨⟨h1, hlt⟩, h2, g, h3, ?_⟩
      cases b' with
      | none => exact h4
      | some b' =>
        obtain ⟨k1, k2, gm, es', cl, since, seen, q1, q2, q3, q4, q5, q6, q7, q8, q9⟩ := h4
        have ent : ∀ {es' : List MapEntry} {es : List (IV × IV)}, (∀ e ∈ es, Bl σ0.length e.1 ∧ Bl σ0.length e.2) → EntsR μ F w es' es → EntsR (μ.cut σ0.length) F w es' es := fun hb h =>
          ⟨h.1, fun j e p r1 r2 => let ⟨v1, v2⟩ := h.2 j e p r1 r2; let hp := hb p (List.mem_of_getElem? r2); ⟨Bl.vr v1 hp.1, Bl.vr v2 hp.2⟩⟩
        exact ⟨⟨k1, hob.1 b' rfl⟩, k2, gm, es', cl, since, seen, q1, q2, q3, q4, q5, q6, ent hob.2.1 q7, ent hob.2.2.1 q8, fun kv e => let ⟨x, x1, x2, x3, x4⟩ := q9 kv e; let hc := hob.2.2.2 kv e; ⟨x, x1, x2, Bl.vr x3 hc.1, Bl.vr x4 hc.2⟩⟩
    | yrec l r e =>
      obtain ⟨h1, h2, h3, h4, h5⟩ := this
      exact ⟨fun hu => h1 hu.1, h2, fun b' off hu => h3 b' off hu.1, h4, ⟨h5.size, fun t c hc => let ⟨v, v1, v2⟩ := h5.slot t c hc; ⟨v, v1, Bl.vr v2 (EnBl.get hob.1 hob.2.1 hc)⟩, fun g c hc => Bl.vr (h5.glob g c hc) (eget_bl hob.2.2 hc)⟩⟩
    | dead => trivial
    | hole => trivial
  · have key : ∀ (z : Nat) (r : Loop) (e : Env), σ0[z]? = some (.yrec l r e) → σ[z]? = some (.yrec l r e) := fun z r e h => (get z _ h).2.resolve_left (by intro h; cases h)
    exact hH.yin b b' l r r' e e' (key _ _ _ h1) (key _ _ _ h2)
  · have h3 := (get x _ h1).2.resolve_left (by intro h; cases h)
    rcases (get b o h2).2 with h4 | h4
    · exact h4
    · exact hH.itd x b es cur todo o h3 h4

/-- What stays refers to what stays. -/
def blS (e : Env) (σ : Heap) : Prop := EnBl σ.length e.nm ∧ EnBl σ.length e.gl ∧ HeBl σ.length σ

theorem forget_sound {σ0 : Heap} {e e0 : Env} {t : Array Value} (hE : EnvR μ F w t e) (hH : HR μ F σ w) (hs : e0.subE e) (hf : fgt σ0 σ) (hb : blS e0 σ0) : EnvR (μ.cut σ0.length) F w t e0 ∧ HR (μ.cut σ0.length) F σ0 w := by
  have hE' := hE.sub hs.sub
  refine ⟨⟨hE'.size, fun t c hc => ?_, fun g c hc => Bl.vr (hE'.glob g c hc) (eget_bl hb.2.1 hc)⟩, hH.cut hf hb.2.2⟩
  obtain ⟨v, v1, v2⟩ := hE'.slot t c hc
  refine ⟨v, v1, Bl.vr v2 ?_⟩
  unfold Env.get at hc
  cases hn : isNamed e0.m e0.ex t with
  | true => rw [hn] at hc; exact eget_bl hb.1 hc
  | false => rw [hn, hs.1] at hc; simp [eget] at hc

theorem Mu.cut_ext {n : Nat} {μ' : Mu} {F' : Fz} {w' : World} (hH : HR μ F σ w) (hX : Ext μ F w μ' F' w') (hn : σ.length ≤ n) : Ext μ F w (μ'.cut n) F' w' := by
  refine ⟨fun b hu => ?_, hX.fr, hX.fu, hX.same, hX.size, hX.os, hX.tape, hX.output, hX.new⟩
  obtain ⟨q1, q2⟩ := hX.mu b hu
  obtain ⟨o, o1, _⟩ := hH.n b hu
  have := (List.getElem?_eq_some_iff.1 o1).1
  exact ⟨⟨q1, by omega⟩, q2⟩

/-- **A LOOP** whose rounds make blocks that the next round does not see: st: the states at the rounds' heads, told by a value. -/
theorem IWp.loopT {c : Code} {e : Env} {α : Type} (st : α → Env × Heap) (inv : α → Prop) (me : α → Nat) (a₀ : α) (h0 : inv a₀) (hs : (st a₀).1.subE e ∧ fgt (st a₀).2 σ ∧ σ.length ≤ (st a₀).2.length ∧ blS (st a₀).1 (st a₀).2)
    (round : ∀ x, inv x → yC P c (thenQ (fun e' σ' => ∃ y, ((st y).1.subE e' ∧ fgt (st y).2 σ' ∧ σ.length ≤ (st y).2.length ∧ blS (st y).1 (st y).2) ∧ inv y ∧ me y < me x) Q) (st x).1 (st x).2) : IWp P (.loop c) Q e σ := fun ro μ F a w hR hE hH => by
  refine wpIn_loop_ghost (fun n a' w' => ∃ x μ' F', me x = n ∧ inv x ∧ EnvR μ' F' w' a'.tmps (st x).1 ∧ HR μ' F' (st x).2 w' ∧ Ext μ F w μ' F' w' ∧ Marks w F' w' a.defers a'.defers) (me a₀)
    ⟨a₀, _, F, rfl, h0, (forget_sound hE hH hs.1 hs.2.1 hs.2.2.2).1, (forget_sound hE hH hs.1 hs.2.1 hs.2.2.2).2, Mu.cut_ext hH (Ext.refl _ _ _) hs.2.2.1, .refl rfl⟩ ?_
  rintro n a' w' ⟨x, μ', F', rfl, hok, hE', hH', hX, hd⟩
  refine wpIn_mono (yC_sound _ _ _ _ (round x hok) ro μ' F' a' w' (hR.ext hX) hE' hH') ?_
  rintro ex a'' w'' ⟨xe, e'', σ'', μ'', F'', h1, h2, h3, h4, h5, h6⟩
  have h6' := hd.trans h6 hH' hX.size h5
  cases xe with
  | normal =>
    cases ex <;> simp only [XExit.rel] at h1
    obtain ⟨y, ⟨hsub, hpre, hb0, hbl⟩, hy, hlt⟩ := h2
    obtain ⟨k1, k2⟩ := forget_sound h3 h4 hsub hpre hbl
    exact ⟨me y, hlt, y, _, F'', rfl, hy, k1, k2, Mu.cut_ext hH (hX.trans h5) hb0, h6'⟩
  | exit i => cases ex <;> simp only [XExit.rel] at h1; exact ⟨.exit i, e'', σ'', μ'', F'', h1, h2, h3, h4, hX.trans h5, h6'⟩
  | ret => cases ex <;> simp only [XExit.rel] at h1; exact ⟨.ret, e'', σ'', μ'', F'', trivial, h2, h3, h4, hX.trans h5, h6'⟩

/-- Much may be forgotten at any place. e1, σ1: how much of the heap must be kept: what lay when the function began. -/
theorem IWp.forget {c : Code} {e e0 : Env} {σ0 : Heap} (hs : e0.subE e) (hf : fgt σ0 σ) (hl : σ.length ≤ σ0.length) (hb : blS e0 σ0) (h : IWp P c Q e0 σ0) : IWp P c Q e σ := fun ro μ F a w hR hE hH => by
  obtain ⟨k1, k2⟩ := forget_sound hE hH hs hf hb
  have hX := Mu.cut_ext hH (Ext.refl μ F w) hl
  refine wpIn_mono (h ro _ F a w hR k1 k2) fun ex a' w' hp => hp.ext k2 hX (.refl rfl)

/-- **A PURE FUNCTION's CONTRACT FROM ITS BODY**: R stands for what is to be shown of the value that is handed back. -/
theorem IFun.of_body {own : Bool} {gl : List (Nat × IV)} {f : FuncId} {fn : Func} {c : Code} {args : List IV} {V : IV → Prop} (x : Bool) (m : Nat) (ex : List Nat) (hf : P.funcs[f]? = some fn) (hb : fn.body = some c)
    (hcall : ∀ (args : Array Value) (w : World), (callFunc f args).run P w = .ok (.enter f args) w) (hn : Nat.ble args.length fn.ntmps = true)
    (h : ∀ R : IV → Heap → Prop, (∀ r σ v, Fr (!own) σ r v → V v → R r σ) → yC P c (retQ P fn.results.toList R) ⟨x, fn.ntmps, m, ex, gl, enum 0 args, []⟩ []) : IFun own P gl f args V :=
  ICalls.of_body x m ex hf hb hcall hn (yC_sound _ _ _ _ (h _ fun _ _ v h1 h2 => ⟨v, h1, h2⟩))
end
end Go.Idl
