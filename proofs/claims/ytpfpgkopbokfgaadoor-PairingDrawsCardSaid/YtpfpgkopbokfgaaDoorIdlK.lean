/-
  Code, loops, functions.
-/
import Derived.Test.YtpfpgkopbokfgaaDoorIdlJ
import Derived.Deep.LoopGhost
namespace Go.Idl
set_option linter.all false
open Go.RowKit

inductive XExit where
  | normal
  | exit (id : Nat)
  | ret

def XExit.rel : XExit → Exit → Prop
  | .normal, .normal => True
  | .exit i, .exit j => i = j
  | .ret, .ret => True
  | _, _ => False

abbrev XPost := XExit → Env → Heap → Prop

/-- In a round: the loop's record lies, and nobody touches it. -/
def RoOK (ro : Option Nat) (F : Fz) (w : World) : Prop := match ro with | none => True | some l => F.u l ∧ ∃ r, w.heap[l]? = some (.loop r)

def markOf (D : Nat) : Deferred := { target := .collected D, args := #[] }

/-- What loops over functions leave among the deferred calls. -/
def Marks (w : World) (F' : Fz) (w' : World) (ds ds' : List Deferred) : Prop :=
  ∃ ms : List Nat, ds' = ms.map markOf ++ ds ∧ ms.Nodup ∧ ∀ D ∈ ms, w.heap.size ≤ D ∧ F'.u D ∧ ¬ F'.f D ∧ w'.heap[D]? = some (.deferred (some []))

theorem Marks.refl {w : World} {F' : Fz} {w' : World} {ds ds' : List Deferred} (h : ds' = ds) : Marks w F' w' ds ds' := ⟨[], by simp [h], List.nodup_nil, by simp⟩

theorem Marks.trans {μ' μ'' : Mu} {σ : Heap} {F' F'' : Fz} {w w' w'' : World} {a b c : List Deferred} (h : Marks w F' w' a b) (k : Marks w' F'' w'' b c) (hH : HR μ' F' σ w') (hsz : w.heap.size ≤ w'.heap.size) (hX : Ext μ' F' w' μ'' F'' w'') : Marks w F'' w'' a c := by
  obtain ⟨ms, rfl, h2, h3⟩ := h
  obtain ⟨ns, rfl, k2, k3⟩ := k
  refine ⟨ns ++ ms, by simp, List.nodup_append.2 ⟨k2, h2, fun x hx y hy e => ?_⟩, fun D hD => ?_⟩
  · subst e
    have h1 := (k3 x hx).1
    have h2 := hH.flt x (h3 x hy).2.1
    omega
  · rcases List.mem_append.1 hD with hD | hD
    · obtain ⟨q1, q2, q3, q4⟩ := k3 D hD
      exact ⟨by omega, q2, q3, q4⟩
    · obtain ⟨q1, q2, q3, q4⟩ := h3 D hD
      exact ⟨q1, hX.fu D q2, fun hf => (hX.new D hf).elim q3 fun hn => hn q2, (hX.same D q2).trans q4⟩

/-- What the model's wp is to the ideal state. -/
def IPost (Q : XPost) (μ : Mu) (F : Fz) (a : Act) (w : World) (ex : Exit) (a' : Act) (w' : World) : Prop :=
  ∃ xe e' σ' μ' F', XExit.rel xe ex ∧ Q xe e' σ' ∧ EnvR μ' F' w' a'.tmps e' ∧ HR μ' F' σ' w' ∧ Ext μ F w μ' F' w' ∧ Marks w F' w' a.defers a'.defers
def IWp (P : Program) (c : Code) (Q : XPost) (e : Env) (σ : Heap) : Prop :=
  ∀ (ro : Option Nat) (μ : Mu) (F : Fz) (a : Act) (w : World), RoOK ro F w → EnvR μ F w a.tmps e → HR μ F σ w → c.wpIn (Rd ro) 0 P (IPost Q μ F a w) a w

theorem RoOK.ext {ro : Option Nat} {μ μ' : Mu} {F F' : Fz} {w w' : World} (h : RoOK ro F w) (hX : Ext μ F w μ' F' w') : RoOK ro F' w' := by
  cases ro with
  | none => trivial
  | some l => exact ⟨hX.fu l h.1, h.2.imp fun r hr => (hX.same l h.1).trans hr⟩

theorem IPost.ext {Q : XPost} {μ μ' : Mu} {F F' : Fz} {a a' : Act} {w w' : World} {σ' : Heap} {ex : Exit} {a'' : Act} {w'' : World} (h : IPost Q μ' F' a' w' ex a'' w'') (hH : HR μ' F' σ' w') (hX : Ext μ F w μ' F' w') (hm : Marks w F' w' a.defers a'.defers) : IPost Q μ F a w ex a'' w'' :=
  let ⟨xe, e', σ', μ', F', h1, h2, h3, h4, h5, h6⟩ := h
  ⟨xe, e', σ', μ', F', h1, h2, h3, h4, hX.trans h5, hm.trans h6 hH hX.size h5⟩

def thenQ (k : Env → Heap → Prop) (Q : XPost) : XPost
  | .normal, e, σ => k e σ
  | x, e, σ => Q x e σ
def blockQ (id : Nat) (Q : XPost) : XPost
  | .exit i, e, σ => bif Nat.beq i id then Q .normal e σ else Q (.exit i) e σ
  | x, e, σ => Q x e σ

section
variable {P : Program} {Q : XPost} {e : Env} {σ : Heap}

theorem IWp.mono {c : Code} {Q' : XPost} (h : IWp P c Q e σ) (hq : ∀ x e σ, Q x e σ → Q' x e σ) : IWp P c Q' e σ := fun ro μ F a w hR hE hH =>
  wpIn_mono (h ro μ F a w hR hE hH) fun _ _ _ ⟨xe, e', σ', μ', F', h1, h2, h3⟩ => ⟨xe, e', σ', μ', F', h1, hq _ _ _ h2, h3⟩

theorem IWp.skip (h : Q .normal e σ) : IWp P .skip Q e σ := fun ro μ F _ _ hR hE hH => wpIn_skip ⟨.normal, e, σ, μ, F, trivial, h, hE, hH, Ext.refl _ _ _, .refl rfl⟩
theorem IWp.label {l : Nat} (h : Q .normal e σ) : IWp P (.label l) Q e σ := fun ro μ F _ _ hR hE hH => wpIn_label ⟨.normal, e, σ, μ, F, trivial, h, hE, hH, Ext.refl _ _ _, .refl rfl⟩
theorem IWp.ret (h : Q .ret e σ) : IWp P .ret Q e σ := fun ro μ F _ _ hR hE hH => wpIn_ret ⟨.ret, e, σ, μ, F, trivial, h, hE, hH, Ext.refl _ _ _, .refl rfl⟩
theorem IWp.exit {id : Nat} (h : Q (.exit id) e σ) : IWp P (.exit id) Q e σ := fun ro μ F _ _ hR hE hH => wpIn_exit ⟨.exit id, e, σ, μ, F, rfl, h, hE, hH, Ext.refl _ _ _, .refl rfl⟩

theorem IWp.region {id : Nat} {ops : Array Oper} (h : xOps P ops.toList ops.toList e σ fun e σ => Q .normal e σ) : IWp P (.region id ops false) Q e σ := fun ro μ F a w hR hE hH =>
  wpIn_region_list (xOps_sound _ e σ _ h μ F a w hE hH fun e' σ' μ' F' _ _ h1 h2 h3 h4 h5 => ⟨.normal, e', σ', μ', F', trivial, h1, h2, h3, h4, .refl h5⟩)

theorem IWp.seq {c d : Code} (h : IWp P c (thenQ (IWp P d Q) Q) e σ) : IWp P (.seq c d) Q e σ := fun ro μ F a w hR hE hH => by
  refine wpIn_seq (wpIn_mono (h ro μ F a w hR hE hH) ?_)
  rintro ex a' w' ⟨xe, e', σ', μ', F', h1, h2, h3, h4, h5, h6⟩
  cases xe with
  | normal =>
    cases ex <;> simp only [XExit.rel] at h1
    refine wpIn_mono (h2 ro μ' F' a' w' (hR.ext h5) h3 h4) fun ex a'' w'' h => h.ext h4 h5 h6
  | exit i => cases ex <;> simp only [XExit.rel] at h1; exact ⟨.exit i, e', σ', μ', F', h1, h2, h3, h4, h5, h6⟩
  | ret => cases ex <;> simp only [XExit.rel] at h1; exact ⟨.ret, e', σ', μ', F', trivial, h2, h3, h4, h5, h6⟩

theorem IWp.cond {c : Operand} {t f : Code} {b : Bool} (hc : e.opS c = some (.bool b)) (hw : e.wh c = true) (ht : b = true → IWp P t Q e σ) (hf : b = false → IWp P f Q e σ) : IWp P (.cond c t f) Q e σ := fun ro μ F a w hR hE hH => by
  have hv := opS_vr hE hc hw
  generalize hev : a.eval c = v at hv
  cases hv
  exact wpIn_cond_split hev (fun h => ht h ro μ F a w hR hE hH) (fun h => hf h ro μ F a w hR hE hH)

theorem IWp.block {id : Nat} {c : Code} (h : IWp P c (blockQ id Q) e σ) : IWp P (.block id c) Q e σ := fun ro μ F a w hR hE hH => by
  refine wpIn_block (wpIn_mono (h ro μ F a w hR hE hH) ?_)
  rintro ex a' w' ⟨xe, e', σ', μ', F', h1, h2, h3⟩
  cases xe with
  | normal => cases ex <;> simp only [XExit.rel] at h1; exact ⟨.normal, e', σ', μ', F', trivial, h2, h3⟩
  | ret => cases ex <;> simp only [XExit.rel] at h1; exact ⟨.ret, e', σ', μ', F', trivial, h2, h3⟩
  | exit i =>
    cases ex <;> simp only [XExit.rel] at h1
    subst h1
    simp only [blockQ] at h2
    simp only [Exit.inBlock]
    cases hb : Nat.beq i id with
    | true =>
      rw [hb] at h2
      rw [Nat.beq_eq] at hb
      rw [if_pos hb]
      exact ⟨.normal, e', σ', μ', F', trivial, h2, h3⟩
    | false =>
      rw [hb] at h2
      rw [if_neg (fun h => by rw [← Nat.beq_eq] at h; rw [h] at hb; cases hb)]
      exact ⟨.exit i, e', σ', μ', F', rfl, h2, h3⟩

/-- What is known may be forgotten. -/
def Env.sub (e' e : Env) : Prop := e'.n = e.n ∧ e'.gl = e.gl ∧ ∀ t c, e'.get t = some c → e.get t = some c

theorem EnvR.sub {μ : Mu} {F : Fz} {w : World} {t : Array Value} {e e' : Env} (h : EnvR μ F w t e) (hs : e'.sub e) : EnvR μ F w t e' :=
  ⟨h.size.trans hs.1.symm, fun t c hc => h.slot t c (hs.2.2 t c hc), fun g c hc => h.glob g c (by rw [← hs.2.1]; exact hc)⟩

theorem IWp.weaken {c : Code} {e' : Env} (hs : e'.sub e) (h : IWp P c Q e' σ) : IWp P c Q e σ := fun ro μ F a w hR hE hH => h ro μ F a w hR (hE.sub hs) hH

/-- A loop, by an invariant that bears a number, which every round lowers. -/
theorem wpIn_loop_ghost {F : Fence} {n : Nat} {Q : Exit → Act → World → Prop} {a : Act} {w : World} {c : Code} (I : Nat → Act → World → Prop) (n₀ : Nat) (h₀ : I n₀ a w)
    (round : ∀ n' a w, I n' a w → c.wpIn F n P (Exit.then (fun a' w' => ∃ k, k < n' ∧ I k a' w') Q) a w) : (Code.loop c).wpIn F n P Q a w := by
  refine wpIn_loop (fun a w => ∃ n, I n a w) (fun a w => leastOf (fun n => I n a w)) ⟨n₀, h₀⟩ ?_
  intro a w hI
  refine wpIn_mono (round _ a w (leastOf_spec hI).1) ?_
  intro e a' w' hq
  cases e with
  | normal =>
    obtain ⟨n', hlt, hI'⟩ := hq
    exact show (∃ n, I n a' w') ∧ leastOf (fun n => I n a' w') < leastOf (fun n => I n a w) from ⟨⟨n', hI'⟩, Nat.lt_of_le_of_lt ((leastOf_spec ⟨n', hI'⟩).2 n' hI') hlt⟩
  | exit id => exact hq
  | goto l => exact hq
  | ret => exact hq
  | panic ch => exact hq
  | outgrown => exact hq

/-- **A LOOP**: st: the states at the rounds' heads, told by a value; ok: what holds of it; m: a measure. -/
theorem IWp.loop {c : Code} {α : Type} (st : α → Env × Heap) (ok : α → Prop) (m : α → Nat) (a₀ : α) (h0 : ok a₀) (hs : (st a₀).1.sub e) (hσ : (st a₀).2 = σ)
    (round : ∀ x, ok x → IWp P c (thenQ (fun e' σ' => ∃ y, ok y ∧ m y < m x ∧ (st y).1.sub e' ∧ (st y).2 = σ') Q) (st x).1 (st x).2) : IWp P (.loop c) Q e σ := fun ro μ F a w hR hE hH => by
  refine wpIn_loop_ghost (fun n a' w' => ∃ x μ' F', m x = n ∧ ok x ∧ EnvR μ' F' w' a'.tmps (st x).1 ∧ HR μ' F' (st x).2 w' ∧ Ext μ F w μ' F' w' ∧ Marks w F' w' a.defers a'.defers) (m a₀)
    ⟨a₀, μ, F, rfl, h0, hE.sub hs, by rw [hσ]; exact hH, Ext.refl _ _ _, .refl rfl⟩ ?_
  rintro n a' w' ⟨x, μ', F', rfl, hok, hE', hH', hX, hd⟩
  refine wpIn_mono (round x hok ro μ' F' a' w' (hR.ext hX) hE' hH') ?_
  rintro ex a'' w'' ⟨xe, e'', σ'', μ'', F'', h1, h2, h3, h4, h5, h6⟩
  have h6' := hd.trans h6 hH' hX.size h5
  cases xe with
  | normal =>
    cases ex <;> simp only [XExit.rel] at h1
    obtain ⟨y, hy, hlt, hsub, hσ'⟩ := h2
    exact ⟨m y, hlt, y, μ'', F'', rfl, hy, h3.sub hsub, by rw [hσ']; exact h4, hX.trans h5, h6'⟩
  | exit i => cases ex <;> simp only [XExit.rel] at h1; exact ⟨.exit i, e'', σ'', μ'', F'', h1, h2, h3, h4, hX.trans h5, h6'⟩
  | ret => cases ex <;> simp only [XExit.rel] at h1; exact ⟨.ret, e'', σ'', μ'', F'', trivial, h2, h3, h4, hX.trans h5, h6'⟩

/-! ### the walk -/
/-- The walk through code that has no loop of its own: a loop, and what it has no rule for, stays as it is. -/
def xC (P : Program) : Code → XPost → Env → Heap → Prop
  | .skip, Q, e, σ => Q .normal e σ
  | .label _, Q, e, σ => Q .normal e σ
  | .ret, Q, e, σ => Q .ret e σ
  | .exit id, Q, e, σ => Q (.exit id) e σ
  | .seq c d, Q, e, σ => xC P c (thenQ (fun e σ => xC P d Q e σ) Q) e σ
  | .block id c, Q, e, σ => xC P c (blockQ id Q) e σ
  | .region id ops false, Q, e, σ => xOps P ops.toList ops.toList e σ fun e σ => Q .normal e σ
  | .cond c t f, Q, e, σ => match e.opS c with
    | some (.bool b) => e.wh c = true ∧ (b = true → xC P t Q e σ) ∧ (b = false → xC P f Q e σ)
    | _ => False
  | c, Q, e, σ => IWp P c Q e σ

theorem xC_sound : ∀ (c : Code) (Q : XPost) (e : Env) (σ : Heap), xC P c Q e σ → IWp P c Q e σ := by
  intro c
  induction c with
  | skip => exact fun _ _ _ h => IWp.skip h
  | label l => exact fun _ _ _ h => IWp.label h
  | ret => exact fun _ _ _ h => IWp.ret h
  | exit id => exact fun _ _ _ h => IWp.exit h
  | seq c d ih1 ih2 =>
    intro Q e σ h
    refine IWp.seq ((ih1 _ e σ h).mono fun x e' σ' hq => ?_)
    cases x with
    | normal => exact ih2 Q e' σ' hq
    | exit i => exact hq
    | ret => exact hq
  | block id c ih => exact fun Q e σ h => IWp.block (ih _ e σ h)
  | region _ ops draw =>
    intro Q e σ h
    cases draw with
    | false => exact IWp.region h
    | true => exact h
  | cond c t f ih1 ih2 =>
    intro Q e σ h
    unfold xC at h
    split at h
    · rename_i b hb
      exact IWp.cond hb h.1 (fun hb => ih1 Q e σ (h.2.1 hb)) (fun hb => ih2 Q e σ (h.2.2 hb))
    · exact h.elim
  | loop c _ => exact fun _ _ _ h => h
  | rangeFunc f ps a b _ _ => exact fun _ _ _ h => h
  | scope c _ => exact fun _ _ _ h => h
  | goto l => exact fun _ _ _ h => h
  | refuse w => exact fun _ _ _ h => h

/-! ### functions -/
/-- What a function hands back. -/
def resV (P : Program) (rv : ResultVar) (e : Env) (σ : Heap) : Option (Prop × IV) :=
  match rv with
  | .tmp t => (e.get t).map fun v => (v.when = true, v.strip)
  | .cell a t => bif hasP P t && (aggP P t || Nat.beq (sizeP P t) 1) then match e.get a with
    | some (.ptr b tot i o) => match σ[b]? with
      | some (.rows s rs) => some (tot = rs.length ∧ i < rs.length ∧ o + sizeP P t ≤ s, loadAt (aggP P t) (sizeP P t) (rs.getD i []) o)
      | _ => none
    | _ => none else none

def resVs (P : Program) : List ResultVar → Env → Heap → Option (Prop × List IV)
  | [], _, _ => some (True, [])
  | r :: l, e, σ => match resV P r e σ, resVs P l e σ with
    | some (p, v), some (q, vs) => some (p ∧ q, v :: vs)
    | _, _ => none

def one (l : List IV) : IV := match l with | [v] => v | l => .tup l

/-- What must hold at a function's end. -/
def retQ (P : Program) (rs : List ResultVar) (R : IV → Heap → Prop) : XPost
  | .exit _, _, _ => False
  | _, e, σ => match resVs P rs e σ with
    | some (p, l) => p ∧ R (one l) σ
    | none => False

def enum (k : Nat) : List IV → List (Nat × IV)
  | [] => []
  | v :: l => (k, v) :: enum (k + 1) l

theorem eget_enum : ∀ (l : List IV) (k t : Nat) (c : IV), eget (enum k l) t = some c → k ≤ t ∧ l[t - k]? = some c
  | [], k, t, c, h => by simp [enum, eget] at h
  | v :: l, k, t, c, h => by
    simp only [enum, eget] at h
    by_cases e : k = t
    · subst e; simp at h; subst h; exact ⟨Nat.le_refl _, by simp⟩
    · have : (k == t) = false := by simpa using e
      rw [this] at h
      obtain ⟨h1, h2⟩ := eget_enum l (k + 1) t c h
      refine ⟨by omega, ?_⟩
      rw [show t - k = (t - (k + 1)) + 1 by omega]
      simpa using h2

theorem res_run {rv : ResultVar} {p : Prop} {v : IV} {μ : Mu} {F : Fz} {w : World} {t : Array Value} (hE : EnvR μ F w t e) (hH : HR μ F σ w) (h : resV P rv e σ = some (p, v)) (hp : p) :
    ∃ u, ((match rv with | .tmp t' => pure (t.getD t' undef) | .cell a ty => do loadVar ty (← asAddr (t.getD a undef)) : Sem Value)).run P w = .ok u w ∧ VR μ F w u v := by
  cases rv with
  | tmp t' =>
    simp only [resV, Option.map_eq_some_iff, Prod.mk.injEq] at h
    obtain ⟨c, h1, rfl, rfl⟩ := h
    obtain ⟨u, u1, u2⟩ := hE.slot t' c h1
    exact ⟨u, by simp [u1], strip_vr u2 hp⟩
  | cell a ty =>
    simp only [resV] at h
    cases hc : (hasP P ty && (aggP P ty || Nat.beq (sizeP P ty) 1)) with
    | false => rw [hc] at h; cases h
    | true =>
      rw [hc] at h
      simp only [Bool.and_eq_true, Bool.or_eq_true, Nat.beq_eq] at hc
      simp only [cond_true] at h
      split at h
      · rename_i b tot i o hg
        split at h
        · rename_i s rs hb
          simp only [Option.some.injEq, Prod.mk.injEq] at h
          obtain ⟨rfl, rfl⟩ := h
          obtain ⟨htot, hi, hl⟩ := hp
          obtain ⟨u, u1, u2⟩ := hE.slot a _ hg
          have hl2 : iop P false (.load ty (.tmp a)) (fun _ => some (.ptr b tot i o)) σ 0 = some ⟨tot = rs.length ∧ i < rs.length ∧ o + sizeP P ty ≤ s, loadAt (aggP P ty) (sizeP P ty) (rs.getD i []) o, none⟩ := by
            simp only [iop]
            have : (hasP P ty && (aggP P ty || Nat.beq (sizeP P ty) 1)) = true := by simp only [Bool.and_eq_true, Bool.or_eq_true, Nat.beq_eq]; exact hc
            rw [this, hb]; rfl
          obtain ⟨z, z1, z2, _⟩ := load_goes (ev := fun _ => u) (fun x c hx => by cases hx; exact u2) hH hl2 ⟨htot, hi, hl⟩
          obtain ⟨g, off, cs, T, hv, _⟩ := ptr_row hH hb u2 htot hi
          refine ⟨z, ?_, z2⟩
          subst hv
          simp [u1, asAddr]
          simpa [Instr.loadAt, Instr.sureAddr] using z1
        · cases h
      · cases h

theorem ress_run {μ : Mu} {F : Fz} {w : World} {t : Array Value} (hE : EnvR μ F w t e) (hH : HR μ F σ w) : ∀ (rs : List ResultVar) (p : Prop) (l : List IV), resVs P rs e σ = some (p, l) → p →
    ∃ us, (rs.mapM fun | .tmp t' => pure (t.getD t' undef) | .cell a ty => do loadVar ty (← asAddr (t.getD a undef)) : Sem (List Value)).run P w = .ok us w ∧ VRs μ F w us l
  | [], p, l, h, _ => by
    simp only [resVs, Option.some.injEq, Prod.mk.injEq] at h
    obtain ⟨_, rfl⟩ := h
    exact ⟨[], by simp, rfl, by simp⟩
  | r :: rs, p, l, h, hp => by
    simp only [resVs] at h
    split at h
    · rename_i p1 v1 p2 l2 h1 h2
      simp only [Option.some.injEq, Prod.mk.injEq] at h
      obtain ⟨rfl, rfl⟩ := h
      obtain ⟨u, u1, u2⟩ := res_run hE hH h1 hp.1
      obtain ⟨us, us1, us2⟩ := ress_run hE hH rs p2 l2 h2 hp.2
      refine ⟨u :: us, ?_, by simp [us2.1], fun j v c e1 e2 => ?_⟩
      · rw [List.mapM_cons, Sem.run_bind]
        cases r <;> simp_all
      · cases j with
        | zero => simp at e1 e2; subst e1; subst e2; exact u2
        | succ j => exact us2.2 j v c (by simpa using e1) (by simpa using e2)
    · cases h

theorem results_run {fn : Func} {p : Prop} {l : List IV} {μ : Mu} {F : Fz} {w : World} {t : Array Value} (hE : EnvR μ F w t e) (hH : HR μ F σ w) (h : resVs P fn.results.toList e σ = some (p, l)) (hp : p) :
    ∃ v, (results fn t).run P w = .ok v w ∧ VR μ F w v (one l) := by
  obtain ⟨us, h1, h2⟩ := ress_run hE hH _ p l h hp
  have hm : (fn.results.mapM fun | .tmp t' => pure (t.getD t' undef) | .cell a ty => do loadVar ty (← asAddr (t.getD a undef)) : Sem (Array Value)).run P w = .ok us.toArray w := by
    rw [Array.mapM_eq_mapM_toList]
    simp only [Sem.run_map]
    rw [h1]; rfl
  refine ⟨if h : us.toArray.size = 1 then us.toArray[0] else .tuple us.toArray, ?_, ?_⟩
  · unfold results
    rw [Sem.run_bind]
    exact (congrArg (fun r : Result (Array Value) => r.andThen fun a w' => (pure (if h : a.size = 1 then a[0] else Value.tuple a) : Sem Value).run P w') hm).trans rfl
  · obtain ⟨hl, hv⟩ := h2
    match us, l, hl, hv with
    | [], [], _, _ =>
      have := VR.tup (μ := μ) (F := F) (w := w) [] [] rfl (by simp)
      simpa [one] using this
    | [u], [c], _, hv => simpa [one] using hv 0 u c rfl rfl
    | u :: u' :: us, c :: c' :: l, hl, hv =>
      have := VR.tup (μ := μ) (F := F) (w := w) (u :: u' :: us) (c :: c' :: l) hl hv
      simpa [one] using this

/-- A protected block is let go, and turned. -/
def Fz.less (F : Fz) (ms : List Nat) : Fz := ⟨fun g => F.f g ∧ g ∉ ms, fun g => F.u g ∧ g ∉ ms, fun g h => ⟨F.sub g h.1, h.2⟩⟩
structure Drops (F : Fz) (w : World) (ms : List Nat) (w' : World) : Prop where
  size : w'.heap.size = w.heap.size
  os : w'.os = w.os
  tape : w'.tape = w.tape
  output : w'.output = w.output
  same : ∀ g, g ∉ ms → w'.heap[g]? = w.heap[g]?
  nf : ∀ D ∈ ms, ¬ F.f D

theorem Drops.vr {μ : Mu} {F : Fz} {w w' : World} {ms : List Nat} (h : Drops F w ms w') {v : Value} {c : IV} (hv : VR μ F w v c) : VR μ (F.less ms) w' v c :=
  hv.mono (F' := F.less ms) (Mu.le_refl _) (fun g hg => ⟨hg, fun hm => h.nf g hm hg⟩) fun g hg => h.same g fun hm => h.nf g hm hg
theorem Drops.env {μ : Mu} {F : Fz} {w w' : World} {ms : List Nat} (h : Drops F w ms w') {t : Array Value} {e : Env} (hE : EnvR μ F w t e) : EnvR μ (F.less ms) w' t e :=
  ⟨hE.size, fun t c hc => let ⟨v, v1, v2⟩ := hE.slot t c hc; ⟨v, v1, h.vr v2⟩, fun g c hc => h.vr (hE.glob g c hc)⟩
theorem Drops.hr {μ : Mu} {F : Fz} {w w' : World} {ms : List Nat} (h : Drops F w ms w') (hu : ∀ D ∈ ms, F.u D) {σ : Heap} (hH : HR μ F σ w) : HR μ (F.less ms) σ w' := by
  refine ⟨hH.n, fun b o ho => ?_, hH.inj, fun b g off h1 h2 h3 => hH.fro b g off h1 h2 h3.1, fun b g off h1 h2 => by rw [h.size]; exact hH.lt b g off h1 h2, fun g hg => by rw [h.size]; exact hH.flt g hg.1, hH.yin, hH.itd⟩
  refine (hH.obj b o ho).mono (Mu.le_refl _) (fun g hg => ⟨hg, fun hm => h.nf g hm hg⟩) (fun g hg => h.same g fun hm => h.nf g hm hg) ⟨rfl, rfl, rfl, rfl, id⟩ (fun g off hu' hp => h.same g fun hm => hH.fro b g off hu' hp (hu g hm)) (fun l _ _ _ h1 h2 h3 h4 => ⟨h1, fun hn => h2 hn.1, h3, h.same l fun hm => h2 (hu l hm)⟩) fun b' _ _ _ _ hu' => ⟨hu', rfl, rfl, fun gm off hp => h.same gm fun hm => hH.fro b' gm off hu' hp (hu gm hm)⟩
theorem Ext.drop {μ μ' : Mu} {F F' : Fz} {w w' w'' : World} {ms : List Nat} (hX : Ext μ F w μ' F' w') (hd : Drops F' w' ms w'') (hF : ∀ g, F.u g → g < w.heap.size) (hms : ∀ D ∈ ms, w.heap.size ≤ D) : Ext μ F w μ' (F'.less ms) w'' := by
  have hn : ∀ g, F.u g → g ∉ ms := fun g hg hm => by have := hF g hg; have := hms g hm; omega
  refine ⟨hX.mu, fun g hg => ⟨hX.fr g hg, hn g (F.sub g hg)⟩, fun g hg => ⟨hX.fu g hg, hn g hg⟩, fun g hg => (hd.same g (hn g hg)).trans (hX.same g hg), by rw [hd.size]; exact hX.size, hd.os.trans hX.os, hd.tape.trans hX.tape, hd.output.trans hX.output, fun g hg => hX.new g hg.1⟩

theorem leaves_marks {fn : Func} {tmps : Array Value} {R : Ending → World → Prop} {v0 : World → Value → Prop} : ∀ (ms : List Nat) (w : World), ms.Nodup → (∀ D ∈ ms, w.heap[D]? = some (.deferred (some []))) →
    (∀ w', w'.heap.size = w.heap.size → w'.os = w.os → w'.tape = w.tape → w'.output = w.output → (∀ g, g ∉ ms → w'.heap[g]? = w.heap[g]?) → ∃ v, (results fn tmps).run P w' = .ok v w' ∧ R (.returned v) w') →
    LeavesInM (Rd none) 0 P fn tmps R (ms.map markOf) .returning w
  | [], w, _, _, h => h w rfl rfl rfl rfl fun _ _ => rfl
  | D :: ms, w, hnd, hD, h => by
    rw [List.nodup_cons] at hnd
    have h0 := hD D (by simp)
    refine ⟨by simp, .inl ⟨D, w.putObj D (.deferred none), rfl, run_takeDeferred h0, leaves_marks (v0 := v0) ms _ hnd.2 (fun D' hD' => ?_) fun w' h1 h2 h3 h4 h5 => h w' (h1.trans World.putObj_size) h2 h3 h4 fun g hg => ?_⟩⟩
    · rw [World.putObj_heap_other (fun e => hnd.1 (by rw [← e]; exact hD'))]; exact hD D' (by simp [hD'])
    · simp only [List.mem_cons, not_or] at hg
      exact (h5 g hg.2).trans (World.putObj_heap_other hg.1)

/-- **A FUNCTION's CONTRACT FROM ITS BODY.** -/
theorem ICalls.of_body {gl : List (Nat × IV)} {f : FuncId} {fn : Func} {c : Code} {args : List IV} {R : IV → Heap → Prop} (x : Bool) (m : Nat) (ex : List Nat) (hf : P.funcs[f]? = some fn) (hb : fn.body = some c)
    (hcall : ∀ (args : Array Value) (w : World), (callFunc f args).run P w = .ok (.enter f args) w) (hn : Nat.ble args.length fn.ntmps = true)
    (h : IWp P c (retQ P fn.results.toList R) ⟨x, fn.ntmps, m, ex, gl, enum 0 args, []⟩ σ) : ICalls P gl f args σ R := by
  rw [Nat.ble_eq] at hn
  refine ⟨hcall, fun μ F w vs hH hv hgl => callsIn_wide.1 (callsIn_of_wp_marks (F := Rd none) (n := 0) hf hb trivial ?_)⟩
  have hE : EnvR μ F w (vs.toArray ++ Array.replicate (fn.ntmps - vs.toArray.size) undef) ⟨x, fn.ntmps, m, ex, gl, enum 0 args, []⟩ := by
    refine ⟨by have := hv.1; simp; omega, fun t c ht => ?_, hgl⟩
    unfold Env.get at ht
    cases hnm : isNamed m ex t with
    | false => simp [hnm, eget] at ht
    | true =>
      simp only [hnm, cond_true] at ht
      obtain ⟨_, h2⟩ := eget_enum _ _ _ _ ht
      simp only [Nat.sub_zero] at h2
      have hlt := (List.getElem?_eq_some_iff.1 h2).1
      have hlt' : t < vs.length := by rw [hv.1]; exact hlt
      refine ⟨vs[t], ?_, hv.2 t _ c (List.getElem?_eq_getElem hlt') h2⟩
      rw [Array.getElem?_append_left (by simpa using hlt')]
      simp
  refine wpIn_mono (h none μ F ⟨_, []⟩ w trivial hE hH) ?_
  rintro ex' a' w' ⟨xe, e', σ', μ', F', h1, h2, h3, h4, h5, h6⟩
  have fin : (∃ p l, resVs P fn.results.toList e' σ' = some (p, l) ∧ p ∧ R (one l) σ') → LeavesInM (Rd none) 0 P fn a'.tmps (fun e w' => ∃ v r σ' μ' F', e = .returned v ∧ R r σ' ∧ VR μ' F' w' v r ∧ HR μ' F' σ' w' ∧ Ext μ F w μ' F' w') a'.defers .returning w' := by
    rintro ⟨p, l, hr, hp, hR⟩
    obtain ⟨ms, hms, hnd, hmk⟩ := h6
    rw [hms, List.append_nil]
    refine leaves_marks (v0 := fun _ _ => True) ms w' hnd (fun D hD => (hmk D hD).2.2.2) fun w'' k1 k2 k3 k4 k5 => ?_
    have hd : Drops F' w' ms w'' := ⟨k1, k2, k3, k4, k5, fun D hD => (hmk D hD).2.2.1⟩
    have hH'' := hd.hr (fun D hD => (hmk D hD).2.1) h4
    obtain ⟨v, v1, v2⟩ := results_run (hd.env h3) hH'' hr hp
    exact ⟨v, v1, v, one l, σ', μ', F'.less ms, rfl, hR, v2, hH'', h5.drop hd hH.flt fun D hD => (hmk D hD).1⟩
  cases xe with
  | exit i => exact h2.elim
  | normal =>
    cases ex' <;> simp only [XExit.rel] at h1
    simp only [retQ] at h2
    split at h2
    · rename_i p l hr
      exact fin ⟨p, l, hr, h2⟩
    · exact h2.elim
  | ret =>
    cases ex' <;> simp only [XExit.rel] at h1
    simp only [retQ] at h2
    split at h2
    · rename_i p l hr
      exact fin ⟨p, l, hr, h2⟩
    · exact h2.elim
end
end Go.Idl
