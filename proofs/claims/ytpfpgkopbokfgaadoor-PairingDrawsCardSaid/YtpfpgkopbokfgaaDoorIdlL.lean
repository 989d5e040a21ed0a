/-
  The walk in a form that simp computes: continuations stay closed, a test is an if, an operation's outcome is looked at by projections.
-/
import Derived.Test.YtpfpgkopbokfgaaDoorIdlO
namespace Go.Idl
set_option linter.all false
open Go.RowKit

def okO (r : Option Out) : Prop := match r with | some _ => True | none => False
def preO (r : Option Out) : Prop := match r with | some r => r.pre | none => False
def vO (r : Option Out) : IV := match r with | some r => r.v | none => .tup []
def wO (r : Option Out) : Option (Nat × IObj) := match r with | some r => r.w | none => none
def okP (r : Option (Prop × Out)) : Prop := match r with | some _ => True | none => False
def cP (r : Option (Prop × Out)) : Prop := match r with | some r => r.1 | none => False
def oP (r : Option (Prop × Out)) : Option Out := match r with | some r => some r.2 | none => none

def isB : Option IV → Prop
  | some (.bool _) => True
  | _ => False
def toB : Option IV → Bool
  | some (.bool b) => b
  | _ => false
def isCall (r : Option (Tgt × List IV)) : Prop := match r with | some _ => True | none => False
def callF (r : Option (Tgt × List IV)) : Tgt := match r with | some r => r.1 | none => .fn 0
def callA (r : Option (Tgt × List IV)) : List IV := match r with | some r => r.2 | none => []
def wantB (r : Option Bool) : Bool := match r with | some b => b | none => false
def wantK (r : Option Bool) : Prop := match r with | some _ => True | none => False

/-- What is done behind a call. -/
def kCall (f : Env → Heap → Prop) (e : Env) (d : Option Tmp) (r : IV) (h : Heap) : Prop := f (e.putO d r) h

/-- The operations, in the text's order. -/
def yOps (P : Program) (ops : List Oper) : List Oper → Env → Heap → (Env → Heap → Prop) → Prop
  | [], e, h, K => K e.clean h
  | o :: rest, e, h, K =>
    if isIt o.op = true then (o.guard.isSome = false ∧ whens e true o.op.operands.toList) ∧ iterQ P o.op e.opS h (kCall (fun e h => yOps P ops rest e h K) e o.dst)
    else if callsGo o = true then
      (if o.guard.isSome = false then
        (isCall (callOf o e) ∧ whens e true o.op.operands.toList) ∧ TCalls P e.gl (callF (callOf o e)) (callA (callOf o e)) h (kCall (fun e h => yOps P ops rest e h K) e o.dst)
      else (isCall (callOf o e) ∧ wantK (wantOf ops e o)) ∧ if wantB (wantOf ops e o) = true then whens e true o.op.operands.toList ∧ TCalls P e.gl (callF (callOf o e)) (callA (callOf o e)) h (kCall (fun e h => yOps P ops rest e h K) e o.dst) else yOps P ops rest (e.putO o.dst (.tup [])) h K)
    else if o.guard.isSome = false then
      (okP (xPure P o e true h h.length) ∧ cP (xPure P o e true h h.length) ∧ preO (oP (xPure P o e true h h.length))) ∧ yOps P ops rest (e.putO o.dst (vO (oP (xPure P o e true h h.length)))) (upd h (wO (oP (xPure P o e true h h.length)))) K
    else wantK (wantOf ops e o) ∧ if (xPure P o e (wantB (wantOf ops e o)) h h.length).isSome = false then wantB (wantOf ops e o) = false ∧ yOps P ops rest (e.putO o.dst (.tup [])) h K else
      if (wO (oP (xPure P o e (wantB (wantOf ops e o)) h h.length))).isSome = false then
        (cP (xPure P o e (wantB (wantOf ops e o)) h h.length) ∧ (wantB (wantOf ops e o) = true → preO (oP (xPure P o e (wantB (wantOf ops e o)) h h.length)))) ∧
          yOps P ops rest (e.putO o.dst (.opt (wantB (wantOf ops e o)) (vO (oP (xPure P o e (wantB (wantOf ops e o)) h h.length))))) h K
      else if wantB (wantOf ops e o) = true then
        (cP (xPure P o e true h h.length) ∧ preO (oP (xPure P o e true h h.length))) ∧ yOps P ops rest (e.putO o.dst (vO (oP (xPure P o e true h h.length)))) (upd h (wO (oP (xPure P o e true h h.length)))) K
      else yOps P ops rest (e.putO o.dst (.tup [])) h K

section
variable {P : Program}

theorem iop_w_some {x : Bool} {op : Op} {ρ : Operand → Option IV} {h : Heap} {nb : Nat} {r r' : Option Out} (h1 : iop P x op ρ h nb = r) (h2 : iop P x op ρ h nb = r') : r = r' := h1.symm.trans h2

theorem iterQ_mono {op : Op} {ρ : Operand → Option IV} {h : Heap} {K K' : IV → Heap → Prop} (hq : iterQ P op ρ h K) (hk : ∀ r σ, K r σ → K' r σ) : iterQ P op ρ h K' := by
  unfold iterQ at *
  split at hq
  · split at hq
    · split at hq
      · exact hk _ _ hq
      · exact hq.elim
    · exact hk _ _ hq
    · exact hq.elim
  · split at hq
    · split at hq
      · exact ⟨fun h => hk _ _ (hq.1 h), fun i kv h => hk _ _ (hq.2 i kv h)⟩
      · exact hq.elim
    · exact hq.elim
  · split at hq
    · split at hq
      · exact hk _ _ hq
      · exact hq.elim
    · exact hq.elim
  · exact hq.elim

theorem yOps_sound {ops : List Oper} : ∀ (rest : List Oper) (e : Env) (σ : Heap) (K : Env → Heap → Prop), yOps P ops rest e σ K → xOps P ops rest e σ K
  | [], e, σ, K, h => h
  | o :: rest, e, σ, K, h => by
    simp only [yOps] at h
    simp only [xOps]
    by_cases hit : isIt o.op = true
    · rw [if_pos hit] at h
      have hw : wantOf ops e o = some true := by
        unfold wantOf
        cases hgd : o.guard with
        | none => rfl
        | some _ => have := h.1.1; rw [hgd] at this; cases this
      rw [hw]
      unfold xOp
      simp only
      rw [if_pos hit]
      exact ⟨fun _ => ⟨h.1.2, iterQ_mono h.2 fun r σ' k => yOps_sound rest _ _ K k⟩, fun hf => by cases hf⟩
    rw [if_neg hit] at h
    cases hc : callsGo o with
    | true =>
      rw [hc] at h
      simp only [if_true] at h
      cases hg : o.guard.isSome with
      | false =>
        rw [hg] at h
        simp only [if_true] at h
        have hw : wantOf ops e o = some true := by
          unfold wantOf
          cases hgd : o.guard with
          | none => rfl
          | some _ => rw [hgd] at hg; cases hg
        rw [hw]
        simp only
        obtain ⟨⟨h1, h2⟩, h3⟩ := h
        unfold xOp
        rw [if_neg hit]
        cases hcall : callOf o e with
        | none => rw [hcall] at h1; exact h1.elim
        | some fa =>
          rw [hcall] at h3
          exact ⟨fun _ => ⟨h2, h3.mono fun r σ' k => yOps_sound rest _ _ K k⟩, fun hf => by cases hf⟩
      | true =>
        rw [hg] at h
        simp only [Bool.true_eq_false, if_false] at h
        obtain ⟨⟨h1, h1'⟩, h2⟩ := h
        cases hw : wantOf ops e o with
        | none => rw [hw] at h1'; exact h1'.elim
        | some g =>
          rw [hw] at h2
          simp only [wantB] at h2
          simp only
          unfold xOp
          rw [if_neg hit]
          cases hcall : callOf o e with
          | none => rw [hcall] at h1; exact h1.elim
          | some fa =>
            rw [hcall] at h2
            cases g with
            | true =>
              simp only [if_true] at h2
              exact ⟨fun _ => ⟨h2.1, h2.2.mono fun r σ' k => yOps_sound rest _ _ K k⟩, fun hf => by cases hf⟩
            | false =>
              simp only [Bool.false_eq_true, if_false] at h2
              exact ⟨fun hf => (by cases hf), fun _ => yOps_sound rest _ _ K h2⟩
    | false =>
      rw [hc] at h
      simp only [Bool.false_eq_true, if_false] at h
      have hcall := callOf_none (e := e) hc
      cases hg : o.guard.isSome with
      | false =>
        rw [hg] at h
        simp only [if_true] at h
        have hw : wantOf ops e o = some true := by
          unfold wantOf
          cases hgd : o.guard with
          | none => rfl
          | some _ => rw [hgd] at hg; cases hg
        rw [hw]
        simp only
        unfold xOp
        rw [if_neg hit, hcall]
        simp only
        obtain ⟨⟨h1, h2, h3⟩, h4⟩ := h
        cases hx : xPure P o e true σ σ.length with
        | none => rw [hx] at h1; exact h1.elim
        | some cr =>
          obtain ⟨c, r⟩ := cr
          rw [hx] at h2 h3 h4
          simp only [cP, oP, preO, vO, wO] at h2 h3 h4
          simp only
          cases hrw : r.w with
          | none =>
            rw [hrw] at h4
            simp only
            refine ⟨⟨h2, fun _ => h3⟩, yOps_sound rest _ _ K ?_⟩
            unfold putG
            rw [hg]; exact h4
          | some bo =>
            obtain ⟨b, ob⟩ := bo
            rw [hrw] at h4
            simp only
            exact ⟨fun _ => ⟨h2, h3, yOps_sound rest _ _ K h4⟩, fun hf => by cases hf⟩
      | true =>
        rw [hg] at h
        simp only [Bool.true_eq_false, if_false] at h
        obtain ⟨h1, h3⟩ := h
        cases hw : wantOf ops e o with
        | none => rw [hw] at h1; exact h1.elim
        | some g =>
          rw [hw] at h3
          simp only [wantB] at h3
          simp only
          unfold xOp
          rw [if_neg hit, hcall]
          simp only
          cases hx : xPure P o e g σ σ.length with
          | none =>
            simp only [hx, Option.isSome_none, if_true] at h3
            exact ⟨h3.1, yOps_sound rest _ _ K h3.2⟩
          | some cr =>
            obtain ⟨c, r⟩ := cr
            simp only [hx, cP, oP, preO, vO, wO, Option.isSome_some, Bool.true_eq_false, if_false] at h3
            simp only
            cases hrw : r.w with
            | none =>
              simp only [hrw, Option.isSome_none, if_true] at h3
              refine ⟨⟨h3.1.1, h3.1.2⟩, yOps_sound rest _ _ K ?_⟩
              unfold putG
              rw [hg]; exact h3.2
            | some bo =>
              obtain ⟨b, ob⟩ := bo
              simp only [hrw, Option.isSome_some, Bool.true_eq_false, if_false] at h3
              simp only
              cases g with
              | true =>
                simp only [if_true] at h3
                simp only [hx, cP, oP, preO, vO, wO] at h3
                rw [hrw] at h3
                exact ⟨fun _ => ⟨h3.1.1, h3.1.2, yOps_sound rest _ _ K h3.2⟩, fun hf => by cases hf⟩
              | false =>
                simp only [Bool.false_eq_true, if_false] at h3
                exact ⟨fun hf => (by cases hf), fun _ => yOps_sound rest _ _ K h3⟩
end
def okS (r : Option (Prop × IV × Option (Nat × IObj))) : Prop := match r with | some _ => True | none => False
def cS (r : Option (Prop × IV × Option (Nat × IObj))) : Prop := match r with | some r => r.1 | none => False
def vS (r : Option (Prop × IV × Option (Nat × IObj))) : IV := match r with | some r => r.2.1 | none => .tup []
def wS (r : Option (Prop × IV × Option (Nat × IObj))) : Option (Nat × IObj) := match r with | some r => r.2.2 | none => none

/-- The operations of a region that draws, in the text's order. -/
def yRun (P : Program) (orc : Nat → IV) (ops : List Oper) (nb : Nat) : Nat → List Oper → List (Nat × List Nat × List Nat) → List (Nat × Nat) → Env → Heap → (Env → Heap → Prop) → Prop
  | _, [], _, pairs, e, h, K => drawOK P ops pairs = true ∧ K e.clean h
  | k, o :: rest, acc, pairs, e, h, K => (okS (step1 P orc ops o e h (nb + k)) ∧ cS (step1 P orc ops o e h (nb + k)) ∧ hget h (nb + k) = none) ∧
      yRun P orc ops nb (k + 1) rest ((k, foot e o, wOf nb k (wS (step1 P orc ops o e h (nb + k)))) :: acc) (clash acc k (foot e o) (wOf nb k (wS (step1 P orc ops o e h (nb + k)))) ++ pairs)
        (e.putO o.dst (vS (step1 P orc ops o e h (nb + k)))) (upd h (wS (step1 P orc ops o e h (nb + k)))) K

theorem yRun_sound {P : Program} {orc : Nat → IV} {ops : List Oper} {nb : Nat} : ∀ (rest : List Oper) (k : Nat) (acc : List (Nat × List Nat × List Nat)) (pairs : List (Nat × Nat)) (e : Env) (σ : Heap) (K : Env → Heap → Prop), yRun P orc ops nb k rest acc pairs e σ K → tRun P orc ops nb k rest acc pairs e σ K
  | [], _, _, _, _, _, _, h => h
  | o :: rest, k, acc, pairs, e, σ, K, h => by
    simp only [yRun] at h
    simp only [tRun]
    obtain ⟨⟨h1, h2, h3⟩, h4⟩ := h
    cases hs : step1 P orc ops o e σ (nb + k) with
    | none => rw [hs] at h1; exact h1.elim
    | some r =>
      obtain ⟨c, v, w⟩ := r
      rw [hs] at h2 h4
      exact ⟨⟨h2, h3⟩, yRun_sound rest _ _ _ _ _ K h4⟩

/-- Whether a region calls Go functions. -/
def hasCall (ops : List Oper) : Bool := ops.any callsGo
/-- A region that draws its order and calls Go functions. -/
def Drawn (P : Program) (ops : List Oper) (Q : XPost) (e : Env) (σ : Heap) : Prop := ∀ id : Nat, IWp P (.region id ops.toArray true) Q e σ

/-- The walk. -/
def yC (P : Program) : Code → XPost → Env → Heap → Prop
  | .skip, Q, e, σ => Q .normal e σ
  | .label _, Q, e, σ => Q .normal e σ
  | .ret, Q, e, σ => Q .ret e σ
  | .exit id, Q, e, σ => Q (.exit id) e σ
  | .seq c d, Q, e, σ => yC P c (thenQ (fun e σ => yC P d Q e σ) Q) e σ
  | .block id c, Q, e, σ => yC P c (blockQ id Q) e σ
  | .region _ ops false, Q, e, σ => yOps P ops.toList ops.toList e σ fun e σ => Q .normal e σ
  | .region _ ops true, Q, e, σ => if hasCall ops.toList = true then Drawn P ops.toList Q e σ else yRun P (fun _ => .tup []) ops.toList σ.length 0 ops.toList [] [] e σ fun e σ => Q .normal e σ
  | .cond c t f, Q, e, σ => (isB (e.opS c) ∧ e.wh c = true) ∧ if toB (e.opS c) = true then yC P t Q e σ else yC P f Q e σ
  | c, Q, e, σ => IWp P c Q e σ

theorem yC_sound {P : Program} : ∀ (c : Code) (Q : XPost) (e : Env) (σ : Heap), yC P c Q e σ → IWp P c Q e σ := by
  intro c
  induction c with
  | skip => exact fun _ _ _ h => IWp.skip h
  | label l => exact fun _ _ _ h => IWp.label h
  | ret => exact fun _ _ _ h => IWp.ret h
  | exit id => exact fun _ _ _ h => IWp.exit h
  | seq c d ih1 ih2 =>
    intro Q e σ h
    refine IWp.seq ((ih1 _ e σ h).mono fun x e' σ' hq => ?_)
    cases x with
    | normal => exact ih2 Q e' σ' hq
    | exit i => exact hq
    | ret => exact hq
  | block id c ih => exact fun Q e σ h => IWp.block (ih _ e σ h)
  | region _ ops draw =>
    intro Q e σ h
    cases draw with
    | false => exact IWp.region (yOps_sound _ _ _ _ h)
    | true =>
      simp only [yC] at h
      split at h
      · simpa using h _
      · exact IWp.region_any (yRun_sound _ _ _ _ _ _ _ h)
  | cond c t f ih1 ih2 =>
    intro Q e σ h
    obtain ⟨⟨h1, h2⟩, h3⟩ := h
    cases hb : e.opS c with
    | none => rw [hb] at h1; exact h1.elim
    | some v =>
      cases v with
      | bool b =>
        rw [hb] at h3
        simp only [toB] at h3
        refine IWp.cond hb h2 (fun hb => ih1 Q e σ ?_) (fun hb => ih2 Q e σ ?_)
        · subst hb; simpa using h3
        · subst hb; simpa using h3
      | _ => rw [hb] at h1; exact h1.elim
  | loop c _ => exact fun _ _ _ h => h
  | rangeFunc f ps a b _ _ => exact fun _ _ _ h => h
  | scope c _ => exact fun _ _ _ h => h
  | goto l => exact fun _ _ _ h => h
  | refuse w => exact fun _ _ _ h => h

end Go.Idl
