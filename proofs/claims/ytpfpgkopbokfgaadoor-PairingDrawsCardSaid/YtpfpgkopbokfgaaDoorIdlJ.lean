/-
  A region's operations one after another; calls.
-/
import Derived.Test.YtpfpgkopbokfgaaDoorIdlI
import Derived.Tactics
import Derived.TacticsIn
import Derived.RangeFuncRecord
import Derived.RangeFuncNested
import Derived.Maps.RangeRun
namespace Go.Idl
set_option linter.all false
open Go.RowKit

/-- A call of a Go function, over ideal values: it returns; what it hands back and the blocks behind it are as R says. gl: what package-level variables hold. -/
def ICalls (P : Program) (gl : List (Nat × IV)) (f : FuncId) (args : List IV) (σ : Heap) (R : IV → Heap → Prop) : Prop :=
  (∀ (args : Array Value) (w : World), (callFunc f args).run P w = .ok (.enter f args) w) ∧
  ∀ (μ : Mu) (F : Fz) (w : World) (vs : List Value), HR μ F σ w → VRs μ F w vs args → (∀ (g : Nat) (c : IV), eget gl g = some c → VR μ F w (.pointer (some ⟨g, 0, none⟩)) c) →
    Calls P f vs.toArray w fun e w' => ∃ v r σ' μ' F', e = .returned v ∧ R r σ' ∧ VR μ' F' w' v r ∧ HR μ' F' σ' w' ∧ Ext μ F w μ' F' w'

theorem ICalls.mono {P : Program} {gl : List (Nat × IV)} {f : FuncId} {args : List IV} {σ : Heap} {R R' : IV → Heap → Prop} (h : ICalls P gl f args σ R) (hr : ∀ r σ', R r σ' → R' r σ') : ICalls P gl f args σ R' :=
  ⟨h.1, fun μ F w vs h1 h2 h3 => (h.2 μ F w vs h1 h2 h3).mono fun _ _ ⟨v, r, σ', μ', F', e1, e2, e3⟩ => ⟨v, r, σ', μ', F', e1, hr _ _ e2, e3⟩⟩

/-- A frame's place: in a round of which loop. Nothing else is fenced. -/
def Rd (ro : Option Nat) : Fence := { Fence.wide with round := ro }

/-- A call of yield. -/
def YCalls (P : Program) (gl : List (Nat × IV)) (l : Nat) (args : List IV) (σ : Heap) (R : IV → Heap → Prop) : Prop :=
  ∀ (μ : Mu) (F : Fz) (w : World) (vs : List Value), HR μ F σ w → VRs μ F w vs args → (∀ (g : Nat) (c : IV), eget gl g = some c → VR μ F w (.pointer (some ⟨g, 0, none⟩)) c) →
    ∃ fn tmps as body, (Instr.yield l vs.toArray).run P w = .ok (.round l fn tmps as body) w ∧
      RoundIn (Rd none) 0 P l fn tmps as body w fun e w' => ∃ v r σ' μ' F', e = .returned v ∧ R r σ' ∧ VR μ' F' w' v r ∧ HR μ' F' σ' w' ∧ Ext μ F w μ' F' w'

inductive Tgt where
  | fn (f : FuncId)
  | yl (l : Nat)

/-- What is called: a Go function, or yield. -/
def TCalls (P : Program) (gl : List (Nat × IV)) : Tgt → List IV → Heap → (IV → Heap → Prop) → Prop
  | .fn f => ICalls P gl f
  | .yl l => YCalls P gl l

theorem TCalls.mono {P : Program} {gl : List (Nat × IV)} {f : Tgt} {args : List IV} {σ : Heap} {R R' : IV → Heap → Prop} (h : TCalls P gl f args σ R) (hr : ∀ r σ', R r σ' → R' r σ') : TCalls P gl f args σ R' := by
  cases f with
  | fn f => exact ICalls.mono h hr
  | yl l => exact fun μ F w vs h1 h2 h3 => let ⟨fn, tmps, as, body, k1, k2⟩ := h μ F w vs h1 h2 h3; ⟨fn, tmps, as, body, k1, k2.mono fun _ _ ⟨v, r, σ', μ', F', e1, e2, e3⟩ => ⟨v, r, σ', μ', F', e1, hr _ _ e2, e3⟩⟩

/-- Whether an operation is carried out. -/
def wantOf (ops : List Oper) (e : Env) (o : Oper) : Option Bool :=
  match o.guard with
  | none => some true
  | some (j, want) => match gslot ops j with
    | none => some false
    | some t => match e.get t with
      | some (.bool b) => some (b == want)
      | some (.opt g (.bool b)) => some (g && (b == want))
      | some (.tup []) => some false
      | _ => none

def Env.opS (e : Env) (x : Operand) : Option IV := (e.opnd x).map IV.strip
def Env.wh (e : Env) (x : Operand) : Bool := match e.opnd x with | some c => c.when | none => true
def whens (e : Env) (g : Bool) : List Operand → Prop
  | [] => True
  | x :: l => (g = true → e.wh x = true) ∧ whens e g l

def xPure (P : Program) (o : Oper) (e : Env) (g : Bool) (h : Heap) (nb : Nat) : Option (Prop × Out) :=
  match o.op with
  | .pick c x y => match e.opS c, e.opS x, e.opS y with
    | some (.bool b), some (.bool p), some (.bool q) => some ((g = true → e.wh c = true) ∧ (g = true → b = true → e.wh x = true) ∧ (g = true → b = false → e.wh y = true), ⟨True, .bool (bif b then p else q), none⟩)
    | some (.bool b), some (.bool p), some (.tup []) => some ((g = true → e.wh c = true) ∧ (g = true → b = true) ∧ (g = true → e.wh x = true), ⟨True, .bool p, none⟩)
    | some (.bool b), some (.tup []), some (.bool q) => some ((g = true → e.wh c = true) ∧ (g = true → b = false) ∧ (g = true → e.wh y = true), ⟨True, .bool q, none⟩)
    | _, _, _ => none
  | op => (iop P e.x op e.opS h nb).map fun r => (whens e g op.operands.toList, r)

/-- The Go function that is called, and with what. -/
def callOf (o : Oper) (e : Env) : Option (Tgt × List IV) :=
  match o.op with
  | .call c => match c.callee with
    | .value f => match e.opS f with
      | some (.func (.func fid) first cap) => (opsnd e.opS c.args.toList).map fun as => (.fn fid, first ++ as ++ cap)
      | some (.func (.yield l) [] []) => (opsnd e.opS c.args.toList).map fun as => (.yl l, as)
      | _ => none
    | _ => none
  | _ => none

def putG (e : Env) (guarded : Bool) (g : Bool) (d : Option Tmp) (v : IV) : Env := e.putO d (bif guarded then .opt g v else v)

/-- Walks over maps. -/
def isIt : Op → Bool
  | .range _ _ | .next _ false | .entry _ => true
  | _ => false
/-- A walk's next step: it is over, or some entry comes, whichever. -/
def nextQ (K : IV → Heap → Prop) (h : Heap) (x : Nat) (b : Option Nat) (es todo : List (IV × IV)) : Prop :=
  (todo = [] → K (.tup [.bool false]) h) ∧ ∀ (i : Nat) (kv : IV × IV), todo[i]? = some kv → K (.tup [.bool true, kv.1, kv.2]) (h.set x (.iter b es (some kv) (todo.eraseIdx i)))
def iterQ (P : Program) (op : Op) (ρ : Operand → Option IV) (h : Heap) (K : IV → Heap → Prop) : Prop := match op with
  | .range t x => match P.underlying t, ρ x with
    | some (.map _ _), some (.map b) => match h[b]? with
      | some (.map es) => K (.iter h.length) (h.set b .dead ++ [.iter (some b) es none es])
      | _ => False
    | some (.map _ _), some .nilm => K (.iter h.length) (h ++ [.iter none [] none []])
    | _, _ => False
  | .next x false => match ρ x with
    | some (.iter x) => match h[x]? with
      | some (.iter b es _ todo) => nextQ K h x b es todo
      | _ => False
    | _ => False
  | .entry x => match ρ x with
    | some (.iter x) => match h[x]? with
      | some (.iter (some _) _ (some kv) _) => K (.tup [kv.1, kv.2]) h
      | _ => False
    | _ => False
  | _ => False

def xOp (P : Program) (o : Oper) (e : Env) (h : Heap) (g : Bool) (K : Env → Heap → Prop) : Prop :=
  if isIt o.op = true then (g = true → whens e g o.op.operands.toList ∧ iterQ P o.op e.opS h fun r h' => K (e.putO o.dst r) h') ∧ (g = false → K (e.putO o.dst (.tup [])) h) else
  match callOf o e with
  | some (f, args) => (g = true → whens e g o.op.operands.toList ∧ TCalls P e.gl f args h fun r h' => K (e.putO o.dst r) h') ∧ (g = false → K (e.putO o.dst (.tup [])) h)
  | none => match xPure P o e g h h.length with
    | some (c, r) => match r.w with
      | none => (c ∧ (g = true → r.pre)) ∧ K (putG e o.guard.isSome g o.dst r.v) h
      | some (b, ob) => (g = true → c ∧ r.pre ∧ K (e.putO o.dst r.v) (hput h b ob)) ∧ (g = false → K (e.putO o.dst (.tup [])) h)
    | none => g = false ∧ K (e.putO o.dst (.tup [])) h

def xOps (P : Program) (ops : List Oper) : List Oper → Env → Heap → (Env → Heap → Prop) → Prop
  | [], e, h, K => K e.clean h
  | o :: rest, e, h, K => match wantOf ops e o with
    | none => False
    | some g => xOp P o e h g fun e h => xOps P ops rest e h K

section
variable {P : Program} {μ : Mu} {F : Fz} {w : World} {σ : Heap} {a : Act} {e : Env}

theorem wantOf_sound {ops : Array Oper} {o : Oper} {g : Bool} (hE : EnvR μ F w a.tmps e) (h : wantOf ops.toList e o = some g) : Region.wanted o (yielded ops a.tmps) = g := by
  unfold wantOf at h
  unfold Region.wanted
  split at h
  · rename_i hg; cases h; rw [hg]
  · rename_i j want hg
    rw [hg]
    simp only
    unfold yielded
    unfold gslot at h
    have e1 : ops.toList[j]? = ops[j]? := by simp
    rw [e1] at h
    cases ho : ops[j]? with
    | none => rw [ho] at h; simp at h; subst h; rfl
    | some oj =>
      rw [ho] at h
      simp only at h
      cases hd : oj.dst with
      | none => rw [hd] at h; simp at h; subst h; simp [hd]
      | some t =>
        rw [hd] at h
        simp only at h
        simp only [Option.bind_some, hd]
        split at h
        · rename_i b hb
          obtain ⟨v, h1, h2⟩ := hE.slot t _ hb
          cases h2
          rw [h1]
          cases h
          cases b <;> cases want <;> rfl
        · rename_i g' b hb
          obtain ⟨v, h1, h2⟩ := hE.slot t _ hb
          rw [h1]
          cases h
          cases h2 with
          | opt _ _ _ hv1 hv0 =>
            cases g' with
            | true =>
              have := hv1 rfl
              cases this
              cases b <;> cases want <;> rfl
            | false =>
              have := hv0 rfl
              subst this
              cases want <;> rfl
        · rename_i hb
          obtain ⟨v, h1, h2⟩ := hE.slot t _ hb
          rw [h1]
          cases h
          cases h2 with
          | tup vs _ hl _ =>
            cases want <;> rfl
        · cases h

theorem strip_vr {v : Value} {c : IV} (h : VR μ F w v c) (hw : c.when = true) : VR μ F w v c.strip := by
  cases c with
  | opt g u =>
    cases h with
    | opt _ _ _ h1 _ => exact h1 hw
  | _ => exact h

theorem opS_vr (hE : EnvR μ F w a.tmps e) {x : Operand} {c : IV} (h : e.opS x = some c) (hw : e.wh x = true) : VR μ F w (a.eval x) c := by
  unfold Env.opS at h
  simp only [Option.map_eq_some_iff] at h
  obtain ⟨c', h1, rfl⟩ := h
  unfold Env.wh at hw
  rw [h1] at hw
  exact strip_vr (hE.opnd x c' h1) hw

theorem whens_mem : ∀ {l : List Operand}, whens e true l → ∀ x ∈ l, e.wh x = true
  | x :: l, h, y, hy => by
    rcases List.mem_cons.1 hy with h1 | h1
    · subst h1; exact h.1 rfl
    · exact whens_mem h.2 y h1

/-! ### an operation looks at its operands alone -/
theorem opsnd_congr {ρ ρ' : Operand → Option IV} : ∀ (l : List Operand), (∀ x ∈ l, ρ x = ρ' x) → opsnd ρ l = opsnd ρ' l
  | [], _ => rfl
  | x :: l, h => by simp only [opsnd, h x (by simp), opsnd_congr l fun y hy => h y (by simp [hy])]
theorem partsV_congr {ρ ρ' : Operand → Option IV} : ∀ (l : List (Nat × Operand)), (∀ p ∈ l, ρ p.2 = ρ' p.2) → partsV ρ l = partsV ρ' l
  | [], _ => rfl
  | p :: l, h => by simp only [partsV, h p (by simp), partsV_congr l fun y hy => h y (by simp [hy])]

theorem iop_congr {ρ ρ' : Operand → Option IV} {x : Bool} {op : Op} {h : Heap} {nb : Nat} (hρ : ∀ y ∈ op.operands.toList, ρ y = ρ' y) : iop P x op ρ h nb = iop P x op ρ' h nb := by
  cases op with
  | makeFunc fn first captured =>
    have h1 := opsnd_congr (ρ := ρ) (ρ' := ρ') first.toList fun y hy => hρ y (by simp [Op.operands]; exact .inl (by simpa using hy))
    have h2 := opsnd_congr (ρ := ρ) (ρ' := ρ') captured.toList fun y hy => hρ y (by simp [Op.operands]; exact .inr (by simpa using hy))
    simp only [iop, h1, h2]
  | build t parts =>
    have h1 := partsV_congr (ρ := ρ) (ρ' := ρ') parts.toList fun p hp => hρ p.2 (by simp [Op.operands]; exact ⟨p.1, by simpa using hp⟩)
    simp only [iop, h1]
  | buildSlice t len parts =>
    have h1 := partsV_congr (ρ := ρ) (ρ' := ρ') parts.toList fun p hp => hρ p.2 (by simp [Op.operands]; exact ⟨p.1, by simpa using hp⟩)
    simp only [iop, h1]
  | call c =>
    have h1 := opsnd_congr (ρ := ρ) (ρ' := ρ') c.args.toList fun y hy => hρ y (by simp [Op.operands, Call.operands]; exact .inr (by simpa using hy))
    simp only [iop, h1]
  | slice t y lo hi mx =>
    have h0 := hρ y (by simp [Op.operands])
    have h1 : loV ρ lo = loV ρ' lo := by
      cases lo with
      | none => rfl
      | some z => simp only [loV, hρ z (by simp [Op.operands])]
    have h2 : ∀ n, hiV ρ hi n = hiV ρ' hi n := fun n => by
      cases hi with
      | none => rfl
      | some z => simp only [hiV, hρ z (by simp [Op.operands])]
    cases mx with
    | none => simp only [iop, h0, h1, h2]
    | some _ => rfl
  | makeMap t r => cases r <;> rfl
  | move y => simp only [iop, hρ y (by simp [Op.operands])]
  | assign y => simp only [iop, hρ y (by simp [Op.operands])]
  | unOp op t y => simp only [iop, hρ y (by simp [Op.operands])]
  | convert s d y => simp only [iop, hρ y (by simp [Op.operands])]
  | extract y i => simp only [iop, hρ y (by simp [Op.operands])]
  | nilCheck y => simp only [iop, hρ y (by simp [Op.operands])]
  | field t y f => simp only [iop, hρ y (by simp [Op.operands])]
  | fieldAddr t y f => simp only [iop, hρ y (by simp [Op.operands])]
  | load t y => simp only [iop, hρ y (by simp [Op.operands])]
  | box t y => simp only [iop, hρ y (by simp [Op.operands])]
  | binOp op t y z ty => simp only [iop, hρ y (by simp [Op.operands]), hρ z (by simp [Op.operands])]
  | indexAddr t y z => simp only [iop, hρ y (by simp [Op.operands]), hρ z (by simp [Op.operands])]
  | index t y z => simp only [iop, hρ y (by simp [Op.operands]), hρ z (by simp [Op.operands])]
  | store t y z => simp only [iop, hρ y (by simp [Op.operands]), hρ z (by simp [Op.operands])]
  | makeSlice t y z => simp only [iop, hρ y (by simp [Op.operands]), hρ z (by simp [Op.operands])]
  | pick c y z => simp only [iop, hρ c (by simp [Op.operands]), hρ y (by simp [Op.operands]), hρ z (by simp [Op.operands])]
  | alloc t => rfl
  | lookup t y z cok => simp only [iop, hρ y (by simp [Op.operands]), hρ z (by simp [Op.operands])]
  | mapUpdate t m y z => simp only [iop, hρ m (by simp [Op.operands]), hρ y (by simp [Op.operands]), hρ z (by simp [Op.operands])]
  | insert t m y z => simp only [iop, hρ m (by simp [Op.operands]), hρ y (by simp [Op.operands]), hρ z (by simp [Op.operands])]
  | _ => rfl

/-- A pure operation, carried out. -/
theorem xPure_goes {o : Oper} {nb : Nat} {c : Prop} {r : Out} (hE : EnvR μ F w a.tmps e) (hH : HR μ F σ w) (hnb : ¬ μ.u nb) (h : xPure P o e true σ nb = some (c, r)) (hc : c) (hp : r.pre) : Goes μ F w σ r ((execOp a.eval o).run P w) := by
  have gen : ∀ op, o.op = op → ((iop P e.x op e.opS σ nb).map fun r => (whens e true op.operands.toList, r)) = some (c, r) → Goes μ F w σ r ((execOp a.eval o).run P w) := fun op ho h => by
    simp only [Option.map_eq_some_iff, Prod.mk.injEq] at h
    obtain ⟨r', h1, h2, rfl⟩ := h
    have hwh : whens e true op.operands.toList := by rw [h2]; exact hc
    let ρ1 : Operand → Option IV := fun x => if e.wh x = true then e.opS x else none
    have e1 : iop P e.x op e.opS σ nb = iop P e.x op ρ1 σ nb := iop_congr fun y hy => by
      show e.opS y = if e.wh y = true then e.opS y else none
      rw [if_pos (whens_mem hwh y hy)]
    rw [e1] at h1
    refine iop_goes ho (ρ := ρ1) (fun x c hx => ?_) hH hnb h1 hp
    have hx' : (if e.wh x = true then e.opS x else none) = some c := hx
    split at hx'
    · rename_i hw; exact opS_vr hE hx' hw
    · cases hx'
  unfold xPure at h
  split at h
  · rename_i cc x y ho
    split at h
    · rename_i b p q hb hpp hq
      simp only [Option.some.injEq, Prod.mk.injEq] at h
      obtain ⟨rfl, rfl⟩ := h
      obtain ⟨c1, c2, c3⟩ := hc
      have v1 := opS_vr hE hb (c1 (by trivial))
      refine Goes.pure hH (u := .bool (bif b then p else q)) ?_ (.bool _) rfl
      generalize e1 : a.eval cc = u1 at *
      cases v1
      cases b with
      | true =>
        have v2 := opS_vr hE hpp (c2 (by trivial) rfl)
        generalize e2 : a.eval x = u2 at *
        cases v2
        simp [execOp, ho, e1, e2, asBool]
      | false =>
        have v3 := opS_vr hE hq (c3 (by trivial) rfl)
        generalize e3 : a.eval y = u3 at *
        cases v3
        simp [execOp, ho, e1, e3, asBool]
    · rename_i b p hb hpp hq
      simp only [Option.some.injEq, Prod.mk.injEq] at h
      obtain ⟨rfl, rfl⟩ := h
      obtain ⟨c1, c2, c3⟩ := hc
      have v1 := opS_vr hE hb (c1 (by trivial))
      have hbt := c2 (by trivial)
      subst hbt
      refine Goes.pure hH (u := .bool p) ?_ (.bool _) rfl
      generalize e1 : a.eval cc = u1 at *
      cases v1
      have v2 := opS_vr hE hpp (c3 (by trivial))
      generalize e2 : a.eval x = u2 at *
      cases v2
      simp [execOp, ho, e1, e2, asBool]
    · rename_i b q hb hpp hq
      simp only [Option.some.injEq, Prod.mk.injEq] at h
      obtain ⟨rfl, rfl⟩ := h
      obtain ⟨c1, c2, c3⟩ := hc
      have v1 := opS_vr hE hb (c1 (by trivial))
      have hbt := c2 (by trivial)
      subst hbt
      refine Goes.pure hH (u := .bool q) ?_ (.bool _) rfl
      generalize e1 : a.eval cc = u1 at *
      cases v1
      have v3 := opS_vr hE hq (c3 (by trivial))
      generalize e3 : a.eval y = u3 at *
      cases v3
      simp [execOp, ho, e1, e3, asBool]
    · cases h
  · exact gen _ rfl h

theorem VRs.append {us vs : List Value} {cs ds : List IV} (h : VRs μ F w us cs) (k : VRs μ F w vs ds) : VRs μ F w (us ++ vs) (cs ++ ds) := by
  refine ⟨by simp [h.1, k.1], fun j v c e1 e2 => ?_⟩
  by_cases hj : j < us.length
  · rw [List.getElem?_append_left hj] at e1
    rw [List.getElem?_append_left (by rw [← h.1]; exact hj)] at e2
    exact h.2 j v c e1 e2
  · rw [List.getElem?_append_right (by omega)] at e1
    rw [List.getElem?_append_right (by rw [← h.1]; omega)] at e2
    rw [← h.1] at e2
    exact k.2 _ v c e1 e2

theorem undef_eq : undef = Value.tuple #[] := rfl
theorem vr_tup0 : VR μ F w undef (.tup []) := .tup [] [] rfl (by simp)

theorem args_vrs (hE : EnvR μ F w a.tmps e) {l : List Operand} {as : List IV} (hwa : ∀ y ∈ l, e.wh y = true) (has : opsnd e.opS l = some as) : VRs μ F w (l.map a.eval) as := by
  have e1 : opsnd e.opS l = opsnd (fun x => if e.wh x = true then e.opS x else none) l := opsnd_congr _ fun y hy => by simp [hwa y hy]
  rw [e1] at has
  refine opsnd_vrs (fun x c hx => ?_) _ _ has
  split at hx
  · rename_i hw; exact opS_vr hE hx hw
  · cases hx

theorem HR.toDead (hH : HR μ F σ w) (b : Nat) : HR μ F (σ.set b .dead) w := by
  have hget : ∀ (x : Nat) (o : IObj), (σ.set b .dead)[x]? = some o → o = .dead ∨ σ[x]? = some o := fun x o h => by
    rw [List.getElem?_set] at h
    split at h
    · split at h
      · simp only [Option.some.injEq] at h; exact .inl h.symm
      · cases h
    · exact .inr h
  refine ⟨fun x hu => ?_, fun x o ho => ?_, hH.inj, hH.fro, hH.lt, hH.flt, fun x y l r r' e e' h1 h2 => ?_, fun x y es cur todo o h1 h2 => ?_⟩
  · obtain ⟨o, h1, h2⟩ := hH.n x hu
    rw [List.getElem?_set]
    by_cases e : b = x
    · subst e
      exact ⟨.dead, by simp [(List.getElem?_eq_some_iff.1 h1).1], rfl⟩
    · exact ⟨o, by rw [if_neg e]; exact h1, h2⟩
  · rcases hget x o ho with rfl | h
    · trivial
    · exact hH.obj x o h
  · exact hH.yin x y l r r' e e' ((hget _ _ h1).resolve_left (by intro h; cases h)) ((hget _ _ h2).resolve_left (by intro h; cases h))
  · rcases hget _ _ h2 with h | h
    · exact h
    · exact hH.itd x y es cur todo o ((hget _ _ h1).resolve_left (by intro h; cases h)) h

theorem hput_end (σ : Heap) (o : IObj) : Idl.hput σ σ.length o = σ ++ [o] := by
  apply List.ext_getElem?
  intro b
  rw [getElem?_hput, List.getElem?_append]
  by_cases h1 : b = σ.length
  · subst h1; simp
  · by_cases h2 : b < σ.length
    · simp [h1, h2]
    · simp only [h1, h2, if_false]
      symm; simp; omega
theorem hput_set {σ : Heap} {x : Nat} {o : IObj} (h : x < σ.length) : Idl.hput σ x o = σ.set x o := by
  apply List.ext_getElem?
  intro b
  rw [getElem?_hput, List.getElem?_set]
  by_cases h1 : b = x
  · subst h1; simp [h]
  · rw [if_neg h1, if_neg (Ne.symm h1)]
    split
    · rfl
    · rw [if_neg (by omega)]
      rename_i h2
      symm; simp; omega

theorem erase_filter : ∀ (L : List MapEntry) (i : Nat) (e : MapEntry), (L.map (·.born)).Nodup → L[i]? = some e → L.filter (fun x => x.born != e.born) = L.eraseIdx i
  | [], i, e, _, h => by simp at h
  | x :: L, 0, e, hn, h => by
    simp at h; subst h
    simp only [List.map_cons, List.nodup_cons] at hn
    simp only [List.filter_cons, bne_self_eq_false, Bool.false_eq_true, if_false, List.eraseIdx_cons_zero]
    refine List.filter_eq_self.2 fun y hy => ?_
    have : y.born ≠ x.born := fun e => hn.1 (by rw [← e]; exact List.mem_map_of_mem hy)
    simpa using this
  | x :: L, i + 1, e, hn, h => by
    simp only [List.map_cons, List.nodup_cons] at hn
    have h' : L[i]? = some e := by simpa using h
    have : x.born ≠ e.born := fun q => hn.1 (by rw [q]; exact List.mem_map_of_mem (List.mem_of_getElem? h'))
    simp only [List.filter_cons, List.eraseIdx_cons_succ]
    rw [if_pos (by simpa using this), erase_filter L i e hn.2 h']

theorem EntsR.erase {es' : List MapEntry} {es : List (IV × IV)} (h : EntsR μ F w es' es) (i : Nat) : EntsR μ F w (es'.eraseIdx i) (es.eraseIdx i) := by
  refine ⟨by simp [List.length_eraseIdx, h.1], fun j e p h1 h2 => ?_⟩
  rw [List.getElem?_eraseIdx] at h1 h2
  split at h1
  · rename_i hlt; rw [if_pos hlt] at h2; exact h.2 j e p h1 h2
  · rename_i hlt; rw [if_neg hlt] at h2; exact h.2 (j + 1) e p h1 h2

theorem iter_goes {o : Oper} {K : IV → Heap → Prop} (hE : EnvR μ F w a.tmps e) (hH : HR μ F σ w) (hwh : whens e true o.op.operands.toList) (h : iterQ P o.op e.opS σ K) :
    ∃ v w' μ' r σ', (execOp a.eval o).run P w = .ok (.value v) w' ∧ K r σ' ∧ VR μ' F w' v r ∧ HR μ' F σ' w' ∧ Ext μ F w μ' F w' := by
  have hnb : ¬ μ.u σ.length := fun hu => by obtain ⟨o, h1, _⟩ := hH.n _ hu; simp at h1
  have hwo : ∀ x, o.op.operands.toList = [x] → e.wh x = true := fun x hx => whens_mem hwh x (by rw [hx]; simp)
  unfold iterQ at h
  split at h
  · rename_i t x hop
    split at h
    · rename_i kt et b hu hx
      split at h
      · rename_i es hb
        have hv := opS_vr hE hx (hwo x (by rw [hop]; rfl))
        obtain ⟨g, es', cl, hv', hub, hsb, hpl, hg, he, hnd, hcl⟩ := map_obj hH hb hv
        have hrun := run_range_map (P := P) w t kt et g es' cl hu hg
        have hle : μ.le (μ.add σ.length 0 0 0 (.at_ w.heap.size 0)) := Mu.le_add hnb
        have hw : ∀ k, k < w.heap.size → (μ.u σ.length → ∀ off, μ.pl σ.length ≠ .at_ k off) → (w.alloc (.mapIter (some g) cl #[] cl)).heap[k]? = w.heap[k]? := fun k hk _ => Below.heap_alloc _ _ _ hk
        have hd := hH.toDead b
        have hlen : (σ.set b IObj.dead).length = σ.length := by simp
        have hblt := (List.getElem?_eq_some_iff.1 hb).1
        have hglt := hH.lt b g 0 hub hpl
        have hbne : b ≠ σ.length := by omega
        have hch := hd.change (b := σ.length) (o' := .iter (some b) es none es) (w' := w.alloc (.mapIter (some g) cl #[] cl)) hle (fun x e => Mu.add_other x e) hw (fun g off _ e => by simp [Mu.add] at e; obtain ⟨rfl, rfl⟩ := e; simp) (by simp) rfl rfl rfl (hd.notItN hnb)
          ⟨.inl rfl, by simp [Mu.add], w.heap.size, by simp [Mu.add], .inr hub, by simp [Mu.add, hbne, hsb], g, es', cl, cl, #[], by simp [Mu.add, hbne, hpl], (Below.heap_alloc _ _ _ hglt).trans hg, heap_alloc_new _ _, Nat.le_refl _, hcl, hnd,
            he.mono fun h => h.mono hle (fun _ h => h) (hd.frozen_same hw), by
              have : es'.toList.filter (fun e => !(#[] : Array Nat).contains e.born) = es'.toList := List.filter_eq_self.2 fun _ _ => by simp
              rw [this]; exact he.mono fun h => h.mono hle (fun _ h => h) (hd.frozen_same hw), by simp⟩ rfl (by intros; intro h; cases h)
          (fun y es2 cur todo o2 ho2 hy => by
            cases ho2
            rw [getElem?_hput, if_neg hbne, if_pos (by simpa using hblt)] at hy
            simp [hblt] at hy
            exact hy.symm)
        refine ⟨.pointer (some ⟨w.heap.size, 0, none⟩), _, _, _, _, ?_, h, ?_, ?_, hch.2⟩
        · simp [execOp, hop, hv', hrun]
        · exact .iter _ _ rfl (show _ ∨ _ from .inl rfl) (by simp [Mu.add, IterOK]) (by simp [Mu.add])
        · have h1 := hch.1
          have e1 : Idl.hput (σ.set b .dead) σ.length (.iter (some b) es none es) = σ.set b .dead ++ [.iter (some b) es none es] := by
            have := hput_end (σ.set b IObj.dead) (.iter (some b) es none es)
            rwa [hlen] at this
          rw [e1] at h1
          exact h1
      · exact h.elim
    · rename_i kt et hu hx
      have hv := opS_vr hE hx (hwo x (by rw [hop]; rfl))
      generalize hev : a.eval x = v at hv
      cases hv
      have hrun := run_range_nilMap (P := P) w t kt et hu
      have hle : μ.le (μ.add σ.length 0 0 0 (.at_ w.heap.size 0)) := Mu.le_add hnb
      have hw : ∀ k, k < w.heap.size → (μ.u σ.length → ∀ off, μ.pl σ.length ≠ .at_ k off) → (w.alloc (.mapIter none 0 #[] 0)).heap[k]? = w.heap[k]? := fun k hk _ => Below.heap_alloc _ _ _ hk
      have hch := hH.change (b := σ.length) (o' := .iter none [] none []) (w' := w.alloc (.mapIter none 0 #[] 0)) hle (fun x e => Mu.add_other x e) hw (fun g off _ e => by simp [Mu.add] at e; obtain ⟨rfl, rfl⟩ := e; simp) (by simp) rfl rfl rfl (hH.notItN hnb)
        ⟨.inl rfl, by simp [Mu.add], w.heap.size, by simp [Mu.add], rfl, _, _, _, heap_alloc_new _ _⟩
      refine ⟨.pointer (some ⟨w.heap.size, 0, none⟩), _, _, _, _, ?_, h, ?_, ?_, hch.2⟩
      · simp [execOp, hop, hev, hrun]
      · exact .iter _ _ rfl (show _ ∨ _ from .inl rfl) (by simp [Mu.add, IterOK]) (by simp [Mu.add])
      · have h1 := hch.1
        rw [hput_end] at h1
        exact h1
    · exact h.elim
  · rename_i x hop
    split at h
    · rename_i x' hx
      split at h
      · rename_i b es cur todo hb
        have hv := opS_vr hE hx (hwo x (by rw [hop]; rfl))
        obtain ⟨hu, hsz, g, hpl, hI⟩ := hH.obj x' _ hb
        generalize hev : a.eval x = v at hv
        cases hv with
        | iter _ _ _ _ hok _ =>
        rw [hpl] at hok
        have hv' : v = .pointer (some ⟨g, 0, none⟩) := hok
        subst hv'
        have hglt := hH.lt x' g 0 hu hpl
        cases b with
        | none =>
          obtain ⟨rfl, s, q, c, hg⟩ := hI
          refine ⟨.tuple #[.bool false], w, μ, _, _, ?_, h.1 rfl, ?_, hH, Ext.refl _ _ _⟩
          · simp [execOp, hop, hev, Instr.next, getObj, Sem.run_bind, Sem.run, hg, Result.andThen]
          · have := VR.tup (μ := μ) (F := F) (w := w) [.bool false] [.bool false] rfl (fun j v c h1 h2 => by
              cases j with
              | zero => simp at h1 h2; subst h1; subst h2; exact .bool _
              | succ j => simp at h1)
            exact this
        | some b =>
          obtain ⟨hub, hsb, gm, es', cl, since, seen, q1, q2, q3, q4, q5, q6, q7, q8, q9⟩ := hI
          rcases run_next_at (P := P) w o.type g gm since cl seen es' cl q3 q2 q5 q4 with ⟨h0, hrun⟩ | ⟨en, hen, w1, hw1, hrun⟩
          · have hl : es'.toList.filter (fun e => !seen.contains e.born) = [] := by
              have : (leftOf es' seen).toList = [] := by rw [Array.toList_eq_nil_iff]; exact Array.eq_empty_of_size_eq_zero h0
              simpa [leftOf] using this
            have ht : todo = [] := List.eq_nil_of_length_eq_zero (by rw [← q8.1, hl]; rfl)
            refine ⟨.tuple #[.bool false], w, μ, _, _, ?_, h.1 ht, ?_, hH, Ext.refl _ _ _⟩
            · simp [execOp, hop, hev, hrun]
            · have := VR.tup (μ := μ) (F := F) (w := w) [.bool false] [.bool false] rfl (fun j v c h1 h2 => by
                cases j with
                | zero => simp at h1 h2; subst h1; subst h2; exact .bool _
                | succ j => simp at h1)
              exact this
          · have hen' : en ∈ es'.toList.filter (fun e => !seen.contains e.born) := by simpa [leftOf] using hen
            obtain ⟨i, hi⟩ := List.mem_iff_getElem?.1 hen'
            have hilt := (List.getElem?_eq_some_iff.1 hi).1
            have e2 : todo[i]? = some (todo[i]'(by rw [← q8.1]; exact hilt)) := List.getElem?_eq_getElem _
            obtain ⟨vk, vv⟩ := q8.2 i en _ hi e2
            have hmem : en ∈ es'.toList := (List.mem_filter.1 hen').1
            have hgg : gm ≠ g := fun e => by rw [e, q3] at q2; cases q2
            have hheap : ∀ k, k ≠ g → (ChangeMaps.setBlock w1 g (.mapIter (some gm) since (seen.push en.born) cl)).heap[k]? = w.heap[k]? := fun k hk => by
              have : (ChangeMaps.setBlock w1 g (.mapIter (some gm) since (seen.push en.born) cl)).heap[k]? = w1.heap[k]? := by simp [ChangeMaps.setBlock, Array.getElem?_setIfInBounds_ne (Ne.symm hk)]
              rw [this]; rcases hw1 with rfl | rfl <;> rfl
            have hheapg : (ChangeMaps.setBlock w1 g (.mapIter (some gm) since (seen.push en.born) cl)).heap[g]? = some (.mapIter (some gm) since (seen.push en.born) cl) := by
              have : g < w1.heap.size := by rcases hw1 with rfl | rfl <;> exact hglt
              simp [ChangeMaps.setBlock, this]
            have hw : ∀ k, k < w.heap.size → (μ.u x' → ∀ off, μ.pl x' ≠ .at_ k off) → (ChangeMaps.setBlock w1 g (.mapIter (some gm) since (seen.push en.born) cl)).heap[k]? = w.heap[k]? := fun k _ hk => hheap k fun e => by subst e; exact hk hu 0 hpl
            have hfs := hH.frozen_same hw
            have hmv : ∀ {v : Value} {c : IV}, VR μ F w v c → VR μ F (ChangeMaps.setBlock w1 g (.mapIter (some gm) since (seen.push en.born) cl)) v c := fun h => h.mono (Mu.le_refl _) (fun _ h => h) hfs
            have hfil : es'.toList.filter (fun e => !(seen.push en.born).contains e.born) = (es'.toList.filter fun e => !seen.contains e.born).eraseIdx i := by
              rw [← erase_filter _ i en _ hi, List.filter_filter]
              · refine List.filter_congr fun y _ => ?_
                simp [Array.contains_push]
                by_cases h1 : y.born = en.born <;> simp [h1]
              · exact (List.filter_sublist.map _).nodup q6
            have hch := hH.change (b := x') (o' := .iter (some b) es (some (todo[i]'(by rw [← q8.1]; exact hilt))) (todo.eraseIdx i)) (w' := ChangeMaps.setBlock w1 g (.mapIter (some gm) since (seen.push en.born) cl)) (Mu.le_refl μ) (fun _ _ => ⟨rfl, rfl, rfl, rfl, Iff.rfl⟩) hw
              (fun g' off' hu' e => ⟨.inr ⟨hu', off', e⟩, by
                have : g' < w.heap.size := hH.lt x' g' off' hu' e
                have e3 : (ChangeMaps.setBlock w1 g (.mapIter (some gm) since (seen.push en.born) cl)).heap.size = w1.heap.size := by simp [ChangeMaps.setBlock]
                rw [e3]; rcases hw1 with rfl | rfl <;> exact this⟩)
              (by
                have e3 : (ChangeMaps.setBlock w1 g (.mapIter (some gm) since (seen.push en.born) cl)).heap.size = w1.heap.size := by simp [ChangeMaps.setBlock]
                rw [e3]; rcases hw1 with rfl | rfl <;> exact Nat.le_refl _) (by rcases hw1 with rfl | rfl <;> rfl) (by rcases hw1 with rfl | rfl <;> rfl) (by rcases hw1 with rfl | rfl <;> rfl) (hH.notIt hb (by intro h; cases h))
              ⟨hu, hsz, g, hpl, hub, hsb, gm, es', cl, since, seen.push en.born, q1, (hheap gm hgg).trans q2, hheapg, q4, q5, q6, q7.mono hmv, by rw [hfil]; exact (q8.mono hmv).erase i, fun kv ekv => by
                cases ekv
                exact ⟨en, hmem, by simp, hmv vk, hmv vv⟩⟩ rfl (by intros; intro h; cases h)
              (fun y es2 cur2 todo2 o2 ho2 hy => by
                cases ho2
                by_cases hbx : b = x'
                · subst hbx
                  have := hH.itd b b es cur todo _ hb hb
                  cases this
                · rw [getElem?_hput, if_neg hbx] at hy
                  split at hy
                  · exact hH.itd x' b es cur todo o2 hb hy
                  · exfalso
                    obtain ⟨o4, o5, _⟩ := hH.n b hub
                    have := (List.getElem?_eq_some_iff.1 o5).1
                    omega)
            have hput : Idl.hput σ x' (.iter (some b) es (some (todo[i]'(by rw [← q8.1]; exact hilt))) (todo.eraseIdx i)) = σ.set x' (.iter (some b) es (some (todo[i]'(by rw [← q8.1]; exact hilt))) (todo.eraseIdx i)) := hput_set (List.getElem?_eq_some_iff.1 hb).1
            rw [hput] at hch
            refine ⟨.tuple #[.bool true, en.key, en.val], _, μ, _, _, ?_, h.2 i _ e2, ?_, hch.1, hch.2⟩
            · simp [execOp, hop, hev, hrun]
            · refine VR.tup [.bool true, en.key, en.val] _ rfl fun j v c h1 h2 => ?_
              match j with
              | 0 => simp at h1 h2; subst h1; subst h2; exact .bool _
              | 1 => simp at h1 h2; subst h1; subst h2; exact hmv vk
              | 2 => simp at h1 h2; subst h1; subst h2; exact hmv vv
              | j + 3 => simp at h1
      · exact h.elim
    · exact h.elim
  · rename_i x hop
    split at h
    · rename_i x' hx
      split at h
      · rename_i b es kv todo hb
        have hv := opS_vr hE hx (hwo x (by rw [hop]; rfl))
        obtain ⟨hu, hsz, g, hpl, hI⟩ := hH.obj x' _ hb
        generalize hev : a.eval x = v at hv
        cases hv with
        | iter _ _ _ _ hok _ =>
        rw [hpl] at hok
        have hv' : v = .pointer (some ⟨g, 0, none⟩) := hok
        subst hv'
        obtain ⟨hub, hsb, gm, es', cl, since, seen, q1, q2, q3, q4, q5, q6, q7, q8, q9⟩ := hI
        obtain ⟨en, e1, e2, e3, e4⟩ := q9 kv rfl
        obtain ⟨s', rfl⟩ : ∃ s' : Array Nat, seen = s'.push en.born := by
          rw [Array.back?_eq_some_iff] at e2
          exact e2
        have hrun := run_entry_at (P := P) w g gm since s' es' cl en q3 q2 e1 q6
        refine ⟨.tuple #[en.key, en.val], w, μ, _, _, ?_, h, ?_, hH, Ext.refl _ _ _⟩
        · simp [execOp, hop, hev, hrun]
        · refine VR.tup [en.key, en.val] _ rfl fun j v c h1 h2 => ?_
          match j with
          | 0 => simp at h1 h2; subst h1; subst h2; exact e3
          | 1 => simp at h1 h2; subst h1; subst h2; exact e4
          | j + 2 => simp at h1
      · exact h.elim
    · exact h.elim
  · exact h.elim


theorem xPure_nodefer {o : Oper} {g : Bool} {nb : Nat} {r : Prop × Out} (h : xPure P o e g σ nb = some r) : ∀ c, o.op ≠ .defer c := fun c hc => by
  unfold xPure at h
  rw [hc] at h
  simp [iop] at h

/-- **A REGION IN THE TEXT's ORDER.** -/
theorem xOps_sound {ro : Option Nat} {ops : Array Oper} {Q : Exit → Act → World → Prop} : ∀ (rest : List Oper) (e : Env) (σ : Heap) (K : Env → Heap → Prop), xOps P ops.toList rest e σ K → ∀ (μ : Mu) (F : Fz) (a : Act) (w : World), EnvR μ F w a.tmps e → HR μ F σ w →
    (∀ e' σ' μ' F' a' w', K e' σ' → EnvR μ' F' w' a'.tmps e' → HR μ' F' σ' w' → Ext μ F w μ' F' w' → a'.defers = a.defers → Q .normal a' w') → wpListIn (Rd ro) 0 P ops Q rest a w
  | [], e, σ, K, h, μ, F, a, w, hE, hH, hQ => hQ _ _ _ _ _ _ h hE.clean hH (Ext.refl _ _ _) rfl
  | o :: rest, e, σ, K, h, μ, F, a, w, hE, hH, hQ => by
    simp only [xOps] at h
    split at h
    · exact h.elim
    · rename_i g hg
      have hwant := wantOf_sound hE hg
      have hput : ∀ (d : Option Tmp) (v : Value), (a.put d v).defers = a.defers := fun d v => by cases d <;> rfl
      have skip : ∀ {e' : Env} {c : IV}, e' = e.putO o.dst c → VR μ F w undef c → xOps P ops.toList rest e' σ K → g = false → wpListIn (Rd ro) 0 P ops Q (o :: rest) a w := fun {e' c} he hc hk hgf => by
        subst he
        unfold wpListIn
        rw [hwant, hgf]
        refine ⟨fun _ _ => trivial, ?_⟩
        exact xOps_sound rest _ σ K hk μ F _ w (hE.putO o.dst hc) hH fun e' σ' μ' F' a' w' k1 k2 k3 k4 k5 => hQ e' σ' μ' F' a' w' k1 k2 k3 k4 (k5.trans (hput _ _))
      have doit : ∀ {c : Prop} {r : Out} {e' : Env}, xPure P o e true σ σ.length = some (c, r) → c → r.pre → (∀ {μ' : Mu} {w' : World} {u : Value}, VR μ' F w' u r.v → EnvR μ' F w' a.tmps e → EnvR μ' F w' (a.put o.dst u).tmps e') → xOps P ops.toList rest e' (upd σ r.w) K → g = true → wpListIn (Rd ro) 0 P ops Q (o :: rest) a w := fun {c r e'} hx hc hp he hk hgt => by
        unfold wpListIn
        rw [hwant, hgt]
        refine ⟨fun _ _ => trivial, ?_⟩
        rw [Oper.semAt_eq _ _ _ (xPure_nodefer hx)]
        obtain ⟨u, w', μ', hres, hv, hH', hext⟩ := xPure_goes hE hH (fun hu => by obtain ⟨o, h1, _⟩ := hH.n _ hu; simp at h1) hx hc hp
        rcases hres with hres | ⟨hres, hu⟩
        · rw [hres]
          exact xOps_sound rest _ _ K hk μ' F _ w' (he hv (hext.env hE)) hH' fun e' σ' μ'' F' a' w'' k1 k2 k3 k4 k5 => hQ e' σ' μ'' F' a' w'' k1 k2 k3 (hext.trans k4) (k5.trans (hput _ _))
        · rw [hres]
          subst hu
          exact xOps_sound rest _ _ K hk μ' F _ w' (he hv (hext.env hE)) hH' fun e' σ' μ'' F' a' w'' k1 k2 k3 k4 k5 => hQ e' σ' μ'' F' a' w'' k1 k2 k3 (hext.trans k4) (k5.trans (hput _ _))
      unfold xOp at h
      split at h
      · rename_i hit
        cases g with
        | false => exact skip rfl vr_tup0 (h.2 rfl) rfl
        | true =>
          obtain ⟨hwh, hq⟩ := h.1 rfl
          obtain ⟨v, w', μ', r, σ', hres, hk, hv, hH', hext⟩ := iter_goes hE hH hwh hq
          unfold wpListIn
          rw [hwant]
          refine ⟨fun _ _ => trivial, ?_⟩
          rw [Oper.semAt_eq _ _ _ (fun c hc => by rw [hc] at hit; cases hit), hres]
          exact xOps_sound rest _ _ K hk μ' F _ w' ((hext.env hE).putO o.dst hv) hH' fun e' σ' μ'' F' a' w'' k1 k2 k3 k4 k5 => hQ e' σ' μ'' F' a' w'' k1 k2 k3 (hext.trans k4) (k5.trans (hput _ _))
      split at h
      · rename_i f args hcall
        cases g with
        | false => exact skip rfl vr_tup0 (h.2 rfl) rfl
        | true =>
          obtain ⟨hwh, hcalls⟩ := h.1 rfl
          unfold callOf at hcall
          split at hcall
          · rename_i c hop
            split at hcall
            · rename_i fo hcal
              split at hcall
              · rename_i fid first cap hfo
                simp only [Option.map_eq_some_iff, Prod.mk.injEq] at hcall
                obtain ⟨as, has, rfl, rfl⟩ := hcall
                obtain ⟨hent, hcalls⟩ := hcalls
                have hwf : e.wh fo = true := whens_mem hwh fo (by simp [hop, Op.operands, Call.operands, hcal])
                have hwa : ∀ y ∈ c.args.toList, e.wh y = true := fun y hy => whens_mem hwh y (by simp [hop, Op.operands, Call.operands]; exact .inr (by simpa using hy))
                have hvf := opS_vr hE hfo hwf
                have hva : VRs μ F w (c.args.toList.map a.eval) as := args_vrs hE hwa has
                generalize hfv : a.eval fo = fv at hvf
                cases hvf with
                | func _ fs cs _ _ hf hc h1 h2 =>
                  unfold wpListIn
                  rw [hwant]
                  refine ⟨fun _ _ => trivial, ?_⟩
                  rw [Oper.semAt_eq _ _ _ (fun c' hc' => by rw [hop] at hc'; cases hc')]
                  have hrun : (execOp a.eval o).run P w = .ok (.enter fid (fs ++ c.args.toList.map a.eval ++ cs).toArray) w := by
                    simp only [execOp, hop, resolve, hcal, hfv, Deferred.ofValue, Sem.run_bind, Sem.run_pure, Result.andThen_ok, invoke]
                    rw [hent]
                    congr 2
                    apply Array.ext'
                    simp
                  rw [hrun, Oper.uponIn_enter]
                  refine ⟨fun h => by simp [Rd, Fence.wide] at h, ?_⟩
                  refine (callsIn_wide (n := 0 - 1)).2 ((hcalls μ F w (fs ++ c.args.toList.map a.eval ++ cs) hH (VRs.append (VRs.append ⟨hf, h1⟩ hva) ⟨hc, h2⟩) hE.glob).mono fun en w' ⟨v, r, σ', μ', F', e1, hk, hv, hH', hext⟩ => ?_)
                  subst e1
                  exact xOps_sound rest _ _ K hk μ' F' _ w' ((hext.env hE).putO o.dst hv) hH' fun e' σ' μ'' F'' a' w'' k1 k2 k3 k4 k5 => hQ e' σ' μ'' F'' a' w'' k1 k2 k3 (hext.trans k4) (k5.trans (hput _ _))
              · rename_i l hfo
                simp only [Option.map_eq_some_iff, Prod.mk.injEq] at hcall
                obtain ⟨as, has, rfl, rfl⟩ := hcall
                have hwf : e.wh fo = true := whens_mem hwh fo (by simp [hop, Op.operands, Call.operands, hcal])
                have hwa : ∀ y ∈ c.args.toList, e.wh y = true := fun y hy => whens_mem hwh y (by simp [hop, Op.operands, Call.operands]; exact .inr (by simpa using hy))
                have hvf := opS_vr hE hfo hwf
                have hva : VRs μ F w (c.args.toList.map a.eval) as := args_vrs hE hwa has
                generalize hfv : a.eval fo = fv at hvf
                cases hvf with
                | func _ fs cs _ _ hf hc h1 h2 =>
                  obtain rfl := List.eq_nil_of_length_eq_zero hf
                  obtain rfl := List.eq_nil_of_length_eq_zero hc
                  unfold wpListIn
                  rw [hwant]
                  refine ⟨fun _ _ => trivial, ?_⟩
                  rw [Oper.semAt_eq _ _ _ (fun c' hc' => by rw [hop] at hc'; cases hc')]
                  obtain ⟨fn, tmps, as', body, hy, hround⟩ := hcalls μ F w (c.args.toList.map a.eval) hH hva hE.glob
                  have hrun : (execOp a.eval o).run P w = .ok (.round l fn tmps as' body) w := by
                    simp only [execOp, hop, resolve, hcal, hfv, Deferred.ofValue, Sem.run_bind, Sem.run_pure, Result.andThen_ok, invoke]
                    rw [← hy]
                    congr 2
                    apply Array.ext'
                    simp
                  rw [hrun, Oper.uponIn_round]
                  refine ⟨fun h => by simp [Rd, Fence.wide] at h, ?_⟩
                  refine RoundIn.mono hround fun en w' ⟨v, r, σ', μ', F', e1, hk, hv, hH', hext⟩ => ?_
                  subst e1
                  exact xOps_sound rest _ _ K hk μ' F' _ w' ((hext.env hE).putO o.dst hv) hH' fun e' σ' μ'' F'' a' w'' k1 k2 k3 k4 k5 => hQ e' σ' μ'' F'' a' w'' k1 k2 k3 (hext.trans k4) (k5.trans (hput _ _))
              · cases hcall
            · cases hcall
          · cases hcall
      · split at h
        · rename_i c r hx
          split at h
          · rename_i hw
            obtain ⟨⟨hc, hp⟩, hk⟩ := h
            cases g with
            | true => exact doit (e' := putG e o.guard.isSome true o.dst r.v) hx hc (hp rfl) (fun hv hE' => by
                unfold putG
                cases o.guard.isSome with
                | true => exact hE'.putO o.dst (.opt true _ _ (fun _ => hv) (by simp))
                | false => exact hE'.putO o.dst hv) (by rw [hw]; exact hk) rfl
            | false =>
              have hgd : o.guard.isSome = true := by
                cases hgd : o.guard with
                | some _ => rfl
                | none => unfold wantOf at hg; rw [hgd] at hg; cases hg
              refine skip (c := .opt false r.v) (by unfold putG; rw [hgd]; rfl) (.opt false _ _ (by simp) (fun _ => rfl)) hk rfl
          · rename_i b ob hw
            cases g with
            | false => exact skip rfl vr_tup0 (h.2 rfl) rfl
            | true =>
              obtain ⟨hc, hp, hk⟩ := h.1 rfl
              exact doit hx hc hp (fun hv hE' => hE'.putO o.dst hv) (by rw [hw]; exact hk) rfl
        · exact skip rfl vr_tup0 h.2 h.1
end
end Go.Idl
