/-
  m[k]++ at keys whose comparison is not plain: the entry is made first, or later, and the value is stored into it.
  A drawn region with m[k]++ at its end: what comes before is done first; then the five operations in each order that there is.
  The five operations of m[k]++, in each order that there is.
  A map after its walk: it may be looked up and written again.
  A region with one call of a function that the model itself stands in for.
  A function's contract from its body, with the walk shut.
-/
import Derived.Test.YtamffdgopknkfaaGreatDoorIdlPartJ
import Derived.Test.YtamffdgopknkfaaGreatDoorIdlPartH
import Derived.OrdersIn
namespace Go.Idl
set_option linter.all false
open Go.RowKit

section
variable {P : Program} {μ : Mu} {F : Fz} {w : World} {σ : Heap} {ev : Operand → Value} {ρ : Operand → Option IV}

end
end Go.Idl
namespace Go.Idl
set_option linter.all false
open Go.RowKit

section
variable {P : Program} {Q : Exit → Act → World → Prop}

def goOn (M : Act → World → Prop) (Q : Exit → Act → World → Prop) : Exit → Act → World → Prop
  | .normal, a, w => M a w
  | .exit i, a, w => Q (.exit i) a w
  | .goto i, a, w => Q (.goto i) a w
  | .ret, a, w => Q .ret a w
  | .panic c, a, w => Q (.panic c) a w
  | .outgrown, a, w => Q .outgrown a w
def gOK (n : Nat) (o : Oper) : Bool := match o.guard with | none => true | some (j, _) => Nat.blt j n
end
end Go.Idl
namespace Go.Idl
set_option linter.all false
open Go.RowKit

section
variable {P : Program} {μ : Mu} {F : Fz} {w : World} {σ : Heap} {a : Act}

def lstT (n : Nat) (bs : List Bool) : Array Bool := Array.replicate n true ++ bs.toArray
def rdy (ops : Array Oper) (n : Nat) (bs : List Bool) : List Nat := Region.ready .any ops (lstT n bs)
def rdyOK (ops : Array Oper) (n : Nat) : Bool :=
  rdy ops n [false, false, false, false, false] == [n, n + 2] && rdy ops n [true, false, false, false, false] == [n + 1, n + 2] && rdy ops n [true, true, false, false, false] == [n + 2] &&
  rdy ops n [false, false, true, false, false] == [n, n + 3] && rdy ops n [true, false, true, false, false] == [n + 1, n + 3] && rdy ops n [true, true, true, false, false] == [n + 3] &&
  rdy ops n [false, false, true, true, false] == [n] && rdy ops n [true, false, true, true, false] == [n + 1] && rdy ops n [true, true, true, true, false] == [n + 4] && rdy ops n [true, true, true, true, true] == []
def incrQ (P : Program) (mt : TypeId) (m k : Operand) (op : BinOp) (bt : TypeId) (y : Operand) (fresh : List Nat) (e : Env) (σ : Heap) (K : Heap → Prop) : Prop :=
  match P.underlying mt, e.opS m, e.opS k, e.opS y with
  | some (.map kt et), some (.map b), some kv, some yv => match keyK P kt, zeroI P et, σ[b]? with
    | some ks, some z, some (.map es) => (keyOK P kt ks kv = true ∧ (∀ e ∈ es, keyOK P kt ks e.1 = true) ∧ (e.wh m = true ∧ e.wh k = true ∧ e.wh y = true) ∧ ∀ t ∈ fresh, e.get t = none ∧ t < e.n) ∧
      match bin P op bt ((mget kv es).getD z) yv with
      | some r => r.pre ∧ K (hput σ b (.map (mset kv r.v es)))
      | none => False
    | _, _, _ => False
  | _, _, _, _ => False

def rho (E : Env) (x : Operand) : Option IV := if E.wh x = true then E.opS x else none
theorem VR.drew {v : Value} {c : IV} (hv : VR μ F w v c) : VR μ F { w with drawn := w.drawn + 1 } v c := VR.mono (μ := μ) (μ' := μ) (F := F) (F' := F) (w := w) (w' := { w with drawn := w.drawn + 1 }) (Mu.le_refl _) (fun _ h => h) (fun _ _ => rfl) hv
theorem HR.drew (hH : HR μ F σ w) : HR μ F σ { w with drawn := w.drawn + 1 } := by
  refine ⟨hH.n, fun b o ho => ?_, hH.inj, hH.fro, hH.lt, hH.flt, hH.yin, hH.itd⟩
  have := hH.obj b o ho
  cases o with
  | rows s rs =>
    obtain ⟨h1, h2, h3, h4, h5, h6⟩ := this
    refine ⟨h1, h2, h3, h4, h5, h6.imp (fun h => h) ?_⟩
    rintro ⟨g, off, cs, T, q1, q2, q3, q4, q5⟩
    exact ⟨g, off, cs, T, q1, q2, q3, q4, fun i row j c r1 r2 => let ⟨v, v1, v2⟩ := q5 i row j c r1 r2; ⟨v, v1, v2.drew⟩⟩
  | map es =>
    obtain ⟨h1, h2, g, es', cl, q1, q2, q3, q4⟩ := this
    exact ⟨h1, h2, g, es', cl, q1, q2, ⟨q3.1, fun j e p r1 r2 => let ⟨v1, v2⟩ := q3.2 j e p r1 r2; ⟨v1.drew, v2.drew⟩⟩, q4⟩
  | iter b' es cur todo =>
    obtain ⟨h1, h2, g, h3, h4⟩ := this
    exact ⟨h1, h2, g, h3, h4.mono (fun h => h.drew) (fun _ h => h) (fun _ _ => rfl) rfl fun b'' _ hu => ⟨hu, rfl, rfl, fun _ _ _ => rfl⟩⟩
  | yrec l r e => exact ⟨this.1, this.2.1, this.2.2.1, this.2.2.2.1, ⟨this.2.2.2.2.size, fun t c hc => let ⟨v, v1, v2⟩ := this.2.2.2.2.slot t c hc; ⟨v, v1, v2.drew⟩, fun g c hc => (this.2.2.2.2.glob g c hc).drew⟩⟩
  | dead => trivial
  | hole => trivial

def preOK (ops : List Oper) (n : Nat) : Bool :=
  (ops.take n).zipIdx.all (fun p => gOK n p.1 && p.1.after.all fun e => !Region.binds .any e || Nat.blt e.on p.2) &&
  (List.range (ops.length - n)).all fun d => (List.range n).all fun i => mustM (mskT ops []) i (n + d)
def keepOK (m : Nat) (ex keep : List Nat) (nm : List (Nat × IV)) : Bool := keep.all fun q => !isNamed m ex q && (eget nm q).isNone

def Env.setEx (ex : List Nat) (e : Env) : Env := ⟨e.x, e.n, e.m, ex, e.gl, e.nm, []⟩
@[go_sem] theorem setEx_lit {x : Bool} {N m : Nat} {ex ex' : List Nat} {gl nm tm : List (Nat × IV)} : Env.setEx ex ⟨x, N, m, ex', gl, nm, tm⟩ = ⟨x, N, m, ex, gl, nm, []⟩ := _root_.id rfl
end
@[go_sem ↓] theorem incrQ_lit {P : Program} {mt : TypeId} {m k y : Operand} {op : BinOp} {bt : TypeId} {fresh : List Nat} {x : Bool} {N m' : Nat} {ex : List Nat} {gl nm tm : List (Nat × IV)} {σ : Heap} {K : Heap → Prop} :
    incrQ P mt m k op bt y fresh ⟨x, N, m', ex, gl, nm, tm⟩ σ K = match P.underlying mt, Env.opS ⟨x, N, m', ex, gl, nm, tm⟩ m, Env.opS ⟨x, N, m', ex, gl, nm, tm⟩ k, Env.opS ⟨x, N, m', ex, gl, nm, tm⟩ y with
  | some (.map kt et), some (.map b), some kv, some yv => match keyK P kt, zeroI P et, σ[b]? with
    | some ks, some z, some (.map es) => (keyOK P kt ks kv = true ∧ (∀ e ∈ es, keyOK P kt ks e.1 = true) ∧ (Env.wh ⟨x, N, m', ex, gl, nm, tm⟩ m = true ∧ Env.wh ⟨x, N, m', ex, gl, nm, tm⟩ k = true ∧ Env.wh ⟨x, N, m', ex, gl, nm, tm⟩ y = true) ∧ ∀ t ∈ fresh, Env.get ⟨x, N, m', ex, gl, nm, tm⟩ t = none ∧ t < N) ∧
      match bin P op bt ((mget kv es).getD z) yv with
      | some r => r.pre ∧ K (hput σ b (.map (mset kv r.v es)))
      | none => False
    | _, _, _ => False
  | _, _, _, _ => False := _root_.id rfl
end Go.Idl
namespace Go.Idl
set_option linter.all false
open Go.RowKit

def noIt (b : Nat) : Heap → Bool
  | [] => true
  | .iter (some b') _ _ _ :: l => !(Nat.beq b b') && noIt b l
  | _ :: l => noIt b l
section
variable {P : Program} {μ : Mu} {F : Fz} {w : World} {σ : Heap}
end
end Go.Idl
namespace Go.Idl
set_option linter.all false
open Go.RowKit
section
variable {P : Program}

def ECall (P : Program) (f : FuncId) (args : List IV) (r : IV) : Prop :=
  ∀ (μ : Mu) (F : Fz) (w : World) (vs : List Value), VRs μ F w vs args → ∃ v, (callFunc f vs.toArray).run P w = .ok (.value v) w ∧ VR μ F w v r

def extQ (P : Program) (oc : Oper) (e : Env) (K : IV → Prop) : Prop :=
  ∃ (fid : FuncId) (args : List IV) (r : IV), callOf oc e = some (.fn fid, args) ∧ whens e true oc.op.operands.toList ∧ ECall P fid args r ∧ K r
end
/-! ### what comes behind, kept shut -/
theorem IWp.shut {P : Program} {c : Code} {e : Env} {σ : Heap} {Q0 : XPost} (h : ∀ Q, Q = Q0 → IWp P c Q e σ) : IWp P c Q0 e σ := h _ rfl
end Go.Idl
namespace Go.Idl
set_option linter.all false
open Go.RowKit
theorem ICalls.of_bodyV {P : Program} {gl : List (Nat × IV)} {f : FuncId} {fn : Func} {c : Code} {args : List IV} {σ : Heap} {K : IV → Heap → Prop} (x : Bool) (m : Nat) (ex : List Nat) (hf : P.funcs[f]? = some fn) (hb : fn.body = some c)
    (hcall : ∀ (args : Array Value) (w : World), (callFunc f args).run P w = .ok (.enter f args) w) (hn : Nat.ble args.length fn.ntmps = true)
    (h : ∀ R : IV → Heap → Prop, (∀ r σ', K r σ' → R r σ') → IWp P c (retQ P fn.results.toList R) ⟨x, fn.ntmps, m, ex, gl, enum 0 args, []⟩ σ) : ICalls P gl f args σ K :=
  ICalls.of_body x m ex hf hb hcall hn (h _ fun _ _ h => h)
theorem YCalls.forget {P : Program} {σ : Heap} {gl : List (Nat × IV)} {l : Nat} {args : List IV} {K : IV → Heap → Prop} (h : YCalls P gl l args σ (fgtK σ K)) : YCalls P gl l args σ K := by
  intro μ F w vs hH hv hgl
  obtain ⟨fn, tmps, as, body, k1, k2⟩ := h μ F w vs hH hv hgl
  refine ⟨fn, tmps, as, body, k1, k2.mono ?_⟩
  rintro e w' ⟨v, r, σ', μ', F', rfl, ⟨σ0, ⟨h1, h2, h3, h4⟩, hK⟩, hvr, hH', hX⟩
  exact ⟨v, r, σ0, μ'.cut σ0.length, F', rfl, hK, Bl.vr hvr h3, hH'.cut h1 h4, Mu.cut_ext hH hX h2⟩
/-! ### a heap whose front is not known -/
theorem hput_app (τ σ : Heap) (k : Nat) (o : IObj) : hput (τ ++ σ) (τ.length + k) o = τ ++ hput σ k o := by
  induction τ with
  | nil => simp
  | cons x τ ih =>
    rw [List.cons_append, List.length_cons, show τ.length + 1 + k = (τ.length + k) + 1 by omega]
    simp only [hput, ih, List.cons_append]
theorem hput_app0 (τ σ : Heap) (o : IObj) : hput (τ ++ σ) τ.length o = τ ++ hput σ 0 o := hput_app τ σ 0 o
theorem hput_at0 (τ : Heap) (o : IObj) : hput τ τ.length o = τ ++ [o] := hput_new τ o
theorem app_get (τ σ : Heap) (k : Nat) : (τ ++ σ)[τ.length + k]? = σ[k]? := by rw [List.getElem?_append_right (by omega)]; congr 1; omega
theorem app_get0 (τ σ : Heap) : (τ ++ σ)[τ.length]? = σ[0]? := app_get τ σ 0
end Go.Idl
