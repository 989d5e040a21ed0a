import Derived.Test.YtamffdgopknkfaaGreatDoorIdlPartJ
set_option linter.all false
namespace Go.Idl
open Go.RowKit
section
variable {P : Program} {μ : Mu} {F : Fz} {w : World} {σ : Heap} {ev : Operand → Value} {ρ : Operand → Option IV}
end
end Go.Idl
namespace Go.Idl
open Go.RowKit
section
variable {P : Program} {Q : Exit → Act → World → Prop}
end
end Go.Idl
namespace Go.Idl
open Go.RowKit
section
variable {P : Program} {μ : Mu} {F : Fz} {w : World} {σ : Heap} {a : Act}
def incrQ (P : Program) (mt : TypeId) (m k : Operand) (op : BinOp) (bt : TypeId) (y : Operand) (fresh : List Nat) (e : Env) (σ : Heap) (K : Heap → Prop) : Prop :=
 match P.underlying mt, e.opS m, e.opS k, e.opS y with
 | some (.map kt et), some (.map b), some kv, some yv => match keyK P kt, zeroI P et, σ[b]? with
  | some ks, some z, some (.map es) => (keyOK P kt ks kv = true ∧ (∀ e ∈ es, keyOK P kt ks e.1 = true) ∧ (e.wh m = true ∧ e.wh k = true ∧ e.wh y = true) ∧ ∀ t ∈ fresh, e.get t = none ∧ t < e.n) ∧
   match bin P op bt ((mget kv es).getD z) yv with
   | some r => r.pre ∧ K (hput σ b (.map (mset kv r.v es)))
   | none => False
  | _, _, _ => False
 | _, _, _, _ => False
theorem VR.drew {v : Value} {c : IV} (hv : VR μ F w v c) : VR μ F { w with drawn := w.drawn + 1 } v c := VR.mono (μ := μ) (μ' := μ) (F := F) (F' := F) (w := w) (w' := { w with drawn := w.drawn + 1 }) (Mu.le_refl _) (fun _ h => h) (fun _ _ => rfl) hv
theorem HR.drew (hH : HR μ F σ w) : HR μ F σ { w with drawn := w.drawn + 1 } := by
 refine ⟨hH.n, fun b o ho => ?_, hH.inj, hH.fro, hH.lt, hH.flt, hH.yin, hH.itd⟩
 have := hH.obj b o ho
 cases o with
 | rows s rs =>
  obtain ⟨h1, h2, h3, h4, h5, h6⟩ := this
  refine ⟨h1, h2, h3, h4, h5, h6.imp (fun h => h) ?_⟩
  rintro ⟨g, off, cs, T, q1, q2, q3, q4, q5⟩
  exact ⟨g, off, cs, T, q1, q2, q3, q4, fun i row j c r1 r2 => let ⟨v, v1, v2⟩ := q5 i row j c r1 r2; ⟨v, v1, v2.drew⟩⟩
 | map es =>
  obtain ⟨h1, h2, g, es', cl, q1, q2, q3, q4⟩ := this
  exact ⟨h1, h2, g, es', cl, q1, q2, ⟨q3.1, fun j e p r1 r2 => let ⟨v1, v2⟩ := q3.2 j e p r1 r2; ⟨v1.drew, v2.drew⟩⟩, q4⟩
 | iter b' es cur todo =>
  obtain ⟨h1, h2, g, h3, h4⟩ := this
  exact ⟨h1, h2, g, h3, h4.mono (fun h => h.drew) (fun _ h => h) (fun _ _ => rfl) rfl fun b'' _ hu => ⟨hu, rfl, rfl, fun _ _ _ => rfl⟩⟩
 | yrec l r e => exact ⟨this.1, this.2.1, this.2.2.1, this.2.2.2.1, ⟨this.2.2.2.2.size, fun t c hc => let ⟨v, v1, v2⟩ := this.2.2.2.2.slot t c hc; ⟨v, v1, v2.drew⟩, fun g c hc => (this.2.2.2.2.glob g c hc).drew⟩⟩
 | dead => trivial
 | hole => trivial
def Env.setEx (ex : List Nat) (e : Env) : Env := ⟨e.x, e.n, e.m, ex, e.gl, e.nm, []⟩
@[go_sem] theorem setEx_lit {x : Bool} {N m : Nat} {ex ex' : List Nat} {gl nm tm : List (Nat × IV)} : Env.setEx ex ⟨x, N, m, ex', gl, nm, tm⟩ = ⟨x, N, m, ex, gl, nm, []⟩ := _root_.id rfl
end
@[go_sem ↓] theorem incrQ_lit {P : Program} {mt : TypeId} {m k y : Operand} {op : BinOp} {bt : TypeId} {fresh : List Nat} {x : Bool} {N m' : Nat} {ex : List Nat} {gl nm tm : List (Nat × IV)} {σ : Heap} {K : Heap → Prop} :
  incrQ P mt m k op bt y fresh ⟨x, N, m', ex, gl, nm, tm⟩ σ K = match P.underlying mt, Env.opS ⟨x, N, m', ex, gl, nm, tm⟩ m, Env.opS ⟨x, N, m', ex, gl, nm, tm⟩ k, Env.opS ⟨x, N, m', ex, gl, nm, tm⟩ y with
 | some (.map kt et), some (.map b), some kv, some yv => match keyK P kt, zeroI P et, σ[b]? with
  | some ks, some z, some (.map es) => (keyOK P kt ks kv = true ∧ (∀ e ∈ es, keyOK P kt ks e.1 = true) ∧ (Env.wh ⟨x, N, m', ex, gl, nm, tm⟩ m = true ∧ Env.wh ⟨x, N, m', ex, gl, nm, tm⟩ k = true ∧ Env.wh ⟨x, N, m', ex, gl, nm, tm⟩ y = true) ∧ ∀ t ∈ fresh, Env.get ⟨x, N, m', ex, gl, nm, tm⟩ t = none ∧ t < N) ∧
   match bin P op bt ((mget kv es).getD z) yv with
   | some r => r.pre ∧ K (hput σ b (.map (mset kv r.v es)))
   | none => False
  | _, _, _ => False
 | _, _, _, _ => False := _root_.id rfl
end Go.Idl
namespace Go.Idl
open Go.RowKit
section
variable {P : Program} {μ : Mu} {F : Fz} {w : World} {σ : Heap}
end
end Go.Idl
namespace Go.Idl
open Go.RowKit
section
variable {P : Program}
end
theorem IWp.shut {P : Program} {c : Code} {e : Env} {σ : Heap} {Q0 : XPost} (h : ∀ Q, Q = Q0 → IWp P c Q e σ) : IWp P c Q0 e σ := h _ rfl
end Go.Idl
namespace Go.Idl
open Go.RowKit
theorem ICalls.of_bodyV {P : Program} {gl : List (Nat × IV)} {f : FuncId} {fn : Func} {c : Code} {args : List IV} {σ : Heap} {K : IV → Heap → Prop} (x : Bool) (m : Nat) (ex : List Nat) (hf : P.funcs[f]? = some fn) (hb : fn.body = some c)
  (hcall : ∀ (args : Array Value) (w : World), (callFunc f args).run P w = .ok (.enter f args) w) (hn : Nat.ble args.length fn.ntmps = true)
  (h : ∀ R : IV → Heap → Prop, (∀ r σ', K r σ' → R r σ') → IWp P c (retQ P fn.results.toList R) ⟨x, fn.ntmps, m, ex, gl, enum 0 args, []⟩ σ) : ICalls P gl f args σ K :=
 ICalls.of_body x m ex hf hb hcall hn (h _ fun _ _ h => h)
theorem YCalls.forget {P : Program} {σ : Heap} {gl : List (Nat × IV)} {l : Nat} {args : List IV} {K : IV → Heap → Prop} (h : YCalls P gl l args σ (fgtK σ K)) : YCalls P gl l args σ K := by
 intro μ F w vs hH hv hgl
 obtain ⟨fn, tmps, as, body, k1, k2⟩ := h μ F w vs hH hv hgl
 refine ⟨fn, tmps, as, body, k1, k2.mono ?_⟩
 rintro e w' ⟨v, r, σ', μ', F', rfl, ⟨σ0, ⟨h1, h2, h3, h4⟩, hK⟩, hvr, hH', hX⟩
 exact ⟨v, r, σ0, μ'.cut σ0.length, F', rfl, hK, Bl.vr hvr h3, hH'.cut h1 h4, Mu.cut_ext hH hX h2⟩
theorem hput_app (τ σ : Heap) (k : Nat) (o : IObj) : hput (τ ++ σ) (τ.length + k) o = τ ++ hput σ k o := by
 induction τ with
 | nil => simp
 | cons x τ ih =>
  rw [List.cons_append, List.length_cons, show τ.length + 1 + k = (τ.length + k) + 1 by omega]
  simp only [hput, ih, List.cons_append]
theorem hput_app0 (τ σ : Heap) (o : IObj) : hput (τ ++ σ) τ.length o = τ ++ hput σ 0 o := hput_app τ σ 0 o
theorem hput_at0 (τ : Heap) (o : IObj) : hput τ τ.length o = τ ++ [o] := hput_new τ o
theorem app_get (τ σ : Heap) (k : Nat) : (τ ++ σ)[τ.length + k]? = σ[k]? := by rw [List.getElem?_append_right (by omega)]; congr 1; omega
theorem app_get0 (τ σ : Heap) : (τ ++ σ)[τ.length]? = σ[0]? := app_get τ σ 0
end Go.Idl
