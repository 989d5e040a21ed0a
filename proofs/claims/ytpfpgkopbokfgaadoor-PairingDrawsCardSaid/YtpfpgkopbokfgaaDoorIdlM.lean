/-
  The walk's equations, for simp (under the base's own attribute go_sem). They strike at frames that are written out alone.
-/
import Derived.Test.YtpfpgkopbokfgaaDoorIdlL
namespace Go.Idl
set_option linter.all false

section
variable {P : Program} {x : Bool} {n m : Nat} {ex : List Nat} {gl nm tm : List (Nat × IV)} {σ : Heap} {Q : XPost} {K : Env → Heap → Prop}

@[go_sem] theorem yC_skip : yC P .skip Q ⟨x, n, m, ex, gl, nm, tm⟩ σ = Q .normal ⟨x, n, m, ex, gl, nm, tm⟩ σ := _root_.id rfl
@[go_sem] theorem yC_label {l : Nat} : yC P (.label l) Q ⟨x, n, m, ex, gl, nm, tm⟩ σ = Q .normal ⟨x, n, m, ex, gl, nm, tm⟩ σ := _root_.id rfl
@[go_sem] theorem yC_ret : yC P .ret Q ⟨x, n, m, ex, gl, nm, tm⟩ σ = Q .ret ⟨x, n, m, ex, gl, nm, tm⟩ σ := _root_.id rfl
@[go_sem] theorem yC_exit {id : Nat} : yC P (.exit id) Q ⟨x, n, m, ex, gl, nm, tm⟩ σ = Q (.exit id) ⟨x, n, m, ex, gl, nm, tm⟩ σ := _root_.id rfl
@[go_sem ↓] theorem yC_seq {c d : Code} : yC P (.seq c d) Q ⟨x, n, m, ex, gl, nm, tm⟩ σ = yC P c (thenQ (fun e σ => yC P d Q e σ) Q) ⟨x, n, m, ex, gl, nm, tm⟩ σ := _root_.id rfl
@[go_sem ↓] theorem yC_block {id : Nat} {c : Code} : yC P (.block id c) Q ⟨x, n, m, ex, gl, nm, tm⟩ σ = yC P c (blockQ id Q) ⟨x, n, m, ex, gl, nm, tm⟩ σ := _root_.id rfl
@[go_sem ↓] theorem yC_region {id : Nat} {ops : Array Oper} : yC P (.region id ops false) Q ⟨x, n, m, ex, gl, nm, tm⟩ σ = yOps P ops.toList ops.toList ⟨x, n, m, ex, gl, nm, tm⟩ σ fun e σ => Q .normal e σ := _root_.id rfl
@[go_sem ↓] theorem yC_cond {c : Operand} {t f : Code} : yC P (.cond c t f) Q ⟨x, n, m, ex, gl, nm, tm⟩ σ =
    ((isB (Env.opS ⟨x, n, m, ex, gl, nm, tm⟩ c) ∧ Env.wh ⟨x, n, m, ex, gl, nm, tm⟩ c = true) ∧ if toB (Env.opS ⟨x, n, m, ex, gl, nm, tm⟩ c) = true then yC P t Q ⟨x, n, m, ex, gl, nm, tm⟩ σ else yC P f Q ⟨x, n, m, ex, gl, nm, tm⟩ σ) := _root_.id rfl
@[go_sem ↓] theorem yC_loop {c : Code} : yC P (.loop c) Q ⟨x, n, m, ex, gl, nm, tm⟩ σ = IWp P (.loop c) Q ⟨x, n, m, ex, gl, nm, tm⟩ σ := _root_.id rfl
@[go_sem ↓] theorem yC_rangeFunc {f : Operand} {ps : Array Tmp} {c d : Code} : yC P (.rangeFunc f ps c d) Q ⟨x, n, m, ex, gl, nm, tm⟩ σ = IWp P (.rangeFunc f ps c d) Q ⟨x, n, m, ex, gl, nm, tm⟩ σ := _root_.id rfl
@[go_sem ↓] theorem yC_draw {id : Nat} {ops : Array Oper} : yC P (.region id ops true) Q ⟨x, n, m, ex, gl, nm, tm⟩ σ = if hasCall ops.toList = true then Drawn P ops.toList Q ⟨x, n, m, ex, gl, nm, tm⟩ σ else yRun P (fun _ => .tup []) ops.toList σ.length 0 ops.toList [] [] ⟨x, n, m, ex, gl, nm, tm⟩ σ fun e σ => Q .normal e σ := _root_.id rfl
theorem Drawn.intro {ops : List Oper} {e : Env} (orc : Nat → IV) (h : yRun P (fun j => orc (j - σ.length)) ops σ.length 0 ops [] [] e σ fun e σ => Q .normal e σ) : Drawn P ops Q e σ := fun id => IWp.region_any (by simpa using yRun_sound _ _ _ _ _ _ _ h)
@[go_sem] theorem yRun_nil {orc : Nat → IV} {ops : List Oper} {nb k : Nat} {acc : List (Nat × List Nat × List Nat)} {pairs : List (Nat × Nat)} : yRun P orc ops nb k [] acc pairs ⟨x, n, m, ex, gl, nm, tm⟩ σ K = (drawOK P ops pairs = true ∧ K ⟨x, n, m, ex, gl, nm, []⟩ σ) := _root_.id rfl
@[go_sem ↓] theorem yRun_cons {orc : Nat → IV} {ops rest : List Oper} {nb k : Nat} {acc : List (Nat × List Nat × List Nat)} {pairs : List (Nat × Nat)} {d : Option Tmp} {op : Op} {ty : TypeId} {pos : String} {af : Array Edge} {gd : Option (Nat × Bool)} : yRun P orc ops nb k (⟨d, op, ty, pos, af, gd⟩ :: rest) acc pairs ⟨x, n, m, ex, gl, nm, tm⟩ σ K =
    ((okS (step1 P orc ops ⟨d, op, ty, pos, af, gd⟩ ⟨x, n, m, ex, gl, nm, tm⟩ σ (nb + k)) ∧ cS (step1 P orc ops ⟨d, op, ty, pos, af, gd⟩ ⟨x, n, m, ex, gl, nm, tm⟩ σ (nb + k)) ∧ hget σ (nb + k) = none) ∧
      yRun P orc ops nb (k + 1) rest ((k, foots ⟨x, n, m, ex, gl, nm, tm⟩ op.operands.toList, wOf nb k (wS (step1 P orc ops ⟨d, op, ty, pos, af, gd⟩ ⟨x, n, m, ex, gl, nm, tm⟩ σ (nb + k)))) :: acc)
        (clash acc k (foots ⟨x, n, m, ex, gl, nm, tm⟩ op.operands.toList) (wOf nb k (wS (step1 P orc ops ⟨d, op, ty, pos, af, gd⟩ ⟨x, n, m, ex, gl, nm, tm⟩ σ (nb + k)))) ++ pairs)
        (Env.putO ⟨x, n, m, ex, gl, nm, tm⟩ d (vS (step1 P orc ops ⟨d, op, ty, pos, af, gd⟩ ⟨x, n, m, ex, gl, nm, tm⟩ σ (nb + k)))) (upd σ (wS (step1 P orc ops ⟨d, op, ty, pos, af, gd⟩ ⟨x, n, m, ex, gl, nm, tm⟩ σ (nb + k)))) K) := _root_.id rfl
@[go_sem] theorem foots_nil : foots ⟨x, n, m, ex, gl, nm, tm⟩ [] = [] := _root_.id rfl
@[go_sem] theorem foots_cons {y : Operand} {l : List Operand} : foots ⟨x, n, m, ex, gl, nm, tm⟩ (y :: l) = blkO (Env.opS ⟨x, n, m, ex, gl, nm, tm⟩ y) ++ foots ⟨x, n, m, ex, gl, nm, tm⟩ l := _root_.id rfl
attribute [go_sem] hasCall callP lend lendOK lendAll lends glCl okS cS vS wS step1 blkO blk wOf wrs meets clash hget

@[go_sem] theorem thenQ_normal {k : Env → Heap → Prop} {e : Env} : thenQ k Q .normal e σ = k e σ := _root_.id rfl
@[go_sem] theorem thenQ_exit {k : Env → Heap → Prop} {e : Env} {i : Nat} : thenQ k Q (.exit i) e σ = Q (.exit i) e σ := _root_.id rfl
@[go_sem] theorem thenQ_ret {k : Env → Heap → Prop} {e : Env} : thenQ k Q .ret e σ = Q .ret e σ := _root_.id rfl
@[go_sem] theorem blockQ_normal {e : Env} {i : Nat} : blockQ i Q .normal e σ = Q .normal e σ := _root_.id rfl
@[go_sem] theorem blockQ_ret {e : Env} {i : Nat} : blockQ i Q .ret e σ = Q .ret e σ := _root_.id rfl
@[go_sem] theorem blockQ_exit {e : Env} {i j : Nat} : blockQ i Q (.exit j) e σ = if j = i then Q .normal e σ else Q (.exit j) e σ := by
  simp only [blockQ]
  by_cases h : j = i
  · subst h; simp
  · rw [if_neg h]
    cases hb : Nat.beq j i with
    | true => rw [Nat.beq_eq] at hb; exact absurd hb h
    | false => rfl

@[go_sem] theorem yOps_nil {ops : List Oper} : yOps P ops [] ⟨x, n, m, ex, gl, nm, tm⟩ σ K = K ⟨x, n, m, ex, gl, nm, []⟩ σ := _root_.id rfl
/-- An operation without a guard. -/
@[go_sem ↓] theorem yOps_plain {ops rest : List Oper} {d : Option Tmp} {op : Op} {ty : TypeId} {pos : String} {af : Array Edge} : yOps P ops (⟨d, op, ty, pos, af, none⟩ :: rest) ⟨x, n, m, ex, gl, nm, tm⟩ σ K =
    if isIt op = true then (Option.isSome (none : Option (Nat × Bool)) = false ∧ whens ⟨x, n, m, ex, gl, nm, tm⟩ true op.operands.toList) ∧ iterQ P op (Env.opS ⟨x, n, m, ex, gl, nm, tm⟩) σ (kCall (fun e h => yOps P ops rest e h K) ⟨x, n, m, ex, gl, nm, tm⟩ d)
    else if callsGo ⟨d, op, ty, pos, af, none⟩ = true then (isCall (callOf ⟨d, op, ty, pos, af, none⟩ ⟨x, n, m, ex, gl, nm, tm⟩) ∧ whens ⟨x, n, m, ex, gl, nm, tm⟩ true op.operands.toList) ∧
      TCalls P gl (callF (callOf ⟨d, op, ty, pos, af, none⟩ ⟨x, n, m, ex, gl, nm, tm⟩)) (callA (callOf ⟨d, op, ty, pos, af, none⟩ ⟨x, n, m, ex, gl, nm, tm⟩)) σ (kCall (fun e h => yOps P ops rest e h K) ⟨x, n, m, ex, gl, nm, tm⟩ d)
    else (okP (xPure P ⟨d, op, ty, pos, af, none⟩ ⟨x, n, m, ex, gl, nm, tm⟩ true σ σ.length) ∧ cP (xPure P ⟨d, op, ty, pos, af, none⟩ ⟨x, n, m, ex, gl, nm, tm⟩ true σ σ.length) ∧ preO (oP (xPure P ⟨d, op, ty, pos, af, none⟩ ⟨x, n, m, ex, gl, nm, tm⟩ true σ σ.length))) ∧
      yOps P ops rest (Env.putO ⟨x, n, m, ex, gl, nm, tm⟩ d (vO (oP (xPure P ⟨d, op, ty, pos, af, none⟩ ⟨x, n, m, ex, gl, nm, tm⟩ true σ σ.length)))) (upd σ (wO (oP (xPure P ⟨d, op, ty, pos, af, none⟩ ⟨x, n, m, ex, gl, nm, tm⟩ true σ σ.length)))) K := _root_.id rfl
@[go_sem ↓] theorem yOps_guarded {ops rest : List Oper} {d : Option Tmp} {op : Op} {ty : TypeId} {pos : String} {af : Array Edge} {gd : Nat × Bool} : yOps P ops (⟨d, op, ty, pos, af, some gd⟩ :: rest) ⟨x, n, m, ex, gl, nm, tm⟩ σ K =
    if isIt op = true then (Option.isSome (some gd) = false ∧ whens ⟨x, n, m, ex, gl, nm, tm⟩ true op.operands.toList) ∧ iterQ P op (Env.opS ⟨x, n, m, ex, gl, nm, tm⟩) σ (kCall (fun e h => yOps P ops rest e h K) ⟨x, n, m, ex, gl, nm, tm⟩ d)
    else if callsGo ⟨d, op, ty, pos, af, some gd⟩ = true then (isCall (callOf ⟨d, op, ty, pos, af, some gd⟩ ⟨x, n, m, ex, gl, nm, tm⟩) ∧ wantK (wantOf ops ⟨x, n, m, ex, gl, nm, tm⟩ ⟨d, op, ty, pos, af, some gd⟩)) ∧
      if wantB (wantOf ops ⟨x, n, m, ex, gl, nm, tm⟩ ⟨d, op, ty, pos, af, some gd⟩) = true then
        whens ⟨x, n, m, ex, gl, nm, tm⟩ true op.operands.toList ∧ TCalls P gl (callF (callOf ⟨d, op, ty, pos, af, some gd⟩ ⟨x, n, m, ex, gl, nm, tm⟩)) (callA (callOf ⟨d, op, ty, pos, af, some gd⟩ ⟨x, n, m, ex, gl, nm, tm⟩)) σ (kCall (fun e h => yOps P ops rest e h K) ⟨x, n, m, ex, gl, nm, tm⟩ d)
      else yOps P ops rest (Env.putO ⟨x, n, m, ex, gl, nm, tm⟩ d (.tup [])) σ K
    else wantK (wantOf ops ⟨x, n, m, ex, gl, nm, tm⟩ ⟨d, op, ty, pos, af, some gd⟩) ∧ if (xPure P ⟨d, op, ty, pos, af, some gd⟩ ⟨x, n, m, ex, gl, nm, tm⟩ (wantB (wantOf ops ⟨x, n, m, ex, gl, nm, tm⟩ ⟨d, op, ty, pos, af, some gd⟩)) σ σ.length).isSome = false then wantB (wantOf ops ⟨x, n, m, ex, gl, nm, tm⟩ ⟨d, op, ty, pos, af, some gd⟩) = false ∧ yOps P ops rest (Env.putO ⟨x, n, m, ex, gl, nm, tm⟩ d (.tup [])) σ K else
      if (wO (oP (xPure P ⟨d, op, ty, pos, af, some gd⟩ ⟨x, n, m, ex, gl, nm, tm⟩ (wantB (wantOf ops ⟨x, n, m, ex, gl, nm, tm⟩ ⟨d, op, ty, pos, af, some gd⟩)) σ σ.length))).isSome = false then
        (cP (xPure P ⟨d, op, ty, pos, af, some gd⟩ ⟨x, n, m, ex, gl, nm, tm⟩ (wantB (wantOf ops ⟨x, n, m, ex, gl, nm, tm⟩ ⟨d, op, ty, pos, af, some gd⟩)) σ σ.length) ∧
          (wantB (wantOf ops ⟨x, n, m, ex, gl, nm, tm⟩ ⟨d, op, ty, pos, af, some gd⟩) = true → preO (oP (xPure P ⟨d, op, ty, pos, af, some gd⟩ ⟨x, n, m, ex, gl, nm, tm⟩ (wantB (wantOf ops ⟨x, n, m, ex, gl, nm, tm⟩ ⟨d, op, ty, pos, af, some gd⟩)) σ σ.length)))) ∧
          yOps P ops rest (Env.putO ⟨x, n, m, ex, gl, nm, tm⟩ d (.opt (wantB (wantOf ops ⟨x, n, m, ex, gl, nm, tm⟩ ⟨d, op, ty, pos, af, some gd⟩)) (vO (oP (xPure P ⟨d, op, ty, pos, af, some gd⟩ ⟨x, n, m, ex, gl, nm, tm⟩ (wantB (wantOf ops ⟨x, n, m, ex, gl, nm, tm⟩ ⟨d, op, ty, pos, af, some gd⟩)) σ σ.length))))) σ K
      else if wantB (wantOf ops ⟨x, n, m, ex, gl, nm, tm⟩ ⟨d, op, ty, pos, af, some gd⟩) = true then
        (cP (xPure P ⟨d, op, ty, pos, af, some gd⟩ ⟨x, n, m, ex, gl, nm, tm⟩ true σ σ.length) ∧ preO (oP (xPure P ⟨d, op, ty, pos, af, some gd⟩ ⟨x, n, m, ex, gl, nm, tm⟩ true σ σ.length))) ∧
          yOps P ops rest (Env.putO ⟨x, n, m, ex, gl, nm, tm⟩ d (vO (oP (xPure P ⟨d, op, ty, pos, af, some gd⟩ ⟨x, n, m, ex, gl, nm, tm⟩ true σ σ.length)))) (upd σ (wO (oP (xPure P ⟨d, op, ty, pos, af, some gd⟩ ⟨x, n, m, ex, gl, nm, tm⟩ true σ σ.length)))) K
      else yOps P ops rest (Env.putO ⟨x, n, m, ex, gl, nm, tm⟩ d (.tup [])) σ K := _root_.id rfl

def whO : Option IV → Bool
  | some c => c.when
  | none => true
@[go_sem] theorem opS_tmp {t : Tmp} : Env.opS ⟨x, n, m, ex, gl, nm, tm⟩ (.tmp t) = Option.map IV.strip (if isNamed m ex t = true then eget nm t else eget tm t) := by
  simp only [Env.opS, Env.opnd, Env.get]; cases isNamed m ex t <;> rfl
@[go_sem] theorem opS_const {v : Value} : Env.opS ⟨x, n, m, ex, gl, nm, tm⟩ (.const v) = Option.map IV.strip (ofV v) := _root_.id rfl
@[go_sem] theorem opS_global {g : Nat} : Env.opS ⟨x, n, m, ex, gl, nm, tm⟩ (.global g) = Option.map IV.strip (eget gl g) := _root_.id rfl
@[go_sem] theorem opS_func {f : FuncId} : Env.opS ⟨x, n, m, ex, gl, nm, tm⟩ (.func f) = some (.func (.func f) [] []) := _root_.id rfl
@[go_sem] theorem wh_tmp {t : Tmp} : Env.wh ⟨x, n, m, ex, gl, nm, tm⟩ (.tmp t) = whO (if isNamed m ex t = true then eget nm t else eget tm t) := by
  simp only [Env.wh, Env.opnd, Env.get, whO]; cases isNamed m ex t <;> rfl
@[go_sem] theorem wh_const {v : Value} : Env.wh ⟨x, n, m, ex, gl, nm, tm⟩ (.const v) = whO (ofV v) := _root_.id rfl
@[go_sem] theorem wh_global {g : Nat} : Env.wh ⟨x, n, m, ex, gl, nm, tm⟩ (.global g) = whO (eget gl g) := _root_.id rfl
@[go_sem] theorem wh_func {f : FuncId} : Env.wh ⟨x, n, m, ex, gl, nm, tm⟩ (.func f) = true := _root_.id rfl
@[go_sem] theorem get_lit {t : Nat} : Env.get ⟨x, n, m, ex, gl, nm, tm⟩ t = if isNamed m ex t = true then eget nm t else eget tm t := by
  simp only [Env.get]; cases isNamed m ex t <;> rfl
@[go_sem] theorem putO_some {t : Nat} {v : IV} : Env.putO ⟨x, n, m, ex, gl, nm, tm⟩ (some t) v = if t < n then (if isNamed m ex t = true then ⟨x, n, m, ex, gl, eput nm t v, tm⟩ else ⟨x, n, m, ex, gl, nm, (t, v) :: tm⟩) else ⟨x, n, m, ex, gl, nm, tm⟩ := by
  simp only [Env.putO, Env.put]
  by_cases h : t < n
  · rw [if_pos h, show Nat.blt t n = true by rw [Nat.blt_eq]; exact h]; cases isNamed m ex t <;> rfl
  · rw [if_neg h]
    cases hb : Nat.blt t n with
    | true => rw [Nat.blt_eq] at hb; exact absurd hb h
    | false => rfl
@[go_sem] theorem putO_none {v : IV} : Env.putO ⟨x, n, m, ex, gl, nm, tm⟩ none v = ⟨x, n, m, ex, gl, nm, tm⟩ := _root_.id rfl
@[go_sem] theorem isNamed_lit {t : Nat} : (isNamed m ex t = true) = (t < m ∨ t ∈ ex) := by
  simp [isNamed, Nat.blt_eq]
@[go_sem] theorem eget_nil {t : Nat} : eget [] t = none := _root_.id rfl
@[go_sem] theorem eget_cons {k t : Nat} {v : IV} {l : List (Nat × IV)} : eget ((k, v) :: l) t = if k = t then some v else eget l t := by
  simp only [eget]
  by_cases h : k = t
  · simp [h]
  · have : (k == t) = false := by simpa using h
    simp [h, this]
@[go_sem] theorem eput_nil {t : Nat} {v : IV} : eput [] t v = [(t, v)] := _root_.id rfl
@[go_sem] theorem eput_cons {k t : Nat} {u v : IV} {l : List (Nat × IV)} : eput ((k, u) :: l) t v = if k = t then (k, v) :: l else (k, u) :: eput l t v := by
  simp only [eput]
  by_cases h : k = t
  · simp [h]
  · have : (k == t) = false := by simpa using h
    simp [h, this]
@[go_sem] theorem whens_nil {g : Bool} : whens ⟨x, n, m, ex, gl, nm, tm⟩ g [] = True := _root_.id rfl
@[go_sem] theorem whens_cons {g : Bool} {y : Operand} {l : List Operand} : whens ⟨x, n, m, ex, gl, nm, tm⟩ g (y :: l) = ((g = true → Env.wh ⟨x, n, m, ex, gl, nm, tm⟩ y = true) ∧ whens ⟨x, n, m, ex, gl, nm, tm⟩ g l) := _root_.id rfl
@[go_sem] theorem kCall_eq {f : Env → Heap → Prop} {d : Option Tmp} {r : IV} : kCall f ⟨x, n, m, ex, gl, nm, tm⟩ d r σ = f (Env.putO ⟨x, n, m, ex, gl, nm, tm⟩ d r) σ := _root_.id rfl
attribute [go_sem] okO preO vO wO okP cP oP isB toB isCall callF callA wantB wantK callsGo callOf xPure iop binI bin un ok okIf ofV ofC ofCs IV.strip IV.when whO wantOf gslot upd hput opsnd partsV enum Op.operands Call.operands one
  ibuiltin loadAt cut srcRows capX mm mms loV hiV IV.cells IV.one splice kindsOK ceq ceqs placeS fillP IV.isAgg keyOK mapOf found mkV
@[go_sem] theorem TCalls_fn {f : FuncId} {args : List IV} {R : IV → Heap → Prop} : TCalls P gl (.fn f) args σ R = ICalls P gl f args σ R := _root_.id rfl
@[go_sem] theorem TCalls_yl {l : Nat} {args : List IV} {R : IV → Heap → Prop} : TCalls P gl (.yl l) args σ R = YCalls P gl l args σ R := _root_.id rfl
@[congr] theorem TCalls_congr {f f' : Tgt} {args args' : List IV} {R : IV → Heap → Prop} {σ' : Heap} (hf : f = f') (ha : args = args') (hs : σ = σ') : TCalls P gl f args σ R = TCalls P gl f' args' σ' R := by rw [hf, ha, hs]
@[congr] theorem YCalls_congr {l l' : Nat} {args args' : List IV} {R : IV → Heap → Prop} {σ' : Heap} (hf : l = l') (ha : args = args') (hs : σ = σ') : YCalls P gl l args σ R = YCalls P gl l' args' σ' R := by rw [hf, ha, hs]
attribute [go_sem] isIt
@[go_sem] theorem iterQ_range {t : TypeId} {y : Operand} {ρ : Operand → Option IV} {R : IV → Heap → Prop} : iterQ P (.range t y) ρ σ R = match P.underlying t, ρ y with
    | some (.map _ _), some (.map b) => match σ[b]? with
      | some (.map es) => R (.iter σ.length) (σ.set b .dead ++ [.iter (some b) es none es])
      | _ => False
    | some (.map _ _), some .nilm => R (.iter σ.length) (σ ++ [.iter none [] none []])
    | _, _ => False := _root_.id rfl
@[go_sem] theorem iterQ_next {y : Operand} {ρ : Operand → Option IV} {R : IV → Heap → Prop} : iterQ P (.next y false) ρ σ R = match ρ y with
    | some (.iter x) => match σ[x]? with
      | some (.iter b es _ todo) => nextQ R σ x b es todo
      | _ => False
    | _ => False := _root_.id rfl
@[go_sem] theorem iterQ_entry {y : Operand} {ρ : Operand → Option IV} {R : IV → Heap → Prop} : iterQ P (.entry y) ρ σ R = match ρ y with
    | some (.iter x) => match σ[x]? with
      | some (.iter (some _) _ (some kv) _) => R (.tup [kv.1, kv.2]) σ
      | _ => False
    | _ => False := _root_.id rfl
@[congr] theorem nextQ_congr {R : IV → Heap → Prop} {σ' : Heap} {y y' : Nat} {b b' : Option Nat} {es es' todo todo' : List (IV × IV)} (h1 : σ = σ') (h2 : y = y') (h3 : b = b') (h4 : es = es') (h5 : todo = todo') : nextQ R σ y b es todo = nextQ R σ' y' b' es' todo' := by rw [h1, h2, h3, h4, h5]
/-- What lies behind a call, or behind a loop, is left alone. -/
@[congr] theorem ICalls_congr {f f' : FuncId} {args args' : List IV} {R : IV → Heap → Prop} {σ' : Heap} (hf : f = f') (ha : args = args') (hs : σ = σ') : ICalls P gl f args σ R = ICalls P gl f' args' σ' R := by rw [hf, ha, hs]
@[congr] theorem IWp_congr {c : Code} {e e' : Env} {σ' : Heap} (he : e = e') (hs : σ = σ') : IWp P c Q e σ = IWp P c Q e' σ' := by rw [he, hs]
@[go_sem] theorem retQ_normal {rs : List ResultVar} {R : IV → Heap → Prop} {e : Env} : retQ P rs R .normal e σ = match resVs P rs e σ with | some (p, l) => p ∧ R (one l) σ | none => False := _root_.id rfl
@[go_sem] theorem retQ_ret {rs : List ResultVar} {R : IV → Heap → Prop} {e : Env} : retQ P rs R .ret e σ = match resVs P rs e σ with | some (p, l) => p ∧ R (one l) σ | none => False := _root_.id rfl
attribute [go_sem] resVs resV

/-! ### loops -/
def allIn : List (Nat × IV) → Env → Prop
  | [], _ => True
  | (k, v) :: l, e => e.get k = some v ∧ allIn l e
def Env.subE (e' e : Env) : Prop := e'.tm = [] ∧ e'.n = e.n ∧ e'.gl = e.gl ∧ allIn e'.nm e

theorem allIn_get {e : Env} : ∀ {l : List (Nat × IV)}, allIn l e → ∀ t c, eget l t = some c → e.get t = some c
  | (k, v) :: l, h, t, c, hg => by
    simp only [eget] at hg
    by_cases hk : k = t
    · subst hk; simp at hg; subst hg; exact h.1
    · have : (k == t) = false := by simpa using hk
      rw [this] at hg
      exact allIn_get h.2 t c hg

theorem Env.subE.sub {e' e : Env} (h : e'.subE e) : e'.sub e := by
  obtain ⟨h1, h2, h3, h4⟩ := h
  refine ⟨h2, h3, fun t c hg => ?_⟩
  unfold Env.get at hg
  cases hn : isNamed e'.m e'.ex t with
  | true => rw [hn] at hg; exact allIn_get h4 t c hg
  | false => rw [hn, h1] at hg; simp [eget] at hg

@[go_sem] theorem allIn_nil {e : Env} : allIn [] e = True := _root_.id rfl
@[go_sem] theorem allIn_cons {k : Nat} {v : IV} {l : List (Nat × IV)} : allIn ((k, v) :: l) ⟨x, n, m, ex, gl, nm, tm⟩ = (Env.get ⟨x, n, m, ex, gl, nm, tm⟩ k = some v ∧ allIn l ⟨x, n, m, ex, gl, nm, tm⟩) := _root_.id rfl
@[go_sem] theorem subE_lit {x' : Bool} {n' m' : Nat} {ex' : List Nat} {gl' nm' tm' : List (Nat × IV)} : Env.subE ⟨x', n', m', ex', gl', nm', tm'⟩ ⟨x, n, m, ex, gl, nm, tm⟩ = (tm' = [] ∧ n' = n ∧ gl' = gl ∧ allIn nm' ⟨x, n, m, ex, gl, nm, tm⟩) := _root_.id rfl

/-- **A LOOP**: st: the states at the rounds' heads, told by a value; inv: what holds of it; me: a measure. -/
theorem IWp.loopE {c : Code} {e : Env} {α : Type} (st : α → Env × Heap) (inv : α → Prop) (me : α → Nat) (a₀ : α) (h0 : inv a₀) (hs : (st a₀).1.subE e ∧ (st a₀).2 = σ)
    (round : ∀ x, inv x → yC P c (thenQ (fun e' σ' => ∃ y, ((st y).1.subE e' ∧ (st y).2 = σ') ∧ inv y ∧ me y < me x) Q) (st x).1 (st x).2) : IWp P (.loop c) Q e σ :=
  IWp.loop st inv me a₀ h0 hs.1.sub hs.2 fun x hx => (yC_sound _ _ _ _ (round x hx)).mono fun xe e' σ' h => by
    cases xe with
    | normal => obtain ⟨y, ⟨h1, h2⟩, h3, h4⟩ := h; exact ⟨y, h3, h4, h1.sub, h2⟩
    | exit i => exact h
    | ret => exact h
end
end Go.Idl
