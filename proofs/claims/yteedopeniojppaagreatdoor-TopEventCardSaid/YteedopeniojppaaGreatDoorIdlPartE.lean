import Derived.Test.YteedopeniojppaaGreatDoorIdlPartD
import Derived.OrdersIn
set_option linter.all false
namespace Go.Idl
open Go.RowKit
section
variable {P : Program} {orc : Nat → IV} {μ : Mu} {F : Fz} {w : World} {σ : Heap} {a : Act} {e : Env}
theorem step1_sound {ro : Option Nat} {ops : Array Oper} {Q : Exit → Act → World → Prop} {i : Nat} {o : Oper} {nb : Nat} {c : Prop} {v : IV} {wr : Option (Nat × IObj)} (ho : ops[i]? = some o) (hE : EnvR μ F w a.tmps e) (hH : HR μ F σ w)
  (hnb : hget σ nb = none) (h : step1 P orc ops.toList o e σ nb = some (c, v, wr)) (hc : c) {K : Act → World → Prop}
  (hK : ∀ μ' F' u w', EnvR μ' F' w' (a.put o.dst u).tmps (e.putO o.dst v) → HR μ' F' (upd σ wr) w' → Ext μ F w μ' F' w' → K (a.put o.dst u) w') : wpOpIn (Rd ro) 0 P ops Q i K a w := by
 have hnu : ¬ μ.u nb := fun hu => by
  obtain ⟨o, h1, h2⟩ := hH.n _ hu
  rw [hget_some.2 ⟨h1, h2⟩] at hnb; cases hnb
 unfold step1 at h
 split at h
 ·split at h
  ·cases h
  ·rename_i hg
   have hwant := wantOf_sound hE hg
   cases h
   unfold wpOpIn
   rw [ho]
   simp only
   rw [hwant]
   simp only [Bool.false_eq_true, if_false]
   exact ⟨fun _ _ => trivial, hK μ F undef w (hE.putO o.dst (VR.opt false undef _ (fun h => by cases h) fun _ => rfl)) hH (Ext.refl _ _ _)⟩
  ·rename_i hg
   have hwant := wantOf_sound hE hg
   split at h
   ·cases h
   ·rename_i fid as hcp
    obtain ⟨hwh, hIC⟩ : whens e true o.op.operands.toList ∧ ICalls P e.gl fid as σ (fun u σ' => u = v ∧ σ' = upd σ wr) := by
     split at h
     ·simp only [Option.some.injEq, Prod.mk.injEq] at h
      obtain ⟨rfl, rfl, rfl⟩ := h
      obtain ⟨⟨hwh, hgc⟩, hfun⟩ := hc
      exact ⟨hwh, hfun σ fun _ _ => rfl⟩
     ·split at h
      ·simp only [Option.some.injEq, Prod.mk.injEq] at h
       obtain ⟨rfl, rfl, rfl⟩ := h
       obtain ⟨⟨hwh, hla, hgc⟩, hfun⟩ := hc
       exact ⟨hwh, hfun.elim (fun hfun => IFun.call hfun (lends_frs hla) (glCl_get hgc) fun u hu => ⟨hu, rfl⟩) fun hfun => IFun.callC hfun.2 (clAll_get hfun.1) (glCl_get hgc) fun u hu => ⟨hu, rfl⟩⟩
      ·simp only [Option.some.injEq, Prod.mk.injEq] at h
       obtain ⟨rfl, rfl, rfl⟩ := h
       obtain ⟨⟨hwh, hla, hgc⟩, ⟨hs0, hsc⟩, hfun⟩ := hc
       exact ⟨hwh, IFun.callAt hfun (lends_frs hla) (glCl_get hgc) hs0 hsc fun o ho => by
        unfold hget at hnb
        rw [ho] at hnb
        cases o <;> first | rfl | cases hnb⟩
    obtain ⟨hent, hcalls⟩ := hIC
    unfold wpOpIn
    rw [ho]
    simp only
    rw [hwant]
    simp only [if_true]
    unfold callP at hcp
    split at hcp
    ·rename_i c hop
     split at hcp
     ·rename_i fo hcal
      split at hcp
      ·rename_i fid' first cap hfo
       simp only [Option.map_eq_some_iff, Prod.mk.injEq] at hcp
       obtain ⟨as', has, rfl, rfl⟩ := hcp
       have hwf : e.wh fo = true := whens_mem hwh fo (by simp [hop, Op.operands, Call.operands, hcal])
       have hwa : ∀ y ∈ c.args.toList, e.wh y = true := fun y hy => whens_mem hwh y (by simp [hop, Op.operands, Call.operands]; exact .inr (by simpa using hy))
       have hvf := opS_vr hE hfo hwf
       have hva : VRs μ F w (c.args.toList.map a.eval) as' := args_vrs hE hwa has
       generalize hfv : a.eval fo = fv at hvf
       cases hvf with
       | func _ fs cs _ _ hf hc h1 h2 =>
        refine ⟨fun _ _ => trivial, ?_⟩
        rw [Oper.semAt_eq _ _ _ (fun c' hc' => by rw [hop] at hc'; cases hc')]
        have hrun : (execOp a.eval o).run P w = .ok (.enter fid' (fs ++ c.args.toList.map a.eval ++ cs).toArray) w := by
         simp only [execOp, hop, resolve, hcal, hfv, Deferred.ofValue, Sem.run_bind, Sem.run_pure, Result.andThen_ok, invoke]
         rw [hent]
         congr 2
         apply Array.ext'
         simp
        rw [hrun, Oper.uponIn_enter]
        refine ⟨fun h => by simp [Rd, Fence.wide] at h, ?_⟩
        refine (callsIn_wide (n := 0 - 1)).2 ((hcalls μ F w (fs ++ c.args.toList.map a.eval ++ cs) hH (VRs.append (VRs.append ⟨hf, h1⟩ hva) ⟨hc, h2⟩) hE.glob).mono fun en w' ⟨v, r, σ', μ', F', e1, ⟨hr, hs⟩, hv, hH', hext⟩ => ?_)
        subst e1; subst hr; subst hs
        exact hK μ' F' v w' ((hext.env hE).putO o.dst hv) hH' hext
      ·cases hcp
     ·cases hcp
    ·cases hcp
 ·split at h
  ·cases h
  ·rename_i g hg
   have hwant := wantOf_sound hE hg
   unfold wpOpIn
   rw [ho]
   simp only
   rw [hwant]
   have skip : ∀ {c : IV}, VR μ F w undef c → v = c → wr = none → g = false → (if g = true then o.wpIn (Rd ro) 0 P a w K Q else (∀ f, o.about P w a.eval = some f → (Rd ro).fn f) ∧ K (a.put o.dst undef) w) := fun hv e1 e2 e3 => by
    subst e1; subst e2; subst e3
    simp only [Bool.false_eq_true, if_false]
    refine ⟨fun _ _ => trivial, ?_⟩
    exact hK μ F undef w (hE.putO o.dst hv) hH (Ext.refl _ _ _)
   split at h
   ·split at h
    ·simp only [Option.some.injEq, Prod.mk.injEq] at h
     exact skip (VR.tup [] [] rfl fun j v c h1 _ => by simp at h1) h.2.1.symm h.2.2.symm rfl
    ·cases h
   ·rename_i cc r hx
    have doit : cc → r.pre → (∀ {μ' : Mu} {w' : World} {u : Value}, VR μ' F w' u r.v → VR μ' F w' u v) → wr = r.w → g = true → (if g = true then o.wpIn (Rd ro) 0 P a w K Q else (∀ f, o.about P w a.eval = some f → (Rd ro).fn f) ∧ K (a.put o.dst undef) w) := fun hcc hp hv2 e1 e2 => by
     subst e1; subst e2
     simp only [if_true]
     refine ⟨fun _ _ => trivial, ?_⟩
     rw [Oper.semAt_eq _ _ _ (xPure_nodefer hx)]
     obtain ⟨u, w', μ', hres, hv, hH', hext⟩ := xPure_goes hE hH hnu hx hcc hp
     rcases hres with hres | ⟨hres, hu⟩
     ·rw [hres]
      exact hK μ' F u w' ((hext.env hE).putO o.dst (hv2 hv)) hH' hext
     ·rw [hres]
      subst hu
      exact hK μ' F undef w' ((hext.env hE).putO o.dst (hv2 hv)) hH' hext
    split at h
    ·rename_i hw
     simp only [Option.some.injEq, Prod.mk.injEq] at h
     obtain ⟨rfl, rfl, rfl⟩ := h
     cases g with
     | true =>
      refine doit hc.1 (hc.2 rfl) (fun hv => ?_) hw.symm rfl
      cases o.guard.isSome with
      | true => exact .opt true _ _ (fun _ => hv) (by simp)
      | false => exact hv
     | false =>
      have hgd : o.guard.isSome = true := by
       cases hgd : o.guard with
       | some _ => rfl
       | none => unfold wantOf at hg; rw [hgd] at hg; cases hg
      refine skip (c := .opt false r.v) (.opt false _ _ (by simp) (fun _ => rfl)) (by rw [hgd]; rfl) rfl rfl
    ·rename_i bo hw
     split at h
     ·simp only [Option.some.injEq, Prod.mk.injEq] at h
      obtain ⟨rfl, rfl, rfl⟩ := h
      exact doit hc.1 hc.2 (fun hv => hv) hw.symm rfl
     ·simp only [Option.some.injEq, Prod.mk.injEq] at h
      obtain ⟨rfl, rfl, rfl⟩ := h
      exact skip vr_tup0 rfl rfl rfl
def Down (ops : List Oper) (L : Nat → Bool) : Prop := ∀ (j : Nat) (o : Oper), ops[j]? = some o → L j = true → ∀ e ∈ o.after, Region.binds .any e = true → L e.on = true
def befores (o : Oper) (acc : List (List Nat)) : List Nat := (o.after.toList.filter (Region.binds .any)).flatMap fun e => e.on :: acc.getD e.on []
def mustT : List Oper → List (List Nat) → List (List Nat)
 | [], acc => acc
 | o :: l, acc => mustT l (acc ++ [befores o acc])
def must (ops : List Oper) (i j : Nat) : Bool := ((mustT ops []).getD j []).contains i
def Must (ops : List Oper) (i j : Nat) : Prop := ∀ L, Down ops L → L j = true → L i = true
theorem mustT_sound {ops : List Oper} : ∀ (l : List Oper) (acc : List (List Nat)), (∀ k, l[k]? = ops[acc.length + k]?) → (∀ i j, i ∈ acc.getD j [] → Must ops i j) → ∀ i j, i ∈ (mustT l acc).getD j [] → Must ops i j
 | [], acc, _, h, i, j, hi => h i j hi
 | o :: l, acc, hl, h, i, j, hi => by
  refine mustT_sound l (acc ++ [befores o acc]) (fun k => ?_) (fun i j hij => ?_) i j hi
  ·have := hl (k + 1)
   simp only [List.getElem?_cons_succ] at this
   rw [this]; simp; congr 1; omega
  ·by_cases hj : j < acc.length
   ·rw [List.getD_eq_getElem?_getD, List.getElem?_append_left hj, ← List.getD_eq_getElem?_getD] at hij
    exact h i j hij
   ·by_cases hj2 : j = acc.length
    ·subst hj2
     rw [List.getD_eq_getElem?_getD, List.getElem?_append_right (Nat.le_refl _)] at hij
     simp only [Nat.sub_self, List.getElem?_cons_zero, Option.getD_some] at hij
     unfold befores at hij
     rw [List.mem_flatMap] at hij
     obtain ⟨ed, he, hie⟩ := hij
     rw [List.mem_filter] at he
     have h0 : ops[acc.length]? = some o := by simpa using (hl 0).symm
     intro L hL hLj
     have h1 := hL _ o h0 hLj ed (by simpa using he.1) he.2
     rcases List.mem_cons.1 hie with e1 | e1
     ·rw [e1]; exact h1
     ·exact h i ed.on e1 L hL h1
    ·rw [List.getD_eq_getElem?_getD, List.getElem?_eq_none (by simp; omega)] at hij
     cases hij
theorem must_sound {ops : List Oper} {i j : Nat} (h : must ops i j = true) : Must ops i j :=
 mustT_sound ops [] (fun k => by simp) (fun i j h => by simp at h) i j (by simpa [must] using h)
def dstOf (ops : List Oper) (i : Nat) : Option Nat := match ops[i]? with | some o => o.dst | none => none
def run (P : Program) (orc : Nat → IV) (ops : List Oper) (nb : Nat) (e : Env) (h : Heap) : Nat → Env × Heap
 | 0 => (e, h)
 | k + 1 => match ops[k]? with
  | none => run P orc ops nb e h k
  | some o => match step1 P orc ops o (run P orc ops nb e h k).1 (run P orc ops nb e h k).2 (nb + k) with
   | none => run P orc ops nb e h k
   | some (_, v, w) => ((run P orc ops nb e h k).1.putO o.dst v, upd (run P orc ops nb e h k).2 w)
def rec1 (P : Program) (orc : Nat → IV) (ops : List Oper) (nb : Nat) (e : Env) (h : Heap) (k : Nat) : IV × Option (Nat × IObj) := match ops[k]? with
 | none => (.tup [], none)
 | some o => match step1 P orc ops o (run P orc ops nb e h k).1 (run P orc ops nb e h k).2 (nb + k) with
  | none => (.tup [], none)
  | some (_, v, w) => (v, w)
def wrs (w : Option (Nat × IObj)) : List Nat := match w with | some (b, _) => [b] | none => []
def wOf (nb k : Nat) (w : Option (Nat × IObj)) : List Nat := (nb + k) :: wrs w
def meets (l m : List Nat) : Bool := l.any fun x => m.contains x
def clash (acc : List (Nat × List Nat × List Nat)) (k : Nat) (t w : List Nat) : List (Nat × Nat) := match acc with
 | [] => []
 | (i, t', w') :: l => bif meets w' (t ++ w) || meets t' w then (i, k) :: clash l k t w else clash l k t w
def regOK (ops : List Oper) : Bool :=
 (List.range ops.length).all fun j => match ops[j]? with
  | none => true
  | some oj => oj.after.all (fun e => !Region.binds .any e || Nat.blt e.on j) && (List.range j).all fun i => match ops[i]? with
   | none => true
   | some oi => oi.apart ops.toArray oj || must ops i j
def befM (o : Oper) (acc : List Nat) : Nat := (o.after.toList.filter (Region.binds .any)).foldl (fun m e => m ||| 1 <<< e.on ||| acc.getD e.on 0) 0
def mskT : List Oper → List Nat → List Nat
 | [], acc => acc
 | o :: l, acc => mskT l (acc ++ [befM o acc])
def mustM (T : List Nat) (i j : Nat) : Bool := Nat.testBit (T.getD j 0) i
def SameM (l : List (List Nat)) (m : List Nat) : Prop := l.length = m.length ∧ ∀ j i, Nat.testBit (m.getD j 0) i = (l.getD j []).contains i
theorem befM_aux {l : List (List Nat)} {m : List Nat} (h : SameM l m) (i : Nat) : ∀ (es : List Edge) (a : Nat) (b : List Nat), Nat.testBit a i = b.contains i →
  Nat.testBit (es.foldl (fun m' e => m' ||| 1 <<< e.on ||| m.getD e.on 0) a) i = (b ++ es.flatMap fun e => e.on :: l.getD e.on []).contains i
 | [], a, b, hab => by simpa using hab
 | e :: es, a, b, hab => by
  simp only [List.foldl_cons, List.flatMap_cons]
  rw [befM_aux h i es _ (b ++ (e.on :: l.getD e.on []))]
  ·simp [List.append_assoc]
  ·rw [Nat.testBit_or, Nat.testBit_or, hab, h.2, Nat.one_shiftLeft, Nat.testBit_two_pow]
   simp only [List.contains_eq_mem, List.mem_append, List.mem_cons, Bool.decide_or, Bool.or_assoc]
   congr 2
   exact decide_eq_decide.2 eq_comm
theorem befM_same {l : List (List Nat)} {m : List Nat} (h : SameM l m) (o : Oper) (i : Nat) : Nat.testBit (befM o m) i = (befores o l).contains i := by
 unfold befM befores
 rw [befM_aux h i _ 0 []]
 ·rw [List.nil_append]
 ·simp
theorem getD_snoc {α : Type} (l : List α) (a d : α) (j : Nat) : (l ++ [a]).getD j d = if j = l.length then a else l.getD j d := by
 simp only [List.getD_eq_getElem?_getD, List.getElem?_append]
 by_cases h : j < l.length
 ·rw [if_pos h, if_neg (by omega)]
 ·rw [if_neg h]
  by_cases h2 : j = l.length
  ·subst h2; simp
  ·rw [if_neg h2, List.getElem?_eq_none (by simp; omega), List.getElem?_eq_none (by omega)]
theorem mskT_same : ∀ (ops : List Oper) (l : List (List Nat)) (m : List Nat), SameM l m → SameM (mustT ops l) (mskT ops m)
 | [], _, _, h => h
 | o :: ops, l, m, h => by
  refine mskT_same ops _ _ ⟨by simp [h.1], fun j i => ?_⟩
  rw [getD_snoc, getD_snoc, h.1]
  by_cases hj : j = m.length
  ·rw [if_pos hj, if_pos hj]; exact befM_same h o i
  ·rw [if_neg hj, if_neg hj]; exact h.2 j i
theorem must_eqM (ops : List Oper) (i j : Nat) : must ops i j = mustM (mskT ops []) i j := by
 unfold must mustM
 rw [(mskT_same ops [] [] ⟨rfl, fun j i => by simp⟩).2]
def apartAll (A : Array Oper) (T : List Nat) (oj : Oper) (j : Nat) : List Oper → Nat → Bool
 | [], _ => true
 | oi :: l, i => (mustM T i j || oi.apart A oj) && apartAll A T oj j l (i + 1)
def regM (ops : List Oper) (A : Array Oper) (T : List Nat) : List Oper → Nat → Bool
 | [], _ => true
 | oj :: l, j => (oj.after.all (fun e => !Region.binds .any e || Nat.blt e.on j) && apartAll A T oj j (ops.take j) 0) && regM ops A T l (j + 1)
def isAddr : Op → Bool
 | .fieldAddr .. | .indexAddr .. | .move .. | .assign .. => true
 | _ => false
def isStore : Op → Bool
 | .store .. => true
 | _ => false
def isQuiet : Op → Bool
 | .move .. | .assign .. | .binOp .. | .unOp .. | .pick .. | .convert .. | .extract .. | .load .. | .field .. | .index .. => true
 | op => isAddr op || isStore op
def softAll (ops : List Oper) : Bool := ops.all fun o => isQuiet o.op
def softP (ops : List Oper) (i k : Nat) : Bool := softAll ops && match ops[i]?, ops[k]? with
 | some a, some b => (isAddr a.op && isStore b.op) || (isStore a.op && isAddr b.op)
 | _, _ => false
def shp (h : Heap) (b : Nat) : Option (Nat × Nat) := match h[b]? with | some (.rows s rs) => some (s, rs.length) | _ => none
def drawOK (P : Program) (ops : List Oper) (pairs : List (Nat × Nat)) : Bool := P.follows .mixedOrders && regM ops ops.toArray (mskT ops []) ops 0 && pairs.all fun p => mustM (mskT ops []) p.1 p.2 || softP ops p.1 p.2
theorem apartAll_at {A : Array Oper} {T : List Nat} {oj : Oper} {j : Nat} : ∀ {l : List Oper} {k : Nat}, apartAll A T oj j l k = true → ∀ i oi, l[i]? = some oi → (mustM T (k + i) j || oi.apart A oj) = true
 | [], _, _, _, _, h => by simp at h
 | o :: l, k, h, i, oi, hi => by
  simp only [apartAll, Bool.and_eq_true] at h
  cases i with
  | zero => simp only [List.getElem?_cons_zero, Option.some.injEq] at hi; subst hi; exact h.1
  | succ i =>
   have := apartAll_at h.2 i oi (by simpa using hi)
   rw [show k + (i + 1) = k + 1 + i by omega]; exact this
theorem regM_at {ops : List Oper} {A : Array Oper} {T : List Nat} : ∀ {l : List Oper} {k : Nat}, regM ops A T l k = true → ∀ j oj, l[j]? = some oj → (oj.after.all (fun e => !Region.binds .any e || Nat.blt e.on (k + j)) && apartAll A T oj (k + j) (ops.take (k + j)) 0) = true
 | [], _, _, _, _, h => by simp at h
 | o :: l, k, h, j, oj, hj => by
  simp only [regM, Bool.and_eq_true] at h
  cases j with
  | zero => simp only [List.getElem?_cons_zero, Option.some.injEq] at hj; subst hj; simpa using h.1
  | succ j =>
   have := regM_at h.2 j oj (by simpa using hj)
   rw [show k + (j + 1) = k + 1 + j by omega]; exact this
theorem regM_ok {ops : List Oper} (h : regM ops ops.toArray (mskT ops []) ops 0 = true) : regOK ops = true := by
 simp only [regOK, List.all_eq_true]
 intro j hj
 cases hoj : ops[j]? with
 | none => rfl
 | some oj =>
  have h2 := regM_at h j oj hoj
  simp only [Nat.zero_add, Bool.and_eq_true] at h2 ⊢
  refine ⟨h2.1, ?_⟩
  rw [List.all_eq_true]
  intro i hi
  have hij : i < j := List.mem_range.1 hi
  cases hoi : ops[i]? with
  | none => rfl
  | some oi =>
   have h3 := apartAll_at h2.2 i oi (by rw [List.getElem?_take, if_pos hij]; exact hoi)
   rw [Nat.zero_add] at h3
   simp only [must_eqM]; rw [Bool.or_comm]; exact h3
theorem shp_cases {h h' : Heap} {b : Nat} (hs : shp h b = shp h' b) : (∃ s rs rs', h[b]? = some (.rows s rs) ∧ h'[b]? = some (.rows s rs') ∧ rs.length = rs'.length) ∨ ((∀ s rs, h[b]? ≠ some (.rows s rs)) ∧ ∀ s rs, h'[b]? ≠ some (.rows s rs)) := by
 unfold shp at hs
 split at hs
 ·rename_i s rs e1
  split at hs
  ·rename_i s' rs' e2
   simp only [Option.some.injEq, Prod.mk.injEq] at hs
   exact .inl ⟨s, rs, rs', e1, by rw [e2, hs.1], hs.2⟩
  ·cases hs
 ·rename_i h1
  split at hs
  ·cases hs
  ·rename_i h2
   exact .inr ⟨fun s rs => h1 s rs, fun s rs => h2 s rs⟩
theorem shp_match {h h' : Heap} {b : Nat} (hs : shp h b = shp h' b) {α : Type} (f : Nat → List (List IV) → α) (hf : ∀ s rs rs', rs.length = rs'.length → f s rs = f s rs') (d : α) :
  (match h[b]? with | some (.rows s rs) => f s rs | _ => d) = (match h'[b]? with | some (.rows s rs) => f s rs | _ => d) := by
 rcases shp_cases hs with ⟨s, rs, rs', h1, h2, h3⟩ | ⟨h1, h2⟩
 ·rw [h1, h2]; exact hf s rs rs' h3
 ·split
  ·rename_i e; exact absurd e (h1 _ _)
  ·generalize h'[b]? = q at h2
   cases q with
   | none => rfl
   | some o => cases o <;> first | rfl | exact absurd rfl (h2 _ _)
theorem iop_shp {x : Bool} {op : Op} {ρ : Operand → Option IV} {h h' : Heap} {nb : Nat} (ha : isAddr op = true) (hs : ∀ b, shp h b = shp h' b) : iop P x op ρ h nb = iop P x op ρ h' nb := by
 cases op with
 | fieldAddr t y f =>
  simp only [iop]
  generalize ρ y = r at *
  generalize P.underlying t = u
  rcases r with _ | r
  ·rfl
  ·cases r with
   | ptr b tot i o =>
    rcases u with _ | u
    ·rfl
    ·cases u with
     | struct fs =>
      simp only
      generalize fs.toList[f]? = z
      cases z with
      | none => rfl
      | some fd =>
       rcases shp_cases (hs b) with ⟨s, rs, rs', h1, h2, h3⟩ | ⟨h1, h2⟩
       ·rw [h1, h2]; simp only [h3]
       ·generalize h[b]? = q at h1
        generalize h'[b]? = q' at h2
        have g : ∀ q : Option IObj, (∀ s rs, q ≠ some (.rows s rs)) → (match some fd, q with | some fd, some (.rows _ rs) => bif hasP P fd.type && Nat.blt 0 (sizeP P fd.type) then okIf (tot = rs.length ∧ i < rs.length) (IV.ptr b tot i (o + fd.offset)) else none | _, _ => none) = none := by
         intro q hq
         cases q with
         | none => rfl
         | some o => cases o <;> first | rfl | exact absurd rfl (hq _ _)
        exact (g q h1).trans (g q' h2).symm
     | _ => rfl
   | _ => cases u with
    | none => rfl
    | some u => cases u <;> rfl
 | indexAddr t y z =>
  simp only [iop]
  generalize ρ y = r at *
  generalize ρ z = rz at *
  generalize P.underlying t = u
  rcases u with _ | u
  ·rfl
  ·rcases r with _ | r
   ·cases u <;> rfl
   ·rcases rz with _ | rz
    ·cases u <;> cases r <;> rfl
    ·cases r with
     | ptr b tot i o =>
      cases u with
      | array len e =>
       cases rz with
       | int k n =>
        simp only
        exact shp_match (hs b) (fun _ rs => bif hasP P e then okIf (0 ≤ n ∧ n < (len : Int) ∧ tot = rs.length ∧ i < rs.length) (IV.ptr b tot i (o + n.toNat * sizeP P e)) else none) (fun s rs rs' hl => by simp only [hl]) none
       | _ => rfl
      | _ => cases rz <;> rfl
     | sl b tot i len cap =>
      cases u with
      | slice e =>
       cases rz with
       | int k n =>
        simp only
        cases hasP P e with
        | false => rfl
        | true => exact shp_match (hs b) (fun s rs => bif Nat.beq (sizeP P e) s then okIf (0 ≤ n ∧ n < (len : Int) ∧ tot = rs.length ∧ i + len ≤ rs.length) (IV.ptr b tot (i + n.toNat) 0) else none) (fun s rs rs' hl => by simp only [hl]) none
       | _ => rfl
      | _ => cases rz <;> rfl
     | _ => cases u <;> cases rz <;> rfl
 | move y => rfl
 | assign y => rfl
 | _ => cases ha
def tRun (P : Program) (orc : Nat → IV) (ops : List Oper) (nb : Nat) : Nat → List Oper → List (Nat × List Nat × List Nat) → List (Nat × Nat) → Env → Heap → (Env → Heap → Prop) → Prop
 | _, [], _, pairs, e, h, K => drawOK P ops pairs = true ∧ K e.clean h
 | k, o :: rest, acc, pairs, e, h, K => match step1 P orc ops o e h (nb + k) with
  | none => False
  | some (c, v, w) => (c ∧ hget h (nb + k) = none) ∧ tRun P orc ops nb (k + 1) rest ((k, foot e o, wOf nb k w) :: acc) (clash acc k (foot e o) (wOf nb k w) ++ pairs) (e.putO o.dst v) (upd h w) K
structure Fact (P : Program) (orc : Nat → IV) (ops : List Oper) (nb : Nat) (e : Env) (h : Heap) (k : Nat) (o : Oper) : Prop where
 ex : ∃ c v w, step1 P orc ops o (run P orc ops nb e h k).1 (run P orc ops nb e h k).2 (nb + k) = some (c, v, w) ∧ c
 hole : hget (run P orc ops nb e h k).2 (nb + k) = none
 cl : ∀ i oi, i < k → ops[i]? = some oi → (meets (wOf nb i (rec1 P orc ops nb e h i).2) (foot (run P orc ops nb e h k).1 o ++ wOf nb k (rec1 P orc ops nb e h k).2) || meets (foot (run P orc ops nb e h i).1 oi) (wOf nb k (rec1 P orc ops nb e h k).2)) = true → (must ops i k || softP ops i k) = true
theorem mem_clash {k : Nat} {t w : List Nat} : ∀ {acc : List (Nat × List Nat × List Nat)} {i : Nat} {t' w' : List Nat}, (i, t', w') ∈ acc → (meets w' (t ++ w) || meets t' w) = true → (i, k) ∈ clash acc k t w
 | (i', t'', w'') :: l, i, t', w', hm, hc => by
  simp only [clash]
  rcases List.mem_cons.1 hm with h | h
  ·cases h
   rw [hc]; simp
  ·have := mem_clash (k := k) h hc
   cases (meets w'' (t ++ w) || meets t'' w) <;> simp [this]
theorem tRun_facts {ops : List Oper} {nb : Nat} {e : Env} {h : Heap} {K : Env → Heap → Prop} : ∀ (rest : List Oper) (k : Nat) (acc : List (Nat × List Nat × List Nat)) (pairs : List (Nat × Nat)),
  (∀ j, rest[j]? = ops[k + j]?) → (∀ i oi, i < k → ops[i]? = some oi → (i, foot (run P orc ops nb e h i).1 oi, wOf nb i (rec1 P orc ops nb e h i).2) ∈ acc) →
  tRun P orc ops nb k rest acc pairs (run P orc ops nb e h k).1 (run P orc ops nb e h k).2 K →
  ∃ pf, drawOK P ops pf = true ∧ (∀ p ∈ pairs, p ∈ pf) ∧ (∀ j o, k ≤ j → ops[j]? = some o → Fact P orc ops nb e h j o) ∧ K (run P orc ops nb e h (k + rest.length)).1.clean (run P orc ops nb e h (k + rest.length)).2
 | [], k, acc, pairs, hl, ha, hr => by
  simp only [tRun] at hr
  refine ⟨pairs, hr.1, fun _ h => h, fun j o hj ho => ?_, by simpa using hr.2⟩
  have := hl (j - k)
  rw [show k + (j - k) = j by omega, ho] at this
  simp at this
 | o :: rest, k, acc, pairs, hl, ha, hr => by
  have h0 : ops[k]? = some o := by simpa using (hl 0).symm
  simp only [tRun] at hr
  split at hr
  ·exact hr.elim
  ·rename_i c v w hs
   obtain ⟨⟨hc, hh⟩, hr⟩ := hr
   have hrec : rec1 P orc ops nb e h k = (v, w) := by unfold rec1; rw [h0]; simp only; rw [hs]
   have hrun : run P orc ops nb e h (k + 1) = ((run P orc ops nb e h k).1.putO o.dst v, upd (run P orc ops nb e h k).2 w) := by
    simp only [run]; rw [h0]; simp only; rw [hs]
   have hr' : tRun P orc ops nb (k + 1) rest ((k, foot (run P orc ops nb e h k).1 o, wOf nb k w) :: acc) (clash acc k (foot (run P orc ops nb e h k).1 o) (wOf nb k w) ++ pairs) (run P orc ops nb e h (k + 1)).1 (run P orc ops nb e h (k + 1)).2 K := by
    rw [hrun]; exact hr
   obtain ⟨pf, p1, p2, p3, p4⟩ := tRun_facts rest (k + 1) _ _ (fun j => by have := hl (j + 1); simp only [List.getElem?_cons_succ] at this; rw [this]; congr 1; omega) (fun i oi hi hoi => by
    by_cases hik : i = k
    ·subst hik; rw [h0] at hoi; cases hoi; rw [hrec]; simp
    ·exact List.mem_cons_of_mem _ (ha i oi (by omega) hoi)) hr'
   refine ⟨pf, p1, fun p hp => p2 p (by simp [hp]), fun j oj hj hoj => ?_, by rw [List.length_cons, show k + (rest.length + 1) = k + 1 + rest.length by omega]; exact p4⟩
   by_cases hjk : j = k
   ·subst hjk
    rw [h0] at hoj; cases hoj
    refine ⟨⟨c, v, w, hs, hc⟩, hh, fun i oi hi hoi hm => ?_⟩
    rw [hrec] at hm
    have h1 := p2 (i, j) (List.mem_append_left _ (mem_clash (ha i oi hi hoi) hm))
    simp only [drawOK, Bool.and_eq_true, List.all_eq_true] at p1
    rw [must_eqM]; exact p1.2 _ h1
   ·exact p3 j oj (by omega) hoj
def eAt (ops : List Oper) (R : Nat → IV × Option (Nat × IObj)) (L : Nat → Bool) (e : Env) : Nat → Env
 | 0 => e
 | k + 1 => bif L k then (eAt ops R L e k).putO (dstOf ops k) (R k).1 else eAt ops R L e k
def hAt (R : Nat → IV × Option (Nat × IObj)) (L : Nat → Bool) (h : Heap) : Nat → Heap
 | 0 => h
 | k + 1 => bif L k then upd (hAt R L h k) (R k).2 else hAt R L h k
theorem eAt_base (ops : List Oper) (R : Nat → IV × Option (Nat × IObj)) (L : Nat → Bool) (e : Env) : ∀ k, (eAt ops R L e k).n = e.n ∧ (eAt ops R L e k).gl = e.gl ∧ (eAt ops R L e k).x = e.x
 | 0 => ⟨rfl, rfl, rfl⟩
 | k + 1 => by
  simp only [eAt]
  cases L k <;> simp [eAt_base ops R L e k]
theorem putO_get_congr {e e' : Env} {d : Option Nat} {v : IV} {t : Nat} (hn : e'.n = e.n) (h : e'.get t = e.get t) : (e'.putO d v).get t = (e.putO d v).get t := by
 cases d with
 | none => exact h
 | some j => simp only [Env.putO, Env.get_put_eq, hn, h]
theorem hget_upd {h : Heap} {w : Option (Nat × IObj)} {b : Nat} (hb : b ∉ wrs w) : hget (upd h w) b = hget h b := by
 cases w with
 | none => rfl
 | some bo => obtain ⟨b', o⟩ := bo; exact hget_hput_ne (by intro e; subst e; exact hb (by simp [wrs]))
theorem hget_upd_congr {h h' : Heap} {w : Option (Nat × IObj)} {b : Nat} (hb : hget h b = hget h' b) : hget (upd h w) b = hget (upd h' w) b := by
 cases w with
 | none => exact hb
 | some bo =>
  obtain ⟨b', o⟩ := bo
  by_cases e : b = b'
  ·subst e; show hget (hput _ _ _) _ = hget (hput _ _ _) _; rw [hget_hput_eq, hget_hput_eq]
  ·show hget (hput _ _ _) _ = hget (hput _ _ _) _; rw [hget_hput_ne e, hget_hput_ne e]; exact hb
theorem eAt_agree {ops : List Oper} {R : Nat → IV × Option (Nat × IObj)} {L L' : Nat → Bool} {e : Env} {t : Nat} : ∀ k, (∀ i, i < k → L i ≠ L' i → dstOf ops i ≠ some t) → (eAt ops R L e k).get t = (eAt ops R L' e k).get t
 | 0, _ => rfl
 | k + 1, h => by
  have ih := eAt_agree (ops := ops) (R := R) (e := e) k fun i hi => h i (by omega)
  have hn := (eAt_base ops R L e k).1.trans (eAt_base ops R L' e k).1.symm
  have hk := h k (by omega)
  simp only [eAt]
  cases h1 : L k <;> cases h2 : L' k <;> simp only [cond_true, cond_false]
  ·exact ih
  ·rw [Env.get_putO_ne (hk (by rw [h1, h2]; simp))]; exact ih
  ·rw [Env.get_putO_ne (hk (by rw [h1, h2]; simp))]; exact ih
  ·exact putO_get_congr hn ih
theorem hAt_agree {R : Nat → IV × Option (Nat × IObj)} {L L' : Nat → Bool} {h : Heap} {b : Nat} : ∀ k, (∀ i, i < k → L i ≠ L' i → b ∉ wrs (R i).2) → hget (hAt R L h k) b = hget (hAt R L' h k) b
 | 0, _ => rfl
 | k + 1, hh => by
  have ih := hAt_agree (R := R) (h := h) k fun i hi => hh i (by omega)
  have hk := hh k (by omega)
  simp only [hAt]
  cases h1 : L k <;> cases h2 : L' k <;> simp only [cond_true, cond_false]
  ·exact ih
  ·rw [hget_upd (hk (by rw [h1, h2]; simp))]; exact ih
  ·rw [hget_upd (hk (by rw [h1, h2]; simp))]; exact ih
  ·exact hget_upd_congr ih
theorem run_eq {ops : List Oper} {nb : Nat} {e : Env} {h : Heap} : ∀ k, (∀ j o, j < k → ops[j]? = some o → Fact P orc ops nb e h j o) → k ≤ ops.length → run P orc ops nb e h k = (eAt ops (rec1 P orc ops nb e h) (fun _ => true) e k, hAt (rec1 P orc ops nb e h) (fun _ => true) h k)
 | 0, _, _ => rfl
 | k + 1, hf, hk => by
  have ih := run_eq k (fun j o hj => hf j o (by omega)) (by omega)
  have h0 : ops[k]? = some ops[k] := List.getElem?_eq_getElem (by omega)
  obtain ⟨⟨c, v, w, hs, _⟩, _, _⟩ := hf k _ (by omega) h0
  have hrec : rec1 P orc ops nb e h k = (v, w) := by unfold rec1; rw [h0]; simp only; rw [hs]
  simp only [run, eAt, hAt, cond_true, hrec, dstOf]
  rw [h0]; simp only; rw [hs]; simp only
  rw [ih]
theorem binI_w {op : BinOp} {k : IntKind} {a b : Int} {r : Out} (h : binI op k a b = some r) : r.w = none := by
 cases op <;> simp only [binI] at h <;> first | (cases h; rfl) | cases h
theorem bif_some {α : Type} {b : Bool} {x : Option α} {r : α} (h : (bif b then x else none) = some r) : x = some r := by
 cases b with
 | true => exact h
 | false => cases h
theorem bin_w {op : BinOp} {t : TypeId} {x y : IV} {r : Out} (h : bin P op t x y = some r) : r.w = none := by
 unfold bin at h
 repeat' split at h
 all_goals first | (cases h; rfl) | (cases h; done) | skip
 all_goals (have h1 := bif_some h; first | exact binI_w h1 | (cases h1; rfl) | cases h1)
theorem un_w {op : UnOp} {x : IV} {r : Out} (h : un op x = some r) : r.w = none := by
 unfold un at h
 repeat' split at h
 all_goals first | (cases h; rfl) | cases h
theorem iop_quiet {x : Bool} {op : Op} {ρ : Operand → Option IV} {h : Heap} {nb : Nat} {r : Out} (hq : isQuiet op = true) (hs : isStore op = false) (hr : iop P x op ρ h nb = some r) : r.w = none := by
 cases op with
 | move y => simp only [iop] at hr; cases hy : ρ y <;> rw [hy] at hr <;> cases hr; rfl
 | assign y => simp only [iop] at hr; cases hy : ρ y <;> rw [hy] at hr <;> cases hr; rfl
 | binOp op t y z ty =>
  simp only [iop] at hr
  split at hr
  ·exact bin_w hr
  ·cases hr
 | unOp op t y => simp only [iop] at hr; cases hy : ρ y <;> rw [hy] at hr <;> first | exact un_w hr | cases hr
 | pick c y z => simp only [iop] at hr; split at hr <;> first | (cases hr; rfl) | cases hr
 | convert a b y => simp only [iop] at hr; split at hr <;> first | (cases hr; rfl) | cases hr
 | extract y i =>
  simp only [iop] at hr
  split at hr
  ·rename_i vs _
   cases hv : vs[i]? <;> rw [hv] at hr <;> cases hr; rfl
  ·cases hr
 | field t y f =>
  simp only [iop] at hr
  repeat' split at hr
  all_goals first | (cases hr; done) | skip
  all_goals (have := bif_some hr; cases this; rfl)
 | fieldAddr t y f =>
  simp only [iop] at hr
  repeat' split at hr
  all_goals first | (cases hr; done) | skip
  all_goals (have := bif_some hr; cases this; rfl)
 | indexAddr t y z =>
  simp only [iop] at hr
  repeat' split at hr
  all_goals first | (cases hr; done) | skip
  all_goals (have h1 := bif_some hr; first | (cases h1; rfl) | cases h1 | (have h2 := bif_some h1; cases h2; rfl))
 | index t y z =>
  simp only [iop] at hr
  repeat' split at hr
  all_goals first | (cases hr; done) | skip
  all_goals (have := bif_some hr; cases this; rfl)
 | load t y =>
  simp only [iop] at hr
  have h1 := bif_some hr
  repeat' split at h1
  all_goals first | (cases h1; done) | skip
  all_goals (cases h1; rfl)
 | store t y z => cases hs
 | _ => cases hq
theorem iop_store {x : Bool} {t : TypeId} {y z : Operand} {ρ : Operand → Option IV} {h : Heap} {nb : Nat} {r : Out} (hr : iop P x (.store t y z) ρ h nb = some r) : ∃ b s rs rs', r.w = some (b, .rows s rs') ∧ h[b]? = some (.rows s rs) ∧ rs'.length = rs.length := by
 simp only [iop] at hr
 have h1 := bif_some hr
 split at h1
 ·split at h1
  ·rename_i hb
   have h2 := bif_some h1
   cases h2
   exact ⟨_, _, _, _, rfl, hb, by simp⟩
  ·cases h1
 ·cases h1
theorem step1_w {ops : List Oper} {o : Oper} {e : Env} {h : Heap} {nb : Nat} {c : Prop} {v : IV} {w : Option (Nat × IObj)} (hq : isQuiet o.op = true) (hs : step1 P orc ops o e h nb = some (c, v, w)) :
  w = none ∨ (isStore o.op = true ∧ ∃ b s rs rs', w = some (b, .rows s rs') ∧ h[b]? = some (.rows s rs) ∧ rs'.length = rs.length) := by
 unfold step1 at hs
 split at hs
 ·rename_i hcg
  exfalso
  unfold callsGo at hcg
  cases hop : o.op <;> rw [hop] at hq hcg <;> first | (simp at hcg; done) | (simp [isQuiet, isAddr, isStore] at hq; done)
 ·split at hs
  ·cases hs
  ·split at hs
   ·split at hs
    ·cases hs; exact .inl rfl
    ·cases hs
   ·rename_i g hg cc r hx
    have hr : r.w = none ∨ (isStore o.op = true ∧ ∃ b s rs rs', r.w = some (b, .rows s rs') ∧ h[b]? = some (.rows s rs) ∧ rs'.length = rs.length) := by
     unfold xPure at hx
     split at hx
     ·split at hx <;> first | (cases hx; exact .inl rfl) | cases hx
     ·cases hi : iop P e.x o.op e.opS h nb with
      | none => rw [hi] at hx; cases hx
      | some r' =>
       rw [hi] at hx
       simp only [Option.map_some, Option.some.injEq, Prod.mk.injEq] at hx
       obtain ⟨_, rfl⟩ := hx
       cases hst : isStore o.op with
       | false => exact .inl (iop_quiet hq hst hi)
       | true =>
        cases ho : o.op with
        | store t y z => rw [ho] at hi; exact .inr ⟨rfl, iop_store hi⟩
        | _ => rw [ho] at hst; cases hst
    split at hs
    ·cases hs; exact .inl rfl
    ·rename_i bo hw
     split at hs
     ·cases hs
      rcases hr with hr | hr
      ·rw [hr] at hw; cases hw
      ·rw [hw] at hr; exact .inr hr
     ·cases hs; exact .inl rfl
def shpO : Option IObj → Option (Nat × Nat)
 | some (.rows s rs) => some (s, rs.length)
 | _ => none
theorem shp_hget (h : Heap) (b : Nat) : shp h b = shpO (hget h b) := by
 unfold shp hget shpO
 cases h[b]? with
 | none => rfl
 | some o => cases o <;> rfl
theorem upd_shp {h : Heap} {w : Option (Nat × IObj)} (hw : w = none ∨ ∃ b s rs, w = some (b, .rows s rs) ∧ shp h b = some (s, rs.length)) (b' : Nat) : shp (upd h w) b' = shp h b' := by
 rcases hw with rfl | ⟨b, s, rs, rfl, hb⟩
 ·rfl
 ·rw [shp_hget]
  by_cases e : b = b'
  ·subst e
   show shpO (hget (hput _ _ _) _) = _
   rw [hget_hput_eq, hb]; rfl
  ·show shpO (hget (hput _ _ _) _) = _
   rw [hget_hput_ne (Ne.symm e), shp_hget]
theorem upd_none {h : Heap} {w : Option (Nat × IObj)} {b' : Nat} (hw : w = none ∨ ∃ b s rs, w = some (b, .rows s rs) ∧ shp h b = some (s, rs.length)) (hb : shp h b' = none) : hget (upd h w) b' = hget h b' := by
 rcases hw with rfl | ⟨b, s, rs, rfl, hb2⟩
 ·rfl
 ·by_cases e : b = b'
  ·subst e; rw [hb] at hb2; cases hb2
  ·show hget (hput _ _ _) _ = _
   rw [hget_hput_ne (Ne.symm e)]
theorem softAll_at {ops : List Oper} (hq : softAll ops = true) {k : Nat} {o : Oper} (ho : ops[k]? = some o) : isQuiet o.op = true := by
 simp only [softAll, List.all_eq_true] at hq
 exact hq o (List.mem_of_getElem? ho)
theorem run_shp {ops : List Oper} {nb : Nat} {e : Env} {h : Heap} (hq : softAll ops = true) : ∀ (k b : Nat), shp (run P orc ops nb e h k).2 b = shp h b
 | 0, _ => rfl
 | k + 1, b => by
  simp only [run]
  cases ho : ops[k]? with
  | none => simp only; exact run_shp hq k b
  | some o =>
   simp only
   cases hs : step1 P orc ops o (run P orc ops nb e h k).1 (run P orc ops nb e h k).2 (nb + k) with
   | none => simp only; exact run_shp hq k b
   | some r =>
    obtain ⟨c, v, w⟩ := r
    simp only
    rw [upd_shp, run_shp hq k b]
    rcases step1_w (softAll_at hq ho) hs with hw | ⟨_, b1, s, rs, rs', h1, h2, h3⟩
    ·exact .inl hw
    ·exact .inr ⟨b1, s, rs', h1, by unfold shp; rw [h2]; simp only [h3]⟩
theorem rec_shp {ops : List Oper} {nb : Nat} {e : Env} {h : Heap} (hq : softAll ops = true) (k : Nat) : (rec1 P orc ops nb e h k).2 = none ∨ ∃ b s rs, (rec1 P orc ops nb e h k).2 = some (b, .rows s rs) ∧ shp h b = some (s, rs.length) := by
 unfold rec1
 cases ho : ops[k]? with
 | none => exact .inl rfl
 | some o =>
  simp only
  cases hs : step1 P orc ops o (run P orc ops nb e h k).1 (run P orc ops nb e h k).2 (nb + k) with
  | none => exact .inl rfl
  | some r =>
   obtain ⟨c, v, w⟩ := r
   simp only
   rcases step1_w (softAll_at hq ho) hs with hw | ⟨_, b1, s, rs, rs', h1, h2, h3⟩
   ·exact .inl hw
   ·refine .inr ⟨b1, s, rs', h1, ?_⟩
    rw [← run_shp hq k b1]
    unfold shp; rw [h2]; simp only [h3]
theorem hAt_shp {ops : List Oper} {nb : Nat} {e : Env} {h : Heap} (hq : softAll ops = true) (L : Nat → Bool) : ∀ (m b : Nat), shp (hAt (rec1 P orc ops nb e h) L h m) b = shp h b
 | 0, _ => rfl
 | m + 1, b => by
  simp only [hAt]
  cases L m with
  | false => exact hAt_shp hq L m b
  | true =>
   simp only [cond_true]
   rw [upd_shp, hAt_shp hq L m b]
   rcases rec_shp (P := P) (orc := orc) (nb := nb) (e := e) (h := h) hq m with hw | ⟨b1, s, rs, h1, h2⟩
   ·exact .inl hw
   ·exact .inr ⟨b1, s, rs, h1, by rw [hAt_shp hq L m b1]; exact h2⟩
theorem hAt_none {ops : List Oper} {nb : Nat} {e : Env} {h : Heap} (hq : softAll ops = true) (L : Nat → Bool) {b : Nat} (hb : shp h b = none) : ∀ m : Nat, hget (hAt (rec1 P orc ops nb e h) L h m) b = hget h b
 | 0 => rfl
 | m + 1 => by
  simp only [hAt]
  cases L m with
  | false => exact hAt_none hq L hb m
  | true =>
   simp only [cond_true]
   rw [upd_none, hAt_none hq L hb m]
   ·rcases rec_shp (P := P) (orc := orc) (nb := nb) (e := e) (h := h) hq m with hw | ⟨b1, s, rs, h1, h2⟩
    ·exact .inl hw
    ·exact .inr ⟨b1, s, rs, h1, by rw [hAt_shp hq L m b1]; exact h2⟩
   ·rw [hAt_shp hq L m b]; exact hb
theorem step1_congrA {ops : Array Oper} {o : Oper} {e e' : Env} {h h' : Heap} {nb : Nat} (hx : e'.x = e.x) (hg : e'.gl = e.gl) (he : ∀ t ∈ o.looksAt ops, e'.get t = e.get t) (ha : isAddr o.op = true) (hs : ∀ b, shp h' b = shp h b) :
  step1 P orc ops.toList o e' h' nb = step1 P orc ops.toList o e h nb := by
 rw [step1_congr (h := h') (h' := h') hx hg he fun _ _ => rfl]
 have hcg : callsGo o = false := by
  unfold callsGo
  cases hop : o.op <;> rw [hop] at ha <;> first | cases ha | rfl
 have hp : ∀ g, xPure P o e g h' nb = xPure P o e g h nb := fun g => by
  unfold xPure
  split
  ·rfl
  ·rw [iop_shp ha hs]
 unfold step1
 simp only [hp, hcg, Bool.false_eq_true, if_false]
theorem eAt_tail {ops : List Oper} {R : Nat → IV × Option (Nat × IObj)} {L : Nat → Bool} {e : Env} {j : Nat} : ∀ k, j ≤ k → (∀ i, j ≤ i → i < k → L i = false) → eAt ops R L e k = eAt ops R L e j
 | 0, h, _ => by rw [show j = 0 by omega]
 | k + 1, h, hl => by
  by_cases e1 : j = k + 1
  ·rw [e1]
  ·simp only [eAt]; rw [hl k (by omega) (by omega)]; exact eAt_tail k (by omega) fun i h1 h2 => hl i h1 (by omega)
theorem hAt_tail {R : Nat → IV × Option (Nat × IObj)} {L : Nat → Bool} {h : Heap} {j : Nat} : ∀ k, j ≤ k → (∀ i, j ≤ i → i < k → L i = false) → hAt R L h k = hAt R L h j
 | 0, h, _ => by rw [show j = 0 by omega]
 | k + 1, h, hl => by
  by_cases e1 : j = k + 1
  ·rw [e1]
  ·simp only [hAt]; rw [hl k (by omega) (by omega)]; exact hAt_tail k (by omega) fun i h1 h2 => hl i h1 (by omega)
theorem eAt_sel {ops : List Oper} {R : Nat → IV × Option (Nat × IObj)} {L L' : Nat → Bool} {e : Env} : ∀ k, (∀ i, i < k → L i = L' i) → eAt ops R L e k = eAt ops R L' e k
 | 0, _ => rfl
 | k + 1, h => by simp only [eAt]; rw [h k (by omega), eAt_sel k fun i hi => h i (by omega)]
theorem hAt_sel {R : Nat → IV × Option (Nat × IObj)} {L L' : Nat → Bool} {h : Heap} : ∀ k, (∀ i, i < k → L i = L' i) → hAt R L h k = hAt R L' h k
 | 0, _ => rfl
 | k + 1, h => by simp only [hAt]; rw [h k (by omega), hAt_sel k fun i hi => h i (by omega)]
theorem eAt_ge {ops : List Oper} {R : Nat → IV × Option (Nat × IObj)} {L : Nat → Bool} {e : Env} {t : Nat} (ht : e.n ≤ t) : ∀ k, (eAt ops R L e k).get t = e.get t
 | 0 => rfl
 | k + 1 => by
  have ih := eAt_ge (ops := ops) (R := R) (L := L) ht k
  have hn := (eAt_base ops R L e k).1
  simp only [eAt]
  cases L k with
  | false => exact ih
  | true =>
   simp only [cond_true]
   cases dstOf ops k with
   | none => exact ih
   | some d => simp only [Env.putO, Env.get_put_eq, hn]; rw [if_neg (by omega)]; exact ih
def cnt (L : Nat → Bool) : Nat → Nat
 | 0 => 0
 | k + 1 => cnt L k + bif L k then 0 else 1
theorem cnt_zero {L : Nat → Bool} : ∀ {n : Nat}, cnt L n = 0 → ∀ i, i < n → L i = true
 | n + 1, h, i, hi => by
  simp only [cnt] at h
  by_cases e : i = n
  ·subst e; cases hl : L i with
   | true => rfl
   | false => rw [hl] at h; simp at h
  ·exact cnt_zero (n := n) (by omega) i (by omega)
theorem cnt_sel {L L' : Nat → Bool} : ∀ {n : Nat}, (∀ k, k < n → L k = L' k) → cnt L n = cnt L' n
 | 0, _ => rfl
 | n + 1, h => by simp only [cnt]; rw [h n (by omega), cnt_sel fun k hk => h k (by omega)]
theorem cnt_set {L L' : Nat → Bool} {i : Nat} (h0 : L i = false) (h1 : L' i = true) (h : ∀ k, k ≠ i → L' k = L k) : ∀ {n : Nat}, i < n → cnt L' n + 1 = cnt L n
 | n + 1, hi => by
  simp only [cnt]
  by_cases e : i = n
  ·subst e; rw [h0, h1, cnt_sel (L := L') (L' := L) fun k hk => h k (by omega)]; rfl
  ·rw [h n (Ne.symm e)]; have := cnt_set h0 h1 h (n := n) (by omega); omega
theorem meets_false {l m : List Nat} (h : meets l m = false) {b : Nat} (hb : b ∈ l) : b ∉ m := fun hm => by
 have : meets l m = true := by simp only [meets, List.any_eq_true]; exact ⟨b, hb, by simpa using hm⟩
 rw [this] at h; cases h
theorem regOK_spec {ops : Array Oper} (h : regOK ops.toList = true) {j : Nat} {oj : Oper} (hj : ops[j]? = some oj) :
  (∀ e ∈ oj.after, Region.binds .any e = true → e.on < j) ∧ ∀ i oi, i < j → ops[i]? = some oi → oi.apart ops oj = true ∨ must ops.toList i j = true := by
 simp only [regOK, List.all_eq_true, List.mem_range] at h
 have hlt : j < ops.toList.length := by simpa using (Array.getElem?_eq_some_iff.1 hj).1
 have h1 := h j hlt
 rw [Array.getElem?_toList, hj] at h1
 simp only [Bool.and_eq_true, Array.all_eq_true_iff_forall_mem, List.all_eq_true, List.mem_range, Bool.or_eq_true, Bool.not_eq_true'] at h1
 refine ⟨fun e he hb => ?_, fun i oi hi hoi => ?_⟩
 ·rcases h1.1 e he with h2 | h2
  ·rw [hb] at h2; cases h2
  ·rw [Nat.blt_eq] at h2; exact h2
 ·have h2 := h1.2 i hi
  rw [Array.getElem?_toList, hoi] at h2
  simpa using h2
theorem wpAny_of_facts {ro : Option Nat} {ops : Array Oper} {nb : Nat} {e : Env} {h : Heap} {Q : Exit → Act → World → Prop} (hreg : regOK ops.toList = true) (hf : ∀ j o, ops[j]? = some o → Fact P orc ops.toList nb e h j o) :
  ∀ (fuel : Nat) (listed : Array Bool) (a : Act) (w : World) (μ : Mu) (F : Fz), listed.size = ops.size → cnt (fun i => listed.getD i false) ops.size ≤ fuel → Down ops.toList (fun i => listed.getD i false) →
   EnvR μ F w a.tmps (eAt ops.toList (rec1 P orc ops.toList nb e h) (fun i => listed.getD i false) e ops.size) → HR μ F (hAt (rec1 P orc ops.toList nb e h) (fun i => listed.getD i false) h ops.size) w →
   (∀ μ' F' a' w', EnvR μ' F' w' a'.tmps (run P orc ops.toList nb e h ops.size).1 → HR μ' F' (run P orc ops.toList nb e h ops.size).2 w' → Ext μ F w μ' F' w' → a'.defers = a.defers → Q .normal a' w') → wpAnyIn (Rd ro) 0 P .any ops Q fuel listed a w := by
 have hfl : ∀ j o, ops.toList[j]? = some o → Fact P orc ops.toList nb e h j o := fun j o ho => hf j o (by simpa using ho)
 have hruns : ∀ k, k ≤ ops.size → run P orc ops.toList nb e h k = (eAt ops.toList (rec1 P orc ops.toList nb e h) (fun i => decide (i < k)) e ops.size, hAt (rec1 P orc ops.toList nb e h) (fun i => decide (i < k)) h ops.size) := fun k hk => by
  rw [run_eq k (fun j o _ => hfl j o) (by simpa using hk)]
  rw [eAt_tail (L := fun i => decide (i < k)) (j := k) ops.size hk (fun i h1 h2 => by simp; omega), hAt_tail (L := fun i => decide (i < k)) (j := k) ops.size hk (fun i h1 h2 => by simp; omega)]
  rw [eAt_sel (L := fun i => decide (i < k)) (L' := fun _ => true) k (fun i hi => by simp [hi]), hAt_sel (L := fun i => decide (i < k)) (L' := fun _ => true) k (fun i hi => by simp [hi])]
 have fin : ∀ (listed : Array Bool) (a : Act) (w : World) (μ : Mu) (F : Fz), (∀ i, i < ops.size → listed.getD i false = true) →
   EnvR μ F w a.tmps (eAt ops.toList (rec1 P orc ops.toList nb e h) (fun i => listed.getD i false) e ops.size) → HR μ F (hAt (rec1 P orc ops.toList nb e h) (fun i => listed.getD i false) h ops.size) w →
   (∀ μ' F' a' w', EnvR μ' F' w' a'.tmps (run P orc ops.toList nb e h ops.size).1 → HR μ' F' (run P orc ops.toList nb e h ops.size).2 w' → Ext μ F w μ' F' w' → a'.defers = a.defers → Q .normal a' w') → Q .normal a w := fun listed a w μ F hall hE hH hQ => by
  refine hQ μ F a w ?_ ?_ (Ext.refl _ _ _) rfl
  ·rw [hruns _ (Nat.le_refl _), eAt_sel (L' := fun i => listed.getD i false) ops.size (fun i hi => by simp [hi, hall i hi])]; exact hE
  ·rw [hruns _ (Nat.le_refl _), hAt_sel (L' := fun i => listed.getD i false) ops.size (fun i hi => by simp [hi, hall i hi])]; exact hH
 intro fuel
 induction fuel with
 | zero =>
  intro listed a w μ F hsz hc hd hE hH hQ
  have hall := cnt_zero (n := ops.size) (by omega : cnt (fun i => listed.getD i false) ops.size = 0)
  refine ⟨?_, fin listed a w μ F hall hE hH hQ⟩
  rw [List.eq_nil_iff_forall_not_mem]
  intro i hi
  obtain ⟨h1, o, ho, _⟩ := mem_ready.1 hi
  have hlt := (Array.getElem?_eq_some_iff.1 ho).1
  have := hall i hlt
  simp only [Array.getD_eq_getD_getElem?] at h1 this
  rw [Array.getElem?_eq_getElem (by omega)] at h1 this
  simp at h1 this; rw [this] at h1; cases h1
 | succ fuel ih =>
  intro listed a w μ F hsz hc hd hE hH hQ
  refine ⟨fun hr => fin listed a w μ F (fun i => ?_) hE hH hQ, fun i hi => ?_⟩
  ·induction i using Nat.strongRecOn with
   | _ i ihi =>
    intro hlt
    cases hl : listed.getD i false with
    | true => rfl
    | false =>
     exfalso
     have : i ∈ Region.ready .any ops listed := mem_ready.2 ⟨by
      simp only [Array.getD_eq_getD_getElem?] at hl ⊢
      rw [Array.getElem?_eq_getElem (by omega)] at hl ⊢; simpa using hl, ops[i], Array.getElem?_eq_getElem hlt, fun ed he hb => by
       have h1 := (regOK_spec hreg (Array.getElem?_eq_getElem hlt)).1 ed he hb
       exact ihi _ h1 (by omega)⟩
     rw [hr] at this; cases this
  ·obtain ⟨hun, o, ho, haft⟩ := mem_ready.1 hi
   have hlt : i < ops.size := (Array.getElem?_eq_some_iff.1 ho).1
   have hLi : listed.getD i false = false := by
    simp only [Array.getD_eq_getD_getElem?] at hun ⊢
    rw [Array.getElem?_eq_getElem (by omega)] at hun ⊢; simpa using hun
   have hset : ∀ k, (listed.setIfInBounds i true).getD k false = if k = i then true else listed.getD k false := fun k => by
    simp only [Array.getD_eq_getD_getElem?]
    by_cases e1 : k = i
    ·subst e1; simp [Array.getElem?_setIfInBounds, hsz, hlt]
    ·rw [if_neg e1, Array.getElem?_setIfInBounds_ne (Ne.symm e1)]
   have hd' : Down ops.toList (fun k => (listed.setIfInBounds i true).getD k false) := fun j oj hj hL ed he hb => by
    simp only [hset] at hL ⊢
    by_cases e1 : j = i
    ·subst e1
     rw [Array.getElem?_toList, ho] at hj; cases hj
     have := haft ed he hb
     split
     ·rfl
     ·exact this
    ·rw [if_neg e1] at hL
     have := hd j oj hj hL ed he hb
     split
     ·rfl
     ·exact this
   have hfi := hf i o ho
   obtain ⟨⟨c, v, wr, hst, hcc⟩, hhole, hcl⟩ := hfi
   have hrec : rec1 P orc ops.toList nb e h i = (v, wr) := by
    unfold rec1
    rw [Array.getElem?_toList, ho]; simp only; rw [hst]
   have hsoft : ∀ k, k < ops.size → (softP ops.toList k i = true ∨ softP ops.toList i k = true) → ∀ b ∈ wrs (rec1 P orc ops.toList nb e h k).2, ((softAll ops.toList = true ∧ isAddr o.op = true) ∨ (b ∉ foot (run P orc ops.toList nb e h i).1 o ∧ b ≠ nb + i)) ∧ b ∉ wrs wr := by
    intro k hk hsp b hb
    have hok : ops[k]? = some ops[k] := Array.getElem?_eq_getElem hk
    have hsp' : softAll ops.toList = true ∧ ((isAddr ops[k].op = true ∧ isStore o.op = true) ∨ (isStore ops[k].op = true ∧ isAddr o.op = true)) := by
     rcases hsp with hsp | hsp
     ·simp only [softP, Array.getElem?_toList, hok, ho, Bool.and_eq_true, Bool.or_eq_true] at hsp; exact hsp
     ·simp only [softP, Array.getElem?_toList, hok, ho, Bool.and_eq_true, Bool.or_eq_true] at hsp
      exact ⟨hsp.1, hsp.2.elim (fun h => .inr ⟨h.2, h.1⟩) (fun h => .inl ⟨h.2, h.1⟩)⟩
    have nst : ∀ {op : Op}, isAddr op = true → isStore op = false := fun {op} ha => by cases op <;> first | rfl | cases ha
    rcases hsp'.2 with ⟨ha, _⟩ | ⟨_, ha⟩
    ·obtain ⟨⟨c', v', wr', hst', _⟩, _, _⟩ := hf k _ hok
     have hrec' : rec1 P orc ops.toList nb e h k = (v', wr') := by
      unfold rec1
      rw [Array.getElem?_toList, hok]; simp only; rw [hst']
     rcases step1_w (softAll_at hsp'.1 (by rw [Array.getElem?_toList, hok])) hst' with hw | ⟨hw, _⟩
     ·rw [hrec', hw] at hb; cases hb
     ·rw [nst ha] at hw; cases hw
    ·refine ⟨.inl ⟨hsp'.1, ha⟩, ?_⟩
     rcases step1_w (softAll_at hsp'.1 (by rw [Array.getElem?_toList, ho])) hst with hw | ⟨hw, _⟩
     ·rw [hw]; simp [wrs]
     ·rw [nst ha] at hw; cases hw
   have nc : ∀ k, k < ops.size → k ≠ i → listed.getD k false ≠ decide (k < i) → (∀ d, dstOf ops.toList k = some d → d ∉ o.looksAt ops ∧ o.dst ≠ some d) ∧ ∀ b ∈ wrs (rec1 P orc ops.toList nb e h k).2, ((softAll ops.toList = true ∧ isAddr o.op = true) ∨ (b ∉ foot (run P orc ops.toList nb e h i).1 o ∧ b ≠ nb + i)) ∧ b ∉ wrs wr := by
    intro k hk hki hne
    have hok : ops[k]? = some ops[k] := Array.getElem?_eq_getElem hk
    have hdst : dstOf ops.toList k = ops[k].dst := by unfold dstOf; rw [Array.getElem?_toList, hok]
    by_cases hlt2 : k < i
    ·have hLk : listed.getD k false = false := by simpa [hlt2] using hne
     have hnm : must ops.toList k i = false := by
      cases hm : must ops.toList k i with
      | false => rfl
      | true =>
       have := must_sound hm _ hd' (by simp only [hset, if_true])
       simp only [hset, hki, if_false] at this
       rw [hLk] at this; cases this
     have h1 := (regOK_spec hreg ho).2 k ops[k] hlt2 hok
     rw [hnm] at h1
     have h1 := Oper.apart_spec (h1.resolve_right (by simp))
     have h2 := hcl k ops[k] hlt2 (by rw [Array.getElem?_toList, hok])
     rw [hnm, Bool.false_or] at h2
     cases hsp : softP ops.toList k i with
     | true =>
      refine ⟨fun d hd => ⟨h1.1 d (by rw [← hdst]; exact hd), h1.2.1 d (by rw [← hdst]; exact hd)⟩, fun b hb => ?_⟩
      exact hsoft k hk (.inl hsp) b hb
     | false =>
     rw [hsp] at h2
     have h2 := Bool.eq_false_iff.2 fun hh => Bool.noConfusion (h2 hh)
     rw [Bool.or_eq_false_iff, hrec] at h2
     refine ⟨fun d hd => ⟨h1.1 d (by rw [← hdst]; exact hd), h1.2.1 d (by rw [← hdst]; exact hd)⟩, fun b hb => ?_⟩
     have h3 := meets_false h2.1 (b := b) (List.mem_cons_of_mem _ hb)
     simp only [List.mem_append, wOf, List.mem_cons, not_or] at h3
     exact ⟨.inr ⟨h3.1, h3.2.1⟩, h3.2.2⟩
    ·have hLk : listed.getD k false = true := by simpa [hlt2] using hne
     have hik : i < k := by omega
     have hnm : must ops.toList i k = false := by
      cases hm : must ops.toList i k with
      | false => rfl
      | true =>
       have this : listed.getD i false = true := must_sound hm _ hd hLk
       rw [hLi] at this; cases this
     have h1 := (regOK_spec hreg hok).2 i o hik ho
     rw [hnm] at h1
     have h1 := Oper.apart_spec (h1.resolve_right (by simp))
     have h2 := (hf k ops[k] hok).cl i o hik (by rw [Array.getElem?_toList, ho])
     rw [hnm, Bool.false_or] at h2
     cases hsp : softP ops.toList i k with
     | true =>
      refine ⟨fun d hd => ⟨h1.2.2 d (by rw [← hdst]; exact hd), fun hod => h1.2.1 d hod (by rw [← hdst]; exact hd)⟩, fun b hb => ?_⟩
      exact hsoft k hk (.inr hsp) b hb
     | false =>
     rw [hsp] at h2
     have h2 := Bool.eq_false_iff.2 fun hh => Bool.noConfusion (h2 hh)
     rw [Bool.or_eq_false_iff, hrec] at h2
     refine ⟨fun d hd => ⟨h1.2.2 d (by rw [← hdst]; exact hd), fun hod => h1.2.1 d hod (by rw [← hdst]; exact hd)⟩, fun b hb => ⟨.inr ⟨fun hbf => ?_, fun hbn => ?_⟩, fun hbw => ?_⟩⟩
     ·exact meets_false h2.2 hbf (List.mem_cons_of_mem _ hb)
     ·exact meets_false h2.1 (b := b) (by rw [hbn]; exact List.mem_cons_self ..) (List.mem_append_right _ (List.mem_cons_of_mem _ hb))
     ·exact meets_false h2.1 (b := b) (List.mem_cons_of_mem _ hbw) (List.mem_append_right _ (List.mem_cons_of_mem _ hb))
   have hrun := hruns i (by omega)
   have hb1 := eAt_base ops.toList (rec1 P orc ops.toList nb e h) (fun i => listed.getD i false) e ops.size
   have hb2 := eAt_base ops.toList (rec1 P orc ops.toList nb e h) (fun k => decide (k < i)) e ops.size
   have hself : ∀ k, listed.getD k false ≠ decide (k < i) → k ≠ i := fun k hk e1 => by subst e1; rw [hLi] at hk; simp at hk
   have hslot : ∀ t ∈ o.looksAt ops, (eAt ops.toList (rec1 P orc ops.toList nb e h) (fun i => listed.getD i false) e ops.size).get t = (run P orc ops.toList nb e h i).1.get t := fun t ht => by
    rw [hrun]
    refine eAt_agree _ fun k hk hne hdk => ?_
    exact ((nc k hk (hself k hne) hne).1 t hdk).1 ht
   have hfin : hget (hAt (rec1 P orc ops.toList nb e h) (fun i => listed.getD i false) h ops.size) (nb + i) = none ∧
     step1 P orc ops.toList o (eAt ops.toList (rec1 P orc ops.toList nb e h) (fun i => listed.getD i false) e ops.size) (hAt (rec1 P orc ops.toList nb e h) (fun i => listed.getD i false) h ops.size) (nb + i) = some (c, v, wr) := by
    by_cases hso : softAll ops.toList = true ∧ isAddr o.op = true
    ·have hsn : shp h (nb + i) = none := by
      rw [← run_shp (P := P) (orc := orc) (nb := nb) (e := e) (h := h) hso.1 i, shp_hget, hhole]; rfl
     refine ⟨?_, ?_⟩
     ·rw [hAt_none hso.1 _ hsn]
      rw [hrun] at hhole
      simp only at hhole
      rw [hAt_none hso.1 _ hsn] at hhole
      exact hhole
     ·rw [← hst]
      exact step1_congrA (by rw [hrun]; exact hb1.2.2.trans hb2.2.2.symm) (by rw [hrun]; exact hb1.2.1.trans hb2.2.1.symm) hslot hso.2 fun b => by
       rw [hAt_shp hso.1, run_shp hso.1]
    ·have hHag : ∀ b, (b ∈ foot (run P orc ops.toList nb e h i).1 o ∨ b = nb + i) → hget (hAt (rec1 P orc ops.toList nb e h) (fun i => listed.getD i false) h ops.size) b = hget (run P orc ops.toList nb e h i).2 b := fun b hb => by
      rw [hrun]
      refine hAt_agree _ fun k hk hne hbw => ?_
      have := ((nc k hk (hself k hne) hne).2 b hbw).1.resolve_left hso
      rcases hb with hb | hb
      ·exact this.1 hb
      ·exact this.2 hb
     refine ⟨by rw [hHag _ (.inr rfl)]; exact hhole, ?_⟩
     rw [← hst]
     exact step1_congr (by rw [hrun]; exact hb1.2.2.trans hb2.2.2.symm) (by rw [hrun]; exact hb1.2.1.trans hb2.2.1.symm) hslot fun b hb => hHag b (.inl hb)
   refine step1_sound ho hE hH hfin.1 hfin.2 hcc fun μ' F1 u w' hE' hH' hX => ?_
   have hdef : (a.put o.dst u).defers = a.defers := by cases o.dst <;> rfl
   have hdsti : dstOf ops.toList i = o.dst := by unfold dstOf; rw [Array.getElem?_toList, ho]
   have hsel : ∀ k, k < ops.size → (listed.setIfInBounds i true).getD k false ≠ decide (k < i + 1) → k ≠ i ∧ listed.getD k false ≠ decide (k < i) := fun k hk hne => by
    rw [hset] at hne
    by_cases e1 : k = i
    ·subst e1; simp at hne
    ·refine ⟨e1, ?_⟩
     rw [if_neg e1] at hne
     have : decide (k < i + 1) = decide (k < i) := by simp; omega
     rwa [this] at hne
   have hrun1 := hruns (i + 1) (by omega)
   have hrunS : run P orc ops.toList nb e h (i + 1) = ((run P orc ops.toList nb e h i).1.putO o.dst v, upd (run P orc ops.toList nb e h i).2 wr) := by
    simp only [run]; rw [Array.getElem?_toList, ho]; simp only; rw [hst]
   refine ih _ _ w' μ' F1 (by simpa using hsz) ?_ hd' (hE'.same ?_ ?_ fun t => ?_) (hH'.same fun b => ?_) fun μ'' F'' a'' w'' k1 k2 k3 k4 => hQ μ'' F'' a'' w'' k1 k2 (hX.trans k3) (k4.trans hdef)
   ·have := cnt_set (L := fun i => listed.getD i false) (L' := fun k => (listed.setIfInBounds i true).getD k false) (i := i) hLi (by simp only [hset, if_true]) (fun k hk => by simp only [hset, if_neg hk]) hlt
    omega
   ·rw [Env.putO_n, (eAt_base _ _ _ _ _).1, hb1.1]
   ·rw [Env.putO_gl, (eAt_base _ _ _ _ _).2.1, hb1.2.1]
   ·by_cases hdt : o.dst = some t
    ·have h1 : (eAt ops.toList (rec1 P orc ops.toList nb e h) (fun k => (listed.setIfInBounds i true).getD k false) e ops.size).get t = (run P orc ops.toList nb e h (i + 1)).1.get t := by
      rw [hrun1]
      refine eAt_agree _ fun k hk hne hdk => ?_
      obtain ⟨n1, n2⟩ := hsel k hk hne
      exact ((nc k hk n1 n2).1 t hdk).2 hdt
     rw [h1, hrunS, hdt]
     simp only [Env.putO, Env.get_put_eq, hb1.1]
     rw [hrun]
     simp only [hb2.1]
     by_cases htn : t < e.n
     ·simp [htn]
     ·simp only [htn, and_false, if_false]
      rw [eAt_ge (by omega), eAt_ge (by omega)]
    ·rw [Env.get_putO_ne hdt]
     refine eAt_agree _ fun k hk hne hdk => ?_
     by_cases e1 : k = i
     ·subst e1; rw [hdsti] at hdk; exact hdt hdk
     ·simp only [hset, if_neg e1] at hne; exact hne rfl
   ·by_cases hbw : b ∈ wrs wr
    ·have h1 : hget (hAt (rec1 P orc ops.toList nb e h) (fun k => (listed.setIfInBounds i true).getD k false) h ops.size) b = hget (run P orc ops.toList nb e h (i + 1)).2 b := by
      rw [hrun1]
      refine hAt_agree _ fun k hk hne hbk => ?_
      obtain ⟨n1, n2⟩ := hsel k hk hne
      exact ((nc k hk n1 n2).2 b hbk).2 hbw
     rw [h1, hrunS]
     cases wr with
     | none => cases hbw
     | some bo =>
      obtain ⟨b', ob⟩ := bo
      simp only [wrs, List.mem_singleton] at hbw
      subst hbw
      show hget (hput _ _ _) _ = hget (hput _ _ _) _
      rw [hget_hput_eq, hget_hput_eq]
    ·rw [hget_upd hbw]
     refine (hAt_agree _ fun k hk hne hbk => ?_).symm
     by_cases e1 : k = i
     ·subst e1; rw [hrec] at hbk; exact hbw hbk
     ·simp only [hset, if_neg e1] at hne; exact hne rfl
theorem IWp.region_any {id : Nat} {ops : Array Oper} {Q : XPost} {e : Env} {σ : Heap} (h : tRun P orc ops.toList σ.length 0 ops.toList [] [] e σ fun e σ => Q .normal e σ) : IWp P (.region id ops true) Q e σ := fun ro μ F a w hR hE hH => by
 obtain ⟨pf, p1, _, p3, p4⟩ := tRun_facts (P := P) (orc := orc) (ops := ops.toList) (nb := σ.length) (e := e) (h := σ) ops.toList 0 [] [] (fun j => by simp) (fun i oi hi => by omega) h
 simp only [drawOK, Bool.and_eq_true] at p1
 have vd : ∀ {v : Value} {c : IV}, VR μ F w v c → VR μ F { w with drawn := w.drawn + 1 } v c := fun hv => VR.mono (μ := μ) (μ' := μ) (F := F) (F' := F) (w := w) (w' := { w with drawn := w.drawn + 1 }) (Mu.le_refl _) (fun _ h => h) (fun _ _ => rfl) hv
 have hH' : HR μ F σ { w with drawn := w.drawn + 1 } := ⟨hH.n, fun b o ho => ?_, hH.inj, hH.fro, hH.lt, hH.flt, hH.yin, hH.itd⟩
 ·have hE' : EnvR μ F { w with drawn := w.drawn + 1 } a.tmps e := ⟨hE.size, fun t c hc => let ⟨v, h1, h2⟩ := hE.slot t c hc; ⟨v, h1, vd h2⟩, fun g c hc => vd (hE.glob g c hc)⟩
  have h0 : ∀ i, (Array.replicate ops.size false).getD i false = false := fun i => by
   simp only [Array.getD_eq_getD_getElem?, Array.getElem?_replicate]
   split <;> rfl
  have e0 : eAt ops.toList (rec1 P orc ops.toList σ.length e σ) (fun i => (Array.replicate ops.size false).getD i false) e ops.size = e := eAt_tail ops.size (Nat.zero_le _) fun i _ _ => h0 i
  have h0' : hAt (rec1 P orc ops.toList σ.length e σ) (fun i => (Array.replicate ops.size false).getD i false) σ ops.size = σ := hAt_tail ops.size (Nat.zero_le _) fun i _ _ => h0 i
  refine wpIn_region_any p1.1.1 (wpAny_of_facts (nb := σ.length) (e := e) (h := σ) (regM_ok p1.1.2) (fun j o ho => p3 j o (Nat.zero_le _) (by simpa using ho)) ops.size _ a _ μ F (by simp) ?_ ?_ (by rw [e0]; exact hE') (by rw [h0']; exact hH') ?_)
  ·have : ∀ (L : Nat → Bool) n, cnt L n ≤ n := fun L n => by
    induction n with
    | zero => exact Nat.le_refl _
    | succ n ih => simp only [cnt]; cases L n <;> simp <;> omega
   exact this _ _
  ·intro j oj _ hL
   exact absurd ((h0 j).symm.trans hL) (by simp)
  ·intro μ' F' a' w' k1 k2 k3 k4
   simp only [Nat.zero_add] at p4
   refine ⟨.normal, _, _, μ', F', trivial, p4, ?_, ?_, ⟨k3.mu, k3.fr, k3.fu, k3.same, k3.size, k3.os, k3.tape, ⟨k3.output.o, Nat.le_of_succ_le k3.output.d⟩, k3.new⟩, .refl k4⟩
   ·have := k1.clean
    simpa using this
   ·simpa using k2
 ·have := hH.obj b o ho
  cases o with
  | rows s rs =>
   obtain ⟨h1, h2, h3, h4, h5, h6⟩ := this
   refine ⟨h1, h2, h3, h4, h5, h6.imp (fun h => h) ?_⟩
   rintro ⟨g, off, cs, T, q1, q2, q3, q4, q5⟩
   exact ⟨g, off, cs, T, q1, q2, q3, q4, fun i row j c r1 r2 => let ⟨v, v1, v2⟩ := q5 i row j c r1 r2; ⟨v, v1, vd v2⟩⟩
  | map es =>
   obtain ⟨h1, h2, g, es', cl, q1, q2, q3, q4⟩ := this
   exact ⟨h1, h2, g, es', cl, q1, q2, ⟨q3.1, fun j e p r1 r2 => let ⟨v1, v2⟩ := q3.2 j e p r1 r2; ⟨vd v1, vd v2⟩⟩, q4⟩
  | iter b' es cur todo =>
   obtain ⟨h1, h2, g, h3, h4⟩ := this
   exact ⟨h1, h2, g, h3, h4.mono vd (fun _ h => h) (fun _ _ => rfl) rfl fun b'' _ hu => ⟨hu, rfl, rfl, fun _ _ _ => rfl⟩⟩
  | yrec l r e => exact ⟨this.1, this.2.1, this.2.2.1, this.2.2.2.1, ⟨this.2.2.2.2.size, fun t c hc => let ⟨v, v1, v2⟩ := this.2.2.2.2.slot t c hc; ⟨v, v1, vd v2⟩, fun g c hc => vd (this.2.2.2.2.glob g c hc)⟩⟩
  | dead => trivial
  | hole => trivial
end
end Go.Idl
namespace Go.Idl
open Go.RowKit
def okO (r : Option Out) : Prop := match r with | some _ => True | none => False
def preO (r : Option Out) : Prop := match r with | some r => r.pre | none => False
def vO (r : Option Out) : IV := match r with | some r => r.v | none => .tup []
def wO (r : Option Out) : Option (Nat × IObj) := match r with | some r => r.w | none => none
def okP (r : Option (Prop × Out)) : Prop := match r with | some _ => True | none => False
def cP (r : Option (Prop × Out)) : Prop := match r with | some r => r.1 | none => False
def oP (r : Option (Prop × Out)) : Option Out := match r with | some r => some r.2 | none => none
def isB : Option IV → Prop
 | some (.bool _) => True
 | _ => False
def toB : Option IV → Bool
 | some (.bool b) => b
 | _ => false
def isCall (r : Option (Tgt × List IV)) : Prop := match r with | some _ => True | none => False
def callF (r : Option (Tgt × List IV)) : Tgt := match r with | some r => r.1 | none => .fn 0
def callA (r : Option (Tgt × List IV)) : List IV := match r with | some r => r.2 | none => []
def wantB (r : Option Bool) : Bool := match r with | some b => b | none => false
def wantK (r : Option Bool) : Prop := match r with | some _ => True | none => False
def kCall (f : Env → Heap → Prop) (e : Env) (d : Option Tmp) (r : IV) (h : Heap) : Prop := f (e.putO d r) h
def yOps (P : Program) (ops : List Oper) : List Oper → Env → Heap → (Env → Heap → Prop) → Prop
 | [], e, h, K => K e.clean h
 | o :: rest, e, h, K =>
  if isIt o.op = true then (o.guard.isSome = false ∧ whens e true o.op.operands.toList) ∧ iterQ P o.op e.opS h (kCall (fun e h => yOps P ops rest e h K) e o.dst)
  else if callsGo o = true then
   (if o.guard.isSome = false then
    (isCall (callOf o e) ∧ whens e true o.op.operands.toList) ∧ TCalls P e.gl (callF (callOf o e)) (callA (callOf o e)) h (kCall (fun e h => yOps P ops rest e h K) e o.dst)
   else (isCall (callOf o e) ∧ wantK (wantOf ops e o)) ∧ if wantB (wantOf ops e o) = true then whens e true o.op.operands.toList ∧ TCalls P e.gl (callF (callOf o e)) (callA (callOf o e)) h (kCall (fun e h => yOps P ops rest e h K) e o.dst) else yOps P ops rest (e.putO o.dst (.tup [])) h K)
  else if o.guard.isSome = false then
   (okP (xPure P o e true h h.length) ∧ cP (xPure P o e true h h.length) ∧ preO (oP (xPure P o e true h h.length))) ∧ yOps P ops rest (e.putO o.dst (vO (oP (xPure P o e true h h.length)))) (upd h (wO (oP (xPure P o e true h h.length)))) K
  else wantK (wantOf ops e o) ∧ if (xPure P o e (wantB (wantOf ops e o)) h h.length).isSome = false then wantB (wantOf ops e o) = false ∧ yOps P ops rest (e.putO o.dst (.tup [])) h K else
   if (wO (oP (xPure P o e (wantB (wantOf ops e o)) h h.length))).isSome = false then
    (cP (xPure P o e (wantB (wantOf ops e o)) h h.length) ∧ (wantB (wantOf ops e o) = true → preO (oP (xPure P o e (wantB (wantOf ops e o)) h h.length)))) ∧
     yOps P ops rest (e.putO o.dst (.opt (wantB (wantOf ops e o)) (vO (oP (xPure P o e (wantB (wantOf ops e o)) h h.length))))) h K
   else if wantB (wantOf ops e o) = true then
    (cP (xPure P o e true h h.length) ∧ preO (oP (xPure P o e true h h.length))) ∧ yOps P ops rest (e.putO o.dst (vO (oP (xPure P o e true h h.length)))) (upd h (wO (oP (xPure P o e true h h.length)))) K
   else yOps P ops rest (e.putO o.dst (.tup [])) h K
section
variable {P : Program}
theorem iterQ_mono {op : Op} {ρ : Operand → Option IV} {h : Heap} {K K' : IV → Heap → Prop} (hq : iterQ P op ρ h K) (hk : ∀ r σ, K r σ → K' r σ) : iterQ P op ρ h K' := by
 unfold iterQ at *
 split at hq
 ·split at hq
  ·split at hq
   ·exact hk _ _ hq
   ·exact hq.elim
  ·exact hk _ _ hq
  ·exact hk _ _ hq
  ·exact hq.elim
 ·split at hq
  ·split at hq
   ·exact ⟨fun h => hk _ _ (hq.1 h), fun i kv h => hk _ _ (hq.2 i kv h)⟩
   ·exact hq.elim
  ·exact hq.elim
 ·split at hq
  ·split at hq
   ·exact hk _ _ hq
   ·exact hq.elim
  ·exact hq.elim
 ·split at hq
  ·unfold nilQ at *
   split at hq
   ·exact hk _ _ hq
   ·exact ⟨hk _ _ hq.1, fun h => hk _ _ (hq.2 h)⟩
   ·exact hq.elim
  ·exact hq.elim
 ·exact hq.elim
theorem yOps_sound {ops : List Oper} : ∀ (rest : List Oper) (e : Env) (σ : Heap) (K : Env → Heap → Prop), yOps P ops rest e σ K → xOps P ops rest e σ K
 | [], e, σ, K, h => h
 | o :: rest, e, σ, K, h => by
  simp only [yOps] at h
  simp only [xOps]
  by_cases hit : isIt o.op = true
  ·rw [if_pos hit] at h
   have hw : wantOf ops e o = some true := by
    unfold wantOf
    cases hgd : o.guard with
    | none => rfl
    | some _ => have := h.1.1; rw [hgd] at this; cases this
   rw [hw]
   unfold xOp
   simp only
   rw [if_pos hit]
   exact ⟨fun _ => ⟨h.1.2, iterQ_mono h.2 fun r σ' k => yOps_sound rest _ _ K k⟩, fun hf => by cases hf⟩
  rw [if_neg hit] at h
  cases hc : callsGo o with
  | true =>
   rw [hc] at h
   simp only [if_true] at h
   cases hg : o.guard.isSome with
   | false =>
    rw [hg] at h
    simp only [if_true] at h
    have hw : wantOf ops e o = some true := by
     unfold wantOf
     cases hgd : o.guard with
     | none => rfl
     | some _ => rw [hgd] at hg; cases hg
    rw [hw]
    simp only
    obtain ⟨⟨h1, h2⟩, h3⟩ := h
    unfold xOp
    rw [if_neg hit]
    cases hcall : callOf o e with
    | none => rw [hcall] at h1; exact h1.elim
    | some fa =>
     rw [hcall] at h3
     exact ⟨fun _ => ⟨h2, h3.mono fun r σ' k => yOps_sound rest _ _ K k⟩, fun hf => by cases hf⟩
   | true =>
    rw [hg] at h
    simp only [Bool.true_eq_false, if_false] at h
    obtain ⟨⟨h1, h1'⟩, h2⟩ := h
    cases hw : wantOf ops e o with
    | none => rw [hw] at h1'; exact h1'.elim
    | some g =>
     rw [hw] at h2
     simp only [wantB] at h2
     simp only
     unfold xOp
     rw [if_neg hit]
     cases hcall : callOf o e with
     | none => rw [hcall] at h1; exact h1.elim
     | some fa =>
      rw [hcall] at h2
      cases g with
      | true =>
       simp only [if_true] at h2
       exact ⟨fun _ => ⟨h2.1, h2.2.mono fun r σ' k => yOps_sound rest _ _ K k⟩, fun hf => by cases hf⟩
      | false =>
       simp only [Bool.false_eq_true, if_false] at h2
       exact ⟨fun hf => (by cases hf), fun _ => yOps_sound rest _ _ K h2⟩
  | false =>
   rw [hc] at h
   simp only [Bool.false_eq_true, if_false] at h
   have hcall := callOf_none (e := e) hc
   cases hg : o.guard.isSome with
   | false =>
    rw [hg] at h
    simp only [if_true] at h
    have hw : wantOf ops e o = some true := by
     unfold wantOf
     cases hgd : o.guard with
     | none => rfl
     | some _ => rw [hgd] at hg; cases hg
    rw [hw]
    simp only
    unfold xOp
    rw [if_neg hit, hcall]
    simp only
    obtain ⟨⟨h1, h2, h3⟩, h4⟩ := h
    cases hx : xPure P o e true σ σ.length with
    | none => rw [hx] at h1; exact h1.elim
    | some cr =>
     obtain ⟨c, r⟩ := cr
     rw [hx] at h2 h3 h4
     simp only [cP, oP, preO, vO, wO] at h2 h3 h4
     simp only
     cases hrw : r.w with
     | none =>
      rw [hrw] at h4
      simp only
      refine ⟨⟨h2, fun _ => h3⟩, yOps_sound rest _ _ K ?_⟩
      unfold putG
      rw [hg]; exact h4
     | some bo =>
      obtain ⟨b, ob⟩ := bo
      rw [hrw] at h4
      simp only
      exact ⟨fun _ => ⟨h2, h3, yOps_sound rest _ _ K h4⟩, fun hf => by cases hf⟩
   | true =>
    rw [hg] at h
    simp only [Bool.true_eq_false, if_false] at h
    obtain ⟨h1, h3⟩ := h
    cases hw : wantOf ops e o with
    | none => rw [hw] at h1; exact h1.elim
    | some g =>
     rw [hw] at h3
     simp only [wantB] at h3
     simp only
     unfold xOp
     rw [if_neg hit, hcall]
     simp only
     cases hx : xPure P o e g σ σ.length with
     | none =>
      simp only [hx, Option.isSome_none, if_true] at h3
      exact ⟨h3.1, yOps_sound rest _ _ K h3.2⟩
     | some cr =>
      obtain ⟨c, r⟩ := cr
      simp only [hx, cP, oP, preO, vO, wO, Option.isSome_some, Bool.true_eq_false, if_false] at h3
      simp only
      cases hrw : r.w with
      | none =>
       simp only [hrw, Option.isSome_none, if_true] at h3
       refine ⟨⟨h3.1.1, h3.1.2⟩, yOps_sound rest _ _ K ?_⟩
       unfold putG
       rw [hg]; exact h3.2
      | some bo =>
       obtain ⟨b, ob⟩ := bo
       simp only [hrw, Option.isSome_some, Bool.true_eq_false, if_false] at h3
       simp only
       cases g with
       | true =>
        simp only [if_true] at h3
        simp only [hx, cP, oP, preO, vO, wO] at h3
        rw [hrw] at h3
        exact ⟨fun _ => ⟨h3.1.1, h3.1.2, yOps_sound rest _ _ K h3.2⟩, fun hf => by cases hf⟩
       | false =>
        simp only [Bool.false_eq_true, if_false] at h3
        exact ⟨fun hf => (by cases hf), fun _ => yOps_sound rest _ _ K h3⟩
end
def okS (r : Option (Prop × IV × Option (Nat × IObj))) : Prop := match r with | some _ => True | none => False
def cS (r : Option (Prop × IV × Option (Nat × IObj))) : Prop := match r with | some r => r.1 | none => False
def vS (r : Option (Prop × IV × Option (Nat × IObj))) : IV := match r with | some r => r.2.1 | none => .tup []
def wS (r : Option (Prop × IV × Option (Nat × IObj))) : Option (Nat × IObj) := match r with | some r => r.2.2 | none => none
def yRun (P : Program) (orc : Nat → IV) (ops : List Oper) (nb : Nat) : Nat → List Oper → List (Nat × List Nat × List Nat) → List (Nat × Nat) → Env → Heap → (Env → Heap → Prop) → Prop
 | _, [], _, pairs, e, h, K => drawOK P ops pairs = true ∧ K e.clean h
 | k, o :: rest, acc, pairs, e, h, K => (okS (step1 P orc ops o e h (nb + k)) ∧ cS (step1 P orc ops o e h (nb + k)) ∧ hget h (nb + k) = none) ∧
   yRun P orc ops nb (k + 1) rest ((k, foot e o, wOf nb k (wS (step1 P orc ops o e h (nb + k)))) :: acc) (clash acc k (foot e o) (wOf nb k (wS (step1 P orc ops o e h (nb + k)))) ++ pairs)
    (e.putO o.dst (vS (step1 P orc ops o e h (nb + k)))) (upd h (wS (step1 P orc ops o e h (nb + k)))) K
theorem yRun_sound {P : Program} {orc : Nat → IV} {ops : List Oper} {nb : Nat} : ∀ (rest : List Oper) (k : Nat) (acc : List (Nat × List Nat × List Nat)) (pairs : List (Nat × Nat)) (e : Env) (σ : Heap) (K : Env → Heap → Prop), yRun P orc ops nb k rest acc pairs e σ K → tRun P orc ops nb k rest acc pairs e σ K
 | [], _, _, _, _, _, _, h => h
 | o :: rest, k, acc, pairs, e, σ, K, h => by
  simp only [yRun] at h
  simp only [tRun]
  obtain ⟨⟨h1, h2, h3⟩, h4⟩ := h
  cases hs : step1 P orc ops o e σ (nb + k) with
  | none => rw [hs] at h1; exact h1.elim
  | some r =>
   obtain ⟨c, v, w⟩ := r
   rw [hs] at h2 h4
   exact ⟨⟨h2, h3⟩, yRun_sound rest _ _ _ _ _ K h4⟩
def isEnt : Op → Bool
 | .mapEntry _ _ _ => true
 | _ => false
def hasCall (ops : List Oper) : Bool := ops.any callsGo || ops.any fun o => isEnt o.op
def Drawn (P : Program) (ops : List Oper) (Q : XPost) (e : Env) (σ : Heap) : Prop := ∀ id : Nat, IWp P (.region id ops.toArray true) Q e σ
def yC (P : Program) : Code → XPost → Env → Heap → Prop
 | .skip, Q, e, σ => Q .normal e σ
 | .label _, Q, e, σ => Q .normal e σ
 | .ret, Q, e, σ => Q .ret e σ
 | .exit id, Q, e, σ => Q (.exit id) e σ
 | .seq c d, Q, e, σ => yC P c (thenQ (fun e σ => yC P d Q e σ) Q) e σ
 | .block id c, Q, e, σ => yC P c (blockQ id Q) e σ
 | .region _ ops false, Q, e, σ => yOps P ops.toList ops.toList e σ fun e σ => Q .normal e σ
 | .region _ ops true, Q, e, σ => if hasCall ops.toList = true then Drawn P ops.toList Q e σ else yRun P (fun _ => .tup []) ops.toList σ.length 0 ops.toList [] [] e σ fun e σ => Q .normal e σ
 | .cond c t f, Q, e, σ => (isB (e.opS c) ∧ e.wh c = true) ∧ if toB (e.opS c) = true then yC P t Q e σ else yC P f Q e σ
 | c, Q, e, σ => IWp P c Q e σ
theorem yC_sound {P : Program} : ∀ (c : Code) (Q : XPost) (e : Env) (σ : Heap), yC P c Q e σ → IWp P c Q e σ := by
 intro c
 induction c with
 | skip => exact fun _ _ _ h => IWp.skip h
 | label l => exact fun _ _ _ h => IWp.label h
 | ret => exact fun _ _ _ h => IWp.ret h
 | exit id => exact fun _ _ _ h => IWp.exit h
 | seq c d ih1 ih2 =>
  intro Q e σ h
  refine IWp.seq ((ih1 _ e σ h).mono fun x e' σ' hq => ?_)
  cases x with
  | normal => exact ih2 Q e' σ' hq
  | exit i => exact hq
  | ret => exact hq
 | block id c ih => exact fun Q e σ h => IWp.block (ih _ e σ h)
 | region _ ops draw =>
  intro Q e σ h
  cases draw with
  | false => exact IWp.region (yOps_sound _ _ _ _ h)
  | true =>
   simp only [yC] at h
   split at h
   ·simpa using h _
   ·exact IWp.region_any (yRun_sound _ _ _ _ _ _ _ h)
 | cond c t f ih1 ih2 =>
  intro Q e σ h
  obtain ⟨⟨h1, h2⟩, h3⟩ := h
  cases hb : e.opS c with
  | none => rw [hb] at h1; exact h1.elim
  | some v =>
   cases v with
   | bool b =>
    rw [hb] at h3
    simp only [toB] at h3
    refine IWp.cond hb h2 (fun hb => ih1 Q e σ ?_) (fun hb => ih2 Q e σ ?_)
    ·subst hb; simpa using h3
    ·subst hb; simpa using h3
   | _ => rw [hb] at h1; exact h1.elim
 | loop c _ => exact fun _ _ _ h => h
 | rangeFunc f ps a b _ _ => exact fun _ _ _ h => h
 | scope c _ => exact fun _ _ _ h => h
 | goto l => exact fun _ _ _ h => h
 | refuse w => exact fun _ _ _ h => h
end Go.Idl
namespace Go.Idl
section
variable {P : Program} {x : Bool} {n m : Nat} {ex : List Nat} {gl nm tm : List (Nat × IV)} {σ : Heap} {Q : XPost} {K : Env → Heap → Prop}
@[go_sem] theorem yC_skip : yC P .skip Q ⟨x, n, m, ex, gl, nm, tm⟩ σ = Q .normal ⟨x, n, m, ex, gl, nm, tm⟩ σ := _root_.id rfl
@[go_sem] theorem yC_label {l : Nat} : yC P (.label l) Q ⟨x, n, m, ex, gl, nm, tm⟩ σ = Q .normal ⟨x, n, m, ex, gl, nm, tm⟩ σ := _root_.id rfl
@[go_sem] theorem yC_ret : yC P .ret Q ⟨x, n, m, ex, gl, nm, tm⟩ σ = Q .ret ⟨x, n, m, ex, gl, nm, tm⟩ σ := _root_.id rfl
@[go_sem] theorem yC_exit {id : Nat} : yC P (.exit id) Q ⟨x, n, m, ex, gl, nm, tm⟩ σ = Q (.exit id) ⟨x, n, m, ex, gl, nm, tm⟩ σ := _root_.id rfl
@[go_sem ↓] theorem yC_seq {c d : Code} : yC P (.seq c d) Q ⟨x, n, m, ex, gl, nm, tm⟩ σ = yC P c (thenQ (fun e σ => yC P d Q e σ) Q) ⟨x, n, m, ex, gl, nm, tm⟩ σ := _root_.id rfl
@[go_sem ↓] theorem yC_block {id : Nat} {c : Code} : yC P (.block id c) Q ⟨x, n, m, ex, gl, nm, tm⟩ σ = yC P c (blockQ id Q) ⟨x, n, m, ex, gl, nm, tm⟩ σ := _root_.id rfl
@[go_sem ↓] theorem yC_region {id : Nat} {ops : Array Oper} : yC P (.region id ops false) Q ⟨x, n, m, ex, gl, nm, tm⟩ σ = yOps P ops.toList ops.toList ⟨x, n, m, ex, gl, nm, tm⟩ σ fun e σ => Q .normal e σ := _root_.id rfl
@[go_sem ↓] theorem yC_cond {c : Operand} {t f : Code} : yC P (.cond c t f) Q ⟨x, n, m, ex, gl, nm, tm⟩ σ =
  ((isB (Env.opS ⟨x, n, m, ex, gl, nm, tm⟩ c) ∧ Env.wh ⟨x, n, m, ex, gl, nm, tm⟩ c = true) ∧ if toB (Env.opS ⟨x, n, m, ex, gl, nm, tm⟩ c) = true then yC P t Q ⟨x, n, m, ex, gl, nm, tm⟩ σ else yC P f Q ⟨x, n, m, ex, gl, nm, tm⟩ σ) := _root_.id rfl
@[go_sem ↓] theorem yC_loop {c : Code} : yC P (.loop c) Q ⟨x, n, m, ex, gl, nm, tm⟩ σ = IWp P (.loop c) Q ⟨x, n, m, ex, gl, nm, tm⟩ σ := _root_.id rfl
@[go_sem ↓] theorem yC_rangeFunc {f : Operand} {ps : Array Tmp} {c d : Code} : yC P (.rangeFunc f ps c d) Q ⟨x, n, m, ex, gl, nm, tm⟩ σ = IWp P (.rangeFunc f ps c d) Q ⟨x, n, m, ex, gl, nm, tm⟩ σ := _root_.id rfl
@[go_sem ↓] theorem yC_draw {id : Nat} {ops : Array Oper} : yC P (.region id ops true) Q ⟨x, n, m, ex, gl, nm, tm⟩ σ = if hasCall ops.toList = true then Drawn P ops.toList Q ⟨x, n, m, ex, gl, nm, tm⟩ σ else yRun P (fun _ => .tup []) ops.toList σ.length 0 ops.toList [] [] ⟨x, n, m, ex, gl, nm, tm⟩ σ fun e σ => Q .normal e σ := _root_.id rfl
theorem Drawn.intro {ops : List Oper} {e : Env} (orc : Nat → IV) (h : yRun P (fun j => orc (j - σ.length)) ops σ.length 0 ops [] [] e σ fun e σ => Q .normal e σ) : Drawn P ops Q e σ := fun id => IWp.region_any (by simpa using yRun_sound _ _ _ _ _ _ _ h)
@[go_sem] theorem yRun_nil {orc : Nat → IV} {ops : List Oper} {nb k : Nat} {acc : List (Nat × List Nat × List Nat)} {pairs : List (Nat × Nat)} : yRun P orc ops nb k [] acc pairs ⟨x, n, m, ex, gl, nm, tm⟩ σ K = (drawOK P ops pairs = true ∧ K ⟨x, n, m, ex, gl, nm, []⟩ σ) := _root_.id rfl
@[go_sem ↓] theorem yRun_cons {orc : Nat → IV} {ops rest : List Oper} {nb k : Nat} {acc : List (Nat × List Nat × List Nat)} {pairs : List (Nat × Nat)} {d : Option Tmp} {op : Op} {ty : TypeId} {pos : String} {af : Array Edge} {gd : Option (Nat × Bool)} : yRun P orc ops nb k (⟨d, op, ty, pos, af, gd⟩ :: rest) acc pairs ⟨x, n, m, ex, gl, nm, tm⟩ σ K =
  ((okS (step1 P orc ops ⟨d, op, ty, pos, af, gd⟩ ⟨x, n, m, ex, gl, nm, tm⟩ σ (nb + k)) ∧ cS (step1 P orc ops ⟨d, op, ty, pos, af, gd⟩ ⟨x, n, m, ex, gl, nm, tm⟩ σ (nb + k)) ∧ hget σ (nb + k) = none) ∧
   yRun P orc ops nb (k + 1) rest ((k, (capB ⟨x, n, m, ex, gl, nm, tm⟩ op ++ foots ⟨x, n, m, ex, gl, nm, tm⟩ (readsOf op)), wOf nb k (wS (step1 P orc ops ⟨d, op, ty, pos, af, gd⟩ ⟨x, n, m, ex, gl, nm, tm⟩ σ (nb + k)))) :: acc)
    (clash acc k ((capB ⟨x, n, m, ex, gl, nm, tm⟩ op ++ foots ⟨x, n, m, ex, gl, nm, tm⟩ (readsOf op))) (wOf nb k (wS (step1 P orc ops ⟨d, op, ty, pos, af, gd⟩ ⟨x, n, m, ex, gl, nm, tm⟩ σ (nb + k)))) ++ pairs)
    (Env.putO ⟨x, n, m, ex, gl, nm, tm⟩ d (vS (step1 P orc ops ⟨d, op, ty, pos, af, gd⟩ ⟨x, n, m, ex, gl, nm, tm⟩ σ (nb + k)))) (upd σ (wS (step1 P orc ops ⟨d, op, ty, pos, af, gd⟩ ⟨x, n, m, ex, gl, nm, tm⟩ σ (nb + k)))) K) := _root_.id rfl
@[go_sem] theorem foots_nil : foots ⟨x, n, m, ex, gl, nm, tm⟩ [] = [] := _root_.id rfl
@[go_sem] theorem foots_cons {y : Operand} {l : List Operand} : foots ⟨x, n, m, ex, gl, nm, tm⟩ (y :: l) = blkO (Env.opS ⟨x, n, m, ex, gl, nm, tm⟩ y) ++ foots ⟨x, n, m, ex, gl, nm, tm⟩ l := _root_.id rfl
attribute [go_sem] ownO ownV capB blks blkA blksA blksO readsOf hasCall isEnt callP lend lendOK lendAll lends lend1 lendOK1 lendAll1 lends1 clAll glCl okS cS vS wS step1 blkO blk wOf wrs meets clash hget
@[go_sem] theorem thenQ_normal {k : Env → Heap → Prop} {e : Env} : thenQ k Q .normal e σ = k e σ := _root_.id rfl
@[go_sem] theorem thenQ_exit {k : Env → Heap → Prop} {e : Env} {i : Nat} : thenQ k Q (.exit i) e σ = Q (.exit i) e σ := _root_.id rfl
@[go_sem] theorem thenQ_ret {k : Env → Heap → Prop} {e : Env} : thenQ k Q .ret e σ = Q .ret e σ := _root_.id rfl
@[go_sem] theorem blockQ_normal {e : Env} {i : Nat} : blockQ i Q .normal e σ = Q .normal e σ := _root_.id rfl
@[go_sem] theorem blockQ_ret {e : Env} {i : Nat} : blockQ i Q .ret e σ = Q .ret e σ := _root_.id rfl
@[go_sem] theorem blockQ_exit {e : Env} {i j : Nat} : blockQ i Q (.exit j) e σ = if j = i then Q .normal e σ else Q (.exit j) e σ := by
 simp only [blockQ]
 by_cases h : j = i
 ·subst h; simp
 ·rw [if_neg h]
  cases hb : Nat.beq j i with
  | true => rw [Nat.beq_eq] at hb; exact absurd hb h
  | false => rfl
@[go_sem] theorem yOps_nil {ops : List Oper} : yOps P ops [] ⟨x, n, m, ex, gl, nm, tm⟩ σ K = K ⟨x, n, m, ex, gl, nm, []⟩ σ := _root_.id rfl
@[go_sem ↓] theorem yOps_plain {ops rest : List Oper} {d : Option Tmp} {op : Op} {ty : TypeId} {pos : String} {af : Array Edge} : yOps P ops (⟨d, op, ty, pos, af, none⟩ :: rest) ⟨x, n, m, ex, gl, nm, tm⟩ σ K =
  if isIt op = true then (Option.isSome (none : Option (Nat × Bool)) = false ∧ whens ⟨x, n, m, ex, gl, nm, tm⟩ true op.operands.toList) ∧ iterQ P op (Env.opS ⟨x, n, m, ex, gl, nm, tm⟩) σ (kCall (fun e h => yOps P ops rest e h K) ⟨x, n, m, ex, gl, nm, tm⟩ d)
  else if callsGo ⟨d, op, ty, pos, af, none⟩ = true then (isCall (callOf ⟨d, op, ty, pos, af, none⟩ ⟨x, n, m, ex, gl, nm, tm⟩) ∧ whens ⟨x, n, m, ex, gl, nm, tm⟩ true op.operands.toList) ∧
   TCalls P gl (callF (callOf ⟨d, op, ty, pos, af, none⟩ ⟨x, n, m, ex, gl, nm, tm⟩)) (callA (callOf ⟨d, op, ty, pos, af, none⟩ ⟨x, n, m, ex, gl, nm, tm⟩)) σ (kCall (fun e h => yOps P ops rest e h K) ⟨x, n, m, ex, gl, nm, tm⟩ d)
  else (okP (xPure P ⟨d, op, ty, pos, af, none⟩ ⟨x, n, m, ex, gl, nm, tm⟩ true σ σ.length) ∧ cP (xPure P ⟨d, op, ty, pos, af, none⟩ ⟨x, n, m, ex, gl, nm, tm⟩ true σ σ.length) ∧ preO (oP (xPure P ⟨d, op, ty, pos, af, none⟩ ⟨x, n, m, ex, gl, nm, tm⟩ true σ σ.length))) ∧
   yOps P ops rest (Env.putO ⟨x, n, m, ex, gl, nm, tm⟩ d (vO (oP (xPure P ⟨d, op, ty, pos, af, none⟩ ⟨x, n, m, ex, gl, nm, tm⟩ true σ σ.length)))) (upd σ (wO (oP (xPure P ⟨d, op, ty, pos, af, none⟩ ⟨x, n, m, ex, gl, nm, tm⟩ true σ σ.length)))) K := _root_.id rfl
@[go_sem ↓] theorem yOps_guarded {ops rest : List Oper} {d : Option Tmp} {op : Op} {ty : TypeId} {pos : String} {af : Array Edge} {gd : Nat × Bool} : yOps P ops (⟨d, op, ty, pos, af, some gd⟩ :: rest) ⟨x, n, m, ex, gl, nm, tm⟩ σ K =
  if isIt op = true then (Option.isSome (some gd) = false ∧ whens ⟨x, n, m, ex, gl, nm, tm⟩ true op.operands.toList) ∧ iterQ P op (Env.opS ⟨x, n, m, ex, gl, nm, tm⟩) σ (kCall (fun e h => yOps P ops rest e h K) ⟨x, n, m, ex, gl, nm, tm⟩ d)
  else if callsGo ⟨d, op, ty, pos, af, some gd⟩ = true then (isCall (callOf ⟨d, op, ty, pos, af, some gd⟩ ⟨x, n, m, ex, gl, nm, tm⟩) ∧ wantK (wantOf ops ⟨x, n, m, ex, gl, nm, tm⟩ ⟨d, op, ty, pos, af, some gd⟩)) ∧
   if wantB (wantOf ops ⟨x, n, m, ex, gl, nm, tm⟩ ⟨d, op, ty, pos, af, some gd⟩) = true then
    whens ⟨x, n, m, ex, gl, nm, tm⟩ true op.operands.toList ∧ TCalls P gl (callF (callOf ⟨d, op, ty, pos, af, some gd⟩ ⟨x, n, m, ex, gl, nm, tm⟩)) (callA (callOf ⟨d, op, ty, pos, af, some gd⟩ ⟨x, n, m, ex, gl, nm, tm⟩)) σ (kCall (fun e h => yOps P ops rest e h K) ⟨x, n, m, ex, gl, nm, tm⟩ d)
   else yOps P ops rest (Env.putO ⟨x, n, m, ex, gl, nm, tm⟩ d (.tup [])) σ K
  else wantK (wantOf ops ⟨x, n, m, ex, gl, nm, tm⟩ ⟨d, op, ty, pos, af, some gd⟩) ∧ if (xPure P ⟨d, op, ty, pos, af, some gd⟩ ⟨x, n, m, ex, gl, nm, tm⟩ (wantB (wantOf ops ⟨x, n, m, ex, gl, nm, tm⟩ ⟨d, op, ty, pos, af, some gd⟩)) σ σ.length).isSome = false then wantB (wantOf ops ⟨x, n, m, ex, gl, nm, tm⟩ ⟨d, op, ty, pos, af, some gd⟩) = false ∧ yOps P ops rest (Env.putO ⟨x, n, m, ex, gl, nm, tm⟩ d (.tup [])) σ K else
   if (wO (oP (xPure P ⟨d, op, ty, pos, af, some gd⟩ ⟨x, n, m, ex, gl, nm, tm⟩ (wantB (wantOf ops ⟨x, n, m, ex, gl, nm, tm⟩ ⟨d, op, ty, pos, af, some gd⟩)) σ σ.length))).isSome = false then
    (cP (xPure P ⟨d, op, ty, pos, af, some gd⟩ ⟨x, n, m, ex, gl, nm, tm⟩ (wantB (wantOf ops ⟨x, n, m, ex, gl, nm, tm⟩ ⟨d, op, ty, pos, af, some gd⟩)) σ σ.length) ∧
     (wantB (wantOf ops ⟨x, n, m, ex, gl, nm, tm⟩ ⟨d, op, ty, pos, af, some gd⟩) = true → preO (oP (xPure P ⟨d, op, ty, pos, af, some gd⟩ ⟨x, n, m, ex, gl, nm, tm⟩ (wantB (wantOf ops ⟨x, n, m, ex, gl, nm, tm⟩ ⟨d, op, ty, pos, af, some gd⟩)) σ σ.length)))) ∧
     yOps P ops rest (Env.putO ⟨x, n, m, ex, gl, nm, tm⟩ d (.opt (wantB (wantOf ops ⟨x, n, m, ex, gl, nm, tm⟩ ⟨d, op, ty, pos, af, some gd⟩)) (vO (oP (xPure P ⟨d, op, ty, pos, af, some gd⟩ ⟨x, n, m, ex, gl, nm, tm⟩ (wantB (wantOf ops ⟨x, n, m, ex, gl, nm, tm⟩ ⟨d, op, ty, pos, af, some gd⟩)) σ σ.length))))) σ K
   else if wantB (wantOf ops ⟨x, n, m, ex, gl, nm, tm⟩ ⟨d, op, ty, pos, af, some gd⟩) = true then
    (cP (xPure P ⟨d, op, ty, pos, af, some gd⟩ ⟨x, n, m, ex, gl, nm, tm⟩ true σ σ.length) ∧ preO (oP (xPure P ⟨d, op, ty, pos, af, some gd⟩ ⟨x, n, m, ex, gl, nm, tm⟩ true σ σ.length))) ∧
     yOps P ops rest (Env.putO ⟨x, n, m, ex, gl, nm, tm⟩ d (vO (oP (xPure P ⟨d, op, ty, pos, af, some gd⟩ ⟨x, n, m, ex, gl, nm, tm⟩ true σ σ.length)))) (upd σ (wO (oP (xPure P ⟨d, op, ty, pos, af, some gd⟩ ⟨x, n, m, ex, gl, nm, tm⟩ true σ σ.length)))) K
   else yOps P ops rest (Env.putO ⟨x, n, m, ex, gl, nm, tm⟩ d (.tup [])) σ K := _root_.id rfl
def whO : Option IV → Bool
 | some c => c.when
 | none => true
@[go_sem] theorem opS_tmp {t : Tmp} : Env.opS ⟨x, n, m, ex, gl, nm, tm⟩ (.tmp t) = Option.map IV.strip (if isNamed m ex t = true then eget nm t else eget tm t) := by
 simp only [Env.opS, Env.opnd, Env.get]; cases isNamed m ex t <;> rfl
@[go_sem] theorem opS_const {v : Value} : Env.opS ⟨x, n, m, ex, gl, nm, tm⟩ (.const v) = Option.map IV.strip (ofV v) := _root_.id rfl
@[go_sem] theorem opS_global {g : Nat} : Env.opS ⟨x, n, m, ex, gl, nm, tm⟩ (.global g) = Option.map IV.strip (eget gl g) := _root_.id rfl
@[go_sem] theorem opS_func {f : FuncId} : Env.opS ⟨x, n, m, ex, gl, nm, tm⟩ (.func f) = some (.func (.func f) [] []) := _root_.id rfl
@[go_sem] theorem wh_tmp {t : Tmp} : Env.wh ⟨x, n, m, ex, gl, nm, tm⟩ (.tmp t) = whO (if isNamed m ex t = true then eget nm t else eget tm t) := by
 simp only [Env.wh, Env.opnd, Env.get, whO]; cases isNamed m ex t <;> rfl
@[go_sem] theorem wh_const {v : Value} : Env.wh ⟨x, n, m, ex, gl, nm, tm⟩ (.const v) = whO (ofV v) := _root_.id rfl
@[go_sem] theorem wh_global {g : Nat} : Env.wh ⟨x, n, m, ex, gl, nm, tm⟩ (.global g) = whO (eget gl g) := _root_.id rfl
@[go_sem] theorem wh_func {f : FuncId} : Env.wh ⟨x, n, m, ex, gl, nm, tm⟩ (.func f) = true := _root_.id rfl
@[go_sem] theorem get_lit {t : Nat} : Env.get ⟨x, n, m, ex, gl, nm, tm⟩ t = if isNamed m ex t = true then eget nm t else eget tm t := by
 simp only [Env.get]; cases isNamed m ex t <;> rfl
@[go_sem] theorem putO_some {t : Nat} {v : IV} : Env.putO ⟨x, n, m, ex, gl, nm, tm⟩ (some t) v = if t < n then (if isNamed m ex t = true then ⟨x, n, m, ex, gl, eput nm t v, tm⟩ else ⟨x, n, m, ex, gl, nm, (t, v) :: tm⟩) else ⟨x, n, m, ex, gl, nm, tm⟩ := by
 simp only [Env.putO, Env.put]
 by_cases h : t < n
 ·rw [if_pos h, show Nat.blt t n = true by rw [Nat.blt_eq]; exact h]; cases isNamed m ex t <;> rfl
 ·rw [if_neg h]
  cases hb : Nat.blt t n with
  | true => rw [Nat.blt_eq] at hb; exact absurd hb h
  | false => rfl
@[go_sem] theorem putO_none {v : IV} : Env.putO ⟨x, n, m, ex, gl, nm, tm⟩ none v = ⟨x, n, m, ex, gl, nm, tm⟩ := _root_.id rfl
@[go_sem] theorem isNamed_lit {t : Nat} : (isNamed m ex t = true) = (t < m ∨ t ∈ ex) := by
 simp [isNamed, Nat.blt_eq]
@[go_sem] theorem eget_nil {t : Nat} : eget [] t = none := _root_.id rfl
@[go_sem] theorem eget_cons {k t : Nat} {v : IV} {l : List (Nat × IV)} : eget ((k, v) :: l) t = if k = t then some v else eget l t := by
 simp only [eget]
 by_cases h : k = t
 ·simp [h]
 ·have : (k == t) = false := by simpa using h
  simp [h, this]
@[go_sem] theorem eput_nil {t : Nat} {v : IV} : eput [] t v = [(t, v)] := _root_.id rfl
@[go_sem] theorem eput_cons {k t : Nat} {u v : IV} {l : List (Nat × IV)} : eput ((k, u) :: l) t v = if k = t then (k, v) :: l else (k, u) :: eput l t v := by
 simp only [eput]
 by_cases h : k = t
 ·simp [h]
 ·have : (k == t) = false := by simpa using h
  simp [h, this]
@[go_sem] theorem whens_nil {g : Bool} : whens ⟨x, n, m, ex, gl, nm, tm⟩ g [] = True := _root_.id rfl
@[go_sem] theorem whens_cons {g : Bool} {y : Operand} {l : List Operand} : whens ⟨x, n, m, ex, gl, nm, tm⟩ g (y :: l) = ((g = true → Env.wh ⟨x, n, m, ex, gl, nm, tm⟩ y = true) ∧ whens ⟨x, n, m, ex, gl, nm, tm⟩ g l) := _root_.id rfl
@[go_sem] theorem kCall_eq {f : Env → Heap → Prop} {d : Option Tmp} {r : IV} : kCall f ⟨x, n, m, ex, gl, nm, tm⟩ d r σ = f (Env.putO ⟨x, n, m, ex, gl, nm, tm⟩ d r) σ := _root_.id rfl
attribute [go_sem] okO preO vO wO okP cP oP isB toB isCall callF callA wantB wantK callsGo callOf xPure iop binI bin un ok okIf ofV ofC ofCs IV.strip IV.when whO wantOf gslot upd hput opsnd partsV enum Op.operands Call.operands one
 ibuiltin appZ loadAt cut srcRows capX mm mms loV hiV IV.cells IV.one splice kindsOK ceq ceqs placeS fillP IV.isAgg keyOK mapOf found mkV
@[go_sem] theorem TCalls_fn {f : FuncId} {args : List IV} {R : IV → Heap → Prop} : TCalls P gl (.fn f) args σ R = ICalls P gl f args σ R := _root_.id rfl
@[go_sem] theorem TCalls_yl {l : Nat} {args : List IV} {R : IV → Heap → Prop} : TCalls P gl (.yl l) args σ R = YCalls P gl l args σ R := _root_.id rfl
attribute [go_sem] isIt
@[go_sem] theorem iterQ_range {t : TypeId} {y : Operand} {ρ : Operand → Option IV} {R : IV → Heap → Prop} : iterQ P (.range t y) ρ σ R = match P.underlying t, ρ y with
  | some (.map _ _), some (.map b) => match σ[b]? with
   | some (.map es) => R (.iter σ.length) (σ.set b .dead ++ [.iter (some b) es none es])
   | _ => False
  | some (.map _ _), some .nilm => R (.iter σ.length) (σ ++ [.iter none [] none []])
  | some (.map _ _), some (.fm es) => R (.iter σ.length) (σ ++ [.iter none es none es])
  | _, _ => False := _root_.id rfl
@[go_sem] theorem iterQ_next {y : Operand} {ρ : Operand → Option IV} {R : IV → Heap → Prop} : iterQ P (.next y false) ρ σ R = match ρ y with
  | some (.iter x) => match σ[x]? with
   | some (.iter b es _ todo) => nextQ R σ x b es todo
   | _ => False
  | _ => False := _root_.id rfl
@[go_sem] theorem iterQ_entry {y : Operand} {ρ : Operand → Option IV} {R : IV → Heap → Prop} : iterQ P (.entry y) ρ σ R = match ρ y with
  | some (.iter x) => match σ[x]? with
   | some (.iter _ _ (some kv) _) => R (.tup [kv.1, kv.2]) σ
   | _ => False
  | _ => False := _root_.id rfl
@[go_sem] theorem iterQ_nil {t : TypeId} {y : Operand} {ty : TypeId} {ρ : Operand → Option IV} {R : IV → Heap → Prop} : iterQ P (.binOp .eql t y (.const (.slice none 0 0)) ty) ρ σ R = match P.underlying t, ρ y with
  | some (.slice _), some c => nilQ (fun b => R (.bool b) σ) c
  | _, _ => False := _root_.id rfl
@[go_sem] theorem nilQ_nils {K : Bool → Prop} : nilQ K .nils = K true := _root_.id rfl
@[go_sem] theorem nilQ_fz {K : Bool → Prop} {s : Nat} {rs : List (List IV)} : nilQ K (.fz s rs) = (K false ∧ (rs = [] → K true)) := _root_.id rfl
@[congr] theorem ICalls_congr {f f' : FuncId} {args args' : List IV} {R : IV → Heap → Prop} {σ' : Heap} (hf : f = f') (ha : args = args') (hs : σ = σ') : ICalls P gl f args σ R = ICalls P gl f' args' σ' R := by rw [hf, ha, hs]
@[congr] theorem IWp_congr {c : Code} {e e' : Env} {σ' : Heap} (he : e = e') (hs : σ = σ') : IWp P c Q e σ = IWp P c Q e' σ' := by rw [he, hs]
@[go_sem] theorem retQ_normal {rs : List ResultVar} {R : IV → Heap → Prop} {e : Env} : retQ P rs R .normal e σ = match resVs P rs e σ with | some (p, l) => p ∧ R (one l) σ | none => False := _root_.id rfl
@[go_sem] theorem retQ_ret {rs : List ResultVar} {R : IV → Heap → Prop} {e : Env} : retQ P rs R .ret e σ = match resVs P rs e σ with | some (p, l) => p ∧ R (one l) σ | none => False := _root_.id rfl
attribute [go_sem] resVs resV
def allIn : List (Nat × IV) → Env → Prop
 | [], _ => True
 | (k, v) :: l, e => e.get k = some v ∧ allIn l e
def Env.subE (e' e : Env) : Prop := e'.tm = [] ∧ e'.n = e.n ∧ e'.gl = e.gl ∧ allIn e'.nm e
theorem allIn_get {e : Env} : ∀ {l : List (Nat × IV)}, allIn l e → ∀ t c, eget l t = some c → e.get t = some c
 | (k, v) :: l, h, t, c, hg => by
  simp only [eget] at hg
  by_cases hk : k = t
  ·subst hk; simp at hg; subst hg; exact h.1
  ·have : (k == t) = false := by simpa using hk
   rw [this] at hg
   exact allIn_get h.2 t c hg
theorem Env.subE.sub {e' e : Env} (h : e'.subE e) : e'.sub e := by
 obtain ⟨h1, h2, h3, h4⟩ := h
 refine ⟨h2, h3, fun t c hg => ?_⟩
 unfold Env.get at hg
 cases hn : isNamed e'.m e'.ex t with
 | true => rw [hn] at hg; exact allIn_get h4 t c hg
 | false => rw [hn, h1] at hg; simp [eget] at hg
@[go_sem] theorem allIn_nil {e : Env} : allIn [] e = True := _root_.id rfl
@[go_sem] theorem allIn_cons {k : Nat} {v : IV} {l : List (Nat × IV)} : allIn ((k, v) :: l) ⟨x, n, m, ex, gl, nm, tm⟩ = (Env.get ⟨x, n, m, ex, gl, nm, tm⟩ k = some v ∧ allIn l ⟨x, n, m, ex, gl, nm, tm⟩) := _root_.id rfl
@[go_sem] theorem subE_lit {x' : Bool} {n' m' : Nat} {ex' : List Nat} {gl' nm' tm' : List (Nat × IV)} : Env.subE ⟨x', n', m', ex', gl', nm', tm'⟩ ⟨x, n, m, ex, gl, nm, tm⟩ = (tm' = [] ∧ n' = n ∧ gl' = gl ∧ allIn nm' ⟨x, n, m, ex, gl, nm, tm⟩) := _root_.id rfl
end
end Go.Idl
