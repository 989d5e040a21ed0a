/-
  A map that is written during its walk: the value of a key that is there, and does not come any more.
-/
import Derived.Test.YtjmjdjdabmlgeaaIdlPartK
namespace Go.Idl
set_option linter.all false
open Go.RowKit
section
variable {P : Program} {μ : Mu} {F : Fz} {w : World} {σ : Heap}

/-- The value of a key that is there is written. -/
theorem mapSet_run {t : TypeId} {kt et : TypeId} {ks : List TypeDesc} {kv c0 : IV} {K X : Value} {gm : Nat} {es' : Array MapEntry} {cl : Nat} {es : List (IV × IV)} (ht : P.underlying t = some (.map kt et)) (hks : keyK P kt = some ks) (hko : keyOK P kt ks kv = true)
    (vk : VR μ F w K kv) (hg : w.heap[gm]? = some (.map es' cl)) (he : EntsR μ F w es'.toList es) (hp : ∀ e ∈ es, keyOK P kt ks e.1 = true) (hm : mget kv es = some c0) :
    ∃ j e, mix kv es 0 = some j ∧ es'.toList[j]? = some e ∧ e.key = K ∧ VR μ F w e.key kv ∧
      (Instr.mapUpdate t (.map (some gm)) K X).run P w = .ok () { w with heap := w.heap.setIfInBounds gm (.map (es'.modify j fun y => { y with key := K, val := X }) cl) } := by
  obtain ⟨r, hr, hc⟩ := find_run hks hko vk es'.toList es he hp
  rcases hc with ⟨_, _, m1⟩ | ⟨j, v, c', m1, m2, rfl, _, _, e, m3, _, m4⟩
  · rw [hm] at m1; cases m1
  · have hkey := key_same hks hko m4 vk
    refine ⟨j, e, by simpa using m1, m3, hkey.1, m4, ?_⟩
    unfold Instr.mapUpdate
    simp only [Sem.run_bind, run_underlying ht, Result.andThen_ok, getObj_run hg]
    rw [check_key (μ := μ) (F := F) _ hks hko vk]
    have hold : ((es'[j]?).map (·.key)).getD K = e.key := by
      have : es'[j]? = some e := by simpa using m3
      simp [this]
    simp only [Result.andThen_ok, hr, Sem.run_bind, hold, Instr.keyThatStays, hkey.2, if_true, Sem.run_pure]
    exact setObj_run hg
theorem born_modifyW {K X : Value} : ∀ (l : List MapEntry) (j : Nat), (l.modify j fun y => { y with key := K, val := X }).map (·.born) = l.map (·.born)
  | [], j => by simp
  | a :: l, 0 => by simp
  | a :: l, j + 1 => by simp [born_modifyW l j]
/-- A key that does not come any more is not among those that are unseen. -/
theorem mget_none {k : IV} : ∀ {todo : List (IV × IV)}, mget k todo = none → ∀ p ∈ todo, keq k p.1 = false
  | [], _, p, hp => by cases hp
  | (k', v) :: l, h, p, hp => by
    simp only [mget] at h
    split at h
    · cases h
    · rename_i hk
      rcases List.mem_cons.1 hp with rfl | hp
      · simpa using hk
      · exact mget_none h p hp
theorem filter_modify {seen : Array Nat} {K X : Value} : ∀ (l : List MapEntry) (j : Nat) (e : MapEntry), l[j]? = some e → seen.contains e.born = true →
    (l.modify j fun y => { y with key := K, val := X }).filter (fun e => !seen.contains e.born) = l.filter fun e => !seen.contains e.born
  | [], j, e, h, _ => by simp at h
  | a :: l, 0, e, h, hs => by
    simp at h; subst h
    have hk : ∀ b : MapEntry, b.born = a.born → (b :: l).filter (fun e => !seen.contains e.born) = l.filter fun e => !seen.contains e.born := fun b hb =>
      List.filter_cons_of_neg (p := fun e : MapEntry => !seen.contains e.born) (by rw [hb, hs]; simp)
    rw [List.modify_zero_cons]
    exact (hk { a with key := K, val := X } rfl).trans (hk a rfl).symm
  | a :: l, j + 1, e, h, hs => by
    simp only [List.modify_succ_cons, List.filter_cons]
    rw [filter_modify l j e (by simpa using h) hs]
theorem keq_refl {t : TypeId} {ks : List TypeDesc} {k k' : IV} {u : Value} (hk : keyK P t = some ks) (h1 : keyOK P t ks k = true) (h2 : keyOK P t ks k' = true) (v1 : VR μ F w u k) (v2 : VR μ F w u k') : keq k k' = true := by
  have e1 := equal_key hk h1 h2 v1 v2
  have e2 := equal_key hk h1 h1 v1 v1
  rw [keq_self hk h1] at e2
  rw [e1] at e2
  injection e2
/-- **A MAP IS WRITTEN DURING ITS WALK.** -/
theorem HR.walkPut (hH : HR μ F σ w) {x b : Nat} {es : List (IV × IV)} {cur : Option (IV × IV)} {todo : List (IV × IV)} (hx : σ[x]? = some (.iter (some b) es cur todo)) (hn : noIt b (σ.set x .dead) = true)
    {t : TypeId} {kt et : TypeId} {ks : List TypeDesc} {kv vv c0 : IV} {M K X : Value} (ht : P.underlying t = some (.map kt et)) (hks : keyK P kt = some ks) (hko : keyOK P kt ks kv = true)
    (vm : VR μ F w M (.map b)) (vk : VR μ F w K kv) (vx : VR μ F w X vv) (hp : ∀ e ∈ es, keyOK P kt ks e.1 = true) (hpt : ∀ e ∈ todo, keyOK P kt ks e.1 = true) (hm : mget kv es = some c0) (hmt : mget kv todo = none) :
    ∃ w', (Instr.mapUpdate t M K X).run P w = .ok () w' ∧ HR μ F (σ.set x (.iter (some b) (mset kv vv es) none todo)) w' ∧ Ext μ F w μ F w' := by
  obtain ⟨hux, hsx, g, hplx, hI⟩ := hH.obj x _ hx
  obtain ⟨hub, hsb, gm, es', cl, since, seen, q1, q2, q3, q4, q5, q6, q7, q8, q9⟩ := hI
  have hxl := (List.getElem?_eq_some_iff.1 hx).1
  obtain ⟨o, ho, _⟩ := hH.n b hub
  have hod := hH.itd x b es cur todo o hx ho
  subst hod
  have hbl := (List.getElem?_eq_some_iff.1 ho).1
  have hbx : x ≠ b := fun e => by subst e; rw [hx] at ho; cases ho
  have hM : M = .map (some gm) := by
    cases vm with
    | map _ _ hk hb' h hl => rw [q1] at h; exact h
  subst hM
  obtain ⟨j, e, m1, m2, m3, m4, hrun⟩ := mapSet_run (X := X) ht hks hko vk q2 q7 hp hm
  have hd := hH.toDead x
  have hglt := hH.lt b gm 0 hub q1
  have hgx : g ≠ gm := fun e => by subst e; exact hbx (hH.inj x b g 0 0 hux hub hplx q1)
  refine ⟨_, hrun, ?_⟩
  generalize hes2 : es'.modify j (fun y => { y with key := K, val := X }) = es2
  have hl2 : es2.toList = es'.toList.modify j fun y => { y with key := e.key, val := X } := by rw [← hes2, m3]; simp
  have hl2' : es2.toList = es'.toList.modify j fun y => { y with key := K, val := X } := by rw [← hes2]; simp
  have hw : ∀ k, k < w.heap.size → (μ.u b → ∀ off, μ.pl b ≠ .at_ k off) → ({ w with heap := w.heap.setIfInBounds gm (.map es2 cl) } : World).heap[k]? = w.heap[k]? := fun k _ hk => by
    have : gm ≠ k := fun e => by subst e; exact hk hub 0 q1
    simp [Array.getElem?_setIfInBounds_ne this]
  have h1 := hd.change (b := b) (o' := .dead) (Mu.le_refl μ) (fun _ _ => ⟨rfl, rfl, rfl, rfl, Iff.rfl⟩) hw (fun g' off' hu' e => ⟨.inr ⟨hu', off', e⟩, by simpa using hH.lt b g' off' hu' e⟩) (by simp) rfl rfl ⟨rfl, Nat.le_refl _⟩
    (fun y b' es3 cur3 todo3 h e => noIt_get hn y es3 cur3 todo3 (by rw [← e]; exact h)) trivial
  have hf := hd.frozen_same hw
  obtain ⟨h1, hext⟩ := h1
  have hput1 : hput (σ.set x .dead) b .dead = σ.set x .dead := by
    refine List.ext_getElem? fun y => ?_
    rw [getElem?_hput]
    split
    · rename_i e; subst e
      rw [List.getElem?_set_ne hbx, ho]
    · split
      · rfl
      · split
        · rename_i hlt _; simp at hlt; omega
        · rename_i hlt _; rw [List.getElem?_eq_none (by omega)]
  rw [hput1] at h1
  have mono : ∀ {v : Value} {c : IV}, VR μ F w v c → VR μ F { w with heap := w.heap.setIfInBounds gm (.map es2 cl) } v c := fun h => h.mono (Mu.le_refl _) (fun _ h => h) hf
  have hents : EntsR μ F w es2.toList (mset kv vv es) := by
    rw [hl2]
    exact ents_modify vx es'.toList es 0 j e q7 (by simpa using m1) m2
  have hborn : es2.toList.map (·.born) = es'.toList.map (·.born) := by rw [hl2', born_modifyW]
  have hseen : seen.contains e.born = true := Classical.byContradiction fun hns => by
    have hmem : e ∈ es'.toList.filter fun e => !seen.contains e.born := List.mem_filter.2 ⟨List.mem_of_getElem? m2, by simpa using hns⟩
    obtain ⟨i, hi⟩ := List.getElem?_of_mem hmem
    have hil : i < todo.length := by rw [← q8.1]; exact (List.getElem?_eq_some_iff.1 hi).1
    have hv := (q8.2 i e todo[i] hi (List.getElem?_eq_getElem hil)).1
    have h2 := mget_none hmt todo[i] (List.getElem_mem hil)
    rw [keq_refl hks hko (hpt _ (List.getElem_mem hil)) m4 hv] at h2
    cases h2
  have htd : es2.toList.filter (fun e => !seen.contains e.born) = es'.toList.filter fun e => !seen.contains e.born := by
    rw [hl2']; exact filter_modify _ j e m2 hseen
  have h2 := h1.change (b := x) (o' := .iter (some b) (mset kv vv es) none todo) (w' := { w with heap := w.heap.setIfInBounds gm (.map es2 cl) }) (Mu.le_refl μ) (fun _ _ => ⟨rfl, rfl, rfl, rfl, Iff.rfl⟩) (fun _ _ _ => rfl) (fun g' off' hu' e => ⟨.inr ⟨hu', off', e⟩, h1.lt x g' off' hu' e⟩) (by simp) rfl rfl ⟨rfl, Nat.le_refl _⟩
    (fun y b' es3 cur3 todo3 h e => by
      have h' : σ[y]? = some (.iter (some b') es3 cur3 todo3) := by
        by_cases e2 : x = y
        · subst e2
          rw [List.getElem?_set_self hxl] at h
          cases h
        · rw [List.getElem?_set_ne e2] at h
          exact h
      exact hH.notIt hx (by intro h; cases h) y b' es3 cur3 todo3 h' e)
    ⟨hux, hsx, g, hplx, hub, hsb, gm, es2, cl, since, seen, q1, by simp [hglt], by simp [Array.getElem?_setIfInBounds_ne (Ne.symm hgx)]; exact q3, q4, fun a ha => by
        have : a.born ∈ es2.toList.map (·.born) := List.mem_map.2 ⟨a, ha, rfl⟩
        rw [hborn] at this
        obtain ⟨y, hy, hyb⟩ := List.mem_map.1 this
        rw [← hyb]; exact q5 y hy, by rw [hborn]; exact q6, hents.mono mono, by rw [htd]; exact q8.mono mono, fun kv h => by cases h⟩ rfl (by intros; intro h; cases h)
    (fun y es3 cur3 todo3 o2 ho2 hy => by
      cases ho2
      rw [getElem?_hput, if_neg (Ne.symm hbx), if_pos (by simpa using hbl), List.getElem?_set_ne hbx, ho] at hy
      exact (Option.some.inj hy).symm)
  have hput2 : hput (σ.set x .dead) x (.iter (some b) (mset kv vv es) none todo) = σ.set x (.iter (some b) (mset kv vv es) none todo) := by
    refine List.ext_getElem? fun y => ?_
    rw [getElem?_hput]
    split
    · rename_i e; subst e; simp [hxl]
    · rename_i e
      split
      · rw [List.getElem?_set_ne (Ne.symm e), List.getElem?_set_ne (Ne.symm e)]
      · split
        · rename_i hlt _; simp at hlt; omega
        · rename_i hlt _; rw [List.getElem?_eq_none (by simp at hlt ⊢; omega)]
  rw [hput2] at h2
  exact ⟨h2.1, hext⟩
/-- What is known ahead of such a write. -/
def putQ (P : Program) (oc : Oper) (e : Env) (σ : Heap) (K : Heap → Prop) : Prop := match oc.op with
  | .mapUpdate t m k v => ∃ (kt et : TypeId) (ks : List TypeDesc) (b : Nat) (kv vv c0 : IV) (x : Nat) (es : List (IV × IV)) (cur : Option (IV × IV)) (todo : List (IV × IV)),
      P.underlying t = some (.map kt et) ∧ keyK P kt = some ks ∧ e.opS m = some (.map b) ∧ e.opS k = some kv ∧ e.opS v = some vv ∧ whens e true oc.op.operands.toList ∧ σ[x]? = some (.iter (some b) es cur todo) ∧ noIt b (σ.set x .dead) = true ∧
      keyOK P kt ks kv = true ∧ (∀ e ∈ es, keyOK P kt ks e.1 = true) ∧ (∀ e ∈ todo, keyOK P kt ks e.1 = true) ∧ mget kv es = some c0 ∧ mget kv todo = none ∧ K (σ.set x (.iter (some b) (mset kv vv es) none todo))
  | _ => False
theorem IWp.regionW {id : Nat} {l : List Oper} {oc : Oper} {Q : XPost} {e : Env} {σ : Heap} (n : Nat) (hoc : l[n]? = some oc) (hg : oc.guard = none)
    (h : ∀ K : Env → Heap → Prop, (∀ e1 σ1, (putQ P oc e1 σ1 fun σ2 => yOps P l (l.drop (n + 1)) (e1.putO oc.dst (.tup [])) σ2 fun e2 σ2 => Q .normal e2 σ2) → K e1 σ1) → yOps P l (l.take n) e σ K) : IWp P (.region id l.toArray false) Q e σ := fun ro μ F a w hR hE hH => by
  refine wpIn_region_list ?_
  have hl : l = l.take n ++ oc :: l.drop (n + 1) := by
    obtain ⟨hn, rfl⟩ := List.getElem?_eq_some_iff.1 hoc
    rw [List.getElem_cons_drop, List.take_append_drop]
  have key : wpListIn (Rd ro) 0 P l.toArray (fun ex a' w' => match ex with | .normal => wpListIn (Rd ro) 0 P l.toArray (IPost Q μ F a w) (oc :: l.drop (n + 1)) a' w' | ex => IPost Q μ F a w ex a' w') (l.take n) a w := by
    refine xOps_sound (ops := l.toArray) _ _ σ _ (by simpa using yOps_sound _ _ _ _ (h _ fun _ _ h => h)) μ F a w hE hH ?_
    intro e1 σ1 μ1 F1 a1 w1 hk k2 k3 k4 k5
    simp only
    unfold wpListIn
    have hw : Region.wanted oc (yielded l.toArray a1.tmps) = true := by unfold Region.wanted; rw [hg]
    rw [if_pos hw]
    refine ⟨fun _ _ => trivial, ?_⟩
    unfold putQ at hk
    split at hk
    · rename_i t m k v hop
      obtain ⟨kt, et, ks, b, kv, vv, c0, x, es, cur, todo, p1, p2, p3, p4, p5, p6, p7, p8, p9, p10, p11, p12, p13, p14⟩ := hk
      have vm := opS_vr k2 p3 (whens_mem p6 m (by rw [hop]; simp [Op.operands]))
      have vk := opS_vr k2 p4 (whens_mem p6 k (by rw [hop]; simp [Op.operands]))
      have vx := opS_vr k2 p5 (whens_mem p6 v (by rw [hop]; simp [Op.operands]))
      obtain ⟨w', hrun, hH', hext⟩ := k3.walkPut p7 p8 p1 p2 p9 vm vk vx p10 p11 p12 p13
      rw [Oper.semAt_eq _ _ _ (fun c' hc' => by rw [hop] at hc'; cases hc')]
      have hres : (execOp a1.eval oc).run P w1 = .ok .skip w' := by simp [execOp, hop, hrun]
      rw [hres]
      have hput : ∀ (d : Option Tmp) (v : Value), (a1.put d v).defers = a1.defers := fun d v => by cases d <;> rfl
      refine xOps_sound (ops := l.toArray) _ _ _ _ (by simpa using yOps_sound _ _ _ _ p14) μ1 F1 _ w' ((hext.env k2).putO oc.dst vr_tup0) hH' ?_
      intro e' σ' μ' F' a' w'' q1 q2 q3 q4 q5
      exact ⟨.normal, e', σ', μ', F', trivial, q1, q2, q3, k4.trans (hext.trans q4), .refl (q5.trans ((hput _ _).trans k5))⟩
    · exact hk.elim
  have := wpListIn_append (Q := IPost Q μ F a w) (Q' := fun ex a' w' => match ex with | .normal => wpListIn (Rd ro) 0 P l.toArray (IPost Q μ F a w) (oc :: l.drop (n + 1)) a' w' | ex => IPost Q μ F a w ex a' w') (rest := oc :: l.drop (n + 1)) (fun a w h => h) (fun c a w h => h) (fun ⟨a, w, h⟩ => ⟨a, w, h⟩) _ _ _ key
  rw [← hl] at this
  simpa using this
end
/-- A call's contract from its body, the walk at statements (the heap as it is). -/
theorem ICalls.of_bodyU {P : Program} {gl : List (Nat × IV)} {f : FuncId} {fn : Func} {c : Code} {args : List IV} {σ : Heap} {K : IV → Heap → Prop} (x : Bool) (m : Nat) (ex : List Nat) (hf : P.funcs[f]? = some fn) (hb : fn.body = some c)
    (hcall : ∀ (args : Array Value) (w : World), (callFunc f args).run P w = .ok (.enter f args) w) (hn : Nat.ble args.length fn.ntmps = true)
    (h : ∀ R : IV → Heap → Prop, (∀ r σ', K r σ' → R r σ') → IWp P c (retQ P fn.results.toList R) ⟨x, fn.ntmps, m, ex, gl, enum 0 args, []⟩ σ) : ICalls P gl f args σ K :=
  ICalls.of_body x m ex hf hb hcall hn (h _ fun _ _ h => h)
end Go.Idl
