import Derived.Test.YteedopeniojppaaGreatDoorIdlPartJ
set_option linter.all false
namespace Go.Idl
open Go.RowKit
section
variable {P : Program} {μ : Mu} {F : Fz} {w : World} {σ : Heap} {ev : Operand → Value} {ρ : Operand → Option IV}
theorem asInt_run {n : Nat} : (asInt (goInt n)).run P w = .ok (n : Int) w := rfl
theorem born_idx {l : List MapEntry} (hn : (l.map (·.born)).Nodup) {j : Nat} {e0 : MapEntry} (h : l[j]? = some e0) : l.findIdx? (fun e => ((e.born : Nat) : Int) == ((e0.born : Nat) : Int)) = some j := by
 induction l generalizing j with
 | nil => simp at h
 | cons a r ih =>
  simp only [List.map_cons, List.nodup_cons] at hn
  cases j with
  | zero =>
   simp only [List.getElem?_cons_zero, Option.some.injEq] at h
   subst h
   simp [List.findIdx?_cons]
  | succ j =>
   simp only [List.getElem?_cons_succ] at h
   have hne : a.born ≠ e0.born := fun e1 => hn.1 (List.mem_map.2 ⟨e0, List.mem_of_getElem? h, e1.symm⟩)
   have hb : (((a.born : Nat) : Int) == ((e0.born : Nat) : Int)) = false := by
    simp only [beq_eq_false_iff_ne, ne_eq, Int.natCast_inj]
    exact hne
   rw [List.findIdx?_cons, hb]
   simp [ih hn.2 h]
theorem born_arr {es : Array MapEntry} (hn : (es.toList.map (·.born)).Nodup) {j : Nat} {e0 : MapEntry} (h : es[j]? = some e0) : es.findIdx? (fun e => ((e.born : Nat) : Int) == ((e0.born : Nat) : Int)) = some j := by
 have := born_idx hn (j := j) (e0 := e0) (by simpa using h)
 rw [← this]
 cases es; simp
theorem born_modify (f : MapEntry → MapEntry) (hf : ∀ e, (f e).born = e.born) : ∀ (l : List MapEntry) (j : Nat), (l.modify j f).map (·.born) = l.map (·.born) := fun l => by
 induction l with
 | nil => intro j; simp
 | cons a l ih =>
  intro j
  cases j with
  | zero => simp [hf]
  | succ j => simp [ih j]
theorem map_write {b g : Nat} {es0 es : List (IV × IV)} {es2 : Array MapEntry} {cl2 : Nat} (hH : HR μ F σ w) (hb : σ[b]? = some (.map es0)) (hu : μ.u b) (hs : μ.sz b = 0) (hpl : μ.pl b = .at_ g 0) (q1 : EntsR μ F w es2.toList es) (q2 : (es2.toList.map (·.born)).Nodup) (q3 : ∀ e ∈ es2.toList, e.born < cl2) :
  HR μ F (hput σ b (.map es)) { w with heap := w.heap.setIfInBounds g (.map es2 cl2) } ∧ Ext μ F w μ F { w with heap := w.heap.setIfInBounds g (.map es2 cl2) } := by
 have hlt := hH.lt b g 0 hu hpl
 have hw : ∀ k, k < w.heap.size → (μ.u b → ∀ off, μ.pl b ≠ .at_ k off) → ({ w with heap := w.heap.setIfInBounds g (.map es2 cl2) } : World).heap[k]? = w.heap[k]? := fun k _ hk => by
  have : g ≠ k := fun e => by subst e; exact hk hu 0 hpl
  simp [Array.getElem?_setIfInBounds_ne this]
 have hf := hH.frozen_same hw
 refine hH.change (Mu.le_refl μ) (fun _ _ => ⟨rfl, rfl, rfl, rfl, Iff.rfl⟩) hw (fun g' off' hu' e => ⟨.inr ⟨hu', off', e⟩, ?_⟩) (by simp) rfl rfl ⟨rfl, Nat.le_refl _⟩ (hH.notIt hb (by intro h; cases h)) ?_
 ·simpa using hH.lt b g' off' hu' e
 ·exact ⟨hu, hs, g, es2, cl2, hpl, by simp [hlt], ⟨q1.1, fun j e p e1 e2 => let ⟨v1, v2⟩ := q1.2 j e p e1 e2; ⟨v1.mono (Mu.le_refl _) (fun _ h => h) hf, v2.mono (Mu.le_refl _) (fun _ h => h) hf⟩⟩, q2, q3⟩
theorem hput_hput {b : Nat} {o o' : IObj} (h : b < σ.length) : hput (hput σ b o) b o' = hput σ b o' := by
 rw [hput_set h, hput_set h, hput_set (by simpa using h)]
 simp
theorem mget_mset {kv v : IV} : ∀ {es : List (IV × IV)}, keq kv kv = true → mget kv (mset kv v es) = some v
 | [], h => by simp [mset, mget, h]
 | (k', c) :: es, h => by
  simp only [mset]
  cases hq : keq kv k' with
  | true => simp [mget, hq]
  | false => simp [mget, hq, mget_mset h]
theorem keq_self {kv : IV} {t : TypeId} {ks : List TypeDesc} (hk : keyK P t = some ks) (h1 : keyOK P t ks kv = true) : keq kv kv = true := by
 obtain ⟨_, f1⟩ := key_shape h1 (keyK_len hk)
 obtain ⟨b, hb⟩ := kindsOK_ceqs f1 f1
 have hd : ∀ (k : List TypeDesc) (cs : List IV), kindsOK k cs = true → ceqs cs cs = some true := fun k => by
  induction k with
  | nil => intro cs h; cases cs with | nil => rfl | cons => simp [kindsOK] at h
  | cons d k ih =>
   intro cs h
   cases cs with
   | nil => cases d <;> simp [kindsOK] at h
   | cons c cs =>
    cases d <;> cases c <;> simp only [kindsOK, Bool.and_eq_true, reduceCtorEq, beq_iff_eq] at h
    ·simp [ceqs, ceq, ih _ h]
    ·simp [ceqs, ceq, ih _ h.2]
    ·simp [ceqs, ceq, ih _ h]; exact bytes_beq.2 rfl
 unfold keq
 rw [hd _ _ f1]
theorem mset_keys {t : TypeId} {ks : List TypeDesc} {kv v : IV} (h1 : keyOK P t ks kv = true) : ∀ {es : List (IV × IV)}, (∀ e ∈ es, keyOK P t ks e.1 = true) → ∀ e ∈ mset kv v es, keyOK P t ks e.1 = true
 | [], h, e, he => by simp [mset] at he; subst he; exact h1
 | (k', c) :: es, h, e, he => by
  simp only [mset] at he
  split at he
  ·rcases List.mem_cons.1 he with rfl | he
   ·exact h (k', c) (by simp)
   ·exact h e (by simp [he])
  ·rcases List.mem_cons.1 he with rfl | he
   ·exact h (k', c) (by simp)
   ·exact mset_keys h1 (fun x hx => h x (by simp [hx])) e he
theorem mapEntry_goes {t kt et : TypeId} {m k : Operand} {b : Nat} {kv z : IV} {ks : List TypeDesc} {es : List (IV × IV)} (hρ : ∀ x c, ρ x = some c → VR μ F w (ev x) c) (hH : HR μ F σ w) (ht : P.underlying t = some (.map kt et)) (hm : ρ m = some (.map b)) (hk : ρ k = some kv)
  (hks : keyK P kt = some ks) (hz : zeroI P et = some z) (hb : σ[b]? = some (.map es)) (hko : keyOK P kt ks kv = true) (hp : ∀ e ∈ es, keyOK P kt ks e.1 = true) :
  ∃ (v0 : Value) (st : Nat) (w1 : World), (Instr.mapEntry t (ev m) (ev k)).run P w = .ok (.tuple #[v0, goInt st]) w1 ∧ HR μ F (hput σ b (.map (mset kv ((mget kv es).getD z) es))) w1 ∧ Ext μ F w μ F w1 ∧
   ∀ (val : Value) (nv : IV), VR μ F w1 val nv → ∃ w2, (Instr.entryStore t (ev m) (goInt st) val).run P w1 = .ok () w2 ∧ HR μ F (hput σ b (.map (mset kv nv es))) w2 ∧ Ext μ F w1 μ F w2 := by
 have vk := hρ k _ hk
 obtain ⟨g, es', cl, hv, hu, hs, hpl, hg, he, hnd, hcl⟩ := map_obj hH hb (hρ m _ hm)
 have hlt := hH.lt b g 0 hu hpl
 have hbl : b < σ.length := (List.getElem?_eq_some_iff.1 hb).1
 obtain ⟨zv, z1, z2⟩ := zeroI_run (μ := μ) (F := F) (w := w) hz
 obtain ⟨r, hr, hc⟩ := find_run hks hko vk es'.toList es he hp
 rcases hc with ⟨m1, rfl, m0⟩ | ⟨j, v, c', m1, m2, rfl, m0, mv, e, m3, m5, m4⟩
 ·-- a new entry
  have hnd2 : ∀ vv, ((es'.push ⟨ev k, vv, cl⟩).toList.map (·.born)).Nodup := fun vv => by
   simp only [Array.toList_push, List.map_append, List.map_cons, List.map_nil]
   rw [List.nodup_append]
   refine ⟨hnd, by simp, fun a ha b hb e => ?_⟩
   simp only [List.mem_singleton] at hb
   rw [List.mem_map] at ha
   obtain ⟨x, hx, rfl⟩ := ha
   have := hcl x hx
   omega
  have hcl2 : ∀ vv, ∀ e ∈ (es'.push ⟨ev k, vv, cl⟩).toList, e.born < cl + 1 := fun vv e he => by
   simp only [Array.toList_push, List.mem_append, List.mem_singleton] at he
   rcases he with he | he
   ·have := hcl e he; omega
   ·subst he; simp
  obtain ⟨f1, f2⟩ := map_write (es := mset kv z es) (es2 := es'.push ⟨ev k, zv, cl⟩) (cl2 := cl + 1) hH hb hu hs hpl (by simpa using ents_push (b := cl) vk z2 es'.toList es 0 he m1) (hnd2 zv) (hcl2 zv)
  refine ⟨zv, cl, { w with heap := w.heap.setIfInBounds g (.map (es'.push ⟨ev k, zv, cl⟩) (cl + 1)) }, ?_, by rw [m0]; exact f1, f2, fun val nv hval => ?_⟩
  ·rw [hv]
   unfold Instr.mapEntry
   simp only [Sem.run_bind, run_underlying ht, Result.andThen_ok, getObj_run hg]
   rw [check_key (μ := μ) (F := F) _ hks hko vk]
   simp only [Result.andThen_ok, hr, Sem.run_bind, z1, setObj_run hg, Sem.run_pure]
  ·have hg1 : ({ w with heap := w.heap.setIfInBounds g (.map (es'.push ⟨ev k, zv, cl⟩) (cl + 1)) } : World).heap[g]? = some (.map (es'.push ⟨ev k, zv, cl⟩) (cl + 1)) := by simp [hlt]
   have he1 : EntsR μ F { w with heap := w.heap.setIfInBounds g (.map (es'.push ⟨ev k, zv, cl⟩) (cl + 1)) } es'.toList es := ⟨he.1, fun j e p e1 e2 => let ⟨v1, v2⟩ := he.2 j e p e1 e2; ⟨f2.vr v1, f2.vr v2⟩⟩
   obtain ⟨k1, k2⟩ := map_write (es := mset kv nv es) (es2 := es'.push ⟨ev k, val, cl⟩) (cl2 := cl + 1) f1 (by rw [getElem?_hput, if_pos rfl]) hu hs hpl (by simpa using ents_push (b := cl) (f2.vr vk) hval es'.toList es 0 he1 m1) (hnd2 val) (hcl2 val)
   rw [hput_hput hbl] at k1
   refine ⟨_, ?_, k1, k2⟩
   rw [hv]
   unfold Instr.entryStore
   have hidx : (es'.push ⟨ev k, zv, cl⟩).findIdx? (fun e => ((e.born : Nat) : Int) == ((cl : Nat) : Int)) = some es'.size := born_arr (hnd2 zv) (e0 := ({ key := ev k, val := zv, born := cl } : MapEntry)) (by simp)
   have hmod : ((es'.push ⟨ev k, zv, cl⟩).modify es'.size fun e => { e with val := val }) = es'.push ⟨ev k, val, cl⟩ := by
    apply Array.ext'
    simp only [Array.toList_modify, Array.toList_push]
    have : ∀ l : List MapEntry, (l ++ [({ key := ev k, val := zv, born := cl } : MapEntry)]).modify l.length (fun e => { e with val := val }) = l ++ [({ key := ev k, val := val, born := cl } : MapEntry)] := fun l => by
     induction l with
     | nil => rfl
     | cons a l ih => simp [ih]
    simpa using this es'.toList
   simp only [Sem.run_bind, Result.andThen_ok, getObj_run hg1, asInt_run, hidx, hmod]
   exact setObj_run hg1
 ·-- an entry that is there
  have hkey := key_same hks hko m4 vk
  have hold : es'[j]? = some e := by simpa using m3
  have hkk : ((es'[j]?).map (·.key)).getD (ev k) = e.key := by simp [hold]
  have hbb : ((es'[j]?).map (fun x => (x.born : Int))).getD 0 = (e.born : Int) := by simp [hold]
  have hmodV : ∀ vv, (es'.modify j fun y => { y with key := e.key, val := vv }).toList = es'.toList.modify j fun y => { y with key := e.key, val := vv } := fun vv => by simp
  have hb1 : ∀ vv, ((es'.modify j fun y => { y with key := e.key, val := vv }).toList.map (·.born)) = es'.toList.map (·.born) := fun vv => by rw [hmodV]; exact born_modify (fun y => { y with key := e.key, val := vv }) (fun _ => rfl) _ _
  have hc1 : ∀ vv, ∀ x ∈ (es'.modify j fun y => { y with key := e.key, val := vv }).toList, x.born < cl := fun vv x hx => by
   have : x.born ∈ (es'.modify j fun y => { y with key := e.key, val := vv }).toList.map (·.born) := List.mem_map.2 ⟨x, hx, rfl⟩
   rw [hb1] at this
   obtain ⟨y, hy, hyb⟩ := List.mem_map.1 this
   rw [← hyb]; exact hcl y hy
  have hsame : (es'.modify j fun y => { y with key := e.key }) = (es'.modify j fun y => { y with key := e.key, val := v }) := by
   apply Array.ext'
   simp only [Array.toList_modify]
   have : ∀ (l : List MapEntry) (j : Nat), l[j]? = some e → (l.modify j fun y => { y with key := e.key }) = l.modify j fun y => { y with key := e.key, val := v } := fun l => by
    induction l with
    | nil => intro j h; simp at h
    | cons a l ih =>
     intro j h
     cases j with
     | zero => simp at h; subst h; simp [m5]
     | succ j => simp only [List.modify_succ_cons]; rw [ih j (by simpa using h)]
   exact this _ _ m3
  obtain ⟨f1, f2⟩ := map_write (es := mset kv c' es) (es2 := es'.modify j fun y => { y with key := e.key, val := v }) (cl2 := cl) hH hb hu hs hpl (by rw [hmodV]; exact ents_modify mv es'.toList es 0 j e he (by simpa using m1) m3) (by rw [hb1]; exact hnd) (hc1 v)
  refine ⟨v, e.born, { w with heap := w.heap.setIfInBounds g (.map (es'.modify j fun y => { y with key := e.key, val := v }) cl) }, ?_, by rw [m0]; exact f1, f2, fun val nv hval => ?_⟩
  ·rw [hv]
   unfold Instr.mapEntry
   simp only [Sem.run_bind, run_underlying ht, Result.andThen_ok, getObj_run hg]
   rw [check_key (μ := μ) (F := F) _ hks hko vk]
   simp only [Result.andThen_ok, hr, Sem.run_bind, hkk, Instr.keyThatStays, hkey.2, if_true, Sem.run_pure]
   rw [← hkey.1, hsame, setObj_run hg]
   simp only [Result.andThen_ok, Sem.run_pure, hbb]
  ·have hg1 : ({ w with heap := w.heap.setIfInBounds g (.map (es'.modify j fun y => { y with key := e.key, val := v }) cl) } : World).heap[g]? = some (.map (es'.modify j fun y => { y with key := e.key, val := v }) cl) := by simp [hlt]
   have he1 : EntsR μ F { w with heap := w.heap.setIfInBounds g (.map (es'.modify j fun y => { y with key := e.key, val := v }) cl) } es'.toList es := ⟨he.1, fun j e p e1 e2 => let ⟨v1, v2⟩ := he.2 j e p e1 e2; ⟨f2.vr v1, f2.vr v2⟩⟩
   obtain ⟨k1, k2⟩ := map_write (es := mset kv nv es) (es2 := es'.modify j fun y => { y with key := e.key, val := val }) (cl2 := cl) f1 (by rw [getElem?_hput, if_pos rfl]) hu hs hpl (by rw [hmodV]; exact ents_modify hval es'.toList es 0 j e he1 (by simpa using m1) m3) (by rw [hb1]; exact hnd) (hc1 val)
   rw [hput_hput hbl] at k1
   refine ⟨_, ?_, k1, k2⟩
   rw [hv]
   unfold Instr.entryStore
   have hel : (es'.modify j fun y => { y with key := e.key, val := v })[j]? = some { e with key := e.key, val := v } := by simp [Array.getElem?_modify, hold]
   have hidx := born_arr (es := es'.modify j fun y => { y with key := e.key, val := v }) (by rw [hb1]; exact hnd) hel
   have hmod : ((es'.modify j fun y => { y with key := e.key, val := v }).modify j fun e => { e with val := val }) = es'.modify j fun y => { y with key := e.key, val := val } := by
    apply Array.ext'
    simp only [Array.toList_modify]
    have : ∀ (l : List MapEntry) (j : Nat), ((l.modify j fun y => { y with key := e.key, val := v }).modify j fun e => { e with val := val }) = l.modify j fun y => { y with key := e.key, val := val } := fun l => by
     induction l with
     | nil => intro j; simp
     | cons a l ih =>
      intro j
      cases j with
      | zero => simp
      | succ j => simp [ih]
    exact this _ _
   simp only [Sem.run_bind, Result.andThen_ok, getObj_run hg1, asInt_run]
   simp only at hidx
   rw [hidx]
   simp only [hmod]
   exact setObj_run hg1
end
end Go.Idl
namespace Go.Idl
open Go.RowKit
section
variable {P : Program} {Q : Exit → Act → World → Prop}
theorem wpAny_more {ro : Option Nat} {ops : Array Oper} : ∀ (fuel : Nat) (listed : Array Bool) (a : Act) (w : World), wpAnyIn (Rd ro) 0 P .any ops Q fuel listed a w → wpAnyIn (Rd ro) 0 P .any ops Q (fuel + 1) listed a w
 | 0, listed, a, w, h => ⟨fun _ => h.2, fun i hi => by rw [h.1] at hi; cases hi⟩
 | fuel + 1, listed, a, w, h => ⟨h.1, fun i hi => wpOpIn_mono (fun a w h => wpAny_more fuel _ a w h) (h.2 i hi)⟩
theorem wpAny_le {ro : Option Nat} {ops : Array Oper} {listed : Array Bool} {a : Act} {w : World} {f g : Nat} (h : wpAnyIn (Rd ro) 0 P .any ops Q f listed a w) (hfg : f ≤ g) : wpAnyIn (Rd ro) 0 P .any ops Q g listed a w := by
 obtain ⟨d, rfl⟩ := Nat.exists_eq_add_of_le hfg
 induction d with
 | zero => exact h
 | succ d ih => exact wpAny_more _ _ _ _ (ih (by omega))
def goOn (M : Act → World → Prop) (Q : Exit → Act → World → Prop) : Exit → Act → World → Prop
 | .normal, a, w => M a w
 | .exit i, a, w => Q (.exit i) a w
 | .goto i, a, w => Q (.goto i) a w
 | .ret, a, w => Q .ret a w
 | .panic c, a, w => Q (.panic c) a w
 | .outgrown, a, w => Q .outgrown a w
theorem wpIn_goOn {ro : Option Nat} {o : Oper} {a : Act} {w : World} {M K K' : Act → World → Prop} (h : ∀ a w, K a w → K' a w) (hh : o.wpIn (Rd ro) 0 P a w K (goOn M Q)) : o.wpIn (Rd ro) 0 P a w K' Q := by
 unfold Oper.wpIn at *
 refine ⟨hh.1, ?_⟩
 have hh := hh.2
 generalize (o.semAt (Rd ro).round a.eval).run P w = r at *
 cases r with
 | ok x w' =>
  cases x <;> simp only [Oper.uponIn] at hh ⊢ <;>
   first
    | exact h _ _ hh
    | exact ⟨hh.1, CallsIn.mono hh.2 (fun e w'' he => by cases e <;> first | exact h _ _ he | exact he)⟩
    | exact ⟨hh.1, RowsIn.mono hh.2 (fun _ _ he => h _ _ he)⟩
    | exact ⟨hh.1, RoundIn.mono hh.2 (fun e w'' he => by cases e <;> first | exact h _ _ he | exact he)⟩
 | halt x w' => cases x <;> simp only [Oper.uponIn] at hh ⊢ <;> exact hh
def gOK (n : Nat) (o : Oper) : Bool := match o.guard with | none => true | some (j, _) => Nat.blt j n
theorem wanted_take {ops : Array Oper} {n : Nat} {o : Oper} {tmps : Array Value} (hn : n ≤ ops.size) (hg : gOK n o = true) : Region.wanted o (yielded (ops.extract 0 n) tmps) = Region.wanted o (yielded ops tmps) := by
 unfold Region.wanted gOK at *
 split
 ·rfl
 ·rename_i j b hj
  rw [hj] at hg
  simp only [Nat.blt_eq] at hg
  unfold yielded
  have : (ops.extract 0 n)[j]? = ops[j]? := by simp [Array.getElem?_extract]; omega
  rw [this]
theorem wpAny_split {ro : Option Nat} {ops : Array Oper} {n f2 : Nat} (hn : n ≤ ops.size) (hg : ∀ j o, j < n → ops[j]? = some o → gOK n o = true ∧ ∀ e ∈ o.after, Region.binds .any e = true → e.on < j)
  (hord : ∀ j, n ≤ j → j < ops.size → ∀ i, i < n → Must ops.toList i j) :
  ∀ (fuel : Nat) (listed listed' : Array Bool) (a : Act) (w : World), listed.size = ops.size → listed'.size = n → (∀ i, i < n → listed'.getD i false = listed.getD i false) → (∀ i, n ≤ i → listed.getD i false = false) → Down ops.toList (fun i => listed.getD i false) →
   wpAnyIn (Rd ro) 0 P .any (ops.extract 0 n) (goOn (fun a w => wpAnyIn (Rd ro) 0 P .any ops Q f2 ((Array.replicate n true) ++ Array.replicate (ops.size - n) false) a w) Q) fuel listed' a w → wpAnyIn (Rd ro) 0 P .any ops Q (fuel + f2) listed a w := by
 have hget : ∀ i, i < n → (ops.extract 0 n)[i]? = ops[i]? := fun i hi => by simp [Array.getElem?_extract]; omega
 have full : ∀ (listed : Array Bool), listed.size = ops.size → (∀ i, i < n → listed.getD i false = true) → (∀ i, n ≤ i → listed.getD i false = false) → listed = Array.replicate n true ++ Array.replicate (ops.size - n) false := fun listed hsz h1 h2 => by
  apply Array.ext
  ·simp; omega
  ·intro i hi1 hi2
   by_cases e : i < n
   ·have := h1 i e
    rw [Array.getElem_append_left (by simpa using e)]
    simp only [Array.getElem_replicate]
    simpa [Array.getD_eq_getD_getElem?, hi1] using this
   ·have := h2 i (by omega)
    rw [Array.getElem_append_right (by simp; omega)]
    simp only [Array.getElem_replicate]
    simpa [Array.getD_eq_getD_getElem?, hi1] using this
 have allDone : ∀ (listed listed' : Array Bool), listed.size = ops.size → listed'.size = n → (∀ i, i < n → listed'.getD i false = listed.getD i false) → Region.ready .any (ops.extract 0 n) listed' = [] → ∀ i, i < n → listed.getD i false = true := fun listed listed' hsz hsz' hl hr i => by
  induction i using Nat.strongRecOn with
  | _ i ih =>
   intro hi
   cases hc : listed.getD i false with
   | true => rfl
   | false =>
    exfalso
    have : i ∈ Region.ready .any (ops.extract 0 n) listed' := mem_ready.2 ⟨by
     have := (hl i hi).trans hc
     simp only [Array.getD_eq_getD_getElem?] at this ⊢
     rw [Array.getElem?_eq_getElem (by omega)] at this ⊢; simpa using this, ops[i]'(by omega), by rw [hget i hi]; exact Array.getElem?_eq_getElem _, fun ed he hb => by
      have h1 := (hg i _ hi (Array.getElem?_eq_getElem (by omega))).2 ed he hb
      rw [hl _ (by omega)]
      exact ih _ h1 (by omega)⟩
    rw [hr] at this; cases this
 have later : ∀ (listed : Array Bool) (i : Nat), listed.size = ops.size → (∀ i, n ≤ i → listed.getD i false = false) → Down ops.toList (fun i => listed.getD i false) → i ∈ Region.ready .any ops listed → n ≤ i → ∀ k, k < n → listed.getD k false = true := fun listed i hsz hz hd hi hni k hk => by
  obtain ⟨hun, o, ho, haft⟩ := mem_ready.1 hi
  have hlt : i < ops.size := (Array.getElem?_eq_some_iff.1 ho).1
  have hm := hord i hni hlt k hk (fun j => if j = i then true else listed.getD j false) (fun j oj hj hL ed he hb => by
   simp only at hL ⊢
   split
   ·rfl
   ·by_cases e1 : j = i
    ·subst e1
     rw [Array.getElem?_toList, ho] at hj; cases hj
     exact haft ed he hb
    ·rw [if_neg e1] at hL
     exact hd j oj hj hL ed he hb) (by simp)
  simpa [show ¬ k = i by omega] using hm
 intro fuel
 induction fuel with
 | zero =>
  intro listed listed' a w hsz hsz' hl hz hd h
  have hall := allDone listed listed' hsz hsz' hl h.1
  have hQ := h.2
  rw [← full listed hsz hall hz] at hQ
  rw [Nat.zero_add]
  exact hQ
 | succ fuel ih =>
  intro listed listed' a w hsz hsz' hl hz hd h
  by_cases hr : Region.ready .any (ops.extract 0 n) listed' = []
  ·have hall := allDone listed listed' hsz hsz' hl hr
   have hQ := h.1 hr
   rw [← full listed hsz hall hz] at hQ
   exact wpAny_le hQ (by omega)
  ·rw [show fuel + 1 + f2 = (fuel + f2) + 1 by omega]
   refine ⟨fun hr2 => ?_, fun i hi => ?_⟩
   ·exfalso
    obtain ⟨i, hi⟩ := List.exists_mem_of_ne_nil _ hr
    obtain ⟨hun, o, ho, haft⟩ := mem_ready.1 hi
    have hin : i < n := by have := (Array.getElem?_eq_some_iff.1 ho).1; simp at this; omega
    have : i ∈ Region.ready .any ops listed := mem_ready.2 ⟨by
     have h1 : listed'.getD i false = false := by
      simp only [Array.getD_eq_getD_getElem?] at hun ⊢
      rw [Array.getElem?_eq_getElem (by omega)] at hun ⊢; simpa using hun
     have := (hl i hin).symm.trans h1
     simp only [Array.getD_eq_getD_getElem?] at this ⊢
     rw [Array.getElem?_eq_getElem (by omega)] at this ⊢; simpa using this, o, by rw [← hget i hin]; exact ho, fun ed he hb => by
      have h1 := (hg i o hin (by rw [← hget i hin]; exact ho)).2 ed he hb
      rw [← hl _ (by omega)]; exact haft ed he hb⟩
    rw [hr2] at this; cases this
   ·by_cases hin : i < n
    ·obtain ⟨hun, o, ho, haft⟩ := mem_ready.1 hi
     have hi' : i ∈ Region.ready .any (ops.extract 0 n) listed' := mem_ready.2 ⟨by
      have h1 : listed.getD i false = false := by
       simp only [Array.getD_eq_getD_getElem?] at hun ⊢
       rw [Array.getElem?_eq_getElem (by omega)] at hun ⊢; simpa using hun
      have := (hl i hin).trans h1
      simp only [Array.getD_eq_getD_getElem?] at this ⊢
      rw [Array.getElem?_eq_getElem (by omega)] at this ⊢; simpa using this, o, by rw [hget i hin]; exact ho, fun ed he hb => by
       have h1 := (hg i o hin ho).2 ed he hb
       rw [hl _ (by omega)]; exact haft ed he hb⟩
     have hw := h.2 i hi'
     unfold wpOpIn at hw ⊢
     rw [hget i hin, ho] at hw
     rw [ho]
     simp only at hw ⊢
     rw [wanted_take hn (hg i o hin ho).1] at hw
     have hset : ∀ (l : Array Bool) k, i < l.size → (l.setIfInBounds i true).getD k false = if k = i then true else l.getD k false := fun l k hlt => by
      simp only [Array.getD_eq_getD_getElem?]
      by_cases e1 : k = i
      ·subst e1; simp [Array.getElem?_setIfInBounds, hlt]
      ·rw [if_neg e1, Array.getElem?_setIfInBounds_ne (Ne.symm e1)]
     have next : ∀ a w, wpAnyIn (Rd ro) 0 P .any (ops.extract 0 n) (goOn (fun a w => wpAnyIn (Rd ro) 0 P .any ops Q f2 ((Array.replicate n true) ++ Array.replicate (ops.size - n) false) a w) Q) fuel (listed'.setIfInBounds i true) a w → wpAnyIn (Rd ro) 0 P .any ops Q (fuel + f2) (listed.setIfInBounds i true) a w := fun a w hh =>
      ih _ _ a w (by simpa using hsz) (by simpa using hsz') (fun k hk => by rw [hset _ _ (by omega), hset _ _ (by omega), hl k hk]) (fun k hk => by rw [hset _ _ (by omega), if_neg (by omega), hz k hk]) (fun j oj hj hL ed he hb => by
       simp only [hset _ _ (show i < listed.size by omega)] at hL ⊢
       split
       ·rfl
       ·by_cases e1 : j = i
        ·subst e1
         rw [Array.getElem?_toList, ho] at hj; cases hj
         exact haft ed he hb
        ·rw [if_neg e1] at hL
         exact hd j oj hj hL ed he hb) hh
     cases hwt : Region.wanted o (yielded ops a.tmps) with
     | true => rw [hwt] at hw; simp only [if_true] at hw ⊢; exact wpIn_goOn next hw
     | false => rw [hwt] at hw; simp only [Bool.false_eq_true, if_false] at hw ⊢; exact ⟨hw.1, next _ _ hw.2⟩
    ·exfalso
     have hall := later listed i hsz hz hd hi (by omega)
     apply hr
     rw [List.eq_nil_iff_forall_not_mem]
     intro k hk
     obtain ⟨hun, o, ho, _⟩ := mem_ready.1 hk
     have hkn : k < n := by have := (Array.getElem?_eq_some_iff.1 ho).1; simp at this; omega
     have := (hl k hkn).trans (hall k hkn)
     simp only [Array.getD_eq_getD_getElem?] at hun this
     rw [Array.getElem?_eq_getElem (by omega)] at hun this
     simp at hun this; rw [this] at hun; cases hun
end
end Go.Idl
namespace Go.Idl
open Go.RowKit
section
variable {P : Program} {μ : Mu} {F : Fz} {w : World} {σ : Heap} {a : Act}
theorem step_val {ro : Option Nat} {ops : Array Oper} {Q : Exit → Act → World → Prop} {K : Act → World → Prop} {i : Nat} {o : Oper} {v : Value} {w' : World} (ho : ops[i]? = some o) (hg : o.guard = none) (hd : ∀ c, o.op ≠ .defer c)
  (hrun : (execOp a.eval o).run P w = .ok (.value v) w') (hK : K (a.put o.dst v) w') : wpOpIn (Rd ro) 0 P ops Q i K a w := by
 unfold wpOpIn
 rw [ho]
 simp only
 have hw : Region.wanted o (yielded ops a.tmps) = true := by unfold Region.wanted; rw [hg]
 rw [hw]
 simp only [if_true]
 refine ⟨fun _ _ => trivial, ?_⟩
 rw [Oper.semAt_eq _ _ _ hd, hrun]
 exact hK
theorem step_skip {ro : Option Nat} {ops : Array Oper} {Q : Exit → Act → World → Prop} {K : Act → World → Prop} {i : Nat} {o : Oper} {w' : World} (ho : ops[i]? = some o) (hg : o.guard = none) (hd : ∀ c, o.op ≠ .defer c)
  (hrun : (execOp a.eval o).run P w = .ok .skip w') (hK : K (a.put o.dst undef) w') : wpOpIn (Rd ro) 0 P ops Q i K a w := by
 unfold wpOpIn
 rw [ho]
 simp only
 have hw : Region.wanted o (yielded ops a.tmps) = true := by unfold Region.wanted; rw [hg]
 rw [hw]
 simp only [if_true]
 refine ⟨fun _ _ => trivial, ?_⟩
 rw [Oper.semAt_eq _ _ _ hd, hrun]
 exact hK
theorem EnvR.skipPut {E : Env} {t : Nat} {v : Value} (h : EnvR μ F w a.tmps E) (hn : E.get t = none) : EnvR μ F w (a.put (some t) v).tmps E :=
 ⟨by simp [Act.put, h.size], fun q c hq => by
  obtain ⟨u, u1, u2⟩ := h.slot q c hq
  have : t ≠ q := fun e => by subst e; rw [hn] at hq; cases hq
  exact ⟨u, by simp [Act.put, Array.getElem?_setIfInBounds_ne this, u1], u2⟩, h.glob⟩
theorem put_at {E : Env} {t : Nat} {v : Value} (h : EnvR μ F w a.tmps E) (ht : t < E.n) : (a.put (some t) v).tmps[t]? = some v := by
 have := h.size
 simp [Act.put, show t < a.tmps.size by omega]
theorem put_other {t q : Nat} {v : Value} (h : t ≠ q) : (a.put (some t) v).tmps[q]? = a.tmps[q]? := by
 simp [Act.put, Array.getElem?_setIfInBounds_ne h]
theorem put_defers {d : Option Tmp} {v : Value} : (a.put d v).defers = a.defers := by cases d <;> rfl
theorem eval_tmp {t : Nat} {v : Value} (h : a.tmps[t]? = some v) : a.eval (.tmp t) = v := by
 simp [Act.eval, h]
def lstT (n : Nat) (bs : List Bool) : Array Bool := Array.replicate n true ++ bs.toArray
def rdy (ops : Array Oper) (n : Nat) (bs : List Bool) : List Nat := Region.ready .any ops (lstT n bs)
def rdyOK (ops : Array Oper) (n : Nat) : Bool :=
 rdy ops n [false, false, false, false, false] == [n, n + 2] && rdy ops n [true, false, false, false, false] == [n + 1, n + 2] && rdy ops n [true, true, false, false, false] == [n + 2] &&
 rdy ops n [false, false, true, false, false] == [n, n + 3] && rdy ops n [true, false, true, false, false] == [n + 1, n + 3] && rdy ops n [true, true, true, false, false] == [n + 3] &&
 rdy ops n [false, false, true, true, false] == [n] && rdy ops n [true, false, true, true, false] == [n + 1] && rdy ops n [true, true, true, true, false] == [n + 4] && rdy ops n [true, true, true, true, true] == []
theorem lstT_set {n i : Nat} {bs : List Bool} : (lstT n bs).setIfInBounds (n + i) true = lstT n (bs.set i true) := by
 apply Array.ext'
 simp [lstT, List.set_append]
def incrQ (P : Program) (mt : TypeId) (m k : Operand) (op : BinOp) (bt : TypeId) (y : Operand) (fresh : List Nat) (e : Env) (σ : Heap) (K : Heap → Prop) : Prop :=
 match P.underlying mt, e.opS m, e.opS k, e.opS y with
 | some (.map kt et), some (.map b), some kv, some yv => match keyK P kt, zeroI P et, σ[b]? with
  | some ks, some z, some (.map es) => (keyOK P kt ks kv = true ∧ (∀ e ∈ es, keyOK P kt ks e.1 = true) ∧ (e.wh m = true ∧ e.wh k = true ∧ e.wh y = true) ∧ ∀ t ∈ fresh, e.get t = none ∧ t < e.n) ∧
   match bin P op bt ((mget kv es).getD z) yv with
   | some r => r.pre ∧ K (hput σ b (.map (mset kv r.v es)))
   | none => False
  | _, _, _ => False
 | _, _, _, _ => False
def rho (E : Env) (x : Operand) : Option IV := if E.wh x = true then E.opS x else none
theorem rho_vr {E : Env} (hE : EnvR μ F w a.tmps E) : ∀ x c, rho E x = some c → VR μ F w (a.eval x) c := fun x c h => by
 unfold rho at h
 split at h
 ·rename_i hw; exact opS_vr hE h hw
 ·cases h
theorem rho_put {E : Env} {t : Nat} {v : IV} {x : Operand} {c : IV} (hn : E.get t = none) (h : rho E x = some c) : rho (E.put t v) x = some c := by
 have key : (E.put t v).opnd x = E.opnd x ∨ E.opnd x = none := by
  cases x with
  | tmp q =>
   show (E.put t v).get q = E.get q ∨ E.get q = none
   by_cases e : t = q
   ·subst e; exact .inr hn
   ·left; rw [Env.get_put_eq, if_neg (by simp [e])]
  | global g => left; simp [Env.opnd]
  | const u => exact .inl rfl
  | func f => exact .inl rfl
 rcases key with key | key
 ·unfold rho Env.opS Env.wh at h ⊢; rw [key]; exact h
 ·unfold rho Env.opS at h; rw [key] at h; simp at h
theorem tail5 {ro : Option Nat} {ops : Array Oper} {Q : Exit → Act → World → Prop} {n : Nat} {mt : TypeId} {m k y : Operand} {op : BinOp} {bt yt : TypeId} {tl tb te tx : Nat} {y1 y2 y3 y4 y5 : TypeId} {p1 p2 p3 p4 p5 : String} {f1 f2 f3 f4 f5 : Array Edge}
  (hL : ops[n]? = some ⟨some tl, .lookup mt m k false, y1, p1, f1, none⟩) (hB : ops[n + 1]? = some ⟨some tb, .binOp op bt (.tmp tl) y yt, y2, p2, f2, none⟩) (hEn : ops[n + 2]? = some ⟨some te, .mapEntry mt m k, y3, p3, f3, none⟩)
  (hX : ops[n + 3]? = some ⟨some tx, .extract (.tmp te) 1, y4, p4, f4, none⟩) (hS : ops[n + 4]? = some ⟨none, .entryStore mt m (.tmp tx) (.tmp tb), y5, p5, f5, none⟩) (hr : rdyOK ops n = true) (hdist : [tl, tb, te, tx].Nodup)
  {e : Env} {K : Heap → Prop} (hE : EnvR μ F w a.tmps e) (hH : HR μ F σ w) (h : incrQ P mt m k op bt y [tl, tb, te, tx] e σ K)
  (hQ : ∀ F' a' w' σ', K σ' → EnvR μ F' w' a'.tmps e → HR μ F' σ' w' → Ext μ F w μ F' w' → a'.defers = a.defers → Q .normal a' w') :
  wpAnyIn (Rd ro) 0 P .any ops Q 5 (lstT n [false, false, false, false, false]) a w := by
 unfold incrQ at h
 split at h
 case h_2 => exact h.elim
 rename_i kt et b kv yv hmt hm hk hy
 split at h
 case h_2 => exact h.elim
 rename_i ks z es hks hz hb
 obtain ⟨⟨hko, hp, ⟨wm, wk, wy⟩, hfr⟩, h⟩ := h
 split at h
 case h_2 => exact h.elim
 rename_i r hbin
 obtain ⟨hpre, hKf⟩ := h
 simp only [List.nodup_cons, List.mem_cons, List.not_mem_nil, or_false, not_or, not_false_eq_true, and_true, List.nodup_nil] at hdist
 obtain ⟨⟨d1, d2, d3⟩, ⟨d4, d5⟩, d6⟩ := hdist
 have gl := hfr tl (by simp)
 have gb := hfr tb (by simp)
 have ge := hfr te (by simp)
 have gx := hfr tx (by simp)
 obtain ⟨old, hold⟩ : ∃ old, (mget kv es).getD z = old := ⟨_, rfl⟩
 rw [hold] at hbin
 have rm : rho e m = some (.map b) := by unfold rho; rw [if_pos wm, hm]
 have rk : rho e k = some kv := by unfold rho; rw [if_pos wk, hk]
 have ry : rho e y = some yv := by unfold rho; rw [if_pos wy, hy]
 simp only [rdyOK, Bool.and_eq_true, beq_iff_eq, rdy] at hr
 obtain ⟨⟨⟨⟨⟨⟨⟨⟨⟨r1, r2⟩, r3⟩, r4⟩, r5⟩, r6⟩, r7⟩, r8⟩, r9⟩, r10⟩ := hr
 have hbl : b < σ.length := (List.getElem?_eq_some_iff.1 hb).1
 have hself := keq_self hks hko
 obtain ⟨v0, st, w1, hrunE, hH1, hX1, hst⟩ := mapEntry_goes (ev := a.eval) (rho_vr hE) hH hmt rm rk hks hz hb hko hp
 rw [hold] at hH1
 obtain ⟨σ1, hσ1⟩ : ∃ σ1, hput σ b (.map (mset kv old es)) = σ1 := ⟨_, rfl⟩
 rw [hσ1] at hH1
 have hb1 : σ1[b]? = some (.map (mset kv old es)) := by rw [← hσ1, getElem?_hput, if_pos rfl]
 obtain ⟨eL, heL⟩ : ∃ eL, e.put tl old = eL := ⟨_, rfl⟩
 obtain ⟨eB, heB⟩ : ∃ eB, eL.put tb r.v = eB := ⟨_, rfl⟩
 have hnL : eL.n = e.n := by rw [← heL]; simp
 have hnB : eB.n = e.n := by rw [← heB]; simp [hnL]
 have getL : ∀ q, q ≠ tl → eL.get q = e.get q := fun q hq => by rw [← heL, Env.get_put_eq, if_neg (by intro h; exact hq h.1.symm)]
 have getLl : eL.get tl = some old := by rw [← heL, Env.get_put_eq, if_pos ⟨rfl, gl.2⟩]
 have getB : ∀ q, q ≠ tb → eB.get q = eL.get q := fun q hq => by rw [← heB, Env.get_put_eq, if_neg (by intro h; exact hq h.1.symm)]
 have getBb : eB.get tb = some r.v := by rw [← heB, Env.get_put_eq, if_pos ⟨rfl, by rw [hnL]; exact gb.2⟩]
 have rmL : rho eL m = some (.map b) := by rw [← heL]; exact rho_put gl.1 rm
 have rkL : rho eL k = some kv := by rw [← heL]; exact rho_put gl.1 rk
 have ryL : rho eL y = some yv := by rw [← heL]; exact rho_put gl.1 ry
 have gbL : eL.get tb = none := by rw [getL _ (Ne.symm d1)]; exact gb.1
 have rmB : rho eB m = some (.map b) := by rw [← heB]; exact rho_put gbL rmL
 have fin : ∀ {F' : Fz} {w' : World} {t : Array Value}, EnvR μ F' w' t eB → EnvR μ F' w' t e := fun {F' w' t} h => ⟨by rw [h.size, hnB], fun q c hq => by
  have q1 : q ≠ tl := fun e1 => by subst e1; rw [gl.1] at hq; cases hq
  have q2 : q ≠ tb := fun e1 => by subst e1; rw [gb.1] at hq; cases hq
  exact h.slot q c (by rw [getB q q2, getL q q1]; exact hq), fun g c hg => h.glob g c (by rw [← heB, Env.put_gl, ← heL, Env.put_gl]; exact hg)⟩
 have stepL : ∀ (a' : Act) (w' : World) (σ' : Heap) (E : Env) (ees : List (IV × IV)), EnvR μ F w' a'.tmps E → HR μ F σ' w' → rho E m = some (.map b) → rho E k = some kv → σ'[b]? = some (.map ees) → (∀ e ∈ ees, keyOK P kt ks e.1 = true) → (mget kv ees).getD z = old →
   ∃ v, (execOp a'.eval ⟨some tl, .lookup mt m k false, y1, p1, f1, none⟩).run P w' = .ok (.value v) w' ∧ VR μ F w' v old := fun a' w' σ' E ees hE' hH' r1 r2 hb' hp' ho => by
  have hi : iop P false (.lookup mt m k false) (rho E) σ' 0 = some ⟨∀ e ∈ ees, keyOK P kt ks e.1 = true, found false z (mget kv ees), none⟩ := by
   simp only [iop, hmt, r1, r2, hks, hz, mapOf, hb', hko, cond_true]
  obtain ⟨v, v1, v2, _⟩ := lookup_goes (ev := a'.eval) (rho_vr hE') hH' hi hp'
  refine ⟨v, by simp [execOp, v1], ?_⟩
  have : found false z (mget kv ees) = old := ho
  rw [this] at v2; exact v2
 have stepB : ∀ (a' : Act) (w' : World), EnvR μ F w' a'.tmps eL → ∃ v, (execOp a'.eval ⟨some tb, .binOp op bt (.tmp tl) y yt, y2, p2, f2, none⟩).run P w' = .ok (.value v) w' ∧ VR μ F w' v r.v := fun a' w' hE' => by
  obtain ⟨u, u1, u2⟩ := hE'.slot tl old getLl
  have hyv := rho_vr hE' y yv ryL
  obtain ⟨v, v1, v2, _⟩ := bin_run (x := .tmp tl) (y := y) (u := a'.eval (.tmp tl)) (v := a'.eval y) (by rw [eval_tmp u1]; exact u2) hyv hbin hpre
  exact ⟨v, by
   have : (execOp a'.eval ⟨some tb, .binOp op bt (.tmp tl) y yt, y2, p2, f2, none⟩) = (do pure (Next.value (← (do eqGuard op bt (.tmp tl) y (a'.eval (.tmp tl)) (a'.eval y); binOp op bt (a'.eval (.tmp tl)) (a'.eval y) : Sem Value))) : Sem Next) := rfl
   rw [this, Sem.run_bind, v1]; rfl, v2⟩
 have evm : ∀ (a' : Act) (w' : World) (E : Env), EnvR μ F w' a'.tmps E → rho E m = some (.map b) → a'.eval m = a.eval m := fun a' w' E hE' r1 => by
  have v1 := rho_vr hE' m _ r1
  have v2 := rho_vr hE m _ rm
  obtain ⟨g, es', cl, hv, hu, hs, hpl, hg, _⟩ := map_obj hH hb v2
  generalize a'.eval m = vm at v1 ⊢
  cases v1 with
  | map _ _ hk1 hb1 h1 hl1 => rw [hpl] at h1; rw [h1, hv]
 have evk : ∀ (a' : Act), EnvR μ F w a'.tmps e ∨ EnvR μ F w a'.tmps eL ∨ EnvR μ F w a'.tmps eB → rho eB k = some kv → a'.eval k = a.eval k := fun a' hE' r1 => by
  have v2 := rho_vr hE k _ rk
  rcases hE' with hE' | hE' | hE'
  ·exact (key_same hks hko (rho_vr hE' k _ rk) v2).1
  ·exact (key_same hks hko (rho_vr hE' k _ rkL) v2).1
  ·exact (key_same hks hko (rho_vr hE' k _ r1) v2).1
 have rkB : rho eB k = some kv := by rw [← heB]; exact rho_put gbL rkL
 have hE1 : ∀ {t : Array Value} {E : Env}, EnvR μ F w t E → EnvR μ F w1 t E := fun h => hX1.env h
 let T0 : Value := .tuple #[v0, goInt st]
 have stepE : ∀ (a' : Act), EnvR μ F w a'.tmps e ∨ EnvR μ F w a'.tmps eL ∨ EnvR μ F w a'.tmps eB → (execOp a'.eval ⟨some te, .mapEntry mt m k, y3, p3, f3, none⟩).run P w = .ok (.value T0) w1 := fun a' hE' => by
  have h1 : a'.eval m = a.eval m := by
   rcases hE' with hE' | hE' | hE'
   ·exact evm a' w e hE' rm
   ·exact evm a' w eL hE' rmL
   ·exact evm a' w eB hE' rmB
  have h2 := evk a' hE' rkB
  simp [execOp, h1, h2, hrunE, T0]
 have stepX : ∀ (a' : Act) (w' : World), a'.tmps[te]? = some T0 → (execOp a'.eval ⟨some tx, .extract (.tmp te) 1, y4, p4, f4, none⟩).run P w' = .ok (.value (goInt st)) w' := fun a' w' hte => by
  simp [execOp, eval_tmp hte, Instr.extract, T0]
 have s10 : ∀ (a' : Act) (w' : World), (∃ σ', K σ' ∧ EnvR μ F w' a'.tmps e ∧ HR μ F σ' w' ∧ Ext μ F w μ F w' ∧ a'.defers = a.defers) → wpAnyIn (Rd ro) 0 P .any ops Q 0 (lstT n [true, true, true, true, true]) a' w' := fun a' w' ⟨σ', k1, k2, k3, k4, k5⟩ => ⟨r10, hQ F a' w' σ' k1 k2 k3 k4 k5⟩
 have s9 : ∀ (a' : Act), EnvR μ F w1 a'.tmps eB → a'.tmps[tx]? = some (goInt st) → a'.defers = a.defers → wpAnyIn (Rd ro) 0 P .any ops Q 1 (lstT n [true, true, true, true, false]) a' w1 := fun a' h1 h2 h3 => by
  refine ⟨fun hh => (by rw [r9] at hh; cases hh), fun i hi => ?_⟩
  rw [r9, List.mem_singleton] at hi
  subst hi
  obtain ⟨u, u1, u2⟩ := h1.slot tb r.v getBb
  obtain ⟨w2, g1, g2, g3⟩ := hst u r.v u2
  refine step_skip (w' := w2) hS rfl (by simp) (by simp [execOp, evm a' w1 eB h1 rmB, eval_tmp h2, eval_tmp u1, g1]) ?_
  rw [lstT_set]
  exact s10 _ _ ⟨_, hKf, fin (g3.env h1), g2, hX1.trans g3, h3⟩
 have s6 : ∀ (a' : Act), EnvR μ F w1 a'.tmps eB → a'.tmps[te]? = some T0 → a'.defers = a.defers → wpAnyIn (Rd ro) 0 P .any ops Q 2 (lstT n [true, true, true, false, false]) a' w1 := fun a' h1 h2 h3 => by
  refine ⟨fun hh => (by rw [r6] at hh; cases hh), fun i hi => ?_⟩
  rw [r6, List.mem_singleton] at hi
  subst hi
  refine step_val hX rfl (by simp) (stepX a' w1 h2) ?_
  rw [lstT_set]
  have hne : eB.get tx = none := by rw [getB _ (Ne.symm d5), getL _ (Ne.symm d3)]; exact gx.1
  exact s9 _ (h1.skipPut hne) (put_at h1 (by rw [hnB]; exact gx.2)) (put_defers.trans h3)
 have s8 : ∀ (a' : Act), EnvR μ F w1 a'.tmps eL → a'.tmps[tx]? = some (goInt st) → a'.defers = a.defers → wpAnyIn (Rd ro) 0 P .any ops Q 2 (lstT n [true, false, true, true, false]) a' w1 := fun a' h1 h2 h3 => by
  refine ⟨fun hh => (by rw [r8] at hh; cases hh), fun i hi => ?_⟩
  rw [r8, List.mem_singleton] at hi
  subst hi
  obtain ⟨v, v1, v2⟩ := stepB a' w1 h1
  refine step_val hB rfl (by simp) v1 ?_
  rw [lstT_set]
  exact s9 _ (by rw [← heB]; exact h1.putO (some tb) v2) (by rw [put_other d5]; exact h2) (put_defers.trans h3)
 have s7 : ∀ (a' : Act), EnvR μ F w1 a'.tmps e → a'.tmps[tx]? = some (goInt st) → a'.defers = a.defers → wpAnyIn (Rd ro) 0 P .any ops Q 3 (lstT n [false, false, true, true, false]) a' w1 := fun a' h1 h2 h3 => by
  refine ⟨fun hh => (by rw [r7] at hh; cases hh), fun i hi => ?_⟩
  rw [r7, List.mem_singleton] at hi
  subst hi
  obtain ⟨v, v1, v2⟩ := stepL a' w1 σ1 e _ h1 hH1 rm rk hb1 (mset_keys hko hp) (by rw [mget_mset hself]; rfl)
  refine step_val hL rfl (by simp) v1 ?_
  have := lstT_set (n := i) (i := 0) (bs := [false, false, true, true, false])
  rw [Nat.add_zero] at this
  rw [this]
  exact s8 _ (by rw [← heL]; exact h1.putO (some tl) v2) (by rw [put_other d3]; exact h2) (put_defers.trans h3)
 have s5 : ∀ (a' : Act), EnvR μ F w1 a'.tmps eL → a'.tmps[te]? = some T0 → a'.defers = a.defers → wpAnyIn (Rd ro) 0 P .any ops Q 3 (lstT n [true, false, true, false, false]) a' w1 := fun a' h1 h2 h3 => by
  refine ⟨fun hh => (by rw [r5] at hh; cases hh), fun i hi => ?_⟩
  rw [r5] at hi
  simp only [List.mem_cons, List.not_mem_nil, or_false] at hi
  rcases hi with rfl | rfl
  ·obtain ⟨v, v1, v2⟩ := stepB a' w1 h1
   refine step_val hB rfl (by simp) v1 ?_
   rw [lstT_set]
   exact s6 _ (by rw [← heB]; exact h1.putO (some tb) v2) (by rw [put_other d4]; exact h2) (put_defers.trans h3)
  ·refine step_val hX rfl (by simp) (stepX a' w1 h2) ?_
   rw [lstT_set]
   have hne : eL.get tx = none := by rw [getL _ (Ne.symm d3)]; exact gx.1
   exact s8 _ (h1.skipPut hne) (put_at h1 (by rw [hnL]; exact gx.2)) (put_defers.trans h3)
 have s4 : ∀ (a' : Act), EnvR μ F w1 a'.tmps e → a'.tmps[te]? = some T0 → a'.defers = a.defers → wpAnyIn (Rd ro) 0 P .any ops Q 4 (lstT n [false, false, true, false, false]) a' w1 := fun a' h1 h2 h3 => by
  refine ⟨fun hh => (by rw [r4] at hh; cases hh), fun i hi => ?_⟩
  rw [r4] at hi
  simp only [List.mem_cons, List.not_mem_nil, or_false] at hi
  rcases hi with rfl | rfl
  ·obtain ⟨v, v1, v2⟩ := stepL a' w1 σ1 e _ h1 hH1 rm rk hb1 (mset_keys hko hp) (by rw [mget_mset hself]; rfl)
   refine step_val hL rfl (by simp) v1 ?_
   have := lstT_set (n := i) (i := 0) (bs := [false, false, true, false, false])
   rw [Nat.add_zero] at this
   rw [this]
   exact s5 _ (by rw [← heL]; exact h1.putO (some tl) v2) (by rw [put_other d2]; exact h2) (put_defers.trans h3)
  ·refine step_val hX rfl (by simp) (stepX a' w1 h2) ?_
   rw [lstT_set]
   exact s7 _ (h1.skipPut gx.1) (put_at h1 gx.2) (put_defers.trans h3)
 have s3 : ∀ (a' : Act), EnvR μ F w a'.tmps eB → a'.defers = a.defers → wpAnyIn (Rd ro) 0 P .any ops Q 3 (lstT n [true, true, false, false, false]) a' w := fun a' h1 h3 => by
  refine ⟨fun hh => (by rw [r3] at hh; cases hh), fun i hi => ?_⟩
  rw [r3, List.mem_singleton] at hi
  subst hi
  refine step_val hEn rfl (by simp) (stepE a' (.inr (.inr h1))) ?_
  rw [lstT_set]
  have hne : eB.get te = none := by rw [getB _ (Ne.symm d4), getL _ (Ne.symm d2)]; exact ge.1
  exact s6 _ (hE1 (h1.skipPut hne)) (put_at h1 (by rw [hnB]; exact ge.2)) (put_defers.trans h3)
 have s2 : ∀ (a' : Act), EnvR μ F w a'.tmps eL → a'.defers = a.defers → wpAnyIn (Rd ro) 0 P .any ops Q 4 (lstT n [true, false, false, false, false]) a' w := fun a' h1 h3 => by
  refine ⟨fun hh => (by rw [r2] at hh; cases hh), fun i hi => ?_⟩
  rw [r2] at hi
  simp only [List.mem_cons, List.not_mem_nil, or_false] at hi
  rcases hi with rfl | rfl
  ·obtain ⟨v, v1, v2⟩ := stepB a' w h1
   refine step_val hB rfl (by simp) v1 ?_
   rw [lstT_set]
   exact s3 _ (by rw [← heB]; exact h1.putO (some tb) v2) (put_defers.trans h3)
  ·refine step_val hEn rfl (by simp) (stepE a' (.inr (.inl h1))) ?_
   rw [lstT_set]
   have hne : eL.get te = none := by rw [getL _ (Ne.symm d2)]; exact ge.1
   exact s5 _ (hE1 (h1.skipPut hne)) (put_at h1 (by rw [hnL]; exact ge.2)) (put_defers.trans h3)
 refine ⟨fun hh => (by rw [r1] at hh; cases hh), fun i hi => ?_⟩
 rw [r1] at hi
 simp only [List.mem_cons, List.not_mem_nil, or_false] at hi
 rcases hi with rfl | rfl
 ·obtain ⟨v, v1, v2⟩ := stepL a w σ e es hE hH rm rk hb hp hold
  refine step_val hL rfl (by simp) v1 ?_
  have := lstT_set (n := i) (i := 0) (bs := [false, false, false, false, false])
  rw [Nat.add_zero] at this
  rw [this]
  exact s2 _ (by rw [← heL]; exact hE.putO (some tl) v2) put_defers
 ·refine step_val hEn rfl (by simp) (stepE a (.inl hE)) ?_
  rw [lstT_set]
  exact s4 _ (hE1 (hE.skipPut ge.1)) (put_at hE ge.2) put_defers
theorem VR.drew {v : Value} {c : IV} (hv : VR μ F w v c) : VR μ F { w with drawn := w.drawn + 1 } v c := VR.mono (μ := μ) (μ' := μ) (F := F) (F' := F) (w := w) (w' := { w with drawn := w.drawn + 1 }) (Mu.le_refl _) (fun _ h => h) (fun _ _ => rfl) hv
theorem HR.drew (hH : HR μ F σ w) : HR μ F σ { w with drawn := w.drawn + 1 } := by
 refine ⟨hH.n, fun b o ho => ?_, hH.inj, hH.fro, hH.lt, hH.flt, hH.yin, hH.itd⟩
 have := hH.obj b o ho
 cases o with
 | rows s rs =>
  obtain ⟨h1, h2, h3, h4, h5, h6⟩ := this
  refine ⟨h1, h2, h3, h4, h5, h6.imp (fun h => h) ?_⟩
  rintro ⟨g, off, cs, T, q1, q2, q3, q4, q5⟩
  exact ⟨g, off, cs, T, q1, q2, q3, q4, fun i row j c r1 r2 => let ⟨v, v1, v2⟩ := q5 i row j c r1 r2; ⟨v, v1, v2.drew⟩⟩
 | map es =>
  obtain ⟨h1, h2, g, es', cl, q1, q2, q3, q4⟩ := this
  exact ⟨h1, h2, g, es', cl, q1, q2, ⟨q3.1, fun j e p r1 r2 => let ⟨v1, v2⟩ := q3.2 j e p r1 r2; ⟨v1.drew, v2.drew⟩⟩, q4⟩
 | iter b' es cur todo =>
  obtain ⟨h1, h2, g, h3, h4⟩ := this
  exact ⟨h1, h2, g, h3, h4.mono (fun h => h.drew) (fun _ h => h) (fun _ _ => rfl) rfl fun b'' _ hu => ⟨hu, rfl, rfl, fun _ _ _ => rfl⟩⟩
 | yrec l r e => exact ⟨this.1, this.2.1, this.2.2.1, this.2.2.2.1, ⟨this.2.2.2.2.size, fun t c hc => let ⟨v, v1, v2⟩ := this.2.2.2.2.slot t c hc; ⟨v, v1, v2.drew⟩, fun g c hc => (this.2.2.2.2.glob g c hc).drew⟩⟩
 | dead => trivial
 | hole => trivial
def preOK (ops : List Oper) (n : Nat) : Bool :=
 (ops.take n).zipIdx.all (fun p => gOK n p.1 && p.1.after.all fun e => !Region.binds .any e || Nat.blt e.on p.2) &&
 (List.range (ops.length - n)).all fun d => (List.range n).all fun i => mustM (mskT ops []) i (n + d)
def keepOK (m : Nat) (ex keep : List Nat) (nm : List (Nat × IV)) : Bool := keep.all fun q => !isNamed m ex q && (eget nm q).isNone
def Env.setEx (ex : List Nat) (e : Env) : Env := ⟨e.x, e.n, e.m, ex, e.gl, e.nm, []⟩
@[go_sem] theorem setEx_lit {x : Bool} {N m : Nat} {ex ex' : List Nat} {gl nm tm : List (Nat × IV)} : Env.setEx ex ⟨x, N, m, ex', gl, nm, tm⟩ = ⟨x, N, m, ex, gl, nm, []⟩ := _root_.id rfl
theorem Drawn.incr {ops : List Oper} {Q : XPost} {x : Bool} {N' m' : Nat} {ex : List Nat} {gl nm : List (Nat × IV)} (n : Nat) (keep : List Nat) {mt : TypeId} {m k y : Operand} {op : BinOp} {bt yt : TypeId} {tl tb te tx : Nat} {y1 y2 y3 y4 y5 : TypeId} {p1 p2 p3 p4 p5 : String} {f1 f2 f3 f4 f5 : Array Edge}
  (hL : ops[n]? = some ⟨some tl, .lookup mt m k false, y1, p1, f1, none⟩) (hB : ops[n + 1]? = some ⟨some tb, .binOp op bt (.tmp tl) y yt, y2, p2, f2, none⟩) (hEn : ops[n + 2]? = some ⟨some te, .mapEntry mt m k, y3, p3, f3, none⟩)
  (hX : ops[n + 3]? = some ⟨some tx, .extract (.tmp te) 1, y4, p4, f4, none⟩) (hS : ops[n + 4]? = some ⟨none, .entryStore mt m (.tmp tx) (.tmp tb), y5, p5, f5, none⟩)
  (hchk : (Nat.beq ops.length (n + 5) && preOK ops n && rdyOK ops.toArray n && P.follows .mixedOrders && decide ([tl, tb, te, tx].Nodup)) = true) (hkeep : keepOK m' ex keep nm = true)
  (h : yRun P (fun _ => .tup []) (ops.take n) σ.length 0 (ops.take n) [] [] ⟨x, N', m', keep ++ ex, gl, nm, []⟩ σ fun e1 σ1 => incrQ P mt m k op bt y [tl, tb, te, tx] e1 σ1 fun σ2 => Q .normal (e1.setEx ex) σ2) : Drawn P ops Q ⟨x, N', m', ex, gl, nm, []⟩ σ := fun id ro μ F a w hR hE hH => by
 simp only [Bool.and_eq_true, decide_eq_true_eq] at hchk
 obtain ⟨⟨⟨⟨hlen, hpre⟩, hrdy⟩, hmix⟩, hnd⟩ := hchk
 have hlen : ops.length = n + 5 := by simpa using Nat.eq_of_beq_eq_true hlen
 have ht := yRun_sound _ _ _ _ _ _ _ h
 obtain ⟨pf, q1, _, q3, q4⟩ := tRun_facts (P := P) (orc := fun _ => .tup []) (ops := ops.take n) (nb := σ.length) (e := ⟨x, N', m', keep ++ ex, gl, nm, []⟩) (h := σ) (ops.take n) 0 [] [] (fun j => by simp) (fun i oi hi => by omega) ht
 simp only [drawOK, Bool.and_eq_true] at q1
 simp only [keepOK, List.all_eq_true, Bool.and_eq_true, Bool.not_eq_true', Option.isNone_iff_eq_none] at hkeep
 have hE2 : EnvR μ F w a.tmps ⟨x, N', m', keep ++ ex, gl, nm, []⟩ := ⟨hE.size, fun q c hq => by
  have hsame : (⟨x, N', m', keep ++ ex, gl, nm, []⟩ : Env).get q = (⟨x, N', m', ex, gl, nm, []⟩ : Env).get q := by
   unfold Env.get
   by_cases hk : q ∈ keep
   ·obtain ⟨h1, h2⟩ := hkeep q hk
    simp only [h1, h2, cond_false, eget]
    cases isNamed m' (keep ++ ex) q <;> rfl
   ·have : isNamed m' (keep ++ ex) q = isNamed m' ex q := by simp [isNamed, hk]
    rw [this]
  rw [hsame] at hq
  exact hE.slot q c hq, hE.glob⟩
 have hE' : EnvR μ F { w with drawn := w.drawn + 1 } a.tmps ⟨x, N', m', keep ++ ex, gl, nm, []⟩ := ⟨hE2.size, fun t c hc => let ⟨v, h1, h2⟩ := hE2.slot t c hc; ⟨v, h1, h2.drew⟩, fun g c hc => (hE2.glob g c hc).drew⟩
 have hH' := hH.drew
 refine wpIn_region_any hmix ?_
 have hsz : ops.toArray.size = n + 5 := by simpa using hlen
 have hex : ops.toArray.extract 0 n = (ops.take n).toArray := by simp
 have hexs : (ops.take n).toArray.size = n := by simp; omega
 rw [hsz]
 have h0 : ∀ (N i : Nat), (Array.replicate N false).getD i false = false := fun N i => by
  simp only [Array.getD_eq_getD_getElem?, Array.getElem?_replicate]
  split <;> rfl
 simp only [preOK, Bool.and_eq_true, List.all_eq_true] at hpre
 refine wpAny_split (n := n) (f2 := 5) (by rw [hsz]; omega) (fun j o hj ho => ?_) (fun j hnj hj i hi => ?_) n _ (Array.replicate n false) a _ (by simp [hlen]) (by simp) (fun i _ => by rw [h0, h0]) (fun i _ => h0 _ _) (fun j oj _ hL => absurd ((h0 _ j).symm.trans hL) (by simp)) ?_
 ·have hm := hpre.1 (o, j) (by
   rw [List.mem_zipIdx_iff_getElem?]
   rw [List.getElem?_take, if_pos hj]
   simpa using ho)
  refine ⟨hm.1, fun e he hb => ?_⟩
  have h2 := hm.2
  rw [Array.all_eq_true'] at h2
  have := h2 e he
  simp only [hb, Bool.not_true, Bool.false_or, Nat.blt_eq] at this
  exact this
 ·have := hpre.2 (j - n) (by rw [List.mem_range]; simp at hj; omega) i (by rwa [List.mem_range])
  rw [show n + (j - n) = j by omega, ← must_eqM] at this
  simpa using must_sound this
 rw [hex]
 have e0 : eAt (ops.take n).toArray.toList (rec1 P (fun _ => .tup []) (ops.take n).toArray.toList σ.length ⟨x, N', m', keep ++ ex, gl, nm, []⟩ σ) (fun i => (Array.replicate n false).getD i false) ⟨x, N', m', keep ++ ex, gl, nm, []⟩ (ops.take n).toArray.size = ⟨x, N', m', keep ++ ex, gl, nm, []⟩ := eAt_tail _ (Nat.zero_le _) fun i _ _ => h0 _ i
 have h0' : hAt (rec1 P (fun _ => .tup []) (ops.take n).toArray.toList σ.length ⟨x, N', m', keep ++ ex, gl, nm, []⟩ σ) (fun i => (Array.replicate n false).getD i false) σ (ops.take n).toArray.size = σ := hAt_tail _ (Nat.zero_le _) fun i _ _ => h0 _ i
 refine wpAny_of_facts (P := P) (orc := fun _ => .tup []) (ro := ro) (ops := (ops.take n).toArray) (nb := σ.length) (e := ⟨x, N', m', keep ++ ex, gl, nm, []⟩) (h := σ) (regM_ok q1.1.2) (fun j o ho => q3 j o (Nat.zero_le _) (by simpa using ho)) n _ a _ μ F (by rw [hexs]; simp) ?_ ?_ (by rw [e0]; exact hE') (by rw [h0']; exact hH') ?_
 ·have : ∀ (L : Nat → Bool) n, cnt L n ≤ n := fun L n => by
   induction n with
   | zero => exact Nat.le_refl _
   | succ n ih => simp only [cnt]; cases L n <;> simp <;> omega
  rw [hexs]
  exact this _ _
 ·intro j oj _ hL
  exact absurd ((h0 _ j).symm.trans hL) (by simp)
 ·intro μ' F' a' w' k1 k2 k3 k4
  rw [hexs] at k1 k2
  simp only [Nat.zero_add, List.length_take, hlen, Nat.min_eq_left (Nat.le_add_right n 5)] at q4
  obtain ⟨e1, he1⟩ : ∃ e1, (run P (fun _ => .tup []) (ops.take n).toArray.toList σ.length ⟨x, N', m', keep ++ ex, gl, nm, []⟩ σ n).1 = e1 := ⟨_, rfl⟩
  obtain ⟨σ1, hs1⟩ : ∃ σ1, (run P (fun _ => .tup []) (ops.take n).toArray.toList σ.length ⟨x, N', m', keep ++ ex, gl, nm, []⟩ σ n).2 = σ1 := ⟨_, rfl⟩
  have hbase := (run_eq (P := P) (orc := fun _ => .tup []) (ops := (ops.take n).toArray.toList) (nb := σ.length) (e := ⟨x, N', m', keep ++ ex, gl, nm, []⟩) (h := σ) n (fun j o _ ho => q3 j o (Nat.zero_le _) (by simpa using ho)) (by simp; omega))
  rw [he1] at k1
  rw [hs1] at k2
  have q4' : incrQ P mt m k op bt y [tl, tb, te, tx] e1.clean σ1 fun σ2 => Q .normal (e1.clean.setEx ex) σ2 := by
   rw [← he1, ← hs1]; simpa using q4
  have hf : e1.n = N' ∧ e1.gl = gl ∧ e1.m = m' ∧ e1.ex = keep ++ ex ∧ e1.x = x := by
   have hb1 := eAt_base (ops.take n).toArray.toList (rec1 P (fun _ => .tup []) (ops.take n).toArray.toList σ.length ⟨x, N', m', keep ++ ex, gl, nm, []⟩ σ) (fun _ => true) ⟨x, N', m', keep ++ ex, gl, nm, []⟩ n
   have hmx : ∀ q, (eAt (ops.take n).toArray.toList (rec1 P (fun _ => .tup []) (ops.take n).toArray.toList σ.length ⟨x, N', m', keep ++ ex, gl, nm, []⟩ σ) (fun _ => true) ⟨x, N', m', keep ++ ex, gl, nm, []⟩ q).m = m' ∧ (eAt (ops.take n).toArray.toList (rec1 P (fun _ => .tup []) (ops.take n).toArray.toList σ.length ⟨x, N', m', keep ++ ex, gl, nm, []⟩ σ) (fun _ => true) ⟨x, N', m', keep ++ ex, gl, nm, []⟩ q).ex = keep ++ ex := fun q => by
    induction q with
    | zero => exact ⟨rfl, rfl⟩
    | succ q ih =>
     simp only [eAt, if_true]
     have hp : ∀ (E : Env) (d : Option Nat) (v : IV), (E.putO d v).m = E.m ∧ (E.putO d v).ex = E.ex := fun E d v => by
      cases d with
      | none => exact ⟨rfl, rfl⟩
      | some t =>
       show (E.put t v).m = E.m ∧ (E.put t v).ex = E.ex
       unfold Env.put
       cases Nat.blt t E.n <;> cases isNamed E.m E.ex t <;> exact ⟨rfl, rfl⟩
     exact ⟨(hp _ _ _).1.trans ih.1, (hp _ _ _).2.trans ih.2⟩
   rw [← he1, hbase]
   exact ⟨hb1.1, hb1.2.1, (hmx n).1, (hmx n).2, hb1.2.2⟩
  have hlst : (Array.replicate n true ++ Array.replicate (ops.toArray.size - n) false) = lstT n [false, false, false, false, false] := by
   rw [hsz, show n + 5 - n = 5 by omega]
   rfl
  show wpAnyIn (Rd ro) 0 P .any ops.toArray _ 5 _ a' w'
  rw [hlst]
  refine tail5 (ops := ops.toArray) (by simpa using hL) (by simpa using hB) (by simpa using hEn) (by simpa using hX) (by simpa using hS) hrdy hnd k1.clean k2 q4' ?_
  intro F2 a2 w2 σ2 r1 r2 r3 r4 r5
  have r4' : Ext μ F w μ' F2 w2 := by
   have := k3.trans r4
   exact ⟨this.mu, this.fr, this.fu, this.same, this.size, this.os, this.tape, ⟨this.output.o, Nat.le_of_succ_le this.output.d⟩, this.new⟩
  refine ⟨.normal, _, _, μ', F2, trivial, r1, ?_, r3, r4', .refl (r5.trans k4)⟩
  refine ⟨by have := r2.size; rw [this]; rfl, fun q c hq => ?_, fun g c hg => r2.glob g c hg⟩
  refine r2.slot q c ?_
  unfold Env.get at hq ⊢
  simp only [Env.setEx, Env.clean, hf.2.2.1, hf.2.2.2.1] at hq ⊢
  cases hn1 : isNamed m' ex q with
  | false => rw [hn1] at hq; simp [eget] at hq
  | true =>
   rw [hn1] at hq
   have : isNamed m' (keep ++ ex) q = true := by
    simp only [isNamed, Bool.or_eq_true] at hn1 ⊢
    rcases hn1 with h1 | h1
    ·exact .inl h1
    ·right; simp at h1 ⊢; exact .inr h1
   rw [this]; exact hq
end
@[go_sem ↓] theorem incrQ_lit {P : Program} {mt : TypeId} {m k y : Operand} {op : BinOp} {bt : TypeId} {fresh : List Nat} {x : Bool} {N m' : Nat} {ex : List Nat} {gl nm tm : List (Nat × IV)} {σ : Heap} {K : Heap → Prop} :
  incrQ P mt m k op bt y fresh ⟨x, N, m', ex, gl, nm, tm⟩ σ K = match P.underlying mt, Env.opS ⟨x, N, m', ex, gl, nm, tm⟩ m, Env.opS ⟨x, N, m', ex, gl, nm, tm⟩ k, Env.opS ⟨x, N, m', ex, gl, nm, tm⟩ y with
 | some (.map kt et), some (.map b), some kv, some yv => match keyK P kt, zeroI P et, σ[b]? with
  | some ks, some z, some (.map es) => (keyOK P kt ks kv = true ∧ (∀ e ∈ es, keyOK P kt ks e.1 = true) ∧ (Env.wh ⟨x, N, m', ex, gl, nm, tm⟩ m = true ∧ Env.wh ⟨x, N, m', ex, gl, nm, tm⟩ k = true ∧ Env.wh ⟨x, N, m', ex, gl, nm, tm⟩ y = true) ∧ ∀ t ∈ fresh, Env.get ⟨x, N, m', ex, gl, nm, tm⟩ t = none ∧ t < N) ∧
   match bin P op bt ((mget kv es).getD z) yv with
   | some r => r.pre ∧ K (hput σ b (.map (mset kv r.v es)))
   | none => False
  | _, _, _ => False
 | _, _, _, _ => False := _root_.id rfl
end Go.Idl
namespace Go.Idl
open Go.RowKit
def noIt (b : Nat) : Heap → Bool
 | [] => true
 | .iter (some b') _ _ _ :: l => !(Nat.beq b b') && noIt b l
 | _ :: l => noIt b l
theorem noIt_get {b : Nat} : ∀ {l : Heap}, noIt b l = true → ∀ (y : Nat) (es : List (IV × IV)) (cur : Option (IV × IV)) (todo : List (IV × IV)), l[y]? ≠ some (.iter (some b) es cur todo)
 | [], _, y, _, _, _, h => by simp at h
 | o :: l, hn, y, es, cur, todo, h => by
  cases y with
  | zero =>
   simp at h; subst h
   simp [noIt] at hn
  | succ y =>
   have h' : l[y]? = some (.iter (some b) es cur todo) := by simpa using h
   refine noIt_get (l := l) ?_ y es cur todo h'
   cases o with
   | iter b' _ _ _ =>
    cases b' with
    | none => simpa [noIt] using hn
    | some b' => simp only [noIt, Bool.and_eq_true] at hn; exact hn.2
   | _ => simpa [noIt] using hn
section
variable {P : Program} {μ : Mu} {F : Fz} {w : World} {σ : Heap}
theorem HR.revive (hH : HR μ F σ w) {x b : Nat} {es : List (IV × IV)} {cur : Option (IV × IV)} {todo : List (IV × IV)} (hx : σ[x]? = some (.iter (some b) es cur todo)) (hn : noIt b (σ.set x .dead) = true) : HR μ F ((σ.set x .dead).set b (.map es)) w := by
 obtain ⟨hux, hsx, g, hplx, hI⟩ := hH.obj x _ hx
 obtain ⟨hub, hsb, gm, es', cl, since, seen, q1, q2, q3, q4, q5, q6, q7, q8, q9⟩ := hI
 have hxl := (List.getElem?_eq_some_iff.1 hx).1
 obtain ⟨o, ho, _⟩ := hH.n b hub
 have hod := hH.itd x b es cur todo o hx ho
 subst hod
 have hbl := (List.getElem?_eq_some_iff.1 ho).1
 have hbx : x ≠ b := fun e => by subst e; rw [hx] at ho; cases ho
 have hd := hH.toDead x
 have hget : ∀ (y : Nat) (o : IObj), ((σ.set x .dead).set b (.map es))[y]? = some o → (y = b ∧ o = .map es) ∨ (y ≠ b ∧ (σ.set x .dead)[y]? = some o) := fun y o h => by
  rw [List.getElem?_set] at h
  split at h
  ·rename_i e
   split at h
   ·simp only [Option.some.injEq] at h; exact .inl ⟨e.symm, h.symm⟩
   ·cases h
  ·rename_i e; exact .inr ⟨fun e' => e e'.symm, h⟩
 refine ⟨fun y hu => ?_, fun y o ho => ?_, hd.inj, hd.fro, hd.lt, hd.flt, fun y z l r r' e e' h1 h2 => ?_, fun y b' es2 cur2 todo2 o h1 h2 => ?_⟩
 ·obtain ⟨o, h1, h2⟩ := hd.n y hu
  rw [List.getElem?_set]
  by_cases e : b = y
  ·subst e
   exact ⟨.map es, by simp [hbl], rfl⟩
  ·exact ⟨o, by rw [if_neg e]; exact h1, h2⟩
 ·rcases hget y o ho with ⟨rfl, rfl⟩ | ⟨_, h⟩
  ·exact ⟨hub, hsb, gm, es', cl, q1, q2, q7, q6, fun e he => Nat.lt_of_lt_of_le (q5 e he) q4⟩
  ·exact hd.obj y o h
 ·rcases hget y _ h1 with ⟨_, h⟩ | ⟨_, h⟩
  ·cases h
  ·rcases hget z _ h2 with ⟨_, h'⟩ | ⟨_, h'⟩
   ·cases h'
   ·exact hd.yin y z l r r' e e' h h'
 ·rcases hget y _ h1 with ⟨_, h⟩ | ⟨_, h⟩
  ·cases h
  ·rcases hget b' _ h2 with ⟨rfl, _⟩ | ⟨_, h'⟩
   ·exact absurd h (noIt_get hn y es2 cur2 todo2)
   ·exact hd.itd y b' es2 cur2 todo2 o h h'
theorem IWp.revive {c : Code} {Q : XPost} {e : Env} (x b : Nat) (es : List (IV × IV)) {cur : Option (IV × IV)} {todo : List (IV × IV)} (hx : σ[x]? = some (.iter (some b) es cur todo)) (hn : noIt b (σ.set x .dead) = true)
  (h : IWp P c Q e ((σ.set x .dead).set b (.map es))) : IWp P c Q e σ := fun ro μ F a w hR hE hH => h ro μ F a w hR hE (hH.revive hx hn)
end
end Go.Idl
namespace Go.Idl
open Go.RowKit
section
variable {P : Program}
end
theorem IWp.shut {P : Program} {c : Code} {e : Env} {σ : Heap} {Q0 : XPost} (h : ∀ Q, Q = Q0 → IWp P c Q e σ) : IWp P c Q0 e σ := h _ rfl
end Go.Idl
namespace Go.Idl
open Go.RowKit
theorem ICalls.of_bodyV {P : Program} {gl : List (Nat × IV)} {f : FuncId} {fn : Func} {c : Code} {args : List IV} {σ : Heap} {K : IV → Heap → Prop} (x : Bool) (m : Nat) (ex : List Nat) (hf : P.funcs[f]? = some fn) (hb : fn.body = some c)
  (hcall : ∀ (args : Array Value) (w : World), (callFunc f args).run P w = .ok (.enter f args) w) (hn : Nat.ble args.length fn.ntmps = true)
  (h : ∀ R : IV → Heap → Prop, (∀ r σ', K r σ' → R r σ') → IWp P c (retQ P fn.results.toList R) ⟨x, fn.ntmps, m, ex, gl, enum 0 args, []⟩ σ) : ICalls P gl f args σ K :=
 ICalls.of_body x m ex hf hb hcall hn (h _ fun _ _ h => h)
theorem YCalls.forget {P : Program} {σ : Heap} {gl : List (Nat × IV)} {l : Nat} {args : List IV} {K : IV → Heap → Prop} (h : YCalls P gl l args σ (fgtK σ K)) : YCalls P gl l args σ K := by
 intro μ F w vs hH hv hgl
 obtain ⟨fn, tmps, as, body, k1, k2⟩ := h μ F w vs hH hv hgl
 refine ⟨fn, tmps, as, body, k1, k2.mono ?_⟩
 rintro e w' ⟨v, r, σ', μ', F', rfl, ⟨σ0, ⟨h1, h2, h3, h4⟩, hK⟩, hvr, hH', hX⟩
 exact ⟨v, r, σ0, μ'.cut σ0.length, F', rfl, hK, Bl.vr hvr h3, hH'.cut h1 h4, Mu.cut_ext hH hX h2⟩
theorem hput_app (τ σ : Heap) (k : Nat) (o : IObj) : hput (τ ++ σ) (τ.length + k) o = τ ++ hput σ k o := by
 induction τ with
 | nil => simp
 | cons x τ ih =>
  rw [List.cons_append, List.length_cons, show τ.length + 1 + k = (τ.length + k) + 1 by omega]
  simp only [hput, ih, List.cons_append]
theorem hput_app0 (τ σ : Heap) (o : IObj) : hput (τ ++ σ) τ.length o = τ ++ hput σ 0 o := hput_app τ σ 0 o
theorem hput_at0 (τ : Heap) (o : IObj) : hput τ τ.length o = τ ++ [o] := hput_new τ o
theorem app_get (τ σ : Heap) (k : Nat) : (τ ++ σ)[τ.length + k]? = σ[k]? := by rw [List.getElem?_append_right (by omega)]; congr 1; omega
theorem app_get0 (τ σ : Heap) : (τ ++ σ)[τ.length]? = σ[0]? := app_get τ σ 0
end Go.Idl
