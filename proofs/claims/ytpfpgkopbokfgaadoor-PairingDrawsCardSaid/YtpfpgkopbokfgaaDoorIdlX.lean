/-
  Rows of a list of values; rows of a function's values; what a callee made taken over as one's own.
-/
import Derived.Test.YtpfpgkopbokfgaaDoorIdlW
namespace Go.Idl
set_option linter.all false
open Go.RowKit

@[go_sem] theorem cutR_left {rs rest : List (List IV)} {len : Nat} (h : rs.length = len) : cutR 0 len (rs ++ rest) = rs := by simp [cutR, ← h]

/-! ### encoded lists -/
def mp {α : Type} (f : α → List IV) (l : List α) : List (List IV) := l.map f
section
variable {α : Type} {f : α → List IV} {l : List α}
@[go_sem] theorem mp_length : (mp f l).length = l.length := by simp [mp]
theorem mp_at {i : Nat} (h : i < l.length) : (mp f l)[i]?.getD [] = f l[i] := by simp [mp, h]
@[go_sem] theorem mp_getElem {i : Nat} (h : i < (mp f l).length) : (mp f l)[i] = f (l[i]'(by simpa [mp] using h)) := by simp [mp]
@[go_sem] theorem mp_nil : mp f [] = [] := rfl
theorem mp_snoc {x : α} : mp f (l ++ [x]) = mp f l ++ [f x] := by simp [mp]
theorem mp_append {m : List α} : mp f (l ++ m) = mp f l ++ mp f m := by simp [mp]
theorem mp_set {i : Nat} {x : α} : mp f (l.set i x) = (mp f l).set i (f x) := by simp [mp, List.map_set]
theorem mp_take {i : Nat} : mp f (l.take i) = (mp f l).take i := by simp [mp, List.map_take]
theorem mp_drop {i : Nat} : mp f (l.drop i) = (mp f l).drop i := by simp [mp, List.map_drop]
theorem mp_sc (h : ∀ x, ∀ c ∈ f x, scal c = true) : ScR (mp f l) := by
  intro row hr
  simp only [mp, List.mem_map] at hr
  obtain ⟨x, _, rfl⟩ := hr
  exact h x
theorem mp_rows {n : Nat} (h : ∀ x, (f x).length = n) : ∀ r ∈ mp f l, r.length = n := by
  intro row hr
  simp only [mp, List.mem_map] at hr
  obtain ⟨x, _, rfl⟩ := hr
  exact h x
end

theorem rows_one {n : Nat} {rs : List (List IV)} (hs : ScR rs) (hr : ∀ r ∈ rs, r.length = n) : ∀ a ∈ rs, a.length = n ∧ ∀ x ∈ a, IV.one x = true := fun a ha =>
  ⟨hr a ha, fun x hx => by have := hs a ha x hx; cases x <;> first | rfl | (simp [scal] at this)⟩

/-! ### arrays told by a function -/
def ar (n : Nat) (f : Nat → IV) : List (List IV) := (List.range n).map fun i => [f i]
def upF (f : Nat → IV) (i : Nat) (v : IV) : Nat → IV := fun j => if j = i then v else f j
section
variable {n : Nat} {f : Nat → IV}
@[go_sem] theorem ar_length : (ar n f).length = n := by simp [ar]
theorem ar_at {i : Nat} (h : i < n) : (ar n f)[i]?.getD [] = [f i] := by simp [ar, h]
@[go_sem] theorem ar_getElem {i : Nat} (h : i < (ar n f).length) : (ar n f)[i] = [f i] := by simp [ar]
theorem ar_rep {v : IV} : List.replicate n [v] = ar n fun _ => v := by
  apply List.ext_getElem
  · simp [ar]
  · intro i h1 h2; simp [ar]
theorem ar_set {i : Nat} {v : IV} : (ar n f).set i [v] = ar n (upF f i v) := by
  apply List.ext_getElem
  · simp [ar]
  · intro j h1 h2
    simp only [ar, upF, List.getElem_set, List.getElem_map, List.getElem_range]
    by_cases e : i = j
    · subst e; simp
    · simp [e, Ne.symm e]
theorem upF_bool {g : Nat → Bool} {i : Nat} {b : Bool} : upF (fun j => .bool (g j)) i (.bool b) = fun j => .bool (if j = i then b else g j) := by
  funext j; simp only [upF]; split <;> rfl
theorem upF_int {g : Nat → Int} {k : IntKind} {i : Nat} {b : Int} : upF (fun j => .int k (g j)) i (.int k b) = fun j => .int k (if j = i then b else g j) := by
  funext j; simp only [upF]; split <;> rfl
theorem ar_sc (h : ∀ i, scal (f i) = true) : ScR (ar n f) := by
  intro row hr c hc
  simp only [ar, List.mem_map] at hr
  obtain ⟨i, _, rfl⟩ := hr
  simp at hc
  rw [hc]; exact h i
@[go_sem] theorem ScR_ar_int {n : Nat} {k : IntKind} {g : Nat → Int} : ScR (ar n fun e => .int k (g e)) = True := eq_true (ar_sc fun _ => rfl)
@[go_sem] theorem ScR_ar_bool {n : Nat} {g : Nat → Bool} : ScR (ar n fun e => .bool (g e)) = True := eq_true (ar_sc fun _ => rfl)
@[go_sem] theorem ClR_ar_int {n : Nat} {k : IntKind} {g : Nat → Int} : ClR (ar n fun e => .int k (g e)) = True := eq_true (ar_sc fun _ => rfl).cl
@[go_sem] theorem ClR_ar_bool {n : Nat} {g : Nat → Bool} : ClR (ar n fun e => .bool (g e)) = True := eq_true (ar_sc fun _ => rfl).cl
@[go_sem] theorem BlR_ar_int {m n : Nat} {k : IntKind} {g : Nat → Int} : BlR m (ar n fun e => .int k (g e)) = True := eq_true (ar_sc fun _ => rfl).bl
@[go_sem] theorem BlR_ar_bool {m n : Nat} {g : Nat → Bool} : BlR m (ar n fun e => .bool (g e)) = True := eq_true (ar_sc fun _ => rfl).bl
theorem ar_rows : ∀ r ∈ ar n f, r.length = 1 := by
  intro row hr
  simp only [ar, List.mem_map] at hr
  obtain ⟨i, _, rfl⟩ := hr
  rfl
end

theorem nlH_refl {nb : Nat} : ∀ (σ : Heap), nlH nb σ σ
  | [] => trivial
  | _ :: l => ⟨.inl rfl, nlH_refl l⟩
theorem nlL_refl {nb : Nat} : ∀ (l : List (Nat × IV)), nlL nb l l
  | [] => trivial
  | _ :: l => ⟨rfl, .inl rfl, nlL_refl l⟩
theorem nlL_eput {nb t : Nat} : ∀ {l : List (Nat × IV)}, eget l t = some .nils → nlL nb l (eput l t (.sl nb 0 0 0 none))
  | [], h => by simp [eget] at h
  | (k, v) :: l, h => by
    simp only [eget] at h
    simp only [eput]
    cases hk : (k == t) with
    | true => rw [hk] at h; simp only [cond_true, Option.some.injEq] at h; exact ⟨rfl, .inr ⟨h, rfl⟩, nlL_refl l⟩
    | false => rw [hk] at h; exact ⟨rfl, .inl rfl, nlL_eput h⟩
/-- A nil slice in slot t becomes an empty slice of one's own (of rows of s cells). -/
theorem IWp.ownNilS {P : Program} {Q : XPost} {σ : Heap} {c : Code} {x : Bool} {n m : Nat} {ex : List Nat} {gl nm : List (Nat × IV)} (s t : Nat) (hs : 0 < s) (hg : eget nm t = some .nils)
    (h : IWp P c Q ⟨x, n, m, ex, gl, eput nm t (.sl σ.length 0 0 0 none), []⟩ (σ ++ [.rows s []])) : IWp P c Q ⟨x, n, m, ex, gl, nm, []⟩ σ :=
  IWp.ownNil s _ _ hs (nlL_eput hg) (nlH_refl σ) h

/-! ### nil slices as slices without elements, where they are handed on -/
mutual
def nz : Nat → IV → IV → Prop
  | 0, v, v' => v' = v
  | _ + 1, .nils, .fz _ [] => True
  | d + 1, .agg a, .agg b => nzL d a b
  | d + 1, .tup a, .tup b => nzL d a b
  | _ + 1, v, v' => v' = v
termination_by d _ _ => (d, 0)
def nzL (d : Nat) : List IV → List IV → Prop
  | [], [] => True
  | c :: l, c' :: l' => nz d c c' ∧ nzL d l l'
  | _, _ => False
termination_by l _ => (d, l.length + 1)
end
theorem nzL_get {d : Nat} : ∀ {l l' : List IV}, nzL d l l' → l'.length = l.length ∧ ∀ (j : Nat) (c c' : IV), l[j]? = some c → l'[j]? = some c' → nz d c c'
  | [], [], _ => by simp
  | c :: l, c' :: l', h => by
    simp only [nzL] at h
    obtain ⟨h1, h2⟩ := nzL_get h.2
    refine ⟨by simp [h1], fun j a b e1 e2 => ?_⟩
    cases j with
    | zero => simp at e1 e2; subst e1; subst e2; exact h.1
    | succ j => exact h2 j a b (by simpa using e1) (by simpa using e2)
  | [], _ :: _, h => by simp [nzL] at h
  | _ :: _, [], h => by simp [nzL] at h
theorem nz_fr {fr : Bool} {σ : Heap} : ∀ (d : Nat) {r v v' : IV}, Fr fr σ r v → nz d v v' → Fr fr σ r v' := by
  intro d
  induction d with
  | zero => intro r v v' h hz; simp only [nz] at hz; subst hz; exact h
  | succ d ih =>
    intro r v v' h hz
    have lst : ∀ (a b cs : List IV), nzL d a b → a.length = cs.length → (∀ (j : Nat) (c c' : IV), cs[j]? = some c → a[j]? = some c' → Fr fr σ c c') → b.length = cs.length ∧ ∀ (j : Nat) (c c' : IV), cs[j]? = some c → b[j]? = some c' → Fr fr σ c c' := fun a b cs hz hl hc => by
      obtain ⟨h1, h2⟩ := nzL_get hz
      refine ⟨by omega, fun j c c' e1 e2 => ?_⟩
      have := (List.getElem?_eq_some_iff.1 e2).1
      have e3 : a[j]? = some (a[j]'(by omega)) := List.getElem?_eq_getElem (by omega)
      exact ih (hc j c _ e1 e3) (h2 j _ c' e3 e2)
    have clst : ∀ (a b : List IV), fr = true → nzL d a b → (∀ (j : Nat) (c : IV), a[j]? = some c → Cl c) → b.length = a.length ∧ ∀ (j : Nat) (c c' : IV), a[j]? = some c → b[j]? = some c' → Fr fr σ c c' := fun a b hf hz hc =>
      lst a b a hz rfl fun j c c' e1 e2 => by rw [e1] at e2; cases e2; exact .cl c hf (hc j c e1)
    unfold nz at hz
    split at hz
    · omega
    · cases h with
      | nils => exact .nz _
      | cl _ hf hc => exact .nz _
    · rename_i hd
      cases hd
      cases h with
      | agg cs _ hg h2 => obtain ⟨k1, k2⟩ := lst _ _ cs hz hg h2; exact .agg cs _ k1 k2
      | cl _ hf hc => cases hc with | agg _ hc => obtain ⟨k1, k2⟩ := clst _ _ hf hz hc; exact .agg _ _ k1 k2
    · rename_i hd
      cases hd
      cases h with
      | tup cs _ hg h2 => obtain ⟨k1, k2⟩ := lst _ _ cs hz hg h2; exact .tup cs _ k1 k2
      | cl _ hf hc => cases hc with | tup _ hc => obtain ⟨k1, k2⟩ := clst _ _ hf hz hc; exact .tup _ _ k1 k2
    · subst hz; exact h
section
variable {d : Nat}
@[go_sem] theorem nz_nil {s : Nat} : nz (d + 1) .nils (.fz s []) = True := by simp [nz]
@[go_sem] theorem nz_agg {a b : List IV} : nz (d + 1) (.agg a) (.agg b) = nzL d a b := by simp [nz]
@[go_sem] theorem nz_tup {a b : List IV} : nz (d + 1) (.tup a) (.tup b) = nzL d a b := by simp [nz]
theorem nz_rfl : ∀ (d : Nat) (v : IV), nz d v v := by
  intro d
  induction d with
  | zero => intro v; simp [nz]
  | succ d ih =>
    intro v
    have lst : ∀ l : List IV, nzL d l l := fun l => by
      induction l with
      | nil => simp [nzL]
      | cons c l ihl => simp only [nzL]; exact ⟨ih c, ihl⟩
    cases v <;> simp [nz, lst]
@[go_sem] theorem nz_self {v : IV} : nz d v v = True := eq_true (nz_rfl d v)
@[go_sem] theorem nz_int {k : IntKind} {n : Int} {v : IV} : nz d (.int k n) v = (v = .int k n) := by cases d <;> simp [nz]
@[go_sem] theorem nz_bool {b : Bool} {v : IV} : nz d (.bool b) v = (v = .bool b) := by cases d <;> simp [nz]
@[go_sem] theorem nz_fz {s : Nat} {rs : List (List IV)} {v : IV} : nz d (.fz s rs) v = (v = .fz s rs) := by cases d <;> simp [nz]
@[go_sem] theorem nzL_nil : nzL d [] [] = True := by simp [nzL]
@[go_sem] theorem nzL_cons {c c' : IV} {l l' : List IV} : nzL d (c :: l) (c' :: l') = (nz d c c' ∧ nzL d l l') := by simp [nzL]
end

/-- **A PURE FUNCTION's CONTRACT FROM ITS BODY**: what is handed back, frozen by computation; nil slices as slices without elements. -/
theorem IFun.of_bodyZ {P : Program} {own : Bool} {gl : List (Nat × IV)} {f : FuncId} {fn : Func} {c : Code} {args : List IV} {V : IV → Prop} (x : Bool) (m : Nat) (ex : List Nat) (hf : P.funcs[f]? = some fn) (hb : fn.body = some c)
    (hcall : ∀ (args : Array Value) (w : World), (callFunc f args).run P w = .ok (.enter f args) w) (hn : Nat.ble args.length fn.ntmps = true)
    (h : ∀ R : IV → Heap → Prop, (∀ r σ v, V v → frzOK (!own) 4 σ r ∧ nz 4 (frzV 4 σ r) v → R r σ) → yC P c (retQ P fn.results.toList R) ⟨x, fn.ntmps, m, ex, gl, enum 0 args, []⟩ []) : IFun own P gl f args V :=
  IFun.of_body x m ex hf hb hcall hn fun R hR => h R fun r σ v hv hk => hR r σ v (nz_fr 4 (frz_fr 4 σ r hk.1) hk.2) hv

/-! ### a callee's slice as one's own -/
/-- A value round one place, all else scalars. -/
inductive Cx : (IV → IV) → Prop where
  | here : Cx fun v => v
  | agg (pre post : List IV) (C : IV → IV) (h1 : ∀ c ∈ pre, scal c = true) (h2 : ∀ c ∈ post, scal c = true) (h : Cx C) : Cx fun v => .agg (pre ++ C v :: post)
  | tup (pre post : List IV) (C : IV → IV) (h1 : ∀ c ∈ pre, scal c = true) (h2 : ∀ c ∈ post, scal c = true) (h : Cx C) : Cx fun v => .tup (pre ++ C v :: post)

section
variable {P : Program} {μ : Mu} {F : Fz} {w : World} {σ : Heap}

theorem scal_vr {μ' : Mu} {F' : Fz} {w' : World} {u : Value} {r v : IV} (h : VR μ F w u r) (hf : Fr false σ r v) (hs : scal v = true) : VR μ' F' w' u v := by
  cases hf with
  | bool b => cases h; exact .bool b
  | int k n => cases h; exact .int k n
  | str s => cases h; exact .str s
  | nilp => cases h; exact .nilp
  | nils => cases h; exact .nils
  | nilm => cases h; exact .nilm
  | nilf => cases h; exact .nilf
  | nz s => simp [scal] at hs
  | cl v hf hc => cases hf
  | sl => simp [scal] at hs
  | ptr => simp [scal] at hs
  | func => simp [scal] at hs
  | agg => simp [scal] at hs
  | tup => simp [scal] at hs

/-- The place's value, looked at alone. -/
theorem Cx.split {C : IV → IV} (hC : Cx C) : ∀ {u : Value} {r x : IV}, VR μ F w u r → Fr false σ r (C x) → ∃ u0 r0, VR μ F w u0 r0 ∧ Fr false σ r0 x ∧ ∀ (μ' : Mu) (F' : Fz) (w' : World) (x' : IV), VR μ' F' w' u0 x' → VR μ' F' w' u (C x') := by
  induction hC with
  | here => exact fun {u r x} h hf => ⟨u, r, h, hf, fun _ _ _ _ h => h⟩
  | agg pre post C h1 h2 _ ih =>
    intro u r x h hf
    have hlist : ∀ (vs : List Value) (cs : List IV), vs.length = cs.length → (∀ (j : Nat) (v : Value) (c : IV), vs[j]? = some v → cs[j]? = some c → VR μ F w v c) → cs.length = (pre ++ C x :: post).length →
        (∀ (j : Nat) (c c' : IV), cs[j]? = some c → (pre ++ C x :: post)[j]? = some c' → Fr false σ c c') → ∃ u0 r0, VR μ F w u0 r0 ∧ Fr false σ r0 x ∧ ∀ (μ' : Mu) (F' : Fz) (w' : World) (x' : IV), VR μ' F' w' u0 x' → vs.length = (pre ++ C x' :: post).length ∧ ∀ (j : Nat) (v : Value) (c : IV), vs[j]? = some v → (pre ++ C x' :: post)[j]? = some c → VR μ' F' w' v c := by
      intro vs cs k1 k2 k3 k4
      have hj : pre.length < cs.length := by rw [k3]; simp
      have hj' : pre.length < vs.length := by omega
      have e1 : cs[pre.length]? = some cs[pre.length] := List.getElem?_eq_getElem hj
      have e2 : vs[pre.length]? = some vs[pre.length] := List.getElem?_eq_getElem hj'
      obtain ⟨u0, r0, q1, q2, q3⟩ := ih (k2 _ _ _ e2 e1) (k4 pre.length _ (C x) e1 (by simp))
      refine ⟨u0, r0, q1, q2, fun μ' F' w' x' hx => ⟨by rw [k1, k3]; simp, fun j v c g1 g2 => ?_⟩⟩
      have hlt := (List.getElem?_eq_some_iff.1 g1).1
      have e3 : cs[j]? = some (cs[j]'(by omega)) := List.getElem?_eq_getElem (by omega)
      rcases Nat.lt_trichotomy j pre.length with hlt' | rfl | hgt
      · rw [List.getElem?_append_left hlt'] at g2
        exact scal_vr (k2 j v _ g1 e3) (k4 j _ c e3 (by rw [List.getElem?_append_left hlt']; exact g2)) (h1 c (List.mem_of_getElem? g2))
      · simp at g2; subst g2
        rw [e2] at g1; cases g1
        exact q3 μ' F' w' x' hx
      · have hx' : ∀ y, (pre ++ C y :: post)[j]? = post[j - pre.length - 1]? := fun y => by
          rw [List.getElem?_append_right (by omega), show j - pre.length = (j - pre.length - 1) + 1 by omega]; simp
        rw [hx'] at g2
        exact scal_vr (k2 j v _ g1 e3) (k4 j _ c e3 (by rw [hx']; exact g2)) (h2 c (List.mem_of_getElem? g2))
    cases hf with
    | cl v hf hc => cases hf
    | agg cs _ hg hfr =>
      cases h with
      | agg vs _ hl hv =>
        obtain ⟨u0, r0, q1, q2, q3⟩ := hlist vs cs hl hv hg.symm hfr
        exact ⟨u0, r0, q1, q2, fun μ' F' w' x' hx => let ⟨a, b⟩ := q3 μ' F' w' x' hx; .agg vs _ a b⟩
  | tup pre post C h1 h2 _ ih =>
    intro u r x h hf
    have hlist : ∀ (vs : List Value) (cs : List IV), vs.length = cs.length → (∀ (j : Nat) (v : Value) (c : IV), vs[j]? = some v → cs[j]? = some c → VR μ F w v c) → cs.length = (pre ++ C x :: post).length →
        (∀ (j : Nat) (c c' : IV), cs[j]? = some c → (pre ++ C x :: post)[j]? = some c' → Fr false σ c c') → ∃ u0 r0, VR μ F w u0 r0 ∧ Fr false σ r0 x ∧ ∀ (μ' : Mu) (F' : Fz) (w' : World) (x' : IV), VR μ' F' w' u0 x' → vs.length = (pre ++ C x' :: post).length ∧ ∀ (j : Nat) (v : Value) (c : IV), vs[j]? = some v → (pre ++ C x' :: post)[j]? = some c → VR μ' F' w' v c := by
      intro vs cs k1 k2 k3 k4
      have hj : pre.length < cs.length := by rw [k3]; simp
      have hj' : pre.length < vs.length := by omega
      have e1 : cs[pre.length]? = some cs[pre.length] := List.getElem?_eq_getElem hj
      have e2 : vs[pre.length]? = some vs[pre.length] := List.getElem?_eq_getElem hj'
      obtain ⟨u0, r0, q1, q2, q3⟩ := ih (k2 _ _ _ e2 e1) (k4 pre.length _ (C x) e1 (by simp))
      refine ⟨u0, r0, q1, q2, fun μ' F' w' x' hx => ⟨by rw [k1, k3]; simp, fun j v c g1 g2 => ?_⟩⟩
      have hlt := (List.getElem?_eq_some_iff.1 g1).1
      have e3 : cs[j]? = some (cs[j]'(by omega)) := List.getElem?_eq_getElem (by omega)
      rcases Nat.lt_trichotomy j pre.length with hlt' | rfl | hgt
      · rw [List.getElem?_append_left hlt'] at g2
        exact scal_vr (k2 j v _ g1 e3) (k4 j _ c e3 (by rw [List.getElem?_append_left hlt']; exact g2)) (h1 c (List.mem_of_getElem? g2))
      · simp at g2; subst g2
        rw [e2] at g1; cases g1
        exact q3 μ' F' w' x' hx
      · have hx' : ∀ y, (pre ++ C y :: post)[j]? = post[j - pre.length - 1]? := fun y => by
          rw [List.getElem?_append_right (by omega), show j - pre.length = (j - pre.length - 1) + 1 by omega]; simp
        rw [hx'] at g2
        exact scal_vr (k2 j v _ g1 e3) (k4 j _ c e3 (by rw [hx']; exact g2)) (h2 c (List.mem_of_getElem? g2))
    cases hf with
    | cl v hf hc => cases hf
    | tup cs _ hg hfr =>
      cases h with
      | tup vs _ hl hv =>
        obtain ⟨u0, r0, q1, q2, q3⟩ := hlist vs cs hl hv hg.symm hfr
        exact ⟨u0, r0, q1, q2, fun μ' F' w' x' hx => let ⟨a, b⟩ := q3 μ' F' w' x' hx; .tup vs _ a b⟩

/-- **A PURE FUNCTION CALLED**, and the one slice that it hands back taken over as one's own. -/
theorem IFun.callO {gl : List (Nat × IV)} {f : FuncId} {args args' : List IV} {V : IV → Prop} {K : IV → Heap → Prop} (h : IFun true P gl f args' V) (ha : Frs σ args args') (hg : ∀ g c, eget gl g = some c → Cl c)
    (hK : ∀ v, V v → ∃ (C : IV → IV) (s : Nat) (rows : List (List IV)), Cx C ∧ 0 < s ∧ v = C (.fz s rows) ∧ ScR rows ∧ K (C (.sl σ.length rows.length 0 rows.length none)) (σ ++ [.rows s rows])) : ICalls P gl f args σ K := by
  refine ⟨h.1, fun μ F w vs hH hv hgl => ?_⟩
  let F1 : Fz := ⟨fun g => F.f g ∨ ∃ b off, μ.u b ∧ μ.pl b = .at_ g off, fun g => F.u g ∨ g < w.heap.size, fun g h => h.elim (fun h => .inl (F.sub g h)) fun ⟨b, off, h1, h2⟩ => .inr (hH.lt b g off h1 h2)⟩
  obtain ⟨hlen, hget⟩ := ha.get
  have hv' : VRs Mu.none F1 w vs args' := ⟨hv.1.trans hlen.symm, fun j v c' e1 e2 => by
    have hj := (List.getElem?_eq_some_iff.1 e2).1
    have e3 : args[j]? = some (args[j]'(by omega)) := List.getElem?_eq_getElem (by omega)
    exact Fr.vr (F' := F1) hH (fun _ g h => Or.inl h) (fun _ _ => rfl) (fun b g off h1 h2 => Or.inr ⟨b, off, h1, h2⟩) (hget j _ _ e3 e2) (hv.2 j v _ e1 e3)⟩
  have hgl' : ∀ (g : Nat) (c : IV), eget gl g = some c → VR Mu.none F1 w (.pointer (some ⟨g, 0, Option.none⟩)) c := fun g c hc => Cl.vr (F := F) (F' := F1) (fun g h => Or.inl h) (fun _ _ => rfl) (hgl g c hc) (hg g c hc)
  refine (h.2 Mu.none F1 w vs (HR.empty fun g h => h.elim (hH.flt g) fun h => h) hv' hgl').mono ?_
  rintro e w' ⟨v, r, σ', μ1, F2, rfl, ⟨v', hfr, hV⟩, hvr, hH1, hX⟩
  have hu1 : ∀ g, g < w.heap.size → F2.u g := fun g hg => hX.fu g (.inr hg)
  have hsame : ∀ g, g < w.heap.size → w'.heap[g]? = w.heap[g]? := fun g hg => hX.same g (.inr hg)
  obtain ⟨C, s, rows, hC, hs0, rfl, hsc, hk⟩ := hK v' hV
  obtain ⟨u0, r0, q1, q2, q3⟩ := hC.split hvr hfr
  have hnb : ¬ μ.u σ.length := fun hu => by obtain ⟨o, h1, _⟩ := hH.n _ hu; simp at h1
  cases q2 with
  | cl v hf hc => cases hf
  | nz _ =>
    cases q1
    have hch := hH.change (b := σ.length) (o' := .rows s []) (w' := w') (Mu.le_add (s := s) (n := 0) (c := 0) (p := .empty) hnb) (fun x e => Mu.add_other x e) (fun g hg _ => hsame g hg) (fun g off _ e => by simp [Mu.add] at e) hX.size hX.os hX.tape hX.output (hH.notItN hnb)
      ⟨.inl rfl, hs0, by simp [Mu.add], by simp [Mu.add], by simp, .inl ⟨by simp [Mu.add], rfl⟩⟩
    rw [hput_new] at hch
    exact ⟨v, _, _, _, F, rfl, hk, q3 _ _ _ _ (.sl _ σ.length 0 0 0 none rfl (show _ ∨ _ from .inl rfl) (by simp [Mu.add]) fun _ => by simp [Mu.add, SlOK]), hch.1, hch.2⟩
  | sl b tot i len cap _ rs _ hb ht hl hn hr hc =>
    obtain ⟨hu, hs, hsz, hml, hrow, hcs⟩ := hH1.obj b _ hb
    cases q1 with
    | sl _ _ _ _ _ _ hk' hb' ht' hok =>
      have hok := hok (by omega)
      rcases hcs with ⟨hpl, h0⟩ | ⟨g, off, cs, T, hpl, hg', hcp1, hcp2, hcell⟩
      · -- nothing lies behind it
        rw [hpl] at hok
        obtain ⟨rfl, rfl⟩ := hok
        have : rows = [] := List.eq_nil_of_length_eq_zero (by omega)
        subst this
        have hch := hH.change (b := σ.length) (o' := .rows s []) (w' := w') (Mu.le_add (s := s) (n := 0) (c := 0) (p := .empty) hnb) (fun x e => Mu.add_other x e) (fun g hg _ => hsame g hg) (fun g off _ e => by simp [Mu.add] at e) hX.size hX.os hX.tape hX.output (hH.notItN hnb)
          ⟨.inl rfl, hs, by simp [Mu.add], by simp [Mu.add], by simp, .inl ⟨by simp [Mu.add], rfl⟩⟩
        rw [hput_new] at hch
        exact ⟨v, _, _, _, F, rfl, hk, q3 _ _ _ _ (.sl _ σ.length 0 0 0 none rfl (show _ ∨ _ from .inl rfl) (by simp [Mu.add]) fun _ => by simp [Mu.add, SlOK]), hch.1, hch.2⟩
      · rw [hpl] at hok
        obtain ⟨a, c, rfl, hlc, hic, ha', hcap⟩ := hok
        rw [hsz] at *
        have hglt := hH1.lt b g off hu hpl
        have hgge : w.heap.size ≤ g := by
          rcases Nat.lt_or_ge g w.heap.size with h | h
          · exact absurd (hu1 g h) (hH1.fro b g off hu hpl)
          · exact h
        let p : Place := .at_ g (off + i * s)
        have hle : μ.le (μ.add σ.length s rows.length c p) := Mu.le_add hnb
        have hbound : off + (i + c) * s ≤ cs.size := by
          have : (i + c) * s ≤ μ1.cp b * s := Nat.mul_le_mul_right s hic
          omega
        have hnotF : ¬ F.u g := fun h => by have := hH.flt g h; omega
        have hch := hH.change (b := σ.length) (o' := .rows s rows) (w' := w') hle (fun x e => Mu.add_other x e) (fun g hg _ => hsame g hg) (fun g' off' _ e => by
          simp only [Mu.add, if_true, p, Place.at_.injEq] at e
          obtain ⟨rfl, _⟩ := e
          exact ⟨.inl hgge, hglt⟩) hX.size hX.os hX.tape hX.output (hH.notItN hnb)
          ⟨.inl rfl, hs, by simp [Mu.add], by simp [Mu.add], fun k row' hk' => by
            have hk'' := (List.getElem?_eq_some_iff.1 hk').1
            have e1 : rs[i + k]? = some (rs[i + k]'(by omega)) := List.getElem?_eq_getElem (by omega)
            rw [hr k _ _ e1 hk']; exact hrow _ _ e1, .inr ⟨g, off + i * s, cs, T, by simp [Mu.add, p], hg', by simp [Mu.add]; omega, by simp [Mu.add]; rw [Nat.add_mul] at hbound; omega, fun k row' j c' hk' hj => by
            have hk'' := (List.getElem?_eq_some_iff.1 hk').1
            have e1 : rs[i + k]? = some (rs[i + k]'(by omega)) := List.getElem?_eq_getElem (by omega)
            have hrl := hr k _ _ e1 hk'
            have hj' := (List.getElem?_eq_some_iff.1 hj).1
            have e4 : (rs[i + k]'(by omega))[j]? = some ((rs[i + k]'(by omega))[j]'(by omega)) := List.getElem?_eq_getElem (by omega)
            obtain ⟨u, u1, u2⟩ := hcell _ _ j _ e1 e4
            refine ⟨u, by rw [show off + i * s + k * s + j = off + (i + k) * s + j by rw [Nat.add_mul]; omega]; exact u1, ?_⟩
            exact scal_vr u2 (hc k _ _ j _ _ e1 hk' e4 hj) (hsc row' (List.mem_of_getElem? hk') c' (List.mem_of_getElem? hj))⟩⟩
        rw [hput_new] at hch
        refine ⟨v, _, _, _, F, rfl, hk, q3 _ _ _ _ (.sl _ σ.length _ 0 _ none rfl (show _ ∨ _ from .inl rfl) (by simp [Mu.add]) fun _ => ?_), hch.1, hch.2⟩
        simp only [Mu.add, if_true, p, SlOK]
        exact ⟨a, c, by rw [hn], by omega, by omega, by rcases ha' with h | h; exact .inl h; exact .inr (by rw [h]; simp), by simp⟩

theorem okL_frs {d : Nat} : ∀ {args : List IV}, okL true d σ args → Frs σ args (frzL d σ args)
  | [], _ => by simp only [frzL, List.map_nil]; exact .nil
  | a :: l, h => by
    rw [okL_cons] at h
    rw [frzL_cons]
    exact .cons (frz_fr d σ a h.1) (okL_frs h.2)

/-- A pure function called, one's own blocks lent, frozen by computation. -/
theorem nzL_frs {d : Nat} : ∀ {args args' args'' : List IV}, Frs σ args args' → nzL d args' args'' → Frs σ args args''
  | _, _, [], .nil, _ => .nil
  | _, _, _ :: _, .nil, h => by simp [nzL] at h
  | _, _, [], .cons _ _, h => by simp [nzL] at h
  | _, _, _ :: _, .cons h1 h2, h => by
    simp only [nzL] at h
    exact .cons (nz_fr d h1 h.1) (nzL_frs h2 h.2)
theorem IFun.callF {f : FuncId} {args args' : List IV} {V : IV → Prop} {K : IV → Heap → Prop} (h : IFun true P [] f args' V) (ha : okL true 4 σ args ∧ nzL 4 (frzL 4 σ args) args') (hK : ∀ v, V v → K v σ) : ICalls P [] f args σ K :=
  h.call (nzL_frs (okL_frs ha.1) ha.2) (fun g c e => by simp [eget] at e) hK
theorem IFun.callOF {f : FuncId} {args args' : List IV} {V : IV → Prop} {K : IV → Heap → Prop} (h : IFun true P [] f args' V) (ha : okL true 4 σ args ∧ nzL 4 (frzL 4 σ args) args')
    (hK : ∀ v, V v → ∃ (C : IV → IV) (s : Nat) (rows : List (List IV)), Cx C ∧ 0 < s ∧ v = C (.fz s rows) ∧ ScR rows ∧ K (C (.sl σ.length rows.length 0 rows.length none)) (σ ++ [.rows s rows])) : ICalls P [] f args σ K :=
  h.callO (nzL_frs (okL_frs ha.1) ha.2) (fun g c e => by simp [eget] at e) hK

/-- The same, of arguments that nobody writes; no package-level variable. -/
theorem IFun.callOM {f : FuncId} {args : List IV} {V : IV → Prop} {K : IV → Heap → Prop} (h : IFun true P [] f args V) (ha : Frs σ args args)
    (hK : ∀ v, V v → ∃ (C : IV → IV) (s : Nat) (rows : List (List IV)), Cx C ∧ 0 < s ∧ v = C (.fz s rows) ∧ ScR rows ∧ K (C (.sl σ.length rows.length 0 rows.length none)) (σ ++ [.rows s rows])) : ICalls P [] f args σ K :=
  h.callO ha (fun g c e => by simp [eget] at e) hK
end
end Go.Idl
