import Derived.Test.YteedopeniojppaaGreatDoorIdlPartF
import Derived.ProofKit
import Derived.OpenShut
import Derived.Deep.Slices
set_option linter.all false
namespace Go.Idl
open Go.RowKit
def kBeq : List TypeDesc → List TypeDesc → Bool
 | [], [] => true
 | .int k :: l, .int k' :: m => k == k' && kBeq l m
 | .bool :: l, .bool :: m => kBeq l m
 | .string :: l, .string :: m => kBeq l m
 | _, _ => false
theorem kBeq_eq : ∀ {l m : List TypeDesc}, kBeq l m = true → l = m := by
 intro l
 induction l with
 | nil => intro m h; cases m with
  | nil => rfl
  | cons _ _ => simp [kBeq] at h
 | cons a l ih =>
  intro m h
  cases m with
  | nil => cases a <;> simp [kBeq] at h
  | cons b m =>
   cases a <;> cases b <;> simp only [kBeq, Bool.and_eq_true, Bool.false_eq_true] at h
   ·rw [ih h]
   ·rename_i k k'; rw [ih h.2, show k = k' from by simpa using h.1]
   ·rw [ih h]
theorem flat_of {P : Program} {t : TypeId} {ks : List TypeDesc} (h : (match flatP P t with | some l => kBeq l ks | none => false) = true) : flatP P t = some ks := by
 split at h
 ·rename_i l hl; rw [hl, kBeq_eq h]
 ·cases h
theorem key_of {P : Program} {t : TypeId} {ks : List TypeDesc} (h : (match keyK P t with | some l => kBeq l ks | none => false) = true) : keyK P t = some ks := by
 split at h
 ·rename_i l hl; rw [hl, kBeq_eq h]
 ·cases h
def BlR (n : Nat) (rs : List (List IV)) : Prop := ∀ row ∈ rs, ∀ c ∈ row, Bl n c
def ClR (rs : List (List IV)) : Prop := ∀ row ∈ rs, ∀ c ∈ row, Cl c
def BlM (n : Nat) (es : List (IV × IV)) : Prop := ∀ e ∈ es, Bl n e.1 ∧ Bl n e.2
theorem scal_cl {c : IV} (h : scal c = true) : Cl c := by cases c <;> first | (simp [scal] at h; done) | constructor
theorem scal_bl {n : Nat} {c : IV} (h : scal c = true) : Bl n c := (scal_cl h).bl
theorem scal_fr {fr : Bool} {σ : Heap} {c : IV} (h : scal c = true) : Fr fr σ c c := by cases c <;> first | (simp [scal] at h; done) | constructor
theorem ScR.cl {rs : List (List IV)} (h : ScR rs) : ClR rs := fun row hr c hc => scal_cl (h row hr c hc)
theorem ClR.bl {n : Nat} {rs : List (List IV)} (h : ClR rs) : BlR n rs := fun row hr c hc => (h row hr c hc).bl
theorem ScR.bl {n : Nat} {rs : List (List IV)} (h : ScR rs) : BlR n rs := h.cl.bl
section
variable {n : Nat} {rs : List (List IV)}
@[go_sem] theorem ScR_nil : ScR [] = True := by simp [ScR]
@[go_sem] theorem ScR_cons {row : List IV} : ScR (row :: rs) = ((∀ c ∈ row, scal c = true) ∧ ScR rs) := by simp [ScR]
@[go_sem] theorem BlR_nil : BlR n [] = True := by simp [BlR]
@[go_sem] theorem BlR_cons {row : List IV} : BlR n (row :: rs) = ((∀ c ∈ row, Bl n c) ∧ BlR n rs) := by simp [BlR]
@[go_sem] theorem BlR_append {rs' : List (List IV)} : BlR n (rs ++ rs') = (BlR n rs ∧ BlR n rs') := by
 simp only [BlR, List.mem_append, eq_iff_iff]
 exact ⟨fun h => ⟨fun r hr => h r (.inl hr), fun r hr => h r (.inr hr)⟩, fun h r hr => hr.elim (h.1 r) (h.2 r)⟩
@[go_sem] theorem ClR_nil : ClR [] = True := by simp [ClR]
@[go_sem] theorem ClR_cons {row : List IV} : ClR (row :: rs) = ((∀ c ∈ row, Cl c) ∧ ClR rs) := by simp [ClR]
@[go_sem] theorem BlM_nil : BlM n [] = True := by simp [BlM]
attribute [go_sem] scal
theorem mem_rows {p : IV → Prop} : (∀ (i : Nat) (row : List IV) (j : Nat) (c : IV), rs[i]? = some row → row[j]? = some c → p c) ↔ ∀ row ∈ rs, ∀ c ∈ row, p c := by
 constructor
 ·intro h row hr c hc
  obtain ⟨i, hi⟩ := List.mem_iff_getElem?.1 hr
  obtain ⟨j, hj⟩ := List.mem_iff_getElem?.1 hc
  exact h i row j c hi hj
 ·exact fun h i row j c h1 h2 => h row (List.mem_of_getElem? h1) c (List.mem_of_getElem? h2)
theorem mem_cells {p : IV → Prop} {cs : List IV} : (∀ (j : Nat) (c : IV), cs[j]? = some c → p c) ↔ ∀ c ∈ cs, p c := by
 constructor
 ·intro h c hc
  obtain ⟨j, hj⟩ := List.mem_iff_getElem?.1 hc
  exact h j c hj
 ·exact fun h j c h1 => h c (List.mem_of_getElem? h1)
@[go_sem] theorem Bl_bool {b : Bool} : Bl n (.bool b) = True := eq_true (.bool b)
@[go_sem] theorem Bl_int {k : IntKind} {i : Int} : Bl n (.int k i) = True := eq_true (.int k i)
@[go_sem] theorem Bl_nilp : Bl n .nilp = True := eq_true .nilp
@[go_sem] theorem Bl_nils : Bl n .nils = True := eq_true .nils
@[go_sem] theorem Bl_ptr {b t i o : Nat} : Bl n (.ptr b t i o) = (b < n) := propext ⟨fun h => by cases h; assumption, .ptr _ _ _ _⟩
@[go_sem] theorem Bl_sl {b t i l : Nat} {c : Option Nat} : Bl n (.sl b t i l c) = (b < n) := propext ⟨fun h => by cases h; assumption, .sl _ _ _ _ _⟩
@[go_sem] theorem Bl_map {b : Nat} : Bl n (.map b) = (b < n) := propext ⟨fun h => by cases h; assumption, .map _⟩
@[go_sem] theorem Bl_fm {es : List (IV × IV)} : Bl n (.fm es) = True := eq_true (.fm es)
@[go_sem] theorem Cl_fm {es : List (IV × IV)} : Cl (.fm es) = True := eq_true (.fm es)
@[go_sem] theorem Bl_iter {b : Nat} : Bl n (.iter b) = (b < n) := propext ⟨fun h => by cases h; assumption, .iter _⟩
@[go_sem] theorem Bl_fptr {s i o : Nat} : Bl n (.fptr s rs i o) = BlR n rs := propext ⟨fun h => by cases h with | fptr _ _ _ _ h => exact mem_rows.1 h, fun h => .fptr _ _ _ _ (mem_rows.2 h)⟩
@[go_sem] theorem Bl_fz {s : Nat} : Bl n (.fz s rs) = BlR n rs := propext ⟨fun h => by cases h with | fz _ _ h => exact mem_rows.1 h, fun h => .fz _ _ (mem_rows.2 h)⟩
@[go_sem] theorem Bl_func {fn : Fn} {a b : List IV} : Bl n (.func fn a b) = ((∀ c ∈ a, Bl n c) ∧ ∀ c ∈ b, Bl n c) := propext ⟨fun h => by cases h with | func _ _ _ h1 h2 => exact ⟨mem_cells.1 h1, mem_cells.1 h2⟩, fun h => .func _ _ _ (mem_cells.2 h.1) (mem_cells.2 h.2)⟩
@[go_sem] theorem Bl_agg {cs : List IV} : Bl n (.agg cs) = ∀ c ∈ cs, Bl n c := propext ⟨fun h => by cases h with | agg _ h1 => exact mem_cells.1 h1, fun h => .agg _ (mem_cells.2 h)⟩
@[go_sem] theorem Bl_tup {cs : List IV} : Bl n (.tup cs) = ∀ c ∈ cs, Bl n c := propext ⟨fun h => by cases h with | tup _ h1 => exact mem_cells.1 h1, fun h => .tup _ (mem_cells.2 h)⟩
@[go_sem] theorem Cl_bool {b : Bool} : Cl (.bool b) = True := eq_true (.bool b)
@[go_sem] theorem Cl_int {k : IntKind} {i : Int} : Cl (.int k i) = True := eq_true (.int k i)
@[go_sem] theorem Cl_fptr {s i o : Nat} : Cl (.fptr s rs i o) = ClR rs := propext ⟨fun h => by cases h with | fptr _ _ _ _ h => exact mem_rows.1 h, fun h => .fptr _ _ _ _ (mem_rows.2 h)⟩
@[go_sem] theorem Cl_fz {s : Nat} : Cl (.fz s rs) = ClR rs := propext ⟨fun h => by cases h with | fz _ _ h => exact mem_rows.1 h, fun h => .fz _ _ (mem_rows.2 h)⟩
@[go_sem] theorem Cl_func {fn : Fn} {a b : List IV} : Cl (.func fn a b) = ((∀ c ∈ a, Cl c) ∧ ∀ c ∈ b, Cl c) := propext ⟨fun h => by cases h with | func _ _ _ h1 h2 => exact ⟨mem_cells.1 h1, mem_cells.1 h2⟩, fun h => .func _ _ _ (mem_cells.2 h.1) (mem_cells.2 h.2)⟩
@[go_sem] theorem Cl_agg {cs : List IV} : Cl (.agg cs) = ∀ c ∈ cs, Cl c := propext ⟨fun h => by cases h with | agg _ h1 => exact mem_cells.1 h1, fun h => .agg _ (mem_cells.2 h)⟩
@[go_sem] theorem EnBl_nil : EnBl n [] = True := by simp [EnBl]
@[go_sem] theorem EnBl_cons {k : Nat} {v : IV} {l : List (Nat × IV)} : EnBl n ((k, v) :: l) = (Bl n v ∧ EnBl n l) := by simp [EnBl]
@[go_sem] theorem HeBl_nil : HeBl n [] = True := by simp [HeBl]
@[go_sem] theorem HeBl_cons {o : IObj} {σ : Heap} : HeBl n (o :: σ) = (ObBl n o ∧ HeBl n σ) := by simp [HeBl]
@[go_sem] theorem HeBl_append {σ τ : Heap} : HeBl n (σ ++ τ) = (HeBl n σ ∧ HeBl n τ) := by
 simp only [HeBl, List.mem_append, eq_iff_iff]
 exact ⟨fun h => ⟨fun r hr => h r (.inl hr), fun r hr => h r (.inr hr)⟩, fun h r hr => hr.elim (h.1 r) (h.2 r)⟩
@[go_sem] theorem ObBl_rows {s : Nat} : ObBl n (.rows s rs) = BlR n rs := rfl
@[go_sem] theorem ObBl_map {es : List (IV × IV)} : ObBl n (.map es) = BlM n es := rfl
@[go_sem] theorem ObBl_iter {b : Nat} {es todo : List (IV × IV)} {cur : Option (IV × IV)} : ObBl n (.iter (some b) es cur todo) = (b < n ∧ BlM n es ∧ BlM n todo ∧ ∀ e, cur = some e → Bl n e.1 ∧ Bl n e.2) := by simp [ObBl, BlM]
@[go_sem] theorem ObBl_iter0 {es todo : List (IV × IV)} {cur : Option (IV × IV)} : ObBl n (.iter none es cur todo) = (BlM n es ∧ BlM n todo ∧ ∀ e, cur = some e → Bl n e.1 ∧ Bl n e.2) := by simp [ObBl, BlM]
@[go_sem] theorem ObBl_dead : ObBl n .dead = True := rfl
@[go_sem] theorem ObBl_hole : ObBl n .hole = True := rfl
@[go_sem] theorem blS_eq {e : Env} {σ : Heap} : blS e σ = (EnBl σ.length e.nm ∧ EnBl σ.length e.gl ∧ HeBl σ.length σ) := rfl
attribute [go_sem] fgt
end
@[go_sem] theorem blt_dec {a b : Nat} : Nat.blt a b = decide (a < b) := by
 by_cases h : a < b
 ·rw [decide_eq_true h, Nat.blt_eq]; exact h
 ·rw [decide_eq_false h]; cases hb : Nat.blt a b with
  | true => rw [Nat.blt_eq] at hb; exact absurd hb h
  | false => rfl
@[go_sem] theorem ble_dec {a b : Nat} : Nat.ble a b = decide (a ≤ b) := by
 by_cases h : a ≤ b
 ·rw [decide_eq_true h, Nat.ble_eq]; exact h
 ·rw [decide_eq_false h]; cases hb : Nat.ble a b with
  | true => rw [Nat.ble_eq] at hb; exact absurd hb h
  | false => rfl
@[go_sem] theorem beq_dec {a b : Nat} : Nat.beq a b = decide (a = b) := by
 by_cases h : a = b
 ·rw [decide_eq_true h, Nat.beq_eq]; exact h
 ·rw [decide_eq_false h]; cases hb : Nat.beq a b with
  | true => rw [Nat.beq_eq] at hb; exact absurd hb h
  | false => rfl
def cutR (i len : Nat) (rs : List (List IV)) : List (List IV) := (rs.drop i).take len
@[go_sem] theorem cutR_all {rs : List (List IV)} {len : Nat} (h : rs.length = len) : cutR 0 len rs = rs := by simp [cutR, h.symm]
mutual
def frzV : Nat → Heap → IV → IV
 | 0, _, v => v
 | d + 1, h, .sl b _ i len _ => match h[b]? with
  | some (.rows s rs) => .fz s (frzR d h (cutR i len rs))
  | _ => .nils
 | d + 1, h, .ptr b _ i o => match h[b]? with
  | some (.rows s rs) => .fptr s (frzR d h rs) i o
  | _ => .nilp
 | _ + 1, h, .map b => match h[b]? with
  | some (.map es) => .fm es
  | _ => .nilm
 | d + 1, h, .agg cs => .agg (frzL d h cs)
 | d + 1, h, .tup cs => .tup (frzL d h cs)
 | d + 1, h, .func fn a b => .func fn (frzL d h a) (frzL d h b)
 | _ + 1, _, v => v
termination_by d _ _ => (d, 0)
def frzR (d : Nat) (h : Heap) (rs : List (List IV)) : List (List IV) := rs.map (·.map (frzV d h))
termination_by (d, 1)
def frzL (d : Nat) (h : Heap) (cs : List IV) : List IV := cs.map (frzV d h)
termination_by (d, 1)
end
mutual
def frzOK : Bool → Nat → Heap → IV → Prop
 | fr, 0, _, v => scal v = true ∨ (fr = true ∧ Cl v)
 | fr, d + 1, h, .sl b tot i len _ => match h[b]? with
  | some (.rows _ rs) => tot = rs.length ∧ i + len ≤ rs.length ∧ okR fr d h (cutR i len rs)
  | _ => False
 | fr, d + 1, h, .ptr b tot i _ => match h[b]? with
  | some (.rows _ rs) => tot = rs.length ∧ i < rs.length ∧ okR fr d h rs
  | _ => False
 | _, _ + 1, h, .map b => match h[b]? with
  | some (.map es) => fltM es = true
  | _ => False
 | fr, d + 1, h, .agg cs => okL fr d h cs
 | fr, d + 1, h, .tup cs => okL fr d h cs
 | fr, d + 1, h, .func _ a b => okL fr d h a ∧ okL fr d h b
 | fr, _ + 1, _, v => scal v = true ∨ (fr = true ∧ Cl v)
termination_by _ d _ _ => (d, 0)
def okR (fr : Bool) (d : Nat) (h : Heap) (rs : List (List IV)) : Prop := ∀ row ∈ rs, ∀ c ∈ row, frzOK fr d h c
termination_by (d, 1)
def okL (fr : Bool) (d : Nat) (h : Heap) (cs : List IV) : Prop := ∀ c ∈ cs, frzOK fr d h c
termination_by (d, 1)
end
theorem frz_sc {d : Nat} {h : Heap} {v : IV} (hs : scal v = true) : frzV d h v = v := by
 cases d <;> cases v <;> first | (simp [scal] at hs; done) | (simp only [frzV])
theorem ok_sc {fr : Bool} {d : Nat} {h : Heap} {v : IV} (hs : scal v = true) : frzOK fr d h v := by
 cases d <;> cases v <;> first | (simp [scal] at hs; done) | (simp [frzOK, scal]; done)
theorem frz_fr {fr : Bool} : ∀ (d : Nat) (h : Heap) (v : IV), frzOK fr d h v → Fr fr h v (frzV d h v) := by
 intro d
 induction d with
 | zero =>
  intro h v hk
  simp only [frzOK] at hk
  simp only [frzV]
  rcases hk with hk | hk
  ·exact scal_fr hk
  ·exact .cl v hk.1 hk.2
 | succ d ih =>
  intro h v hk
  have lst : ∀ cs, okL fr d h cs → (frzL d h cs).length = cs.length ∧ ∀ (j : Nat) (c c' : IV), cs[j]? = some c → (frzL d h cs)[j]? = some c' → Fr fr h c c' := fun cs hc => by
   simp only [frzL, okL] at *
   refine ⟨by simp, fun j c c' e1 e2 => ?_⟩
   rw [List.getElem?_map, e1] at e2
   simp only [Option.map_some, Option.some.injEq] at e2
   subst e2
   exact ih h c (hc c (List.mem_of_getElem? e1))
  have sc : scal v = true ∨ (fr = true ∧ Cl v) → frzV (d + 1) h v = v → Fr fr h v (frzV (d + 1) h v) := fun hk he => by
   rw [he]
   rcases hk with hk | hk
   ·exact scal_fr hk
   ·exact .cl v hk.1 hk.2
  cases v with
  | sl b tot i len cap =>
   simp only [frzOK] at hk
   simp only [frzV]
   split at hk
   ·rename_i s rs hb
    obtain ⟨h1, h2, h3⟩ := hk
    simp only [okR] at h3
    simp only [frzR]
    have hcut : ∀ k row, k < len → rs[i + k]? = some row → (cutR i len rs)[k]? = some row := fun k row hk e => by
     simp only [cutR, List.getElem?_take, hk, if_true, List.getElem?_drop]; exact e
    have hlt : ∀ k row', ((cutR i len rs).map (·.map (frzV d h)))[k]? = some row' → k < len := fun k row' e => by
     have := (List.getElem?_eq_some_iff.1 e).1
     simp [cutR] at this; omega
    refine .sl b tot i len cap s rs _ hb h1 h2 (by simp [cutR]; omega) (fun k row row' e1 e2 => ?_) fun k row row' j c c' e1 e2 e3 e4 => ?_
    ·have e5 := hcut k row (hlt k row' e2) e1
     rw [List.getElem?_map, e5] at e2
     simp only [Option.map_some, Option.some.injEq] at e2
     subst e2; simp
    ·have e5 := hcut k row (hlt k row' e2) e1
     rw [List.getElem?_map, e5] at e2
     simp only [Option.map_some, Option.some.injEq] at e2
     subst e2
     rw [List.getElem?_map, e3] at e4
     simp only [Option.map_some, Option.some.injEq] at e4
     subst e4
     exact ih h c (h3 row (List.mem_of_getElem? e5) c (List.mem_of_getElem? e3))
   ·exact hk.elim
  | ptr b tot i o =>
   simp only [frzOK] at hk
   simp only [frzV]
   split at hk
   ·rename_i s rs hb
    obtain ⟨h1, h2, h3⟩ := hk
    simp only [okR] at h3
    simp only [frzR]
    refine .ptr b tot i o s rs _ hb h1 h2 (by simp) (fun k row row' e1 e2 => ?_) fun k row row' j c c' e1 e2 e3 e4 => ?_
    ·rw [List.getElem?_map, e1] at e2
     simp only [Option.map_some, Option.some.injEq] at e2
     subst e2; simp
    ·rw [List.getElem?_map, e1] at e2
     simp only [Option.map_some, Option.some.injEq] at e2
     subst e2
     rw [List.getElem?_map, e3] at e4
     simp only [Option.map_some, Option.some.injEq] at e4
     subst e4
     exact ih h c (h3 row (List.mem_of_getElem? e1) c (List.mem_of_getElem? e3))
   ·exact hk.elim
  | map b =>
   simp only [frzOK] at hk
   simp only [frzV]
   split at hk
   ·rename_i es hb
    exact .map b es hb hk
   ·exact hk.elim
  | agg cs =>
   simp only [frzOK] at hk
   simp only [frzV]
   obtain ⟨h1, h2⟩ := lst cs hk
   exact .agg cs _ h1 h2
  | tup cs =>
   simp only [frzOK] at hk
   simp only [frzV]
   obtain ⟨h1, h2⟩ := lst cs hk
   exact .tup cs _ h1 h2
  | func fn a b =>
   simp only [frzOK] at hk
   simp only [frzV]
   obtain ⟨h1, h2⟩ := lst a hk.1
   obtain ⟨h3, h4⟩ := lst b hk.2
   exact .func fn a b _ _ h1 h3 h2 h4
  | _ => exact sc (by simpa only [frzOK] using hk) (by simp only [frzV])
section
variable {d : Nat} {h : Heap} {fr : Bool} {rs : List (List IV)}
theorem frzR_sc (hs : ScR rs) : frzR d h rs = rs := by
 simp only [frzR]
 refine (List.map_congr_left fun row hr => ?_).trans (List.map_id _)
 exact (List.map_congr_left fun c hc => frz_sc (hs row hr c hc)).trans (List.map_id _)
theorem okR_sc (hs : ScR rs) : okR fr d h rs := by simp only [okR]; exact fun row hr c hc => ok_sc (hs row hr c hc)
@[go_sem] theorem frzR_sc' (hs : ScR rs) : frzR d h rs = rs := frzR_sc hs
@[go_sem] theorem okR_sc' (hs : ScR rs) : okR fr d h rs = True := eq_true (okR_sc hs)
@[go_sem] theorem frzL_nil : frzL d h [] = [] := by simp [frzL]
@[go_sem] theorem frzL_cons {c : IV} {cs : List IV} : frzL d h (c :: cs) = frzV d h c :: frzL d h cs := by simp [frzL]
@[go_sem] theorem okL_nil : okL fr d h [] = True := by simp [okL]
@[go_sem] theorem okL_cons {c : IV} {cs : List IV} : okL fr d h (c :: cs) = (frzOK fr d h c ∧ okL fr d h cs) := by simp [okL]
@[go_sem] theorem frzV_bool {b : Bool} : frzV d h (.bool b) = .bool b := frz_sc rfl
@[go_sem] theorem frzV_int {k : IntKind} {i : Int} : frzV d h (.int k i) = .int k i := frz_sc rfl
@[go_sem] theorem frzV_str {s : ByteArray} : frzV d h (.str s) = .str s := frz_sc rfl
@[go_sem] theorem frzV_nilp : frzV d h .nilp = .nilp := frz_sc rfl
@[go_sem] theorem frzV_nils : frzV d h .nils = .nils := frz_sc rfl
@[go_sem] theorem frzV_nilm : frzV d h .nilm = .nilm := frz_sc rfl
@[go_sem] theorem frzV_nilf : frzV d h .nilf = .nilf := frz_sc rfl
@[go_sem] theorem frzV_fz {s : Nat} : frzV d h (.fz s rs) = .fz s rs := by cases d <;> simp only [frzV]
@[go_sem] theorem frzV_fptr {s i o : Nat} : frzV d h (.fptr s rs i o) = .fptr s rs i o := by cases d <;> simp only [frzV]
@[go_sem] theorem frzV_agg {cs : List IV} : frzV (d + 1) h (.agg cs) = .agg (frzL d h cs) := by simp only [frzV]
@[go_sem] theorem frzV_tup {cs : List IV} : frzV (d + 1) h (.tup cs) = .tup (frzL d h cs) := by simp only [frzV]
@[go_sem] theorem frzV_func {fn : Fn} {a b : List IV} : frzV (d + 1) h (.func fn a b) = .func fn (frzL d h a) (frzL d h b) := by simp only [frzV]
@[go_sem] theorem frzV_sl {b t i l : Nat} {c : Option Nat} : frzV (d + 1) h (.sl b t i l c) = match h[b]? with | some (.rows s rs) => .fz s (frzR d h (cutR i l rs)) | _ => .nils := by simp only [frzV]
@[go_sem] theorem frzV_ptr {b t i o : Nat} : frzV (d + 1) h (.ptr b t i o) = match h[b]? with | some (.rows s rs) => .fptr s (frzR d h rs) i o | _ => .nilp := by simp only [frzV]
@[go_sem] theorem frzV_map {b : Nat} : frzV (d + 1) h (.map b) = match h[b]? with | some (.map es) => .fm es | _ => .nilm := by simp only [frzV]
@[go_sem] theorem frzV_fm {es : List (IV × IV)} : frzV d h (.fm es) = .fm es := by cases d <;> simp only [frzV]
@[go_sem] theorem frzOK_map {b : Nat} : frzOK fr (d + 1) h (.map b) = match h[b]? with | some (.map es) => fltM es = true | _ => False := by simp only [frzOK]
@[go_sem] theorem frzOK_fm {es : List (IV × IV)} : frzOK fr d h (.fm es) = (fr = true) := by cases d <;> simp [frzOK, scal, Cl_fm]
@[go_sem] theorem frzOK_bool {b : Bool} : frzOK fr d h (.bool b) = True := eq_true (ok_sc rfl)
@[go_sem] theorem frzOK_int {k : IntKind} {i : Int} : frzOK fr d h (.int k i) = True := eq_true (ok_sc rfl)
@[go_sem] theorem frzOK_str {s : ByteArray} : frzOK fr d h (.str s) = True := eq_true (ok_sc rfl)
@[go_sem] theorem frzOK_nilp : frzOK fr d h .nilp = True := eq_true (ok_sc rfl)
@[go_sem] theorem frzOK_nils : frzOK fr d h .nils = True := eq_true (ok_sc rfl)
@[go_sem] theorem frzOK_nilm : frzOK fr d h .nilm = True := eq_true (ok_sc rfl)
@[go_sem] theorem frzOK_nilf : frzOK fr d h .nilf = True := eq_true (ok_sc rfl)
@[go_sem] theorem frzOK_fz {s : Nat} : frzOK fr d h (.fz s rs) = (fr = true ∧ ClR rs) := by cases d <;> simp [frzOK, scal, Cl_fz]
@[go_sem] theorem frzOK_fptr {s i o : Nat} : frzOK fr d h (.fptr s rs i o) = (fr = true ∧ ClR rs) := by cases d <;> simp [frzOK, scal, Cl_fptr]
@[go_sem] theorem frzOK_agg {cs : List IV} : frzOK fr (d + 1) h (.agg cs) = okL fr d h cs := by simp only [frzOK]
@[go_sem] theorem frzOK_tup {cs : List IV} : frzOK fr (d + 1) h (.tup cs) = okL fr d h cs := by simp only [frzOK]
@[go_sem] theorem frzOK_func {fn : Fn} {a b : List IV} : frzOK fr (d + 1) h (.func fn a b) = (okL fr d h a ∧ okL fr d h b) := by simp only [frzOK]
@[go_sem] theorem frzOK_sl {b t i l : Nat} {c : Option Nat} : frzOK fr (d + 1) h (.sl b t i l c) = match h[b]? with | some (.rows _ rs) => t = rs.length ∧ i + l ≤ rs.length ∧ okR fr d h (cutR i l rs) | _ => False := by simp only [frzOK]
@[go_sem] theorem frzOK_ptr {b t i o : Nat} : frzOK fr (d + 1) h (.ptr b t i o) = match h[b]? with | some (.rows _ rs) => t = rs.length ∧ i < rs.length ∧ okR fr d h rs | _ => False := by simp only [frzOK]
end
section
variable {P : Program} {μ : Mu} {F : Fz} {w : World} {σ : Heap} {Q : XPost}
theorem ICalls.of_bodyE {gl : List (Nat × IV)} {f : FuncId} {fn : Func} {c : Code} {args : List IV} {K : IV → Heap → Prop} (x : Bool) (m : Nat) (ex : List Nat) (hf : P.funcs[f]? = some fn) (hb : fn.body = some c)
  (hcall : ∀ (args : Array Value) (w : World), (callFunc f args).run P w = .ok (.enter f args) w) (hn : Nat.ble args.length fn.ntmps = true)
  (h : ∀ R : IV → Heap → Prop, (∀ r σ', K r σ' → R r σ') → yC P c (retQ P fn.results.toList R) ⟨x, fn.ntmps, m, ex, gl, enum 0 args, []⟩ σ) : ICalls P gl f args σ K :=
 ICalls.of_body x m ex hf hb hcall hn (yC_sound _ _ _ _ (h _ fun _ _ h => h))
def fgtK (σ : Heap) (K : IV → Heap → Prop) (r : IV) (σ' : Heap) : Prop := ∃ σ0, (fgt σ0 σ' ∧ σ.length ≤ σ0.length ∧ Bl σ0.length r ∧ HeBl σ0.length σ0) ∧ K r σ0
theorem ICalls.forget {gl : List (Nat × IV)} {f : FuncId} {args : List IV} {K : IV → Heap → Prop} (h : ICalls P gl f args σ (fgtK σ K)) : ICalls P gl f args σ K := by
 refine ⟨h.1, fun μ F w vs hH hv hgl => (h.2 μ F w vs hH hv hgl).mono ?_⟩
 rintro e w' ⟨v, r, σ', μ', F', rfl, ⟨σ0, ⟨h1, h2, h3, h4⟩, hK⟩, hvr, hH', hX⟩
 exact ⟨v, r, σ0, μ'.cut σ0.length, F', rfl, hK, Bl.vr hvr h3, hH'.cut h1 h4, Mu.cut_ext hH hX h2⟩
theorem YCalls.roundE {gl : List (Nat × IV)} {l : Nat} {args : List IV} {R : IV → Heap → Prop} {r : Loop} {e : Env} {ps : Array Tmp} {as body : Code} (b : Nat) (h1 : r.state = .ready) (h2 : r.pending = none) (h3 : r.params = ps) (h4 : r.assign = as) (h5 : r.body = body)
  (hσ : σ[b]? = some (.yrec l r e)) (hlen : args.length = ps.size)
  (h : yC P as (thenQ (fun e' σ' => yC P body (roundQ b l r e R) e' σ') noQ) (e.puts ps.toList args) (σ.set b .hole)) : YCalls P gl l args σ R := by
 subst h3; subst h4; subst h5
 refine YCalls.round hσ h1 h2 hlen ((yC_sound _ _ _ _ h).mono fun x e' σ' hq => ?_)
 cases x with
 | normal => exact yC_sound _ _ _ _ hq
 | exit i => exact hq
 | ret => exact hq
@[go_sem] theorem roundQ_normal {b l : Nat} {r : Loop} {e e' : Env} {R : IV → Heap → Prop} : roundQ b l r e R .normal e' σ = (σ[b]? = some .hole ∧ R (.bool true) (σ.set b (.yrec l r e))) := _root_.id rfl
@[go_sem] theorem roundQ_exit {b l i : Nat} {r : Loop} {e e' : Env} {R : IV → Heap → Prop} : roundQ b l r e R (.exit i) e' σ = (σ[b]? = some .hole ∧ R (.bool false) (σ.set b (.yrec l { r with state := .done, pending := some (.exit i) } e))) := _root_.id rfl
@[go_sem] theorem roundQ_ret {b l : Nat} {r : Loop} {e e' : Env} {R : IV → Heap → Prop} : roundQ b l r e R .ret e' σ = (σ[b]? = some .hole ∧ R (.bool false) (σ.set b (.yrec l { r with state := .done, pending := some .ret } e))) := _root_.id rfl
@[go_sem] theorem jumpQ_none {e : Env} : jumpQ Q e σ none = Q .normal e σ := _root_.id rfl
@[go_sem] theorem jumpQ_exit {e : Env} {i : Nat} : jumpQ Q e σ (some (.exit i)) = Q (.exit i) e σ := _root_.id rfl
@[go_sem] theorem jumpQ_ret {e : Env} : jumpQ Q e σ (some .ret) = Q .ret e σ := _root_.id rfl
@[go_sem] theorem puts_nil {e : Env} {cs : List IV} : e.puts [] cs = e := by cases cs <;> rfl
@[go_sem] theorem puts_cons {e : Env} {p : Tmp} {ps : List Tmp} {c : IV} {cs : List IV} : e.puts (p :: ps) (c :: cs) = (e.putO (some p) c).puts ps cs := _root_.id rfl
theorem YCalls.mono {gl : List (Nat × IV)} {l : Nat} {args : List IV} {R R' : IV → Heap → Prop} (h : YCalls P gl l args σ R) (hr : ∀ r σ', R r σ' → R' r σ') : YCalls P gl l args σ R' := TCalls.mono (f := .yl l) h hr
def nlV (nb : Nat) (v v' : IV) : Prop := v' = v ∨ (v = .nils ∧ (v' = .sl nb 0 0 0 none ∨ v' = .sl nb 0 0 0 (some 0)))
def nlL (nb : Nat) : List (Nat × IV) → List (Nat × IV) → Prop
 | [], [] => True
 | (k, v) :: l, (k', v') :: l' => k = k' ∧ nlV nb v v' ∧ nlL nb l l'
 | _, _ => False
theorem nlL_get {nb t : Nat} : ∀ {l l' : List (Nat × IV)}, nlL nb l l' → ∀ {c' : IV}, eget l' t = some c' → ∃ c, eget l t = some c ∧ nlV nb c c'
 | [], [], _, c', h => by simp [eget] at h
 | (k, v) :: l, (k', v') :: l', hl, c', h => by
  obtain ⟨rfl, h1, h2⟩ := hl
  simp only [eget] at h ⊢
  cases hk : (k == t) with
  | true => rw [hk] at h; simp only [cond_true, Option.some.injEq] at h; subst h; exact ⟨v, rfl, h1⟩
  | false => rw [hk] at h; exact nlL_get h2 h
 | [], _ :: _, hl, _, _ => hl.elim
 | _ :: _, [], hl, _, _ => hl.elim
def nlRow (nb : Nat) : List IV → List IV → Prop
 | [], [] => True
 | v :: l, v' :: l' => nlV nb v v' ∧ nlRow nb l l'
 | _, _ => False
def nlRs (nb : Nat) : List (List IV) → List (List IV) → Prop
 | [], [] => True
 | r :: l, r' :: l' => nlRow nb r r' ∧ nlRs nb l l'
 | _, _ => False
def nlH (nb : Nat) : Heap → Heap → Prop
 | [], [] => True
 | o :: l, o' :: l' => (o' = o ∨ (match o, o' with | .rows s rs, .rows s' rs' => s' = s ∧ nlRs nb rs rs' | _, _ => False)) ∧ nlH nb l l'
 | _, _ => False
theorem nlRow_get {nb : Nat} : ∀ {l l' : List IV}, nlRow nb l l' → l'.length = l.length ∧ ∀ (j : Nat) (c' : IV), l'[j]? = some c' → ∃ c, l[j]? = some c ∧ nlV nb c c'
 | [], [], _ => by simp
 | v :: l, v' :: l', h => by
  obtain ⟨h1, h2⟩ := nlRow_get h.2
  refine ⟨by simp [h1], fun j c' e => ?_⟩
  cases j with
  | zero => simp at e; subst e; exact ⟨v, rfl, h.1⟩
  | succ j => simpa using h2 j c' (by simpa using e)
 | [], _ :: _, h => h.elim
 | _ :: _, [], h => h.elim
theorem nlRs_get {nb : Nat} : ∀ {l l' : List (List IV)}, nlRs nb l l' → l'.length = l.length ∧ ∀ (j : Nat) (c' : List IV), l'[j]? = some c' → ∃ c, l[j]? = some c ∧ nlRow nb c c'
 | [], [], _ => by simp
 | v :: l, v' :: l', h => by
  obtain ⟨h1, h2⟩ := nlRs_get h.2
  refine ⟨by simp [h1], fun j c' e => ?_⟩
  cases j with
  | zero => simp at e; subst e; exact ⟨v, rfl, h.1⟩
  | succ j => simpa using h2 j c' (by simpa using e)
 | [], _ :: _, h => h.elim
 | _ :: _, [], h => h.elim
theorem nlH_get {nb : Nat} : ∀ {l l' : Heap}, nlH nb l l' → l'.length = l.length ∧ ∀ (j : Nat) (o' : IObj), l'[j]? = some o' → ∃ o, l[j]? = some o ∧ (o' = o ∨ ∃ s rs rs', o = .rows s rs ∧ o' = .rows s rs' ∧ nlRs nb rs rs')
 | [], [], _ => by simp
 | v :: l, v' :: l', h => by
  obtain ⟨h1, h2⟩ := nlH_get h.2
  refine ⟨by simp [h1], fun j o' e => ?_⟩
  cases j with
  | zero =>
   simp at e; subst e
   refine ⟨v, rfl, h.1.imp _root_.id fun k => ?_⟩
   split at k
   ·obtain ⟨rfl, k2⟩ := k; exact ⟨_, _, _, rfl, rfl, k2⟩
   ·exact k.elim
  | succ j => simpa using h2 j o' (by simpa using e)
 | [], _ :: _, h => h.elim
 | _ :: _, [], h => h.elim
attribute [go_sem] nlV nlL nlRow nlRs nlH
theorem hput_new (σ : Heap) (o : IObj) : hput σ σ.length o = σ ++ [o] := by
 apply List.ext_getElem?
 intro b
 rw [getElem?_hput, List.getElem?_append]
 by_cases h1 : b = σ.length
 ·subst h1; simp
 ·by_cases h2 : b < σ.length
  ·simp [h1, h2]
  ·simp only [h1, h2, if_false]
   symm; simp; omega
theorem IWp.ownNil {c : Code} {x : Bool} {n m : Nat} {ex : List Nat} {gl nm : List (Nat × IV)} (s : Nat) (nm' : List (Nat × IV)) (σ' : Heap) (hs : 0 < s) (hl : nlL σ.length nm nm') (hσ : nlH σ.length σ σ')
  (h : IWp P c Q ⟨x, n, m, ex, gl, nm', []⟩ (σ' ++ [.rows s []])) : IWp P c Q ⟨x, n, m, ex, gl, nm, []⟩ σ := fun ro μ F a w hR hE hH => by
 have hnb : ¬ μ.u σ.length := fun hu => by obtain ⟨o, h1, _⟩ := hH.n _ hu; simp at h1
 have hle : μ.le (μ.add σ.length s 0 0 .empty) := Mu.le_add hnb
 obtain ⟨hH1, hX1⟩ := hH.change (b := σ.length) (o' := .rows s []) hle (fun x e => Mu.add_other x e) (fun g _ _ => rfl) (fun g off _ e => by simp [Mu.add] at e) (Nat.le_refl _) rfl rfl ⟨rfl, Nat.le_refl _⟩ (hH.notItN hnb)
  ⟨.inl rfl, hs, by simp [Mu.add], by simp [Mu.add], by simp, .inl ⟨by simp [Mu.add], rfl⟩⟩
 rw [hput_new] at hH1
 have hv : ∀ {v : Value} {c c' : IV}, nlV σ.length c c' → VR (μ.add σ.length s 0 0 .empty) F w v c → VR (μ.add σ.length s 0 0 .empty) F w v c' := fun {v c c'} h hv => by
  rcases h with rfl | ⟨rfl, rfl | rfl⟩
  ·exact hv
  ·cases hv
   exact .sl _ σ.length 0 0 0 none rfl (.inl rfl) (by simp [Mu.add]) fun _ => by simp [Mu.add, SlOK]
  ·cases hv
   exact .sl _ σ.length 0 0 0 (some 0) rfl (.inl rfl) (by simp [Mu.add]) fun _ => by simp [Mu.add, SlOK]
 obtain ⟨g1, g2⟩ := nlH_get hσ
 have hget : ∀ (b : Nat) (o' : IObj), (σ' ++ [.rows s []])[b]? = some o' → ∃ o, (σ ++ [.rows s []])[b]? = some o ∧ (o' = o ∨ ∃ s rs rs', o = .rows s rs ∧ o' = .rows s rs' ∧ nlRs σ.length rs rs') := fun b o' e => by
  rw [List.getElem?_append] at e
  split at e
  ·rename_i hlt
   obtain ⟨o, o1, o2⟩ := g2 b o' e
   exact ⟨o, by rw [List.getElem?_append_left (by omega)]; exact o1, o2⟩
  ·rename_i hlt
   exact ⟨o', by rw [List.getElem?_append_right (by omega), ← g1]; exact e, .inl rfl⟩
 have hH2 : HR (μ.add σ.length s 0 0 .empty) F (σ' ++ [.rows s []]) w := by
  refine ⟨fun b hu => ?_, fun b o' ho' => ?_, hH1.inj, hH1.fro, hH1.lt, hH1.flt, fun b b' l r r' e e' h1 h2 => ?_, fun x b es cur todo o h1 h2 => ?_⟩
  ·obtain ⟨o, o1, o2⟩ := hH1.n b hu
   have hlt := (List.getElem?_eq_some_iff.1 o1).1
   have hlt' : b < (σ' ++ [IObj.rows s []]).length := by simp at hlt ⊢; omega
   obtain ⟨o3, k1, k2⟩ := hget b _ (List.getElem?_eq_getElem hlt')
   refine ⟨_, List.getElem?_eq_getElem hlt', ?_⟩
   rw [o1] at k1; cases k1
   rcases k2 with k2 | ⟨_, _, _, rfl, k2, _⟩
   ·rw [k2]; exact o2
   ·rw [k2]; rfl
  ·obtain ⟨o, k1, k2⟩ := hget b o' ho'
   have hob := hH1.obj b o k1
   rcases k2 with rfl | ⟨s0, rs, rs', rfl, rfl, k2⟩
   ·exact hob
   ·obtain ⟨q0, q1, q2, q3, q4, q5⟩ := hob
    obtain ⟨n1, n2⟩ := nlRs_get k2
    refine ⟨q0, q1, q2, by omega, fun i row hrow => ?_, ?_⟩
    ·obtain ⟨row0, r1, r2⟩ := n2 i row hrow
     rw [(nlRow_get r2).1]; exact q4 i row0 r1
    ·rcases q5 with ⟨q5, q6⟩ | ⟨g, off, cs, T, q5, q6, q7, q8, q9⟩
     ·subst q6
      exact .inl ⟨q5, List.eq_nil_of_length_eq_zero (by simpa using n1)⟩
     ·refine .inr ⟨g, off, cs, T, q5, q6, by omega, q8, fun i row j c' e1 e2 => ?_⟩
      obtain ⟨row0, r1, r2⟩ := n2 i row e1
      obtain ⟨c0, c1, c2⟩ := (nlRow_get r2).2 j c' e2
      obtain ⟨v, v1, v2⟩ := q9 i row0 j c0 r1 c1
      exact ⟨v, v1, hv c2 v2⟩
  ·have key : ∀ (z : Nat) (r : Loop) (e : Env), (σ' ++ [IObj.rows s []])[z]? = some (.yrec l r e) → (σ ++ [IObj.rows s []])[z]? = some (.yrec l r e) := fun z r e h => by
    obtain ⟨o, k1, k2⟩ := hget z _ h
    rcases k2 with k2 | ⟨_, _, _, _, k2, _⟩
    ·rw [k1, ← k2]
    ·cases k2
   exact hH1.yin b b' l r r' e e' (key _ _ _ h1) (key _ _ _ h2)
  ·obtain ⟨o1, k1, k2⟩ := hget x _ h1
   obtain ⟨o2, m1, m2⟩ := hget b _ h2
   have e1 : o1 = .iter (some b) es cur todo := by
    rcases k2 with k2 | ⟨_, _, _, _, k2, _⟩
    ·exact k2.symm
    ·cases k2
   subst e1
   have := hH1.itd x b es cur todo o2 k1 m1
   subst this
   rcases m2 with m2 | ⟨_, _, _, m2, _, _⟩
   ·exact m2
   ·cases m2
 have hE' : EnvR (μ.add σ.length s 0 0 .empty) F w a.tmps ⟨x, n, m, ex, gl, nm', []⟩ := by
  refine ⟨hE.size, fun t c hc => ?_, fun g c hc => (hE.glob g c hc).mono hle (fun _ h => h) fun _ _ => rfl⟩
  unfold Env.get at hc
  cases hn : isNamed m ex t with
  | true =>
   simp only [hn, cond_true] at hc
   obtain ⟨c0, h1, h2⟩ := nlL_get hl hc
   obtain ⟨v, v1, v2⟩ := hE.slot t c0 (by unfold Env.get; simp only [hn, cond_true]; exact h1)
   exact ⟨v, v1, hv h2 (v2.mono hle (fun _ h => h) fun _ _ => rfl)⟩
  | false => simp [hn, eget] at hc
 exact wpIn_mono (h ro _ F a w hR hE' hH2) fun ex a' w' hp => hp.ext hH2 hX1 (.refl rfl)
end
end Go.Idl
namespace Go.Idl
open Go.RowKit
def mp {α : Type} (f : α → List IV) (l : List α) : List (List IV) := l.map f
section
variable {α : Type} {f : α → List IV} {l : List α}
@[go_sem] theorem mp_length : (mp f l).length = l.length := by simp [mp]
@[go_sem] theorem mp_nil : mp f [] = [] := rfl
theorem mp_snoc {x : α} : mp f (l ++ [x]) = mp f l ++ [f x] := by simp [mp]
theorem mp_append {m : List α} : mp f (l ++ m) = mp f l ++ mp f m := by simp [mp]
theorem mp_set {i : Nat} {x : α} : mp f (l.set i x) = (mp f l).set i (f x) := by simp [mp, List.map_set]
theorem mp_take {i : Nat} : mp f (l.take i) = (mp f l).take i := by simp [mp, List.map_take]
theorem mp_sc (h : ∀ x, ∀ c ∈ f x, scal c = true) : ScR (mp f l) := by
 intro row hr
 simp only [mp, List.mem_map] at hr
 obtain ⟨x, _, rfl⟩ := hr
 exact h x
theorem mp_rows {n : Nat} (h : ∀ x, (f x).length = n) : ∀ r ∈ mp f l, r.length = n := by
 intro row hr
 simp only [mp, List.mem_map] at hr
 obtain ⟨x, _, rfl⟩ := hr
 exact h x
end
theorem rows_one {n : Nat} {rs : List (List IV)} (hs : ScR rs) (hr : ∀ r ∈ rs, r.length = n) : ∀ a ∈ rs, a.length = n ∧ ∀ x ∈ a, IV.one x = true := fun a ha =>
 ⟨hr a ha, fun x hx => by have := hs a ha x hx; cases x <;> first | rfl | (simp [scal] at this)⟩
def ar (n : Nat) (f : Nat → IV) : List (List IV) := (List.range n).map fun i => [f i]
def upF (f : Nat → IV) (i : Nat) (v : IV) : Nat → IV := fun j => if j = i then v else f j
section
variable {n : Nat} {f : Nat → IV}
theorem upF_bool {g : Nat → Bool} {i : Nat} {b : Bool} : upF (fun j => .bool (g j)) i (.bool b) = fun j => .bool (if j = i then b else g j) := by
 funext j; simp only [upF]; split <;> rfl
theorem ar_sc (h : ∀ i, scal (f i) = true) : ScR (ar n f) := by
 intro row hr c hc
 simp only [ar, List.mem_map] at hr
 obtain ⟨i, _, rfl⟩ := hr
 simp at hc
 rw [hc]; exact h i
@[go_sem] theorem ScR_ar_int {n : Nat} {k : IntKind} {g : Nat → Int} : ScR (ar n fun e => .int k (g e)) = True := eq_true (ar_sc fun _ => rfl)
@[go_sem] theorem ScR_ar_bool {n : Nat} {g : Nat → Bool} : ScR (ar n fun e => .bool (g e)) = True := eq_true (ar_sc fun _ => rfl)
@[go_sem] theorem ClR_ar_int {n : Nat} {k : IntKind} {g : Nat → Int} : ClR (ar n fun e => .int k (g e)) = True := eq_true (ar_sc fun _ => rfl).cl
@[go_sem] theorem ClR_ar_bool {n : Nat} {g : Nat → Bool} : ClR (ar n fun e => .bool (g e)) = True := eq_true (ar_sc fun _ => rfl).cl
@[go_sem] theorem BlR_ar_int {m n : Nat} {k : IntKind} {g : Nat → Int} : BlR m (ar n fun e => .int k (g e)) = True := eq_true (ar_sc fun _ => rfl).bl
@[go_sem] theorem BlR_ar_bool {m n : Nat} {g : Nat → Bool} : BlR m (ar n fun e => .bool (g e)) = True := eq_true (ar_sc fun _ => rfl).bl
end
theorem nlH_refl {nb : Nat} : ∀ (σ : Heap), nlH nb σ σ
 | [] => trivial
 | _ :: l => ⟨.inl rfl, nlH_refl l⟩
theorem nlL_refl {nb : Nat} : ∀ (l : List (Nat × IV)), nlL nb l l
 | [] => trivial
 | _ :: l => ⟨rfl, .inl rfl, nlL_refl l⟩
theorem nlL_eputC {nb t : Nat} {c : Option Nat} (hc : c = none ∨ c = some 0) : ∀ {l : List (Nat × IV)}, eget l t = some .nils → nlL nb l (eput l t (.sl nb 0 0 0 c))
 | [], h => by simp [eget] at h
 | (k, v) :: l, h => by
  simp only [eget] at h
  simp only [eput]
  cases hk : (k == t) with
  | true => rw [hk] at h; simp only [cond_true, Option.some.injEq] at h; exact ⟨rfl, .inr ⟨h, hc.elim (fun e => .inl (by rw [e])) fun e => .inr (by rw [e])⟩, nlL_refl l⟩
  | false => rw [hk] at h; exact ⟨rfl, .inl rfl, nlL_eputC hc h⟩
theorem nlL_eput {nb t : Nat} {l : List (Nat × IV)} (h : eget l t = some .nils) : nlL nb l (eput l t (.sl nb 0 0 0 none)) := nlL_eputC (.inl rfl) h
theorem IWp.ownNilS {P : Program} {Q : XPost} {σ : Heap} {c : Code} {x : Bool} {n m : Nat} {ex : List Nat} {gl nm : List (Nat × IV)} (s t : Nat) (hs : 0 < s) (hg : eget nm t = some .nils)
  (h : IWp P c Q ⟨x, n, m, ex, gl, eput nm t (.sl σ.length 0 0 0 none), []⟩ (σ ++ [.rows s []])) : IWp P c Q ⟨x, n, m, ex, gl, nm, []⟩ σ :=
 IWp.ownNil s _ _ hs (nlL_eput hg) (nlH_refl σ) h
mutual
def nz : Nat → IV → IV → Prop
 | 0, v, v' => v' = v
 | _ + 1, .nils, .fz _ [] => True
 | d + 1, .agg a, .agg b => nzL d a b
 | d + 1, .tup a, .tup b => nzL d a b
 | _ + 1, v, v' => v' = v
termination_by d _ _ => (d, 0)
def nzL (d : Nat) : List IV → List IV → Prop
 | [], [] => True
 | c :: l, c' :: l' => nz d c c' ∧ nzL d l l'
 | _, _ => False
termination_by l _ => (d, l.length + 1)
end
theorem nzL_get {d : Nat} : ∀ {l l' : List IV}, nzL d l l' → l'.length = l.length ∧ ∀ (j : Nat) (c c' : IV), l[j]? = some c → l'[j]? = some c' → nz d c c'
 | [], [], _ => by simp
 | c :: l, c' :: l', h => by
  simp only [nzL] at h
  obtain ⟨h1, h2⟩ := nzL_get h.2
  refine ⟨by simp [h1], fun j a b e1 e2 => ?_⟩
  cases j with
  | zero => simp at e1 e2; subst e1; subst e2; exact h.1
  | succ j => exact h2 j a b (by simpa using e1) (by simpa using e2)
 | [], _ :: _, h => by simp [nzL] at h
 | _ :: _, [], h => by simp [nzL] at h
theorem nz_fr {fr : Bool} {σ : Heap} : ∀ (d : Nat) {r v v' : IV}, Fr fr σ r v → nz d v v' → Fr fr σ r v' := by
 intro d
 induction d with
 | zero => intro r v v' h hz; simp only [nz] at hz; subst hz; exact h
 | succ d ih =>
  intro r v v' h hz
  have lst : ∀ (a b cs : List IV), nzL d a b → a.length = cs.length → (∀ (j : Nat) (c c' : IV), cs[j]? = some c → a[j]? = some c' → Fr fr σ c c') → b.length = cs.length ∧ ∀ (j : Nat) (c c' : IV), cs[j]? = some c → b[j]? = some c' → Fr fr σ c c' := fun a b cs hz hl hc => by
   obtain ⟨h1, h2⟩ := nzL_get hz
   refine ⟨by omega, fun j c c' e1 e2 => ?_⟩
   have := (List.getElem?_eq_some_iff.1 e2).1
   have e3 : a[j]? = some (a[j]'(by omega)) := List.getElem?_eq_getElem (by omega)
   exact ih (hc j c _ e1 e3) (h2 j _ c' e3 e2)
  have clst : ∀ (a b : List IV), fr = true → nzL d a b → (∀ (j : Nat) (c : IV), a[j]? = some c → Cl c) → b.length = a.length ∧ ∀ (j : Nat) (c c' : IV), a[j]? = some c → b[j]? = some c' → Fr fr σ c c' := fun a b hf hz hc =>
   lst a b a hz rfl fun j c c' e1 e2 => by rw [e1] at e2; cases e2; exact .cl c hf (hc j c e1)
  unfold nz at hz
  split at hz
  ·omega
  ·cases h with
   | nils => exact .nz _
   | cl _ hf hc => exact .nz _
  ·rename_i hd
   cases hd
   cases h with
   | agg cs _ hg h2 => obtain ⟨k1, k2⟩ := lst _ _ cs hz hg h2; exact .agg cs _ k1 k2
   | cl _ hf hc => cases hc with | agg _ hc => obtain ⟨k1, k2⟩ := clst _ _ hf hz hc; exact .agg _ _ k1 k2
  ·rename_i hd
   cases hd
   cases h with
   | tup cs _ hg h2 => obtain ⟨k1, k2⟩ := lst _ _ cs hz hg h2; exact .tup cs _ k1 k2
   | cl _ hf hc => cases hc with | tup _ hc => obtain ⟨k1, k2⟩ := clst _ _ hf hz hc; exact .tup _ _ k1 k2
  ·subst hz; exact h
section
variable {d : Nat}
@[go_sem] theorem nz_nil {s : Nat} : nz (d + 1) .nils (.fz s []) = True := by simp [nz]
@[go_sem] theorem nz_tup {a b : List IV} : nz (d + 1) (.tup a) (.tup b) = nzL d a b := by simp [nz]
theorem nz_rfl : ∀ (d : Nat) (v : IV), nz d v v := by
 intro d
 induction d with
 | zero => intro v; simp [nz]
 | succ d ih =>
  intro v
  have lst : ∀ l : List IV, nzL d l l := fun l => by
   induction l with
   | nil => simp [nzL]
   | cons c l ihl => simp only [nzL]; exact ⟨ih c, ihl⟩
  cases v <;> simp [nz, lst]
@[go_sem] theorem nz_self {v : IV} : nz d v v = True := eq_true (nz_rfl d v)
@[go_sem] theorem nz_int {k : IntKind} {n : Int} {v : IV} : nz d (.int k n) v = (v = .int k n) := by cases d <;> simp [nz]
@[go_sem] theorem nz_bool {b : Bool} {v : IV} : nz d (.bool b) v = (v = .bool b) := by cases d <;> simp [nz]
@[go_sem] theorem nzL_nil : nzL d [] [] = True := by simp [nzL]
@[go_sem] theorem nzL_cons {c c' : IV} {l l' : List IV} : nzL d (c :: l) (c' :: l') = (nz d c c' ∧ nzL d l l') := by simp [nzL]
end
theorem IFun.of_bodyZ {P : Program} {own : Bool} {gl : List (Nat × IV)} {f : FuncId} {fn : Func} {c : Code} {args : List IV} {V : IV → Prop} (x : Bool) (m : Nat) (ex : List Nat) (hf : P.funcs[f]? = some fn) (hb : fn.body = some c)
  (hcall : ∀ (args : Array Value) (w : World), (callFunc f args).run P w = .ok (.enter f args) w) (hn : Nat.ble args.length fn.ntmps = true)
  (h : ∀ R : IV → Heap → Prop, (∀ r σ v, V v → frzOK (!own) 4 σ r ∧ nz 4 (frzV 4 σ r) v → R r σ) → yC P c (retQ P fn.results.toList R) ⟨x, fn.ntmps, m, ex, gl, enum 0 args, []⟩ []) : IFun own P gl f args V :=
 IFun.of_body x m ex hf hb hcall hn fun R hR => h R fun r σ v hv hk => hR r σ v (nz_fr 4 (frz_fr 4 σ r hk.1) hk.2) hv
inductive Cx : (IV → IV) → Prop where
 | here : Cx fun v => v
 | agg (pre post : List IV) (C : IV → IV) (h1 : ∀ c ∈ pre, scal c = true) (h2 : ∀ c ∈ post, scal c = true) (h : Cx C) : Cx fun v => .agg (pre ++ C v :: post)
 | tup (pre post : List IV) (C : IV → IV) (h1 : ∀ c ∈ pre, scal c = true) (h2 : ∀ c ∈ post, scal c = true) (h : Cx C) : Cx fun v => .tup (pre ++ C v :: post)
section
variable {P : Program} {μ : Mu} {F : Fz} {w : World} {σ : Heap}
theorem Cx.split {C : IV → IV} (hC : Cx C) : ∀ {u : Value} {r x : IV}, VR μ F w u r → Fr false σ r (C x) → ∃ u0 r0, VR μ F w u0 r0 ∧ Fr false σ r0 x ∧ ∀ (μ' : Mu) (F' : Fz) (w' : World) (x' : IV), VR μ' F' w' u0 x' → VR μ' F' w' u (C x') := by
 induction hC with
 | here => exact fun {u r x} h hf => ⟨u, r, h, hf, fun _ _ _ _ h => h⟩
 | agg pre post C h1 h2 _ ih =>
  intro u r x h hf
  have hlist : ∀ (vs : List Value) (cs : List IV), vs.length = cs.length → (∀ (j : Nat) (v : Value) (c : IV), vs[j]? = some v → cs[j]? = some c → VR μ F w v c) → cs.length = (pre ++ C x :: post).length →
    (∀ (j : Nat) (c c' : IV), cs[j]? = some c → (pre ++ C x :: post)[j]? = some c' → Fr false σ c c') → ∃ u0 r0, VR μ F w u0 r0 ∧ Fr false σ r0 x ∧ ∀ (μ' : Mu) (F' : Fz) (w' : World) (x' : IV), VR μ' F' w' u0 x' → vs.length = (pre ++ C x' :: post).length ∧ ∀ (j : Nat) (v : Value) (c : IV), vs[j]? = some v → (pre ++ C x' :: post)[j]? = some c → VR μ' F' w' v c := by
   intro vs cs k1 k2 k3 k4
   have hj : pre.length < cs.length := by rw [k3]; simp
   have hj' : pre.length < vs.length := by omega
   have e1 : cs[pre.length]? = some cs[pre.length] := List.getElem?_eq_getElem hj
   have e2 : vs[pre.length]? = some vs[pre.length] := List.getElem?_eq_getElem hj'
   obtain ⟨u0, r0, q1, q2, q3⟩ := ih (k2 _ _ _ e2 e1) (k4 pre.length _ (C x) e1 (by simp))
   refine ⟨u0, r0, q1, q2, fun μ' F' w' x' hx => ⟨by rw [k1, k3]; simp, fun j v c g1 g2 => ?_⟩⟩
   have hlt := (List.getElem?_eq_some_iff.1 g1).1
   have e3 : cs[j]? = some (cs[j]'(by omega)) := List.getElem?_eq_getElem (by omega)
   rcases Nat.lt_trichotomy j pre.length with hlt' | rfl | hgt
   ·rw [List.getElem?_append_left hlt'] at g2
    exact scal_vr (k2 j v _ g1 e3) (k4 j _ c e3 (by rw [List.getElem?_append_left hlt']; exact g2)) (h1 c (List.mem_of_getElem? g2))
   ·simp at g2; subst g2
    rw [e2] at g1; cases g1
    exact q3 μ' F' w' x' hx
   ·have hx' : ∀ y, (pre ++ C y :: post)[j]? = post[j - pre.length - 1]? := fun y => by
     rw [List.getElem?_append_right (by omega), show j - pre.length = (j - pre.length - 1) + 1 by omega]; simp
    rw [hx'] at g2
    exact scal_vr (k2 j v _ g1 e3) (k4 j _ c e3 (by rw [hx']; exact g2)) (h2 c (List.mem_of_getElem? g2))
  cases hf with
  | cl v hf hc => cases hf
  | agg cs _ hg hfr =>
   cases h with
   | agg vs _ hl hv =>
    obtain ⟨u0, r0, q1, q2, q3⟩ := hlist vs cs hl hv hg.symm hfr
    exact ⟨u0, r0, q1, q2, fun μ' F' w' x' hx => let ⟨a, b⟩ := q3 μ' F' w' x' hx; .agg vs _ a b⟩
 | tup pre post C h1 h2 _ ih =>
  intro u r x h hf
  have hlist : ∀ (vs : List Value) (cs : List IV), vs.length = cs.length → (∀ (j : Nat) (v : Value) (c : IV), vs[j]? = some v → cs[j]? = some c → VR μ F w v c) → cs.length = (pre ++ C x :: post).length →
    (∀ (j : Nat) (c c' : IV), cs[j]? = some c → (pre ++ C x :: post)[j]? = some c' → Fr false σ c c') → ∃ u0 r0, VR μ F w u0 r0 ∧ Fr false σ r0 x ∧ ∀ (μ' : Mu) (F' : Fz) (w' : World) (x' : IV), VR μ' F' w' u0 x' → vs.length = (pre ++ C x' :: post).length ∧ ∀ (j : Nat) (v : Value) (c : IV), vs[j]? = some v → (pre ++ C x' :: post)[j]? = some c → VR μ' F' w' v c := by
   intro vs cs k1 k2 k3 k4
   have hj : pre.length < cs.length := by rw [k3]; simp
   have hj' : pre.length < vs.length := by omega
   have e1 : cs[pre.length]? = some cs[pre.length] := List.getElem?_eq_getElem hj
   have e2 : vs[pre.length]? = some vs[pre.length] := List.getElem?_eq_getElem hj'
   obtain ⟨u0, r0, q1, q2, q3⟩ := ih (k2 _ _ _ e2 e1) (k4 pre.length _ (C x) e1 (by simp))
   refine ⟨u0, r0, q1, q2, fun μ' F' w' x' hx => ⟨by rw [k1, k3]; simp, fun j v c g1 g2 => ?_⟩⟩
   have hlt := (List.getElem?_eq_some_iff.1 g1).1
   have e3 : cs[j]? = some (cs[j]'(by omega)) := List.getElem?_eq_getElem (by omega)
   rcases Nat.lt_trichotomy j pre.length with hlt' | rfl | hgt
   ·rw [List.getElem?_append_left hlt'] at g2
    exact scal_vr (k2 j v _ g1 e3) (k4 j _ c e3 (by rw [List.getElem?_append_left hlt']; exact g2)) (h1 c (List.mem_of_getElem? g2))
   ·simp at g2; subst g2
    rw [e2] at g1; cases g1
    exact q3 μ' F' w' x' hx
   ·have hx' : ∀ y, (pre ++ C y :: post)[j]? = post[j - pre.length - 1]? := fun y => by
     rw [List.getElem?_append_right (by omega), show j - pre.length = (j - pre.length - 1) + 1 by omega]; simp
    rw [hx'] at g2
    exact scal_vr (k2 j v _ g1 e3) (k4 j _ c e3 (by rw [hx']; exact g2)) (h2 c (List.mem_of_getElem? g2))
  cases hf with
  | cl v hf hc => cases hf
  | tup cs _ hg hfr =>
   cases h with
   | tup vs _ hl hv =>
    obtain ⟨u0, r0, q1, q2, q3⟩ := hlist vs cs hl hv hg.symm hfr
    exact ⟨u0, r0, q1, q2, fun μ' F' w' x' hx => let ⟨a, b⟩ := q3 μ' F' w' x' hx; .tup vs _ a b⟩
theorem IFun.callO {gl : List (Nat × IV)} {f : FuncId} {args args' : List IV} {V : IV → Prop} {K : IV → Heap → Prop} (h : IFun true P gl f args' V) (ha : Frs σ args args') (hg : ∀ g c, eget gl g = some c → Cl c)
  (hK : ∀ v, V v → ∃ (C : IV → IV) (s : Nat) (rows : List (List IV)), Cx C ∧ 0 < s ∧ v = C (.fz s rows) ∧ ScR rows ∧ K (C (.sl σ.length rows.length 0 rows.length none)) (σ ++ [.rows s rows])) : ICalls P gl f args σ K := by
 refine ⟨h.1, fun μ F w vs hH hv hgl => ?_⟩
 let F1 : Fz := ⟨fun g => F.f g ∨ ∃ b off, μ.u b ∧ μ.pl b = .at_ g off, fun g => F.u g ∨ g < w.heap.size, fun g h => h.elim (fun h => .inl (F.sub g h)) fun ⟨b, off, h1, h2⟩ => .inr (hH.lt b g off h1 h2)⟩
 obtain ⟨hlen, hget⟩ := ha.get
 have hv' : VRs Mu.none F1 w vs args' := ⟨hv.1.trans hlen.symm, fun j v c' e1 e2 => by
  have hj := (List.getElem?_eq_some_iff.1 e2).1
  have e3 : args[j]? = some (args[j]'(by omega)) := List.getElem?_eq_getElem (by omega)
  exact Fr.vr (F' := F1) hH (fun _ g h => Or.inl h) (fun _ _ => rfl) (fun b g off h1 h2 _ => Or.inr ⟨b, off, h1, h2⟩) (hget j _ _ e3 e2) (hv.2 j v _ e1 e3)⟩
 have hgl' : ∀ (g : Nat) (c : IV), eget gl g = some c → VR Mu.none F1 w (.pointer (some ⟨g, 0, Option.none⟩)) c := fun g c hc => Cl.vr (F := F) (F' := F1) (fun g h => Or.inl h) (fun _ _ => rfl) (hgl g c hc) (hg g c hc)
 refine (h.2 Mu.none F1 w vs (HR.empty fun g h => h.elim (hH.flt g) fun h => h) hv' hgl').mono ?_
 rintro e w' ⟨v, r, σ', μ1, F2, rfl, ⟨v', hfr, hV⟩, hvr, hH1, hX⟩
 have hu1 : ∀ g, g < w.heap.size → F2.u g := fun g hg => hX.fu g (.inr hg)
 have hsame : ∀ g, g < w.heap.size → w'.heap[g]? = w.heap[g]? := fun g hg => hX.same g (.inr hg)
 obtain ⟨C, s, rows, hC, hs0, rfl, hsc, hk⟩ := hK v' hV
 obtain ⟨u0, r0, q1, q2, q3⟩ := hC.split hvr hfr
 have hnb : ¬ μ.u σ.length := fun hu => by obtain ⟨o, h1, _⟩ := hH.n _ hu; simp at h1
 cases q2 with
 | cl v hf hc => cases hf
 | nz _ =>
  cases q1
  have hch := hH.change (b := σ.length) (o' := .rows s []) (w' := w') (Mu.le_add (s := s) (n := 0) (c := 0) (p := .empty) hnb) (fun x e => Mu.add_other x e) (fun g hg _ => hsame g hg) (fun g off _ e => by simp [Mu.add] at e) hX.size hX.os hX.tape hX.output (hH.notItN hnb)
   ⟨.inl rfl, hs0, by simp [Mu.add], by simp [Mu.add], by simp, .inl ⟨by simp [Mu.add], rfl⟩⟩
  rw [hput_new] at hch
  exact ⟨v, _, _, _, F, rfl, hk, q3 _ _ _ _ (.sl _ σ.length 0 0 0 none rfl (show _ ∨ _ from .inl rfl) (by simp [Mu.add]) fun _ => by simp [Mu.add, SlOK]), hch.1, hch.2⟩
 | sl b tot i len cap _ rs _ hb ht hl hn hr hc =>
  obtain ⟨hu, hs, hsz, hml, hrow, hcs⟩ := hH1.obj b _ hb
  cases q1 with
  | sl _ _ _ _ _ _ hk' hb' ht' hok =>
   have hok := hok (by omega)
   rcases hcs with ⟨hpl, h0⟩ | ⟨g, off, cs, T, hpl, hg', hcp1, hcp2, hcell⟩
   ·-- nothing lies behind it
    rw [hpl] at hok
    obtain ⟨rfl, rfl⟩ := hok
    have : rows = [] := List.eq_nil_of_length_eq_zero (by omega)
    subst this
    have hch := hH.change (b := σ.length) (o' := .rows s []) (w' := w') (Mu.le_add (s := s) (n := 0) (c := 0) (p := .empty) hnb) (fun x e => Mu.add_other x e) (fun g hg _ => hsame g hg) (fun g off _ e => by simp [Mu.add] at e) hX.size hX.os hX.tape hX.output (hH.notItN hnb)
     ⟨.inl rfl, hs, by simp [Mu.add], by simp [Mu.add], by simp, .inl ⟨by simp [Mu.add], rfl⟩⟩
    rw [hput_new] at hch
    exact ⟨v, _, _, _, F, rfl, hk, q3 _ _ _ _ (.sl _ σ.length 0 0 0 none rfl (show _ ∨ _ from .inl rfl) (by simp [Mu.add]) fun _ => by simp [Mu.add, SlOK]), hch.1, hch.2⟩
   ·rw [hpl] at hok
    obtain ⟨a, c, rfl, hlc, hic, ha', hcap⟩ := hok
    rw [hsz] at *
    have hglt := hH1.lt b g off hu hpl
    have hgge : w.heap.size ≤ g := by
     rcases Nat.lt_or_ge g w.heap.size with h | h
     ·exact absurd (hu1 g h) (hH1.fro b g off hu hpl)
     ·exact h
    let p : Place := .at_ g (off + i * s)
    have hle : μ.le (μ.add σ.length s rows.length c p) := Mu.le_add hnb
    have hbound : off + (i + c) * s ≤ cs.size := by
     have : (i + c) * s ≤ μ1.cp b * s := Nat.mul_le_mul_right s hic
     omega
    have hnotF : ¬ F.u g := fun h => by have := hH.flt g h; omega
    have hch := hH.change (b := σ.length) (o' := .rows s rows) (w' := w') hle (fun x e => Mu.add_other x e) (fun g hg _ => hsame g hg) (fun g' off' _ e => by
     simp only [Mu.add, if_true, p, Place.at_.injEq] at e
     obtain ⟨rfl, _⟩ := e
     exact ⟨.inl hgge, hglt⟩) hX.size hX.os hX.tape hX.output (hH.notItN hnb)
     ⟨.inl rfl, hs, by simp [Mu.add], by simp [Mu.add], fun k row' hk' => by
      have hk'' := (List.getElem?_eq_some_iff.1 hk').1
      have e1 : rs[i + k]? = some (rs[i + k]'(by omega)) := List.getElem?_eq_getElem (by omega)
      rw [hr k _ _ e1 hk']; exact hrow _ _ e1, .inr ⟨g, off + i * s, cs, T, by simp [Mu.add, p], hg', by simp [Mu.add]; omega, by simp [Mu.add]; rw [Nat.add_mul] at hbound; omega, fun k row' j c' hk' hj => by
      have hk'' := (List.getElem?_eq_some_iff.1 hk').1
      have e1 : rs[i + k]? = some (rs[i + k]'(by omega)) := List.getElem?_eq_getElem (by omega)
      have hrl := hr k _ _ e1 hk'
      have hj' := (List.getElem?_eq_some_iff.1 hj).1
      have e4 : (rs[i + k]'(by omega))[j]? = some ((rs[i + k]'(by omega))[j]'(by omega)) := List.getElem?_eq_getElem (by omega)
      obtain ⟨u, u1, u2⟩ := hcell _ _ j _ e1 e4
      refine ⟨u, by rw [show off + i * s + k * s + j = off + (i + k) * s + j by rw [Nat.add_mul]; omega]; exact u1, ?_⟩
      exact scal_vr u2 (hc k _ _ j _ _ e1 hk' e4 hj) (hsc row' (List.mem_of_getElem? hk') c' (List.mem_of_getElem? hj))⟩⟩
    rw [hput_new] at hch
    refine ⟨v, _, _, _, F, rfl, hk, q3 _ _ _ _ (.sl _ σ.length _ 0 _ none rfl (show _ ∨ _ from .inl rfl) (by simp [Mu.add]) fun _ => ?_), hch.1, hch.2⟩
    simp only [Mu.add, if_true, p, SlOK]
    exact ⟨a, c, by rw [hn], by omega, by omega, by rcases ha' with h | h; exact .inl h; exact .inr (by rw [h]; simp), by simp⟩
theorem okL_frs {d : Nat} : ∀ {args : List IV}, okL true d σ args → Frs σ args (frzL d σ args)
 | [], _ => by simp only [frzL, List.map_nil]; exact .nil
 | a :: l, h => by
  rw [okL_cons] at h
  rw [frzL_cons]
  exact .cons (frz_fr d σ a h.1) (okL_frs h.2)
theorem nzL_frs {d : Nat} : ∀ {args args' args'' : List IV}, Frs σ args args' → nzL d args' args'' → Frs σ args args''
 | _, _, [], .nil, _ => .nil
 | _, _, _ :: _, .nil, h => by simp [nzL] at h
 | _, _, [], .cons _ _, h => by simp [nzL] at h
 | _, _, _ :: _, .cons h1 h2, h => by
  simp only [nzL] at h
  exact .cons (nz_fr d h1 h.1) (nzL_frs h2 h.2)
theorem IFun.callF {gl : List (Nat × IV)} {f : FuncId} {args args' : List IV} {V : IV → Prop} {K : IV → Heap → Prop} (h : IFun true P gl f args' V) (ha : okL true 4 σ args ∧ nzL 4 (frzL 4 σ args) args') (hK : ∀ v, V v → K v σ) (hg : glCl gl := by first | exact trivial | simp [go_sem]) : ICalls P gl f args σ K :=
 h.call (nzL_frs (okL_frs ha.1) ha.2) (glCl_get hg) hK
theorem IFun.callOF {gl : List (Nat × IV)} {f : FuncId} {args args' : List IV} {V : IV → Prop} {K : IV → Heap → Prop} (h : IFun true P gl f args' V) (ha : okL true 4 σ args ∧ nzL 4 (frzL 4 σ args) args')
  (hK : ∀ v, V v → ∃ (C : IV → IV) (s : Nat) (rows : List (List IV)), Cx C ∧ 0 < s ∧ v = C (.fz s rows) ∧ ScR rows ∧ K (C (.sl σ.length rows.length 0 rows.length none)) (σ ++ [.rows s rows])) (hg : glCl gl := by first | exact trivial | simp [go_sem]) : ICalls P gl f args σ K :=
 h.callO (nzL_frs (okL_frs ha.1) ha.2) (glCl_get hg) hK
end
end Go.Idl
namespace Go.Idl
def enM {α β : Type} (kf : α → IV) (vf : β → IV) (S : List (α × β)) : List (IV × IV) := S.map fun p => (kf p.1, vf p.2)
section
variable {α β : Type} [DecidableEq α] {kf : α → IV} {vf : β → IV}
def aget (a : α) : List (α × β) → Option β
 | [] => none
 | (k, v) :: l => if a = k then some v else aget a l
def aset (a : α) (b : β) : List (α × β) → List (α × β)
 | [] => [(a, b)]
 | (k, v) :: l => if a = k then (k, b) :: l else (k, v) :: aset a b l
theorem aget_aset (a b : α) (v : β) (S : List (α × β)) : aget a (aset b v S) = if a = b then some v else aget a S := by
 induction S with
 | nil => simp [aset, aget]
 | cons p S ih =>
  obtain ⟨k, u⟩ := p
  simp only [aset]
  by_cases h : b = k
  ·subst h
   simp only [if_true, aget]
   by_cases h2 : a = b <;> simp [h2]
  ·rw [if_neg h]
   simp only [aget, ih]
   by_cases h2 : a = k
   ·subst h2; simp [Ne.symm h]
   ·simp [h2]
theorem mget_en (hk : ∀ a b, keq (kf a) (kf b) = decide (a = b)) (a : α) (S : List (α × β)) : mget (kf a) (enM kf vf S) = (aget a S).map vf := by
 induction S with
 | nil => rfl
 | cons p S ih =>
  obtain ⟨k, u⟩ := p
  show (if keq (kf a) (kf k) = true then some (vf u) else mget (kf a) (enM kf vf S)) = _
  rw [hk, ih]
  simp only [aget]
  by_cases h : a = k <;> simp [h]
theorem mset_en (hk : ∀ a b, keq (kf a) (kf b) = decide (a = b)) (a : α) (b : β) (S : List (α × β)) : mset (kf a) (vf b) (enM kf vf S) = enM kf vf (aset a b S) := by
 induction S with
 | nil => rfl
 | cons p S ih =>
  obtain ⟨k, u⟩ := p
  show (if keq (kf a) (kf k) = true then (kf k, vf b) :: enM kf vf S else (kf k, vf u) :: mset (kf a) (vf b) (enM kf vf S)) = _
  rw [hk, ih]
  simp only [aset]
  by_cases h : a = k <;> simp [h, enM]
theorem en_ok {P : Program} {t : TypeId} {ks : List TypeDesc} (h : ∀ a, keyOK P t ks (kf a) = true) (S : List (α × β)) : ∀ e ∈ enM kf vf S, keyOK P t ks e.1 = true := by
 intro e he
 simp only [enM, List.mem_map] at he
 obtain ⟨p, _, rfl⟩ := he
 exact h p.1
theorem en_bl {n : Nat} (hk : ∀ a, Cl (kf a)) (hv : ∀ b, Cl (vf b)) (S : List (α × β)) : BlM n (enM kf vf S) := by
 intro e he
 simp only [enM, List.mem_map] at he
 obtain ⟨p, _, rfl⟩ := he
 exact ⟨(hk p.1).bl, (hv p.2).bl⟩
@[go_sem] theorem en_nil : enM kf vf [] = [] := rfl
end
end Go.Idl
namespace Go.Idl
open Go.RowKit Go.Deep
variable {P : Program} {w : World}
theorem VRs.nil {μ : Mu} {F : Fz} : VRs μ F w [] [] := ⟨rfl, fun j v c h _ => by simp at h⟩
theorem VRs.cons {μ : Mu} {F : Fz} {v : Value} {c : IV} {vs : List Value} {cs : List IV} (h : VR μ F w v c) (hs : VRs μ F w vs cs) : VRs μ F w (v :: vs) (c :: cs) :=
 ⟨by simp [hs.1], fun j v' c' h1 h2 => by
  cases j with
  | zero => simp at h1 h2; subst h1; subst h2; exact h
  | succ j => simp at h1 h2; exact hs.2 j v' c' h1 h2⟩
end Go.Idl
