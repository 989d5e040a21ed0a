import Derived.Test.YteedopeniojppaaGreatDoorIdlPartG
set_option linter.all false
namespace Go.Idl
open Go.RowKit Go.Deep
inductive Shp where
 | int (k : IntKind)
 | bool
 | str
 | fz (s : Nat) (row : List Shp)
mutual
def Shp.fit : Shp → IV → Prop
 | .int k, .int k' n => k' = k ∧ (Lit.int k n).wf = true
 | .bool, .bool _ => True
 | .str, .str b => b.size ≤ maxLen
 | .fz s row, .fz s' rs => s' = s ∧ rs.length ≤ maxLen ∧ ∀ r ∈ rs, fitL row r
 | _, _ => False
def fitL : List Shp → List IV → Prop
 | [], [] => True
 | a :: l, c :: cs => a.fit c ∧ fitL l cs
 | _, _ => False
end
def shpFs (P : Program) (g : TypeId → Option (List Shp)) : List Field → Nat → Option (List Shp)
 | [], _ => some []
 | f :: fs, off => match g f.type with
  | none => none
  | some l => match shpFs P g fs (off + l.length) with
   | none => none
   | some l' => bif f.offset == off && P.cellsOf f.type == l.length then some (l ++ l') else none
def shpK (P : Program) : Nat → TypeId → Option (List Shp)
 | 0, _ => none
 | d + 1, t =>
  match P.underlying t with
  | some (.int k) => some [.int k]
  | some .bool => some [.bool]
  | some .string => some [.str]
  | some (.slice e) => match shpK P d e with
    | some l => bif P.cellsOf e == l.length && Nat.blt 0 l.length then some [.fz l.length l] else none
    | none => none
  | some (.struct fs) => match shpFs P (shpK P d) fs.toList 0 with
    | some l => bif P.cellsOf t == l.length then some l else none
    | none => none
  | some (.array n e) => match shpK P d e with
    | some l => bif P.cellsOf e == l.length && P.cellsOf t == n * l.length then some (List.replicate n l).flatten else none
    | none => none
  | _ => none
theorem fitL_append : ∀ {a b : List Shp} {c d : List IV}, fitL a c → fitL b d → fitL (a ++ b) (c ++ d)
 | [], _, [], _, _, h => h
 | _ :: _, _, _ :: _, _, h1, h2 => by
  simp only [List.cons_append, fitL] at h1 ⊢
  exact ⟨h1.1, fitL_append h1.2 h2⟩
 | [], _, _ :: _, _, h, _ => by simp [fitL] at h
 | _ :: _, _, [], _, h, _ => by simp [fitL] at h
theorem fitL_length : ∀ {a : List Shp} {c : List IV}, fitL a c → c.length = a.length
 | [], [], _ => rfl
 | _ :: _, _ :: _, h => by simp only [fitL] at h; simp [fitL_length h.2]
 | [], _ :: _, h => by simp [fitL] at h
 | _ :: _, [], h => by simp [fitL] at h
theorem trod_in {H : Type} {enc : TypeId × Value → H} {P : Program} {w : World} {base : Nat} {spare : Nat → Bool} {held : Bool} : ∀ (d : Nat) {fuel : Nat} {t : TypeId} {cs : List Value} {x : DataW H × List MemPlace} {ss : List Shp},
  DataW.trod enc P w base spare held fuel t cs = some x → shpK P d t = some ss → ∃ ivs : List IV, VRs Mu.none (Fz.all w) w cs ivs ∧ fitL ss ivs
 | 0, _, _, _, _, _, _, hs => by simp [shpK] at hs
 | d + 1, fuel, t, cs, x, ss, h, hs => by
  unfold shpK at hs
  split at hs
  ·rename_i k hu
   cases hs
   obtain ⟨n, rfl, _, hw⟩ := DataW.trod_int hu h
   exact ⟨[.int k n], VRs.cons (.int _ _) VRs.nil, by simp [fitL, Shp.fit, hw]⟩
  ·rename_i hu
   cases hs
   have : ∃ b, cs = [.bool b] := by
    cases fuel with
    | zero => simp [DataW.trod] at h
    | succ m =>
     unfold DataW.trod at h
     rw [hu] at h
     split at h <;> simp_all
   obtain ⟨b, rfl⟩ := this
   exact ⟨[.bool b], VRs.cons (.bool _) VRs.nil, by simp [fitL, Shp.fit]⟩
  ·rename_i hu
   cases hs
   have : ∃ b : ByteArray, cs = [.string b] ∧ b.size ≤ maxLen := by
    cases fuel with
    | zero => simp [DataW.trod] at h
    | succ m =>
     unfold DataW.trod at h
     rw [hu] at h
     split at h <;> simp_all
   obtain ⟨b, rfl, hb⟩ := this
   exact ⟨[.str b], VRs.cons (.str _) VRs.nil, by simp [fitL, Shp.fit, hb]⟩
  ·rename_i e hu
   split at hs
   ·rename_i l hl
    cases hc : (P.cellsOf e == l.length && Nat.blt 0 l.length) with
    | false => rw [hc] at hs; cases hs
    | true =>
     rw [hc] at hs
     cases hs
     simp only [Bool.and_eq_true, beq_iff_eq, Nat.blt_eq] at hc
     obtain ⟨ce, l0⟩ := hc
     rcases open_slice hu h with ⟨rfl, _⟩ | ⟨a', len, cap, m, n, D, Pl, rfl, hb, hl', hm, hmm, rfl, hx⟩
     ·exact ⟨[.fz l.length []], VRs.cons (.fz0 _ _ _) VRs.nil, by simp [fitL, Shp.fit]⟩
     ·have hlm : len ≤ m := by rw [hmm]; split <;> omega
      have each : ∀ i, i < len → ∃ q : List Value × List IV, q.1.length = l.length ∧ (∀ j, j < l.length → w.cell? (a'.add (i * l.length + j)) = q.1[j]?) ∧ VRs Mu.none (Fz.all w) w q.1 q.2 ∧ fitL l q.2 := by
       intro i hi
       obtain ⟨cs', h1, h2⟩ := hx i (by omega)
       rw [ce] at h1
       obtain ⟨_, hlen, hcell⟩ := World.cells?_some h1
       obtain ⟨ivs, hv, hf⟩ := trod_in d h2 hl
       exact ⟨(cs', ivs), hlen, fun j hj => by rw [← hcell j hj, add_add], hv, hf⟩
      obtain ⟨q, hq⟩ := choose_lt each
      by_cases h0 : len = 0
      ·subst h0
       exact ⟨[.fz l.length []], VRs.cons (.fz0 _ _ _) VRs.nil, by simp [fitL, Shp.fit]⟩
      ·obtain ⟨b, off, spot⟩ := a'
       have ea : ∀ n, (⟨b, off, none⟩ : Addr).add n = ⟨b, off + n, none⟩ := fun n => by unfold Addr.add; split <;> simp_all
       have hspot : spot = none := by
        have h1 := (hq 0 (by omega)).2.1 0 l0
        obtain ⟨v, hv⟩ : ∃ v, (q 0).1[0]? = some v := ⟨(q 0).1[0]'(by rw [(hq 0 (by omega)).1]; exact l0), List.getElem?_eq_getElem _⟩
        rw [hv] at h1
        have := World.cell?_spot h1
        unfold Addr.add at this
        split at this <;> simp_all
       subst hspot
       have hrows : ∀ (i : Nat) (row : List IV), ((List.range len).map fun i => (q i).2)[i]? = some row → i < len ∧ row = (q i).2 := by
        intro i row hr
        simp only [List.getElem?_map, Option.map_eq_some_iff] at hr
        obtain ⟨j, hj, rfl⟩ := hr
        obtain ⟨h2, h3⟩ := List.getElem?_eq_some_iff.1 hj
        simp at h2 h3
        subst h3
        exact ⟨h2, rfl⟩
       refine ⟨[.fz l.length ((List.range len).map fun i => (q i).2)], VRs.cons (vr_in (fun i j => ((q i).1[j]?).getD (.bool false)) (by simp) hl' l0 (fun i row hr => ?_) (fun i j hi hj => ?_) (fun i row j c hr hc => ?_)) VRs.nil, ?_⟩
       ·obtain ⟨hi, rfl⟩ := hrows i row hr
        have := (hq i hi).2.2.1.1
        rw [← this, (hq i hi).1]
       ·have h1 := (hq i hi).2.1 j hj
        rw [ea] at h1
        obtain ⟨u, h2⟩ : ∃ u, (q i).1[j]? = some u := ⟨(q i).1[j]'(by rw [(hq i hi).1]; exact hj), List.getElem?_eq_getElem _⟩
        rw [Nat.add_assoc, h1, h2]; rfl
       ·obtain ⟨hi, rfl⟩ := hrows i row hr
        have hj : j < (q i).1.length := by
         have := (List.getElem?_eq_some_iff.1 hc).1
         rw [(hq i hi).2.2.1.1]; exact this
        have h2 : (q i).1[j]? = some (q i).1[j] := List.getElem?_eq_getElem hj
        simp only [h2, Option.getD_some]
        exact (hq i hi).2.2.1.2 j _ c h2 hc
       ·simp only [fitL, Shp.fit]
        refine ⟨⟨trivial, by simp; omega, fun r hr => ?_⟩, trivial⟩
        obtain ⟨i, hi, rfl⟩ := List.mem_map.1 hr
        exact (hq i (List.mem_range.1 hi)).2.2.2
   ·cases hs
  ·rename_i fs hu
   split at hs
   ·rename_i l hl
    cases hc : (P.cellsOf t == l.length) with
    | false => rw [hc] at hs; cases hs
    | true =>
     rw [hc] at hs
     obtain ⟨⟩ := Option.some.inj hs
     simp only [beq_iff_eq] at hc
     obtain ⟨xs, n, _, _, hlen, _, hf⟩ := DataW.trod_struct hu h
     have go : ∀ (L : List Field) (k off : Nat) (ls : List Shp), fs.toList.drop k = L → shpFs P (shpK P d) L off = some ls → off ≤ cs.length → ∃ ivs, VRs Mu.none (Fz.all w) w ((cs.drop off).take ls.length) ivs ∧ fitL ls ivs := by
      intro L
      induction L with
      | nil => intro k off ls _ hls _; simp only [shpFs, Option.some.injEq] at hls; subst hls; exact ⟨[], by simp; exact VRs.nil, by simp [fitL]⟩
      | cons f L ih =>
       intro k off ls hk hls hoff
       have hfk : fs[k]? = some f := by
        have : (fs.toList.drop k)[0]? = some f := by rw [hk]; rfl
        rw [List.getElem?_drop] at this
        simpa using this
       simp only [shpFs] at hls
       split at hls
       ·cases hls
       ·rename_i l1 hl1
        split at hls
        ·cases hls
        ·rename_i l2 hl2
         cases hc2 : (f.offset == off && P.cellsOf f.type == l1.length) with
         | false => rw [hc2] at hls; cases hls
         | true =>
          rw [hc2] at hls
          simp only [Bool.and_eq_true, beq_iff_eq] at hc2
          cases hls
          have h1 := hf k f hfk
          rw [hc2.1, hc2.2] at h1
          have hkx : k < xs.length := by
           have := (Array.getElem?_eq_some_iff.1 hfk).1
           omega
          rw [List.getElem?_eq_getElem hkx] at h1
          obtain ⟨iv1, v1, f1⟩ := trod_in d h1 hl1
          have e1 : ((cs.drop off).take l1.length).length = l1.length := by rw [v1.1, fitL_length f1]
          have hle : off + l1.length ≤ cs.length := by rw [List.length_take, List.length_drop] at e1; omega
          obtain ⟨iv2, v2, f2⟩ := ih (k + 1) (off + l1.length) l2 (by rw [← List.drop_drop, hk]; rfl) hl2 hle
          refine ⟨iv1 ++ iv2, ?_, fitL_append f1 f2⟩
          have e2 : (cs.drop off).take (l1 ++ l2).length = (cs.drop off).take l1.length ++ (cs.drop (off + l1.length)).take l2.length := by
           rw [List.length_append, List.take_add, List.drop_drop]
          rw [e2]
          exact VRs.append v1 v2
     obtain ⟨ivs, hv, hf⟩ := go fs.toList 0 0 _ rfl hl (Nat.zero_le _)
     have e3 : (cs.drop 0).take ss.length = cs := by rw [List.drop_zero, List.take_of_length_le (by omega)]
     rw [e3] at hv
     exact ⟨ivs, hv, hf⟩
   ·cases hs
  ·rename_i n e hu
   split at hs
   ·rename_i l hl
    cases hc : (P.cellsOf e == l.length && P.cellsOf t == n * l.length) with
    | false => rw [hc] at hs; cases hs
    | true =>
     rw [hc] at hs
     cases hs
     simp only [Bool.and_eq_true, beq_iff_eq] at hc
     obtain ⟨xs, m, _, _, hlen, hxl, hf⟩ := DataW.trod_array hu h
     have go : ∀ k, k ≤ n → ∃ ivs, VRs Mu.none (Fz.all w) w (cs.take (k * l.length)) ivs ∧ fitL (List.replicate k l).flatten ivs := by
      intro k
      induction k with
      | zero => intro _; exact ⟨[], by simp; exact VRs.nil, by simp [fitL]⟩
      | succ k ih =>
       intro hk
       obtain ⟨iv1, v1, f1⟩ := ih (by omega)
       have h1 := hf k (by omega)
       rw [hc.1, List.getElem?_eq_getElem (by omega)] at h1
       obtain ⟨iv2, v2, f2⟩ := trod_in d h1 hl
       refine ⟨iv1 ++ iv2, ?_, ?_⟩
       ·rw [Nat.succ_mul, List.take_add]; exact VRs.append v1 v2
       ·rw [List.replicate_succ', List.flatten_append]
        simp only [List.flatten_cons, List.flatten_nil, List.append_nil]
        exact fitL_append f1 f2
     obtain ⟨ivs, hv, hff⟩ := go n (Nat.le_refl _)
     rw [List.take_of_length_le (by omega)] at hv
     exact ⟨ivs, hv, hff⟩
   ·cases hs
  ·cases hs
theorem arg_in {H : Type} {enc : TypeId × Value → H} {P : Program} {w : World} {base : Nat} {spare : Nat → Bool} {held : Bool} {t : TypeId} {v : Value} {D : DataW H} {ps : List MemPlace} {s : Shp} (d : Nat)
  (h : DataW.Trod enc P w base spare held t v D ps) (hc : v.cells.toList = [v]) (hs : shpK P d t = some [s]) : ∃ c, VR Mu.none (Fz.all w) w v c ∧ s.fit c := by
 obtain ⟨fuel, hf⟩ := h
 rw [hc] at hf
 obtain ⟨ivs, hv, hfit⟩ := trod_in d hf hs
 match ivs, hfit with
 | [c], hfit => simp only [fitL] at hfit; exact ⟨c, hv.2 0 v c rfl rfl, hfit.1⟩
theorem fit_list {α : Type} {s : Nat} {row : List Shp} {f : α → List IV} {q : α → Prop} (hrow : ∀ r, fitL row r → ∃ a, r = f a ∧ q a) : ∀ {c : IV}, (Shp.fz s row).fit c → ∃ l : List α, c = .fz s (mp f l) ∧ (∀ a ∈ l, q a) ∧ l.length ≤ maxLen := by
 intro c h
 cases c with
 | fz s' rs =>
  simp only [Shp.fit] at h
  obtain ⟨rfl, hl, h⟩ := h
  have : ∃ l : List α, rs = mp f l ∧ ∀ a ∈ l, q a := by
   clear hl
   induction rs with
   | nil => exact ⟨[], rfl, by simp⟩
   | cons r rs ih =>
    obtain ⟨l, e, hq⟩ := ih fun r hr => h r (List.mem_cons_of_mem _ hr)
    obtain ⟨a, ha, hqa⟩ := hrow r (h r (List.mem_cons_self ..))
    exact ⟨a :: l, by rw [e, ha]; rfl, fun b hb => (List.mem_cons.1 hb).elim (fun e => e ▸ hqa) (hq b)⟩
  obtain ⟨l, rfl, hq⟩ := this
  exact ⟨l, rfl, hq, by simpa [mp] using hl⟩
 | _ => simp [Shp.fit] at h
theorem fit_int {k : IntKind} : ∀ {c : IV}, (Shp.int k).fit c → ∃ z : Int, c = .int k z ∧ (Lit.int k z).wf = true := by
 intro c h
 cases c with
 | int k' z => simp only [Shp.fit] at h; obtain ⟨rfl, h⟩ := h; exact ⟨z, rfl, h⟩
 | _ => simp [Shp.fit] at h
theorem fitL_nil {r : List IV} (h : fitL [] r) : r = [] := by
 cases r with
 | nil => rfl
 | cons _ _ => simp [fitL] at h
theorem fitL_cons {a : Shp} {l : List Shp} {r : List IV} (h : fitL (a :: l) r) : ∃ c cs, r = c :: cs ∧ a.fit c ∧ fitL l cs := by
 cases r with
 | nil => simp [fitL] at h
 | cons c cs => simp only [fitL] at h; exact ⟨c, cs, rfl, h⟩
end Go.Idl
namespace Go.Idl
theorem yC_cut {P : Program} {c d : Code} {Q : XPost} {e : Env} {σ : Heap} (h : ∀ k : Env → Heap → Prop, (∀ e σ, yC P d Q e σ → k e σ) → yC P c (thenQ k Q) e σ) : yC P (.seq c d) Q e σ := h _ fun _ _ h => h
def arr (n : Nat) (f : Nat → IV) : List IV := (List.range n).map f
section
variable {n : Nat} {f : Nat → IV}
@[go_sem] theorem arr_length : (arr n f).length = n := by simp [arr]
@[go_sem] theorem arr_getElem {i : Nat} (h : i < (arr n f).length) : (arr n f)[i] = f i := by simp [arr]
theorem arr_at {i : Nat} {d : IV} (h : i < n) : (arr n f)[i]?.getD d = f i := by simp [arr, h]
theorem arr_splice {i : Nat} {v : IV} (h : i < n) : splice i [v] (arr n f) = arr n (upF f i v) := by
 apply List.ext_getElem?
 intro j
 simp only [splice, List.length_singleton, List.append_assoc, List.getElem?_append, List.length_take, arr_length, List.getElem?_take, List.getElem?_drop]
 rw [Nat.min_eq_left (by omega)]
 by_cases h1 : j < i
 ·have hj : j < n := by omega
  simp [h1, arr, upF, hj, Nat.ne_of_lt h1]
 ·rw [if_neg h1]
  by_cases h2 : j = i
  ·subst h2; simp [arr, upF, h]
  ·have h3 : ¬ j - i < 1 := by omega
   rw [if_neg (by simpa using h3)]
   have h4 : i + 1 + (j - i - 1) = j := by omega
   by_cases hj : j < n
   ·simp [arr, upF, h4, h2, hj]
   ·simp [arr, h4, hj]
theorem arr_put {i : Nat} {v : IV} (h : i < n) : List.take i (arr n f) ++ v :: List.drop (i + 1) (arr n f) = arr n (upF f i v) := by
 rw [← arr_splice h]; simp [splice]
theorem arr_sc (h : ∀ i, scal (f i) = true) : ∀ c ∈ arr n f, scal c = true := by
 intro c hc
 simp only [arr, List.mem_map] at hc
 obtain ⟨i, _, rfl⟩ := hc
 exact h i
@[go_sem] theorem arr_scI {k : IntKind} {g : Nat → Int} : (∀ c ∈ arr n (fun e => .int k (g e)), scal c = true) = True := eq_true (arr_sc fun _ => rfl)
@[go_sem] theorem arr_scB {g : Nat → Bool} : (∀ c ∈ arr n (fun e => .bool (g e)), scal c = true) = True := eq_true (arr_sc fun _ => rfl)
@[go_sem] theorem arr_clI {k : IntKind} {g : Nat → Int} : (∀ c ∈ arr n (fun e => .int k (g e)), Cl c) = True := eq_true fun c hc => scal_cl (arr_sc (fun _ => rfl) c hc)
@[go_sem] theorem arr_clB {g : Nat → Bool} : (∀ c ∈ arr n (fun e => .bool (g e)), Cl c) = True := eq_true fun c hc => scal_cl (arr_sc (fun _ => rfl) c hc)
@[go_sem] theorem arr_blI {m : Nat} {k : IntKind} {g : Nat → Int} : (∀ c ∈ arr n (fun e => .int k (g e)), Bl m c) = True := eq_true fun c hc => scal_bl (arr_sc (fun _ => rfl) c hc)
@[go_sem] theorem arr_blB {m : Nat} {g : Nat → Bool} : (∀ c ∈ arr n (fun e => .bool (g e)), Bl m c) = True := eq_true fun c hc => scal_bl (arr_sc (fun _ => rfl) c hc)
end
section
variable {P : Program} {μ : Mu} {F : Fz} {w : World} {σ : Heap} {Q : XPost}
def fzR (b s : Nat) (rs : List (List IV)) (c c' : IV) : Prop := c' = c ∨ (match c with | .sl b' tot i len _ => b' = b ∧ tot = rs.length ∧ i + len ≤ rs.length ∧ c' = .fz s ((rs.drop i).take len) | .ptr b' tot i o => b' = b ∧ tot = rs.length ∧ i < rs.length ∧ c' = .fptr s rs i o | _ => False)
def fzL (b s : Nat) (rs : List (List IV)) : List (Nat × IV) → List (Nat × IV) → Prop
 | [], [] => True
 | (k, v) :: l, (k', v') :: l' => k = k' ∧ fzR b s rs v v' ∧ fzL b s rs l l'
 | _, _ => False
def fzRow (b s : Nat) (rs : List (List IV)) : List IV → List IV → Prop
 | [], [] => True
 | v :: l, v' :: l' => fzR b s rs v v' ∧ fzRow b s rs l l'
 | _, _ => False
def fzRs (b s : Nat) (rs : List (List IV)) : List (List IV) → List (List IV) → Prop
 | [], [] => True
 | r :: l, r' :: l' => fzRow b s rs r r' ∧ fzRs b s rs l l'
 | _, _ => False
def fzH (b s : Nat) (rs : List (List IV)) : Nat → Heap → Heap → Prop
 | _, [], [] => True
 | k, o :: l, o' :: l' => (if k = b then o' = .dead else (o' = o ∨ (match o, o' with | .rows t ts, .rows t' ts' => t' = t ∧ fzRs b s rs ts ts' | _, _ => False))) ∧ fzH b s rs (k + 1) l l'
 | _, _, _ => False
variable {b s : Nat} {rs : List (List IV)}
theorem fzL_get {t : Nat} : ∀ {l l' : List (Nat × IV)}, fzL b s rs l l' → ∀ {c' : IV}, eget l' t = some c' → ∃ c, eget l t = some c ∧ fzR b s rs c c'
 | [], [], _, c', h => by simp [eget] at h
 | (k, v) :: l, (k', v') :: l', hl, c', h => by
  obtain ⟨rfl, h1, h2⟩ := hl
  simp only [eget] at h ⊢
  cases hk : (k == t) with
  | true => rw [hk] at h; simp only [cond_true, Option.some.injEq] at h; subst h; exact ⟨v, rfl, h1⟩
  | false => rw [hk] at h; exact fzL_get h2 h
 | [], _ :: _, hl, _, _ => hl.elim
 | _ :: _, [], hl, _, _ => hl.elim
theorem fzRow_get : ∀ {l l' : List IV}, fzRow b s rs l l' → l'.length = l.length ∧ ∀ (j : Nat) (c' : IV), l'[j]? = some c' → ∃ c, l[j]? = some c ∧ fzR b s rs c c'
 | [], [], _ => by simp
 | v :: l, v' :: l', h => by
  obtain ⟨h1, h2⟩ := fzRow_get h.2
  refine ⟨by simp [h1], fun j c' e => ?_⟩
  cases j with
  | zero => simp at e; subst e; exact ⟨v, rfl, h.1⟩
  | succ j => simpa using h2 j c' (by simpa using e)
 | [], _ :: _, h => h.elim
 | _ :: _, [], h => h.elim
theorem fzRs_get : ∀ {l l' : List (List IV)}, fzRs b s rs l l' → l'.length = l.length ∧ ∀ (j : Nat) (c' : List IV), l'[j]? = some c' → ∃ c, l[j]? = some c ∧ fzRow b s rs c c'
 | [], [], _ => by simp
 | v :: l, v' :: l', h => by
  obtain ⟨h1, h2⟩ := fzRs_get h.2
  refine ⟨by simp [h1], fun j c' e => ?_⟩
  cases j with
  | zero => simp at e; subst e; exact ⟨v, rfl, h.1⟩
  | succ j => simpa using h2 j c' (by simpa using e)
 | [], _ :: _, h => h.elim
 | _ :: _, [], h => h.elim
theorem fzH_get : ∀ {l l' : Heap} {k : Nat}, fzH b s rs k l l' → l'.length = l.length ∧ ∀ (j : Nat) (o' : IObj), l'[j]? = some o' → (k + j = b ∧ o' = .dead) ∨ (k + j ≠ b ∧ ∃ o, l[j]? = some o ∧ (o' = o ∨ ∃ t ts ts', o = .rows t ts ∧ o' = .rows t ts' ∧ fzRs b s rs ts ts'))
 | [], [], _, _ => by simp
 | v :: l, v' :: l', k, h => by
  obtain ⟨h1, h2⟩ := fzH_get h.2
  refine ⟨by simp [h1], fun j o' e => ?_⟩
  cases j with
  | zero =>
   simp at e; subst e
   have h0 := h.1
   by_cases hk : k = b
   ·rw [if_pos hk] at h0; exact .inl ⟨by omega, h0⟩
   ·rw [if_neg hk] at h0
    refine .inr ⟨by omega, v, rfl, h0.imp _root_.id fun q => ?_⟩
    split at q
    ·obtain ⟨rfl, q2⟩ := q; exact ⟨_, _, _, rfl, rfl, q2⟩
    ·exact q.elim
  | succ j =>
   have := h2 j o' (by simpa using e)
   rw [show k + 1 + j = k + (j + 1) by omega] at this
   simpa using this
 | [], _ :: _, _, h => h.elim
 | _ :: _, [], _, h => h.elim
attribute [go_sem] fzR fzL fzRow fzRs fzH
def Mu.kill (μ : Mu) (b : Nat) : Mu := { μ with pl := fun x => if x = b then .dead else μ.pl x }
theorem Mu.le_kill (μ : Mu) (b : Nat) : μ.le (μ.kill b) := fun x hx => ⟨hx, rfl, Nat.le_refl _, fun _ => by
 by_cases e : x = b
 ·right; simp [Mu.kill, e]
 ·left; exact ⟨by simp [Mu.kill, e], rfl⟩, fun _ => rfl⟩
def Fz.with (μ : Mu) (F : Fz) (b : Nat) : Fz := ⟨fun g => F.f g ∨ ∃ off, μ.pl b = .at_ g off, fun g => F.u g ∨ ∃ off, μ.pl b = .at_ g off, fun g h => h.imp (F.sub g) _root_.id⟩
theorem fzR_vr (hH : HR μ F σ w) (hb : σ[b]? = some (.rows s rs)) {v : Value} {c c' : IV} (h : fzR b s rs c c') (hv : VR μ F w v c) : VR (μ.kill b) (F.with μ b) w v c' := by
 rcases h with rfl | h
 ·exact hv.mono (F' := F.with μ b) (Mu.le_kill μ b) (fun g h => Or.inl h) fun _ _ => rfl
 ·cases c with
  | sl b' tot i len cap =>
   obtain ⟨rfl, rfl, hl, rfl⟩ := h
   obtain ⟨hu, hs, hsz, hlen, hrow, hcs⟩ := hH.obj b' _ hb
   cases hv with
   | sl _ _ _ _ _ _ hk hb' ht' h =>
    have hok := h (by omega)
    have hn : ((rs.drop i).take len).length = len := by simp; omega
    by_cases h0 : len = 0
    ·have e0 : (rs.drop i).take len = [] := List.eq_nil_of_length_eq_zero (by omega)
     rw [e0]
     rcases hcs with ⟨hpl, _⟩ | ⟨g, off, cs, T, hpl, _⟩
     ·rw [hpl] at hok; obtain ⟨rfl, _⟩ := hok; exact .fz0 _ _ _
     ·rw [hpl] at hok; obtain ⟨a, c, rfl, _⟩ := hok; rw [h0]; exact .fz0 _ _ _
    ·rcases hcs with ⟨_, h1⟩ | ⟨g, off, cs, T, hpl, hg, hcp1, hcp2, hcell⟩
     ·subst h1; simp at hl; omega
     ·rw [hpl] at hok
      obtain ⟨a, c, rfl, hlc, hic, ha, _⟩ := hok
      have ha := ha.resolve_left (by omega)
      subst ha
      rw [hsz] at *
      have hin : ∀ k j, k < len → j < s → off + (i + k) * s + j < cs.size := fun k j hk hj => by
       have : (i + k + 1) * s ≤ μ.cp b' * s := Nat.mul_le_mul_right s (by omega)
       rw [Nat.add_mul] at this; omega
      have hat : ∀ k row, ((rs.drop i).take len)[k]? = some row → k < len ∧ rs[i + k]? = some row := fun k row hk => by
       rw [List.getElem?_take] at hk
       split at hk
       ·rw [List.getElem?_drop] at hk; exact ⟨by assumption, hk⟩
       ·cases hk
      have := VR.fz (μ := μ.kill b') (F := F.with μ b') (w := w) g (off + i * s) s ((rs.drop i).take len) c (fun k j => cs.getD (off + (i + k) * s + j) undef) (.inr ⟨off, hpl⟩) (fun k row' hk => ?_) (fun k row' j hk hj => ?_) (fun k row' j c' hk hj => ?_) (by omega)
      ·rw [hn] at this; exact this
      ·exact hrow _ _ (hat k row' hk).2
      ·obtain ⟨hk', _⟩ := hat k row' hk
       rw [show off + i * s + k * s + j = off + (i + k) * s + j by rw [Nat.add_mul]; omega]
       exact cell_rows hg (hin k j hk' hj)
      ·obtain ⟨hk', hk2⟩ := hat k row' hk
       obtain ⟨v, v1, v2⟩ := hcell (i + k) row' j c' hk2 hj
       have hv3 : cs.getD (off + (i + k) * s + j) undef = v := by
        have hlt := (Array.getElem?_eq_some_iff.1 v1).1
        rw [Array.getD_eq_getD_getElem?, v1]; rfl
       rw [hv3]
       exact v2.mono (F' := F.with μ b') (Mu.le_kill μ b') (fun g h => Or.inl h) fun _ _ => rfl
  | ptr b' tot i o =>
   obtain ⟨rfl, rfl, hl, rfl⟩ := h
   obtain ⟨g, off, cs, T, rfl, hu, hsz, hlen, hpl, hg, hcp1, hcp2, hrow, hcell⟩ := ptr_row hH hb hv rfl hl
   have hin : ∀ k j, k < rs.length → j < s → off + k * s + j < cs.size := fun k j hk hj => by
    have : (k + 1) * s ≤ μ.cp b' * s := Nat.mul_le_mul_right s (by omega)
    rw [Nat.add_mul] at this; omega
   refine VR.fptr (μ := μ.kill b') (F := F.with μ b') (w := w) g off s rs i o (fun k j => cs.getD (off + k * s + j) undef) (.inr ⟨off, hpl⟩) (fun k row' hk => hrow _ _ hk) (fun k row' j hk hj => ?_) (fun k row' j c' hk hj => ?_)
   ·exact cell_rows hg (hin k j (List.getElem?_eq_some_iff.1 hk).1 hj)
   ·obtain ⟨v, v1, v2⟩ := hcell k row' j c' hk hj
    have hv3 : cs.getD (off + k * s + j) undef = v := by rw [Array.getD_eq_getD_getElem?, v1]; rfl
    rw [hv3]
    exact v2.mono (F' := F.with μ b') (Mu.le_kill μ b') (fun g h => Or.inl h) fun _ _ => rfl
  | _ => exact h.elim
theorem HR.freeze (hH : HR μ F σ w) (hb : σ[b]? = some (.rows s rs)) {σ' : Heap} (hσ : fzH b s rs 0 σ σ') : HR (μ.kill b) (F.with μ b) σ' w ∧ Ext μ F w (μ.kill b) (F.with μ b) w := by
 obtain ⟨g1, g2⟩ := fzH_get hσ
 have hob := hH.obj b _ hb
 have hub : μ.u b := hob.1
 have hv : ∀ {v : Value} {c c' : IV}, fzR b s rs c c' → VR μ F w v c → VR (μ.kill b) (F.with μ b) w v c' := fun h hv => fzR_vr hH hb h hv
 have hm : ∀ {v : Value} {c : IV}, VR μ F w v c → VR (μ.kill b) (F.with μ b) w v c := fun h => hv (.inl rfl) h
 have hX : Ext μ F w (μ.kill b) (F.with μ b) w := ⟨Mu.le_kill μ b, fun g h => Or.inl h, fun g h => Or.inl h, fun _ _ => rfl, Nat.le_refl _, rfl, rfl, ⟨rfl, Nat.le_refl _⟩, fun g h => h.elim Or.inl fun ⟨off, e⟩ => Or.inr (hH.fro b g off hub e)⟩
 have pl : ∀ {x g off}, (μ.kill b).pl x = .at_ g off → x ≠ b ∧ μ.pl x = .at_ g off := fun {x g off} e => by
  simp only [Mu.kill] at e
  by_cases hx : x = b
  ·rw [if_pos hx] at e; cases e
  ·rw [if_neg hx] at e; exact ⟨hx, e⟩
 have plo : ∀ {x}, x ≠ b → (μ.kill b).pl x = μ.pl x := fun {x} hx => by simp [Mu.kill, hx]
 refine ⟨⟨fun x hu => ?_, fun x o' ho' => ?_, fun x y g off off' hx hy ex ey => ?_, fun x g off hx ex hg => ?_, fun x g off hx ex => ?_, fun g hg => ?_, fun x y l r r' e e' hx hy => ?_, fun x y es cur todo o h1 h2 => ?_⟩, hX⟩
 ·obtain ⟨o, o1, o2⟩ := hH.n x hu
  have hlt : x < σ'.length := by rw [g1]; exact (List.getElem?_eq_some_iff.1 o1).1
  refine ⟨_, List.getElem?_eq_getElem hlt, ?_⟩
  rcases g2 x _ (List.getElem?_eq_getElem hlt) with ⟨_, e⟩ | ⟨_, o3, k1, k2⟩
  ·rw [e]; rfl
  ·rw [o1] at k1; cases k1
   rcases k2 with k2 | ⟨_, _, _, rfl, k2, _⟩
   ·rw [k2]; exact o2
   ·rw [k2]; rfl
 ·rcases g2 x o' ho' with ⟨_, e⟩ | ⟨hx, o, k1, k2⟩
  ·rw [e]; trivial
  ·rw [Nat.zero_add] at hx
   have hox := hH.obj x o k1
   rcases k2 with rfl | ⟨t, ts, ts', rfl, rfl, k2⟩
   ·cases o' with
    | rows t ts =>
     obtain ⟨q0, q1, q2, q3, q4, q5⟩ := hox
     refine ⟨q0, q1, q2, q3, q4, ?_⟩
     rw [plo hx]
     exact q5.imp (fun h => h) fun ⟨g, off, cs, T, r1, r2, r3, r4, r5⟩ => ⟨g, off, cs, T, r1, r2, r3, r4, fun i row j c e1 e2 => let ⟨v, v1, v2⟩ := r5 i row j c e1 e2; ⟨v, v1, hm v2⟩⟩
    | map es =>
     obtain ⟨q0, q1, g, es', cl, q2, q3, q4, q5⟩ := hox
     exact ⟨q0, q1, g, es', cl, by rw [plo hx]; exact q2, q3, q4.mono hm, q5⟩
    | iter b' es cur todo =>
     obtain ⟨q0, q1, g, q2, q3⟩ := hox
     refine ⟨q0, q1, g, by rw [plo hx]; exact q2, q3.mono hm (fun g h => Or.inl h) (fun _ _ => rfl) rfl fun y hy hu => ?_⟩
     subst hy
     have hyb : y ≠ b := fun e => by
      subst e
      have := hH.itd x y es cur todo _ k1 hb
      cases this
     exact ⟨hu, rfl, plo hyb, fun _ _ _ => rfl⟩
    | yrec l r e =>
     obtain ⟨q0, q1, q2, q3, q4⟩ := hox
     refine ⟨q0, fun h => h.elim q1 fun ⟨off, h⟩ => q2 b off hub h, fun y off hu ey => q2 y off hu (pl ey).2, q3, ⟨q4.size, fun t c hc => let ⟨v, v1, v2⟩ := q4.slot t c hc; ⟨v, v1, hm v2⟩, fun g c hc => hm (q4.glob g c hc)⟩⟩
    | dead => trivial
    | hole => trivial
   ·obtain ⟨q0, q1, q2, q3, q4, q5⟩ := hox
    obtain ⟨n1, n2⟩ := fzRs_get k2
    refine ⟨q0, q1, q2, by show μ.len x = _; omega, fun i row hrow => ?_, ?_⟩
    ·obtain ⟨row0, r1, r2⟩ := n2 i row hrow
     rw [(fzRow_get r2).1]; exact q4 i row0 r1
    ·rw [plo hx]
     rcases q5 with ⟨q5, q6⟩ | ⟨g, off, cs, T, q5, q6, q7, q8, q9⟩
     ·subst q6
      exact .inl ⟨q5, List.eq_nil_of_length_eq_zero (by simpa using n1)⟩
     ·refine .inr ⟨g, off, cs, T, q5, q6, by show _ ≤ μ.cp x; omega, q8, fun i row j c' e1 e2 => ?_⟩
      obtain ⟨row0, r1, r2⟩ := n2 i row e1
      obtain ⟨c0, c1, c2⟩ := (fzRow_get r2).2 j c' e2
      obtain ⟨v, v1, v2⟩ := q9 i row0 j c0 r1 c1
      exact ⟨v, v1, hv c2 v2⟩
 ·exact hH.inj x y g off off' hx hy (pl ex).2 (pl ey).2
 ·rcases hg with hg | ⟨off', hg⟩
  ·exact hH.fro x g off hx (pl ex).2 hg
  ·exact (pl ex).1 (hH.inj x b g off off' hx hub (pl ex).2 hg)
 ·exact hH.lt x g off hx (pl ex).2
 ·rcases hg with hg | ⟨off, hg⟩
  ·exact hH.flt g hg
  ·exact hH.lt b g off hub hg
 ·have key : ∀ (z : Nat) (r : Loop) (e : Env), σ'[z]? = some (.yrec l r e) → σ[z]? = some (.yrec l r e) := fun z r e h => by
   rcases g2 z _ h with ⟨_, e⟩ | ⟨_, o, k1, k2⟩
   ·cases e
   ·rcases k2 with k2 | ⟨_, _, _, _, k2, _⟩
    ·rw [k1, ← k2]
    ·cases k2
  exact hH.yin x y l r r' e e' (key _ _ _ hx) (key _ _ _ hy)
 ·rcases g2 x _ h1 with ⟨_, e⟩ | ⟨_, o1, k1, k2⟩
  ·cases e
  ·have e1 : o1 = .iter (some y) es cur todo := by
    rcases k2 with k2 | ⟨_, _, _, _, k2, _⟩
    ·exact k2.symm
    ·cases k2
   subst e1
   rcases g2 y _ h2 with ⟨_, e⟩ | ⟨_, o2, m1, m2⟩
   ·exact e
   ·have := hH.itd x y es cur todo o2 k1 m1
    subst this
    rcases m2 with m2 | ⟨_, _, _, m2, _, _⟩
    ·exact m2
    ·cases m2
theorem IWp.freeze {c : Code} {x : Bool} {n m : Nat} {ex : List Nat} {gl nm : List (Nat × IV)} (b s : Nat) (rs : List (List IV)) (nm' : List (Nat × IV)) (σ' : Heap) (hb : σ[b]? = some (.rows s rs)) (_hcl : ClR rs) (hl : fzL b s rs nm nm') (hσ : fzH b s rs 0 σ σ')
  (h : IWp P c Q ⟨x, n, m, ex, gl, nm', []⟩ σ') : IWp P c Q ⟨x, n, m, ex, gl, nm, []⟩ σ := fun ro μ F a w hR hE hH => by
 obtain ⟨hH2, hX1⟩ := hH.freeze hb hσ
 have hv : ∀ {v : Value} {c c' : IV}, fzR b s rs c c' → VR μ F w v c → VR (μ.kill b) (F.with μ b) w v c' := fun h hv => fzR_vr hH hb h hv
 have hE' : EnvR (μ.kill b) (F.with μ b) w a.tmps ⟨x, n, m, ex, gl, nm', []⟩ := by
  refine ⟨hE.size, fun t c hc => ?_, fun g c hc => hv (.inl rfl) (hE.glob g c hc)⟩
  unfold Env.get at hc
  cases hn : isNamed m ex t with
  | true =>
   simp only [hn, cond_true] at hc
   obtain ⟨c0, h1, h2⟩ := fzL_get hl hc
   obtain ⟨v, v1, v2⟩ := hE.slot t c0 (by unfold Env.get; simp only [hn, cond_true]; exact h1)
   exact ⟨v, v1, hv h2 v2⟩
  | false => simp [hn, eget] at hc
 have hR' : RoOK ro (F.with μ b) w := hR.ext hX1
 exact wpIn_mono (h ro _ _ a w hR' hE' hH2) fun ex a' w' hp => hp.ext hH2 hX1 (.refl rfl)
theorem IWp.loopI {c : Code} {e : Env} {α : Type} (st : α → Env × Heap) (inv : α → Prop) (me : α → Nat) (a₀ : α) (h0 : inv a₀) (hs : (st a₀).1.subE e ∧ fgt (st a₀).2 σ ∧ σ.length ≤ (st a₀).2.length ∧ blS (st a₀).1 (st a₀).2)
  (round : ∀ x, inv x → IWp P c (thenQ (fun e' σ' => ∃ y, ((st y).1.subE e' ∧ fgt (st y).2 σ' ∧ σ.length ≤ (st y).2.length ∧ blS (st y).1 (st y).2) ∧ inv y ∧ me y < me x) Q) (st x).1 (st x).2) : IWp P (.loop c) Q e σ := fun ro μ F a w hR hE hH => by
 refine wpIn_loop_ghost (fun n a' w' => ∃ x μ' F', me x = n ∧ inv x ∧ EnvR μ' F' w' a'.tmps (st x).1 ∧ HR μ' F' (st x).2 w' ∧ Ext μ F w μ' F' w' ∧ Marks w F' w' a.defers a'.defers) (me a₀)
  ⟨a₀, _, F, rfl, h0, (forget_sound hE hH hs.1 hs.2.1 hs.2.2.2).1, (forget_sound hE hH hs.1 hs.2.1 hs.2.2.2).2, Mu.cut_ext hH (Ext.refl _ _ _) hs.2.2.1, .refl rfl⟩ ?_
 rintro n a' w' ⟨x, μ', F', rfl, hok, hE', hH', hX, hd⟩
 refine wpIn_mono (round x hok ro μ' F' a' w' (hR.ext hX) hE' hH') ?_
 rintro ex a'' w'' ⟨xe, e'', σ'', μ'', F'', h1, h2, h3, h4, h5, h6⟩
 have h6' := hd.trans h6 hH' hX.size h5
 cases xe with
 | normal =>
  cases ex <;> simp only [XExit.rel] at h1
  obtain ⟨y, ⟨hsub, hpre, hb0, hbl⟩, hy, hlt⟩ := h2
  obtain ⟨k1, k2⟩ := forget_sound h3 h4 hsub hpre hbl
  exact ⟨me y, hlt, y, _, F'', rfl, hy, k1, k2, Mu.cut_ext hH (hX.trans h5) hb0, h6'⟩
 | exit i => cases ex <;> simp only [XExit.rel] at h1; exact ⟨.exit i, e'', σ'', μ'', F'', h1, h2, h3, h4, hX.trans h5, h6'⟩
 | ret => cases ex <;> simp only [XExit.rel] at h1; exact ⟨.ret, e'', σ'', μ'', F'', trivial, h2, h3, h4, hX.trans h5, h6'⟩
theorem IWp.seqI {c d : Code} {e : Env} (h : yC P c (thenQ (fun e σ => IWp P d Q e σ) Q) e σ) : IWp P (.seq c d) Q e σ := IWp.seq (yC_sound _ _ _ _ h)
theorem IWp.now {c : Code} {e : Env} (h : yC P c Q e σ) : IWp P c Q e σ := yC_sound _ _ _ _ h
end
section
variable {P : Program}
structure FactZ (P : Program) (orc : Nat → IV) (ops : List Oper) (nb : Nat) (Z : Nat → Env × Heap) (R : Nat → IV × Option (Nat × IObj)) (b j : Nat) (o : Oper) : Prop where
 ex : ∃ cc v w, step1 P orc ops o (Z j).1 (Z j).2 (nb + j) = some (cc, v, w) ∧ cc ∧ R j = (v, w) ∧ Z (j + 1) = ((Z j).1.putO o.dst v, upd (Z j).2 w)
 hole : hget (Z j).2 (nb + j) = none
 cl : ∀ i oi, b ≤ i → i < j → ops[i]? = some oi → (meets (wOf nb i (R i).2) (foot (Z j).1 o ++ wOf nb j (R j).2) || meets (foot (Z i).1 oi) (wOf nb j (R j).2)) = true → must ops i j = true
theorem eAt_none {ops : List Oper} {R : Nat → IV × Option (Nat × IObj)} {L : Nat → Bool} {e : Env} : ∀ k, (∀ i, i < k → L i = false) → eAt ops R L e k = e
 | 0, _ => rfl
 | k + 1, h => by simp only [eAt]; rw [h k (by omega)]; exact eAt_none k fun i hi => h i (by omega)
theorem hAt_none' {R : Nat → IV × Option (Nat × IObj)} {L : Nat → Bool} {h : Heap} : ∀ k, (∀ i, i < k → L i = false) → hAt R L h k = h
 | 0, _ => rfl
 | k + 1, hh => by simp only [hAt]; rw [hh k (by omega)]; exact hAt_none' k fun i hi => hh i (by omega)
theorem segZ {orc : Nat → IV} {ops : Array Oper} {nb b c : Nat} {Z : Nat → Env × Heap} {R : Nat → IV × Option (Nat × IObj)} (hcn : c ≤ ops.size)
  (hf : ∀ j o, b ≤ j → j < c → ops[j]? = some o → FactZ P orc ops.toList nb Z R b j o) : ∀ k, b ≤ k → k ≤ c →
  Z k = (eAt ops.toList R (fun i => decide (b ≤ i) && decide (i < k)) (Z b).1 ops.size, hAt R (fun i => decide (b ≤ i) && decide (i < k)) (Z b).2 ops.size) := by
 intro k
 induction k with
 | zero =>
  intro h0 _
  have : b = 0 := by omega
  subst this
  rw [eAt_none _ fun i _ => by simp, hAt_none' _ fun i _ => by simp]
 | succ k ih =>
  intro hbk hkc
  by_cases e : b = k + 1
  ·rw [← e, eAt_none _ fun i _ => by simp <;> omega, hAt_none' _ fun i _ => by simp <;> omega]
  ·have ihk := ih (by omega) (by omega)
   have hok : ops[k]? = some ops[k] := Array.getElem?_eq_getElem (by omega)
   obtain ⟨cc, v, w, h1, h2, h3, h4⟩ := (hf k _ (by omega) (by omega) hok).ex
   have hd : dstOf ops.toList k = ops[k].dst := by unfold dstOf; rw [Array.getElem?_toList, hok]
   have t1 : ∀ k', k' ≤ ops.size → eAt ops.toList R (fun i => decide (b ≤ i) && decide (i < k')) (Z b).1 ops.size = eAt ops.toList R (fun i => decide (b ≤ i) && decide (i < k')) (Z b).1 k' := fun k' hk' => eAt_tail ops.size hk' fun i h1 _ => by simp; omega
   have t2 : ∀ k', k' ≤ ops.size → hAt R (fun i => decide (b ≤ i) && decide (i < k')) (Z b).2 ops.size = hAt R (fun i => decide (b ≤ i) && decide (i < k')) (Z b).2 k' := fun k' hk' => hAt_tail ops.size hk' fun i h1 _ => by simp; omega
   rw [h4, t1 _ (by omega), t2 _ (by omega)]
   have s1 : (decide (b ≤ k) && decide (k < k + 1)) = true := by simp; omega
   simp only [eAt, hAt, s1, cond_true, hd, h3]
   rw [eAt_sel (L' := fun i => decide (b ≤ i) && decide (i < k)) k fun i hi => by
    have : (i < k + 1) = (i < k) := propext ⟨fun _ => hi, fun _ => by omega⟩
    simp [hi]; omega, hAt_sel (L' := fun i => decide (b ≤ i) && decide (i < k)) k fun i hi => by simp [hi]; omega]
   have k1 : (Z k).1 = _ := congrArg Prod.fst ihk
   have k2 : (Z k).2 = _ := congrArg Prod.snd ihk
   rw [← t1 k (by omega), ← t2 k (by omega), k1, k2]
theorem wpAny_seg {ro : Option Nat} {orc : Nat → IV} {ops : Array Oper} {nb b c : Nat} {Z : Nat → Env × Heap} {R : Nat → IV × Option (Nat × IObj)} {Q : Exit → Act → World → Prop} (hreg : regOK ops.toList = true) (hbc : b ≤ c) (hcn : c ≤ ops.size)
  (hcut : ∀ i k, i < c → c ≤ k → k < ops.size → must ops.toList i k = true)
  (hf : ∀ j o, b ≤ j → j < c → ops[j]? = some o → FactZ P orc ops.toList nb Z R b j o) :
  ∀ (fuel : Nat) (listed : Array Bool) (a : Act) (w : World) (μ : Mu) (F : Fz), listed.size = ops.size → cnt (fun i => listed.getD i false) ops.size ≤ fuel → Down ops.toList (fun i => listed.getD i false) →
   (∀ i, i < b → listed.getD i false = true) → (∀ i, c ≤ i → listed.getD i false = false) →
   EnvR μ F w a.tmps (eAt ops.toList R (fun i => decide (b ≤ i) && listed.getD i false) (Z b).1 ops.size) → HR μ F (hAt R (fun i => decide (b ≤ i) && listed.getD i false) (Z b).2 ops.size) w →
   (∀ (fuel' : Nat) (listed' : Array Bool) μ' F' a' w', listed'.size = ops.size → cnt (fun i => listed'.getD i false) ops.size ≤ fuel' → Down ops.toList (fun i => listed'.getD i false) → (∀ i, listed'.getD i false = decide (i < c)) → EnvR μ' F' w' a'.tmps (Z c).1 → HR μ' F' (Z c).2 w' → Ext μ F w μ' F' w' → a'.defers = a.defers → wpAnyIn (Rd ro) 0 P .any ops Q fuel' listed' a' w') →
   wpAnyIn (Rd ro) 0 P .any ops Q fuel listed a w := by
 have hruns := segZ hcn hf
 have fin : ∀ (fuel : Nat) (listed : Array Bool) (a : Act) (w : World) (μ : Mu) (F : Fz), listed.size = ops.size → cnt (fun i => listed.getD i false) ops.size ≤ fuel → Down ops.toList (fun i => listed.getD i false) → (∀ i, i < c → listed.getD i false = true) → (∀ i, c ≤ i → listed.getD i false = false) →
   EnvR μ F w a.tmps (eAt ops.toList R (fun i => decide (b ≤ i) && listed.getD i false) (Z b).1 ops.size) → HR μ F (hAt R (fun i => decide (b ≤ i) && listed.getD i false) (Z b).2 ops.size) w →
   (∀ (fuel' : Nat) (listed' : Array Bool) μ' F' a' w', listed'.size = ops.size → cnt (fun i => listed'.getD i false) ops.size ≤ fuel' → Down ops.toList (fun i => listed'.getD i false) → (∀ i, listed'.getD i false = decide (i < c)) → EnvR μ' F' w' a'.tmps (Z c).1 → HR μ' F' (Z c).2 w' → Ext μ F w μ' F' w' → a'.defers = a.defers → wpAnyIn (Rd ro) 0 P .any ops Q fuel' listed' a' w') →
   wpAnyIn (Rd ro) 0 P .any ops Q fuel listed a w := fun fuel listed a w μ F hsz hc hd hall hhi hE hH hQ => by
  have hl : ∀ i, listed.getD i false = decide (i < c) := fun i => by
   by_cases h : i < c
   ·rw [hall i h]; simp [h]
   ·rw [hhi i (by omega)]; simp [h]
  have hz := hruns c hbc (Nat.le_refl _)
  refine hQ fuel listed μ F a w hsz hc hd hl ?_ ?_ (Ext.refl _ _ _) rfl
  ·rw [hz]; simp only [hl] at hE; exact hE
  ·rw [hz]; simp only [hl] at hH; exact hH
 intro fuel
 induction fuel with
 | zero =>
  intro listed a w μ F hsz hc hd hlo hhi hE hH hQ
  have hall := cnt_zero (n := ops.size) (by omega : cnt (fun i => listed.getD i false) ops.size = 0)
  exact fin 0 listed a w μ F hsz hc hd (fun i hi => hall i (by omega)) hhi hE hH hQ
 | succ fuel ih =>
  intro listed a w μ F hsz hc hd hlo hhi hE hH hQ
  by_cases hdone : ∀ i, i < c → listed.getD i false = true
  ·exact fin _ listed a w μ F hsz hc hd hdone hhi hE hH hQ
  have first : ∃ i, i < c ∧ listed.getD i false = false := by
   apply Classical.byContradiction
   intro hno
   exact hdone fun i hi => by
    cases hl : listed.getD i false with
    | true => rfl
    | false => exact absurd ⟨i, hi, hl⟩ hno
  refine ⟨fun hr => ?_, fun i hi => ?_⟩
  ·exfalso
   obtain ⟨i, hic, hl⟩ := first
   have key : ∀ i, i < c → listed.getD i false = true := fun i => by
    induction i using Nat.strongRecOn with
    | _ i ihi =>
     intro hlt
     cases hl : listed.getD i false with
     | true => rfl
     | false =>
      exfalso
      have : i ∈ Region.ready .any ops listed := mem_ready.2 ⟨by
       simp only [Array.getD_eq_getD_getElem?] at hl ⊢
       rw [Array.getElem?_eq_getElem (by omega)] at hl ⊢; simpa using hl, ops[i], Array.getElem?_eq_getElem (by omega), fun ed he hb => by
        have h1 := (regOK_spec hreg (Array.getElem?_eq_getElem (by omega))).1 ed he hb
        exact ihi _ h1 (by omega)⟩
      rw [hr] at this; cases this
   rw [key i hic] at hl; cases hl
  ·obtain ⟨hun, o, ho, haft⟩ := mem_ready.1 hi
   have hlt : i < ops.size := (Array.getElem?_eq_some_iff.1 ho).1
   have hLi : listed.getD i false = false := by
    simp only [Array.getD_eq_getD_getElem?] at hun ⊢
    rw [Array.getElem?_eq_getElem (by omega)] at hun ⊢; simpa using hun
   have hset : ∀ k, (listed.setIfInBounds i true).getD k false = if k = i then true else listed.getD k false := fun k => by
    simp only [Array.getD_eq_getD_getElem?]
    by_cases e1 : k = i
    ·subst e1; simp [Array.getElem?_setIfInBounds, hsz, hlt]
    ·rw [if_neg e1, Array.getElem?_setIfInBounds_ne (Ne.symm e1)]
   have hd' : Down ops.toList (fun k => (listed.setIfInBounds i true).getD k false) := fun j oj hj hL ed he hb => by
    simp only [hset] at hL ⊢
    by_cases e1 : j = i
    ·subst e1
     rw [Array.getElem?_toList, ho] at hj; cases hj
     have := haft ed he hb
     split
     ·rfl
     ·exact this
    ·rw [if_neg e1] at hL
     have := hd j oj hj hL ed he hb
     split
     ·rfl
     ·exact this
   have hic : i < c := by
    apply Decidable.byContradiction
    intro hge
    obtain ⟨i', hi', hl'⟩ := first
    have := must_sound (hcut i' i hi' (by omega) hlt) _ hd' (by simp only [hset, if_true])
    simp only [hset] at this
    rw [if_neg (by omega), hl'] at this; cases this
   have hib : b ≤ i := by
    apply Decidable.byContradiction
    intro hge
    rw [hlo i (by omega)] at hLi; cases hLi
   obtain ⟨⟨cc, v, wr, hst, hcc, hrec, hnext⟩, hhole, hcl⟩ := hf i o hib hic ho
   have nc : ∀ k, k < ops.size → k ≠ i → (decide (b ≤ k) && listed.getD k false) ≠ (decide (b ≤ k) && decide (k < i)) → (∀ d, dstOf ops.toList k = some d → d ∉ o.looksAt ops ∧ o.dst ≠ some d) ∧ ∀ z ∈ wrs (R k).2, (z ∉ foot (Z i).1 o ∧ z ≠ nb + i) ∧ z ∉ wrs wr := by
    intro k hk hki hne
    have hbk : b ≤ k := by
     apply Decidable.byContradiction
     intro h; apply hne; simp [h]
    have hne : listed.getD k false ≠ decide (k < i) := fun e => hne (by rw [e])
    have hkc : k < c := by
     apply Decidable.byContradiction
     intro h; apply hne; rw [hhi k (by omega)]; simp; omega
    have hok : ops[k]? = some ops[k] := Array.getElem?_eq_getElem hk
    have hdst : dstOf ops.toList k = ops[k].dst := by unfold dstOf; rw [Array.getElem?_toList, hok]
    by_cases hlt2 : k < i
    ·have hLk : listed.getD k false = false := by simpa [hlt2] using hne
     have hnm : must ops.toList k i = false := by
      cases hm : must ops.toList k i with
      | false => rfl
      | true =>
       have := must_sound hm _ hd' (by simp only [hset, if_true])
       simp only [hset, hki, if_false] at this
       rw [hLk] at this; cases this
     have h1 := (regOK_spec hreg ho).2 k ops[k] hlt2 hok
     rw [hnm] at h1
     have h1 := Oper.apart_spec (h1.resolve_right (by simp))
     have h2 := hcl k ops[k] hbk hlt2 (by rw [Array.getElem?_toList, hok])
     rw [hnm] at h2
     have h2 := Bool.eq_false_iff.2 fun hh => Bool.noConfusion (h2 hh)
     rw [Bool.or_eq_false_iff, hrec] at h2
     refine ⟨fun d hd => ⟨h1.1 d (by rw [← hdst]; exact hd), h1.2.1 d (by rw [← hdst]; exact hd)⟩, fun z hz => ?_⟩
     have h3 := meets_false h2.1 (b := z) (List.mem_cons_of_mem _ hz)
     simp only [List.mem_append, wOf, List.mem_cons, not_or] at h3
     exact ⟨⟨h3.1, h3.2.1⟩, h3.2.2⟩
    ·have hLk : listed.getD k false = true := by simpa [hlt2] using hne
     have hik : i < k := by omega
     have hnm : must ops.toList i k = false := by
      cases hm : must ops.toList i k with
      | false => rfl
      | true =>
       have this : listed.getD i false = true := must_sound hm _ hd hLk
       rw [hLi] at this; cases this
     have h1 := (regOK_spec hreg hok).2 i o hik ho
     rw [hnm] at h1
     have h1 := Oper.apart_spec (h1.resolve_right (by simp))
     have h2 := (hf k ops[k] hbk hkc hok).cl i o hib hik (by rw [Array.getElem?_toList, ho])
     rw [hnm] at h2
     have h2 := Bool.eq_false_iff.2 fun hh => Bool.noConfusion (h2 hh)
     rw [Bool.or_eq_false_iff, hrec] at h2
     refine ⟨fun d hd => ⟨h1.2.2 d (by rw [← hdst]; exact hd), fun hod => h1.2.1 d hod (by rw [← hdst]; exact hd)⟩, fun z hz => ⟨⟨fun hbf => ?_, fun hbn => ?_⟩, fun hbw => ?_⟩⟩
     ·exact meets_false h2.2 hbf (List.mem_cons_of_mem _ hz)
     ·exact meets_false h2.1 (b := z) (by rw [hbn]; exact List.mem_cons_self ..) (List.mem_append_right _ (List.mem_cons_of_mem _ hz))
     ·exact meets_false h2.1 (b := z) (List.mem_cons_of_mem _ hbw) (List.mem_append_right _ (List.mem_cons_of_mem _ hz))
   have hrun := hruns i hib (by omega)
   have hrun1' : (Z i).1 = eAt ops.toList R (fun k => decide (b ≤ k) && decide (k < i)) (Z b).1 ops.size := congrArg Prod.fst hrun
   have hrun2' : (Z i).2 = hAt R (fun k => decide (b ≤ k) && decide (k < i)) (Z b).2 ops.size := congrArg Prod.snd hrun
   have hb1 := eAt_base ops.toList R (fun k => decide (b ≤ k) && listed.getD k false) (Z b).1 ops.size
   have hb2 := eAt_base ops.toList R (fun k => decide (b ≤ k) && decide (k < i)) (Z b).1 ops.size
   have hself : ∀ k, (decide (b ≤ k) && listed.getD k false) ≠ (decide (b ≤ k) && decide (k < i)) → k ≠ i := fun k hk e1 => by subst e1; rw [hLi] at hk; simp at hk
   have hslot : ∀ t ∈ o.looksAt ops, (eAt ops.toList R (fun k => decide (b ≤ k) && listed.getD k false) (Z b).1 ops.size).get t = (Z i).1.get t := fun t ht => by
    rw [hrun1']
    refine eAt_agree _ fun k hk hne hdk => ?_
    exact ((nc k hk (hself k hne) hne).1 t hdk).1 ht
   have hHag : ∀ z, (z ∈ foot (Z i).1 o ∨ z = nb + i) → hget (hAt R (fun k => decide (b ≤ k) && listed.getD k false) (Z b).2 ops.size) z = hget (Z i).2 z := fun z hz => by
    rw [hrun2']
    refine hAt_agree _ fun k hk hne hbw => ?_
    have := ((nc k hk (hself k hne) hne).2 z hbw).1
    rcases hz with hz | hz
    ·exact this.1 hz
    ·exact this.2 hz
   have hst' : step1 P orc ops.toList o (eAt ops.toList R (fun k => decide (b ≤ k) && listed.getD k false) (Z b).1 ops.size) (hAt R (fun k => decide (b ≤ k) && listed.getD k false) (Z b).2 ops.size) (nb + i) = some (cc, v, wr) := by
    rw [← hst]
    exact step1_congr (by rw [hrun1']; exact hb1.2.2.trans hb2.2.2.symm) (by rw [hrun1']; exact hb1.2.1.trans hb2.2.1.symm) hslot fun z hz => hHag z (.inl hz)
   refine step1_sound ho hE hH (by rw [hHag _ (.inr rfl)]; exact hhole) hst' hcc fun μ' F1 u w' hE' hH' hX => ?_
   have hdef : (a.put o.dst u).defers = a.defers := by cases o.dst <;> rfl
   have hdsti : dstOf ops.toList i = o.dst := by unfold dstOf; rw [Array.getElem?_toList, ho]
   have hsetM : ∀ k, (decide (b ≤ k) && (listed.setIfInBounds i true).getD k false) = if k = i then true else (decide (b ≤ k) && listed.getD k false) := fun k => by
    rw [hset]
    by_cases e1 : k = i
    ·rw [if_pos e1, if_pos e1, e1]; simp [hib]
    ·rw [if_neg e1, if_neg e1]
   have hsel : ∀ k, k < ops.size → (decide (b ≤ k) && (listed.setIfInBounds i true).getD k false) ≠ (decide (b ≤ k) && decide (k < i + 1)) → k ≠ i ∧ (decide (b ≤ k) && listed.getD k false) ≠ (decide (b ≤ k) && decide (k < i)) := fun k hk hne => by
    rw [hsetM] at hne
    by_cases e1 : k = i
    ·subst e1; simp [hib] at hne
    ·refine ⟨e1, ?_⟩
     rw [if_neg e1] at hne
     have : decide (k < i + 1) = decide (k < i) := by simp; omega
     rwa [this] at hne
   have hrunA := hruns (i + 1) (by omega) (by omega)
   have hrunA1 : (Z (i + 1)).1 = eAt ops.toList R (fun k => decide (b ≤ k) && decide (k < i + 1)) (Z b).1 ops.size := congrArg Prod.fst hrunA
   have hrunA2 : (Z (i + 1)).2 = hAt R (fun k => decide (b ≤ k) && decide (k < i + 1)) (Z b).2 ops.size := congrArg Prod.snd hrunA
   refine ih _ _ w' μ' F1 (by simpa using hsz) ?_ hd' (fun k hk => by rw [hset]; split; rfl; exact hlo k hk) (fun k hk => by rw [hset, if_neg (by omega)]; exact hhi k hk) (hE'.same ?_ ?_ fun t => ?_) (hH'.same fun z => ?_) fun fuel'' listed'' μ'' F'' a'' w'' q1 q2 q3 q4 k1 k2 k3 k4 => hQ fuel'' listed'' μ'' F'' a'' w'' q1 q2 q3 q4 k1 k2 (hX.trans k3) (k4.trans hdef)
   ·have := cnt_set (L := fun i => listed.getD i false) (L' := fun k => (listed.setIfInBounds i true).getD k false) (i := i) hLi (by simp only [hset, if_true]) (fun k hk => by simp only [hset, if_neg hk]) hlt
    omega
   ·rw [Env.putO_n, (eAt_base _ _ _ _ _).1, hb1.1]
   ·rw [Env.putO_gl, (eAt_base _ _ _ _ _).2.1, hb1.2.1]
   ·by_cases hdt : o.dst = some t
    ·have h1 : (eAt ops.toList R (fun k => decide (b ≤ k) && (listed.setIfInBounds i true).getD k false) (Z b).1 ops.size).get t = (Z (i + 1)).1.get t := by
      rw [hrunA1]
      refine eAt_agree _ fun k hk hne hdk => ?_
      obtain ⟨n1, n2⟩ := hsel k hk hne
      exact ((nc k hk n1 n2).1 t hdk).2 hdt
     rw [h1, hnext, hdt]
     simp only [Env.putO, Env.get_put_eq, hb1.1]
     rw [hrun1']
     simp only [hb2.1]
     by_cases htn : t < (Z b).1.n
     ·simp [htn]
     ·simp only [htn, and_false, if_false]
      rw [eAt_ge (by omega), eAt_ge (by omega)]
    ·rw [Env.get_putO_ne hdt]
     refine eAt_agree _ fun k hk hne hdk => ?_
     by_cases e1 : k = i
     ·subst e1; rw [hdsti] at hdk; exact hdt hdk
     ·rw [hsetM, if_neg e1] at hne; exact hne rfl
   ·by_cases hbw : z ∈ wrs wr
    ·have h1 : hget (hAt R (fun k => decide (b ≤ k) && (listed.setIfInBounds i true).getD k false) (Z b).2 ops.size) z = hget (Z (i + 1)).2 z := by
      rw [hrunA2]
      refine hAt_agree _ fun k hk hne hbk => ?_
      obtain ⟨n1, n2⟩ := hsel k hk hne
      exact ((nc k hk n1 n2).2 z hbk).2 hbw
     rw [h1, hnext]
     cases wr with
     | none => cases hbw
     | some bo =>
      obtain ⟨b', ob⟩ := bo
      simp only [wrs, List.mem_singleton] at hbw
      subst hbw
      show hget (hput _ _ _) _ = hget (hput _ _ _) _
      rw [hget_hput_eq, hget_hput_eq]
    ·rw [hget_upd hbw]
     refine (hAt_agree _ fun k hk hne hbk => ?_).symm
     by_cases e1 : k = i
     ·subst e1; rw [hrec] at hbk; exact hbw hbk
     ·rw [hsetM, if_neg e1] at hne; exact hne rfl
def sRun (P : Program) (orc : Nat → IV) (ops : List Oper) (nb : Nat) : Nat → List Oper → List (Nat × List Nat × List Nat) → List (Nat × Nat) → Env → Heap → (Env → Heap → Prop) → Prop
 | _, [], _, pairs, e, h, K => (pairs.all fun p => mustM (mskT ops []) p.1 p.2) = true ∧ K e h
 | k, o :: rest, acc, pairs, e, h, K => (okS (step1 P orc ops o e h (nb + k)) ∧ cS (step1 P orc ops o e h (nb + k)) ∧ hget h (nb + k) = none) ∧
   sRun P orc ops nb (k + 1) rest ((k, foot e o, wOf nb k (wS (step1 P orc ops o e h (nb + k)))) :: acc) (clash acc k (foot e o) (wOf nb k (wS (step1 P orc ops o e h (nb + k)))) ++ pairs)
    (e.putO o.dst (vS (step1 P orc ops o e h (nb + k)))) (upd h (wS (step1 P orc ops o e h (nb + k)))) K
def zGo (P : Program) (orc : Nat → IV) (ops : List Oper) (nb b : Nat) (e : Env) (h : Heap) : Nat → Env × Heap
 | 0 => (e, h)
 | m + 1 => match ops[b + m]? with
  | none => zGo P orc ops nb b e h m
  | some o => ((zGo P orc ops nb b e h m).1.putO o.dst (vS (step1 P orc ops o (zGo P orc ops nb b e h m).1 (zGo P orc ops nb b e h m).2 (nb + (b + m)))), upd (zGo P orc ops nb b e h m).2 (wS (step1 P orc ops o (zGo P orc ops nb b e h m).1 (zGo P orc ops nb b e h m).2 (nb + (b + m)))))
def zAt (P : Program) (orc : Nat → IV) (ops : List Oper) (nb b : Nat) (e : Env) (h : Heap) (j : Nat) : Env × Heap := zGo P orc ops nb b e h (j - b)
def rAt (P : Program) (orc : Nat → IV) (ops : List Oper) (nb b : Nat) (e : Env) (h : Heap) (j : Nat) : IV × Option (Nat × IObj) := match ops[j]? with
 | none => (.tup [], none)
 | some o => (vS (step1 P orc ops o (zAt P orc ops nb b e h j).1 (zAt P orc ops nb b e h j).2 (nb + j)), wS (step1 P orc ops o (zAt P orc ops nb b e h j).1 (zAt P orc ops nb b e h j).2 (nb + j)))
theorem sRun_facts {orc : Nat → IV} {ops : List Oper} {nb b c : Nat} {e : Env} {h : Heap} {K : Env → Heap → Prop} : ∀ (rest : List Oper) (k : Nat) (acc : List (Nat × List Nat × List Nat)) (pairs : List (Nat × Nat)), b ≤ k → k + rest.length = c →
  (∀ j, j < rest.length → rest[j]? = ops[k + j]?) → (∀ i oi, b ≤ i → i < k → ops[i]? = some oi → (i, foot (zAt P orc ops nb b e h i).1 oi, wOf nb i (rAt P orc ops nb b e h i).2) ∈ acc) →
  sRun P orc ops nb k rest acc pairs (zAt P orc ops nb b e h k).1 (zAt P orc ops nb b e h k).2 K →
  ∃ pf : List (Nat × Nat), (∀ p ∈ pairs, p ∈ pf) ∧ (∀ p ∈ pf, must ops p.1 p.2 = true) ∧ (∀ j o, k ≤ j → j < c → ops[j]? = some o → FactZ P orc ops nb (zAt P orc ops nb b e h) (rAt P orc ops nb b e h) b j o) ∧ K (zAt P orc ops nb b e h c).1 (zAt P orc ops nb b e h c).2
 | [], k, acc, pairs, hbk, hc, hl, ha, hr => by
  simp only [sRun, List.all_eq_true] at hr
  have : k = c := by simpa using hc
  subst this
  exact ⟨pairs, fun _ h => h, fun p hp => by rw [must_eqM]; exact hr.1 p hp, fun j o h1 h2 => by omega, hr.2⟩
 | o :: rest, k, acc, pairs, hbk, hc, hl, ha, hr => by
  have h0 : ops[k]? = some o := by have := hl 0 (by simp); simpa using this.symm
  simp only [sRun] at hr
  obtain ⟨⟨k1, k2, k3⟩, hr⟩ := hr
  have hz : zAt P orc ops nb b e h (k + 1) = ((zAt P orc ops nb b e h k).1.putO o.dst (vS (step1 P orc ops o (zAt P orc ops nb b e h k).1 (zAt P orc ops nb b e h k).2 (nb + k))), upd (zAt P orc ops nb b e h k).2 (wS (step1 P orc ops o (zAt P orc ops nb b e h k).1 (zAt P orc ops nb b e h k).2 (nb + k)))) := by
   unfold zAt
   rw [show k + 1 - b = (k - b) + 1 by omega]
   simp only [zGo]
   rw [show b + (k - b) = k by omega, h0]
  have hrA : rAt P orc ops nb b e h k = (vS (step1 P orc ops o (zAt P orc ops nb b e h k).1 (zAt P orc ops nb b e h k).2 (nb + k)), wS (step1 P orc ops o (zAt P orc ops nb b e h k).1 (zAt P orc ops nb b e h k).2 (nb + k))) := by
   unfold rAt; rw [h0]
  have hr' : sRun P orc ops nb (k + 1) rest ((k, foot (zAt P orc ops nb b e h k).1 o, wOf nb k (rAt P orc ops nb b e h k).2) :: acc) (clash acc k (foot (zAt P orc ops nb b e h k).1 o) (wOf nb k (rAt P orc ops nb b e h k).2) ++ pairs) (zAt P orc ops nb b e h (k + 1)).1 (zAt P orc ops nb b e h (k + 1)).2 K := by
   rw [hz, hrA]; exact hr
  obtain ⟨pf, p1, p2, p3, p4⟩ := sRun_facts (c := c) rest (k + 1) _ _ (by omega) (by simp at hc; omega) (fun j hj => by have := hl (j + 1) (by simpa using hj); simp only [List.getElem?_cons_succ] at this; rw [this]; congr 1; omega) (fun i oi hbi hi hoi => by
   by_cases hik : i = k
   ·subst hik; rw [h0] at hoi; cases hoi; simp
   ·exact List.mem_cons_of_mem _ (ha i oi hbi (by omega) hoi)) hr'
  refine ⟨pf, fun p hp => p1 p (by simp [hp]), p2, fun j oj hj hjc hoj => ?_, p4⟩
  by_cases hjk : j = k
  ·subst hjk
   rw [h0] at hoj; cases hoj
   refine ⟨?_, k3, fun i oi hbi hi hoi hm => ?_⟩
   ·cases hs : step1 P orc ops o (zAt P orc ops nb b e h j).1 (zAt P orc ops nb b e h j).2 (nb + j) with
    | none => rw [hs] at k1; exact k1.elim
    | some r =>
     obtain ⟨cc, v, w⟩ := r
     rw [hs] at k2 hz hrA
     exact ⟨cc, v, w, rfl, k2, hrA, hz⟩
   ·exact p2 _ (p1 (i, j) (List.mem_append_left _ (mem_clash (ha i oi hbi hi hoi) hm)))
  ·exact p3 j oj (by omega) hjc hoj
theorem HR.drawn {μ : Mu} {F : Fz} {w : World} {σ : Heap} (hH : HR μ F σ w) : HR μ F σ { w with drawn := w.drawn + 1 } := by
 have vd : ∀ {v : Value} {c : IV}, VR μ F w v c → VR μ F { w with drawn := w.drawn + 1 } v c := fun hv => VR.mono (μ := μ) (μ' := μ) (F := F) (F' := F) (w := w) (w' := { w with drawn := w.drawn + 1 }) (Mu.le_refl _) (fun _ h => h) (fun _ _ => rfl) hv
 refine ⟨hH.n, fun b o ho => ?_, hH.inj, hH.fro, hH.lt, hH.flt, hH.yin, hH.itd⟩
 have := hH.obj b o ho
 cases o with
 | rows s rs =>
  obtain ⟨h1, h2, h3, h4, h5, h6⟩ := this
  refine ⟨h1, h2, h3, h4, h5, h6.imp (fun h => h) ?_⟩
  rintro ⟨g, off, cs, T, q1, q2, q3, q4, q5⟩
  exact ⟨g, off, cs, T, q1, q2, q3, q4, fun i row j c r1 r2 => let ⟨v, v1, v2⟩ := q5 i row j c r1 r2; ⟨v, v1, vd v2⟩⟩
 | map es =>
  obtain ⟨h1, h2, g, es', cl, q1, q2, q3, q4⟩ := this
  exact ⟨h1, h2, g, es', cl, q1, q2, ⟨q3.1, fun j e p r1 r2 => let ⟨v1, v2⟩ := q3.2 j e p r1 r2; ⟨vd v1, vd v2⟩⟩, q4⟩
 | iter b' es cur todo =>
  obtain ⟨h1, h2, g, h3, h4⟩ := this
  exact ⟨h1, h2, g, h3, h4.mono vd (fun _ h => h) (fun _ _ => rfl) rfl fun b'' _ hu => ⟨hu, rfl, rfl, fun _ _ _ => rfl⟩⟩
 | yrec l r e => exact ⟨this.1, this.2.1, this.2.2.1, this.2.2.2.1, ⟨this.2.2.2.2.size, fun t c hc => let ⟨v, v1, v2⟩ := this.2.2.2.2.slot t c hc; ⟨v, v1, vd v2⟩, fun g c hc => vd (this.2.2.2.2.glob g c hc)⟩⟩
 | dead => trivial
 | hole => trivial
theorem EnvR.drawn {μ : Mu} {F : Fz} {w : World} {t : Array Value} {e : Env} (hE : EnvR μ F w t e) : EnvR μ F { w with drawn := w.drawn + 1 } t e := by
 have vd : ∀ {v : Value} {c : IV}, VR μ F w v c → VR μ F { w with drawn := w.drawn + 1 } v c := fun hv => VR.mono (μ := μ) (μ' := μ) (F := F) (F' := F) (w := w) (w' := { w with drawn := w.drawn + 1 }) (Mu.le_refl _) (fun _ h => h) (fun _ _ => rfl) hv
 exact ⟨hE.size, fun t c hc => let ⟨v, h1, h2⟩ := hE.slot t c hc; ⟨v, h1, vd h2⟩, fun g c hc => vd (hE.glob g c hc)⟩
def cutB (ops : List Oper) (T : List Nat) (c : Nat) : Bool := (List.range ops.length).all fun k => (List.range ops.length).all fun i => !(Nat.blt i c && Nat.ble c k || Nat.ble i c && Nat.blt c k) || mustM T i k
theorem Drawn.one {ops : List Oper} {Q : XPost} {e : Env} {σ : Heap} (c : Nat) (orc1 orc2 : Nat → IV) (oc : Oper) (hoc : ops[c]? = some oc) (hg : oc.guard = none)
  (hB : (P.follows .mixedOrders && regM ops ops.toArray (mskT ops []) ops 0 && cutB ops (mskT ops []) c) = true)
  (h1 : sRun P (fun j => orc1 (j - σ.length)) ops σ.length 0 (ops.take c) [] [] e σ fun e1 σ1 =>
   ∃ f args, callOf oc e1 = some (.fn f, args) ∧ whens e1 true oc.op.operands.toList ∧ ICalls P e1.gl f args σ1 fun r σ2 =>
    sRun P (fun j => orc2 (j - σ2.length)) ops σ2.length (c + 1) (ops.drop (c + 1)) [] [] (e1.putO oc.dst r) σ2 fun e3 σ3 => Q .normal e3.clean σ3) : Drawn P ops Q e σ := fun id ro μ F a w hR hE hH => by
 simp only [Bool.and_eq_true] at hB
 have hcl : c < ops.length := (List.getElem?_eq_some_iff.1 hoc).1
 have hreg : regOK ops.toArray.toList = true := regM_ok hB.1.2
 have hmust : ∀ i k, k < ops.length → ((i < c ∧ c ≤ k) ∨ (i ≤ c ∧ c < k)) → must ops i k = true := fun i k hk hik => by
  have h2 := hB.2
  simp only [cutB, List.all_eq_true, List.mem_range] at h2
  have h3 := h2 k hk i (by omega)
  rw [must_eqM]
  rcases Bool.or_eq_true_iff.1 h3 with h4 | h4
  ·exfalso
   simp only [Bool.not_eq_true', Bool.or_eq_false_iff, Bool.and_eq_false_iff] at h4
   rcases hik with ⟨q1, q2⟩ | ⟨q1, q2⟩
   ·rcases h4.1 with h5 | h5
    ·rw [← Bool.not_eq_true, Nat.blt_eq] at h5; exact h5 q1
    ·rw [← Bool.not_eq_true, Nat.ble_eq] at h5; exact h5 q2
   ·rcases h4.2 with h5 | h5
    ·rw [← Bool.not_eq_true, Nat.ble_eq] at h5; exact h5 q1
    ·rw [← Bool.not_eq_true, Nat.blt_eq] at h5; exact h5 q2
  ·exact h4
 have h0 : ∀ i, (Array.replicate ops.toArray.size false).getD i false = false := fun i => by
  simp only [Array.getD_eq_getD_getElem?, Array.getElem?_replicate]
  split <;> rfl
 have hcnt : ∀ (L : Nat → Bool) n, cnt L n ≤ n := fun L n => by
  induction n with
  | zero => exact Nat.le_refl _
  | succ n ih => simp only [cnt]; cases L n <;> simp <;> omega
 have hz0 : zAt P (fun j => orc1 (j - σ.length)) ops σ.length 0 e σ 0 = (e, σ) := rfl
 obtain ⟨pf, _, _, f1, h2⟩ := sRun_facts (orc := fun j => orc1 (j - σ.length)) (nb := σ.length) (b := 0) (c := c) (e := e) (h := σ) (ops.take c) 0 [] [] (Nat.le_refl _) (by simp; omega) (fun j hj => by rw [Nat.zero_add, List.getElem?_take, if_pos (by simp at hj; omega)]) (fun i oi _ hi => by omega) h1
 refine wpIn_region_any hB.1.1 (wpAny_seg (nb := σ.length) (b := 0) (c := c) (Z := zAt P (fun j => orc1 (j - σ.length)) ops σ.length 0 e σ) (R := rAt P (fun j => orc1 (j - σ.length)) ops σ.length 0 e σ) (orc := fun j => orc1 (j - σ.length)) hreg (Nat.zero_le _) (by simpa using Nat.le_of_lt hcl) (fun i k q1 q2 q3 => hmust i k (by simpa using q3) (.inl ⟨q1, q2⟩)) (fun j o q1 q2 q3 => f1 j o q1 q2 (by simpa using q3)) ops.toArray.size _ a _ μ F (by simp) (hcnt _ _) ?_ (fun i hi => by omega) (fun i _ => h0 i) ?_ ?_ ?_)
 ·intro j oj _ hL
  exact absurd ((h0 j).symm.trans hL) (by simp)
 ·rw [eAt_none _ fun i _ => by simp only [h0]; simp]; exact hE.drawn
 ·rw [hAt_none' _ fun i _ => by simp only [h0]; simp]; exact hH.drawn
 ·intro fuel listed μ1 F1 a1 w1 q1 q2 q3 q4 hE1 hH1 hX1 hdf1
  obtain ⟨f, args, hcall, hwh, hent, hcalls⟩ := h2
  have ho : ops.toArray[c]? = some oc := by simpa using hoc
  have hszc : c < ops.toArray.size := by simpa using hcl
  have hready : c ∈ Region.ready .any ops.toArray listed := mem_ready.2 ⟨by
   have := q4 c
   simp only [Array.getD_eq_getD_getElem?] at this ⊢
   rw [Array.getElem?_eq_getElem (by omega)] at this ⊢; simpa using this, oc, ho, fun ed he hb => by
    have h1 := (regOK_spec hreg ho).1 ed he hb
    rw [q4]; simpa using h1⟩
  have only : ∀ i, i ∈ Region.ready .any ops.toArray listed → i = c := fun i hi => by
   obtain ⟨hun, o, hio, haft⟩ := mem_ready.1 hi
   have hlt : i < ops.toArray.size := (Array.getElem?_eq_some_iff.1 hio).1
   have hLi : listed.getD i false = false := by
    simp only [Array.getD_eq_getD_getElem?] at hun ⊢
    rw [Array.getElem?_eq_getElem (by omega)] at hun ⊢; simpa using hun
   have hge : c ≤ i := by rw [q4] at hLi; simpa using hLi
   apply Classical.byContradiction
   intro hne
   have hm := must_sound (hmust c i (by simpa using hlt) (.inr ⟨Nat.le_refl _, by omega⟩)) (fun k => if k = i then true else listed.getD k false) (fun j oj hj hL ed he hb => by
    by_cases e1 : j = i
    ·subst e1
     have : oj = o := by have := hio; simp at this hj; rw [this] at hj; exact (Option.some.inj hj).symm
     subst this
     have := haft ed he hb
     show (if ed.on = j then true else listed.getD ed.on false) = true
     split
     ·rfl
     ·exact this
    ·simp only [if_neg e1] at hL
     have := q3 j oj hj hL ed he hb
     show (if ed.on = i then true else listed.getD ed.on false) = true
     split
     ·rfl
     ·exact this) (by simp)
   simp only [if_neg (Ne.symm hne), q4] at hm
   simp at hm
  have hc1 : 0 < cnt (fun i => listed.getD i false) ops.toArray.size := by
   apply Nat.pos_of_ne_zero
   intro hz
   have := cnt_zero hz c hszc
   rw [q4] at this; simp at this
  cases fuel with
  | zero => omega
  | succ fuel =>
   refine ⟨fun hr => (by rw [hr] at hready; cases hready), fun i hi => ?_⟩
   obtain rfl := only i hi
   have hset0 : ∀ k, (listed.setIfInBounds i true).getD k false = if k = i then true else listed.getD k false := fun k => by
    simp only [Array.getD_eq_getD_getElem?]
    by_cases e1 : k = i
    ·subst e1; rw [Array.getElem?_setIfInBounds, if_pos rfl, if_pos (by omega), if_pos rfl]; rfl
    ·rw [if_neg e1, Array.getElem?_setIfInBounds_ne (Ne.symm e1)]
   have hset : ∀ k, (listed.setIfInBounds i true).getD k false = decide (k < i + 1) := fun k => by
    rw [hset0, q4]
    by_cases e1 : k = i
    ·rw [if_pos e1]; simp; omega
    ·rw [if_neg e1]; exact decide_eq_decide.2 (by omega)
   have hwant := wantOf_sound (ops := ops.toArray) (o := oc) (g := true) hE1 (by unfold wantOf; rw [hg])
   unfold wpOpIn
   rw [ho]
   simp only
   rw [hwant]
   simp only [if_true]
   unfold callOf at hcall
   split at hcall
   ·rename_i cl hop
    split at hcall
    ·rename_i fo hcal
     split at hcall
     ·rename_i fid first cap hfo
      simp only [Option.map_eq_some_iff, Prod.mk.injEq, Tgt.fn.injEq] at hcall
      obtain ⟨as, has, rfl, rfl⟩ := hcall
      have hwf : (zAt P (fun j => orc1 (j - σ.length)) ops σ.length 0 e σ i).1.wh fo = true := whens_mem hwh fo (by simp [hop, Op.operands, Call.operands, hcal])
      have hwa : ∀ y ∈ cl.args.toList, (zAt P (fun j => orc1 (j - σ.length)) ops σ.length 0 e σ i).1.wh y = true := fun y hy => whens_mem hwh y (by simp [hop, Op.operands, Call.operands]; exact .inr (by simpa using hy))
      have hvf := opS_vr hE1 hfo hwf
      have hva : VRs μ1 F1 w1 (cl.args.toList.map a1.eval) as := args_vrs hE1 hwa has
      generalize hfv : a1.eval fo = fv at hvf
      cases hvf with
      | func _ fs cs _ _ hf hc h1' h2' =>
       refine ⟨fun _ _ => trivial, ?_⟩
       rw [Oper.semAt_eq _ _ _ (fun c' hc' => by rw [hop] at hc'; cases hc')]
       have hrun : (execOp a1.eval oc).run P w1 = .ok (.enter fid (fs ++ cl.args.toList.map a1.eval ++ cs).toArray) w1 := by
        simp only [execOp, hop, resolve, hcal, hfv, Deferred.ofValue, Sem.run_bind, Sem.run_pure, Result.andThen_ok, invoke]
        rw [hent]
        congr 2
        apply Array.ext'
        simp
       rw [hrun, Oper.uponIn_enter]
       refine ⟨fun h => by simp [Rd, Fence.wide] at h, ?_⟩
       refine (callsIn_wide (n := 0 - 1)).2 ((hcalls μ1 F1 w1 (fs ++ cl.args.toList.map a1.eval ++ cs) hH1 (VRs.append (VRs.append ⟨hf, h1'⟩ hva) ⟨hc, h2'⟩) hE1.glob).mono fun en w2 ⟨v, r, σ2, μ2, F2, e1, hk, hv, hH2, hX2⟩ => ?_)
       subst e1
       have hE2 : EnvR μ2 F2 w2 (a1.put oc.dst v).tmps ((zAt P (fun j => orc1 (j - σ.length)) ops σ.length 0 e σ i).1.putO oc.dst r) := (hX2.env hE1).putO oc.dst hv
       have hk : sRun P (fun j => orc2 (j - σ2.length)) ops σ2.length (i + 1) (ops.drop (i + 1)) [] [] ((zAt P (fun j => orc1 (j - σ.length)) ops σ.length 0 e σ i).1.putO oc.dst r) σ2 fun e3 σ3 => Q .normal e3.clean σ3 := hk
       generalize (zAt P (fun j => orc1 (j - σ.length)) ops σ.length 0 e σ i).1.putO oc.dst r = e2 at hk hE2
       have hz2 : zAt P (fun j => orc2 (j - σ2.length)) ops σ2.length (i + 1) e2 σ2 (i + 1) = (e2, σ2) := by unfold zAt; rw [Nat.sub_self]; rfl
       obtain ⟨pf2, _, _, f2, h3⟩ := sRun_facts (orc := fun j => orc2 (j - σ2.length)) (nb := σ2.length) (b := i + 1) (c := ops.length) (e := e2) (h := σ2) (ops.drop (i + 1)) (i + 1) [] [] (Nat.le_refl _) (by simp; omega) (fun j hj => by rw [List.getElem?_drop]) (fun i oi _ hi => by omega) (by rw [hz2]; exact hk)
       have hdfs : (a1.put oc.dst v).defers = a1.defers := by cases oc.dst <;> rfl
       refine wpAny_seg (nb := σ2.length) (b := i + 1) (c := ops.toArray.size) (Z := zAt P (fun j => orc2 (j - σ2.length)) ops σ2.length (i + 1) e2 σ2) (R := rAt P (fun j => orc2 (j - σ2.length)) ops σ2.length (i + 1) e2 σ2) (orc := fun j => orc2 (j - σ2.length)) hreg (by omega) (Nat.le_refl _) (fun _ k _ q2 q3 => by omega) (fun j o q1 q2 q3 => f2 j o q1 (by rw [List.size_toArray] at q2; exact q2) (by simpa using q3)) fuel _ _ w2 μ2 F2 (by rw [Array.size_setIfInBounds]; exact q1) ?_ ?_ (fun k hk => by rw [hset]; simpa using hk) (fun k hk => by rw [hset]; simp; simp at hk; omega) ?_ ?_ ?_
       ·have := cnt_set (L := fun i => listed.getD i false) (L' := fun k => (listed.setIfInBounds i true).getD k false) (i := i) (by rw [q4]; simp) (by rw [hset]; simp) (fun k hk => by rw [hset0, if_neg hk]) hszc
        omega
       ·intro j oj hj hL ed he hb
        have hL : (listed.setIfInBounds i true).getD j false = true := hL
        show (listed.setIfInBounds i true).getD ed.on false = true
        rw [hset] at hL ⊢
        have h9 := (regOK_spec hreg (j := j) (oj := oj) (by simpa using hj)).1 ed he hb
        simp at hL ⊢; omega
       ·rw [hz2, eAt_none _ fun k _ => by rw [hset]; simp <;> omega]; exact hE2
       ·rw [hz2, hAt_none' _ fun k _ => by rw [hset]; simp <;> omega]; exact hH2
       ·intro fuel' listed' μ3 F3 a3 w3 p1 p2 p3 p4 hE3 hH3 hX3 hdf3
        have hnil : Region.ready .any ops.toArray listed' = [] := by
         rw [List.eq_nil_iff_forall_not_mem]
         intro k hk
         obtain ⟨hun, o, hko, _⟩ := mem_ready.1 hk
         have hlt := (Array.getElem?_eq_some_iff.1 hko).1
         have := p4 k
         simp only [Array.getD_eq_getD_getElem?] at hun this
         rw [Array.getElem?_eq_getElem (by omega)] at hun this
         simp at hun this
         rw [hun] at this; simp at this hlt; omega
        have hEnd : IPost Q μ F a w .normal a3 w3 := by
         have hXX := (hX1.trans hX2).trans hX3
         have hsz2 : ops.toArray.size = ops.length := by simp
         rw [hsz2] at hE3 hH3
         exact ⟨.normal, _, _, μ3, F3, trivial, h3, hE3.clean, hH3, ⟨hXX.mu, hXX.fr, hXX.fu, hXX.same, hXX.size, hXX.os, hXX.tape, ⟨hXX.output.o, Nat.le_of_succ_le hXX.output.d⟩, hXX.new⟩, .refl (hdf3.trans (hdfs.trans hdf1))⟩
        cases fuel' with
        | zero => exact ⟨hnil, hEnd⟩
        | succ fuel' => exact ⟨fun _ => hEnd, fun k hk => by rw [hnil] at hk; cases hk⟩
     ·simp at hcall
     ·cases hcall
    ·cases hcall
   ·cases hcall
theorem Drawn.oneC {ops : List Oper} {Q : XPost} {e : Env} {σ : Heap} (c : Nat) (orc1 orc2 : Nat → IV) (oc : Oper) (hoc : ops[c]? = some oc) (hg : oc.guard = none)
  (hB : (P.follows .mixedOrders && regM ops ops.toArray (mskT ops []) ops 0 && cutB ops (mskT ops []) c) = true)
  (h1 : ∀ k : Env → Heap → Prop, (∀ e1 σ1, (∃ f args, callOf oc e1 = some (.fn f, args) ∧ whens e1 true oc.op.operands.toList ∧ ICalls P e1.gl f args σ1 fun r σ2 =>
    sRun P (fun j => orc2 (j - σ2.length)) ops σ2.length (c + 1) (ops.drop (c + 1)) [] [] (e1.putO oc.dst r) σ2 fun e3 σ3 => Q .normal e3.clean σ3) → k e1 σ1) → sRun P (fun j => orc1 (j - σ.length)) ops σ.length 0 (ops.take c) [] [] e σ k) : Drawn P ops Q e σ :=
 Drawn.one c orc1 orc2 oc hoc hg hB (h1 _ fun _ _ h => h)
end
section
variable {P : Program} {x : Bool} {n m : Nat} {ex : List Nat} {gl nm tm : List (Nat × IV)} {σ : Heap} {K : Env → Heap → Prop}
@[go_sem] theorem clean_lit : (⟨x, n, m, ex, gl, nm, tm⟩ : Env).clean = ⟨x, n, m, ex, gl, nm, []⟩ := _root_.id rfl
@[go_sem] theorem sRun_nil {orc : Nat → IV} {ops : List Oper} {nb k : Nat} {acc : List (Nat × List Nat × List Nat)} {pairs : List (Nat × Nat)} : sRun P orc ops nb k [] acc pairs ⟨x, n, m, ex, gl, nm, tm⟩ σ K = ((pairs.all fun p => mustM (mskT ops []) p.1 p.2) = true ∧ K ⟨x, n, m, ex, gl, nm, tm⟩ σ) := _root_.id rfl
@[go_sem ↓] theorem sRun_cons {orc : Nat → IV} {ops rest : List Oper} {nb k : Nat} {acc : List (Nat × List Nat × List Nat)} {pairs : List (Nat × Nat)} {d : Option Tmp} {op : Op} {ty : TypeId} {pos : String} {af : Array Edge} {gd : Option (Nat × Bool)} : sRun P orc ops nb k (⟨d, op, ty, pos, af, gd⟩ :: rest) acc pairs ⟨x, n, m, ex, gl, nm, tm⟩ σ K =
  ((okS (step1 P orc ops ⟨d, op, ty, pos, af, gd⟩ ⟨x, n, m, ex, gl, nm, tm⟩ σ (nb + k)) ∧ cS (step1 P orc ops ⟨d, op, ty, pos, af, gd⟩ ⟨x, n, m, ex, gl, nm, tm⟩ σ (nb + k)) ∧ hget σ (nb + k) = none) ∧
   sRun P orc ops nb (k + 1) rest ((k, (capB ⟨x, n, m, ex, gl, nm, tm⟩ op ++ foots ⟨x, n, m, ex, gl, nm, tm⟩ (readsOf op)), wOf nb k (wS (step1 P orc ops ⟨d, op, ty, pos, af, gd⟩ ⟨x, n, m, ex, gl, nm, tm⟩ σ (nb + k)))) :: acc)
    (clash acc k ((capB ⟨x, n, m, ex, gl, nm, tm⟩ op ++ foots ⟨x, n, m, ex, gl, nm, tm⟩ (readsOf op))) (wOf nb k (wS (step1 P orc ops ⟨d, op, ty, pos, af, gd⟩ ⟨x, n, m, ex, gl, nm, tm⟩ σ (nb + k)))) ++ pairs)
    (Env.putO ⟨x, n, m, ex, gl, nm, tm⟩ d (vS (step1 P orc ops ⟨d, op, ty, pos, af, gd⟩ ⟨x, n, m, ex, gl, nm, tm⟩ σ (nb + k)))) (upd σ (wS (step1 P orc ops ⟨d, op, ty, pos, af, gd⟩ ⟨x, n, m, ex, gl, nm, tm⟩ σ (nb + k)))) K) := _root_.id rfl
end
end Go.Idl
