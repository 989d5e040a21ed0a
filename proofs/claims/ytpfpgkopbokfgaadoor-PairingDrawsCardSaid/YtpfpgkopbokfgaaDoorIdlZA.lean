/-
  The laws' frames: any plain data that came in, as the calculus' values: by the shape of its type.
-/
import Derived.Test.YtpfpgkopbokfgaaDoorIdlZ
namespace Go.Idl
set_option linter.all false
open Go.RowKit Go.Deep

/-- The shape of a cell: an integer of a kind, a truth value, a string, a slice with its rows' shape. -/
inductive Shp where
  | int (k : IntKind)
  | bool
  | str
  | fz (s : Nat) (row : List Shp)

mutual
def Shp.fit : Shp → IV → Prop
  | .int k, .int k' n => k' = k ∧ (Lit.int k n).wf = true
  | .bool, .bool _ => True
  | .str, .str b => b.size ≤ maxLen
  | .fz s row, .fz s' rs => s' = s ∧ rs.length ≤ maxLen ∧ ∀ r ∈ rs, fitL row r
  | _, _ => False
def fitL : List Shp → List IV → Prop
  | [], [] => True
  | a :: l, c :: cs => a.fit c ∧ fitL l cs
  | _, _ => False
end

def shpFs (P : Program) (g : TypeId → Option (List Shp)) : List Field → Nat → Option (List Shp)
  | [], _ => some []
  | f :: fs, off => match g f.type with
    | none => none
    | some l => match shpFs P g fs (off + l.length) with
      | none => none
      | some l' => bif f.offset == off && P.cellsOf f.type == l.length then some (l ++ l') else none
def shpK (P : Program) : Nat → TypeId → Option (List Shp)
  | 0, _ => none
  | d + 1, t =>
    match P.underlying t with
    | some (.int k) => some [.int k]
    | some .bool => some [.bool]
    | some .string => some [.str]
    | some (.slice e) => match shpK P d e with
        | some l => bif P.cellsOf e == l.length && Nat.blt 0 l.length then some [.fz l.length l] else none
        | none => none
    | some (.struct fs) => match shpFs P (shpK P d) fs.toList 0 with
        | some l => bif P.cellsOf t == l.length then some l else none
        | none => none
    | some (.array n e) => match shpK P d e with
        | some l => bif P.cellsOf e == l.length && P.cellsOf t == n * l.length then some (List.replicate n l).flatten else none
        | none => none
    | _ => none

theorem fitL_append : ∀ {a b : List Shp} {c d : List IV}, fitL a c → fitL b d → fitL (a ++ b) (c ++ d)
  | [], _, [], _, _, h => h
  | _ :: _, _, _ :: _, _, h1, h2 => by
    simp only [List.cons_append, fitL] at h1 ⊢
    exact ⟨h1.1, fitL_append h1.2 h2⟩
  | [], _, _ :: _, _, h, _ => by simp [fitL] at h
  | _ :: _, _, [], _, h, _ => by simp [fitL] at h
theorem fitL_length : ∀ {a : List Shp} {c : List IV}, fitL a c → c.length = a.length
  | [], [], _ => rfl
  | _ :: _, _ :: _, h => by simp only [fitL] at h; simp [fitL_length h.2]
  | [], _ :: _, h => by simp [fitL] at h
  | _ :: _, [], h => by simp [fitL] at h
theorem VRs.append' {μ : Mu} {F : Fz} {w : World} {a b : List Value} {c d : List IV} (h1 : VRs μ F w a c) (h2 : VRs μ F w b d) : VRs μ F w (a ++ b) (c ++ d) := VRs.append h1 h2

theorem trod_in {H : Type} {enc : TypeId × Value → H} {P : Program} {w : World} {base : Nat} {spare : Nat → Bool} {held : Bool} : ∀ (d : Nat) {fuel : Nat} {t : TypeId} {cs : List Value} {x : DataW H × List MemPlace} {ss : List Shp},
    DataW.trod enc P w base spare held fuel t cs = some x → shpK P d t = some ss → ∃ ivs : List IV, VRs Mu.none (Fz.all w) w cs ivs ∧ fitL ss ivs
  | 0, _, _, _, _, _, _, hs => by simp [shpK] at hs
  | d + 1, fuel, t, cs, x, ss, h, hs => by
    unfold shpK at hs
    split at hs
    · rename_i k hu
      cases hs
      obtain ⟨n, rfl, _, hw⟩ := DataW.trod_int hu h
      exact ⟨[.int k n], VRs.cons (.int _ _) VRs.nil, by simp [fitL, Shp.fit, hw]⟩
    · rename_i hu
      cases hs
      have : ∃ b, cs = [.bool b] := by
        cases fuel with
        | zero => simp [DataW.trod] at h
        | succ m =>
          unfold DataW.trod at h
          rw [hu] at h
          split at h <;> simp_all
      obtain ⟨b, rfl⟩ := this
      exact ⟨[.bool b], VRs.cons (.bool _) VRs.nil, by simp [fitL, Shp.fit]⟩
    · rename_i hu
      cases hs
      have : ∃ b : ByteArray, cs = [.string b] ∧ b.size ≤ maxLen := by
        cases fuel with
        | zero => simp [DataW.trod] at h
        | succ m =>
          unfold DataW.trod at h
          rw [hu] at h
          split at h <;> simp_all
      obtain ⟨b, rfl, hb⟩ := this
      exact ⟨[.str b], VRs.cons (.str _) VRs.nil, by simp [fitL, Shp.fit, hb]⟩
    · rename_i e hu
      split at hs
      · rename_i l hl
        cases hc : (P.cellsOf e == l.length && Nat.blt 0 l.length) with
        | false => rw [hc] at hs; cases hs
        | true =>
          rw [hc] at hs
          cases hs
          simp only [Bool.and_eq_true, beq_iff_eq, Nat.blt_eq] at hc
          obtain ⟨ce, l0⟩ := hc
          rcases open_slice hu h with ⟨rfl, _⟩ | ⟨a', len, cap, m, n, D, Pl, rfl, hb, hl', hm, hmm, rfl, hx⟩
          · exact ⟨[.fz l.length []], VRs.cons (.fz0 _ _ _) VRs.nil, by simp [fitL, Shp.fit]⟩
          · have hlm : len ≤ m := by rw [hmm]; split <;> omega
            have each : ∀ i, i < len → ∃ q : List Value × List IV, q.1.length = l.length ∧ (∀ j, j < l.length → w.cell? (a'.add (i * l.length + j)) = q.1[j]?) ∧ VRs Mu.none (Fz.all w) w q.1 q.2 ∧ fitL l q.2 := by
              intro i hi
              obtain ⟨cs', h1, h2⟩ := hx i (by omega)
              rw [ce] at h1
              obtain ⟨_, hlen, hcell⟩ := World.cells?_some h1
              obtain ⟨ivs, hv, hf⟩ := trod_in d h2 hl
              exact ⟨(cs', ivs), hlen, fun j hj => by rw [← hcell j hj, add_add], hv, hf⟩
            obtain ⟨q, hq⟩ := choose_lt each
            by_cases h0 : len = 0
            · subst h0
              exact ⟨[.fz l.length []], VRs.cons (.fz0 _ _ _) VRs.nil, by simp [fitL, Shp.fit]⟩
            · obtain ⟨b, off, spot⟩ := a'
              have ea : ∀ n, (⟨b, off, none⟩ : Addr).add n = ⟨b, off + n, none⟩ := fun n => by unfold Addr.add; split <;> simp_all
              have hspot : spot = none := by
                have h1 := (hq 0 (by omega)).2.1 0 l0
                obtain ⟨v, hv⟩ : ∃ v, (q 0).1[0]? = some v := ⟨(q 0).1[0]'(by rw [(hq 0 (by omega)).1]; exact l0), List.getElem?_eq_getElem _⟩
                rw [hv] at h1
                have := World.cell?_spot h1
                unfold Addr.add at this
                split at this <;> simp_all
              subst hspot
              have hrows : ∀ (i : Nat) (row : List IV), ((List.range len).map fun i => (q i).2)[i]? = some row → i < len ∧ row = (q i).2 := by
                intro i row hr
                simp only [List.getElem?_map, Option.map_eq_some_iff] at hr
                obtain ⟨j, hj, rfl⟩ := hr
                obtain ⟨h2, h3⟩ := List.getElem?_eq_some_iff.1 hj
                simp at h2 h3
                subst h3
                exact ⟨h2, rfl⟩
              refine ⟨[.fz l.length ((List.range len).map fun i => (q i).2)], VRs.cons (vr_in (fun i j => ((q i).1[j]?).getD (.bool false)) (by simp) hl' l0 (fun i row hr => ?_) (fun i j hi hj => ?_) (fun i row j c hr hc => ?_)) VRs.nil, ?_⟩
              · obtain ⟨hi, rfl⟩ := hrows i row hr
                have := (hq i hi).2.2.1.1
                rw [← this, (hq i hi).1]
              · have h1 := (hq i hi).2.1 j hj
                rw [ea] at h1
                obtain ⟨u, h2⟩ : ∃ u, (q i).1[j]? = some u := ⟨(q i).1[j]'(by rw [(hq i hi).1]; exact hj), List.getElem?_eq_getElem _⟩
                rw [Nat.add_assoc, h1, h2]; rfl
              · obtain ⟨hi, rfl⟩ := hrows i row hr
                have hj : j < (q i).1.length := by
                  have := (List.getElem?_eq_some_iff.1 hc).1
                  rw [(hq i hi).2.2.1.1]; exact this
                have h2 : (q i).1[j]? = some (q i).1[j] := List.getElem?_eq_getElem hj
                simp only [h2, Option.getD_some]
                exact (hq i hi).2.2.1.2 j _ c h2 hc
              · simp only [fitL, Shp.fit]
                refine ⟨⟨trivial, by simp; omega, fun r hr => ?_⟩, trivial⟩
                obtain ⟨i, hi, rfl⟩ := List.mem_map.1 hr
                exact (hq i (List.mem_range.1 hi)).2.2.2
      · cases hs
    · rename_i fs hu
      split at hs
      · rename_i l hl
        cases hc : (P.cellsOf t == l.length) with
        | false => rw [hc] at hs; cases hs
        | true =>
          rw [hc] at hs
          obtain ⟨⟩ := Option.some.inj hs
          simp only [beq_iff_eq] at hc
          obtain ⟨xs, n, _, _, hlen, _, hf⟩ := DataW.trod_struct hu h
          have go : ∀ (L : List Field) (k off : Nat) (ls : List Shp), fs.toList.drop k = L → shpFs P (shpK P d) L off = some ls → off ≤ cs.length → ∃ ivs, VRs Mu.none (Fz.all w) w ((cs.drop off).take ls.length) ivs ∧ fitL ls ivs := by
            intro L
            induction L with
            | nil => intro k off ls _ hls _; simp only [shpFs, Option.some.injEq] at hls; subst hls; exact ⟨[], by simp; exact VRs.nil, by simp [fitL]⟩
            | cons f L ih =>
              intro k off ls hk hls hoff
              have hfk : fs[k]? = some f := by
                have : (fs.toList.drop k)[0]? = some f := by rw [hk]; rfl
                rw [List.getElem?_drop] at this
                simpa using this
              simp only [shpFs] at hls
              split at hls
              · cases hls
              · rename_i l1 hl1
                split at hls
                · cases hls
                · rename_i l2 hl2
                  cases hc2 : (f.offset == off && P.cellsOf f.type == l1.length) with
                  | false => rw [hc2] at hls; cases hls
                  | true =>
                    rw [hc2] at hls
                    simp only [Bool.and_eq_true, beq_iff_eq] at hc2
                    cases hls
                    have h1 := hf k f hfk
                    rw [hc2.1, hc2.2] at h1
                    have hkx : k < xs.length := by
                      have := (Array.getElem?_eq_some_iff.1 hfk).1
                      omega
                    rw [List.getElem?_eq_getElem hkx] at h1
                    obtain ⟨iv1, v1, f1⟩ := trod_in d h1 hl1
                    have e1 : ((cs.drop off).take l1.length).length = l1.length := by rw [v1.1, fitL_length f1]
                    have hle : off + l1.length ≤ cs.length := by rw [List.length_take, List.length_drop] at e1; omega
                    obtain ⟨iv2, v2, f2⟩ := ih (k + 1) (off + l1.length) l2 (by rw [← List.drop_drop, hk]; rfl) hl2 hle
                    refine ⟨iv1 ++ iv2, ?_, fitL_append f1 f2⟩
                    have e2 : (cs.drop off).take (l1 ++ l2).length = (cs.drop off).take l1.length ++ (cs.drop (off + l1.length)).take l2.length := by
                      rw [List.length_append, List.take_add, List.drop_drop]
                    rw [e2]
                    exact VRs.append v1 v2
          obtain ⟨ivs, hv, hf⟩ := go fs.toList 0 0 _ rfl hl (Nat.zero_le _)
          have e3 : (cs.drop 0).take ss.length = cs := by rw [List.drop_zero, List.take_of_length_le (by omega)]
          rw [e3] at hv
          exact ⟨ivs, hv, hf⟩
      · cases hs
    · rename_i n e hu
      split at hs
      · rename_i l hl
        cases hc : (P.cellsOf e == l.length && P.cellsOf t == n * l.length) with
        | false => rw [hc] at hs; cases hs
        | true =>
          rw [hc] at hs
          cases hs
          simp only [Bool.and_eq_true, beq_iff_eq] at hc
          obtain ⟨xs, m, _, _, hlen, hxl, hf⟩ := DataW.trod_array hu h
          have go : ∀ k, k ≤ n → ∃ ivs, VRs Mu.none (Fz.all w) w (cs.take (k * l.length)) ivs ∧ fitL (List.replicate k l).flatten ivs := by
            intro k
            induction k with
            | zero => intro _; exact ⟨[], by simp; exact VRs.nil, by simp [fitL]⟩
            | succ k ih =>
              intro hk
              obtain ⟨iv1, v1, f1⟩ := ih (by omega)
              have h1 := hf k (by omega)
              rw [hc.1, List.getElem?_eq_getElem (by omega)] at h1
              obtain ⟨iv2, v2, f2⟩ := trod_in d h1 hl
              refine ⟨iv1 ++ iv2, ?_, ?_⟩
              · rw [Nat.succ_mul, List.take_add]; exact VRs.append v1 v2
              · rw [List.replicate_succ', List.flatten_append]
                simp only [List.flatten_cons, List.flatten_nil, List.append_nil]
                exact fitL_append f1 f2
          obtain ⟨ivs, hv, hff⟩ := go n (Nat.le_refl _)
          rw [List.take_of_length_le (by omega)] at hv
          exact ⟨ivs, hv, hff⟩
      · cases hs
    · cases hs

/-- One argument. -/
theorem arg_in {H : Type} {enc : TypeId × Value → H} {P : Program} {w : World} {base : Nat} {spare : Nat → Bool} {held : Bool} {t : TypeId} {v : Value} {D : DataW H} {ps : List MemPlace} {s : Shp} (d : Nat)
    (h : DataW.Trod enc P w base spare held t v D ps) (hc : v.cells.toList = [v]) (hs : shpK P d t = some [s]) : ∃ c, VR Mu.none (Fz.all w) w v c ∧ s.fit c := by
  obtain ⟨fuel, hf⟩ := h
  rw [hc] at hf
  obtain ⟨ivs, hv, hfit⟩ := trod_in d hf hs
  match ivs, hfit with
  | [c], hfit => simp only [fitL] at hfit; exact ⟨c, hv.2 0 v c rfl rfl, hfit.1⟩

/-! ### shapes as lists -/
theorem fit_list {α : Type} {s : Nat} {row : List Shp} {f : α → List IV} {q : α → Prop} (hrow : ∀ r, fitL row r → ∃ a, r = f a ∧ q a) : ∀ {c : IV}, (Shp.fz s row).fit c → ∃ l : List α, c = .fz s (mp f l) ∧ (∀ a ∈ l, q a) ∧ l.length ≤ maxLen := by
  intro c h
  cases c with
  | fz s' rs =>
    simp only [Shp.fit] at h
    obtain ⟨rfl, hl, h⟩ := h
    have : ∃ l : List α, rs = mp f l ∧ ∀ a ∈ l, q a := by
      clear hl
      induction rs with
      | nil => exact ⟨[], rfl, by simp⟩
      | cons r rs ih =>
        obtain ⟨l, e, hq⟩ := ih fun r hr => h r (List.mem_cons_of_mem _ hr)
        obtain ⟨a, ha, hqa⟩ := hrow r (h r (List.mem_cons_self ..))
        exact ⟨a :: l, by rw [e, ha]; rfl, fun b hb => (List.mem_cons.1 hb).elim (fun e => e ▸ hqa) (hq b)⟩
    obtain ⟨l, rfl, hq⟩ := this
    exact ⟨l, rfl, hq, by simpa [mp] using hl⟩
  | _ => simp [Shp.fit] at h
theorem fit_int {k : IntKind} : ∀ {c : IV}, (Shp.int k).fit c → ∃ z : Int, c = .int k z ∧ (Lit.int k z).wf = true := by
  intro c h
  cases c with
  | int k' z => simp only [Shp.fit] at h; obtain ⟨rfl, h⟩ := h; exact ⟨z, rfl, h⟩
  | _ => simp [Shp.fit] at h
theorem fit_bool : ∀ {c : IV}, Shp.bool.fit c → ∃ b, c = .bool b := by
  intro c h
  cases c with
  | bool b => exact ⟨b, rfl⟩
  | _ => simp [Shp.fit] at h
theorem fitL_nil {r : List IV} (h : fitL [] r) : r = [] := by
  cases r with
  | nil => rfl
  | cons _ _ => simp [fitL] at h
theorem fitL_cons {a : Shp} {l : List Shp} {r : List IV} (h : fitL (a :: l) r) : ∃ c cs, r = c :: cs ∧ a.fit c ∧ fitL l cs := by
  cases r with
  | nil => simp [fitL] at h
  | cons c cs => simp only [fitL] at h; exact ⟨c, cs, rfl, h⟩
/-- A slice of integers. -/
theorem fit_ints {k : IntKind} {c : IV} (h : (Shp.fz 1 [.int k]).fit c) : ∃ l : List Int, c = .fz 1 (mp (fun z => [.int k z]) l) ∧ (∀ z ∈ l, (Lit.int k z).wf = true) ∧ l.length ≤ maxLen :=
  fit_list (fun r hr => by
    obtain ⟨c, cs, rfl, h1, h2⟩ := fitL_cons hr
    obtain rfl := fitL_nil h2
    obtain ⟨z, rfl, hz⟩ := fit_int h1
    exact ⟨z, rfl, hz⟩) h
/-- A slice of pairs of integers. -/
theorem fit_prs {k : IntKind} {c : IV} (h : (Shp.fz 2 [.int k, .int k]).fit c) : ∃ l : List (Int × Int), c = .fz 2 (mp (fun p => [.int k p.1, .int k p.2]) l) ∧ (∀ z ∈ l, (Lit.int k z.1).wf = true ∧ (Lit.int k z.2).wf = true) ∧ l.length ≤ maxLen :=
  fit_list (fun r hr => by
    obtain ⟨c, cs, rfl, h1, h2⟩ := fitL_cons hr
    obtain ⟨c2, cs2, rfl, h3, h4⟩ := fitL_cons h2
    obtain rfl := fitL_nil h4
    obtain ⟨z, rfl, hz⟩ := fit_int h1
    obtain ⟨y, rfl, hy⟩ := fit_int h3
    exact ⟨(z, y), rfl, hz, hy⟩) h
end Go.Idl
