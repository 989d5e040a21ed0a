/-
  Each operation of the model does what its ideal does: slices, append, and all of them together.
-/
import Derived.Test.YtpfpgkopbokfgaaDoorIdlF
namespace Go.Idl
set_option linter.all false
open Go.RowKit
section
variable {P : Program} {μ : Mu} {F : Fz} {w : World} {σ : Heap} {ev : Operand → Value} {ρ : Operand → Option IV}

theorem run_sliceRaw {t e : TypeId} {ie : TypeInfo} (hu : P.underlying t = some (.slice e)) (hi : P.info? e = some ie) (a : Option Addr) (len cap : Nat) (lo hi' : Option Operand) (l u : Int)
    (hl : loV ρ lo = some l) (hh : hiV ρ hi' len = some u) (hρ : ∀ x c, ρ x = some c → VR μ F w (ev x) c) (h0 : 0 ≤ l) (h1 : l ≤ u) (h2 : u ≤ cap) (_hlc : len ≤ cap) :
    (Instr.sliceAt t (.slice a len cap) (lo.map ev) (hi'.map ev) none).run P w =
      .ok (.slice (if cap = l.toNat then a else a.map (·.add (l.toNat * ie.size))) (u.toNat - l.toNat) (cap - l.toNat)) w := by
  have hsz : (sizeOf e).run P w = .ok ie.size w := by simp [sizeOf, typeInfo, hi]
  have hiv : ∀ x n k, ρ x = some (.int k n) → ev x = .int k n := fun x n k e => by
    have := hρ x _ e
    generalize ev x = v at *
    cases this; rfl
  cases hi' with
  | none =>
    simp only [hiV, Option.some.injEq] at hh
    subst hh
    cases lo with
    | none =>
      simp only [loV, Option.some.injEq] at hl
      subst hl
      simp [Instr.sliceAt, Instr.slice, Instr.sliceBounds, run_underlying hu, hsz]
    | some x =>
      simp only [loV] at hl
      split at hl
      · rename_i k n ex
        cases hl
        have h1' : l ≤ (len : Int) := h1
        simp [Instr.sliceAt, Instr.slice, Instr.sliceBounds, run_underlying hu, hsz, hiv x _ _ ex, Instr.sliceBound, asIntOf, h0, h1']
      · cases hl
  | some y =>
    simp only [hiV] at hh
    split at hh
    · rename_i k m ey
      cases hh
      have h0u : 0 ≤ u := by omega
      cases lo with
      | none =>
        simp only [loV, Option.some.injEq] at hl
        subst hl
        simp [Instr.sliceAt, Instr.slice, Instr.sliceBounds, run_underlying hu, hsz, hiv y _ _ ey, Instr.sliceBound, asIntOf, h0u, h2]
      | some x =>
        simp only [loV] at hl
        split at hl
        · rename_i k n ex
          cases hl
          have h1' : l ≤ ((u.toNat : Nat) : Int) := by omega
          simp [Instr.sliceAt, Instr.slice, Instr.sliceBounds, run_underlying hu, hsz, hiv x _ _ ex, hiv y _ _ ey, Instr.sliceBound, asIntOf, h0, h0u, h2]
          omega
        · cases hl
    · cases hh

theorem slice_goes {t : TypeId} {x : Operand} {lo hi : Option Operand} {nb : Nat} {r : Out} {c : Bool} (hρ : ∀ x c, ρ x = some c → VR μ F w (ev x) c) (hH : HR μ F σ w) (h : iop P c (.slice t x lo hi none) ρ σ nb = some r) (hp : r.pre) :
    ∃ z, (Instr.sliceAt t (ev x) (lo.map ev) (hi.map ev) none).run P w = .ok z w ∧ VR μ F w z r.v ∧ r.w = none := by
  simp only [iop] at h
  split at h
  · rename_i e s rows l hu ex hl
    cases hc : (hasP P e && Nat.beq (sizeP P e) s) with
    | false => rw [hc] at h; cases h
    | true =>
      rw [hc] at h
      simp only [Bool.and_eq_true, Nat.beq_eq] at hc
      obtain ⟨he, hse⟩ := hc
      simp only [cond_true] at h
      split at h
      · rename_i u hh
        simp only [okIf, Option.some.injEq] at h; subst h
        obtain ⟨h0, h1, h2⟩ := hp
        obtain ⟨ie, _, hie, _, hsz, _⟩ := hasP_spec he
        have hes : ie.size = s := by omega
        have hx := hρ x _ ex
        generalize hvx : ev x = vx at *
        have hnil : ∀ (a : Option Addr) (n cap : Nat), ((rows.take u.toNat).drop l.toNat) = [] → n = 0 → VR μ F w (.slice a n cap) (.fz s ((rows.take u.toNat).drop l.toNat)) := fun a n cap e1 e2 => by rw [e1, e2]; exact .fz0 _ _ _
        cases hx with
        | fz g off _ _ cap us hF hrow hcell hvr hcap =>
          have hr := run_sliceRaw hu hie (some ⟨g, off, none⟩) rows.length cap lo hi l u hl hh hρ h0 h1 (by omega) hcap
          refine ⟨_, hr, ?_, rfl⟩
          have hlen : ((rows.take u.toNat).drop l.toNat).length = u.toNat - l.toNat := by simp; omega
          by_cases hz : u.toNat - l.toNat = 0
          · exact hnil _ _ _ (List.eq_nil_of_length_eq_zero (by omega)) hz
          · rw [if_neg (by omega)]
            simp only [Option.map_some, Addr.add_lit, hes]
            have hget : ∀ i row, ((rows.take u.toNat).drop l.toNat)[i]? = some row → rows[l.toNat + i]? = some row := fun i row e => by
              rw [List.getElem?_drop, List.getElem?_take] at e
              split at e
              · exact e
              · cases e
            rw [← hlen]
            refine .fz g (off + l.toNat * s) s _ _ (fun i j => us (l.toNat + i) j) hF (fun i row e => hrow _ row (hget i row e)) (fun i row j e hj => ?_) (fun i row j c e1 e2 => hvr _ row j c (hget i row e1) e2) (by omega)
            have := hcell _ row j (hget i row e) hj
            rwa [Nat.add_mul, ← Nat.add_assoc] at this
        | fz0 a cap _ =>
          simp only [List.length_nil] at h2
          have hr := run_sliceRaw hu hie a 0 cap lo hi l u hl (by simpa using hh) hρ h0 h1 (by omega) (by omega)
          exact ⟨_, hr, hnil _ _ _ (by simp) (by omega), rfl⟩
      · cases h
  · rename_i e b tot i len cap l hu ex hl
    cases he : hasP P e with
    | false => rw [he] at h; cases h
    | true =>
      rw [he] at h
      simp only [cond_true] at h
      split at h
      · rename_i s rs hb
        cases hse : Nat.beq (sizeP P e) s with
        | false => rw [hse] at h; cases h
        | true =>
          rw [hse] at h
          rw [Nat.beq_eq] at hse
          simp only [cond_true] at h
          split at h
          · rename_i u hh
            simp only [okIf, Option.some.injEq] at h; subst h
            obtain ⟨h0, h1, h2, htot, hil⟩ := hp
            obtain ⟨ie, _, hie, _, hsz, _⟩ := hasP_spec he
            have hes : ie.size = s := by omega
            obtain ⟨hub, hpos, hszb, hlen, hrow, hcs⟩ := hH.obj b _ hb
            have hx := hρ x _ ex
            generalize hvx : ev x = vx at *
            cases hx with
            | sl _ _ _ _ _ _ hk hb' ht' hsl =>
              have hsl := hsl (by omega)
              cases hpl : μ.pl b with
              | dead => rcases hcs with ⟨h, _⟩ | ⟨_, _, _, _, h, _⟩ <;> rw [hpl] at h <;> cases h
              | empty =>
                rw [hpl] at hsl
                obtain ⟨rfl, h3⟩ := hsl
                subst h3
                have hr := run_sliceRaw hu hie none 0 0 lo hi l u hl (by simpa using hh) hρ h0 h1 (by omega) (by omega)
                have e1 : l.toNat = 0 := by omega
                have e2 : u.toNat = 0 := by omega
                refine ⟨_, hr, ?_, rfl⟩
                rw [e1, e2]
                refine .sl _ b tot _ _ _ rfl hub (by omega) (fun _ => ?_)
                rw [hpl]; exact ⟨by simp, rfl⟩
              | at_ g off =>
                rw [hpl] at hsl
                obtain ⟨a, c', rfl, hle, hcp, ha, hcap⟩ := hsl
                have hr := run_sliceRaw hu hie a len c' lo hi l u hl hh hρ h0 h1 (by omega) hle
                refine ⟨_, hr, .sl _ b tot _ _ _ rfl hub (by omega) (fun _ => ?_), rfl⟩
                rw [hpl]
                refine ⟨_, _, rfl, by omega, by omega, ?_, fun c2 hc2 => ?_⟩
                · by_cases hz : c' = l.toNat
                  · exact .inl (by omega)
                  · refine .inr ?_
                    rw [if_neg hz]
                    rcases ha with ha | ha
                    · omega
                    · rw [ha, hszb]; simp [Addr.add_lit, hes, Nat.add_mul, Nat.add_assoc]
                · simp only [Option.map_eq_some_iff] at hc2
                  obtain ⟨c3, hc3, rfl⟩ := hc2
                  rw [hcap c3 hc3]
          · cases h
      · cases h
  · cases h

theorem minmax_run (max : Bool) : ∀ (l : List IV) (vs : List Value) (a : IV) (v : Value) (r : IV), VR μ F w v a → VRs μ F w vs l → mms max a l = some r →
    ∃ z, (vs.foldlM (if max then Builtin.max2 else Builtin.min2) v).run P w = .ok z w ∧ VR μ F w z r
  | [], vs, a, v, r, ha, hl, h => by
    have : vs = [] := by simpa using hl.1
    subst this
    simp only [mms, Option.some.injEq] at h; subst h
    exact ⟨v, rfl, ha⟩
  | b :: l, vs, a, v, r, ha, hl, h => by
    cases vs with
    | nil => simp [VRs] at hl
    | cons u vs =>
      have hb := hl.2 0 u b rfl rfl
      have hl' : VRs μ F w vs l := ⟨by simpa using hl.1, fun j v c e1 e2 => hl.2 (j + 1) v c (by simpa using e1) (by simpa using e2)⟩
      simp only [mms] at h
      split at h
      · rename_i c hc
        unfold mm at hc
        split at hc
        · rename_i k x k' y
          cases hc
          cases ha
          cases hb
          obtain ⟨z, z1, z2⟩ := minmax_run max l vs _ (.int k (bif max then (if y > x then y else x) else (if y < x then y else x))) r (.int _ _) hl' h
          refine ⟨z, ?_, z2⟩
          rw [List.foldlM_cons, Sem.run_bind]
          cases max
          · simpa [Builtin.min2] using z1
          · simpa [Builtin.max2] using z1
        · cases hc
      · cases h

/-- What the slice's elements read as (Src without its last part). -/
structure Src0 (P : Program) (size : Nat) (tx : TypeId) (x : Value) (n : Nat) (news : List Value) (w : World) : Prop where
  kind : (∃ e', P.underlying tx = some (.slice e')) ∨ P.underlying tx = some .string
  len : ∀ w' : World, (Builtin.lenOf x).run P w' = .ok n w'
  cells : (Builtin.firstCells size n x).run P w = .ok news.toArray w
  cellsD : (Builtin.firstCells size n x).run P w.drew = .ok news.toArray w.drew
  newsLen : news.length = n * size
theorem Src0.src {size : Nat} {tx : TypeId} {x : Value} {n : Nat} {news : List Value} (h : Src0 P size tx x n news w) (h1 : ∀ u ∈ news, u.oneCell' = true) : Src P size tx x n news w := ⟨h.kind, h.len, h.cells, h.cellsD, h.newsLen, h1⟩
theorem Src0.ofSlice {size : Nat} {tx e' : TypeId} (hk : P.underlying tx = some (.slice e')) (a : Addr) (n c : Nat) (news : List Value) (hl : news.length = n * size) (hnews : ∀ j u, news[j]? = some u → w.cell? (a.add j) = some u) : Src0 P size tx (.slice (some a) n c) n news w :=
  ⟨.inl ⟨e', hk⟩, fun _ => rfl, run_firstCells_some w size n a n c news hl hnews, run_firstCells_some w.drew size n a n c news hl (by simpa using hnews), hl⟩
theorem Src0.ofNil {size : Nat} {tx e' : TypeId} (hk : P.underlying tx = some (.slice e')) (c : Nat) : Src0 P size tx (.slice none 0 c) 0 [] w :=
  ⟨.inl ⟨e', hk⟩, fun _ => rfl, run_firstCells_none w size 0 0 c, run_firstCells_none w.drew size 0 0 c, by simp⟩

/-- A source of append. -/
theorem src_rows0 {y : Value} {c : IV} {s : Nat} {pre : Prop} {src : List (List IV)} {tx e' : TypeId} (hk : P.underlying tx = some (.slice e')) (hH : HR μ F σ w) (hy : VR μ F w y c) (h : srcRows σ c = some (pre, src)) (hp : pre)
    (hs : ∀ r ∈ src, r.length = s) (hpos : 0 < s) : ∃ news, Src0 P s tx y src.length news w ∧ news.length = src.length * s ∧ ∀ (i : Nat) (row : List IV) (j : Nat) (c : IV), src[i]? = some row → row[j]? = some c → ∃ v, news[i * s + j]? = some v ∧ VR μ F w v c := by
  have hdiv : ∀ k n, k < n * s → k / s < n ∧ k / s * s + k % s = k ∧ k % s < s := fun k n hk => by
    have h1 : k / s < n := Nat.div_lt_of_lt_mul (by rwa [Nat.mul_comm])
    have h2 := Nat.div_add_mod k s
    exact ⟨h1, by rw [Nat.mul_comm]; exact h2, Nat.mod_lt _ hpos⟩
  have none0 : ∀ (a : Option Addr) (cap : Nat), ∃ news, Src0 P s tx (.slice a 0 cap) 0 news w ∧ news.length = 0 * s := fun a cap => by
    refine ⟨[], ?_, by simp⟩
    cases a with
    | none => exact Src0.ofNil hk cap
    | some a => exact Src0.ofSlice hk a 0 cap [] (by simp) (by simp)
  have at1 : ∀ (g off cap : Nat) (us : Nat → Nat → Value), (∀ i j row, src[i]? = some row → j < s → w.cell? ⟨g, off + i * s + j, none⟩ = some (us i j)) →
      (∀ (i : Nat) (row : List IV) (j : Nat) (c : IV), src[i]? = some row → row[j]? = some c → VR μ F w (us i j) c) →
      ∃ news, Src0 P s tx (.slice (some ⟨g, off, none⟩) src.length cap) src.length news w ∧ news.length = src.length * s ∧ ∀ (i : Nat) (row : List IV) (j : Nat) (c : IV), src[i]? = some row → row[j]? = some c → ∃ v, news[i * s + j]? = some v ∧ VR μ F w v c :=
    fun g off cap us hc hv => by
    refine ⟨(List.range (src.length * s)).map fun k => us (k / s) (k % s), ?_, by simp, fun i row j c e1 e2 => ?_⟩
    · refine Src0.ofSlice hk _ _ _ _ (by simp) (fun k u hu => ?_)
      · have hk := (List.getElem?_eq_some_iff.1 hu).1
        simp at hk
        simp [hk] at hu
        subst hu
        obtain ⟨d1, d2, d3⟩ := hdiv k _ hk
        rw [Addr.add_lit]
        have := hc (k / s) (k % s) _ (List.getElem?_eq_getElem d1) d3
        rwa [Nat.add_assoc, d2] at this
    · have hi := (List.getElem?_eq_some_iff.1 e1).1
      have hr := hs row (List.mem_of_getElem? e1)
      have hj := (List.getElem?_eq_some_iff.1 e2).1
      have hlt : i * s + j < src.length * s := by
        have : (i + 1) * s ≤ src.length * s := Nat.mul_le_mul_right _ hi
        rw [Nat.add_mul] at this; omega
      have e3 : (i * s + j) / s = i := by rw [Nat.mul_comm, Nat.mul_add_div hpos, Nat.div_eq_of_lt (by omega)]; rfl
      have e4 : (i * s + j) % s = j := by rw [Nat.mul_comm, Nat.mul_add_mod, Nat.mod_eq_of_lt (by omega)]
      exact ⟨us i j, by simp [hlt, e3, e4], hv i row j c e1 e2⟩
  unfold srcRows at h
  split at h
  · cases h
    cases hy with
    | fz g off _ _ cap us hF hrow hcell hvr hcap =>
      by_cases h0 : src = []
      · subst h0
        obtain ⟨news, n1, n2⟩ := none0 (some ⟨g, off, none⟩) cap
        exact ⟨news, n1, n2, by simp⟩
      · have hs0 : ∀ (i : Nat) (row : List IV), src[i]? = some row → row.length = s := fun i row e => hs row (List.mem_of_getElem? e)
        obtain ⟨r0, rest, e0⟩ := List.exists_cons_of_ne_nil h0
        have e1 := hrow 0 r0 (by simp [e0])
        have e2 := hs0 0 r0 (by simp [e0])
        rw [e1] at e2
        subst e2
        exact at1 g off cap us (fun i j row e hj => hcell i row j e hj) hvr
    | fz0 a cap _ =>
      obtain ⟨news, n1, n2⟩ := none0 a cap
      exact ⟨news, n1, n2, by simp⟩
  · cases h
    cases hy
    obtain ⟨news, n1, n2⟩ := none0 none 0
    exact ⟨news, n1, n2, by simp⟩
  · rename_i b tot i len cap
    split at h
    · rename_i s' rs hb
      cases h
      obtain ⟨htot, hil⟩ := hp
      obtain ⟨hub, hpos', hszb, hlen, hrow, hcs⟩ := hH.obj b _ hb
      cases hy with
      | sl _ _ _ _ _ _ hk hb' ht' hsl =>
        have hsl := hsl (by omega)
        have hlen' : ((rs.drop i).take len).length = len := by simp; omega
        rcases hcs with ⟨hpl, h0⟩ | ⟨g, off, cs, T, hpl, hg, hcp1, hcp2, hcs⟩
        · rw [hpl] at hsl
          obtain ⟨rfl, rfl⟩ := hsl
          obtain ⟨news, n1, n2⟩ := none0 none 0
          exact ⟨news, by simpa using n1, by simpa using n2, by simp⟩
        · rw [hpl] at hsl
          obtain ⟨a, c', rfl, hle, hcp, ha, _⟩ := hsl
          by_cases hz : len = 0
          · subst hz
            obtain ⟨news, n1, n2⟩ := none0 a c'
            exact ⟨news, by simpa using n1, by simpa using n2, by simp⟩
          · have ha : a = some ⟨g, off + i * μ.sz b, none⟩ := by
              rcases ha with h | h
              · omega
              · exact h
            subst ha
            have hget : ∀ k row, ((rs.drop i).take len)[k]? = some row → rs[i + k]? = some row := fun k row e => by
              rw [List.getElem?_take] at e
              split at e
              · rwa [List.getElem?_drop] at e
              · cases e
            have hss : s' = s := by
              have hi0 : 0 < ((rs.drop i).take len).length := by omega
              have := hs _ (List.getElem_mem hi0)
              rw [← this]
              exact (hrow _ _ (hget 0 _ (List.getElem?_eq_getElem hi0))).symm
            subst hss
            rw [hszb]
            have := at1 g (off + i * s') c' (fun k j => cs.getD (off + (i + k) * s' + j) undef) (fun k j row e hj => by
                have hr := hget k row e
                have hj' : j < row.length := by rw [hrow _ _ hr]; exact hj
                obtain ⟨v, v1, _⟩ := hcs _ _ j _ hr (List.getElem?_eq_getElem hj')
                rw [show off + i * s' + k * s' + j = off + (i + k) * s' + j by rw [Nat.add_mul]; omega]
                rw [cell_of_row w g _ cs T (0, 0) hg, v1]
                simp [v1])
              (fun k row j c e1 e2 => by
                obtain ⟨v, v1, v2⟩ := hcs _ _ j c (hget k row e1) e2
                simpa [v1] using v2)
            rwa [hlen'] at this ⊢
    · cases h
  · cases h

theorem src_rows {y : Value} {c : IV} {s : Nat} {pre : Prop} {src : List (List IV)} {tx e' : TypeId} (hk : P.underlying tx = some (.slice e')) (hH : HR μ F σ w) (hy : VR μ F w y c) (h : srcRows σ c = some (pre, src)) (hp : pre)
    (hs : ∀ r ∈ src, r.length = s ∧ r.all IV.one = true) (hpos : 0 < s) : ∃ news, Src P s tx y src.length news w ∧ news.length = src.length * s ∧ ∀ (i : Nat) (row : List IV) (j : Nat) (c : IV), src[i]? = some row → row[j]? = some c → ∃ v, news[i * s + j]? = some v ∧ VR μ F w v c := by
  obtain ⟨news, h1, h2, h3⟩ := src_rows0 hk hH hy h hp (fun r hr => (hs r hr).1) hpos
  refine ⟨news, h1.src fun u hu => ?_, h2, h3⟩
  obtain ⟨k, hk', rfl⟩ := List.getElem_of_mem hu
  have d1 : k / s < src.length := Nat.div_lt_of_lt_mul (by rw [Nat.mul_comm]; omega)
  have d2 := Nat.div_add_mod k s
  have d3 := Nat.mod_lt k hpos
  have hr := hs _ (List.getElem_mem d1)
  have hj : k % s < (src[k / s]).length := by omega
  obtain ⟨v, v1, v2⟩ := h3 (k / s) _ (k % s) _ (List.getElem?_eq_getElem d1) (List.getElem?_eq_getElem hj)
  rw [show k / s * s + k % s = k by rw [Nat.mul_comm]; exact d2] at v1
  rw [List.getElem?_eq_getElem hk'] at v1
  cases v1
  exact VR.one v2 (List.all_eq_true.1 hr.2 _ (List.getElem_mem hj))
end
end Go.Idl
