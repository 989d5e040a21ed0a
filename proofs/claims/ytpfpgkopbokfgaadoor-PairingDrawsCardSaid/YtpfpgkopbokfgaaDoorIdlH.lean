/-
  append.
-/
import Derived.Test.YtpfpgkopbokfgaaDoorIdlG
import Derived.Deep.Upon
namespace Go.Idl
set_option linter.all false
open Go.RowKit
section
variable {P : Program} {μ : Mu} {F : Fz} {w : World} {σ : Heap} {ev : Operand → Value} {ρ : Operand → Option IV}

theorem VR.heap_eq {w' : World} (h : w'.heap = w.heap) {v : Value} {c : IV} (hv : VR μ F w v c) : VR μ F w' v c := hv.mono (Mu.le_refl _) (fun _ h => h) (fun _ _ => by rw [h])

theorem Ext.heap_eq {w' : World} (h : w'.heap = w.heap) (h1 : w'.os = w.os) (h2 : w'.tape = w.tape) (h3 : w'.output = w.output) : Ext μ F w μ F w' :=
  ⟨Mu.le_refl _, fun _ h => h, fun _ h => h, fun _ _ => by rw [h], by rw [h]; exact Nat.le_refl _, h1, h2, h3, fun _ h => .inl h⟩

theorem HR.heap_eq {w' : World} (hH : HR μ F σ w) (h : w'.heap = w.heap) : HR μ F σ w' :=
  ⟨hH.n, fun b o e => (hH.obj b o e).mono (Mu.le_refl _) (fun _ h => h) (fun _ _ => by rw [h]) ⟨rfl, rfl, rfl, rfl, id⟩ (fun _ _ _ _ => by rw [h]) (fun l _ _ _ h1 h2 h3 _ => ⟨h1, h2, h3, by rw [h]⟩) (fun _ _ _ _ _ hu => ⟨hu, rfl, rfl, fun _ _ _ => by rw [h]⟩), hH.inj, hH.fro, fun b g off hu e => by rw [h]; exact hH.lt b g off hu e, fun g hg => by rw [h]; exact hH.flt g hg, hH.yin, hH.itd⟩

/-- Cells of rows one behind the other, rows behind rows. -/
theorem rows_append {s : Nat} {os ns : List Value} {ro rn : List (List IV)} (ho : os.length = ro.length * s)
    (h1 : ∀ (i : Nat) (row : List IV) (j : Nat) (c : IV), ro[i]? = some row → row[j]? = some c → ∃ v, os[i * s + j]? = some v ∧ VR μ F w v c)
    (h2 : ∀ (i : Nat) (row : List IV) (j : Nat) (c : IV), rn[i]? = some row → row[j]? = some c → ∃ v, ns[i * s + j]? = some v ∧ VR μ F w v c) (tail : List Value) :
    ∀ (i : Nat) (row : List IV) (j : Nat) (c : IV), (ro ++ rn)[i]? = some row → row[j]? = some c → ∃ v, (os ++ ns ++ tail)[i * s + j]? = some v ∧ VR μ F w v c := by
  intro i row j c e1 e2
  by_cases hi : i < ro.length
  · rw [List.getElem?_append_left hi] at e1
    obtain ⟨v, v1, v2⟩ := h1 i row j c e1 e2
    refine ⟨v, ?_, v2⟩
    have := (List.getElem?_eq_some_iff.1 v1).1
    rw [List.append_assoc, List.getElem?_append_left this]; exact v1
  · rw [List.getElem?_append_right (by omega)] at e1
    obtain ⟨v, v1, v2⟩ := h2 _ row j c e1 e2
    refine ⟨v, ?_, v2⟩
    have hlt := (List.getElem?_eq_some_iff.1 v1).1
    have e3 : i * s + j - os.length = (i - ro.length) * s + j := by
      rw [ho, Nat.sub_mul]
      have : ro.length * s ≤ i * s := Nat.mul_le_mul_right _ (by omega)
      omega
    have hge : os.length ≤ i * s + j := by
      rw [ho]
      have : ro.length * s ≤ i * s := Nat.mul_le_mul_right _ (by omega)
      omega
    rw [List.append_assoc, List.getElem?_append_right hge, e3, List.getElem?_append_left hlt]; exact v1

def Mu.re (μ : Mu) (b s n c : Nat) (p : Place) : Mu := μ.add b s n c p

theorem Mu.le_re {b s n c : Nat} {p : Place} (hs : μ.u b → μ.sz b = s) (hl : μ.u b → μ.len b < n) (hpos : 0 < s) : μ.le (μ.add b s n c p) := by
  intro x hx
  by_cases e : x = b
  · subst e
    have h1 := hs hx
    have h2 := hl hx
    refine ⟨.inl rfl, by simp [Mu.add, h1], by simp [Mu.add]; omega, fun h => by simp [Mu.add] at h; omega, fun h => by omega⟩
  · simp [Mu.add, e, hx]

theorem Mu.le_keep {b : Nat} : μ.le (μ.add b (μ.sz b) (μ.len b) (μ.cp b) (μ.pl b)) := by
  intro x hx
  by_cases e : x = b
  · subst e; simp [Mu.add]
  · simp [Mu.add, e, hx]

/-- The slice grows into a new block. -/
theorem append_grow {t tx ty e : TypeId} {ie : TypeInfo} {z : Value} {zi : List IV} {s : Nat} (hu : P.underlying t = some (.slice e)) (hi : P.info? e = some ie) (hz : ie.zero = some z) (hzi : VRs μ F w z.cells.toList zi) (hzl : zi.length = s) (hs : ie.size = s) (hpos : 0 < s)
    (hby : ie.bytes ≤ 1024) (hH : HR μ F σ w) {base : Option Addr} {sLen sCap : Nat} {olds : List Value} {ro : List (List IV)} (hro : ro.length = sLen) (hold : (Builtin.firstCells s sLen (.slice base sLen sCap)).run P w.drew = .ok olds.toArray w.drew) (hol : olds.length = sLen * s)
    (hor : ∀ r ∈ ro, r.length = s) (hoc : ∀ (i : Nat) (row : List IV) (j : Nat) (c : IV), ro[i]? = some row → row[j]? = some c → ∃ v, olds[i * s + j]? = some v ∧ VR μ F w v c)
    {x : Value} {src : List (List IV)} {news : List Value} (hsrc : Src P s tx x src.length news w) (hnr : ∀ r ∈ src, r.length = s)
    (hnc : ∀ (i : Nat) (row : List IV) (j : Nat) (c : IV), src[i]? = some row → row[j]? = some c → ∃ v, news[i * s + j]? = some v ∧ VR μ F w v c)
    (hg : sCap < sLen + src.length) (h32 : sLen + src.length ≤ 2 ^ 32) {b : Nat} (hbs : μ.u b → μ.sz b = s) (hbl : μ.u b → μ.len b < sLen + src.length) :
    ∃ C w', (Builtin.append_ #[t, tx] ty #[.slice base sLen sCap, x]).run P w = .ok (.slice (some ⟨w.heap.size, 0, none⟩) (sLen + src.length) C) w' ∧ sLen + src.length ≤ C ∧
      HR (μ.add b s (sLen + src.length) C (.at_ w.heap.size 0)) F (hput σ b (.rows s (ro ++ src))) w' ∧ Ext μ F w (μ.add b s (sLen + src.length) C (.at_ w.heap.size 0)) F w' := by
  subst hs
  have hrun := run_append_grow_src (P := P) w t tx ty e ie z hu hi hz base sLen sCap olds hold x src.length news hsrc hg (by omega)
    (growslice_fits hg (by
      have : (sLen + src.length) * ie.bytes ≤ 2 ^ 32 * 1024 := Nat.mul_le_mul h32 hby
      omega))
  have hC := grownCap_ge w (sLen + src.length) sCap e
  generalize grownCap w (sLen + src.length) sCap e = C at *
  refine ⟨C, _, hrun, hC, ?_⟩
  have hle : μ.le (μ.add b ie.size (sLen + src.length) C (.at_ w.heap.size 0)) := Mu.le_re hbs hbl hpos
  have hzs : z.cells.size = ie.size := by have := hzi.1; simp at this; omega
  have hw : ∀ g, g < w.heap.size → (μ.u b → ∀ off, μ.pl b ≠ .at_ g off) → ((w.drew).alloc (.cells ((olds ++ news).toArray ++ Builtin.zeroCells z.cells (C - (sLen + src.length))) e)).heap[g]? = w.heap[g]? :=
    fun g hg _ => Below.heap_alloc w.drew _ _ hg
  refine hH.change hle (fun x e => Mu.add_other x e) hw (fun g off _ e => ?_) (by simp) rfl rfl rfl (fun x b' es cur todo h e => by subst e; obtain ⟨_, _, _, _, h3⟩ := hH.obj x _ h; have := hbs h3.1; have := h3.2.1; omega) ?_
  · simp [Mu.add] at e; obtain ⟨rfl, rfl⟩ := e; simp
  · refine ⟨.inl rfl, hpos, by simp [Mu.add], by simp [Mu.add, hro], fun i row e => ?_, .inr ⟨w.heap.size, 0, _, e, by simp [Mu.add], heap_alloc_new w.drew _, by simp [Mu.add, hro]; omega, ?_, fun i row j c e1 e2 => ?_⟩⟩
    · rcases List.mem_append.1 (List.mem_of_getElem? e) with h | h
      · exact hor _ h
      · exact hnr _ h
    · have h1 := hol
      have h2 := hsrc.newsLen
      simp [Mu.add, size_zeroCells, hzs, h1, h2]
      rw [← Nat.add_mul, ← Nat.add_mul]
      exact Nat.mul_le_mul_right _ (by omega)
    · obtain ⟨v, v1, v2⟩ := rows_append (by rw [hol, hro]) hoc hnc (Builtin.zeroCells z.cells (C - (sLen + src.length))).toList i row j c e1 e2
      refine ⟨v, ?_, v2.mono hle (fun _ h => h) (hH.frozen_same hw)⟩
      rw [← Array.getElem?_toList]
      simpa using v1

/-- There is room behind the slice. -/
theorem append_room {t tx ty e e' : TypeId} {ie : TypeInfo} {s : Nat} (hu : P.underlying t = some (.slice e)) (hi : P.info? e = some ie) (hs : ie.size = s) (hk : P.underlying tx = some (.slice e'))
    {g off p sLen sCap : Nat} {cs : Array Value} {T : TypeId} (hg : w.heap[g]? = some (.cells cs T (0, 0))) {x : Value} {n : Nat} {news : List Value} (hsrc : Src P s tx x n news w)
    (hroom : sLen + n ≤ sCap) (hp : p = off + sLen * s) (hb : p + n * s ≤ cs.size) :
    (Builtin.append_ #[t, tx] ty #[.slice (some ⟨g, off, none⟩) sLen sCap, x]).run P w = .ok (.slice (some ⟨g, off, none⟩) (sLen + n) sCap) (w.setRow g (splice p news cs.toList).toArray) := by
  subst hs
  subst hp
  have hst := run_storeCells_at (P := P) g (off + sLen * ie.size) T news 0 cs w hg (by rw [hsrc.newsLen]; omega) hsrc.one
  simp only [Nat.add_zero] at hst
  simp [Builtin.append_, run_underlying hu, run_underlying hk, sizeOf, typeInfo, hi, hsrc.len, hroom, hsrc.cells, Addr.add_lit]
  rw [hst]
  rfl

/-- The rows behind a store of whole rows. -/
theorem HR.rowsPut (hH : HR μ F σ w) {b s g off p n : Nat} {cs : Array Value} {T : TypeId} {rs rs' : List (List IV)} {news : List Value} {μ' : Mu} (hb : σ[b]? = some (.rows s rs)) (hpl : μ.pl b = .at_ g off) (hg : w.heap[g]? = some (.cells cs T (0, 0)))
    (hμ' : μ' = μ.add b s rs'.length (μ.cp b) (.at_ g off)) (hle : μ.le μ') (hlen : rs'.length ≤ μ.cp b) (hcp : off + μ.cp b * s ≤ cs.size) (hrow : ∀ (i : Nat) (row : List IV), rs'[i]? = some row → row.length = s)
    (hnl : news.length = n * s) (hp : p + n * s ≤ cs.size)
    (hc : ∀ (i : Nat) (row : List IV) (j : Nat) (c : IV), rs'[i]? = some row → row[j]? = some c → ∃ v, (splice p news cs.toList)[off + i * s + j]? = some v ∧ VR μ F w v c) :
    HR μ' F (hput σ b (.rows s rs')) (w.setRow g (splice p news cs.toList).toArray) ∧ Ext μ F w μ' F (w.setRow g (splice p news cs.toList).toArray) := by
  obtain ⟨hub, hpos, hszb, hl, _, _⟩ := hH.obj b _ hb
  have hw : ∀ k, k < w.heap.size → (μ.u b → ∀ off, μ.pl b ≠ .at_ k off) → (w.setRow g (splice p news cs.toList).toArray).heap[k]? = w.heap[k]? := fun k _ hk => by
    apply setRow_other
    intro e; subst e; exact hk hub off hpl
  refine hH.change hle (fun x e => by rw [hμ']; exact Mu.add_other x e) hw (fun g' off' hu e => ?_) (by simp) rfl rfl rfl (hH.notIt hb (by intro h; cases h)) ?_
  · rw [hμ'] at e
    simp [Mu.add] at e
    obtain ⟨rfl, rfl⟩ := e
    exact ⟨.inr ⟨hub, off, hpl⟩, by rw [size_setRow]; exact hH.lt b g off hub hpl⟩
  · refine ⟨by rw [hμ']; exact .inl rfl, hpos, by rw [hμ']; simp [Mu.add], by rw [hμ']; simp [Mu.add], hrow, .inr ⟨g, off, _, T, by rw [hμ']; simp [Mu.add], setRow_heap w g cs _ T (0, 0) hg, by rw [hμ']; simpa [Mu.add] using hlen, ?_, fun i row j c e1 e2 => ?_⟩⟩
    · rw [hμ']
      have := length_splice p news cs.toList (by simp; omega)
      simp [Mu.add] at this ⊢
      omega
    · obtain ⟨v, v1, v2⟩ := hc i row j c e1 e2
      exact ⟨v, by simpa using v1, v2.mono hle (fun _ h => h) (hH.frozen_same hw)⟩

theorem append_goes {t tx ty : TypeId} {vd vy : Value} {d yI : IV} {nb : Nat} {r : Out} (hH : HR μ F σ w) (hnb : ¬ μ.u nb) (hd : VR μ F w vd d) (hy : VR μ F w vy yI)
    (h : ibuiltin P .append [t, tx] [d, yI] σ nb = some r) (hp : r.pre) :
    ∃ z w' μ', (Builtin.append_ #[t, tx] ty #[vd, vy]).run P w = .ok z w' ∧ VR μ' F w' z r.v ∧ HR μ' F (upd σ r.w) w' ∧ Ext μ F w μ' F w' := by
  simp only [ibuiltin] at h
  split at h
  · rename_i e e' pre src hu hk hsr
    cases hc : (hasP P e && Nat.blt 0 (sizeP P e) && Nat.ble (bytesP P e) 1024 && zeroOK P e) with
    | false => rw [hc] at h; cases h
    | true =>
      rw [hc] at h
      simp only [Bool.and_eq_true, Nat.blt_eq, Nat.ble_eq] at hc
      obtain ⟨⟨⟨he, hpos⟩, hby⟩, hzo⟩ := hc
      obtain ⟨zi, hz, hzl0⟩ : ∃ zi, zeroP P e = some zi ∧ zi.length = sizeP P e := by
        unfold zeroOK at hzo
        split at hzo
        · rename_i z hz; exact ⟨z, hz, by simpa using hzo⟩
        · cases hzo
      simp only [cond_true] at h
      obtain ⟨ie, v, hi, hzv, hvs, _⟩ := zeroP_spec (μ := μ) (F := F) (w := w) hz
      obtain ⟨ie', _, hie, _, hse, _⟩ := hasP_spec he
      have : ie' = ie := by rw [hi] at hie; cases hie; rfl
      subst this
      have hby' : ie'.bytes ≤ 1024 := by simpa [bytesP, hi] using hby
      have hzl : zi.length = ie'.size := hzl0.trans hse
      split at h
      · -- nil
        simp only [Option.some.injEq] at h; subst h
        obtain ⟨hpre, h32, hrows⟩ := hp
        obtain ⟨news, hsrc, hnl, hnc⟩ := src_rows hk hH hy hsr hpre hrows hpos
        cases hd
        by_cases h0 : src.length = 0
        · have hs0 : src = [] := List.eq_nil_of_length_eq_zero h0
          have hn0 : news = [] := List.eq_nil_of_length_eq_zero (by rw [hnl, h0]; simp)
          subst hs0; subst hn0
          have hr := run_append_nothing (P := P) w t tx ty e ie' hu hi none 0 0 (Nat.le_refl _) vy (by rw [← hse]; exact hsrc)
          have hle : μ.le (μ.add nb (sizeP P e) 0 0 .empty) := Mu.le_add hnb
          have hch := hH.change (b := nb) (o' := .rows (sizeP P e) []) hle (fun x e => Mu.add_other x e) (fun g _ _ => rfl) (fun g off _ e => by simp [Mu.add] at e) (Nat.le_refl _) rfl rfl rfl (hH.notItN hnb)
            ⟨.inl rfl, hpos, by simp [Mu.add], by simp [Mu.add], by simp, .inl ⟨by simp [Mu.add], rfl⟩⟩
          exact ⟨_, w, _, hr, .sl _ nb _ _ _ _ rfl (show _ ∨ _ from .inl rfl) (by simp [Mu.add]) (fun _ => by simp [Mu.add, SlOK]), hch.1, hch.2⟩
        · have hold : Src0 P (sizeP P e) tx (.slice none 0 0) 0 [] w := Src0.ofNil hk 0
          obtain ⟨C, w', hr, hC, h1, h2⟩ := append_grow (t := t) (tx := tx) (ty := ty) (b := nb) (ro := []) hu hi hzv hvs (hzl.trans hse.symm) hse.symm hpos hby' hH (sLen := 0) (sCap := 0) rfl hold.cellsD (by simp) (by simp) (by simp) hsrc (fun r hr => (hrows r hr).1) hnc (by omega) (by omega) (fun h => absurd h hnb) (fun h => absurd h hnb)
          simp only [Nat.zero_add, List.nil_append] at hr h1 h2 hC
          exact ⟨_, w', _, hr, .sl _ nb _ _ _ _ rfl (show _ ∨ _ from .inl rfl) (by simp [Mu.add]) (fun _ => by simp only [Mu.add, if_true]; exact ⟨_, _, rfl, hC, by omega, .inr (by simp), by simp⟩), h1, h2⟩
      · -- a slice of whose room nothing is known
        rename_i b tot i len
        split at h
        · rename_i s rs hb
          cases hss : Nat.beq (sizeP P e) s with
          | false => rw [hss] at h; cases h
          | true =>
            rw [hss] at h
            rw [Nat.beq_eq] at hss
            simp only [cond_true, Option.some.injEq] at h; subst h
            obtain ⟨hpre, htot, rfl, hlen, h32, hrows⟩ := hp
            subst hss
            obtain ⟨news, hsrc, hnl, hnc⟩ := src_rows hk hH hy hsr hpre hrows hpos
            obtain ⟨hub, _, hszb, hml, hrow, hcs⟩ := hH.obj b _ hb
            have hself : srcRows σ (.sl b tot 0 len none) = some (tot = rs.length ∧ 0 + len ≤ rs.length, (rs.drop 0).take len) := by simp only [srcRows, hb]
            have htake : (rs.drop 0).take len = rs := by simp [hlen]
            by_cases h0 : src.length = 0
            · have hs0 : src = [] := List.eq_nil_of_length_eq_zero h0
              have hn0 : news = [] := List.eq_nil_of_length_eq_zero (by rw [hnl, h0]; simp)
              subst hs0; subst hn0
              have hd2 := hd
              cases hd with
              | sl _ _ _ _ _ _ hk' hb' ht' hsl =>
                have hsl := hsl (by omega)
                have hv : ∃ a c, vd = .slice a len c ∧ len ≤ c := by
                  rcases hcs with ⟨hpl, h0⟩ | ⟨g, off, cs, T, hpl, hg, hcp1, hcp2, hcs⟩
                  · rw [hpl] at hsl; obtain ⟨rfl, rfl⟩ := hsl; exact ⟨none, 0, rfl, Nat.le_refl _⟩
                  · rw [hpl] at hsl; obtain ⟨a, c, rfl, hle, _⟩ := hsl; exact ⟨a, c, rfl, hle⟩
                obtain ⟨a, c, rfl, hle⟩ := hv
                have hr := run_append_nothing (P := P) w t tx ty e ie' hu hi a len c hle vy (by rw [← hse]; exact hsrc)
                have hput : hput σ b (.rows (sizeP P e) (rs ++ [])) = σ := by
                  apply List.ext_getElem?
                  intro x
                  rw [getElem?_hput]
                  have hbl := (List.getElem?_eq_some_iff.1 hb).1
                  split
                  · rename_i e; subst e; rw [hb]; simp
                  · split
                    · rfl
                    · rw [if_neg (by omega)]; simp at *; omega
                refine ⟨_, w, μ, hr, ?_, ?_, Ext.refl _ _ _⟩
                · have : tot = len := by omega
                  subst this
                  simpa using hd2
                · simp only [upd]; rw [hput]; exact hH
            · rcases hcs with ⟨hpl, he0⟩ | ⟨g, off, cs, T, hpl, hg, hcp1, hcp2, hcs⟩
              · subst he0
                cases hd with
                | sl _ _ _ _ _ _ hk' hb' ht' hsl =>
                  have hsl := hsl (by omega)
                  rw [hpl] at hsl
                  obtain ⟨rfl, rfl⟩ := hsl
                  have hold : Src0 P (sizeP P e) tx (.slice none 0 0) 0 [] w := Src0.ofNil hk 0
                  obtain ⟨C, w', hr, hC, h1, h2⟩ := append_grow (t := t) (tx := tx) (ty := ty) (b := b) (ro := []) hu hi hzv hvs (hzl.trans hse.symm) hse.symm hpos hby' hH (sLen := 0) (sCap := 0) rfl hold.cellsD (by simp) (by simp) (by simp) hsrc (fun r hr => (hrows r hr).1) hnc (by omega) (by omega) (fun _ => hszb) (fun _ => by simp at hml; omega)
                  exact ⟨_, w', _, hr, .sl _ b _ _ _ _ rfl (show _ ∨ _ from .inl rfl) (by simp [Mu.add]) (fun _ => by simp only [Mu.add, if_true]; exact ⟨_, _, rfl, hC, by omega, .inr (by simp), by simp⟩), h1, h2⟩
              · obtain ⟨olds, hold, hol, hoc⟩ := src_rows0 hk hH hd hself ⟨htot, by omega⟩ (s := sizeP P e) (fun r hr => by rw [htake] at hr; obtain ⟨j, hj, rfl⟩ := List.getElem_of_mem hr; exact hrow j _ (List.getElem?_eq_getElem hj)) hpos
                rw [htake] at hold hol hoc
                cases hd with
                | sl _ _ _ _ _ _ hk' hb' ht' hsl =>
                  have hsl := hsl (by omega)
                  rw [hpl] at hsl
                  obtain ⟨a, c, rfl, hle, hcp, ha, _⟩ := hsl
                  by_cases hroom : len + src.length ≤ c
                  · have ha : a = some ⟨g, off, none⟩ := by
                      rcases ha with h | h
                      · omega
                      · simpa using h
                    subst ha
                    have hb2 : off + len * sizeP P e + src.length * sizeP P e ≤ cs.size := by
                      have : (len + src.length) * sizeP P e ≤ μ.cp b * sizeP P e := Nat.mul_le_mul_right _ (by omega)
                      rw [Nat.add_mul] at this; omega
                    have hr := append_room (ty := ty) hu hi hse.symm hk hg hsrc hroom rfl hb2
                    have hle : μ.le (μ.add b (sizeP P e) (rs ++ src).length (μ.cp b) (.at_ g off)) := Mu.le_re (fun _ => hszb) (fun _ => by simp; omega) hpos
                    have hlen2 : (rs ++ src).length = len + src.length := by simp [hlen]
                    have hput := hH.rowsPut (rs' := rs ++ src) (p := off + len * sizeP P e) (n := src.length) hb hpl hg rfl hle (by rw [hlen2]; omega) hcp2
                      (fun i row e1 => by rcases List.mem_append.1 (List.mem_of_getElem? e1) with h | h; (obtain ⟨j, hj, rfl⟩ := List.getElem_of_mem h; exact hrow j _ (List.getElem?_eq_getElem hj)); exact (hrows _ h).1) hnl hb2 (fun i row j c' e1 e2 => ?_)
                    · refine ⟨_, _, _, hr, .sl _ b _ _ _ _ rfl (show _ ∨ _ from .inl rfl) (by simp [Mu.add, hlen]) (fun _ => by simp only [Mu.add, if_true]; exact ⟨_, _, rfl, hroom, by omega, .inr (by simp), by simp⟩), hput.1, hput.2⟩
                    · rw [getElem?_splice _ _ _ (by rw [hnl]; simpa using hb2)]
                      by_cases hi' : i < rs.length
                      · rw [List.getElem?_append_left hi'] at e1
                        have hj := (List.getElem?_eq_some_iff.1 e2).1
                        have hrl := hrow i row e1
                        have : (i + 1) * sizeP P e ≤ len * sizeP P e := Nat.mul_le_mul_right _ (by omega)
                        rw [Nat.add_mul] at this
                        rw [if_neg (by omega)]
                        obtain ⟨u, u1, u2⟩ := hcs i row j c' e1 e2
                        exact ⟨u, by simpa using u1, u2⟩
                      · rw [List.getElem?_append_right (by omega)] at e1
                        obtain ⟨u, u1, u2⟩ := hnc _ row j c' e1 e2
                        have hlt := (List.getElem?_eq_some_iff.1 u1).1
                        have e3 : off + i * sizeP P e + j = off + len * sizeP P e + ((i - rs.length) * sizeP P e + j) := by
                          rw [← hlen, Nat.sub_mul]
                          have : len * sizeP P e ≤ i * sizeP P e := Nat.mul_le_mul_right _ (by omega)
                          omega
                        rw [e3, if_pos (by omega), Nat.add_sub_cancel_left]
                        exact ⟨u, u1, u2⟩
                  · obtain ⟨C, w', hr, hC, h1, h2⟩ := append_grow (t := t) (tx := tx) (ty := ty) (b := b) (ro := rs) hu hi hzv hvs (hzl.trans hse.symm) hse.symm hpos hby' hH (sLen := len) (sCap := c) hlen.symm (by rw [← hlen] at hold; exact hold.cellsD) (by rw [hlen]; exact hol) (fun r hr => by obtain ⟨j, hj, rfl⟩ := List.getElem_of_mem hr; exact hrow j _ (List.getElem?_eq_getElem hj)) hoc hsrc (fun r hr => (hrows r hr).1) hnc (by omega) h32 (fun _ => hszb) (fun _ => by omega)
                    exact ⟨_, w', _, hr, .sl _ b _ _ _ _ rfl (show _ ∨ _ from .inl rfl) (by simp [Mu.add]) (fun _ => by simp only [Mu.add, if_true]; exact ⟨_, _, rfl, hC, by omega, .inr (by simp), by simp⟩), h1, h2⟩
        · cases h
      · -- a slice of known room
        rename_i b tot i len c
        split at h
        · rename_i s rs hb
          cases hss : Nat.beq (sizeP P e) s with
          | false => rw [hss] at h; cases h
          | true =>
            rw [hss] at h
            rw [Nat.beq_eq] at hss
            simp only [cond_true] at h
            subst hss
            obtain ⟨hub, _, hszb, hml, hrow, hcs⟩ := hH.obj b _ hb
            cases hfit : Nat.ble (len + src.length) c with
            | true =>
              rw [hfit] at h
              rw [Nat.ble_eq] at hfit
              simp only [cond_true, Option.some.injEq] at h; subst h
              obtain ⟨hpre, htot, hic, hrows⟩ := hp
              obtain ⟨news, hsrc, hnl, hnc⟩ := src_rows hk hH hy hsr hpre hrows hpos
              cases hd with
              | sl _ _ _ _ _ _ hk' hb' ht' hsl =>
                have hsl := hsl (by omega)
                rcases hcs with ⟨hpl, he0⟩ | ⟨g, off, cs, T, hpl, hg, hcp1, hcp2, hcs⟩
                · subst he0
                  rw [hpl] at hsl
                  obtain ⟨rfl, rfl⟩ := hsl
                  simp at hic
                  have h0 : src.length = 0 := by omega
                  have hs0 : src = [] := List.eq_nil_of_length_eq_zero h0
                  have hn0 : news = [] := List.eq_nil_of_length_eq_zero (by rw [hnl, h0]; simp)
                  subst hs0; subst hn0
                  have hr := run_append_nothing (P := P) w t tx ty e ie' hu hi none 0 0 (Nat.le_refl _) vy (by rw [← hse]; exact hsrc)
                  have hput : hput σ b (.rows (sizeP P e) []) = σ := by
                    apply List.ext_getElem?
                    intro x
                    rw [getElem?_hput]
                    have hbl := (List.getElem?_eq_some_iff.1 hb).1
                    split
                    · rename_i e; subst e; rw [hb]
                    · split
                      · rfl
                      · rw [if_neg (by omega)]; simp at *; omega
                  refine ⟨_, w, μ, hr, .sl _ b _ _ _ _ rfl hub (by omega) (fun _ => by rw [hpl]; exact ⟨rfl, by simp⟩), ?_, Ext.refl _ _ _⟩
                  simp only [upd]
                  simpa [hput] using hH
                · rw [hpl] at hsl
                  obtain ⟨a, c', rfl, hle, hcp, ha, hcc⟩ := hsl
                  have hcc : c' = c := hcc c rfl
                  subst hcc
                  by_cases hz : c' = 0
                  · have h0 : src.length = 0 := by omega
                    have hs0 : src = [] := List.eq_nil_of_length_eq_zero h0
                    have hn0 : news = [] := List.eq_nil_of_length_eq_zero (by rw [hnl, h0]; simp)
                    have hl0 : len = 0 := by omega
                    subst hs0; subst hn0; subst hl0; subst hz
                    have hr := run_append_nothing (P := P) w t tx ty e ie' hu hi a 0 0 (Nat.le_refl _) vy (by rw [← hse]; exact hsrc)
                    have hput : hput σ b (.rows (sizeP P e) rs) = σ := by
                      apply List.ext_getElem?
                      intro x
                      rw [getElem?_hput]
                      have hbl := (List.getElem?_eq_some_iff.1 hb).1
                      split
                      · rename_i e; subst e; rw [hb]
                      · split
                        · rfl
                        · rw [if_neg (by omega)]; simp at *; omega
                    refine ⟨_, w, μ, hr, .sl _ b _ _ _ _ rfl hub (by omega) (fun _ => by rw [hpl]; exact ⟨_, _, rfl, by simp, by omega, .inl rfl, by simp⟩), ?_, Ext.refl _ _ _⟩
                    simp only [upd]
                    simpa [hput] using hH
                  · have ha : a = some ⟨g, off + i * sizeP P e, none⟩ := by
                      rcases ha with h | h
                      · omega
                      · rw [hszb] at h; exact h
                    subst ha
                    have hb2 : off + i * sizeP P e + len * sizeP P e + src.length * sizeP P e ≤ cs.size := by
                      have : (i + len + src.length) * sizeP P e ≤ μ.cp b * sizeP P e := Nat.mul_le_mul_right _ (by omega)
                      rw [Nat.add_mul, Nat.add_mul] at this; omega
                    have hr := append_room (ty := ty) hu hi hse.symm hk hg hsrc hfit rfl hb2
                    have hle' : μ.le (μ.add b (sizeP P e) (rs.take (i + len) ++ src ++ rs.drop (i + len + src.length)).length (μ.cp b) (.at_ g off)) := by
                      have hl2 : (rs.take (i + len) ++ src ++ rs.drop (i + len + src.length)).length = μ.len b := by simp; omega
                      rw [hl2, ← hszb, ← hpl]; exact Mu.le_keep
                    have hlen2 : (rs.take (i + len) ++ src ++ rs.drop (i + len + src.length)).length = rs.length := by simp; omega
                    have hspl : rs.take (i + len) ++ src ++ rs.drop (i + len + src.length) = Idl.splice (i + len) src rs := rfl
                    have hput := hH.rowsPut (rs' := rs.take (i + len) ++ src ++ rs.drop (i + len + src.length)) (p := off + i * sizeP P e + len * sizeP P e) (n := src.length) hb hpl hg rfl hle' (by rw [hlen2]; exact hcp1) hcp2
                      (fun k row e1 => by
                        rw [hspl, getElem?_splice _ _ _ (by omega)] at e1
                        split at e1
                        · exact (hrows _ (List.mem_of_getElem? e1)).1
                        · exact hrow k row e1) hnl hb2 (fun k row j c2 e1 e2 => ?_)
                    · refine ⟨_, _, _, hr, .sl _ b _ _ _ _ rfl (show _ ∨ _ from .inl rfl) (by simp only [Mu.add, if_true]; rw [hlen2]; omega) (fun _ => by simp only [Mu.add, if_true]; exact ⟨_, _, rfl, hfit, by omega, .inr rfl, by simp⟩), hput.1, hput.2⟩
                    · rw [hspl, getElem?_splice _ _ _ (by omega)] at e1
                      rw [getElem?_splice _ _ _ (by rw [hnl]; simpa using hb2)]
                      by_cases hk2 : i + len ≤ k ∧ k < i + len + src.length
                      · rw [if_pos hk2] at e1
                        obtain ⟨u, u1, u2⟩ := hnc _ row j c2 e1 e2
                        have hlt := (List.getElem?_eq_some_iff.1 u1).1
                        have e3 : off + k * sizeP P e + j = off + i * sizeP P e + len * sizeP P e + ((k - (i + len)) * sizeP P e + j) := by
                          rw [Nat.sub_mul, Nat.add_mul]
                          have : (i + len) * sizeP P e ≤ k * sizeP P e := Nat.mul_le_mul_right _ hk2.1
                          rw [Nat.add_mul] at this
                          omega
                        rw [e3, if_pos (by omega), Nat.add_sub_cancel_left]
                        exact ⟨u, u1, u2⟩
                      · rw [if_neg hk2] at e1
                        have hj := (List.getElem?_eq_some_iff.1 e2).1
                        have hrl := hrow k row e1
                        have hnot : ¬ (off + i * sizeP P e + len * sizeP P e ≤ off + k * sizeP P e + j ∧ off + k * sizeP P e + j < off + i * sizeP P e + len * sizeP P e + news.length) := by
                          rw [hnl]
                          intro hh
                          apply hk2
                          constructor
                          · rcases Nat.lt_or_ge k (i + len) with h3 | h3
                            · have : (k + 1) * sizeP P e ≤ (i + len) * sizeP P e := Nat.mul_le_mul_right _ h3
                              rw [Nat.add_mul, Nat.add_mul] at this; omega
                            · exact h3
                          · rcases Nat.lt_or_ge k (i + len + src.length) with h3 | h3
                            · exact h3
                            · have : (i + len + src.length) * sizeP P e ≤ k * sizeP P e := Nat.mul_le_mul_right _ h3
                              rw [Nat.add_mul, Nat.add_mul] at this; omega
                        rw [if_neg hnot]
                        obtain ⟨u, u1, u2⟩ := hcs k row j c2 e1 e2
                        exact ⟨u, by simpa using u1, u2⟩
            | false =>
              rw [hfit] at h
              have hfit' : ¬ (len + src.length ≤ c) := fun h => by rw [← Nat.ble_eq] at h; rw [h] at hfit; cases hfit
              simp only [cond_false, Option.some.injEq] at h; subst h
              obtain ⟨hpre, htot, hil, h32, hrows⟩ := hp
              obtain ⟨news, hsrc, hnl, hnc⟩ := src_rows hk hH hy hsr hpre hrows hpos
              have hself : srcRows σ (.sl b tot i len (some c)) = some (tot = rs.length ∧ i + len ≤ rs.length, (rs.drop i).take len) := by simp only [srcRows, hb]
              have hor : ∀ r ∈ (rs.drop i).take len, r.length = sizeP P e := fun r hr => by
                obtain ⟨j, hj, rfl⟩ := List.getElem_of_mem (List.mem_of_mem_drop (List.mem_of_mem_take hr))
                exact hrow j _ (List.getElem?_eq_getElem hj)
              obtain ⟨olds, hold, hol, hoc⟩ := src_rows0 hk hH hd hself ⟨htot, hil⟩ (s := sizeP P e) hor hpos
              have hlen' : ((rs.drop i).take len).length = len := by simp; omega
              rw [hlen'] at hold hol
              have hv : ∃ a c', vd = .slice a len c' ∧ (c' = c ∨ c' = 0) := by
                cases hd with
                | sl _ _ _ _ _ _ hk' hb' ht' hsl =>
                  have hsl := hsl (by omega)
                  rcases hcs with ⟨hpl, he0⟩ | ⟨g, off, cs, T, hpl, hg, hcp1, hcp2, hcs⟩
                  · rw [hpl] at hsl; obtain ⟨rfl, rfl⟩ := hsl; exact ⟨none, 0, rfl, .inr rfl⟩
                  · rw [hpl] at hsl; obtain ⟨a, c', rfl, hle, _, _, hcc⟩ := hsl; exact ⟨a, c', rfl, .inl (hcc c rfl)⟩
              obtain ⟨a, c', rfl, hcc⟩ := hv
              obtain ⟨C, w', hr, hC, h1, h2⟩ := append_grow (t := t) (tx := tx) (ty := ty) (b := nb) (ro := (rs.drop i).take len) hu hi hzv hvs (hzl.trans hse.symm) hse.symm hpos hby' hH (sLen := len) (sCap := c') hlen' hold.cellsD hol hor hoc hsrc (fun r hr => (hrows r hr).1) hnc (by rcases hcc with h | h <;> omega) h32 (fun h => absurd h hnb) (fun h => absurd h hnb)
              exact ⟨_, w', _, hr, .sl _ nb _ _ _ _ rfl (show _ ∨ _ from .inl rfl) (by simp [Mu.add]) (fun _ => by simp only [Mu.add, if_true]; exact ⟨_, _, rfl, hC, by omega, .inr (by simp), by simp⟩), h1, h2⟩
        · cases h
      · cases h
  · cases h
end
end Go.Idl
