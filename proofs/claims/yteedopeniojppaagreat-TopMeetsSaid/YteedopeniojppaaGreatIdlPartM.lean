/-
  slices.SortFunc at elements that are rows of integers, by the shelf's contract: a slice of one's own is sorted where it lies; the comparison is a pure function.
  Ways that meet again: what comes behind is shown once.
-/
import Derived.Test.YteedopeniojppaaGreatIdlPartL
import Derived.Test.YteedopeniojppaaGreatIdlPartF
import Derived.Shelf.SlSortCmp.NoneTotal
import Derived.Test.YteedopeniojppaaGreatIdlPartH
namespace Go.Idl
set_option linter.all false
open Go.Sort Go.Proofs Go.Shelf Go.Lib

section
variable {P : Program} {μ : Mu} {F : Fz} {w : World} {σ : Heap} {α : Type} [Inhabited α]

/-- An element's cells. -/
def encI (ec : α → List Int) (x : α) : List Value := (ec x).map (Value.int .i64)
/-- An element's cells as ideal values. -/
def rowI (ec : α → List Int) (x : α) : List IV := (ec x).map (IV.int .i64)
/-- What the shelf says of slices.SortFunc, at function f and comparison g. -/
def SortFn (P : Program) (f g : FuncId) (ec : α → List Int) (k : Nat) (le : α → α → Bool) : Prop :=
  ∀ (blk off cap : Nat) (zs : List α) (w : World), HoldsK (encI ec) k w blk off zs.toArray → blk < w.heap.size → zs.length < 4611686018427387904 →
    Calls P f #[.slice (some ⟨blk, off, none⟩) zs.length cap, .func (.func g) #[] #[]] w fun e w' =>
      e = .returned (.tuple #[]) ∧ ∃ n os, w' = grow (putRowK (encI ec) k (Sort.ahead w n) blk off (zs.mergeSort le).toArray) os
def SortFn0 (P : Program) (f : FuncId) : Prop :=
  ∀ (p : Option Addr) (cap : Nat) (fv : Value) (w : World), Calls P f #[.slice p 0 cap, fv] w fun e w' => e = .returned (.tuple #[]) ∧ w' = w
/-- A pure comparison is what the shelf asks for. -/
theorem cmpLays_of {g : FuncId} {ec : α → List Int} {cf : α → α → Int} (h : ∀ x y, IFun true P [] g [.agg (rowI ec x), .agg (rowI ec y)] fun v => v = .int .i64 (cf x y)) (k blk off size : Nat) (w : World) : CmpLays P g #[] (encI ec) k cf blk off size w := fun m os dk _ x y => by
  generalize sortWorldK (encI ec) k w blk off m dk os = W
  have hag : ∀ z : α, VR Mu.none (Fz.all W) W (.agg (encI ec z).toArray) (.agg (rowI ec z)) := fun z => .agg _ _ (by simp [encI, rowI]) fun j v c h1 h2 => by
    simp only [encI, rowI, List.getElem?_map, Option.map_eq_some_iff] at h1 h2
    obtain ⟨a, ha, rfl⟩ := h1
    obtain ⟨b, hb, rfl⟩ := h2
    rw [ha] at hb; cases hb
    exact .int _ _
  refine ((h x y).2 Mu.none (Fz.all W) W [.agg (encI ec x).toArray, .agg (encI ec y).toArray] (HR.empty fun g h => h) ⟨rfl, fun j v c h1 h2 => ?_⟩ (fun g c hc => by simp [eget] at hc)).mono ?_
  · match j with
    | 0 => simp at h1 h2; subst h1; subst h2; exact hag x
    | 1 => simp at h1 h2; subst h1; subst h2; exact hag y
    | j + 2 => simp at h1
  · rintro e w' ⟨v, r, σ', μ1, F2, rfl, ⟨v', hfr, rfl⟩, hvr, hH1, hX⟩
    have hr : r = .int .i64 (cf x y) := by cases hfr <;> rfl
    subst hr
    cases hvr
    refine ⟨rfl, w'.drawn - W.drawn, w'.heap.extract W.heap.size w'.heap.size, ?_⟩
    have hd := hX.output.d
    have ho := hX.output.o
    have hs := hX.size
    have e1 := hX.os
    have e2 := hX.tape
    have hh : w'.heap = W.heap ++ w'.heap.extract W.heap.size w'.heap.size := by
      apply Array.ext_getElem?
      intro i
      rw [Array.getElem?_append]
      by_cases hi : i < W.heap.size
      · rw [if_pos hi]; exact hX.same i hi
      · rw [if_neg hi, Array.getElem?_extract]
        by_cases h2 : i < w'.heap.size
        · rw [if_pos (by omega), show W.heap.size + (i - W.heap.size) = i by omega]
        · rw [if_neg (by omega), Array.getElem?_eq_none (by omega)]
    obtain ⟨hp, tp, dr, os', ou⟩ := w'
    simp only at hd ho e1 e2 hh
    simp only [grow, World.drewN]
    rw [show W.drawn + (dr - W.drawn) = dr by omega, ← hh, e1, e2, ho]

theorem sortFn_of {ρ : Ren} {g : FuncId} {ec : α → List Int} {k : Nat} {cf : α → α → Int} (L : SlLaysF0.n6 P ρ) (aE : ∀ w, (isAgg (ρ.t 24)).run P w = .ok true w) (zE : ∀ w, (Go.sizeOf (ρ.t 24)).run P w = .ok k w) (hk : ∀ x, (ec x).length = k) (hO : SWO (ltOf cf)) (hT : ∀ x y, ltOf cf x y = false → ltOf cf y x = false → x = y)
    (eg : ∀ (args : Array Value) (w : World), (callFunc g args).run P w = .ok (.enter g args) w) (h : ∀ x y, IFun true P [] g [.agg (rowI ec x), .agg (rowI ec y)] fun v => v = .int .i64 (cf x y)) : SortFn P (ρ.f 6) g ec k (fun x y => !ltOf cf y x) := fun blk off cap zs w hH hb hl => by
  have := AnyQ.slices_SortFunc_total L k aE zE (encI ec) (fun x => by simp [encI, hk]) (fun x v hv => by simp only [encI, List.mem_map] at hv; obtain ⟨z, _, rfl⟩ := hv; rfl) cf hO g #[] blk off cap zs.toArray w eg (cmpLays_of h k blk off _ w) hH hb (by simpa using hl) hT
  simpa [sortWorldK] using this
theorem sortFn0_of {ρ : Ren} (L : SlLaysF0.n6 P ρ) : SortFn0 P (ρ.f 6) := fun p cap fv w => AnyF.slices_SortFunc_none L p cap fv w

theorem flat_get {ec : α → List Int} {k : Nat} (hk : ∀ x, (ec x).length = k) {zs : List α} {i j : Nat} {z : α} {c : Int} (hz : zs[i]? = some z) (hc : (ec z)[j]? = some c) : i * k + j < zs.length * k ∧ (Go.Sort.flatK (encI ec) k zs.toArray)[i * k + j]! = .int .i64 c := by
  obtain ⟨hi, hz⟩ := List.getElem?_eq_some_iff.1 hz
  obtain ⟨hj, hc'⟩ := List.getElem?_eq_some_iff.1 hc
  rw [hk] at hj
  have hlt : i * k + j < zs.length * k := by
    have := Nat.mul_le_mul_right k (show i + 1 ≤ zs.length from hi)
    rw [Nat.add_mul, Nat.one_mul] at this; omega
  refine ⟨hlt, ?_⟩
  rw [get_flatK _ _ _ _ (by simpa using hlt)]
  have e1 : (i * k + j) / k = i := (blk_iff k i _ (by omega)).1 ⟨by omega, by omega⟩
  have e2 : (i * k + j) % k = j := by rw [Nat.mul_comm, Nat.mul_add_mod]; exact Nat.mod_eq_of_lt hj
  rw [e1, e2]
  simp [hi, hz, encI, hc]

/-- **A SLICE OF ONE's OWN, SORTED BY A COMPARISON**, whole. -/
theorem ICalls.sortK {gl : List (Nat × IV)} {f g : FuncId} {K : IV → Heap → Prop} {b n : Nat} {zs : List α} {ec : α → List Int} {k : Nat} {le : α → α → Bool} (hS : SortFn P f g ec k le) (hS0 : SortFn0 P f) (hk : ∀ x, (ec x).length = k) (he : ∀ (args : Array Value) (w : World), (callFunc f args).run P w = .ok (.enter f args) w)
    (hb : σ[b]? = some (.rows k (mp (rowI ec) zs))) (hn : n = zs.length) (hl : zs.length < 4611686018427387904)
    (hK : K (.tup []) (hput σ b (.rows k (mp (rowI ec) (zs.mergeSort le))))) : ICalls P gl f [.sl b n 0 n none, .func (.func g) [] []] σ K := by
  subst hn
  refine ⟨he, fun μ F w vs hH hv hgl => ?_⟩
  obtain ⟨v, fv, rfl⟩ : ∃ v fv, vs = [v, fv] := by
    match vs, hv.1 with
    | [v, fv], _ => exact ⟨v, fv, rfl⟩
  have hv0 := hv.2 0 v _ rfl rfl
  have hv1 := hv.2 1 fv _ rfl rfl
  obtain ⟨hu, hs, hsz, hlen, hrow, hpl⟩ := hH.obj b _ hb
  have hlen' : μ.len b = zs.length := by rw [hlen]; simp [mp]
  have hfv : fv = .func (.func g) #[] #[] := by
    cases hv1 with
    | func _ fs cs _ _ hf hc _ _ =>
      have e1 : fs = [] := List.eq_nil_of_length_eq_zero (by simpa using hf)
      have e2 : cs = [] := List.eq_nil_of_length_eq_zero (by simpa using hc)
      subst e1; subst e2; rfl
  subst hfv
  cases hv0 with
  | sl _ _ _ _ _ _ hkk hb' ht' hok =>
  have hok := hok (by omega)
  rw [hsz] at hok
  have empty : ∀ (p : Option Addr) (c : Nat), zs = [] → Calls P f #[.slice p 0 c, .func (.func g) #[] #[]] w fun en w' => ∃ v r σ' μ' F', en = .returned v ∧ K r σ' ∧ VR μ' F' w' v r ∧ HR μ' F' σ' w' ∧ Ext μ F w μ' F' w' := fun p c hz => by
    refine (hS0 p c _ w).mono ?_
    rintro en w' ⟨rfl, rfl⟩
    subst hz
    rw [List.mergeSort_nil] at hK
    have hself : hput σ b (.rows k (mp (rowI ec) ([] : List α))) = σ := by
      obtain ⟨hlt, he⟩ := List.getElem?_eq_some_iff.1 hb
      rw [hput_set hlt]
      apply List.ext_getElem?
      intro n
      rw [List.getElem?_set]
      by_cases e : b = n
      · subst e; simp [hlt, he]
      · simp [e]
    rw [hself] at hK
    exact ⟨.tuple #[], .tup [], _, μ, F, rfl, hK, .tup [] [] rfl fun j v c h => by simp at h, hH, Ext.refl _ _ _⟩
  rcases hpl with ⟨e0, e⟩ | ⟨g', off, cs, T, e, hg, hcp, hcs, hcell⟩
  · have hz : zs = [] := by simpa [mp] using e
    rw [e0] at hok
    obtain ⟨rfl, _⟩ := hok
    simpa [hz] using empty none 0 hz
  rw [e] at hok
  obtain ⟨a, c, rfl, hlc, hic, ha, _⟩ := hok
  by_cases h0 : zs.length = 0
  · have hz : zs = [] := List.eq_nil_of_length_eq_zero h0
    simpa [hz] using empty a c hz
  have ha := ha.resolve_left (by omega)
  rw [Nat.zero_mul, Nat.add_zero] at ha
  subst ha
  have hgs : g' < w.heap.size := (Array.getElem?_eq_some_iff.1 hg).1
  have hcp' : zs.length ≤ μ.cp b := by simpa [mp] using hcp
  have hmul : zs.length * k ≤ μ.cp b * k := Nat.mul_le_mul_right k hcp'
  have hHolds : HoldsK (encI ec) k w g' off zs.toArray := fun t ht => by
    have ht' : t < zs.length * k := by simpa using ht
    have hi : t / k < zs.length := Nat.div_lt_of_lt_mul (by rwa [Nat.mul_comm] at ht')
    have hj : t % k < k := Nat.mod_lt _ hs
    have hti : t / k * k + t % k = t := by rw [Nat.mul_comm]; exact Nat.div_add_mod t k
    have hz : zs[t / k]? = some zs[t / k] := List.getElem?_eq_getElem hi
    have hjl : t % k < (ec zs[t / k]).length := by rw [hk]; exact hj
    have hc : (ec zs[t / k])[t % k]? = some (ec zs[t / k])[t % k] := List.getElem?_eq_getElem hjl
    obtain ⟨_, f2⟩ := flat_get hk hz hc
    rw [hti] at f2
    obtain ⟨u, u1, u2⟩ := hcell (t / k) (rowI ec zs[t / k]) (t % k) (.int .i64 (ec zs[t / k])[t % k]) (by simp [mp, hi]) (by simp [rowI, hjl])
    rw [show off + t / k * k + t % k = off + t by omega] at u1
    cases u2
    refine ⟨?_, by simp [World.frozen?, hg]⟩
    simp only [World.cell?, hg, f2]
    simpa using u1
  refine (hS g' off c zs w hHolds hgs hl).mono ?_
  rintro en w' ⟨rfl, n, os, rfl⟩
  obtain ⟨ys, hys⟩ : ∃ ys, zs.mergeSort le = ys := ⟨_, rfl⟩
  have hyl : ys.length = zs.length := by rw [← hys]; exact List.length_mergeSort _
  rw [hys] at hK ⊢
  have hheap : ∀ x, x < w.heap.size → (grow (putRowK (encI ec) k (Sort.ahead w n) g' off ys.toArray) os).heap[x]? = (w.heap[x]?).map fun o => if x = g' then (match o with | .cells c e fr => .cells (putCells _root_.id off (Go.Sort.flatK (encI ec) k ys.toArray) c) e fr | o => o) else o := fun x hx => by
    simp only [grow, putRowK, putRow, mapBlock, Sort.ahead]
    rw [Array.getElem?_append_left (by simpa using hx), Array.getElem?_modify]
    by_cases h : g' = x
    · subst h
      simp only [if_true]
      cases w.heap[g']? with
      | none => rfl
      | some o => cases o <;> rfl
    · rw [if_neg h]
      have : ¬ x = g' := fun e => h e.symm
      simp [this]
  have hsz' : w.heap.size ≤ (grow (putRowK (encI ec) k (Sort.ahead w n) g' off ys.toArray) os).heap.size := by
    simp [grow, putRowK, putRow, mapBlock, Sort.ahead]
  have hsame : ∀ x, x < w.heap.size → (∀ off', μ.pl b ≠ .at_ x off') → (grow (putRowK (encI ec) k (Sort.ahead w n) g' off ys.toArray) os).heap[x]? = w.heap[x]? := fun x hx hne => by
    rw [hheap x hx]
    have : x ≠ g' := fun e2 => by subst e2; exact hne off e
    simp [this]
  refine ⟨.tuple #[], .tup [], _, μ, F, rfl, hK, .tup [] [] rfl fun j v c h => by simp at h, ?_, ⟨Mu.le_refl _, fun _ h => h, fun _ h => h, fun x hx => hsame x (hH.flt x hx) fun off' e' => hH.fro b x off' hu e' hx, hsz', rfl, rfl, ⟨rfl, Nat.le_add_right _ _⟩, fun x h => .inl h⟩⟩
  refine hH.turned hb (by simp [mp, hyl]) (fun i row hr => ?_) hsame hsz' fun g1 off1 cs1 T1 e1 hg1 => ?_
  · simp only [mp, List.getElem?_map, Option.map_eq_some_iff] at hr
    obtain ⟨z, _, rfl⟩ := hr; simp [rowI, hk]
  · rw [e] at e1; cases e1
    rw [hg] at hg1; cases hg1
    refine ⟨putCells _root_.id off (Go.Sort.flatK (encI ec) k ys.toArray) cs, ?_, by simp [putCells], fun i row j c hr hc => ?_⟩
    · rw [hheap g' hgs, hg]; simp
    · simp only [mp, List.getElem?_map, Option.map_eq_some_iff] at hr
      obtain ⟨z, hz, rfl⟩ := hr
      simp only [rowI, List.getElem?_map, Option.map_eq_some_iff] at hc
      obtain ⟨q, hq, rfl⟩ := hc
      obtain ⟨f1, f2⟩ := flat_get hk hz hq
      refine ⟨.int .i64 q, ?_, .int _ _⟩
      rw [hyl] at f1
      have h1 : off + (i * k + j) < cs.size := by omega
      rw [Nat.add_assoc]
      have h3 : i * k + j < ys.length * k := by rw [hyl]; exact f1
      simp [putCells, h1, h3]
      rwa [getElem!_pos _ _ (by simpa using h3)] at f2
end
end Go.Idl
namespace Go.Idl
set_option linter.all false

theorem IWp.meet {P : Program} {Q : XPost} {e : Env} {σ : Heap} {c d : Code} {T : Type} (K : T → Env × Heap) (C : T → Prop) (h2 : ∀ t, C t → IWp P d Q (K t).1 (K t).2)
    (h1 : ∀ Q' : XPost, (∀ e' σ' t, ((K t).1.subE e' ∧ fgt (K t).2 σ' ∧ σ.length ≤ (K t).2.length ∧ blS (K t).1 (K t).2) → C t → Q' .normal e' σ') → (∀ i e' σ', Q (.exit i) e' σ' → Q' (.exit i) e' σ') → (∀ e' σ', Q .ret e' σ' → Q' .ret e' σ') → IWp P c Q' e σ) : IWp P (.seq c d) Q e σ := fun ro μ F a w hR hE hH => by
  refine wpIn_seq (wpIn_mono (h1 (thenQ (fun e' σ' => ∃ t, ((K t).1.subE e' ∧ fgt (K t).2 σ' ∧ σ.length ≤ (K t).2.length ∧ blS (K t).1 (K t).2) ∧ C t) Q) (fun _ _ t hs hc => ⟨t, hs, hc⟩) (fun _ _ _ h => h) (fun _ _ h => h) ro μ F a w hR hE hH) ?_)
  rintro ex a' w' ⟨xe, e', σ', μ', F', h1, h3, h4, h5, h6, h7⟩
  cases xe with
  | normal =>
    cases ex <;> simp only [XExit.rel] at h1
    obtain ⟨t, hs, hc⟩ := h3
    obtain ⟨k1, k2⟩ := forget_sound h4 h5 hs.1 hs.2.1 hs.2.2.2
    have hX := Mu.cut_ext hH h6 hs.2.2.1
    refine wpIn_mono (h2 t hc ro _ F' a' w' (hR.ext hX) k1 k2) fun ex a'' w'' h => h.ext k2 hX h7
  | exit i => cases ex <;> simp only [XExit.rel] at h1; exact ⟨.exit i, e', σ', μ', F', h1, h3, h4, h5, h6, h7⟩
  | ret => cases ex <;> simp only [XExit.rel] at h1; exact ⟨.ret, e', σ', μ', F', trivial, h3, h4, h5, h6, h7⟩
end Go.Idl
