/-
  slices.Sort at []int, by the shelf's contract: a slice of one's own is sorted where it lies.
  slices.Compact at []int, by the shelf's contract: a slice of one's own is compacted where it lies.
-/
import Derived.Test.YteedopeniojppaaGreatIdlPartI
import Derived.Sort.Grow
import Derived.Lib.SlicesCompact
namespace Go.Idl
set_option linter.all false
open Go.Sort

section
variable {P : Program} {μ : Mu} {F : Fz} {w : World} {σ : Heap}

/-- A block's rows have turned where they lie. -/
theorem HR.turned {b s : Nat} {rs rs' : List (List IV)} (hH : HR μ F σ w) (hb : σ[b]? = some (.rows s rs)) (hl : rs'.length = rs.length) (hrow' : ∀ (i : Nat) (row : List IV), rs'[i]? = some row → row.length = s) {w' : World}
    (hsame : ∀ g, g < w.heap.size → (∀ off, μ.pl b ≠ .at_ g off) → w'.heap[g]? = w.heap[g]?) (hsz : w.heap.size ≤ w'.heap.size)
    (hcells : ∀ g off cs T, μ.pl b = .at_ g off → w.heap[g]? = some (.cells cs T (0, 0)) → ∃ cs', w'.heap[g]? = some (.cells cs' T (0, 0)) ∧ cs'.size = cs.size ∧
      ∀ (i : Nat) (row : List IV) (j : Nat) (c : IV), rs'[i]? = some row → row[j]? = some c → ∃ v, cs'[off + i * s + j]? = some v ∧ VR μ F w' v c) : HR μ F (hput σ b (.rows s rs')) w' := by
  have hub : μ.u b := (hH.obj b _ hb).1
  have hF : ∀ g, F.u g → w'.heap[g]? = w.heap[g]? := fun g hg => hsame g (hH.flt g hg) fun off e => hH.fro b g off hub e hg
  have hv : ∀ {v : Value} {c : IV}, VR μ F w v c → VR μ F w' v c := fun h => h.mono (Mu.le_refl _) (fun _ h => h) fun g hg => hF g (F.sub g hg)
  have oth : ∀ {x g off}, x ≠ b → μ.u x → μ.pl x = .at_ g off → w'.heap[g]? = w.heap[g]? := fun {x g off} hx hu e =>
    hsame g (hH.lt x g off hu e) fun off' e' => hx (hH.inj x b g off off' hu hub e e')
  have hbl : b < σ.length := (List.getElem?_eq_some_iff.1 hb).1
  have get : ∀ x, (hput σ b (.rows s rs'))[x]? = if x = b then some (.rows s rs') else σ[x]? := fun x => by
    rw [getElem?_hput]
    by_cases h : x = b
    · rw [if_pos h, if_pos h]
    · rw [if_neg h, if_neg h]
      by_cases h2 : x < σ.length
      · rw [if_pos h2]
      · rw [if_neg h2, if_neg (by omega), List.getElem?_eq_none (by omega)]
  refine ⟨fun x hu => ?_, fun x o' ho' => ?_, hH.inj, hH.fro, fun x g off hx ex => ?_, fun g hg => ?_, fun x y l r r' e e' hx hy => ?_, fun x y es cur todo o h1 h2 => ?_⟩
  · rw [get]
    by_cases h : x = b
    · rw [if_pos h]; exact ⟨_, rfl, rfl⟩
    · rw [if_neg h]; exact hH.n x hu
  · rw [get] at ho'
    by_cases h : x = b
    · rw [if_pos h] at ho'; cases ho'
      subst h
      obtain ⟨h1, h2, h3, h4, h5, h6⟩ := hH.obj x _ hb
      refine ⟨h1, h2, h3, by omega, hrow', ?_⟩
      rcases h6 with ⟨e, e2⟩ | ⟨g, off, cs, T, q1, q2, q3, q4, q5⟩
      · exact .inl ⟨e, List.eq_nil_of_length_eq_zero (by rw [hl, e2]; rfl)⟩
      · obtain ⟨cs', k1, k2, k3⟩ := hcells g off cs T q1 q2
        exact .inr ⟨g, off, cs', T, q1, k1, by omega, by omega, k3⟩
    · rw [if_neg h] at ho'
      have hob := hH.obj x o' ho'
      cases o' with
      | rows s rs =>
        obtain ⟨h1, h2, h3, h4, h5, h6⟩ := hob
        refine ⟨h1, h2, h3, h4, h5, h6.imp (fun h => h) ?_⟩
        rintro ⟨g, off, cs, T, q1, q2, q3, q4, q5⟩
        exact ⟨g, off, cs, T, q1, by rw [oth h h1 q1]; exact q2, q3, q4, fun i row j c r1 r2 => let ⟨v, v1, v2⟩ := q5 i row j c r1 r2; ⟨v, v1, hv v2⟩⟩
      | map es =>
        obtain ⟨h1, h2, g, es', cl, q1, q2, q3, q4⟩ := hob
        exact ⟨h1, h2, g, es', cl, q1, by rw [oth h h1 q1]; exact q2, ⟨q3.1, fun j e p r1 r2 => let ⟨v1, v2⟩ := q3.2 j e p r1 r2; ⟨hv v1, hv v2⟩⟩, q4⟩
      | iter b' es cur todo =>
        obtain ⟨h1, h2, g, h3, h4⟩ := hob
        refine ⟨h1, h2, g, h3, h4.mono hv (fun _ h => h) (fun g hg => hF g (F.sub g hg)) (oth h h1 h3) fun b'' e hu => ?_⟩
        have hne : b'' ≠ b := fun e2 => by
          subst e2; subst e
          have := hH.itd x b'' es cur todo _ ho' hb
          cases this
        exact ⟨hu, rfl, rfl, fun gm off hp => oth hne hu hp⟩
      | yrec l r e =>
        obtain ⟨h1, h2, h3, h4, h5⟩ := hob
        have hlt := (Array.getElem?_eq_some_iff.1 h4).1
        refine ⟨h1, h2, h3, (hsame l hlt fun off e => h3 b off hub e).trans h4, ⟨h5.size, fun t c hc => let ⟨v, v1, v2⟩ := h5.slot t c hc; ⟨v, v1, hv v2⟩, fun g c hc => hv (h5.glob g c hc)⟩⟩
      | dead => trivial
      | hole => trivial
  · exact Nat.lt_of_lt_of_le (hH.lt x g off hx ex) hsz
  · exact Nat.lt_of_lt_of_le (hH.flt g hg) hsz
  · rw [get] at hx hy
    by_cases h1 : x = b
    · rw [if_pos h1] at hx; cases hx
    · by_cases h2 : y = b
      · rw [if_pos h2] at hy; cases hy
      · rw [if_neg h1] at hx; rw [if_neg h2] at hy; exact hH.yin x y l r r' e e' hx hy
  · rw [get] at h1 h2
    by_cases e1 : x = b
    · rw [if_pos e1] at h1; cases h1
    · rw [if_neg e1] at h1
      by_cases e2 : y = b
      · rw [if_pos e2] at h2
        subst e2
        have := hH.itd x y es cur todo _ h1 hb
        cases this
      · rw [if_neg e2] at h2; exact hH.itd x y es cur todo o h1 h2

/-- What the shelf says of slices.Sort at []int, at function f. -/
def SortInt (P : Program) (f : FuncId) : Prop :=
  ∀ (blk off cap : Nat) (zs : List Int) (w : World), Holds (Value.int .i64) w blk off zs.toArray → blk < w.heap.size → zs.length < 4611686018427387904 →
    Calls P f #[.slice (some ⟨blk, off, none⟩) zs.length cap] w fun e w' =>
      e = .returned (.tuple #[]) ∧ ∃ n os, w' = grow (putRow (Value.int .i64) (Sort.ahead w n) blk off (zs.mergeSort fun x y => decide (x ≤ y)).toArray) os

/-- **A SLICE OF ONE's OWN, SORTED**: whole, not empty. -/
theorem ICalls.sort {gl : List (Nat × IV)} {f : FuncId} {K : IV → Heap → Prop} {b : Nat} {cap : Option Nat} {zs : List Int} (hS : SortInt P f) (he : ∀ (args : Array Value) (w : World), (callFunc f args).run P w = .ok (.enter f args) w)
    (hb : σ[b]? = some (.rows 1 (mp (fun z => [.int .i64 z]) zs))) (h0 : 0 < zs.length) (hl : zs.length < 4611686018427387904)
    (hK : K (.tup []) (hput σ b (.rows 1 (mp (fun z => [.int .i64 z]) (zs.mergeSort fun x y => decide (x ≤ y)))))) : ICalls P gl f [.sl b zs.length 0 zs.length cap] σ K := by
  refine ⟨he, fun μ F w vs hH hv hgl => ?_⟩
  obtain ⟨v, rfl⟩ : ∃ v, vs = [v] := by
    match vs, hv.1 with
    | [v], _ => exact ⟨v, rfl⟩
  have hv0 := hv.2 0 v _ rfl rfl
  obtain ⟨hu, hs, hsz, hlen, hrow, hpl⟩ := hH.obj b _ hb
  have hlen' : μ.len b = zs.length := by rw [hlen]; simp [mp]
  cases hv0 with
  | sl _ _ _ _ _ _ hk hb' ht' hok =>
  have hok := hok (by omega)
  rw [hsz] at hok
  rcases hpl with ⟨_, e⟩ | ⟨g, off, cs, T, e, hg, hcp, hcs, hcell⟩
  · exfalso
    have := congrArg List.length e
    simp [mp] at this
    rw [this] at h0; simp at h0
  rw [e] at hok
  obtain ⟨a, c, rfl, hlc, hic, ha, _⟩ := hok
  have ha := ha.resolve_left (by omega)
  rw [Nat.zero_mul, Nat.add_zero] at ha
  subst ha
  have hgs : g < w.heap.size := (Array.getElem?_eq_some_iff.1 hg).1
  have hcz : ∀ j, j < zs.length → cs[off + j]? = some (.int .i64 (zs.getD j 0)) := fun j hj => by
    obtain ⟨u, u1, u2⟩ := hcell j [.int .i64 zs[j]] 0 (.int .i64 zs[j]) (by simp [mp, hj]) rfl
    rw [Nat.mul_one, Nat.add_zero] at u1
    cases u2
    rw [u1]; simp [hj]
  have hoff : off + zs.length ≤ cs.size := by rw [Nat.mul_one] at hcs; have : zs.length ≤ μ.cp b := (by simpa [mp] using hcp); omega
  have hHolds : Holds (Value.int .i64) w g off zs.toArray := fun j hj => by
    have hj' : j < zs.length := by simpa using hj
    refine ⟨?_, ?_⟩
    · simp only [World.cell?, hg]
      rw [hcz j hj']; simp [hj']
    · simp [World.frozen?, hg]
  refine (hS g off c zs w hHolds hgs hl).mono ?_
  rintro en w' ⟨rfl, n, os, rfl⟩
  obtain ⟨ys, hys⟩ : ∃ ys, (zs.mergeSort fun x y => decide (x ≤ y)) = ys := ⟨_, rfl⟩
  have hyl : ys.length = zs.length := by rw [← hys]; exact List.length_mergeSort _
  rw [hys] at hK ⊢
  have hheap : ∀ x, x < w.heap.size → (grow (putRow (Value.int .i64) (Sort.ahead w n) g off ys.toArray) os).heap[x]? = (w.heap[x]?).map fun o => if x = g then (match o with | .cells c e fr => .cells (putCells (Value.int .i64) off ys.toArray c) e fr | o => o) else o := fun x hx => by
    simp only [grow, putRow, mapBlock, Sort.ahead]
    rw [Array.getElem?_append_left (by simpa using hx), Array.getElem?_modify]
    by_cases h : g = x
    · subst h
      simp only [if_true]
      cases w.heap[g]? with
      | none => rfl
      | some o => cases o <;> rfl
    · rw [if_neg h]
      have : ¬ x = g := fun e => h e.symm
      simp [this]
  have hsz' : w.heap.size ≤ (grow (putRow (Value.int .i64) (Sort.ahead w n) g off ys.toArray) os).heap.size := by
    simp [grow, putRow, mapBlock, Sort.ahead]
  have hsame : ∀ x, x < w.heap.size → (∀ off', μ.pl b ≠ .at_ x off') → (grow (putRow (Value.int .i64) (Sort.ahead w n) g off ys.toArray) os).heap[x]? = w.heap[x]? := fun x hx hne => by
    rw [hheap x hx]
    have : x ≠ g := fun e2 => by subst e2; exact hne off e
    simp [this]
  refine ⟨.tuple #[], .tup [], _, μ, F, rfl, hK, .tup [] [] rfl fun j v c h => by simp at h, ?_, ⟨Mu.le_refl _, fun _ h => h, fun _ h => h, fun x hx => hsame x (hH.flt x hx) fun off' e' => hH.fro b x off' hu e' hx, hsz', rfl, rfl, ⟨rfl, Nat.le_add_right _ _⟩, fun x h => .inl h⟩⟩
  refine hH.turned hb (by simp [mp, hyl]) (fun i row hr => ?_) hsame hsz' fun g1 off1 cs1 T1 e1 hg1 => ?_
  · simp only [mp, List.getElem?_map, Option.map_eq_some_iff] at hr
    obtain ⟨z, _, rfl⟩ := hr; rfl
  · rw [e] at e1; cases e1
    rw [hg] at hg1; cases hg1
    refine ⟨putCells (Value.int .i64) off ys.toArray cs, ?_, by simp [putCells], fun i row j c hr hc => ?_⟩
    · rw [hheap g hgs, hg]; simp
    · simp only [mp, List.getElem?_map, Option.map_eq_some_iff] at hr
      obtain ⟨z, hz, rfl⟩ := hr
      obtain ⟨hi, hzi⟩ := List.getElem?_eq_some_iff.1 hz
      cases j with
      | succ j => simp at hc
      | zero =>
        simp at hc; subst hc
        refine ⟨.int .i64 z, ?_, .int _ _⟩
        rw [Nat.mul_one, Nat.add_zero]
        have h1 : off + i < cs.size := by omega
        simp [putCells, h1, hi, hzi]
end
end Go.Idl
namespace Go.Idl
set_option linter.all false
open Go.Sort

section
variable {P : Program} {μ : Mu} {F : Fz} {w : World} {σ : Heap}

theorem compact_le (zs : List Int) : (Lib.compact zs).length ≤ zs.length := by
  unfold Lib.compact Lib.compactUpTo
  rw [List.length_map]
  exact Nat.le_trans (List.length_filter_le _ _) (by simp)
/-- What the shelf says of slices.Compact at []int, at function f. -/
def CompactInt (P : Program) (f : FuncId) : Prop :=
  ∀ (blk off cap : Nat) (zs : List Int) (w : World), Holds (Value.int .i64) w blk off zs.toArray → zs.length ≤ cap → zs.length ≤ 9223372036854775807 →
    Calls P f #[.slice (some ⟨blk, off, none⟩) zs.length cap] w fun e w' =>
      e = .returned (.slice (some ⟨blk, off, none⟩) (Lib.compact zs).length cap) ∧ ∃ n, w' = putRow (Value.int .i64) (Sort.ahead w n) blk off (Lib.compact zs ++ List.replicate (zs.length - (Lib.compact zs).length) 0).toArray

/-- **A SLICE OF ONE's OWN, COMPACTED**: whole, not empty. -/
theorem ICalls.compact {gl : List (Nat × IV)} {f : FuncId} {K : IV → Heap → Prop} {b : Nat} {cap : Option Nat} {zs : List Int} (hS : CompactInt P f) (he : ∀ (args : Array Value) (w : World), (callFunc f args).run P w = .ok (.enter f args) w)
    (hb : σ[b]? = some (.rows 1 (mp (fun z => [.int .i64 z]) zs))) (h0 : 0 < zs.length) (hl : zs.length < 4611686018427387904)
    (hK : K (.sl b zs.length 0 (Lib.compact zs).length none) (hput σ b (.rows 1 (mp (fun z => [.int .i64 z]) (Lib.compact zs ++ List.replicate (zs.length - (Lib.compact zs).length) 0))))) : ICalls P gl f [.sl b zs.length 0 zs.length cap] σ K := by
  refine ⟨he, fun μ F w vs hH hv hgl => ?_⟩
  obtain ⟨v, rfl⟩ : ∃ v, vs = [v] := by
    match vs, hv.1 with
    | [v], _ => exact ⟨v, rfl⟩
  have hv0 := hv.2 0 v _ rfl rfl
  obtain ⟨hu, hs, hsz, hlen, hrow, hpl⟩ := hH.obj b _ hb
  have hlen' : μ.len b = zs.length := by rw [hlen]; simp [mp]
  cases hv0 with
  | sl _ _ _ _ _ _ hk hb' ht' hok =>
  have hok := hok (by omega)
  rw [hsz] at hok
  rcases hpl with ⟨_, e⟩ | ⟨g, off, cs, T, e, hg, hcp, hcs, hcell⟩
  · exfalso
    have := congrArg List.length e
    simp [mp] at this
    rw [this] at h0; simp at h0
  rw [e] at hok
  obtain ⟨a, c, rfl, hlc, hic, ha, _⟩ := hok
  have ha := ha.resolve_left (by omega)
  rw [Nat.zero_mul, Nat.add_zero] at ha
  subst ha
  have hgs : g < w.heap.size := (Array.getElem?_eq_some_iff.1 hg).1
  have hcz : ∀ j, j < zs.length → cs[off + j]? = some (.int .i64 (zs.getD j 0)) := fun j hj => by
    obtain ⟨u, u1, u2⟩ := hcell j [.int .i64 zs[j]] 0 (.int .i64 zs[j]) (by simp [mp, hj]) rfl
    rw [Nat.mul_one, Nat.add_zero] at u1
    cases u2
    rw [u1]; simp [hj]
  have hoff : off + zs.length ≤ cs.size := by rw [Nat.mul_one] at hcs; have : zs.length ≤ μ.cp b := (by simpa [mp] using hcp); omega
  have hHolds : Holds (Value.int .i64) w g off zs.toArray := fun j hj => by
    have hj' : j < zs.length := by simpa using hj
    refine ⟨?_, ?_⟩
    · simp only [World.cell?, hg]
      rw [hcz j hj']; simp [hj']
    · simp [World.frozen?, hg]
  refine (hS g off c zs w hHolds hlc (by omega)).mono ?_
  rintro en w' ⟨rfl, n, rfl⟩
  obtain ⟨ys, hys⟩ : ∃ ys, (Lib.compact zs ++ List.replicate (zs.length - (Lib.compact zs).length) 0) = ys := ⟨_, rfl⟩
  have hcl : (Lib.compact zs).length ≤ zs.length := compact_le zs
  have hyl : ys.length = zs.length := by rw [← hys]; simp; omega
  rw [hys] at hK ⊢
  have hheap : ∀ x, x < w.heap.size → (putRow (Value.int .i64) (Sort.ahead w n) g off ys.toArray).heap[x]? = (w.heap[x]?).map fun o => if x = g then (match o with | .cells c e fr => .cells (putCells (Value.int .i64) off ys.toArray c) e fr | o => o) else o := fun x hx => by
    simp only [putRow, mapBlock, Sort.ahead]
    rw [Array.getElem?_modify]
    by_cases h : g = x
    · subst h
      simp only [if_true]
      cases w.heap[g]? with
      | none => rfl
      | some o => cases o <;> rfl
    · rw [if_neg h]
      have : ¬ x = g := fun e => h e.symm
      simp [this]
  have hsz' : w.heap.size ≤ (putRow (Value.int .i64) (Sort.ahead w n) g off ys.toArray).heap.size := by
    simp [putRow, mapBlock, Sort.ahead]
  have hsame : ∀ x, x < w.heap.size → (∀ off', μ.pl b ≠ .at_ x off') → (putRow (Value.int .i64) (Sort.ahead w n) g off ys.toArray).heap[x]? = w.heap[x]? := fun x hx hne => by
    rw [hheap x hx]
    have : x ≠ g := fun e2 => by subst e2; exact hne off e
    simp [this]
  refine ⟨.slice (some ⟨g, off, none⟩) (Lib.compact zs).length c, .sl b zs.length 0 (Lib.compact zs).length none, _, μ, F, rfl, hK, .sl _ b _ 0 _ none rfl hu (by omega) fun _ => by rw [e]; exact ⟨some ⟨g, off, none⟩, c, rfl, by omega, hic, .inr (by simp), fun c' h => by cases h⟩, ?_, ⟨Mu.le_refl _, fun _ h => h, fun _ h => h, fun x hx => hsame x (hH.flt x hx) fun off' e' => hH.fro b x off' hu e' hx, hsz', rfl, rfl, ⟨rfl, Nat.le_add_right _ _⟩, fun x h => .inl h⟩⟩
  refine hH.turned hb (by simp [mp, hyl]) (fun i row hr => ?_) hsame hsz' fun g1 off1 cs1 T1 e1 hg1 => ?_
  · simp only [mp, List.getElem?_map, Option.map_eq_some_iff] at hr
    obtain ⟨z, _, rfl⟩ := hr; rfl
  · rw [e] at e1; cases e1
    rw [hg] at hg1; cases hg1
    refine ⟨putCells (Value.int .i64) off ys.toArray cs, ?_, by simp [putCells], fun i row j c hr hc => ?_⟩
    · rw [hheap g hgs, hg]; simp
    · simp only [mp, List.getElem?_map, Option.map_eq_some_iff] at hr
      obtain ⟨z, hz, rfl⟩ := hr
      obtain ⟨hi, hzi⟩ := List.getElem?_eq_some_iff.1 hz
      cases j with
      | succ j => simp at hc
      | zero =>
        simp at hc; subst hc
        refine ⟨.int .i64 z, ?_, .int _ _⟩
        rw [Nat.mul_one, Nat.add_zero]
        have h1 : off + i < cs.size := by omega
        simp [putCells, h1, hi, hzi]
theorem hput_self {σ : Heap} {b : Nat} {o : IObj} (h : σ[b]? = some o) : hput σ b o = σ := by
  obtain ⟨hlt, he⟩ := List.getElem?_eq_some_iff.1 h
  rw [hput_set hlt]
  apply List.ext_getElem?
  intro n
  rw [List.getElem?_set]
  by_cases e : b = n
  · subst e; simp [hlt, he]
  · simp [e]
/-- What the shelf says of slices.Sort at a slice of no element. -/
def Sort0 (P : Program) (f : FuncId) : Prop :=
  ∀ (p : Option Addr) (cap : Nat) (w : World), Calls P f #[.slice p 0 cap] w fun e w' => e = .returned (.tuple #[]) ∧ w' = w
def Compact0 (P : Program) (f : FuncId) : Prop :=
  ∀ (p : Option Addr) (cap : Nat) (w : World), Calls P f #[.slice p 0 cap] w fun e w' => e = .returned (.slice p 0 cap) ∧ w' = w
theorem empty_val {b i s : Nat} {rs : List (List IV)} {cap : Option Nat} {v : Value} (hH : HR μ F σ w) (hb : σ[b]? = some (.rows s rs)) (hv : VR μ F w v (.sl b rs.length i 0 cap)) : ∃ p c, v = .slice p 0 c := by
  obtain ⟨hu, hs, hsz, hlen, hrow, hpl⟩ := hH.obj b _ hb
  cases hv with
  | sl _ _ _ _ _ _ hk hb' ht' hok =>
  have hok := hok hlen.symm
  rcases hpl with ⟨e, _⟩ | ⟨g, off, cs, T, e, hg, hcp, hcs, hcell⟩
  · rw [e] at hok
    exact ⟨none, 0, hok.1⟩
  · rw [e] at hok
    obtain ⟨a, c, rfl, hlc, hic, ha, _⟩ := hok
    exact ⟨a, c, rfl⟩
theorem ICalls.sort0 {gl : List (Nat × IV)} {f : FuncId} {K : IV → Heap → Prop} {b i s : Nat} {rs : List (List IV)} {cap : Option Nat} (hS : Sort0 P f) (he : ∀ (args : Array Value) (w : World), (callFunc f args).run P w = .ok (.enter f args) w)
    (hb : σ[b]? = some (.rows s rs)) (hK : K (.tup []) σ) : ICalls P gl f [.sl b rs.length i 0 cap] σ K := by
  refine ⟨he, fun μ F w vs hH hv hgl => ?_⟩
  obtain ⟨v, rfl⟩ : ∃ v, vs = [v] := by
    match vs, hv.1 with
    | [v], _ => exact ⟨v, rfl⟩
  obtain ⟨p, c, rfl⟩ := empty_val hH hb (hv.2 0 v _ rfl rfl)
  refine (hS p c w).mono ?_
  rintro en w' ⟨rfl, rfl⟩
  exact ⟨.tuple #[], .tup [], _, μ, F, rfl, hK, .tup [] [] rfl fun j v c h => by simp at h, hH, Ext.refl _ _ _⟩
theorem ICalls.compact0 {gl : List (Nat × IV)} {f : FuncId} {K : IV → Heap → Prop} {b i s : Nat} {rs : List (List IV)} {cap : Option Nat} (hS : Compact0 P f) (he : ∀ (args : Array Value) (w : World), (callFunc f args).run P w = .ok (.enter f args) w)
    (hb : σ[b]? = some (.rows s rs)) (hK : K (.sl b rs.length i 0 cap) σ) : ICalls P gl f [.sl b rs.length i 0 cap] σ K := by
  refine ⟨he, fun μ F w vs hH hv hgl => ?_⟩
  obtain ⟨v, rfl⟩ : ∃ v, vs = [v] := by
    match vs, hv.1 with
    | [v], _ => exact ⟨v, rfl⟩
  have hv0 := hv.2 0 v _ rfl rfl
  obtain ⟨p, c, rfl⟩ := empty_val hH hb hv0
  refine (hS p c w).mono ?_
  rintro en w' ⟨rfl, rfl⟩
  exact ⟨_, _, _, μ, F, rfl, hK, hv0, hH, Ext.refl _ _ _⟩
/-- **A SLICE OF ONE's OWN, SORTED**, whole. -/
theorem ICalls.sortA {gl : List (Nat × IV)} {f : FuncId} {K : IV → Heap → Prop} {b n : Nat} {zs : List Int} (hS : SortInt P f) (hS0 : Sort0 P f) (he : ∀ (args : Array Value) (w : World), (callFunc f args).run P w = .ok (.enter f args) w)
    (hb : σ[b]? = some (.rows 1 (mp (fun z => [.int .i64 z]) zs))) (hn : n = zs.length) (hl : zs.length < 4611686018427387904)
    (hK : K (.tup []) (hput σ b (.rows 1 (mp (fun z => [.int .i64 z]) (zs.mergeSort fun x y => decide (x ≤ y)))))) : ICalls P gl f [.sl b n 0 n none] σ K := by
  subst hn
  by_cases h0 : 0 < zs.length
  · exact ICalls.sort hS he hb h0 hl hK
  · have e : zs = [] := List.eq_nil_of_length_eq_zero (by omega)
    subst e
    refine ICalls.sort0 (s := 1) (rs := []) hS0 he hb ?_
    rwa [List.mergeSort_nil, hput_self hb] at hK
/-- **A SLICE OF ONE's OWN, COMPACTED**, whole. -/
theorem ICalls.compactA {gl : List (Nat × IV)} {f : FuncId} {K : IV → Heap → Prop} {b n : Nat} {zs : List Int} (hS : CompactInt P f) (hS0 : Compact0 P f) (he : ∀ (args : Array Value) (w : World), (callFunc f args).run P w = .ok (.enter f args) w)
    (hb : σ[b]? = some (.rows 1 (mp (fun z => [.int .i64 z]) zs))) (hn : n = zs.length) (hl : zs.length < 4611686018427387904)
    (hK : K (.sl b zs.length 0 (Lib.compact zs).length none) (hput σ b (.rows 1 (mp (fun z => [.int .i64 z]) (Lib.compact zs ++ List.replicate (zs.length - (Lib.compact zs).length) 0))))) : ICalls P gl f [.sl b n 0 n none] σ K := by
  subst hn
  by_cases h0 : 0 < zs.length
  · exact ICalls.compact hS he hb h0 hl hK
  · have e : zs = [] := List.eq_nil_of_length_eq_zero (by omega)
    subst e
    refine ICalls.compact0 (s := 1) (rs := []) hS0 he hb ?_
    have e1 : Lib.compact ([] : List Int) = [] := rfl
    rw [e1] at hK
    rwa [List.length_nil, Nat.sub_self, List.replicate_zero, List.append_nil, hput_self hb] at hK
/-- A nil slice in slot t is a slice without elements. -/
theorem IWp.nzS {Q : XPost} {c : Code} {x : Bool} {n m : Nat} {ex : List Nat} {gl nm : List (Nat × IV)} (s t : Nat) (ht : isNamed m ex t = true) (hg : eget nm t = some .nils)
    (h : IWp P c Q ⟨x, n, m, ex, gl, eput nm t (.fz s []), []⟩ σ) : IWp P c Q ⟨x, n, m, ex, gl, nm, []⟩ σ := fun ro μ F a w hR hE hH => by
  refine h ro μ F a w hR ⟨hE.size, fun q c hq => ?_, hE.glob⟩ hH
  by_cases e : isNamed m ex q = true
  · have hq' : eget (eput nm t (.fz s [])) q = some c := by
      unfold Env.get at hq; simpa only [e, cond_true] using hq
    rw [eget_eput] at hq'
    by_cases e2 : t = q
    · subst e2
      rw [if_pos rfl] at hq'
      cases hq'
      obtain ⟨v, v1, v2⟩ := hE.slot t .nils (by unfold Env.get; simpa only [e, cond_true] using hg)
      cases v2
      exact ⟨_, v1, .fz0 _ _ _⟩
    · rw [if_neg e2] at hq'
      exact hE.slot q c (by unfold Env.get; simpa only [e, cond_true] using hq')
  · have e' : isNamed m ex q = false := by simpa using e
    exact hE.slot q c (by unfold Env.get at hq ⊢; simpa only [e', cond_false] using hq)
end
end Go.Idl
