import Derived.Test.YteedopeniojppaaGreatDoorIdlPartI
set_option linter.all false
namespace Go.Idl
mutual
def ren (π : Nat → Nat) : IV → IV
 | .ptr b t i o => .ptr (π b) t i o
 | .fptr s rows i o => .fptr s (renLL π rows) i o
 | .sl b t i n c => .sl (π b) t i n c
 | .fz s rows => .fz s (renLL π rows)
 | .map b => .map (π b)
 | .fm es => .fm es
 | .iter b => .iter (π b)
 | .func fn fs cs => .func fn (renL π fs) (renL π cs)
 | .agg cs => .agg (renL π cs)
 | .tup vs => .tup (renL π vs)
 | .opt g v => .opt g (ren π v)
 | .bool b => .bool b
 | .int k n => .int k n
 | .str s => .str s
 | .nilp => .nilp
 | .nils => .nils
 | .nilm => .nilm
 | .nilf => .nilf
 | .junk => .junk
def renL (π : Nat → Nat) : List IV → List IV
 | [] => []
 | v :: l => ren π v :: renL π l
def renLL (π : Nat → Nat) : List (List IV) → List (List IV)
 | [] => []
 | r :: l => renL π r :: renLL π l
end
theorem renL_map {π : Nat → Nat} : ∀ (l : List IV), renL π l = l.map (ren π)
 | [] => by simp [renL]
 | v :: l => by simp [renL, renL_map l]
theorem renLL_map {π : Nat → Nat} : ∀ (l : List (List IV)), renLL π l = l.map (renL π)
 | [] => by simp [renLL]
 | v :: l => by simp [renLL, renLL_map l]
def renM (π : Nat → Nat) (es : List (IV × IV)) : List (IV × IV) := es.map fun e => (ren π e.1, ren π e.2)
def renO (π : Nat → Nat) : IObj → IObj
 | .rows s rs => .rows s (renLL π rs)
 | .map es => .map (renM π es)
 | o => o
def plO : IObj → Bool
 | .rows _ _ | .map _ => true
 | _ => false
def plD : IObj → Bool
 | .rows _ _ | .map _ | .dead => true
 | _ => false
theorem Cl.ren {π : Nat → Nat} {v : IV} (h : Cl v) : ren π v = v := by
 have lst : ∀ (l : List IV), (∀ (j : Nat) (c : IV), l[j]? = some c → Go.Idl.ren π c = c) → renL π l = l := fun l h => by
  rw [renL_map]
  apply List.ext_getElem?
  intro j
  rw [List.getElem?_map]
  cases e : l[j]? with
  | none => rfl
  | some c => simp [h j c e]
 have lst2 : ∀ (l : List (List IV)), (∀ (i : Nat) (row : List IV) (j : Nat) (c : IV), l[i]? = some row → row[j]? = some c → Go.Idl.ren π c = c) → renLL π l = l := fun l h => by
  rw [renLL_map]
  apply List.ext_getElem?
  intro j
  rw [List.getElem?_map]
  cases e : l[j]? with
  | none => rfl
  | some c => simp [lst c fun k c' e' => h j c k c' e e']
 induction h with
 | fptr s rows i o _ ih => simp only [Go.Idl.ren, lst2 rows ih]
 | fz s rows _ ih => simp only [Go.Idl.ren, lst2 rows ih]
 | func fn fs cs _ _ i1 i2 => simp only [Go.Idl.ren, lst fs i1, lst cs i2]
 | agg cs _ ih => simp only [Go.Idl.ren, lst cs ih]
 | tup cs _ ih => simp only [Go.Idl.ren, lst cs ih]
 | _ => simp only [Go.Idl.ren]
theorem ClR.ren {π : Nat → Nat} {rs : List (List IV)} (h : ClR rs) : renLL π rs = rs := by
 rw [renLL_map]
 apply List.ext_getElem?
 intro i
 rw [List.getElem?_map]
 cases e : rs[i]? with
 | none => rfl
 | some row =>
  simp only [Option.map_some, Option.some.injEq]
  rw [renL_map]
  apply List.ext_getElem?
  intro j
  rw [List.getElem?_map]
  cases e2 : row[j]? with
  | none => rfl
  | some c => simp [(h row (List.mem_of_getElem? e) c (List.mem_of_getElem? e2)).ren]
section
variable {P : Program} {μ : Mu} {F : Fz} {w : World} {σ : Heap} {π : Nat → Nat}
def Mu.pull (μ : Mu) (π : Nat → Nat) (n : Nat) : Mu := ⟨fun b => b < n ∧ μ.u (π b), fun b => μ.sz (π b), fun b => μ.len (π b), fun b => μ.cp (π b), fun b => μ.pl (π b)⟩
theorem getElem?_renL {l : List IV} {j : Nat} {c : IV} (h : l[j]? = some c) : (renL π l)[j]? = some (ren π c) := by rw [renL_map, List.getElem?_map, h]; rfl
theorem getElem?_renLL {l : List (List IV)} {j : Nat} {c : List IV} (h : l[j]? = some c) : (renLL π l)[j]? = some (renL π c) := by rw [renLL_map, List.getElem?_map, h]; rfl
theorem getElem?_renL' {l : List IV} {j : Nat} {c : IV} (h : (renL π l)[j]? = some c) : ∃ c0, l[j]? = some c0 ∧ c = ren π c0 := by
 rw [renL_map, List.getElem?_map, Option.map_eq_some_iff] at h
 obtain ⟨c0, h1, h2⟩ := h; exact ⟨c0, h1, h2.symm⟩
theorem getElem?_renLL' {l : List (List IV)} {j : Nat} {c : List IV} (h : (renLL π l)[j]? = some c) : ∃ c0, l[j]? = some c0 ∧ c = renL π c0 := by
 rw [renLL_map, List.getElem?_map, Option.map_eq_some_iff] at h
 obtain ⟨c0, h1, h2⟩ := h; exact ⟨c0, h1, h2.symm⟩
theorem renL_length {l : List IV} : (renL π l).length = l.length := by rw [renL_map, List.length_map]
theorem renLL_length {l : List (List IV)} : (renLL π l).length = l.length := by rw [renLL_map, List.length_map]
theorem VR.pull {n : Nat} {v : Value} {c : IV} (hb : Bl n c) : VR μ F w v (ren π c) → VR (μ.pull π n) F w v c := by
 induction hb generalizing v with
 | bool b => intro h; simp only [ren] at h; cases h; exact .bool b
 | int k n => intro h; simp only [ren] at h; cases h; exact .int k n
 | str s => intro h; simp only [ren] at h; cases h; exact .str s
 | nilp => intro h; simp only [ren] at h; cases h; exact .nilp
 | nils => intro h; simp only [ren] at h; cases h; exact .nils
 | nilm => intro h; simp only [ren] at h; cases h; exact .nilm
 | nilf => intro h; simp only [ren] at h; cases h; exact .nilf
 | ptr b tot i o hn => intro h; simp only [ren] at h; cases h with | ptr _ _ _ _ _ hk hb' ht h => exact .ptr v b tot i o hk ⟨hn, hb'⟩ ht h
 | sl b tot i len cap hn => intro h; simp only [ren] at h; cases h with | sl _ _ _ _ _ _ hk hb' ht h => exact .sl v b tot i len cap hk ⟨hn, hb'⟩ ht h
 | map b hn => intro h; simp only [ren] at h; cases h with | map _ _ hk hb' h hl => exact .map v b hk ⟨hn, hb'⟩ h hl
 | fm es => intro h; simp only [ren] at h; cases h with | fm g _ es' cl h1 hg hfl hen hnd hcl => exact .fm g es es' cl h1 hg hfl hen hnd hcl
 | iter b hn => intro h; simp only [ren] at h; cases h with | iter _ _ hk hb' h hl => exact .iter v b hk ⟨hn, hb'⟩ h hl
 | fptr s rows i o _ ih =>
  intro h
  simp only [ren] at h
  cases h with
  | fptr g off _ _ _ _ us hf hrow hcell hv =>
   exact .fptr g off s rows i o us hf (fun i row e => by have := hrow i _ (getElem?_renLL e); rwa [renL_length] at this) (fun i row j e hj => hcell i _ j (getElem?_renLL e) hj) fun i row j c e1 e2 => ih i row j c e1 e2 (hv i _ j _ (getElem?_renLL e1) (getElem?_renL e2))
 | fz s rows _ ih =>
  intro h
  simp only [ren] at h
  generalize hr : renLL π rows = rr at h
  cases h with
  | fz g off _ _ cap us hf hrow hcell hv hcap =>
   subst hr
   rw [renLL_length] at hcap ⊢
   exact .fz g off s rows cap us hf (fun i row e => by have := hrow i _ (getElem?_renLL e); rwa [renL_length] at this) (fun i row j e hj => hcell i _ j (getElem?_renLL e) hj) (fun i row j c e1 e2 => ih i row j c e1 e2 (hv i _ j _ (getElem?_renLL e1) (getElem?_renL e2))) hcap
  | fz0 a cap _ =>
   have : rows = [] := List.eq_nil_of_length_eq_zero (by rw [← renLL_length (π := π), hr]; rfl)
   subst this
   exact .fz0 _ _ _
 | func fn fs cs _ _ i1 i2 =>
  intro h
  simp only [ren] at h
  cases h with
  | func _ vs us _ _ k1 k2 k3 k4 =>
   exact .func fn vs us fs cs (by rw [k1, renL_length]) (by rw [k2, renL_length]) (fun j v c e1 e2 => i1 j c e2 (k3 j v _ e1 (getElem?_renL e2))) fun j v c e1 e2 => i2 j c e2 (k4 j v _ e1 (getElem?_renL e2))
 | agg cs _ ih =>
  intro h
  simp only [ren] at h
  cases h with
  | agg vs _ k1 k3 => exact .agg vs cs (by rw [k1, renL_length]) fun j v c e1 e2 => ih j c e2 (k3 j v _ e1 (getElem?_renL e2))
 | tup cs _ ih =>
  intro h
  simp only [ren] at h
  cases h with
  | tup vs _ k1 k3 => exact .tup vs cs (by rw [k1, renL_length]) fun j v c e1 e2 => ih j c e2 (k3 j v _ e1 (getElem?_renL e2))
 | opt g c _ ih =>
  intro h
  simp only [ren] at h
  cases h with
  | opt _ _ _ h1 h0 => exact .opt g v c (fun hg => ih (h1 hg)) h0
 | junk => intro h; exact .junk v
theorem VR.push {μ' : Mu} (hu : ∀ b, μ.u b → μ'.u (π b) ∧ μ'.sz (π b) = μ.sz b ∧ μ'.len (π b) = μ.len b ∧ μ'.cp (π b) = μ.cp b ∧ μ'.pl (π b) = μ.pl b) {F' : Fz} (hF : ∀ g, F.f g → F'.f g) {v : Value} {c : IV} (h : VR μ F w v c) : VR μ' F' w v (ren π c) := by
 induction h with
 | bool b => simp only [ren]; exact .bool b
 | int k n => simp only [ren]; exact .int k n
 | str s => simp only [ren]; exact .str s
 | nilp => simp only [ren]; exact .nilp
 | nils => simp only [ren]; exact .nils
 | nilm => simp only [ren]; exact .nilm
 | nilf => simp only [ren]; exact .nilf
 | junk v => simp only [ren]; exact .junk v
 | fm g es es' cl h1 hg hfl hen hnd hcl => simp only [ren]; exact .fm g es es' cl (hF _ h1) hg hfl hen hnd hcl
 | ptr v b tot i o hk hb ht h =>
  obtain ⟨h1, h2, h3, h4, h5⟩ := hu b hb
  simp only [ren]; exact .ptr v _ tot i o hk h1 (by omega) fun e => by rw [h5, h2]; exact h (by omega)
 | sl v b tot i len cap hk hb ht h =>
  obtain ⟨h1, h2, h3, h4, h5⟩ := hu b hb
  simp only [ren]; exact .sl v _ tot i len cap hk h1 (by omega) fun e => by rw [h5, h2, h4]; exact h (by omega)
 | map v b hk hb h hl =>
  obtain ⟨h1, h2, h3, h4, h5⟩ := hu b hb
  simp only [ren]; exact .map v _ hk h1 (by rw [h5]; exact h) (by omega)
 | iter v b hk hb h hl =>
  obtain ⟨h1, h2, h3, h4, h5⟩ := hu b hb
  simp only [ren]; exact .iter v _ hk h1 (by rw [h5]; exact h) (by omega)
 | fptr g off s rows i o us hf hrow hcell hv ih =>
  simp only [ren]
  refine .fptr g off s _ i o us (hF _ hf) (fun i row e => ?_) (fun i row j e hj => ?_) fun i row j c e1 e2 => ?_
  ·obtain ⟨r0, h1, rfl⟩ := getElem?_renLL' e; rw [renL_length]; exact hrow i _ h1
  ·obtain ⟨r0, h1, rfl⟩ := getElem?_renLL' e; exact hcell i _ j h1 hj
  ·obtain ⟨r0, h1, rfl⟩ := getElem?_renLL' e1; obtain ⟨c0, h2, rfl⟩ := getElem?_renL' e2; exact ih i _ j _ h1 h2
 | fz g off s rows cap us hf hrow hcell hv hcap ih =>
  simp only [ren]
  rw [← renLL_length (π := π)] at hcap ⊢
  refine .fz g off s _ cap us (hF _ hf) (fun i row e => ?_) (fun i row j e hj => ?_) (fun i row j c e1 e2 => ?_) hcap
  ·obtain ⟨r0, h1, rfl⟩ := getElem?_renLL' e; rw [renL_length]; exact hrow i _ h1
  ·obtain ⟨r0, h1, rfl⟩ := getElem?_renLL' e; exact hcell i _ j h1 hj
  ·obtain ⟨r0, h1, rfl⟩ := getElem?_renLL' e1; obtain ⟨c0, h2, rfl⟩ := getElem?_renL' e2; exact ih i _ j _ h1 h2
 | fz0 a cap s => simp only [ren, renLL]; exact .fz0 a cap s
 | func fn fs cs fs' cs' hf hc _ _ ih1 ih2 =>
  simp only [ren]
  refine .func fn fs cs _ _ (by rw [hf, renL_length]) (by rw [hc, renL_length]) (fun j v c e1 e2 => ?_) fun j v c e1 e2 => ?_
  ·obtain ⟨c0, h2, rfl⟩ := getElem?_renL' e2; exact ih1 j v _ e1 h2
  ·obtain ⟨c0, h2, rfl⟩ := getElem?_renL' e2; exact ih2 j v _ e1 h2
 | agg vs cs hl _ ih =>
  simp only [ren]
  refine .agg vs _ (by rw [hl, renL_length]) fun j v c e1 e2 => ?_
  obtain ⟨c0, h2, rfl⟩ := getElem?_renL' e2; exact ih j v _ e1 h2
 | tup vs cs hl _ ih =>
  simp only [ren]
  refine .tup vs _ (by rw [hl, renL_length]) fun j v c e1 e2 => ?_
  obtain ⟨c0, h2, rfl⟩ := getElem?_renL' e2; exact ih j v _ e1 h2
 | opt g v c _ h0 ih => simp only [ren]; exact .opt g v _ ih h0
def piF (p : List Nat) (m b : Nat) : Nat := match p[b]? with
 | some x => x
 | none => m + (b - p.length)
def piI (p : List Nat) (m b : Nat) : Option Nat := match p.idxOf? b with
 | some i => some i
 | none => if m ≤ b then some (p.length + (b - m)) else none
def putAll (σ : Heap) : List Nat → Heap → Heap
 | b :: p, o :: L => putAll (σ.set b o) p L
 | [], L => σ ++ L
 | _ :: _, [] => σ
theorem piI_piF {p : List Nat} {m : Nat} (hnd : p.Nodup) (hm : ∀ b ∈ p, b < m) (i : Nat) : piI p m (piF p m i) = some i := by
 unfold piF
 cases h : p[i]? with
 | some x =>
  have hi := (List.getElem?_eq_some_iff.1 h).1
  have hx : p[i] = x := (List.getElem?_eq_some_iff.1 h).2
  have : p.idxOf? x = some i := by
   rw [List.idxOf?_eq_some_iff]
   refine ⟨hi, hx, fun j hj => ?_⟩
   intro e
   have := (List.getElem_inj (h₀ := show j < p.length by omega) (h₁ := hi) hnd).1 (by rw [e, hx])
   omega
  simp [piI, this]
 | none =>
  have hi := List.getElem?_eq_none_iff.1 h
  have : p.idxOf? (m + (i - p.length)) = none := by
   rw [List.idxOf?_eq_none_iff]
   intro hmem; have := hm _ hmem; omega
  simp [piI, this]; omega
theorem piF_piI {p : List Nat} {m b i : Nat} (h : piI p m b = some i) : piF p m i = b := by
 unfold piI at h
 cases e : p.idxOf? b with
 | some j =>
  rw [e] at h; simp at h; subst h
  rw [List.idxOf?_eq_some_iff] at e
  obtain ⟨h1, h2, _⟩ := e
  simp [piF, List.getElem?_eq_getElem h1, h2]
 | none =>
  rw [e] at h
  simp only at h
  split at h
  ·simp at h; subst h
   simp [piF]; omega
  ·cases h
theorem putAll_get : ∀ {p : List Nat} {L σ : Heap}, p.Nodup → (∀ b ∈ p, b < σ.length) → p.length ≤ L.length → ∀ b, (putAll σ p L)[b]? = match piI p σ.length b with | some i => L[i]? | none => σ[b]?
 | [], L, σ, _, _, _, b => by
  simp only [putAll, piI, List.idxOf?_nil]
  by_cases h : σ.length ≤ b
  ·simp [h, List.getElem?_append_right h]
  ·simp [h, List.getElem?_append_left (show b < σ.length by omega)]
 | x :: p, [], σ, _, _, h, b => by simp at h
 | x :: p, o :: L, σ, hnd, hlt, hl, b => by
  rw [List.nodup_cons] at hnd
  simp only [putAll]
  rw [putAll_get hnd.2 (fun b hb => by simp; exact hlt b (by simp [hb])) (by simpa using hl)]
  simp only [List.length_set]
  have hx := hlt x (by simp)
  by_cases hbx : b = x
  ·subst hbx
   have e1 : p.idxOf? b = none := by rw [List.idxOf?_eq_none_iff]; exact hnd.1
   have e2 : (b :: p).idxOf? b = some 0 := by simp [List.idxOf?_cons]
   simp only [piI, e1, e2]
   rw [if_neg (by omega)]
   simp [hx]
  ·have e2 : (x :: p).idxOf? b = (p.idxOf? b).map (· + 1) := by
    rw [List.idxOf?_cons]
    have : (x == b) = false := by simpa using Ne.symm hbx
    simp [this]
   simp only [piI, e2]
   cases e : p.idxOf? b with
   | some i => simp
   | none =>
    simp only [Option.map_none, List.length_cons]
    by_cases h : σ.length ≤ b
    ·simp only [if_pos h]
     rw [show p.length + 1 + (b - σ.length) = (p.length + (b - σ.length)) + 1 by omega]
     simp
    ·simp only [if_neg h]
     rw [List.getElem?_set_ne (Ne.symm hbx)]
theorem renO_pl {o : IObj} (h : plD o = true) : (renO π o).isHole = false := by cases o <;> first | rfl | simp [plD] at h
theorem ICalls.frame {gl : List (Nat × IV)} {f : FuncId} {args : List IV} {H : Heap} {K K' : IV → Heap → Prop} (p : List Nat) (h : ICalls P gl f args H K) (hp : p.length = H.length) (hnd : p.Nodup)
  (hH0 : ∀ (i b : Nat), p[i]? = some b → ∃ o, H[i]? = some o ∧ plO o = true ∧ ObBl H.length o ∧ σ[b]? = some (renO (piF p σ.length) o)) (ha : ∀ c ∈ args, Bl H.length c) (hg : ∀ g c, eget gl g = some c → Cl c)
  (hK : ∀ v H', K v H' → H.length ≤ H'.length ∧ (∀ o ∈ H', plD o = true) ∧ K' (ren (piF p σ.length) v) (putAll σ p (H'.map (renO (piF p σ.length))))) : ICalls P gl f (renL (piF p σ.length) args) σ K' := by
 refine ⟨h.1, fun μ F w vs hH hv hgl => ?_⟩
 have hplt : ∀ b ∈ p, b < σ.length := fun b hb => by
  obtain ⟨i, hi⟩ := List.getElem?_of_mem hb
  obtain ⟨o, _, _, _, h4⟩ := hH0 i b hi
  exact (List.getElem?_eq_some_iff.1 h4).1
 generalize hm : σ.length = m at *
 generalize hπ : piF p m = π at *
 have inv : ∀ i, piI p m (π i) = some i := fun i => by rw [← hπ]; exact piI_piF hnd hplt i
 have inv' : ∀ {b i}, piI p m b = some i → b = π i := fun h => by rw [← hπ]; exact (piF_piI h).symm
 have hinj : ∀ {i j}, π i = π j → i = j := fun {i j} e => by have h1 := inv i; rw [e, inv j] at h1; exact (Option.some.inj h1).symm
 have hpi : ∀ {i}, i < H.length → p[i]? = some (π i) := fun {i} hi => by
  have h1 : p[i]? = some (p[i]'(by omega)) := List.getElem?_eq_getElem (by omega)
  rw [← hπ, piF, h1]
 generalize hn : H.length = n at *
 let μs := μ.pull π n
 let oth : Nat → Prop := fun g => g < w.heap.size ∧ ∀ i off, i < n → μ.u (π i) → μ.pl (π i) ≠ .at_ g off
 let Fs : Fz := ⟨F.f, fun g => F.u g ∨ oth g, fun g h => .inl (F.sub g h)⟩
 have lift : ∀ {v : Value} {c : IV}, Bl n c → VR μ F w v (ren π c) → VR μs Fs w v c := fun hb hv => VR.mono (μ := μs) (F := F) (F' := Fs) (w := w) (Mu.le_refl _) (fun _ h => h) (fun _ _ => rfl) (VR.pull hb hv)
 have hHs : HR μs Fs H w := by
  refine ⟨fun b hu => ?_, fun b o ho => ?_, fun b b' g off off' h1 h2 e1 e2 => hinj (hH.inj _ _ g off off' h1.2 h2.2 e1 e2), fun b g off hu e hg' => ?_, fun b g off hu e => hH.lt _ g off hu.2 e, fun g hg' => ?_, fun b b' l r r' e e' h1 h2 => ?_, fun x b es cur todo o h1 h2 => ?_⟩
  ·obtain ⟨o, h1, h2, _⟩ := hH0 b _ (hpi hu.1)
   exact ⟨o, h1, by cases o <;> first | rfl | simp [plO] at h2⟩
  ·have hb : b < n := by rw [← hn]; exact (List.getElem?_eq_some_iff.1 ho).1
   obtain ⟨o', h1, h2, h3, h4⟩ := hH0 b _ (hpi hb)
   rw [ho] at h1; cases h1
   have hob := hH.obj _ _ h4
   cases o with
   | rows s rs =>
    simp only [renO] at hob
    obtain ⟨k1, k2, k3, k4, k5, k6⟩ := hob
    refine ⟨⟨hb, k1⟩, k2, k3, by rw [renLL_length] at k4; exact k4, fun i row e => by have := k5 i _ (getElem?_renLL e); rwa [renL_length] at this, ?_⟩
    rcases k6 with ⟨k6, k7⟩ | ⟨g, off, cs, T, q1, q2, q3, q4, q5⟩
    ·exact .inl ⟨k6, List.eq_nil_of_length_eq_zero (by rw [← renLL_length (π := π), k7]; rfl)⟩
    ·exact .inr ⟨g, off, cs, T, q1, q2, by rw [renLL_length] at q3; exact q3, q4, fun i row j c e1 e2 => let ⟨v, v1, v2⟩ := q5 i _ j _ (getElem?_renLL e1) (getElem?_renL e2); ⟨v, v1, lift (h3 row (List.mem_of_getElem? e1) c (List.mem_of_getElem? e2)) v2⟩⟩
   | map es =>
    simp only [renO] at hob
    obtain ⟨k1, k2, g, es', cl, q1, q2, q3, q4⟩ := hob
    refine ⟨⟨hb, k1⟩, k2, g, es', cl, q1, q2, ⟨by rw [q3.1, renM, List.length_map], fun j e pr r1 r2 => ?_⟩, q4⟩
    have := q3.2 j e (ren π pr.1, ren π pr.2) r1 (by rw [renM, List.getElem?_map, r2]; rfl)
    have hbl := h3 pr (List.mem_of_getElem? r2)
    exact ⟨lift hbl.1 this.1, lift hbl.2 this.2⟩
   | _ => simp [plO] at h2
  ·rcases hg' with hg' | hg'
   ·exact hH.fro _ g off hu.2 e hg'
   ·exact hg'.2 b off hu.1 hu.2 e
  ·exact hg'.elim (hH.flt g) fun h => h.1
  ·have hb : b < n := by rw [← hn]; exact (List.getElem?_eq_some_iff.1 h1).1
   obtain ⟨o', k1, k2, _⟩ := hH0 b _ (hpi hb)
   rw [h1] at k1; cases k1; simp [plO] at k2
  ·have hb : x < n := by rw [← hn]; exact (List.getElem?_eq_some_iff.1 h1).1
   obtain ⟨o', k1, k2, _⟩ := hH0 x _ (hpi hb)
   rw [h1] at k1; cases k1; simp [plO] at k2
 have hvs : VRs μs Fs w vs args := ⟨by rw [hv.1, renL_length], fun j v c e1 e2 => lift (ha c (List.mem_of_getElem? e2)) (hv.2 j v _ e1 (getElem?_renL e2))⟩
 have hgls : ∀ (g : Nat) (c : IV), eget gl g = some c → VR μs Fs w (.pointer (some ⟨g, 0, Option.none⟩)) c := fun g c hc => Cl.vr (F := F) (F' := Fs) (fun g h => h) (fun _ _ => rfl) (hgl g c hc) (hg g c hc)
 refine (h.2 μs Fs w vs hHs hvs hgls).mono ?_
 rintro e w' ⟨v, r, H', μ1, F1, rfl, hKr, hvr, hH1, hX⟩
 obtain ⟨hlen, hpl, hk⟩ := hK r H' hKr
 let μ' : Mu := ⟨fun b => match piI p m b with | some i => μ1.u i | none => μ.u b, fun b => match piI p m b with | some i => μ1.sz i | none => μ.sz b, fun b => match piI p m b with | some i => μ1.len i | none => μ.len b,
  fun b => match piI p m b with | some i => μ1.cp i | none => μ.cp b, fun b => match piI p m b with | some i => μ1.pl i | none => μ.pl b⟩
 let F' : Fz := ⟨F1.f, fun g => F.u g ∨ F1.f g, fun g h => .inr h⟩
 have some' : ∀ {b i}, piI p m b = some i → (μ'.u b ↔ μ1.u i) ∧ μ'.sz b = μ1.sz i ∧ μ'.len b = μ1.len i ∧ μ'.cp b = μ1.cp i ∧ μ'.pl b = μ1.pl i := fun e => by simp only [μ', e]; simp
 have none' : ∀ {b}, piI p m b = none → (μ'.u b ↔ μ.u b) ∧ μ'.sz b = μ.sz b ∧ μ'.len b = μ.len b ∧ μ'.cp b = μ.cp b ∧ μ'.pl b = μ.pl b := fun e => by simp only [μ', e]; simp
 have ult : ∀ {b}, μ.u b → b < m := fun hu => by obtain ⟨o, h1, _⟩ := hH.n _ hu; rw [← hm]; exact (List.getElem?_eq_some_iff.1 h1).1
 have olt : ∀ {b i}, μ.u b → piI p m b = some i → i < n := fun {b i} hu e => by
  have h1 := ult hu
  have h2 := piF_piI e
  unfold piF at h2
  cases h3 : p[i]? with
  | some x => rw [← hp]; exact (List.getElem?_eq_some_iff.1 h3).1
  | none => rw [h3] at h2; simp only at h2; omega
 have hle : μ.le μ' := fun b hu => by
  cases e : piI p m b with
  | none => obtain ⟨h1, h2, h3, h4, h5⟩ := none' e; exact ⟨h1.2 hu, h2, by omega, fun _ => .inl ⟨h5, h4⟩, fun _ => h3.symm⟩
  | some i =>
   obtain ⟨h1, h2, h3, h4, h5⟩ := some' e
   have hb := inv' e
   have hin := olt hu e
   obtain ⟨k1, k2, k3, k4, k5⟩ := hX.mu i ⟨hin, by rw [← hb]; exact hu⟩
   simp only [μs, Mu.pull, ← hb] at k2 k3 k4 k5
   refine ⟨h1.2 k1, by rw [h2, k2], by rw [h3]; exact k3, fun e2 => ?_, fun e2 => by rw [h3]; exact k5 e2⟩
   rw [h3] at e2
   rcases k4 e2 with ⟨k6, k7⟩ | k6
   ·exact .inl ⟨by rw [h5, k6], by rw [h4, k7]⟩
   ·exact .inr (by rw [h5, k6])
 have push : ∀ {v : Value} {c : IV}, VR μ1 F1 w' v c → VR μ' F' w' v (ren π c) := fun hv => VR.push (F := F1) (F' := F') (fun b hu => by
  obtain ⟨h1, h2, h3, h4, h5⟩ := some' (inv b); exact ⟨h1.2 hu, h2, h3, h4, h5⟩) (fun _ h => h) hv
 have keep : ∀ {v : Value} {c : IV}, VR μ F w v c → VR μ' F' w' v c := fun hv => VR.mono (F := F) (F' := F') hle (fun g h => hX.fr g h) (fun g hg => hX.same g (.inl (F.sub g hg))) hv
 have isoth : ∀ {b g off}, piI p m b = none → μ.u b → μ.pl b = .at_ g off → oth g := fun {b g off} e hu e2 => ⟨hH.lt b g off hu e2, fun i off' hi hu' e3 => by
  have := hH.inj b (π i) g off off' hu hu' e2 e3
  rw [this, inv i] at e; cases e⟩
 have osame : ∀ {g}, oth g → w'.heap[g]? = w.heap[g]? := fun h => hX.same _ (.inr h)
 have oF1 : ∀ {g}, oth g → F1.u g := fun h => hX.fu _ (.inr h)
 have onF : ∀ {g}, oth g → ¬ F.u g → ¬ F'.u g := fun {g} h hn hu => by
  rcases hu with hu | hu
  ·exact hn hu
  ·rcases hX.new g hu with h1 | h1
   ·exact hn (F.sub g h1)
   ·exact h1 (.inr h)
 have get : ∀ b, (putAll σ p (H'.map (renO π)))[b]? = match piI p m b with | some i => (H'.map (renO π))[i]? | none => σ[b]? := fun b => by
  rw [putAll_get hnd (fun b hb => by rw [hm]; exact hplt b hb) (by simp; omega), hm]
 have hH' : HR μ' F' (putAll σ p (H'.map (renO π))) w' := by
  refine ⟨fun b hu => ?_, fun b o ho => ?_, fun b b' g off off' h1 h2 e1 e2 => ?_, fun b g off hu e2 hg' => ?_, fun b g off hu e2 => ?_, fun g hg' => ?_, fun b b' l r r' e e' h1 h2 => ?_, fun x b es cur todo o h1 h2 => ?_⟩
  ·rw [get]
   cases e : piI p m b with
   | none => exact hH.n b ((none' e).1.1 hu)
   | some i =>
    obtain ⟨o, h1, h2⟩ := hH1.n i ((some' e).1.1 hu)
    exact ⟨renO π o, by simp [h1], renO_pl (hpl o (List.mem_of_getElem? h1))⟩
  ·rw [get] at ho
   cases e : piI p m b with
   | none =>
    rw [e] at ho
    obtain ⟨n1, n2, n3, n4, n5⟩ := none' e
    have hob := hH.obj b o ho
    cases o with
    | rows s rs =>
     obtain ⟨k1, k2, k3, k4, k5, k6⟩ := hob
     refine ⟨n1.2 k1, k2, by rw [n2]; exact k3, by rw [n3]; exact k4, k5, ?_⟩
     rw [n5, n4]
     refine k6.imp (fun h => h) ?_
     rintro ⟨g, off, cs, T, q1, q2, q3, q4, q5⟩
     exact ⟨g, off, cs, T, q1, by rw [osame (isoth e k1 q1)]; exact q2, q3, q4, fun i row j c r1 r2 => let ⟨v, v1, v2⟩ := q5 i row j c r1 r2; ⟨v, v1, keep v2⟩⟩
    | map es =>
     obtain ⟨k1, k2, g, es', cl, q1, q2, q3, q4⟩ := hob
     exact ⟨n1.2 k1, by rw [n2]; exact k2, g, es', cl, by rw [n5]; exact q1, by rw [osame (isoth e k1 q1)]; exact q2, ⟨q3.1, fun j e p r1 r2 => let ⟨v1, v2⟩ := q3.2 j e p r1 r2; ⟨keep v1, keep v2⟩⟩, q4⟩
    | iter b' es cur todo =>
     obtain ⟨k1, k2, g, k3, k4⟩ := hob
     refine ⟨n1.2 k1, by rw [n2]; exact k2, g, by rw [n5]; exact k3, k4.mono keep (fun g h => hX.fr g h) (fun g hg => hX.same g (.inl (F.sub g hg))) (osame (isoth e k1 k3)) fun b'' e2 hu => ?_⟩
     subst e2
     have enone : piI p m b'' = none := by
      cases e3 : piI p m b'' with
      | none => rfl
      | some i =>
       have hi := olt hu e3
       have hb := inv' e3
       obtain ⟨o, h1, h2, h3, h4⟩ := hH0 i _ (hpi hi)
       rw [← hb] at h4
       have := hH.itd b b'' es cur todo _ ho h4
       cases o <;> first | (simp [renO] at this; done) | (simp [plO] at h2; done)
     obtain ⟨m1, m2, m3, m4, m5⟩ := none' enone
     exact ⟨m1.2 hu, m2, m5, fun gm off hp' => osame (isoth enone hu hp')⟩
    | yrec l r e' =>
     obtain ⟨k1, k2, k3, k4, k5⟩ := hob
     have hl : oth l := ⟨(Array.getElem?_eq_some_iff.1 k4).1, fun i off hi hu e2 => k3 _ off hu e2⟩
     refine ⟨fun hu => k1 (n1.1 hu), onF hl k2, fun b' off hu e2 => ?_, (osame hl).trans k4, ⟨k5.size, fun t c hc => let ⟨v, v1, v2⟩ := k5.slot t c hc; ⟨v, v1, keep v2⟩, fun g c hc => keep (k5.glob g c hc)⟩⟩
     cases e3 : piI p m b' with
     | none => obtain ⟨m1, m2, m3, m4, m5⟩ := none' e3; exact k3 b' off (m1.1 hu) (by rw [← m5]; exact e2)
     | some i => obtain ⟨m1, m2, m3, m4, m5⟩ := some' e3; exact hH1.fro i l off (m1.1 hu) (by rw [← m5]; exact e2) (oF1 hl)
    | dead => trivial
    | hole => trivial
   | some i =>
    rw [e] at ho
    obtain ⟨n1, n2, n3, n4, n5⟩ := some' e
    simp only [List.getElem?_map, Option.map_eq_some_iff] at ho
    obtain ⟨o0, h1, rfl⟩ := ho
    have hob := hH1.obj i o0 h1
    have hplo := hpl o0 (List.mem_of_getElem? h1)
    cases o0 with
    | rows s rs =>
     obtain ⟨k1, k2, k3, k4, k5, k6⟩ := hob
     refine ⟨n1.2 k1, k2, by rw [n2]; exact k3, by rw [n3, renLL_length]; exact k4, fun i row e => ?_, ?_⟩
     ·obtain ⟨r0, q1, rfl⟩ := getElem?_renLL' e; rw [renL_length]; exact k5 i _ q1
     rw [n5, n4]
     rcases k6 with ⟨k6, k7⟩ | ⟨g, off, cs, T, q1, q2, q3, q4, q5⟩
     ·exact .inl ⟨k6, by rw [k7]; simp [renLL]⟩
     ·refine .inr ⟨g, off, cs, T, q1, q2, by rw [renLL_length]; exact q3, q4, fun i row j c r1 r2 => ?_⟩
      obtain ⟨r0, s1, rfl⟩ := getElem?_renLL' r1
      obtain ⟨c0, s2, rfl⟩ := getElem?_renL' r2
      obtain ⟨v, v1, v2⟩ := q5 i r0 j c0 s1 s2
      exact ⟨v, v1, push v2⟩
    | map es =>
     obtain ⟨k1, k2, g, es', cl, q1, q2, q3, q4⟩ := hob
     refine ⟨n1.2 k1, by rw [n2]; exact k2, g, es', cl, by rw [n5]; exact q1, q2, ⟨by rw [q3.1, renM, List.length_map], fun j e pr r1 r2 => ?_⟩, q4⟩
     simp only [renM, List.getElem?_map, Option.map_eq_some_iff] at r2
     obtain ⟨pr0, s1, rfl⟩ := r2
     obtain ⟨v1, v2⟩ := q3.2 j e pr0 r1 s1
     exact ⟨push v1, push v2⟩
    | dead => trivial
    | _ => simp [plD] at hplo
  ·cases e : piI p m b with
   | none =>
    obtain ⟨m1, m2, m3, m4, m5⟩ := none' e
    rw [m5] at e1
    cases e' : piI p m b' with
    | none => obtain ⟨k1, k2, k3, k4, k5⟩ := none' e'; rw [k5] at e2; exact hH.inj b b' g off off' (m1.1 h1) (k1.1 h2) e1 e2
    | some i => obtain ⟨k1, k2, k3, k4, k5⟩ := some' e'; rw [k5] at e2; exact absurd (oF1 (isoth e (m1.1 h1) e1)) (hH1.fro i g off' (k1.1 h2) e2)
   | some i =>
    obtain ⟨m1, m2, m3, m4, m5⟩ := some' e
    rw [m5] at e1
    cases e' : piI p m b' with
    | none => obtain ⟨k1, k2, k3, k4, k5⟩ := none' e'; rw [k5] at e2; exact absurd (oF1 (isoth e' (k1.1 h2) e2)) (hH1.fro i g off (m1.1 h1) e1)
    | some j => obtain ⟨k1, k2, k3, k4, k5⟩ := some' e'; rw [k5] at e2; rw [inv' e, inv' e', hH1.inj i j g off off' (m1.1 h1) (k1.1 h2) e1 e2]
  ·cases e : piI p m b with
   | none =>
    obtain ⟨m1, m2, m3, m4, m5⟩ := none' e
    rw [m5] at e2
    exact onF (isoth e (m1.1 hu) e2) (hH.fro b g off (m1.1 hu) e2) hg'
   | some i =>
    obtain ⟨m1, m2, m3, m4, m5⟩ := some' e
    rw [m5] at e2
    exact hH1.fro i g off (m1.1 hu) e2 (hg'.elim (fun h => hX.fu g (.inl h)) (F1.sub g))
  ·cases e : piI p m b with
   | none => obtain ⟨m1, m2, m3, m4, m5⟩ := none' e; rw [m5] at e2; exact Nat.lt_of_lt_of_le (hH.lt b g off (m1.1 hu) e2) hX.size
   | some i => obtain ⟨m1, m2, m3, m4, m5⟩ := some' e; rw [m5] at e2; exact hH1.lt i g off (m1.1 hu) e2
  ·exact hg'.elim (fun h => Nat.lt_of_lt_of_le (hH.flt g h) hX.size) fun h => hH1.flt g (F1.sub g h)
  ·have key : ∀ {z : Nat} {r : Loop} {e : Env}, (putAll σ p (H'.map (renO π)))[z]? = some (.yrec l r e) → σ[z]? = some (.yrec l r e) := fun {z r e} h => by
    rw [get] at h
    cases e3 : piI p m z with
    | none => rw [e3] at h; exact h
    | some i =>
     rw [e3] at h
     simp only [List.getElem?_map, Option.map_eq_some_iff] at h
     obtain ⟨o0, q1, q2⟩ := h
     have := hpl o0 (List.mem_of_getElem? q1)
     cases o0 <;> first | (simp [renO] at q2; done) | (simp [plD] at this; done)
   exact hH.yin b b' l r r' e e' (key h1) (key h2)
  ·have key : σ[x]? = some (.iter (some b) es cur todo) := by
    rw [get] at h1
    cases e3 : piI p m x with
    | none => rw [e3] at h1; exact h1
    | some i =>
     rw [e3] at h1
     simp only [List.getElem?_map, Option.map_eq_some_iff] at h1
     obtain ⟨o0, q1, q2⟩ := h1
     have := hpl o0 (List.mem_of_getElem? q1)
     cases o0 <;> first | (simp [renO] at q2; done) | (simp [plD] at this; done)
   have hu : μ.u b := by obtain ⟨_, _, g, _, k⟩ := hH.obj x _ key; exact k.1
   rw [get] at h2
   cases e3 : piI p m b with
   | none => rw [e3] at h2; exact hH.itd x b es cur todo o key h2
   | some i =>
    have hi := olt hu e3
    have hb := inv' e3
    obtain ⟨o', q1, q2, q3, q4⟩ := hH0 i _ (hpi hi)
    rw [← hb] at q4
    have := hH.itd x b es cur todo _ key q4
    cases o' <;> first | (simp [renO] at this; done) | (simp [plO] at q2; done)
 exact ⟨v, ren π r, _, μ', F', rfl, hk, push hvr, hH', ⟨hle, fun g h => hX.fr g h, fun g h => .inl h, fun g hg => hX.same g (.inl hg), hX.size, hX.os, hX.tape, hX.output, fun g hg => (hX.new g hg).imp (fun h => h) fun hn hu => hn (.inl hu)⟩⟩
def inH (σ : Heap) (π : Nat → Nat) (n : Nat) : List Nat → Heap → Prop
 | [], [] => True
 | b :: p, o :: H => (plO o = true ∧ ObBl n o ∧ σ[b]? = some (renO π o)) ∧ inH σ π n p H
 | _, _ => False
theorem inH_get {n : Nat} : ∀ {p : List Nat} {H : Heap}, inH σ π n p H → p.length = H.length ∧ ∀ (i b : Nat), p[i]? = some b → ∃ o, H[i]? = some o ∧ plO o = true ∧ ObBl n o ∧ σ[b]? = some (renO π o)
 | [], [], _ => ⟨rfl, by simp⟩
 | b :: p, o :: H, h => by
  obtain ⟨h1, h2⟩ := inH_get h.2
  refine ⟨by simp [h1], fun i b' e => ?_⟩
  cases i with
  | zero => simp at e; subst e; exact ⟨o, rfl, h.1⟩
  | succ i => exact h2 i b' (by simpa using e)
 | [], _ :: _, h => h.elim
 | _ :: _, [], h => h.elim
def sideF (σ : Heap) (p : List Nat) (H : Heap) (args args' : List IV) : Prop := p.Nodup ∧ inH σ (piF p σ.length) H.length p H ∧ (∀ c ∈ args, Bl H.length c) ∧ renL (piF p σ.length) args = args'
def outF (σ : Heap) (p : List Nat) (n : Nat) (v : IV) (H : Heap) (K : IV → Heap → Prop) : Prop := n ≤ H.length ∧ (∀ o ∈ H, plD o = true) ∧ K (ren (piF p σ.length) v) (putAll σ p (H.map (renO (piF p σ.length))))
theorem ICalls.atG {gl : List (Nat × IV)} {f : FuncId} {args args' : List IV} {H : Heap} {K K' : IV → Heap → Prop} (p : List Nat) (h : ICalls P gl f args H K) (hs : sideF σ p H args args') (hg : ∀ g c, eget gl g = some c → Cl c)
  (hK : ∀ v H', K v H' → outF σ p H.length v H' K') : ICalls P gl f args' σ K' := by
 obtain ⟨h1, h2, h3, rfl⟩ := hs
 obtain ⟨h4, h5⟩ := inH_get h2
 exact h.frame p h4 h1 h5 h3 hg hK
theorem ICalls.at {gl : List (Nat × IV)} {f : FuncId} {args args' : List IV} {H : Heap} {K K' : IV → Heap → Prop} (p : List Nat) (h : ICalls P gl f args H K) (hs : sideF σ p H args args')
  (hK : ∀ v H', K v H' → outF σ p H.length v H' K') (hg : glCl gl := by first | exact trivial | simp [go_sem]) : ICalls P gl f args' σ K' := h.atG p hs (glCl_get hg) hK
end
section
variable {π : Nat → Nat}
attribute [go_sem] sideF outF inH putAll
@[go_sem] theorem plO_rows {s : Nat} {rs : List (List IV)} : plO (.rows s rs) = true := rfl
@[go_sem] theorem plO_map {es : List (IV × IV)} : plO (.map es) = true := rfl
@[go_sem] theorem plD_rows {s : Nat} {rs : List (List IV)} : plD (.rows s rs) = true := rfl
@[go_sem] theorem plD_map {es : List (IV × IV)} : plD (.map es) = true := rfl
@[go_sem] theorem plD_dead : plD .dead = true := rfl
attribute [go_sem] ren
@[go_sem] theorem renM_nil : renM π [] = [] := _root_.id rfl
theorem renM_cl {es : List (IV × IV)} (h : ∀ e ∈ es, Cl e.1 ∧ Cl e.2) : renM π es = es := by
 unfold renM
 apply List.ext_getElem?
 intro i
 rw [List.getElem?_map]
 cases e : es[i]? with
 | none => rfl
 | some p => obtain ⟨h1, h2⟩ := h p (List.mem_of_getElem? e); simp [h1.ren, h2.ren]
@[go_sem] theorem piF_nil {m b : Nat} : piF [] m b = m + b := by simp [piF]
@[go_sem] theorem piF_zero {p : List Nat} {x m : Nat} : piF (x :: p) m 0 = x := by simp [piF]
@[go_sem] theorem piF_succ {p : List Nat} {x m b : Nat} : piF (x :: p) m (b + 1) = piF p m b := by
 simp only [piF, List.getElem?_cons_succ, List.length_cons]
 cases p[b]? <;> simp
@[go_sem] theorem renL_nil : renL π [] = [] := by simp [renL]
@[go_sem] theorem renL_cons {v : IV} {l : List IV} : renL π (v :: l) = ren π v :: renL π l := by simp [renL]
@[go_sem] theorem renLL_cons {r : List IV} {l : List (List IV)} : renLL π (r :: l) = renL π r :: renLL π l := by simp [renLL]
@[go_sem] theorem renLL_cl {rs : List (List IV)} (h : ClR rs) : renLL π rs = rs := h.ren
@[go_sem] theorem renO_rows {s : Nat} {rs : List (List IV)} : renO π (.rows s rs) = .rows s (renLL π rs) := _root_.id rfl
@[go_sem] theorem renO_map {es : List (IV × IV)} : renO π (.map es) = .map (renM π es) := _root_.id rfl
@[go_sem] theorem renO_dead : renO π .dead = .dead := _root_.id rfl
end
@[go_sem] theorem fgt_id {τ : Heap} : fgt τ τ = True := eq_true (fgt_refl τ)
@[go_sem] theorem okR_cons {fr : Bool} {d : Nat} {h : Heap} {row : List IV} {rs : List (List IV)} : okR fr d h (row :: rs) = ((∀ c ∈ row, frzOK fr d h c) ∧ okR fr d h rs) := by simp [okR]
@[go_sem] theorem frzR_cons {d : Nat} {h : Heap} {row : List IV} {rs : List (List IV)} : frzR d h (row :: rs) = row.map (frzV d h) :: frzR d h rs := by simp [frzR]
@[go_sem] theorem arrR_zero {z o l : Nat} {row : List IV} : arrR z row o l 0 = [] := _root_.id rfl
@[go_sem] theorem arrR_succ {z o l n : Nat} {row : List IV} : arrR z row o l (n + 1) = cut z (o + l * z) row :: arrR z row o (l + 1) n := _root_.id rfl
end Go.Idl
namespace Go.Idl
section
variable {P : Program} {μ : Mu} {F : Fz} {w : World} {σ : Heap}
theorem IWp.seqT {Q : XPost} {e : Env} {c d : Code} {α : Type} (st : α → Env × Heap) (inv : α → Prop)
  (h : yC P c (thenQ (fun e' σ' => ∃ y, ((st y).1.subE e' ∧ fgt (st y).2 σ' ∧ σ.length ≤ (st y).2.length ∧ blS (st y).1 (st y).2) ∧ inv y) Q) e σ)
  (next : ∀ y, inv y → IWp P d Q (st y).1 (st y).2) : IWp P (.seq c d) Q e σ := fun ro μ F a w hR hE hH => by
 refine wpIn_seq (wpIn_mono (yC_sound _ _ _ _ h ro μ F a w hR hE hH) ?_)
 rintro ex a' w' ⟨xe, e', σ', μ', F', h1, h2, h3, h4, h5, h6⟩
 cases xe with
 | normal =>
  cases ex <;> simp only [XExit.rel] at h1
  obtain ⟨y, ⟨hsub, hpre, hb0, hbl⟩, hy⟩ := h2
  obtain ⟨k1, k2⟩ := forget_sound h3 h4 hsub hpre hbl
  have hX := Mu.cut_ext hH h5 hb0
  exact wpIn_mono (next y hy ro _ F' a' w' (hR.ext hX) k1 k2) fun ex a'' w'' h => h.ext k2 hX h6
 | exit i => cases ex <;> simp only [XExit.rel] at h1; exact ⟨.exit i, e', σ', μ', F', h1, h2, h3, h4, h5, h6⟩
 | ret => cases ex <;> simp only [XExit.rel] at h1; exact ⟨.ret, e', σ', μ', F', trivial, h2, h3, h4, h5, h6⟩
end
end Go.Idl
namespace Go.Idl
theorem IFun.of_bodyW {P : Program} {own : Bool} {gl : List (Nat × IV)} {f : FuncId} {fn : Func} {c : Code} {args : List IV} {V : IV → Prop} (x : Bool) (m : Nat) (ex : List Nat) (hf : P.funcs[f]? = some fn) (hb : fn.body = some c)
  (hcall : ∀ (args : Array Value) (w : World), (callFunc f args).run P w = .ok (.enter f args) w) (hn : Nat.ble args.length fn.ntmps = true)
  (h : ∀ R : IV → Heap → Prop, (∀ r σ v, V v → frzOK (!own) 4 σ r ∧ nz 4 (frzV 4 σ r) v → R r σ) → IWp P c (retQ P fn.results.toList R) ⟨x, fn.ntmps, m, ex, gl, enum 0 args, []⟩ []) : IFun own P gl f args V :=
 ICalls.of_body x m ex hf hb hcall hn (h _ fun r σ v hv hk => ⟨v, nz_fr 4 (frz_fr 4 σ r hk.1) hk.2, hv⟩)
end Go.Idl
