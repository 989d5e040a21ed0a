import Derived.Test.YteedopeniojppaaGreatDoorIdlPartH
set_option linter.all false
namespace Go.Idl
section
variable {P : Program} {μ : Mu} {F : Fz} {w : World} {σ : Heap}
theorem HR.lost {b : Nat} {o : IObj} (hH : HR μ F σ w) (hb : σ[b]? = some o) (hob : ∃ s rs, o = .rows s rs) {w' : World}
  (hsame : ∀ g, g < w.heap.size → (∀ off, μ.pl b ≠ .at_ g off) → w'.heap[g]? = w.heap[g]?) (hsz : w.heap.size ≤ w'.heap.size) : HR (μ.kill b) F (hput σ b .dead) w' := by
 obtain ⟨s0, rs0, rfl⟩ := hob
 have hub : μ.u b := (hH.obj b _ hb).1
 have hF : ∀ g, F.u g → w'.heap[g]? = w.heap[g]? := fun g hg => hsame g (hH.flt g hg) fun off e => hH.fro b g off hub e hg
 have hv : ∀ {v : Value} {c : IV}, VR μ F w v c → VR (μ.kill b) F w' v c := fun h => h.mono (Mu.le_kill μ b) (fun _ h => h) fun g hg => hF g (F.sub g hg)
 have pl : ∀ {x g off}, (μ.kill b).pl x = .at_ g off → x ≠ b ∧ μ.pl x = .at_ g off := fun {x g off} e => by
  simp only [Mu.kill] at e
  by_cases hx : x = b
  ·rw [if_pos hx] at e; cases e
  ·rw [if_neg hx] at e; exact ⟨hx, e⟩
 have plo : ∀ {x}, x ≠ b → (μ.kill b).pl x = μ.pl x := fun {x} hx => by simp [Mu.kill, hx]
 have oth : ∀ {x g off}, x ≠ b → μ.u x → μ.pl x = .at_ g off → w'.heap[g]? = w.heap[g]? := fun {x g off} hx hu e =>
  hsame g (hH.lt x g off hu e) fun off' e' => hx (hH.inj x b g off off' hu hub e e')
 have hbl : b < σ.length := (List.getElem?_eq_some_iff.1 hb).1
 have get : ∀ x, (hput σ b .dead)[x]? = if x = b then some .dead else σ[x]? := fun x => by
  rw [getElem?_hput]
  by_cases h : x = b
  ·rw [if_pos h, if_pos h]
  ·rw [if_neg h, if_neg h]
   by_cases h2 : x < σ.length
   ·rw [if_pos h2]
   ·rw [if_neg h2, if_neg (by omega), List.getElem?_eq_none (by omega)]
 refine ⟨fun x hu => ?_, fun x o' ho' => ?_, fun x y g off off' hx hy ex ey => ?_, fun x g off hx ex hg => ?_, fun x g off hx ex => ?_, fun g hg => ?_, fun x y l r r' e e' hx hy => ?_, fun x y es cur todo o h1 h2 => ?_⟩
 ·rw [get]
  by_cases h : x = b
  ·rw [if_pos h]; exact ⟨.dead, rfl, rfl⟩
  ·rw [if_neg h]; exact hH.n x hu
 ·rw [get] at ho'
  by_cases h : x = b
  ·rw [if_pos h] at ho'; cases ho'; trivial
  ·rw [if_neg h] at ho'
   have hob := hH.obj x o' ho'
   cases o' with
   | rows s rs =>
    obtain ⟨h1, h2, h3, h4, h5, h6⟩ := hob
    refine ⟨h1, h2, h3, h4, h5, ?_⟩
    rw [plo h]
    refine h6.imp (fun h => h) ?_
    rintro ⟨g, off, cs, T, q1, q2, q3, q4, q5⟩
    exact ⟨g, off, cs, T, q1, by rw [oth h h1 q1]; exact q2, q3, q4, fun i row j c r1 r2 => let ⟨v, v1, v2⟩ := q5 i row j c r1 r2; ⟨v, v1, hv v2⟩⟩
   | map es =>
    obtain ⟨h1, h2, g, es', cl, q1, q2, q3, q4⟩ := hob
    exact ⟨h1, h2, g, es', cl, by rw [plo h]; exact q1, by rw [oth h h1 q1]; exact q2, ⟨q3.1, fun j e p r1 r2 => let ⟨v1, v2⟩ := q3.2 j e p r1 r2; ⟨hv v1, hv v2⟩⟩, q4⟩
   | iter b' es cur todo =>
    obtain ⟨h1, h2, g, h3, h4⟩ := hob
    refine ⟨h1, h2, g, by rw [plo h]; exact h3, h4.mono hv (fun _ h => h) (fun g hg => hF g (F.sub g hg)) (oth h h1 h3) fun b'' e hu => ?_⟩
    have hne : b'' ≠ b := fun e2 => by
     subst e2; subst e
     have := hH.itd x b'' es cur todo _ ho' hb
     cases this
    exact ⟨hu, rfl, plo hne, fun gm off hp => oth hne hu hp⟩
   | yrec l r e =>
    obtain ⟨h1, h2, h3, h4, h5⟩ := hob
    have hlt := (Array.getElem?_eq_some_iff.1 h4).1
    refine ⟨h1, h2, fun b' off hu hp => h3 b' off hu (pl hp).2, (hsame l hlt fun off e => h3 b off hub e).trans h4, ⟨h5.size, fun t c hc => let ⟨v, v1, v2⟩ := h5.slot t c hc; ⟨v, v1, hv v2⟩, fun g c hc => hv (h5.glob g c hc)⟩⟩
   | dead => trivial
   | hole => trivial
 ·obtain ⟨a1, a2⟩ := pl ex
  obtain ⟨b1, b2⟩ := pl ey
  exact hH.inj x y g off off' hx hy a2 b2
 ·exact hH.fro x g off hx (pl ex).2 hg
 ·exact Nat.lt_of_lt_of_le (hH.lt x g off hx (pl ex).2) hsz
 ·exact Nat.lt_of_lt_of_le (hH.flt g hg) hsz
 ·rw [get] at hx hy
  by_cases h1 : x = b
  ·rw [if_pos h1] at hx; cases hx
  ·by_cases h2 : y = b
   ·rw [if_pos h2] at hy; cases hy
   ·rw [if_neg h1] at hx; rw [if_neg h2] at hy; exact hH.yin x y l r r' e e' hx hy
 ·rw [get] at h1 h2
  by_cases e1 : x = b
  ·rw [if_pos e1] at h1; cases h1
  ·rw [if_neg e1] at h1
   by_cases e2 : y = b
   ·rw [if_pos e2] at h2; cases h2; rfl
   ·rw [if_neg e2] at h2; exact hH.itd x y es cur todo o h1 h2
theorem ICalls.over {gl : List (Nat × IV)} {f : FuncId} {K : IV → Heap → Prop} {b s tot i len : Nat} {cap : Option Nat} {rs : List (List IV)} (hb : σ[b]? = some (.rows s rs)) (ht : tot = rs.length) (hg : ∀ g c, eget gl g = some c → Cl c)
  (h : ∀ c, len ≤ c → ICalls P gl f [.sl 0 c 0 len (some c)] [.rows s (List.replicate c (List.replicate s .junk))] fun v _ => v = .tup [])
  (hK : K (.tup []) (hput σ b .dead)) : ICalls P gl f [.sl b tot i len cap] σ K := by
 refine ⟨(h len (Nat.le_refl _)).1, fun μ F w vs hH hv hgl => ?_⟩
 obtain ⟨v, rfl⟩ : ∃ v, vs = [v] := by
  match vs, hv.1 with
  | [v], _ => exact ⟨v, rfl⟩
 have hv0 := hv.2 0 v _ rfl rfl
 obtain ⟨hu, hs, hsz, hlen, hrow, hpl⟩ := hH.obj b _ hb
 cases hv0 with
 | sl _ _ _ _ _ _ hk hb' ht' hok =>
 have hok := hok (by omega)
 rw [hsz] at hok
 have key : ∃ (p : Place) (c : Nat), len ≤ c ∧ SlOK p s c 0 len (some c) v ∧ ((p = .empty ∧ c = 0) ∨ ∃ g off off' cs T, p = .at_ g off ∧ μ.pl b = .at_ g off' ∧ w.heap[g]? = some (.cells cs T (0, 0)) ∧ off + c * s ≤ cs.size) := by
  rcases hpl with ⟨e, _⟩ | ⟨g, off, cs, T, e, hg, _, hcs, _⟩
  ·rw [e] at hok
   obtain ⟨e1, e2⟩ := hok
   exact ⟨.empty, 0, by omega, ⟨e1, e2⟩, .inl ⟨rfl, rfl⟩⟩
  ·rw [e] at hok
   obtain ⟨a, c, e1, e2, e3, e4, e5⟩ := hok
   refine ⟨.at_ g (off + i * s), c, e2, ⟨a, c, e1, e2, by omega, ?_, fun c' h => Option.some.inj h⟩, .inr ⟨g, off + i * s, off, cs, T, rfl, e, hg, ?_⟩⟩
   ·rw [Nat.zero_mul, Nat.add_zero]; exact e4
   ·have : (i + c) * s ≤ μ.cp b * s := Nat.mul_le_mul_right s e3
    rw [Nat.add_mul] at this; omega
 obtain ⟨p, c, hlc, hsl, hp⟩ := key
 let μ1 : Mu := ⟨fun x => x = 0, fun _ => s, fun _ => c, fun _ => c, fun _ => p⟩
 let F1 : Fz := ⟨F.f, fun g => F.u g ∨ (g < w.heap.size ∧ ∀ off, μ.pl b ≠ .at_ g off), fun g h => .inl (F.sub g h)⟩
 have hat : ∀ g off, p = .at_ g off → ∃ off', μ.pl b = .at_ g off' := fun g off e => by
  rcases hp with ⟨e1, _⟩ | ⟨g1, off1, off', _, _, e1, e2, _⟩
  ·rw [e1] at e; cases e
  ·rw [e1] at e; cases e; exact ⟨off', e2⟩
 have hH1 : HR μ1 F1 [.rows s (List.replicate c (List.replicate s .junk))] w := by
  refine ⟨fun x hx => by
   obtain rfl : x = 0 := hx
   exact ⟨_, rfl, rfl⟩, fun x o ho => ?_, fun x y g off off' hx hy _ _ => (show x = 0 from hx).trans (show y = 0 from hy).symm, fun x g off hx e hg => ?_, fun x g off hx e => ?_, fun g hg => ?_, fun x y l r r' e e' hx hy => ?_, fun x y es cur todo o h1 h2 => ?_⟩
  ·cases x with
   | succ x => simp at ho
   | zero =>
    simp at ho
    subst ho
    refine ⟨rfl, hs, rfl, by simp [μ1], fun i row hr => ?_, ?_⟩
    ·have := List.mem_of_getElem? hr
     rw [List.mem_replicate] at this
     rw [this.2]; simp
    ·rcases hp with ⟨e1, e2⟩ | ⟨g, off, off', cs, T, e1, e2, e3, e4⟩
     ·exact .inl ⟨e1, by rw [e2]; rfl⟩
     ·refine .inr ⟨g, off, cs, T, e1, e3, by simp [μ1], e4, fun i row j c' hr hc => ?_⟩
      have hi : i < c := by have := (List.getElem?_eq_some_iff.1 hr).1; simpa using this
      have hrw := List.mem_of_getElem? hr
      rw [List.mem_replicate] at hrw
      rw [hrw.2] at hc
      have hj : j < s := by have := (List.getElem?_eq_some_iff.1 hc).1; simpa using this
      have hcj := List.mem_of_getElem? hc
      rw [List.mem_replicate] at hcj
      have : (i + 1) * s ≤ c * s := Nat.mul_le_mul_right s (by omega)
      rw [Nat.add_mul] at this
      rw [hcj.2]
      exact ⟨_, Array.getElem?_eq_getElem (by omega), .junk _⟩
  ·obtain ⟨off', e'⟩ := hat g off e
   rcases hg with hg | ⟨_, hg⟩
   ·exact hH.fro b g off' hu e' hg
   ·exact hg off' e'
  ·obtain ⟨off', e'⟩ := hat g off e
   exact hH.lt b g off' hu e'
  ·exact hg.elim (hH.flt g) fun h => h.1
  ·cases x <;> simp at hx
  ·cases x <;> simp at h1
 have hv1 : VRs μ1 F1 w [v] [.sl 0 c 0 len (some c)] := ⟨rfl, fun j u c' e1 e2 => by
  cases j with
  | succ j => simp at e1
  | zero =>
   simp at e1 e2
   subst e1; subst e2
   exact .sl _ 0 c 0 len (some c) hk rfl (Nat.le_refl _) fun _ => hsl⟩
 have hgl1 : ∀ (g : Nat) (c : IV), eget gl g = some c → VR μ1 F1 w (.pointer (some ⟨g, 0, Option.none⟩)) c := fun g c hc => Cl.vr (F := F) (F' := F1) (fun g h => h) (fun _ _ => rfl) (hgl g c hc) (hg g c hc)
 refine ((h c hlc).2 μ1 F1 w [v] hH1 hv1 hgl1).mono ?_
 rintro e w' ⟨u, r, σ', μ', F', rfl, rfl, hvr, hH2, hX⟩
 refine ⟨u, .tup [], hput σ b .dead, μ.kill b, F, rfl, hK, ?_, hH.lost hb ⟨s, rs, rfl⟩ (fun g hg hn => hX.same g (.inr ⟨hg, hn⟩)) hX.size, ⟨Mu.le_kill μ b, fun _ h => h, fun _ h => h, fun g hg => hX.same g (.inl hg), hX.size, hX.os, hX.tape, hX.output, fun g hg => .inl hg⟩⟩
 cases hvr with
 | tup vs _ hl _ =>
  have : vs = [] := List.eq_nil_of_length_eq_zero (by simpa using hl)
  subst this
  exact .tup [] [] rfl fun j v c h => by simp at h
end
end Go.Idl
