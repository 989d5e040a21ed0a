/-
  Loops over functions: a round, and the loop.
-/
import Derived.Test.YtpfpgkopbokfgaaDoorIdlU
import Derived.RangeFuncNested
namespace Go.Idl
set_option linter.all false
open Go.RowKit

section
variable {P : Program} {μ : Mu} {F : Fz} {w : World} {σ : Heap} {Q : XPost}

/-- Two worlds that differ at one block alone. -/
structure Pokes (w : World) (l : Nat) (w' : World) : Prop where
  size : w'.heap.size = w.heap.size
  os : w'.os = w.os
  tape : w'.tape = w.tape
  output : w'.output = w.output
  same : ∀ g, g ≠ l → w'.heap[g]? = w.heap[g]?

theorem Pokes.refl (w : World) (l : Nat) : Pokes w l w := ⟨rfl, rfl, rfl, rfl, fun _ _ => rfl⟩
theorem Pokes.put (w : World) (l : Nat) (o : Obj) : Pokes w l (w.putObj l o) := ⟨World.putObj_size, rfl, rfl, rfl, fun _ h => World.putObj_heap_other h⟩

theorem Pokes.vr {w' : World} {l : Nat} (h : Pokes w l w') (hl : ¬ F.f l) {v : Value} {c : IV} (hv : VR μ F w v c) : VR μ F w' v c :=
  hv.mono (Mu.le_refl _) (fun _ h => h) fun g hg => h.same g fun e => hl (e ▸ hg)
theorem Pokes.env {w' : World} {l : Nat} (h : Pokes w l w') (hl : ¬ F.f l) {t : Array Value} {e : Env} (hE : EnvR μ F w t e) : EnvR μ F w' t e :=
  ⟨hE.size, fun t c hc => let ⟨v, v1, v2⟩ := hE.slot t c hc; ⟨v, v1, h.vr hl v2⟩, fun g c hc => h.vr hl (hE.glob g c hc)⟩

def Fz.plus (F : Fz) (l : Nat) : Fz := ⟨F.f, fun g => F.u g ∨ g = l, fun g h => .inl (F.sub g h)⟩

theorem Fz.plus_vr {l : Nat} {v : Value} {c : IV} (hv : VR μ F w v c) : VR μ (F.plus l) w v c := hv.mono (F := F) (F' := F.plus l) (Mu.le_refl _) (fun _ h => h) fun _ _ => rfl
theorem Fz.plus_env {l : Nat} {t : Array Value} {e : Env} (hE : EnvR μ F w t e) : EnvR μ (F.plus l) w t e :=
  ⟨hE.size, fun t c hc => let ⟨v, v1, v2⟩ := hE.slot t c hc; ⟨v, v1, Fz.plus_vr v2⟩, fun g c hc => Fz.plus_vr (hE.glob g c hc)⟩

/-- A protected block that holds no cells is turned. -/
theorem HR.poke {l : Nat} {w' : World} (hH : HR μ F σ w) (hu : F.u l) (hf : ¬ F.f l) (hp : Pokes w l w') : HR μ F σ w' := by
  refine ⟨hH.n, fun b o ho => ?_, hH.inj, hH.fro, fun b g off h1 h2 => by rw [hp.size]; exact hH.lt b g off h1 h2, fun g hg => by rw [hp.size]; exact hH.flt g hg, hH.yin, hH.itd⟩
  refine (hH.obj b o ho).mono (Mu.le_refl _) (fun _ h => h) (fun g hg => hp.same g fun e => hf (e ▸ hg)) ⟨rfl, rfl, rfl, rfl, id⟩ (fun g off hu' hpl => hp.same g fun e => hH.fro b g off hu' hpl (e ▸ hu)) (fun l' _ _ _ h1 h2 h3 h4 => ⟨h1, h2, h3, hp.same l' fun e => h2 (e ▸ hu)⟩) fun b' _ _ _ _ hu' => ⟨hu', rfl, rfl, fun gm off hpl => hp.same gm fun e => hH.fro b' gm off hu' hpl (e ▸ hu)⟩

/-- The loop's record is taken out of the ideal heap. -/
theorem HR.strike {b l : Nat} {r : Loop} {e : Env} {o' : IObj} {F' : Fz} {w' : World} (hH : HR μ F σ w) (hb : σ[b]? = some (.yrec l r e)) (ho' : o' = .hole ∨ o' = .dead) (hF : ∀ g, F.f g → F'.f g) (hF' : ∀ g, F'.u g → F.u g ∨ g = l) (hp : Pokes w l w') : HR μ F' (σ.set b o') w' := by
  obtain ⟨y1, y2, y3, y4, y5⟩ := hH.obj b _ hb
  have hlt := (List.getElem?_eq_some_iff.1 hb).1
  have hl := (Array.getElem?_eq_some_iff.1 y4).1
  have hset : ∀ x, x ≠ b → (σ.set b o')[x]? = σ[x]? := fun x hx => List.getElem?_set_ne (Ne.symm hx)
  have hself : (σ.set b o')[b]? = some o' := by simp [hlt]
  have hny : ∀ l r e, o' ≠ .yrec l r e := fun l r e h => by rcases ho' with h' | h' <;> rw [h'] at h <;> cases h
  refine ⟨fun x hx => ?_, fun x o ho => ?_, hH.inj, fun x g off h1 h2 h3 => ?_, fun x g off h1 h2 => by rw [hp.size]; exact hH.lt x g off h1 h2, fun g hg => ?_, fun x y l' r1 r2 e1 e2 hx hy => ?_, fun x y es cur todo o hx hy => ?_⟩
  · have hne : x ≠ b := fun h => y1 (h ▸ hx)
    rw [hset x hne]; exact hH.n x hx
  · by_cases hne : x = b
    · subst hne
      rw [hself] at ho
      simp only [Option.some.injEq] at ho
      subst ho
      rcases ho' with rfl | rfl <;> trivial
    · rw [hset x hne] at ho
      refine (hH.obj x o ho).mono (Mu.le_refl _) hF (fun g hg => hp.same g fun h => y2 (h ▸ F.sub g hg)) ⟨rfl, rfl, rfl, rfl, id⟩ (fun g off hu' hpl => hp.same g fun h => y3 x off hu' (h ▸ hpl)) (fun l' r' e' ho2 h1 h2 h3 h4 => ?_) fun b' _ _ _ _ hu' => ⟨hu', rfl, rfl, fun gm off hpl => hp.same gm fun h => y3 b' off hu' (h ▸ hpl)⟩
      have hll : l' ≠ l := fun h => by subst h; rw [ho2] at ho; exact hne (hH.yin x b l' r' r e' e ho hb)
      exact ⟨h1, fun h => (hF' l' h).elim h2 hll, h3, hp.same l' hll⟩
  · rcases hF' g h3 with h | h
    · exact hH.fro x g off h1 h2 h
    · exact y3 x off h1 (h ▸ h2)
  · rw [hp.size]
    rcases hF' g hg with h | h
    · exact hH.flt g h
    · omega
  · have hne : ∀ z r e, (σ.set b o')[z]? = some (.yrec l' r e) → z ≠ b := fun z r e hz h => by
      subst h; rw [hself] at hz; simp only [Option.some.injEq] at hz; exact hny _ _ _ hz
    rw [hset x (hne x _ _ hx)] at hx
    rw [hset y (hne y _ _ hy)] at hy
    exact hH.yin x y l' r1 r2 e1 e2 hx hy
  · have hxb : x ≠ b := fun h => by subst h; rw [hself] at hx; simp only [Option.some.injEq] at hx; rcases ho' with h' | h' <;> rw [h'] at hx <;> cases hx
    rw [hset x hxb] at hx
    have hyb : y ≠ b := fun h => by
      subst h
      obtain ⟨_, _, _, _, q⟩ := hH.obj x _ hx
      exact y1 q.1
    rw [hset y hyb] at hy
    exact hH.itd x y es cur todo o hx hy

/-- A record is laid into a hole. -/
theorem HR.fill {b l : Nat} {r : Loop} {e : Env} (hH : HR μ F σ w) (hb : σ[b]? = some .hole) (h2 : ¬ F.u l) (h3 : ∀ b' off, μ.u b' → μ.pl b' ≠ .at_ l off) (h4 : w.heap[l]? = some (.loop r)) (h5 : EnvR μ F w r.tmps e)
    (hn : ∀ (b' : Nat) (r' : Loop) (e' : Env), σ[b']? ≠ some (.yrec l r' e')) : HR μ F (σ.set b (.yrec l r e)) w := by
  have hlt := (List.getElem?_eq_some_iff.1 hb).1
  have hset : ∀ x, x ≠ b → (σ.set b (.yrec l r e))[x]? = σ[x]? := fun x hx => List.getElem?_set_ne (Ne.symm hx)
  have hself : (σ.set b (.yrec l r e))[b]? = some (.yrec l r e) := by simp [hlt]
  have hnu : ¬ μ.u b := fun hu => by obtain ⟨o, o1, o2⟩ := hH.n b hu; rw [hb] at o1; cases o1; cases o2
  refine ⟨fun x hx => ?_, fun x o ho => ?_, hH.inj, hH.fro, hH.lt, hH.flt, fun x y l' r1 r2 e1 e2 hx hy => ?_, fun x y es cur todo o hx hy => ?_⟩
  · rw [hset x fun h => hnu (h ▸ hx)]; exact hH.n x hx
  · by_cases hne : x = b
    · subst hne
      rw [hself] at ho
      simp only [Option.some.injEq] at ho
      subst ho
      exact ⟨hnu, h2, h3, h4, h5⟩
    · rw [hset x hne] at ho; exact hH.obj x o ho
  · by_cases hxb : x = b
    · by_cases hyb : y = b
      · rw [hxb, hyb]
      · subst hxb
        rw [hself] at hx; cases hx
        rw [hset y hyb] at hy
        exact absurd hy (hn y r2 e2)
    · rw [hset x hxb] at hx
      by_cases hyb : y = b
      · subst hyb
        rw [hself] at hy; cases hy
        exact absurd hx (hn x r1 e1)
      · rw [hset y hyb] at hy
        exact hH.yin x y l' r1 r2 e1 e2 hx hy
  · have hxb : x ≠ b := fun h => by subst h; rw [hself] at hx; cases hx
    rw [hset x hxb] at hx
    have hyb : y ≠ b := fun h => by
      subst h
      obtain ⟨_, _, _, _, q⟩ := hH.obj x _ hx
      exact hnu q.1
    rw [hset y hyb] at hy
    exact hH.itd x y es cur todo o hx hy

def Env.puts (e : Env) : List Tmp → List IV → Env
  | p :: ps, c :: cs => (e.put p c).puts ps cs
  | _, _ => e

theorem EnvR.puts : ∀ (ps : List Tmp) (vs : List Value) (cs : List IV) {t : Array Value} {e : Env}, EnvR μ F w t e → VRs μ F w vs cs → vs.length = ps.length →
    EnvR μ F w ((ps.zip vs).foldl (fun t (p, v) => t.setIfInBounds p v) t) (e.puts ps cs)
  | [], vs, cs, t, e, hE, _, _ => by simpa [Env.puts] using hE
  | p :: ps, [], cs, t, e, hE, _, hl => by simp at hl
  | p :: ps, v :: vs, [], t, e, hE, hv, hl => by have := hv.1; simp at this
  | p :: ps, v :: vs, c :: cs, t, e, hE, hv, hl => by
    simp only [List.zip_cons_cons, List.foldl_cons, Env.puts]
    exact EnvR.puts ps vs cs (hE.put p (hv.2 0 v c rfl rfl)) ⟨by have := hv.1; simpa using this, fun j v c h1 h2 => hv.2 (j + 1) v c (by simpa using h1) (by simpa using h2)⟩ (by simpa using hl)

/-- Where a round ends. -/
def roundQ (b l : Nat) (r : Loop) (e : Env) (R : IV → Heap → Prop) : XPost
  | .normal, _, σ => σ[b]? = some .hole ∧ R (.bool true) (σ.set b (.yrec l r e))
  | .exit i, _, σ => σ[b]? = some .hole ∧ R (.bool false) (σ.set b (.yrec l { r with state := .done, pending := some (.exit i) } e))
  | .ret, _, σ => σ[b]? = some .hole ∧ R (.bool false) (σ.set b (.yrec l { r with state := .done, pending := some .ret } e))

def noQ : XPost := fun _ _ _ => False

/-- **A ROUND**: what a call of yield does, by the walk of the loop's body over the frame as it was at the loop's head. -/
theorem YCalls.round {gl : List (Nat × IV)} {l : Nat} {args : List IV} {R : IV → Heap → Prop} {b : Nat} {r : Loop} {e : Env} (hσ : σ[b]? = some (.yrec l r e)) (hst : r.state = .ready) (hpe : r.pending = none) (hlen : args.length = r.params.size)
    (h : IWp P r.assign (thenQ (IWp P r.body (roundQ b l r e R)) noQ) (e.puts r.params.toList args) (σ.set b .hole)) : YCalls P gl l args σ R := by
  intro μ F w vs hH hv hgl
  obtain ⟨y1, y2, y3, y4, y5⟩ := hH.obj b _ hσ
  have hl := (Array.getElem?_eq_some_iff.1 y4).1
  refine ⟨r.fn, _, r.assign, r.body, run_yield y4 (by simpa using hv.1.trans hlen), ?_⟩
  refine roundIn_of_wpIn (F := Rd none) trivial ?_
  have hH0 : HR μ (F.plus l) (σ.set b .hole) w := hH.strike hσ (.inl rfl) (fun _ h => h) (fun _ h => h) (Pokes.refl w l)
  have hE0 : EnvR μ (F.plus l) w ((r.params.zip vs.toArray).foldl (fun tmps (t, a) => tmps.setIfInBounds t a) r.tmps) (e.puts r.params.toList args) := by
    have := EnvR.puts r.params.toList vs args (Fz.plus_env (l := l) y5) ⟨hv.1, fun j v c h1 h2 => Fz.plus_vr (hv.2 j v c h1 h2)⟩ (by simpa using hv.1.trans hlen)
    rw [← Array.foldl_toList, Array.toList_zip]
    exact this
  refine wpIn_mono (h (some l) μ (F.plus l) ⟨_, []⟩ w ⟨.inr rfl, r, y4⟩ hE0 hH0) ?_
  rintro ex a1 w1 ⟨xe, e1, σ1, μ1, F1, k1, k2, k3, k4, k5, k6⟩
  cases xe with
  | exit i => exact k2.elim
  | ret => exact k2.elim
  | normal =>
    cases ex <;> simp only [XExit.rel] at k1
    have hl1 : w1.heap[l]? = some (.loop r) := (k5.same l (.inr rfl)).trans y4
    have hu1 : F1.u l := k5.fu l (.inr rfl)
    have hf1 : ¬ F1.f l := fun h => (k5.new l h).elim (fun h => y2 (F.sub l h)) fun h => h (.inr rfl)
    refine ⟨_, run_beginRound hl1 hst, ?_⟩
    have hp := Pokes.put w1 l (.loop { r with state := .busy })
    have hlt1 := (Array.getElem?_eq_some_iff.1 hl1).1
    have hl2 : (w1.putObj l (.loop { r with state := .busy })).heap[l]? = some (.loop { r with state := .busy }) := World.putObj_heap_same hlt1
    have k2 : IWp P r.body (roundQ b l r e R) e1 σ1 := k2
    have hX2 : Ext μ (F.plus l) w μ1 F1 w1 := k5
    refine wpIn_mono (k2 (some l) μ1 F1 a1 _ ⟨hu1, _, hl2⟩ (hp.env hf1 k3) (k4.poke hu1 hf1 hp)) ?_
    rintro ex a2 w2 ⟨xe, e2, σ2, μ2, F2, q1, q2, q3, q4, q5, q6⟩
    have hl3 : w2.heap[l]? = some (.loop { r with state := .busy }) := (q5.same l hu1).trans hl2
    have hlt3 := (Array.getElem?_eq_some_iff.1 hl3).1
    have hpl : (w1.putObj l (.loop { r with state := .busy })).heap.size = w1.heap.size := World.putObj_size
    -- the record's own turn is behind us: from w on all else goes as it goes
    have fin : ∀ (ok : Bool) (r' : Loop), r'.tmps = r.tmps → σ2[b]? = some .hole → R (.bool ok) (σ2.set b (.yrec l r' e)) →
        ∃ v r σ' μ' F', Ending.returned (.bool ok) = .returned v ∧ R r σ' ∧ VR μ' F' (w2.putObj l (.loop r')) v r ∧ HR μ' F' σ' (w2.putObj l (.loop r')) ∧ Ext μ F w μ' F' (w2.putObj l (.loop r')) := by
      intro ok r' hr' hhole hR
      have hu2 : F2.u l := q5.fu l hu1
      have hf2 : ¬ F2.f l := fun h => (q5.new l h).elim hf1 fun h => h hu1
      have hd : Drops F2 w2 [l] (w2.putObj l (.loop r')) := ⟨World.putObj_size, rfl, rfl, rfl, fun g hg => World.putObj_heap_other (by simpa using hg), fun D hD => by simp at hD; subst hD; exact hf2⟩
      have hne : ∀ g, F.u g → g ∉ [l] := fun g hg h => by simp at h; subst h; exact y2 hg
      have hH2 := hd.hr (fun D hD => by simp at hD; subst hD; exact hu2) q4
      have hmono : ∀ {v : Value} {c : IV}, VR μ F w v c → VR μ2 F2 w2 v c := fun hv => q5.vr (hp.vr hf1 (k5.vr (Fz.plus_vr hv)))
      have hE2 : EnvR μ2 F2 w2 r.tmps e := ⟨y5.size, fun t c hc => let ⟨v, v1, v2⟩ := y5.slot t c hc; ⟨v, v1, hmono v2⟩, fun g c hc => hmono (y5.glob g c hc)⟩
      refine ⟨_, .bool ok, _, μ2, F2.less [l], rfl, hR, .bool _, hH2.fill hhole (fun h => h.2 (by simp)) (fun b' off h1 h2 => q4.fro b' l off h1 h2 hu2) (World.putObj_heap_same hlt3) (by rw [hr']; exact hd.env hE2) (fun b' r2 e2 hb' => (q4.obj b' _ hb').2.1 hu2), ?_⟩
      refine ⟨Mu.le_trans k5.mu q5.mu, fun g hg => ⟨q5.fr g (k5.fr g hg), hne g (F.sub g hg)⟩, fun g hg => ⟨q5.fu g (k5.fu g (.inl hg)), hne g hg⟩, fun g hg => ?_, ?_, ?_, ?_, ?_, fun g hg => ?_⟩
      · have hgl : g ≠ l := fun h => y2 (h ▸ hg)
        exact (hd.same g (hne g hg)).trans ((q5.same g (k5.fu g (.inl hg))).trans ((hp.same g hgl).trans (k5.same g (.inl hg))))
      · rw [hd.size]; exact Nat.le_trans k5.size (by rw [← hpl]; exact q5.size)
      · exact hd.os.trans (q5.os.trans (hp.os.trans k5.os))
      · exact hd.tape.trans (q5.tape.trans (hp.tape.trans k5.tape))
      · exact hd.output.trans (q5.output.trans (hp.output.trans k5.output))
      · rcases q5.new g hg.1 with h | h
        · exact (k5.new g h).imp _root_.id fun h hu => h (.inl hu)
        · exact .inr fun hu => h (k5.fu g (.inl hu))
    have hrr : ({ r with state := .ready, pending := none } : Loop) = r := by
      obtain ⟨st, pe, _⟩ := r
      simp only at hst hpe
      subst hst; subst hpe; rfl
    cases xe with
    | normal =>
      cases ex <;> simp only [XExit.rel] at q1
      refine ⟨_, _, run_endRound none hl3, ?_⟩
      have := fin true r rfl q2.1 q2.2
      simp only [Option.isNone_none, if_true]
      show ∃ v r σ' μ' F', _
      rw [show ({ r with state := .ready, pending := none } : Loop) = r from hrr]
      exact this
    | exit i =>
      cases ex <;> simp only [XExit.rel] at q1
      subst q1
      exact ⟨_, _, run_endRound _ hl3, fin false _ rfl q2.1 q2.2⟩
    | ret =>
      cases ex <;> simp only [XExit.rel] at q1
      exact ⟨_, _, run_endRound _ hl3, fin false _ rfl q2.1 q2.2⟩

/-- What comes behind a loop over a function. -/
def jumpQ (Q : XPost) (e : Env) (σ : Heap) : Option Code → Prop
  | none => Q .normal e σ
  | some (.exit i) => Q (.exit i) e σ
  | some .ret => Q .ret e σ
  | _ => False

theorem HR.hole (hH : HR μ F σ w) : HR μ F (σ ++ [IObj.hole]) w := by
  have hlt : ∀ (b : Nat) (o : IObj), (σ ++ [IObj.hole])[b]? = some o → σ[b]? = some o ∨ o = IObj.hole := fun b o h => by
    rw [List.getElem?_append] at h
    split at h
    · exact .inl h
    · exact .inr (by simpa using List.mem_of_getElem? h)
  refine ⟨fun b hu => ?_, fun b o ho => ?_, hH.inj, hH.fro, hH.lt, hH.flt, fun b b' l r r' e e' h1 h2 => ?_, fun x b es cur todo o h1 h2 => ?_⟩
  · obtain ⟨o, h1, h2⟩ := hH.n b hu
    exact ⟨o, by rw [List.getElem?_append_left (List.getElem?_eq_some_iff.1 h1).1]; exact h1, h2⟩
  · rcases hlt b o ho with h | h
    · exact hH.obj b o h
    · subst h; trivial
  · rcases hlt b _ h1 with h1 | h1
    · rcases hlt b' _ h2 with h2 | h2
      · exact hH.yin b b' l r r' e e' h1 h2
      · cases h2
    · cases h1
  · rcases hlt x _ h1 with h1 | h1
    · rcases hlt b _ h2 with h3 | h3
      · exact hH.itd x b es cur todo o h1 h3
      · subst h3
        exfalso
        obtain ⟨_, _, _, _, q⟩ := hH.obj x _ h1
        obtain ⟨o2, o3, o4⟩ := hH.n b q.1
        rw [List.getElem?_append_left (List.getElem?_eq_some_iff.1 o3).1, o3] at h2
        cases h2; cases o4
    · cases h1

/-- **A LOOP OVER A FUNCTION** that is no method and has its captured variables behind its arguments. -/
theorem IWp.rangeFunc {f : Operand} {ps : Array Tmp} {as body : Code} {e : Env} {g : FuncId} {cap : List IV} (hf : e.opS f = some (.func (.func g) [] cap)) (hw : e.wh f = true)
    (h : ∀ (l : Nat) (r : Loop), r.state = .ready → r.pending = none → r.params = ps → r.assign = as → r.body = body →
      ICalls P e.gl g (.func (.yield l) [] [] :: cap) (σ ++ [.yrec l r e]) fun _ σ' => ∃ r', σ'[σ.length]? = some (.yrec l r' e) ∧ r'.state ≠ .busy ∧ jumpQ Q e (σ'.set σ.length .dead) r'.pending) : IWp P (.rangeFunc f ps as body) Q e σ := by
  intro ro μ F a w hR hE hH
  refine wpIn_rangeFunc fun fn hfn => ?_
  have hv := opS_vr hE hf hw
  generalize hev : a.eval f = fv at hv
  cases hv with
  | func _ fs cs _ _ hfs hcs _ hcv =>
    obtain rfl := List.eq_nil_of_length_eq_zero hfs
    have key : ∀ (l : Nat) (r : Loop) (ms : List Nat) (W1 : World), r.state = .ready → r.pending = none → r.params = ps → r.assign = as → r.body = body → r.tmps = a.tmps → W1.heap[l]? = some (.loop r) → (∀ g, g < w.heap.size → W1.heap[g]? = w.heap[g]?) → w.heap.size ≤ l → w.heap.size ≤ W1.heap.size → W1.os = w.os → W1.tape = w.tape → W1.output = w.output → ms.Nodup →
        (∀ D ∈ ms, w.heap.size ≤ D ∧ D ≠ l ∧ W1.heap[D]? = some (.deferred (some []))) → ∃ (d : Deferred) (w₁' : World) (f' : FuncId) (args : Array Value) (w₂ : World),
          (resolve a.eval (rangeCall f l) 0).run P W1 = .ok d w₁' ∧ (∀ f'', Target.leads P w₁' d.target d.args = some f'' → (Rd ro).fn f'') ∧ (invoke d.target d.args).run P w₁' = .ok (.enter f' args) w₂ ∧ ((Rd ro).depth.isSome = true → 1 ≤ 0) ∧
          CallsIn (Rd ro) (0 - 1) P f' args w₂ (rangePost (Rd ro) 0 P l (IPost Q μ F a w) { a with defers := ms.map markOf ++ a.defers }) := by
      intro l r ms W1 r1 r2 r3 r4 r5 r6 hl hsame hle hsz hos htape hout hnd hms
      have hcalls := h l r r1 r2 r3 r4 r5
      refine ⟨{ target := .fn (.func g) cs.toArray, args := #[.func (.yield l) #[] #[]] }, W1, g, (.func (.yield l) #[] #[] :: cs : List Value).toArray, W1, ?_, fun _ _ => trivial, ?_, fun h => by simp [Rd, Fence.wide] at h, ?_⟩
      · simp only [resolve, hev]
        simp [go_sem]
      · have := hcalls.1 (.func (.yield l) #[] #[] :: cs : List Value).toArray W1
        simp only [invoke]
        rw [← this]
        congr 2
        apply Array.ext'
        simp
      · let F1 : Fz := ⟨F.f, fun g => F.u g ∨ g ∈ ms, fun g h => .inl (F.sub g h)⟩
        have hX1 : ∀ {v : Value} {c : IV}, VR μ F w v c → VR μ F1 W1 v c := fun hv => hv.mono (F := F) (F' := F1) (Mu.le_refl _) (fun _ h => h) fun g hg => hsame g (hH.flt g (F.sub g hg))
        have hE1 : EnvR μ F1 W1 a.tmps e := ⟨hE.size, fun t c hc => let ⟨v, v1, v2⟩ := hE.slot t c hc; ⟨v, v1, hX1 v2⟩, fun g c hc => hX1 (hE.glob g c hc)⟩
        have hH1 : HR μ F1 σ W1 := hH.frame (F' := F1) (fun _ h => h) hsame hsz (fun g hg hnu hu => hu.elim hnu fun hm => by have := (hms g hm).1; omega) fun g hu => hu.elim (fun hu => Nat.lt_of_lt_of_le (hH.flt g hu) hsz) fun hm => (Array.getElem?_eq_some_iff.1 (hms g hm).2.2).1
        have hH2 : HR μ F1 (σ ++ [.yrec l r e]) W1 := by
          have := hH1.hole.fill (b := σ.length) (l := l) (r := r) (e := e) (by simp) (fun hu => hu.elim (fun hu => by have := hH.flt l hu; omega) fun hm => (hms l hm).2.1 rfl) (fun b' off hu hp => by have := hH.lt b' l off hu hp; omega) hl (by rw [r6]; exact hE1) (fun b' r' e' hb' => by
            rw [List.getElem?_append] at hb'
            split at hb'
            · have h4 := (hH.obj b' _ hb').2.2.2.1
              have := (Array.getElem?_eq_some_iff.1 h4).1
              omega
            · have := List.mem_of_getElem? hb'
              simp at this)
          rwa [List.set_append_right _ _ (Nat.le_refl _), Nat.sub_self] at this
        refine (callsIn_wide (n := 0 - 1)).2 ((hcalls.2 μ F1 W1 (.func (.yield l) #[] #[] :: cs) hH2 ⟨by simp [hcs], fun j v c h1 h2 => ?_⟩ fun g c hc => hX1 (hE.glob g c hc)).mono ?_)
        · cases j with
          | zero => simp at h1 h2; subst h1; subst h2; exact .func (.yield l) [] [] [] [] rfl rfl (by simp) (by simp)
          | succ j => exact hX1 (hcv j v c (by simpa using h1) (by simpa using h2))
        rintro en w3 ⟨v, rv, σ', μ', F', rfl, ⟨r', hb, hst, hj⟩, hvr, hH', hX⟩
        obtain ⟨y1, y2, y3, y4, y5⟩ := hH'.obj _ _ hb
        have hp := Pokes.put w3 l (.loop { r' with state := .exhausted })
        have hH4 := hH'.strike (o' := .dead) hb (.inr rfl) (F' := F') (fun _ h => h) (fun _ h => .inl h) hp
        have hfl : ¬ F'.f l := fun h => y2 (F'.sub l h)
        have hE4 : EnvR μ' F' (w3.putObj l (.loop { r' with state := .exhausted })) a.tmps e := hp.env hfl (hX.env hE1)
        have hX4 : Ext μ F w μ' F' (w3.putObj l (.loop { r' with state := .exhausted })) := by
          refine ⟨hX.mu, fun g hg => hX.fr g hg, fun g hg => hX.fu g (.inl hg), fun g hg => ?_, ?_, hp.os.trans (hX.os.trans hos), hp.tape.trans (hX.tape.trans htape), hp.output.trans (hX.output.trans hout), fun g hg => (hX.new g hg).imp _root_.id fun h hu => h (.inl hu)⟩
          · have := hH.flt g hg
            exact (hp.same g (by omega)).trans ((hX.same g (.inl hg)).trans (hsame g this))
          · rw [hp.size]; exact Nat.le_trans hsz hX.size
        have hM : Marks w F' (w3.putObj l (.loop { r' with state := .exhausted })) a.defers (ms.map markOf ++ a.defers) := by
          refine ⟨ms, rfl, hnd, fun D hD => ?_⟩
          obtain ⟨q1, q2, q3⟩ := hms D hD
          refine ⟨q1, hX.fu D (.inr hD), fun hf => ?_, (hp.same D q2).trans ((hX.same D (.inr hD)).trans q3)⟩
          rcases hX.new D hf with h | h
          · have := hH.flt D (F.sub D h); omega
          · exact h (.inr hD)
        refine ⟨_, _, run_endLoop y4 hst, ?_⟩
        generalize w3.putObj l (.loop { r' with state := .exhausted }) = w4 at hE4 hH4 hX4 hM ⊢
        cases hpe : r'.pending with
        | none => rw [hpe] at hj; exact ⟨.normal, e, _, μ', F', trivial, hj, hE4, hH4, hX4, hM⟩
        | some c =>
          rw [hpe] at hj
          simp only
          cases c <;> simp only [jumpQ] at hj
          case exit i => exact wpIn_exit ⟨.exit i, e, _, μ', F', rfl, hj, hE4, hH4, hX4, hM⟩
          case ret => exact wpIn_ret ⟨.ret, e, _, μ', F', trivial, hj, hE4, hH4, hX4, hM⟩
    cases ro with
    | none =>
      have hsz : (w.alloc (.deferred (some []))).heap.size = w.heap.size + 1 := by simp
      obtain ⟨d, w₁', f', args, w₂, k⟩ := key (w.heap.size + 1) { state := .ready, pending := none, fn, tmps := a.tmps, params := ps, assign := as, body, defers := w.heap.size } [w.heap.size]
        ((w.alloc (.deferred (some []))).alloc (.loop { state := .ready, pending := none, fn, tmps := a.tmps, params := ps, assign := as, body, defers := w.heap.size })) rfl rfl rfl rfl rfl rfl
        (by have := World.alloc_heap_new (w.alloc (.deferred (some []))) (.loop { state := .ready, pending := none, fn, tmps := a.tmps, params := ps, assign := as, body, defers := w.heap.size }); rwa [hsz] at this)
        (fun g hg => (Below.heap_alloc _ _ _ (by rw [hsz]; omega)).trans (Below.heap_alloc _ _ _ hg)) (by omega) (by rw [World.size_alloc, hsz]; omega) rfl rfl rfl (by simp)
        (fun D hD => by simp at hD; subst hD; exact ⟨Nat.le_refl _, by omega, (Below.heap_alloc _ _ _ (by simp)).trans (World.alloc_heap_new w _)⟩)
      exact ⟨_, _, _, d, w₁', f', args, w₂, run_enterLoop_outer _ _ _ _ _, k⟩
    | some l0 =>
      obtain ⟨hu0, r0, hr0⟩ := hR
      obtain ⟨d, w₁', f', args, w₂, k⟩ := key w.heap.size { state := .ready, pending := none, fn, tmps := a.tmps, params := ps, assign := as, body, defers := r0.defers } []
        (w.alloc (.loop { state := .ready, pending := none, fn, tmps := a.tmps, params := ps, assign := as, body, defers := r0.defers })) rfl rfl rfl rfl rfl rfl
        (World.alloc_heap_new w _) (fun g hg => Below.heap_alloc _ _ _ hg) (Nat.le_refl _) (by simp) rfl rfl rfl (by simp) (by simp)
      exact ⟨_, _, _, d, w₁', f', args, w₂, run_enterLoop_inner hr0 _ _ _ _ _, k⟩
end
end Go.Idl
