/-
  Chapter 26: what the walks share.
  Package howell (turned from chapter 26).
  Package howell (turned from chapter 26).
  Package howell (turned from chapter 26).
  Package howell (turned from chapter 26).
  Package howell (turned from chapter 26).
  Package howell (turned from chapter 26).
  Package howell (turned from chapter 26).
-/
import Derived.Test.YteedopeniojppaaGreatCtopmPartA
import Derived.Test.YteedopeniojppaaGreatIdlPartG
namespace Go.Idl.How
set_option linter.all false
open Go.Idl
open Go.Proofs

def prs (l : List (Int × Int)) : List (List IV) := mp (fun p => [.int .i64 p.1, .int .i64 p.2]) l
@[simp] theorem prs_length (l : List (Int × Int)) : (prs l).length = l.length := mp_length
theorem prs_at {l : List (Int × Int)} {i : Nat} (h : i < l.length) : (prs l)[i]?.getD [] = [.int .i64 (l[i]).1, .int .i64 (l[i]).2] := mp_at h
@[simp] theorem prs_getElem (l : List (Int × Int)) (i : Nat) (h : i < (prs l).length) : (prs l)[i] = [.int .i64 (l[i]'(by simpa using h)).1, .int .i64 (l[i]'(by simpa using h)).2] := by simp [prs, mp]
theorem prs_snoc {l : List (Int × Int)} {x : Int × Int} : prs (l ++ [x]) = prs l ++ [[.int .i64 x.1, .int .i64 x.2]] := mp_snoc
theorem prs_set {l : List (Int × Int)} {i : Nat} {x : Int × Int} : prs (l.set i x) = (prs l).set i [.int .i64 x.1, .int .i64 x.2] := mp_set
@[go_sem] theorem ScR_prs {l : List (Int × Int)} : ScR (prs l) = True := eq_true (mp_sc (by simp [scal]))
@[go_sem] theorem ClR_prs {l : List (Int × Int)} : ClR (prs l) = True := eq_true (ScR.cl (mp_sc (by simp [scal])))
@[go_sem] theorem BlR_prs {n : Nat} {l : List (Int × Int)} : BlR n (prs l) = True := eq_true (ScR.bl (mp_sc (by simp [scal])))
theorem prs_rows {l : List (Int × Int)} : ∀ r ∈ prs l, r.length = 2 := mp_rows (by simp)
theorem prs_one {l : List (Int × Int)} : ∀ a ∈ prs l, a.length = 2 ∧ ∀ x ∈ a, IV.one x = true := rows_one (mp_sc (by simp [scal])) prs_rows
structure RowV where
  r : Int
  t : Int
  n : Int
  e : Int
  s : Int
  deriving DecidableEq
def RowV.c (x : RowV) : List IV := [.int .i64 x.r, .int .i64 x.t, .int .i64 x.n, .int .i64 x.e, .int .i64 x.s]
def rws (l : List RowV) : List (List IV) := mp RowV.c l
@[simp] theorem rws_length (l : List RowV) : (rws l).length = l.length := mp_length
@[simp] theorem rws_getElem (l : List RowV) (i : Nat) (h : i < (rws l).length) : (rws l)[i] = [.int .i64 (l[i]'(by simpa using h)).r, .int .i64 (l[i]'(by simpa using h)).t, .int .i64 (l[i]'(by simpa using h)).n, .int .i64 (l[i]'(by simpa using h)).e, .int .i64 (l[i]'(by simpa using h)).s] := by simp [rws, mp, RowV.c]
theorem rws_at {l : List RowV} {i : Nat} (h : i < l.length) : (rws l)[i]?.getD [] = [.int .i64 (l[i]).r, .int .i64 (l[i]).t, .int .i64 (l[i]).n, .int .i64 (l[i]).e, .int .i64 (l[i]).s] := mp_at h
theorem rws_snoc {l : List RowV} {x : RowV} : rws (l ++ [x]) = rws l ++ [[.int .i64 x.r, .int .i64 x.t, .int .i64 x.n, .int .i64 x.e, .int .i64 x.s]] := mp_snoc
@[go_sem] theorem rws_nil : rws [] = [] := rfl
@[go_sem] theorem prs_nil : prs [] = [] := rfl
@[go_sem] theorem ScR_rws {l : List RowV} : ScR (rws l) = True := eq_true (mp_sc (by simp [scal, RowV.c]))
@[go_sem] theorem ClR_rws {l : List RowV} : ClR (rws l) = True := eq_true (ScR.cl (mp_sc (by simp [scal, RowV.c])))
@[go_sem] theorem BlR_rws {n : Nat} {l : List RowV} : BlR n (rws l) = True := eq_true (ScR.bl (mp_sc (by simp [scal, RowV.c])))
theorem rws_rows {l : List RowV} : ∀ r ∈ rws l, r.length = 5 := mp_rows (by simp [RowV.c])
theorem rws_one {l : List RowV} : ∀ a ∈ rws l, a.length = 5 ∧ ∀ x ∈ a, IV.one x = true := rows_one (mp_sc (by simp [scal, RowV.c])) rws_rows
structure Mov where
  t : Int
  r : Int
  s : Int
  c : Int
  w : Int
  l : List RowV
  deriving DecidableEq
def Mov.v (m : Mov) : IV := .agg [.int .i64 m.t, .int .i64 m.r, .int .i64 m.s, .int .i64 m.c, .int .i64 m.w, .fz 5 (rws m.l)]
def Mov.zero : Mov := ⟨0, 0, 0, 0, 0, []⟩
theorem cl_prs {l : List (Int × Int)} {s : Nat} : Cl (.fz s (prs l)) := by simp [go_sem]
theorem fr_ib (fr : Bool) (h : Heap) (n : Int) (b : Bool) : Fr fr h (.tup [.int .i64 n, .bool b]) (.tup [.int .i64 n, .bool b]) := by
  have := frz_fr (fr := fr) 4 h (.tup [.int .i64 n, .bool b]) (by simp [go_sem])
  simpa [go_sem] using this
theorem fr_bi (fr : Bool) (h : Heap) (b : Bool) (k : IntKind) (n : Int) : Fr fr h (.tup [.bool b, .int k n]) (.tup [.bool b, .int k n]) := by
  have := frz_fr (fr := fr) 4 h (.tup [.bool b, .int k n]) (by simp [go_sem])
  simpa [go_sem] using this
end Go.Idl.How
namespace Go.Idl.How
set_option linter.all false
open Go.Idl
open Go.Proofs
set_option maxHeartbeats 400000

theorem isPrime_fun (p : Int) (hp : p ≤ 2 ^ 31) : IFun true Tryz.prog [] 71 [.int .i64 p] (fun v => ∃ b, v = .bool b ∧ (b = true ↔ 2 ≤ p ∧ ∀ d, 2 ≤ d → d * d ≤ p → p.tmod d ≠ 0)) := by
  refine IFun.of_body false 4 [5, 10, 16] Tryz.func71 rfl Tryz.call71 rfl fun R hR => ?_
  simp [go_sem]
  split
  · exact hR _ _ _ (.bool _) ⟨_, rfl, by simp; omega⟩
  rename_i h2
  refine IWp.loopE (α := Int) (fun d => (⟨false, 17, 4, [5, 10, 16], [], [(0, .int .i64 p), (3, .int .i64 d)], []⟩, [])) (fun d => 2 ≤ d ∧ d ≤ 2 ^ 31 ∧ ∀ c, 2 ≤ c → c < d → c * c ≤ p → p.tmod c ≠ 0) (fun d => (p + 1 - d).toNat) 2 ⟨by omega, by omega, by omega⟩ (by simp [go_sem]) ?_
  rintro d ⟨hd, hd2, hd3⟩
  have hsq : d * d ≤ 2 ^ 62 := Int.le_trans (Int.mul_le_mul hd2 hd2 (by omega) (by omega)) (by decide)
  have hsq0 : 2 * d ≤ d * d := Int.mul_le_mul_of_nonneg_right hd (by omega)
  simp [go_sem]
  rw [wrap64 (by omega) (by omega)]
  split
  · rename_i hdp
    refine ⟨by omega, ?_⟩
    split
    · rename_i hz
      exact hR _ _ _ (.bool _) ⟨_, rfl, by simp; exact fun _ => ⟨d, hd, hdp, hz⟩⟩
    · rename_i hz
      rw [wrap64 (by omega) (by omega)]
      refine ⟨⟨by omega, by omega, fun c h1 h2 h3 => ?_⟩, by omega⟩
      by_cases hc : c = d
      · subst hc; exact hz
      · exact hd3 c h1 (by omega) h3
  · rename_i hdp
    refine hR _ _ _ (.bool _) ⟨_, rfl, iff_of_true rfl ⟨by omega, fun c h1 h3 => ?_⟩⟩
    by_cases hc : c < d
    · exact hd3 c h1 hc h3
    · have : d * d ≤ c * c := Int.mul_le_mul (by omega) (by omega) (by omega) (by omega)
      omega
end Go.Idl.How
namespace Go.Idl.How
set_option linter.all false
open Go.Idl
open Go.Proofs
set_option maxHeartbeats 400000
def PrimeOK (p : Int) : Prop := 2 ≤ p ∧ ∀ d, 2 ≤ d → d * d ≤ p → p.tmod d ≠ 0

theorem Prime_fun (t : Int) : IFun true Tryz.prog [] 43 [.int .i64 t] (fun v => (v = .tup [.int .i64 (2 * t - 1), .bool true] ∧ 2 ≤ t ∧ t ≤ 24 ∧ PrimeOK (2 * t - 1) ∧ bitsOf .and .i64 (2 * t - 2) (2 * t - 3) ≠ 0) ∨ (v = .tup [.int .i64 0, .bool false] ∧ ¬ (2 ≤ t ∧ t ≤ 24 ∧ PrimeOK (2 * t - 1) ∧ bitsOf .and .i64 (2 * t - 2) (2 * t - 3) ≠ 0))) := by
  refine IFun.of_body false 5 [10, 24] Tryz.func43 rfl Tryz.call43 rfl fun R hR => ?_
  simp [go_sem]
  have frz : ∀ (n : Int) (b : Bool), Fr false [] (.tup [.int .i64 n, .bool b]) (.tup [.int .i64 n, .bool b]) := fun n b => .tup _ _ rfl fun j c c' e1 e2 => by
    match j with
    | 0 => simp at e1 e2; subst e1; subst e2; exact .int _ _
    | 1 => simp at e1 e2; subst e1; subst e2; exact .bool _
    | j + 2 => simp at e1
  split
  · exact hR _ _ _ (frz _ _) (.inr ⟨rfl, by omega⟩)
  rename_i ht
  have w1 : IntKind.i64.wrap (2 * t) = 2 * t := wrap64 (by omega) (by omega)
  have w2 : IntKind.i64.wrap (2 * t - 1) = 2 * t - 1 := wrap64 (by omega) (by omega)
  rw [w1, w2]
  refine IFun.callC (isPrime_fun (2 * t - 1) (by omega)) (fun j c e => by cases j with | zero => simp at e; subst e; exact .int _ _ | succ j => simp at e) (fun g c e => by simp [eget] at e) ?_
  rintro _ ⟨b, rfl, hb⟩
  have w3 : IntKind.i64.wrap (2 * t - 1 - 1) = 2 * t - 2 := by rw [wrap64 (by omega) (by omega)]; omega
  have w4 : IntKind.i64.wrap (2 * t - 1 - 2) = 2 * t - 3 := by rw [wrap64 (by omega) (by omega)]; omega
  simp [go_sem, w3, w4]
  split
  · rename_i h
    refine hR _ _ _ (frz _ _) (.inr ⟨rfl, fun ⟨_, _, h1, h2⟩ => ?_⟩)
    rcases h with h | h
    · have := hb.2 h1; rw [h] at this; cases this
    · exact h2 h
  · rename_i h
    rw [not_or] at h
    exact hR _ _ _ (frz _ _) (.inl ⟨rfl, by omega, by omega, hb.1 (by simpa using h.1), h.2⟩)
end Go.Idl.How
namespace Go.Idl.How
set_option linter.all false
open Go.Idl
open Go.Proofs
set_option maxHeartbeats 400000
def powI (w p : Int) : Nat → Int
  | 0 => 1
  | n + 1 => (powI w p n * w).tmod p
theorem powI_bd {w p : Int} (hp : 0 < p) (hw : 0 ≤ w) : ∀ n, 0 ≤ powI w p n ∧ (powI w p n ≤ 1 ∨ powI w p n < p)
  | 0 => by simp [powI]
  | n + 1 => by
    have ih := powI_bd hp hw n
    have h0 : 0 ≤ powI w p n * w := Int.mul_nonneg ih.1 hw
    simp only [powI]
    rw [Int.tmod_eq_emod_of_nonneg h0]
    exact ⟨Int.emod_nonneg _ (by omega), .inr (Int.emod_lt_of_pos _ hp)⟩
end Go.Idl.How
namespace Go.Idl.How
set_option linter.all false
open Go.Idl
open Go.Proofs
set_option maxHeartbeats 1000000
set_option maxRecDepth 20000
def PrimeAll (p : Int) : Prop := 2 ≤ p ∧ ∀ d, 2 ≤ d → d < p → p.tmod d ≠ 0
def RPrimeOK (t : Int) : Prop := 2 ≤ t ∧ t ≤ 24 ∧ PrimeAll (2 * t - 1) ∧ ∀ k : Nat, k < 7 → 2 * t - 2 ≠ 2 ^ k
end Go.Idl.How
namespace Go.Idl.How
set_option linter.all false
open Go.Idl
open Go.Proofs
set_option maxHeartbeats 1000000
set_option maxRecDepth 20000

def bx (n : Int) : IV := .fptr 1 [[.int .i64 n]] 0 0
theorem powers_fun (b p : Int) : IFun true Tryz.prog [] 47 [.int .i64 b, .int .i64 p] (fun v => v = .func (.func 73) [] [bx b, bx p]) := by
  refine IFun.of_bodyF false 5 [] Tryz.func47 rfl Tryz.call47 rfl fun R hR => ?_
  simp [go_sem]
  refine hR _ _ ?_
  simp [go_sem, bx]

theorem powers1 (b p : Int) (hp : 0 < p) (hp2 : p ≤ 2 ^ 31) (hb : 0 ≤ b) (hb2 : b ≤ 2 ^ 31) (l : Nat) (I : Nat → Heap → Prop) (K : Heap → Prop) (N : Nat) (hN : ∀ n σ, I n σ → n < N) (hN2 : N < 2 ^ 62) (σ : Heap) (h0 : I 0 σ)
    (hY : ∀ n σ, I n σ → YCalls Tryz.prog [] l [.int .i64 n, .int .i64 (powI b p n)] σ fun r σ' => (r = .bool true ∧ I (n + 1) σ') ∨ (r = .bool false ∧ K σ')) :
    ICalls Tryz.prog [] 73 [.func (.yield l) [] [], bx b, bx p] σ fun _ σ' => K σ' := by
  refine ICalls.of_bodyE false 6 [9] Tryz.func73 rfl Tryz.call73 rfl fun R hR => ?_
  simp [go_sem, bx]
  refine IWp.loopE (α := Nat × Heap) (fun x => (⟨false, 17, 6, [9], [], [(0, .func (.yield l) [] []), (1, .fptr 1 [[.int .i64 b]] 0 0), (2, .fptr 1 [[.int .i64 p]] 0 0), (4, .int .i64 (powI b p x.1)), (5, .int .i64 x.1)], []⟩, x.2)) (fun x => I x.1 x.2) (fun x => N - x.1) (0, σ) h0 (by simp [go_sem, powI]) ?_
  rintro ⟨n, σ⟩ hI
  simp only at hI
  have hn := hN n σ hI
  have hbd := powI_bd (w := b) hp hb n
  have h0 : 0 ≤ powI b p n * b := Int.mul_nonneg hbd.1 hb
  have h1 : powI b p n * b ≤ 2 ^ 31 * 2 ^ 31 := Int.mul_le_mul (by omega) hb2 hb (by omega)
  simp [go_sem]
  refine (hY n σ hI).mono ?_
  rintro r σ' (⟨rfl, hI'⟩ | ⟨rfl, hK⟩)
  · simp [go_sem]
    refine ⟨by omega, n + 1, σ', ⟨⟨?_, ?_⟩, rfl⟩, hI', by omega⟩
    · rw [wrap64 (by omega) (by omega)]; rfl
    · rw [wrap64 (by omega) (by omega)]; rfl
  · simp [go_sem]
    exact hR _ _ hK

/-- The least exponent from 1 on with power 1. -/
def OrdI (b p : Int) (k : Nat) : Prop := 0 < k ∧ powI b p k = 1 ∧ ∀ j, 0 < j → j < k → powI b p j ≠ 1

theorem order_fun (b p : Int) (hp : 0 < p) (hp2 : p ≤ 2 ^ 31) (hb : 0 ≤ b) (hb2 : b ≤ 2 ^ 31) (k : Nat) (hk : OrdI b p k) (hk2 : k < 2 ^ 60) : IFun true Tryz.prog [] 72 [.int .i64 b, .int .i64 p] (fun v => v = .int .i64 k) := by
  refine IFun.of_bodyF false 7 [9, 10, 11, 17] Tryz.func72 rfl Tryz.call72 rfl fun R hR => ?_
  simp [go_sem]
  refine (powers_fun b p).callM (by simp [go_sem]) ?_
  rintro _ rfl
  simp [go_sem]
  refine IWp.rangeFunc (g := 73) (cap := [bx b, bx p]) (by simp [go_sem]) (by simp [go_sem]) fun l r h1 h2 h3 h4 h5 => ?_
  obtain ⟨e, he⟩ : ∃ e : Env, e = ⟨false, 19, 7, [9, 10, 11, 17], [], [(0, .int .i64 b), (1, .int .i64 p), (4, .ptr 0 1 0 0), (9, .func (.func 73) [] [bx b, bx p])], []⟩ := ⟨_, rfl⟩
  rw [← he, show e.gl = [] by rw [he]]
  refine (powers1 b p hp hp2 hb hb2 l (fun n σ' => n ≤ k ∧ σ' = [.rows 1 [[.int .i64 0]], .yrec l r e]) (fun σ' => σ' = [.rows 1 [[.int .i64 k]], .yrec l { r with state := .done, pending := some .ret } e]) (k + 1) (fun n σ h => by omega) (by omega) _ ⟨by omega, rfl⟩ ?_).mono ?_
  · rintro n σ ⟨hn, rfl⟩
    refine YCalls.roundE 1 h1 h2 h3 h4 h5 rfl rfl ?_
    rw [he]
    by_cases hnk : n = k
    · simp [go_sem]
      rw [if_pos ⟨by have := hk.1; omega, by rw [hnk]; exact hk.2.1⟩, hnk]
    · simp [go_sem]
      rw [if_neg fun h => hk.2.2 n h.1 (by omega) h.2]
      omega
  · rintro _ _ rfl
    simp [go_sem, he]
    refine hR _ _ ?_
    simp [go_sem]

theorem Root_fun (p : Int) (g : Int) (hg : 3 ≤ p → p ≤ 1000 → PrimeOK p → 2 ≤ g ∧ g < p ∧ (∃ k : Nat, OrdI g p k ∧ (k : Int) = p - 1) ∧ ∀ b, 2 ≤ b → b < g → ∃ k : Nat, OrdI b p k ∧ k < 2000 ∧ (k : Int) ≠ p - 1) :
    IFun true Tryz.prog [] 46 [.int .i64 p] (fun v => (v = .tup [.int .i64 g, .int .i64 0] ∧ 3 ≤ p ∧ p ≤ 1000 ∧ PrimeOK p) ∨ (v = .tup [.int .i64 0, .int .i64 2] ∧ ¬ (3 ≤ p ∧ p ≤ 1000 ∧ PrimeOK p))) := by
  refine IFun.of_bodyF false 5 [15, 18, 26] Tryz.func46 rfl Tryz.call46 rfl fun R hR => ?_
  simp [go_sem]
  split
  case isFalse h3 =>
    refine ⟨by omega, by omega, hR _ _ ?_⟩
    simp [go_sem]
    omega
  rename_i h3
  refine ⟨h3, (isPrime_fun p (by omega)).callM (by simp [go_sem]) ?_⟩
  rintro _ ⟨b, rfl, hb⟩
  have hb' : b = true ↔ PrimeOK p := hb
  simp [go_sem, h3.1, h3.2]
  split
  case isTrue hbf =>
    refine hR _ _ ?_
    simp [go_sem]
    intro _ _ hpr
    have := hb'.2 hpr
    rw [this] at hbf
    rcases hbf with hbf | hbf
    · omega
    · cases hbf
  rename_i hbt
  have hpr : PrimeOK p := hb'.1 (by simpa [h3.1, h3.2] using hbt)
  obtain ⟨g1, g2, ⟨k, gk, gk2⟩, gb⟩ := hg h3.1 h3.2 hpr
  refine IWp.loopE (α := Int) (fun x => (⟨false, 28, 5, [15, 18, 26], [], [(0, .int .i64 p), (4, .int .i64 x)], []⟩, [])) (fun x => 2 ≤ x ∧ x ≤ g) (fun x => (g - x).toNat) 2 ⟨by omega, by omega⟩ (by simp [go_sem]) ?_
  rintro x ⟨hx, hx2⟩
  have hxp : x < p := by omega
  by_cases hxg : x = g
  · subst hxg
    simp [go_sem, hxp]
    refine (order_fun x p (by omega) (by omega) (by omega) (by omega) k gk (by omega)).callM (by simp [go_sem]) ?_
    rintro _ rfl
    simp [go_sem]
    refine ⟨by rw [wrap64 (by omega) (by omega)]; omega, hR _ _ ?_⟩
    simp [go_sem]
    exact ⟨h3.1, h3.2, hpr⟩
  · obtain ⟨k, gk, gk2, gk3⟩ := gb x hx (by omega)
    simp [go_sem, hxp]
    refine (order_fun x p (by omega) (by omega) (by omega) (by omega) k gk (by omega)).callM (by simp [go_sem]) ?_
    rintro _ rfl
    simp [go_sem]
    rw [wrap64 (by omega) (by omega), wrap64 (by omega) (by omega), if_neg gk3]
    omega
end Go.Idl.How
namespace Go.Idl.How
set_option linter.all false
open Go.Idl
open Go.Proofs
set_option maxHeartbeats 2000000
set_option maxRecDepth 20000

def Dst (w p : Int) (n : Nat) : Prop := ∀ j k : Nat, 1 ≤ j → j < k → k ≤ n → powI w p j ≠ powI w p k
end Go.Idl.How
namespace Go.Idl.How
set_option linter.all false
open Go.Idl
open Go.Proofs
set_option maxHeartbeats 2000000
set_option maxRecDepth 20000

def oppA (t : Int) (x : Nat) : Int × Int := ((x : Int) + 1, 2 * t - 1 - ((x : Int) + 1))
def opp (t : Int) (n : Nat) : List (Int × Int) := (List.range n).map (oppA t)
theorem opp_succ (t : Int) (n : Nat) : opp t (n + 1) = opp t n ++ [oppA t n] := by simp [opp, List.range_succ]
theorem opp_length (t : Int) (n : Nat) : (opp t n).length = n := by simp [opp]

theorem opposite_fun (t : Int) (ht : 2 ≤ t) (ht2 : t ≤ 24) : IFun true Tryz.prog [] 44 [bx t] (fun v => v = .fz 2 (prs (opp t (t.toNat - 1)))) := by
  refine IFun.of_bodyF false 4 [6] Tryz.func44 rfl Tryz.call44 rfl fun R hR => ?_
  simp [go_sem, bx]
  refine IWp.ownNil 2 [(0, bx t), (1, .nils), (2, .sl 0 0 0 0 none), (3, .int .i64 1)] [] (by decide) (by simp [go_sem, bx]) (by simp [go_sem]) ?_
  refine IWp.loopT (α := Nat) (fun n => (⟨false, 20, 4, [6], [], [(0, bx t), (2, .sl 0 n 0 n none), (3, .int .i64 (n + 1))], []⟩, [.rows 2 (prs (opp t n))])) (fun n => (n : Int) + 1 ≤ t) (fun n => t.toNat - n) 0 (by simp; omega) (by simp [go_sem, opp, prs, mp, bx]) ?_
  intro n hn
  have hl := opp_length t n
  by_cases h : (n : Int) + 1 < t
  · simp [go_sem, bx, h, hl]
    refine ⟨by omega, n + 1, ⟨⟨rfl, by rw [wrap64 (by omega) (by omega)]; rfl⟩, ?_⟩, by omega, by omega⟩
    rw [opp_succ, prs_snoc]
    simp (disch := omega) only [wrap64, oppA]
  · simp [go_sem, bx, h, hl]
    refine hR _ _ ?_
    simp [go_sem, hl]
    rw [show n = t.toNat - 1 by omega]

def hv : Nat → Int → Int → Int × Int
  | 0, d, t => (d, t)
  | n + 1, d, t => if t.tmod 2 = 0 then hv n (2 * d) (t.tdiv 2) else (d, t)
def rowS (g p : Int) (d j : Nat) (i : Nat) : Int × Int := (powI g p (2 * d * j + i), powI g p (2 * d * j + i + d))
def strg (g p : Int) (d : Nat) (n : Nat) : List (Int × Int) := (List.range n).flatMap fun j => (List.range d).map (rowS g p d j)
theorem strg_succ (g p : Int) (d n : Nat) : strg g p d (n + 1) = strg g p d n ++ (List.range d).map (rowS g p d n) := by simp [strg, List.range_succ]
def strgP (g p : Int) : List (Int × Int) := strg g p (hv 12 1 ((p - 1).tdiv 2)).1.toNat (hv 12 1 ((p - 1).tdiv 2)).2.toNat

/-- What Root says of a prime. -/
def IsRoot (g p : Int) : Prop := 2 ≤ g ∧ g < p ∧ (∃ k : Nat, OrdI g p k ∧ (k : Int) = p - 1) ∧ ∀ b, 2 ≤ b → b < g → ∃ k : Nat, OrdI b p k ∧ k < 2000 ∧ (k : Int) ≠ p - 1

def lstS (g p : Int) (d j i : Nat) : List (Int × Int) := strg g p d j ++ (List.range i).map (rowS g p d j)
theorem lstS_succ (g p : Int) (d j i : Nat) : lstS g p d j (i + 1) = lstS g p d j i ++ [rowS g p d j i] := by simp [lstS, List.range_succ]
theorem lstS_zero (g p : Int) (d j : Nat) : lstS g p d j 0 = strg g p d j := by simp [lstS]
theorem lstS_end (g p : Int) (d j : Nat) : lstS g p d j d = strg g p d (j + 1) := by rw [strg_succ]; rfl
theorem strg_length (g p : Int) (d n : Nat) : (strg g p d n).length = n * d := by
  induction n with
  | zero => simp [strg]
  | succ n ih => rw [strg_succ, List.length_append, ih]; simp [Nat.add_mul]

theorem strong_fun (p g : Int) (h1 : 3 ≤ p) (h2 : p ≤ 1000) (h3 : PrimeOK p) (hg : IsRoot g p) : IFun true Tryz.prog [] 45 [bx p] (fun v => v = .fz 2 (prs (strgP g p))) := by
  refine IFun.of_bodyF false 2 [2, 3, 4, 5, 6, 7, 8, 9, 10, 11, 18, 24, 25, 26, 30, 40, 45, 46, 47, 49, 50, 51] Tryz.func45 rfl Tryz.call45 rfl fun R hR => ?_
  simp [go_sem, bx]
  refine (Root_fun p g fun _ _ _ => hg).callM (by simp [go_sem]) ?_
  rintro _ (⟨rfl, _⟩ | ⟨_, hn⟩)
  case inr => exact absurd ⟨h1, h2, h3⟩ hn
  have w1 : IntKind.i64.wrap (p - 1) = p - 1 := wrap64 (by omega) (by omega)
  simp [go_sem, w1]
  refine ⟨by omega, (powers_fun g p).callM (by simp [go_sem]) ?_⟩
  rintro _ rfl
  simp [go_sem]
  refine IWp.rangeFunc (g := 73) (cap := [bx g, bx p]) (by simp [go_sem]) (by simp [go_sem]) fun l r h1 h2 h3 h4 h5 => ?_
  obtain ⟨e, he⟩ : ∃ e : Env, e = ⟨false, 80, 2, [2, 3, 4, 5, 6, 7, 8, 9, 10, 11, 18, 24, 25, 26, 30, 40, 45, 46, 47, 49, 50, 51], [], [(0, .fptr 1 [[.int .i64 p]] 0 0), (1, .nils), (2, .int .i64 g), (3, .int .i64 0), (18, .bool false), (4, .ptr 1 1 0 0), (24, .func (.func 73) [] [bx g, bx p])], []⟩ := ⟨_, rfl⟩
  rw [← he, show e.gl = [] by rw [he]]
  have g1 := hg.1
  have g2 := hg.2.1
  refine (powers1 g p (by omega) (by omega) (by omega) (by omega) l (fun n σ' => n ≤ p.toNat - 1 ∧ σ' = [.rows 1 (ar (p.toNat - 1) fun e => .int .i64 (if e < n then powI g p e else 0)), .rows 1 [[.sl 0 (p.toNat - 1) 0 (p.toNat - 1) none]], .yrec l r e])
    (fun σ' => σ' = [.rows 1 (ar (p.toNat - 1) fun e => .int .i64 (if e < p.toNat - 1 then powI g p e else 0)), .rows 1 [[.sl 0 (p.toNat - 1) 0 (p.toNat - 1) none]], .yrec l { r with state := .done, pending := some (.exit 0) } e]) p.toNat (fun n σ h => by omega) (by omega) _ ⟨by omega, ?_⟩ ?_).mono ?_
  · rw [ar_rep]; simp
  · rintro n σ ⟨hn, rfl⟩
    refine YCalls.roundE 2 h1 h2 h3 h4 h5 rfl rfl ?_
    rw [he]
    by_cases hnk : n = p.toNat - 1
    · simp [go_sem, w1]
      rw [if_pos (by omega), hnk]
    · have hlt : n < p.toNat - 1 := by omega
      simp [go_sem, w1, hlt, ar_at hlt, ar_set]
      rw [if_neg (by omega), upF_int]
      refine ⟨by omega, ?_⟩
      congr 1
      funext e
      by_cases h1 : e = n
      · subst h1; rw [if_pos rfl, if_pos (by omega)]
      · rw [if_neg h1]
        by_cases h2 : e < n
        · rw [if_pos h2, if_pos (by omega)]
        · rw [if_neg h2, if_neg (by omega)]
  rintro _ _ rfl
  simp [go_sem, he, w1]
  have hH : (p - 1).tdiv 2 = (p - 1) / 2 := Int.tdiv_eq_ediv_of_nonneg (by omega)
  rw [wrap64 (n := (p - 1).tdiv 2) (by omega) (by omega)]
  refine ⟨by decide +kernel, ?_⟩
  have hL : (ar (p.toNat - 1) fun e => IV.int .i64 (if e < p.toNat - 1 then powI g p e else 0)) = ar (p.toNat - 1) fun e => .int .i64 (powI g p e) := by
    apply List.ext_getElem
    · simp [ar]
    · intro i k1 k2
      simp [ar] at k1 ⊢
      intro h; omega
  rw [hL]
  refine IWp.loopE (α := Nat × Int × Int) (fun x => (⟨false, 80, 2, [2, 3, 4, 5, 6, 7, 8, 9, 10, 11, 18, 24, 25, 26, 30, 40, 45, 46, 47, 49, 50, 51], [], [(1, .nils), (4, .ptr 1 1 0 0), (7, .int .i64 x.2.1), (8, .int .i64 x.2.2)], []⟩, [.rows 1 (ar (p.toNat - 1) fun e => .int .i64 (powI g p e)), .rows 1 [[.sl 0 (p.toNat - 1) 0 (p.toNat - 1) none]], .dead]))
    (fun x => x.1 ≤ 12 ∧ hv x.1 x.2.1 x.2.2 = hv 12 1 ((p - 1).tdiv 2) ∧ 0 < x.2.2 ∧ x.2.2 < 2 ^ x.1 ∧ 0 < x.2.1 ∧ x.2.1 ≤ 2 ^ (12 - x.1) ∧ x.2.1 * x.2.2 ≤ (p - 1) / 2) (fun x => x.1) (12, 1, (p - 1).tdiv 2) ⟨by simp, rfl, by simp only [hH]; omega, by simp only [hH]; omega, by simp, by simp, by simp only [hH]; omega⟩ (by simp [go_sem]) ?_
  rintro ⟨m, d, t⟩ ⟨hm, hD, ht, ht2, hd, hd2, hdt⟩
  simp only at hm hD ht ht2 hd hd2 hdt
  have hp2 : ∀ m : Nat, m < 13 → (2 : Int) ^ m ≤ 4096 := by decide
  have hpow : (2 : Int) ^ (12 - m) ≤ 4096 := hp2 _ (by omega)
  have hpow2 : (2 : Int) ^ m ≤ 4096 := hp2 _ (by omega)
  by_cases hev : t.tmod 2 = 0
  · simp [go_sem, hev]
    have he2 : t.tdiv 2 = t / 2 := Int.tdiv_eq_ediv_of_nonneg (by omega)
    have hev2 : t % 2 = 0 := by rw [Int.tmod_eq_emod_of_nonneg (by omega)] at hev; exact hev
    cases m with
    | zero => simp at ht2; omega
    | succ m =>
      have e1 : (2 : Int) ^ (m + 1) = 2 * 2 ^ m := by rw [Int.pow_succ]; omega
      have e2 : (2 : Int) ^ (12 - m) = 2 * 2 ^ (12 - (m + 1)) := by rw [show 12 - m = (12 - (m + 1)) + 1 by omega, Int.pow_succ]; omega
      refine ⟨m, 2 * d, t.tdiv 2, ⟨wrap64 (by omega) (by omega), wrap64 (by omega) (by omega)⟩, ⟨by omega, ?_, by omega, by omega, by omega, by omega, ?_⟩, by omega⟩
      · rw [← hD]; simp [hv, hev]
      · have : 2 * d * (t / 2) = d * t := by
          have h2 : t = 2 * (t / 2) := by omega
          rw [Int.mul_comm 2 d, Int.mul_assoc, ← h2]
        rw [he2, this]; exact hdt
  have hDt : hv m d t = (d, t) := by
    cases m with
    | zero => simp at ht2; omega
    | succ m => simp [hv, hev]
  rw [hDt] at hD
  simp [go_sem, hev]
  refine IWp.ownNilS 2 9 (by decide) (by simp [go_sem]) ?_
  obtain ⟨dn, rfl⟩ : ∃ n : Nat, d = n := ⟨_, (Int.toNat_of_nonneg (by omega)).symm⟩
  obtain ⟨tn, rfl⟩ : ∃ n : Nat, t = n := ⟨_, (Int.toNat_of_nonneg (by omega)).symm⟩
  have hres : strgP g p = strg g p dn tn := by simp [strgP, ← hD]
  have hdt' : dn * tn ≤ p.toNat / 2 := by have : ((dn * tn : Nat) : Int) ≤ (p - 1) / 2 := by simpa using hdt
                                          omega
  have hdt2 : 2 * (dn * tn) ≤ p.toNat - 1 := by have : ((dn * tn : Nat) : Int) ≤ (p - 1) / 2 := by simpa using hdt
                                                omega
  refine IWp.loopT (α := Nat) (fun j => (⟨false, 80, 2, [2, 3, 4, 5, 6, 7, 8, 9, 10, 11, 18, 24, 25, 26, 30, 40, 45, 46, 47, 49, 50, 51], [], [(4, .ptr 1 1 0 0), (7, .int .i64 dn), (9, .sl 3 (strg g p dn j).length 0 (strg g p dn j).length none), (45, .int .i64 tn), (46, .int .i64 j)], []⟩, [.rows 1 (ar (p.toNat - 1) fun e => .int .i64 (powI g p e)), .rows 1 [[.sl 0 (p.toNat - 1) 0 (p.toNat - 1) none]], .dead, .rows 2 (prs (strg g p dn j))]))
    (fun j => j ≤ tn) (fun j => tn - j) 0 (by omega) (by simp [go_sem, strg, prs, mp]) ?_
  intro j hj
  by_cases hjt : j < tn
  · simp [go_sem, hjt]
    refine IWp.loopT (α := Nat) (fun i => (⟨false, 80, 2, [2, 3, 4, 5, 6, 7, 8, 9, 10, 11, 18, 24, 25, 26, 30, 40, 45, 46, 47, 49, 50, 51], [], [(4, .ptr 1 1 0 0), (7, .int .i64 dn), (9, .sl 3 (lstS g p dn j i).length 0 (lstS g p dn j i).length none), (10, .int .i64 j), (45, .int .i64 tn), (46, .int .i64 j), (49, .int .i64 dn), (50, .int .i64 i)], []⟩, [.rows 1 (ar (p.toNat - 1) fun e => .int .i64 (powI g p e)), .rows 1 [[.sl 0 (p.toNat - 1) 0 (p.toNat - 1) none]], .dead, .rows 2 (prs (lstS g p dn j i))]))
      (fun i => i ≤ dn) (fun i => dn - i) 0 (by omega) (by simp [go_sem, lstS_zero]) ?_
    intro i hi
    by_cases hid : i < dn
    · have k1 : dn * (j + 1) ≤ dn * tn := Nat.mul_le_mul_left dn (by omega)
      rw [Nat.mul_add, Nat.mul_one] at k1
      obtain ⟨q, hq⟩ : ∃ q : Nat, q = dn * j := ⟨_, rfl⟩
      have hdp : (dn : Int) ≤ 4096 := by omega
      have e0 : IntKind.i64.wrap (2 * (dn : Int)) = 2 * dn := wrap64 (by omega) (by omega)
      have e1 : 2 * (dn : Int) * j = ((2 * q : Nat) : Int) := by rw [hq]; simp [Int.mul_assoc]
      have e2 : IntKind.i64.wrap ((2 * q : Nat) : Int) = ((2 * q : Nat) : Int) := wrap64 (by omega) (by omega)
      have e3 : IntKind.i64.wrap (((2 * q : Nat) : Int) + i) = ((2 * q + i : Nat) : Int) := by rw [wrap64 (by omega) (by omega)]; omega
      have e4 : IntKind.i64.wrap (((2 * q + i : Nat) : Int) + dn) = ((2 * q + i + dn : Nat) : Int) := by rw [wrap64 (by omega) (by omega)]; omega
      have l1 : 2 * q + i < p.toNat - 1 := by omega
      have l2 : 2 * q + i + dn < p.toNat - 1 := by omega
      simp [go_sem, hid, e0, e1, e2, e3, e4, l1, l2, ar_at l1, ar_at l2, -Int.natCast_add, -Int.natCast_mul]
      have hlen : (lstS g p dn j i).length ≤ 1000 := by
        simp only [lstS, List.length_append, strg_length, List.length_map, List.length_range]
        rw [Nat.mul_comm, ← hq]; omega
      refine ⟨by omega, by decide +kernel, i + 1, ⟨⟨by rw [lstS_succ]; simp, by rw [wrap64 (by omega) (by omega)]; rfl⟩, ?_⟩, by omega, by omega⟩
      rw [lstS_succ, prs_snoc]
      simp only [rowS, hq]
      rw [Nat.mul_assoc]
    · simp [go_sem, hid]
      have hid' : i = dn := by omega
      subst hid'
      refine ⟨j + 1, ⟨⟨by rw [lstS_end], by rw [wrap64 (by omega) (by omega)]; rfl⟩, by rw [lstS_end]⟩, by omega, by omega⟩
  · simp [go_sem, hjt]
    refine hR _ _ ?_
    simp [go_sem]
    rw [hres, show j = tn by omega]
end Go.Idl.How
