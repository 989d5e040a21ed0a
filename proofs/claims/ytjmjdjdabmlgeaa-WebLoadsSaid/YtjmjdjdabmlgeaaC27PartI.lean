/-
  Chapter 27: the shelf's contracts at this program (written by the kit's lay-plain.mjs).
  cmp.Compare at int; slices.Compare of two pairs.
  Chapter 27: pairs of tables sorted by slices.SortFunc.
-/
import Derived.Shelf.SlLaysF0
import Derived.Test.YtjmjdjdabmlgeaaC27PartA
import Derived.Test.YtjmjdjdabmlgeaaIdlPartG
import Derived.Test.YtjmjdjdabmlgeaaC27PartB
import Derived.Test.YtjmjdjdabmlgeaaC27PartG
import Derived.Test.YtjmjdjdabmlgeaaIdlPartO
namespace Go.Proofs
open Go.Shelf
def Try.sortPairs_ren : Go.Shelf.Ren := ⟨fun | 6 => 45 | 15 => 61 | 14 => 60 | 28 => 74 | 29 => 75 | 20 => 66 | 21 => 67 | 22 => 68 | 23 => 69 | 24 => 70 | 25 => 71 | 26 => 72 | 27 => 73 | 46 => 84 | 47 => 85 | 48 => 86 | 49 => 87 | 50 => 88 | 57 => 92 | n => n, fun | 22 => 49 | 24 => 54 | 25 => 78 | 3 => 3 | 39 => 93 | 0 => 0 | 53 => 106 | 55 => 108 | 4 => 4 | 46 => 99 | 45 => 98 | 50 => 103 | 5 => 5 | 9 => 9 | 66 => 114 | 70 => 118 | 76 => 122 | 77 => 56 | n => n, fun | n => n⟩
theorem Try.sortPairs : Go.Proofs.SlLaysF0.n6 Try.prog Try.sortPairs_ren := {
  mixed := by kernel_rfl
  f6 := ⟨Try.f45.name, by decide, Try.func45.trans (congrArg some (by kernel_rfl))⟩
  f14 := ⟨Try.f60.name, by decide, Try.func60.trans (congrArg some (by kernel_rfl))⟩
  f15 := Try.func61.trans (congrArg some (by kernel_rfl))
  f20 := ⟨Try.f66.name, by decide, Try.func66.trans (congrArg some (by kernel_rfl))⟩
  f21 := ⟨Try.f67.name, by decide, Try.func67.trans (congrArg some (by kernel_rfl))⟩
  f22 := ⟨Try.f68.name, by decide, Try.func68.trans (congrArg some (by kernel_rfl))⟩
  f23 := ⟨Try.f69.name, by decide, Try.func69.trans (congrArg some (by kernel_rfl))⟩
  f24 := ⟨Try.f70.name, by decide, Try.func70.trans (congrArg some (by kernel_rfl))⟩
  f25 := ⟨Try.f71.name, by decide, Try.func71.trans (congrArg some (by kernel_rfl))⟩
  f26 := ⟨Try.f72.name, by decide, Try.func72.trans (congrArg some (by kernel_rfl))⟩
  f27 := ⟨Try.f73.name, by decide, Try.func73.trans (congrArg some (by kernel_rfl))⟩
  f28 := Try.func74.trans (congrArg some (by kernel_rfl))
  f29 := Try.func75.trans (congrArg some (by kernel_rfl))
  f46 := ⟨Try.f84.name, by decide, Try.func84.trans (congrArg some (by kernel_rfl))⟩
  f47 := Try.func85.trans (congrArg some (by kernel_rfl))
  f48 := Try.func86.trans (congrArg some (by kernel_rfl))
  f49 := ⟨Try.f87.name, by decide, Try.func87.trans (congrArg some (by kernel_rfl))⟩
  f50 := ⟨Try.f88.name, by decide, Try.func88.trans (congrArg some (by kernel_rfl))⟩
  f57 := ⟨Try.f92.name, by decide, Try.func92.trans (congrArg some (by kernel_rfl))⟩
  t0 := Try.underlying0
  a0 := Try.isAgg0
  z0 := Try.sizeOf0
  v0 := Try.zeroValue0
  t3 := Try.underlying3
  a3 := Try.isAgg3
  z3 := Try.sizeOf3
  v3 := Try.zeroValue3
  t4 := Try.underlying4
  a4 := Try.isAgg4
  z4 := Try.sizeOf4
  v4 := Try.zeroValue4
  t5 := Try.underlying5
  a5 := Try.isAgg5
  z5 := Try.sizeOf5
  v5 := Try.zeroValue5
  t9 := Try.underlying9
  a9 := Try.isAgg9
  z9 := Try.sizeOf9
  v9 := Try.zeroValue9
  t22 := Try.underlying49
  a22 := Try.isAgg49
  z22 := Try.sizeOf49
  v22 := Try.zeroValue49
  t25 := Try.underlying78
  a25 := Try.isAgg78
  z25 := Try.sizeOf78
  v25 := Try.zeroValue78
  t39 := Try.underlying93
  a39 := Try.isAgg93
  z39 := Try.sizeOf93
  v39 := Try.zeroValue93
  t45 := Try.underlying98
  a45 := Try.isAgg98
  z45 := Try.sizeOf98
  v45 := Try.zeroValue98
  t46 := Try.underlying99
  a46 := Try.isAgg99
  z46 := Try.sizeOf99
  v46 := Try.zeroValue99
  t50 := Try.underlying103
  a50 := Try.isAgg103
  z50 := Try.sizeOf103
  v50 := Try.zeroValue103
  t53 := Try.underlying106
  a53 := Try.isAgg106
  z53 := Try.sizeOf106
  v53 := Try.zeroValue106
  t55 := Try.underlying108
  a55 := Try.isAgg108
  z55 := Try.sizeOf108
  v55 := Try.zeroValue108
  t66 := Try.underlying114
  a66 := Try.isAgg114
  z66 := Try.sizeOf114
  v66 := Try.zeroValue114
  t70 := Try.underlying118
  a70 := Try.isAgg118
  z70 := Try.sizeOf118
  v70 := Try.zeroValue118
  t76 := Try.underlying122
  a76 := Try.isAgg122
  z76 := Try.sizeOf122
  v76 := Try.zeroValue122
  t77 := Try.underlying56
  a77 := Try.isAgg56
  z77 := Try.sizeOf56
  v77 := Try.zeroValue56 }
end Go.Proofs
namespace Go.Idl
set_option linter.all false
open Go.Proofs
set_option maxHeartbeats 16000000
set_option maxRecDepth 40000

def cmpI (a b : Int) : Int := if a < b then -1 else if b < a then 1 else 0
theorem isNaNI_fun (a : Int) : IFun true Try.prog [] 64 [.int .i64 a] (fun v => v = .bool false) := by
  refine IFun.of_bodyZ false 3 [] Try.func64 rfl Try.call64 rfl fun R hR => ?_
  simp [go_sem]
  exact hR _ _ _ rfl (by simp [go_sem])
theorem cmpI_fun (a b : Int) : IFun true Try.prog [] 62 [.int .i64 a, .int .i64 b] (fun v => v = .int .i64 (cmpI a b)) := by
  refine IFun.of_bodyZ false 7 [11, 12, 13, 16, 19] Try.func62 rfl Try.call62 rfl fun R hR => ?_
  unfold cmpI at hR
  simp [go_sem]
  refine (isNaNI_fun a).callF (by simp [go_sem]) ?_
  rintro _ rfl
  simp [go_sem]
  refine (isNaNI_fun b).callF (by simp [go_sem]) ?_
  rintro _ rfl
  by_cases h1 : a < b
  · rw [if_pos h1] at hR
    simp [go_sem, h1]
    exact hR _ _ _ rfl (by simp [go_sem])
  · rw [if_neg h1] at hR
    by_cases h2 : b < a
    · rw [if_pos h2] at hR
      simp [go_sem, h1, h2]
      exact hR _ _ _ rfl (by simp [go_sem])
    · rw [if_neg h2] at hR
      simp [go_sem, h1, h2]
      exact hR _ _ _ rfl (by simp [go_sem])
end Go.Idl
namespace Go.Idl
set_option linter.all false
open Go.Proofs Go.Sort
set_option maxHeartbeats 16000000
set_option maxRecDepth 40000

def cfP (p q : Int × Int) : Int := if cmpI p.1 q.1 = 0 then cmpI p.2 q.2 else cmpI p.1 q.1
def ecP (p : Int × Int) : List Int := [p.1, p.2]
theorem ltP (p q : Int × Int) : ltOf cfP p q = decide (lexLt p q) := by
  unfold ltOf cfP cmpI lexLt
  by_cases h1 : p.1 < q.1
  · simp [h1]
  · by_cases h2 : q.1 < p.1
    · simp [h1, h2]; omega
    · have e : p.1 = q.1 := by omega
      by_cases h3 : p.2 < q.2
      · simp [h1, h2, h3, e]
      · by_cases h4 : q.2 < p.2 <;> simp [h1, h2, h3, h4, e]
theorem ltP_t {p q : Int × Int} : ltOf cfP p q = true ↔ lexLt p q := by rw [ltP]; simp
theorem ltP_f {p q : Int × Int} : ltOf cfP p q = false ↔ ¬ lexLt p q := by rw [ltP]; simp
theorem swoP : SWO (ltOf cfP) where
  irrefl x := by rw [ltP_f]; unfold lexLt; omega
  trans x y z h1 h2 := by rw [ltP_t] at h1 h2 ⊢; unfold lexLt at *; omega
  ntrans x y z h1 h2 := by rw [ltP_f] at h1 h2 ⊢; unfold lexLt at *; omega
theorem totP (x y : Int × Int) (h1 : ltOf cfP x y = false) (h2 : ltOf cfP y x = false) : x = y := by
  rw [ltP_f] at h1 h2
  unfold lexLt at h1 h2
  exact Prod.ext (by omega) (by omega)
def leP (x y : Int × Int) : Bool := !ltOf cfP y x
theorem leP_iff {x y : Int × Int} : leP x y = true ↔ ¬ lexLt y x := by unfold leP; rw [ltP]; simp
/-- What the sort leaves: pairs that increase. -/
theorem sortP_lex {Z : List (Int × Int)} (hn : Z.Nodup) : (Z.mergeSort leP).Pairwise lexLt ∧ ∀ p, p ∈ Z.mergeSort leP ↔ p ∈ Z := by
  have hp := List.mergeSort_perm Z leP
  refine ⟨?_, fun p => hp.mem_iff⟩
  have h1 := List.pairwise_mergeSort (le := leP) (fun a b c h1 h2 => by simp only [leP_iff, lexLt] at *; omega) (fun a b => by
    by_cases h : leP a b = true
    · simp [h]
    · have : leP b a = true := by simp only [leP_iff, lexLt] at *; omega
      simp [this]) Z
  have h2 : (Z.mergeSort leP).Nodup := hp.symm.nodup hn
  refine (List.Pairwise.and h1 h2).imp fun {a b} h => ?_
  have := leP_iff.1 h.1
  have hne := h.2
  by_cases e : a.1 = b.1
  · have : a.2 ≠ b.2 := fun e2 => hne (Prod.ext e e2)
    unfold lexLt at *; omega
  · unfold lexLt at *; omega
/-- slices.Compare at two pairs. -/
theorem comparePP_fun (p q : Int × Int) : IFun true Try.prog [] 47 [.fz 1 [[.int .i64 p.1], [.int .i64 p.2]], .fz 1 [[.int .i64 q.1], [.int .i64 q.2]]] (fun v => v = .int .i64 (cfP p q)) := by
  refine IFun.of_bodyZ false 9 [9, 10, 11, 12, 19, 28, 35] Try.func47 rfl Try.call47 rfl fun R hR => ?_
  obtain ⟨a, b⟩ := p
  obtain ⟨c, d⟩ := q
  have c1 := cmpI_fun a c
  have c2 := cmpI_fun b d
  unfold cfP at hR
  simp only at *
  generalize cmpI a c = x at *
  generalize cmpI b d = y at *
  have w1 : IntKind.i64.wrap 1 = 1 := by decide
  have w2 : IntKind.i64.wrap 2 = 2 := by decide
  simp [go_sem]
  refine IWp.loopT (α := Nat) (fun i => (⟨false, 36, 9, [9, 10, 11, 12, 19, 28, 35], [], [(0, .fz 1 [[.int .i64 a], [.int .i64 b]]), (1, .fz 1 [[.int .i64 c], [.int .i64 d]]), (9, .fz 1 [[.int .i64 a], [.int .i64 b]]), (10, .int .i64 2), (11, .int .i64 (i : Int))], []⟩, []))
    (fun i => i ≤ 2 ∧ (0 < i → x = 0) ∧ (1 < i → y = 0)) (fun i => 2 - i) 0 (by simp) (by simp [go_sem]) ?_
  rintro i ⟨hi, h1, h2⟩
  rcases (by omega : i = 0 ∨ i = 1 ∨ i = 2) with rfl | rfl | rfl
  · simp [go_sem]
    refine c1.callF (by simp [go_sem]) ?_
    rintro _ rfl
    by_cases h0 : x = 0
    · simp [go_sem, h0, w1]
      exact ⟨1, by simp, by omega, by omega⟩
    · rw [if_neg h0] at hR
      simp [go_sem, h0]
      exact hR _ _ _ rfl (by simp [go_sem])
  · have h0 := h1 (by omega)
    rw [if_pos h0] at hR
    simp [go_sem]
    refine c2.callF (by simp [go_sem]) ?_
    rintro _ rfl
    by_cases h0 : y = 0
    · simp [go_sem, h0, w2]
      exact ⟨2, by simp, by omega, by omega⟩
    · simp [go_sem, h0]
      exact hR _ _ _ rfl (by simp [go_sem])
  · rw [if_pos (h1 (by omega)), h2 (by omega)] at hR
    simp [go_sem]
    exact hR _ _ _ rfl (by simp [go_sem])
theorem cmpShared_fun (p q : Int × Int) : IFun true Try.prog [] 46 [.agg (rowI ecP p), .agg (rowI ecP q)] (fun v => v = .int .i64 (cfP p q)) := by
  refine IFun.of_bodyW false 5 [] Try.func46 rfl Try.call46 rfl fun R hR => ?_
  have cc := comparePP_fun p q
  obtain ⟨a, b⟩ := p
  obtain ⟨c, d⟩ := q
  simp only [rowI, ecP, List.map_cons, List.map_nil] at *
  refine IWp.seqI ?_
  simp [go_sem]
  refine IWp.freezeP 0 2 [[.int .i64 a, .int .i64 b]] [(0, .agg [.int .i64 a, .int .i64 b]), (1, .agg [.int .i64 c, .int .i64 d]), (2, .fptr 2 [[.int .i64 a, .int .i64 b]] 0 0), (3, .ptr 1 1 0 0), (4, .int .i64 0)] [.dead, .rows 2 [[.int .i64 c, .int .i64 d]]] rfl (by simp [go_sem]) (by simp [go_sem]) ?_
  refine IWp.freezeP 1 2 [[.int .i64 c, .int .i64 d]] [(0, .agg [.int .i64 a, .int .i64 b]), (1, .agg [.int .i64 c, .int .i64 d]), (2, .fptr 2 [[.int .i64 a, .int .i64 b]] 0 0), (3, .fptr 2 [[.int .i64 c, .int .i64 d]] 0 0), (4, .int .i64 0)] [.dead, .dead] rfl (by simp [go_sem]) (by simp [go_sem]) ?_
  refine IWp.seqI ?_
  simp [go_sem]
  refine Drawn.intro (fun k => if k = 2 then .int .i64 (cfP (a, b) (c, d)) else .tup []) ?_
  simp [go_sem, cc]
  refine ⟨by decide +kernel, ?_⟩
  refine IWp.now ?_
  simp [go_sem]
  exact hR _ _ _ rfl (by simp [go_sem])
theorem sortPairsFn : SortFn Try.prog 45 46 ecP 2 leP :=
  sortFn_of Try.sortPairs Try.isAgg54 Try.sizeOf54 (fun _ => rfl) swoP totP Try.call46 cmpShared_fun
theorem sortPairs0 : SortFn0 Try.prog 45 := sortFn0_of Try.sortPairs
end Go.Idl
