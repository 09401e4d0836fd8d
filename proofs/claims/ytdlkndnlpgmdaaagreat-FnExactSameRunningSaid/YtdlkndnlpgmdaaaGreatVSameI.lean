/- The program's equality functions in V. Condition: the measure of the first value at most what a row may hold. -/
import Derived.Test.YtdlkndnlpgmdaaaGreatVSame
namespace Go.Proofs.YtdlkndnlpgmdaaaGreat.V
open Go Go.V Go.Proofs
set_option linter.unusedSimpArgs false
set_option linter.unusedVariables false

set_option maxHeartbeats 4000000 in
theorem iSameT (n : Nat) (hn : n ≤ 1000) : ∀ (x y : GType), x.bulk ≤ maxRow → dPure CC 151 [x.enc, y.enc, .int .i64 n] = some (.bool (sameT n x y)) := by
  induction n with
  | zero =>
    intro x y hb
    rw [dPure_eq (C := CC) _ rfl rfl Tryz.func151 rfl]
    simp [Tryz.f151, go_sem, sameT]
  | succ n ih =>
    intro x y hb
    rw [GType.bulk_eq] at hb
    unfold bulkL at hb
    have hw : IntKind.i64.wrap ((n : Int) + 1 - 1) = n := by rw [wrap64 (by omega) (by omega)]; omega
    have hn0 : ¬ ((n : Int) + 1 = 0) := by omega
    have e1 := slEqualString x.Labels y.Labels (by omega)
    have e3 : ∀ a b : GType, a.bulk ≤ maxRow → dPure CC 175 [a.enc, b.enc, .cptr [.int .i64 ((n : Int) + 1)] 0] = some (.bool (sameT n a b)) := fun a b ha => by
      have h := ih (by omega) a b ha
      rw [dPure_eq (C := CC) _ rfl rfl Tryz.func175 rfl]
      have hw' : IntKind.i64.wrap (n : Int) = n := wrap64 (by omega) (by omega)
      simp [Tryz.f175, go_sem, hw, hw', h]
    have e2 := slEqualFuncType x.Kids y.Kids 175 [] [.cptr [.int .i64 ((n : Int) + 1)] 0] (sameT n) (by omega) (fun a ha b _ H => by
      have h := e3 a b (by have := sum_mem GType.bulk ha; omega)
      simp [go_sem, h])
    rw [dPure_eq (C := CC) _ rfl rfl Tryz.func151 rfl]
    unfold sameT
    push_cast
    revert e1
    generalize decide (x.Labels = y.Labels) = b2
    intro e1
    by_cases h0 : x.Kind = y.Kind
    rotate_left
    · simp [Tryz.f151, go_sem, e1, hn0, h0]
    by_cases h1 : x.Name = y.Name
    rotate_left
    · simp [Tryz.f151, go_sem, e1, hn0, h0, h1]
    cases b2
    · simp [Tryz.f151, go_sem, e1, hn0, h0, h1]
    simp [Tryz.f151, go_sem, e1, e2, hn0, h0, h1]
theorem iSameType (x y : GType) (hb : x.bulk ≤ maxRow) : dPure CC 107 [x.enc, y.enc] = some (.bool (sameType x y)) := by
  have h : dPure CC 151 [x.enc, y.enc, .int .i64 100] = some (.bool (sameT 100 x y)) := by simpa using iSameT 100 (by omega) x y hb
  rw [dPure_eq (C := CC) _ rfl rfl Tryz.func107 rfl]
  simp [Tryz.f107, go_sem, sameType, h]
set_option maxHeartbeats 4000000 in
theorem iSameFunc1 (x y : GParam) (hb : x.bulk ≤ maxRow) : dPure CC 109 [x.enc, y.enc] = some (.bool (sameParam x y)) := by
  rw [GParam.bulk_eq] at hb
  try unfold bulkL at hb
  have e0 := iSameType x.Ty y.Ty (by omega)
  unfold sameParam
  revert e0
  generalize sameType x.Ty y.Ty = b1
  intro e0
  rw [dPure_eq (C := CC) _ rfl rfl Tryz.func109 rfl]
  by_cases h0 : x.Name = y.Name
  rotate_left
  · simp [Tryz.f109, go_sem, e0, h0]
  cases b1
  · simp [Tryz.f109, go_sem, e0, h0]
  simp [Tryz.f109, go_sem, e0, h0]
set_option maxHeartbeats 4000000 in
theorem iSameFunc (x y : GFuncType) (hb : x.bulk ≤ maxRow) : dPure CC 61 [x.enc, y.enc] = some (.bool (sameFT x y)) := by
  rw [GFuncType.bulk_eq] at hb
  try unfold bulkL at hb
  have e0 := iSameType x.Result y.Result (by omega)
  have e1 := slEqualFuncParam x.Params y.Params 109 [] [] sameParam (by omega) (fun a ha b _ H => by have h := iSameFunc1 a b (by have := sum_mem GParam.bulk ha; omega); simp [go_sem, h])
  unfold sameFT
  revert e0 e1
  generalize sameType x.Result y.Result = b1
  intro e0 e1
  rw [dPure_eq (C := CC) _ rfl rfl Tryz.func61 rfl]
  by_cases h0 : x.Async = y.Async
  rotate_left
  · have hq : (x.Async == y.Async) = false := by simpa using h0
    simp [Tryz.f61, go_sem, e0, e1, h0, hq]
  cases b1
  · simp [Tryz.f61, go_sem, e0, e1, h0]
  simp [Tryz.f61, go_sem, e0, e1, h0]
set_option maxHeartbeats 4000000 in
theorem iSameFace1 (x y : GFunc) (hb : x.bulk ≤ maxRow) : dPure CC 60 [x.enc, y.enc] = some (.bool (sameFn x y)) := by
  rw [GFunc.bulk_eq] at hb
  try unfold bulkL at hb
  have e0 := iSameFunc x.Ty y.Ty (by omega)
  unfold sameFn
  rw [dPure_eq (C := CC) _ rfl rfl Tryz.func60 rfl]
  by_cases h0 : x.Name = y.Name
  rotate_left
  · simp [Tryz.f60, go_sem, e0, h0]
  simp [Tryz.f60, go_sem, e0, h0]
set_option maxHeartbeats 4000000 in
theorem iSameFace (x y : GFace) (hb : x.bulk ≤ maxRow) : dPure CC 24 [x.enc, y.enc] = some (.bool (sameFace x y)) := by
  rw [GFace.bulk_eq] at hb
  try unfold bulkL at hb
  have e0 := slEqualString x.Resources y.Resources (by omega)
  have e1 := slEqualFuncFunc x.Funcs y.Funcs 60 [] [] sameFn (by omega) (fun a ha b _ H => by have h := iSameFace1 a b (by have := sum_mem GFunc.bulk ha; omega); simp [go_sem, h])
  unfold sameFace
  revert e0 e1
  generalize decide (x.Resources = y.Resources) = b3
  intro e0 e1
  rw [dPure_eq (C := CC) _ rfl rfl Tryz.func24 rfl]
  by_cases h0 : x.Package = y.Package
  rotate_left
  · simp [Tryz.f24, go_sem, e0, e1, h0]
  by_cases h1 : x.Name = y.Name
  rotate_left
  · simp [Tryz.f24, go_sem, e0, e1, h0, h1]
  by_cases h2 : x.Version = y.Version
  rotate_left
  · simp [Tryz.f24, go_sem, e0, e1, h0, h1, h2]
  cases b3
  · simp [Tryz.f24, go_sem, e0, e1, h0, h1, h2]
  simp [Tryz.f24, go_sem, e0, e1, h0, h1, h2]
set_option maxHeartbeats 4000000 in
theorem iSameCore (x y : GCore) (hb : x.bulk ≤ maxRow) : dPure CC 112 [x.enc, y.enc] = some (.bool (sameCore x y)) := by
  rw [GCore.bulk_eq] at hb
  try unfold bulkL at hb
  have e0 := slEqualIns x.Code y.Code (by omega)
  unfold sameCore
  rw [dPure_eq (C := CC) _ rfl rfl Tryz.func112 rfl]
  by_cases h0 : x.Name = y.Name
  rotate_left
  · simp [Tryz.f112, go_sem, e0, h0]
  by_cases h1 : x.Params = y.Params
  rotate_left
  · simp [Tryz.f112, go_sem, e0, h0, h1]
  by_cases h2 : x.Locals = y.Locals
  rotate_left
  · simp [Tryz.f112, go_sem, e0, h0, h1, h2]
  by_cases h3 : x.Result = y.Result
  rotate_left
  · have hq : (x.Result == y.Result) = false := by simpa using h3
    simp [Tryz.f112, go_sem, e0, h0, h1, h2, h3, hq]
  simp [Tryz.f112, go_sem, e0, h0, h1, h2, h3]
set_option maxHeartbeats 4000000 in
theorem iSameModule (x y : GModule) (hb : x.bulk ≤ maxRow) : dPure CC 62 [x.enc, y.enc] = some (.bool (sameModule x y)) := by
  rw [GModule.bulk_eq] at hb
  try unfold bulkL at hb
  have e0 := slEqualImport x.Imports y.Imports (by omega)
  have e1 := slEqualFuncCore x.Cores y.Cores 112 [] [] sameCore (by omega) (fun a ha b _ H => by have h := iSameCore a b (by have := sum_mem GCore.bulk ha; omega); simp [go_sem, h])
  unfold sameModule
  revert e0 e1
  generalize decide (x.Imports = y.Imports) = b1
  intro e0 e1
  rw [dPure_eq (C := CC) _ rfl rfl Tryz.func62 rfl]
  by_cases h0 : x.Pages = y.Pages
  rotate_left
  · simp [Tryz.f62, go_sem, e0, e1, h0]
  cases b1
  · simp [Tryz.f62, go_sem, e0, e1, h0]
  simp [Tryz.f62, go_sem, e0, e1, h0]
set_option maxHeartbeats 4000000 in
theorem iSameComp (x y : GComponent) (hb : x.bulk ≤ maxRow) : dPure CC 26 [x.enc, y.enc] = some (.bool (sameComp x y)) := by
  rw [GComponent.bulk_eq] at hb
  try unfold bulkL at hb
  have e0 := slEqualFuncFace x.Imports y.Imports 24 [] [] sameFace (by omega) (fun a ha b _ H => by have h := iSameFace a b (by have := sum_mem GFace.bulk ha; omega); simp [go_sem, h])
  have e1 := slEqualFuncFace x.Exports y.Exports 24 [] [] sameFace (by omega) (fun a ha b _ H => by have h := iSameFace a b (by have := sum_mem GFace.bulk ha; omega); simp [go_sem, h])
  have e2 := iSameModule x.Module y.Module (by omega)
  have e3 := slEqualLift x.Lifts y.Lifts (by omega)
  have e4 := slEqualLower x.Lowers y.Lowers (by omega)
  have e5 := slEqualBuiltin x.Builtins y.Builtins (by omega)
  unfold sameComp
  revert e0 e1 e2 e3 e4 e5
  generalize all2 sameFace x.Imports y.Imports = b2
  generalize all2 sameFace x.Exports y.Exports = b3
  generalize sameModule x.Module y.Module = b6
  generalize decide (x.Lifts = y.Lifts) = b7
  generalize decide (x.Lowers = y.Lowers) = b8
  intro e0 e1 e2 e3 e4 e5
  rw [dPure_eq (C := CC) _ rfl rfl Tryz.func26 rfl]
  by_cases h0 : x.Name = y.Name
  rotate_left
  · simp [Tryz.f26, go_sem, e0, e1, e2, e3, e4, e5, h0]
  by_cases h1 : x.Version = y.Version
  rotate_left
  · simp [Tryz.f26, go_sem, e0, e1, e2, e3, e4, e5, h0, h1]
  cases b2
  · simp [Tryz.f26, go_sem, e0, e1, e2, e3, e4, e5, h0, h1]
  cases b3
  · simp [Tryz.f26, go_sem, e0, e1, e2, e3, e4, e5, h0, h1]
  by_cases h4 : x.Encoding = y.Encoding
  rotate_left
  · simp [Tryz.f26, go_sem, e0, e1, e2, e3, e4, e5, h0, h1, h4]
  by_cases h5 : x.Reserve = y.Reserve
  rotate_left
  · simp [Tryz.f26, go_sem, e0, e1, e2, e3, e4, e5, h0, h1, h4, h5]
  cases b6
  · simp [Tryz.f26, go_sem, e0, e1, e2, e3, e4, e5, h0, h1, h4, h5]
  cases b7
  · simp [Tryz.f26, go_sem, e0, e1, e2, e3, e4, e5, h0, h1, h4, h5]
  cases b8
  · simp [Tryz.f26, go_sem, e0, e1, e2, e3, e4, e5, h0, h1, h4, h5]
  simp [Tryz.f26, go_sem, e0, e1, e2, e3, e4, e5, h0, h1, h4, h5]
set_option maxHeartbeats 4000000 in
theorem iSameInst (x y : GInst) (hb : x.bulk ≤ maxRow) : dPure CC 28 [x.enc, y.enc] = some (.bool (sameInst x y)) := by
  rw [GInst.bulk_eq] at hb
  try unfold bulkL at hb
  have e0 := slEqualArg x.Args y.Args (by omega)
  unfold sameInst
  rw [dPure_eq (C := CC) _ rfl rfl Tryz.func28 rfl]
  by_cases h0 : x.Comp = y.Comp
  rotate_left
  · simp [Tryz.f28, go_sem, e0, h0]
  simp [Tryz.f28, go_sem, e0, h0]
set_option maxHeartbeats 4000000 in
theorem iSameGraph (x y : GGraph) (hb : x.bulk ≤ maxRow) : dPure CC 8 [x.enc, y.enc] = some (.bool (sameGraph x y)) := by
  rw [GGraph.bulk_eq] at hb
  try unfold bulkL at hb
  have e0 := slEqualFuncFace x.Host y.Host 24 [] [] sameFace (by omega) (fun a ha b _ H => by have h := iSameFace a b (by have := sum_mem GFace.bulk ha; omega); simp [go_sem, h])
  have e1 := slEqualFuncComponent x.Comps y.Comps 26 [] [] sameComp (by omega) (fun a ha b _ H => by have h := iSameComp a b (by have := sum_mem GComponent.bulk ha; omega); simp [go_sem, h])
  have e2 := slEqualFuncInst x.Insts y.Insts 28 [] [] sameInst (by omega) (fun a ha b _ H => by have h := iSameInst a b (by have := sum_mem GInst.bulk ha; omega); simp [go_sem, h])
  unfold sameGraph
  revert e0 e1 e2
  generalize all2 sameFace x.Host y.Host = b0
  generalize all2 sameComp x.Comps y.Comps = b1
  intro e0 e1 e2
  rw [dPure_eq (C := CC) _ rfl rfl Tryz.func8 rfl]
  cases b0
  · simp [Tryz.f8, go_sem, e0, e1, e2]
  cases b1
  · simp [Tryz.f8, go_sem, e0, e1, e2]
  simp [Tryz.f8, go_sem, e0, e1, e2]
set_option maxHeartbeats 4000000 in
theorem iSameMem (x y : GMemory) (hb : x.bulk ≤ maxRow) : dPure CC 43 [x.enc, y.enc] = some (.bool (sameMem x y)) := by
  rw [GMemory.bulk_eq] at hb
  try unfold bulkL at hb
  have e0 := slEqualBlock x.Free y.Free (by omega)
  unfold sameMem
  rw [dPure_eq (C := CC) _ rfl rfl Tryz.func43 rfl]
  by_cases h0 : x.Bytes = y.Bytes
  rotate_left
  · simp [Tryz.f43, go_sem, e0, h0]
  simp [Tryz.f43, go_sem, e0, h0]
set_option maxHeartbeats 4000000 in
theorem iSameTable (x y : GTable) (hb : x.bulk ≤ maxRow) : dPure CC 130 [x.enc, y.enc] = some (.bool (sameTable x y)) := by
  rw [GTable.bulk_eq] at hb
  try unfold bulkL at hb
  have e0 := slEqualEntry x.Entries y.Entries (by omega)
  unfold sameTable
  rw [dPure_eq (C := CC) _ rfl rfl Tryz.func130 rfl]
  by_cases h0 : x.Next = y.Next
  rotate_left
  · simp [Tryz.f130, go_sem, e0, h0]
  simp [Tryz.f130, go_sem, e0, h0]
set_option maxHeartbeats 4000000 in
theorem iSameShelf (x y : GShelf) (hb : x.bulk ≤ maxRow) : dPure CC 82 [x.enc, y.enc] = some (.bool (sameShelf x y)) := by
  rw [GShelf.bulk_eq] at hb
  try unfold bulkL at hb
  have e0 := slEqualThing x.Things y.Things (by omega)
  have e1 := slEqualFuncTable x.Tables y.Tables 130 [] [] sameTable (by omega) (fun a ha b _ H => by have h := iSameTable a b (by have := sum_mem GTable.bulk ha; omega); simp [go_sem, h])
  unfold sameShelf
  revert e0 e1
  generalize decide (x.Things = y.Things) = b1
  intro e0 e1
  rw [dPure_eq (C := CC) _ rfl rfl Tryz.func82 rfl]
  by_cases h0 : x.Next = y.Next
  rotate_left
  · simp [Tryz.f82, go_sem, e0, e1, h0]
  cases b1
  · simp [Tryz.f82, go_sem, e0, e1, h0]
  simp [Tryz.f82, go_sem, e0, e1, h0]
set_option maxHeartbeats 4000000 in
theorem iSameCall (x y : GCall) (hb : x.bulk ≤ maxRow) : dPure CC 85 [x.enc, y.enc] = some (.bool (sameCall x y)) := by
  rw [GCall.bulk_eq] at hb
  try unfold bulkL at hb
  have e0 := slEqualInt64 x.Args y.Args (by omega)
  unfold sameCall
  rw [dPure_eq (C := CC) _ rfl rfl Tryz.func85 rfl]
  by_cases h0 : x.Id = y.Id
  rotate_left
  · simp [Tryz.f85, go_sem, e0, h0]
  by_cases h1 : x.Caller = y.Caller
  rotate_left
  · simp [Tryz.f85, go_sem, e0, h0, h1]
  by_cases h2 : x.Callee = y.Callee
  rotate_left
  · simp [Tryz.f85, go_sem, e0, h0, h1, h2]
  simp [Tryz.f85, go_sem, e0, h0, h1, h2]
set_option maxHeartbeats 4000000 in
theorem iSameYard (x y : GYard) (hb : x.bulk ≤ maxRow) : dPure CC 44 [x.enc, y.enc] = some (.bool (sameYard x y)) := by
  rw [GYard.bulk_eq] at hb
  try unfold bulkL at hb
  have e0 := iSameShelf x.Shelf y.Shelf (by omega)
  have e1 := slEqualInt64 x.Dead y.Dead (by omega)
  have e2 := slEqualFuncCall x.Stack y.Stack 85 [] [] sameCall (by omega) (fun a ha b _ H => by have h := iSameCall a b (by have := sum_mem GCall.bulk ha; omega); simp [go_sem, h])
  unfold sameYard
  revert e0 e1 e2
  generalize sameShelf x.Shelf y.Shelf = b0
  generalize decide (x.Dead = y.Dead) = b2
  intro e0 e1 e2
  rw [dPure_eq (C := CC) _ rfl rfl Tryz.func44 rfl]
  cases b0
  · simp [Tryz.f44, go_sem, e0, e1, e2]
  by_cases h1 : x.Next = y.Next
  rotate_left
  · simp [Tryz.f44, go_sem, e0, e1, e2, h1]
  cases b2
  · simp [Tryz.f44, go_sem, e0, e1, e2, h1]
  simp [Tryz.f44, go_sem, e0, e1, e2, h1]
set_option maxHeartbeats 4000000 in
theorem iSameHC (x y : GHostCall) (hb : x.bulk ≤ maxRow) : dPure CC 46 [x.enc, y.enc] = some (.bool (sameHC x y)) := by
  rw [GHostCall.bulk_eq] at hb
  try unfold bulkL at hb
  have e0 := slEqualString x.Args y.Args (by omega)
  unfold sameHC
  revert e0
  generalize decide (x.Args = y.Args) = b2
  intro e0
  rw [dPure_eq (C := CC) _ rfl rfl Tryz.func46 rfl]
  by_cases h0 : x.Inst = y.Inst
  rotate_left
  · simp [Tryz.f46, go_sem, e0, h0]
  by_cases h1 : x.Word = y.Word
  rotate_left
  · simp [Tryz.f46, go_sem, e0, h0, h1]
  cases b2
  · simp [Tryz.f46, go_sem, e0, h0, h1]
  simp [Tryz.f46, go_sem, e0, h0, h1]
set_option maxHeartbeats 4000000 in
theorem iSameRun (x y : GRunning) (hb : x.bulk ≤ maxRow) : dPure CC 13 [x.enc, y.enc] = some (.bool (sameRun x y)) := by
  rw [GRunning.bulk_eq] at hb
  try unfold bulkL at hb
  have e0 := iSameGraph x.Graph y.Graph (by omega)
  have e1 := slEqualFuncMemory x.Memory y.Memory 43 [] [] sameMem (by omega) (fun a ha b _ H => by have h := iSameMem a b (by have := sum_mem GMemory.bulk ha; omega); simp [go_sem, h])
  have e2 := iSameYard x.Yard y.Yard (by omega)
  have e3 := slEqualFuncHostCall x.Log y.Log 46 [] [] sameHC (by omega) (fun a ha b _ H => by have h := iSameHC a b (by have := sum_mem GHostCall.bulk ha; omega); simp [go_sem, h])
  unfold sameRun
  revert e0 e1 e2 e3
  generalize sameGraph x.Graph y.Graph = b0
  generalize all2 sameMem x.Memory y.Memory = b2
  generalize sameYard x.Yard y.Yard = b3
  intro e0 e1 e2 e3
  rw [dPure_eq (C := CC) _ rfl rfl Tryz.func13 rfl]
  cases b0
  · simp [Tryz.f13, go_sem, e0, e1, e2, e3]
  by_cases h1 : x.Fused = y.Fused
  rotate_left
  · have hq : (x.Fused == y.Fused) = false := by simpa using h1
    simp [Tryz.f13, go_sem, e0, e1, e2, e3, h1, hq]
  cases b2
  · simp [Tryz.f13, go_sem, e0, e1, e2, e3, h1]
  cases b3
  · simp [Tryz.f13, go_sem, e0, e1, e2, e3, h1]
  simp [Tryz.f13, go_sem, e0, e1, e2, e3, h1]
end Go.Proofs.YtdlkndnlpgmdaaaGreat.V
