/- The data of the laws as Lean knows them, and how V holds them. No condition. -/
import Derived.Test.YtdlkndnlpgmdaaaGreatVBase
namespace Go.Proofs.YtdlkndnlpgmdaaaGreat.V
open Go Go.V Go.Proofs
set_option linter.unusedSimpArgs false
set_option linter.unusedVariables false

structure GType where
  Kind : Int
  Name : List UInt8
  Labels : List (List UInt8)
  Kids : List GType
mutual
def GType.enc : GType → PV
  | ⟨f0, f1, f2, f3⟩ => .agg [.int .i64 f0, .str f1, .slice false (f2.map PV.str), .slice false (GType.encs f3)]
def GType.encs : List GType → List PV
  | [] => []
  | t :: ts => t.enc :: GType.encs ts
end
mutual
def GType.bulk : GType → Nat
  | ⟨f0, f1, f2, f3⟩ => f1.length + bulkL List.length f2 + (f3.length + GType.bulks f3)
def GType.bulks : List GType → Nat
  | [] => 0
  | t :: ts => t.bulk + GType.bulks ts
end
mutual
def GType.Fits : GType → Prop
  | ⟨f0, f1, f2, f3⟩ => (-9223372036854775808 ≤ f0 ∧ f0 ≤ 9223372036854775807) ∧ f1.length ≤ 9223372036854775807 ∧ (f2.length ≤ 9223372036854775807 ∧ ∀ y ∈ f2, y.length ≤ 9223372036854775807) ∧ (f3.length ≤ 9223372036854775807 ∧ GType.FitsS f3)
def GType.FitsS : List GType → Prop
  | [] => True
  | t :: ts => t.Fits ∧ GType.FitsS ts
end
theorem GType.encs_eq : ∀ l : List GType, GType.encs l = l.map GType.enc
  | [] => by simp [GType.encs]
  | t :: ts => by simp [GType.encs, GType.encs_eq ts]
theorem GType.bulks_eq : ∀ l : List GType, GType.bulks l = (l.map GType.bulk).sum
  | [] => by simp [GType.bulks]
  | t :: ts => by simp [GType.bulks, GType.bulks_eq ts]
theorem GType.fitsS_eq : ∀ l : List GType, GType.FitsS l ↔ ∀ y ∈ l, y.Fits
  | [] => by simp [GType.FitsS]
  | t :: ts => by simp [GType.FitsS, GType.fitsS_eq ts]
theorem GType.ind {P : GType → Prop} (h : ∀ x : GType, (∀ y ∈ x.Kids, P y) → P x) : ∀ x, P x := by
  intro x
  induction hn : SizeOf.sizeOf x using Nat.strongRecOn generalizing x with
  | _ n ih =>
    subst hn
    refine h x fun y hy => ih _ ?_ y rfl
    cases x
    have := List.sizeOf_lt_of_mem hy
    simp at this ⊢
    omega
theorem GType.enc_eq (x : GType) : x.enc = .agg [.int .i64 x.Kind, .str x.Name, .slice false (x.Labels.map PV.str), .slice false (x.Kids.map GType.enc)] := by cases x; simp [GType.enc, GType.encs_eq]
theorem GType.bulk_eq (x : GType) : x.bulk = x.Name.length + bulkL List.length x.Labels + bulkL GType.bulk x.Kids := by cases x; simp [GType.bulk, GType.bulks_eq, bulkL]
theorem GType.fits_eq (x : GType) : x.Fits = ((-9223372036854775808 ≤ x.Kind ∧ x.Kind ≤ 9223372036854775807) ∧ x.Name.length ≤ 9223372036854775807 ∧ (x.Labels.length ≤ 9223372036854775807 ∧ ∀ y ∈ x.Labels, y.length ≤ 9223372036854775807) ∧ (x.Kids.length ≤ 9223372036854775807 ∧ ∀ y ∈ x.Kids, y.Fits)) := by cases x; simp only [GType.Fits, GType.fitsS_eq]
@[go_sem] theorem GType.cells (x : GType) : x.enc.cells = [.int .i64 x.Kind, .str x.Name, .slice false (x.Labels.map PV.str), .slice false (x.Kids.map GType.enc)] := by rw [GType.enc_eq]; rfl
@[go_sem] theorem GType.fold (x : GType) : PV.agg [.int .i64 x.Kind, .str x.Name, .slice false (x.Labels.map PV.str), .slice false (x.Kids.map GType.enc)] = x.enc := (GType.enc_eq x).symm
@[go_sem] theorem GType.val (x : GType) : x.enc.isVal = true := by rw [GType.enc_eq]; rfl
@[go_sem] theorem GType.one (x : GType) : x.enc.one = false := by rw [GType.enc_eq]; rfl
@[go_sem] theorem GType.withCells (x : GType) (cs : List PV) : x.enc.withCells cs = some (.agg cs) := by rw [GType.enc_eq]; rfl
theorem GType.plain (x : GType) : Plain x.enc := GType.ind (P := fun x => Plain x.enc) (fun x ih => by rw [GType.enc_eq]; exact Plain.agg_mk (Plains.cons (plain_int _ _) (Plains.cons (plain_str _) (Plains.cons (Plain.maps fun y _ => plain_str _) (Plains.cons (Plain.maps ih) Plains.nil))))) x
@[go_sem] theorem GType.noRef (x : GType) : x.enc.noRef = true := GType.ind (P := fun x => x.enc.noRef = true) (fun x ih => by rw [GType.enc_eq]; exact noRef_agg_mk (noRefs_cons_mk (rfl) (noRefs_cons_mk (rfl) (noRefs_cons_mk (noRef_maps fun y _ => rfl) (noRefs_cons_mk (noRef_maps ih) noRefs_nil))))) x
@[go_sem] theorem GType.res (H : Heap) (x : GType) : res H x.enc = some x.enc := GType.plain x H
@[go_sem] theorem GType.resL (H : Heap) (l : List GType) : resL H (l.map GType.enc) = some (l.map GType.enc) := Plain.map GType.plain l H
@[go_sem] theorem GType.noRefs (l : List GType) : noRefs (l.map GType.enc) = true := noRefs_map fun y _ => GType.noRef y
structure GParam where
  Name : List UInt8
  Ty : GType
def GParam.enc (x : GParam) : PV := .agg [.str x.Name, .int .i64 x.Ty.Kind, .str x.Ty.Name, .slice false (x.Ty.Labels.map PV.str), .slice false (x.Ty.Kids.map GType.enc)]
theorem GParam.enc_eq (x : GParam) : x.enc = .agg [.str x.Name, .int .i64 x.Ty.Kind, .str x.Ty.Name, .slice false (x.Ty.Labels.map PV.str), .slice false (x.Ty.Kids.map GType.enc)] := rfl
def GParam.bulk (x : GParam) : Nat := x.Name.length + x.Ty.bulk
theorem GParam.bulk_eq (x : GParam) : x.bulk = x.Name.length + x.Ty.bulk := rfl
def GParam.Fits (x : GParam) : Prop := x.Name.length ≤ 9223372036854775807 ∧ x.Ty.Fits
theorem GParam.fits_eq (x : GParam) : x.Fits = (x.Name.length ≤ 9223372036854775807 ∧ x.Ty.Fits) := rfl
@[go_sem] theorem GParam.cells (x : GParam) : x.enc.cells = [.str x.Name, .int .i64 x.Ty.Kind, .str x.Ty.Name, .slice false (x.Ty.Labels.map PV.str), .slice false (x.Ty.Kids.map GType.enc)] := by rw [GParam.enc_eq]; rfl
@[go_sem] theorem GParam.fold (x : GParam) : PV.agg [.str x.Name, .int .i64 x.Ty.Kind, .str x.Ty.Name, .slice false (x.Ty.Labels.map PV.str), .slice false (x.Ty.Kids.map GType.enc)] = x.enc := (GParam.enc_eq x).symm
@[go_sem] theorem GParam.val (x : GParam) : x.enc.isVal = true := by rw [GParam.enc_eq]; rfl
@[go_sem] theorem GParam.one (x : GParam) : x.enc.one = false := by rw [GParam.enc_eq]; rfl
@[go_sem] theorem GParam.withCells (x : GParam) (cs : List PV) : x.enc.withCells cs = some (.agg cs) := by rw [GParam.enc_eq]; rfl
theorem GParam.plain (x : GParam) : Plain x.enc := by rw [GParam.enc_eq]; exact Plain.agg_mk (Plains.cons (plain_str _) (Plains.cons (plain_int _ _) (Plains.cons (plain_str _) (Plains.cons (Plain.maps fun y _ => plain_str _) (Plains.cons (Plain.maps fun y _ => GType.plain y) Plains.nil)))))
@[go_sem] theorem GParam.noRef (x : GParam) : x.enc.noRef = true := by rw [GParam.enc_eq]; exact noRef_agg_mk (noRefs_cons_mk (rfl) (noRefs_cons_mk (rfl) (noRefs_cons_mk (rfl) (noRefs_cons_mk (noRef_maps fun y _ => rfl) (noRefs_cons_mk (noRef_maps fun y _ => GType.noRef y) noRefs_nil)))))
@[go_sem] theorem GParam.res (H : Heap) (x : GParam) : res H x.enc = some x.enc := GParam.plain x H
@[go_sem] theorem GParam.resL (H : Heap) (l : List GParam) : resL H (l.map GParam.enc) = some (l.map GParam.enc) := Plain.map GParam.plain l H
@[go_sem] theorem GParam.noRefs (l : List GParam) : noRefs (l.map GParam.enc) = true := noRefs_map fun y _ => GParam.noRef y
structure GFuncType where
  Params : List GParam
  Result : GType
  Async : Bool
def GFuncType.enc (x : GFuncType) : PV := .agg [.slice false (x.Params.map GParam.enc), .int .i64 x.Result.Kind, .str x.Result.Name, .slice false (x.Result.Labels.map PV.str), .slice false (x.Result.Kids.map GType.enc), .bool x.Async]
theorem GFuncType.enc_eq (x : GFuncType) : x.enc = .agg [.slice false (x.Params.map GParam.enc), .int .i64 x.Result.Kind, .str x.Result.Name, .slice false (x.Result.Labels.map PV.str), .slice false (x.Result.Kids.map GType.enc), .bool x.Async] := rfl
def GFuncType.bulk (x : GFuncType) : Nat := bulkL GParam.bulk x.Params + x.Result.bulk
theorem GFuncType.bulk_eq (x : GFuncType) : x.bulk = bulkL GParam.bulk x.Params + x.Result.bulk := rfl
def GFuncType.Fits (x : GFuncType) : Prop := (x.Params.length ≤ 9223372036854775807 ∧ ∀ y ∈ x.Params, y.Fits) ∧ x.Result.Fits ∧ True
theorem GFuncType.fits_eq (x : GFuncType) : x.Fits = ((x.Params.length ≤ 9223372036854775807 ∧ ∀ y ∈ x.Params, y.Fits) ∧ x.Result.Fits ∧ True) := rfl
@[go_sem] theorem GFuncType.cells (x : GFuncType) : x.enc.cells = [.slice false (x.Params.map GParam.enc), .int .i64 x.Result.Kind, .str x.Result.Name, .slice false (x.Result.Labels.map PV.str), .slice false (x.Result.Kids.map GType.enc), .bool x.Async] := by rw [GFuncType.enc_eq]; rfl
@[go_sem] theorem GFuncType.fold (x : GFuncType) : PV.agg [.slice false (x.Params.map GParam.enc), .int .i64 x.Result.Kind, .str x.Result.Name, .slice false (x.Result.Labels.map PV.str), .slice false (x.Result.Kids.map GType.enc), .bool x.Async] = x.enc := (GFuncType.enc_eq x).symm
@[go_sem] theorem GFuncType.val (x : GFuncType) : x.enc.isVal = true := by rw [GFuncType.enc_eq]; rfl
@[go_sem] theorem GFuncType.one (x : GFuncType) : x.enc.one = false := by rw [GFuncType.enc_eq]; rfl
@[go_sem] theorem GFuncType.withCells (x : GFuncType) (cs : List PV) : x.enc.withCells cs = some (.agg cs) := by rw [GFuncType.enc_eq]; rfl
theorem GFuncType.plain (x : GFuncType) : Plain x.enc := by rw [GFuncType.enc_eq]; exact Plain.agg_mk (Plains.cons (Plain.maps fun y _ => GParam.plain y) (Plains.cons (plain_int _ _) (Plains.cons (plain_str _) (Plains.cons (Plain.maps fun y _ => plain_str _) (Plains.cons (Plain.maps fun y _ => GType.plain y) (Plains.cons (plain_bool _) Plains.nil))))))
@[go_sem] theorem GFuncType.noRef (x : GFuncType) : x.enc.noRef = true := by rw [GFuncType.enc_eq]; exact noRef_agg_mk (noRefs_cons_mk (noRef_maps fun y _ => GParam.noRef y) (noRefs_cons_mk (rfl) (noRefs_cons_mk (rfl) (noRefs_cons_mk (noRef_maps fun y _ => rfl) (noRefs_cons_mk (noRef_maps fun y _ => GType.noRef y) (noRefs_cons_mk (rfl) noRefs_nil))))))
@[go_sem] theorem GFuncType.res (H : Heap) (x : GFuncType) : res H x.enc = some x.enc := GFuncType.plain x H
@[go_sem] theorem GFuncType.resL (H : Heap) (l : List GFuncType) : resL H (l.map GFuncType.enc) = some (l.map GFuncType.enc) := Plain.map GFuncType.plain l H
@[go_sem] theorem GFuncType.noRefs (l : List GFuncType) : noRefs (l.map GFuncType.enc) = true := noRefs_map fun y _ => GFuncType.noRef y
structure GFunc where
  Name : List UInt8
  Ty : GFuncType
def GFunc.enc (x : GFunc) : PV := .agg [.str x.Name, .slice false (x.Ty.Params.map GParam.enc), .int .i64 x.Ty.Result.Kind, .str x.Ty.Result.Name, .slice false (x.Ty.Result.Labels.map PV.str), .slice false (x.Ty.Result.Kids.map GType.enc), .bool x.Ty.Async]
theorem GFunc.enc_eq (x : GFunc) : x.enc = .agg [.str x.Name, .slice false (x.Ty.Params.map GParam.enc), .int .i64 x.Ty.Result.Kind, .str x.Ty.Result.Name, .slice false (x.Ty.Result.Labels.map PV.str), .slice false (x.Ty.Result.Kids.map GType.enc), .bool x.Ty.Async] := rfl
def GFunc.bulk (x : GFunc) : Nat := x.Name.length + x.Ty.bulk
theorem GFunc.bulk_eq (x : GFunc) : x.bulk = x.Name.length + x.Ty.bulk := rfl
def GFunc.Fits (x : GFunc) : Prop := x.Name.length ≤ 9223372036854775807 ∧ x.Ty.Fits
theorem GFunc.fits_eq (x : GFunc) : x.Fits = (x.Name.length ≤ 9223372036854775807 ∧ x.Ty.Fits) := rfl
@[go_sem] theorem GFunc.cells (x : GFunc) : x.enc.cells = [.str x.Name, .slice false (x.Ty.Params.map GParam.enc), .int .i64 x.Ty.Result.Kind, .str x.Ty.Result.Name, .slice false (x.Ty.Result.Labels.map PV.str), .slice false (x.Ty.Result.Kids.map GType.enc), .bool x.Ty.Async] := by rw [GFunc.enc_eq]; rfl
@[go_sem] theorem GFunc.fold (x : GFunc) : PV.agg [.str x.Name, .slice false (x.Ty.Params.map GParam.enc), .int .i64 x.Ty.Result.Kind, .str x.Ty.Result.Name, .slice false (x.Ty.Result.Labels.map PV.str), .slice false (x.Ty.Result.Kids.map GType.enc), .bool x.Ty.Async] = x.enc := (GFunc.enc_eq x).symm
@[go_sem] theorem GFunc.val (x : GFunc) : x.enc.isVal = true := by rw [GFunc.enc_eq]; rfl
@[go_sem] theorem GFunc.one (x : GFunc) : x.enc.one = false := by rw [GFunc.enc_eq]; rfl
@[go_sem] theorem GFunc.withCells (x : GFunc) (cs : List PV) : x.enc.withCells cs = some (.agg cs) := by rw [GFunc.enc_eq]; rfl
theorem GFunc.plain (x : GFunc) : Plain x.enc := by rw [GFunc.enc_eq]; exact Plain.agg_mk (Plains.cons (plain_str _) (Plains.cons (Plain.maps fun y _ => GParam.plain y) (Plains.cons (plain_int _ _) (Plains.cons (plain_str _) (Plains.cons (Plain.maps fun y _ => plain_str _) (Plains.cons (Plain.maps fun y _ => GType.plain y) (Plains.cons (plain_bool _) Plains.nil)))))))
@[go_sem] theorem GFunc.noRef (x : GFunc) : x.enc.noRef = true := by rw [GFunc.enc_eq]; exact noRef_agg_mk (noRefs_cons_mk (rfl) (noRefs_cons_mk (noRef_maps fun y _ => GParam.noRef y) (noRefs_cons_mk (rfl) (noRefs_cons_mk (rfl) (noRefs_cons_mk (noRef_maps fun y _ => rfl) (noRefs_cons_mk (noRef_maps fun y _ => GType.noRef y) (noRefs_cons_mk (rfl) noRefs_nil)))))))
@[go_sem] theorem GFunc.res (H : Heap) (x : GFunc) : res H x.enc = some x.enc := GFunc.plain x H
@[go_sem] theorem GFunc.resL (H : Heap) (l : List GFunc) : resL H (l.map GFunc.enc) = some (l.map GFunc.enc) := Plain.map GFunc.plain l H
@[go_sem] theorem GFunc.noRefs (l : List GFunc) : noRefs (l.map GFunc.enc) = true := noRefs_map fun y _ => GFunc.noRef y
structure GFace where
  Package : List UInt8
  Name : List UInt8
  Version : List UInt8
  Resources : List (List UInt8)
  Funcs : List GFunc
def GFace.enc (x : GFace) : PV := .agg [.str x.Package, .str x.Name, .str x.Version, .slice false (x.Resources.map PV.str), .slice false (x.Funcs.map GFunc.enc)]
theorem GFace.enc_eq (x : GFace) : x.enc = .agg [.str x.Package, .str x.Name, .str x.Version, .slice false (x.Resources.map PV.str), .slice false (x.Funcs.map GFunc.enc)] := rfl
def GFace.bulk (x : GFace) : Nat := x.Package.length + x.Name.length + x.Version.length + bulkL List.length x.Resources + bulkL GFunc.bulk x.Funcs
theorem GFace.bulk_eq (x : GFace) : x.bulk = x.Package.length + x.Name.length + x.Version.length + bulkL List.length x.Resources + bulkL GFunc.bulk x.Funcs := rfl
def GFace.Fits (x : GFace) : Prop := x.Package.length ≤ 9223372036854775807 ∧ x.Name.length ≤ 9223372036854775807 ∧ x.Version.length ≤ 9223372036854775807 ∧ (x.Resources.length ≤ 9223372036854775807 ∧ ∀ y ∈ x.Resources, y.length ≤ 9223372036854775807) ∧ (x.Funcs.length ≤ 9223372036854775807 ∧ ∀ y ∈ x.Funcs, y.Fits)
theorem GFace.fits_eq (x : GFace) : x.Fits = (x.Package.length ≤ 9223372036854775807 ∧ x.Name.length ≤ 9223372036854775807 ∧ x.Version.length ≤ 9223372036854775807 ∧ (x.Resources.length ≤ 9223372036854775807 ∧ ∀ y ∈ x.Resources, y.length ≤ 9223372036854775807) ∧ (x.Funcs.length ≤ 9223372036854775807 ∧ ∀ y ∈ x.Funcs, y.Fits)) := rfl
@[go_sem] theorem GFace.cells (x : GFace) : x.enc.cells = [.str x.Package, .str x.Name, .str x.Version, .slice false (x.Resources.map PV.str), .slice false (x.Funcs.map GFunc.enc)] := by rw [GFace.enc_eq]; rfl
@[go_sem] theorem GFace.fold (x : GFace) : PV.agg [.str x.Package, .str x.Name, .str x.Version, .slice false (x.Resources.map PV.str), .slice false (x.Funcs.map GFunc.enc)] = x.enc := (GFace.enc_eq x).symm
@[go_sem] theorem GFace.val (x : GFace) : x.enc.isVal = true := by rw [GFace.enc_eq]; rfl
@[go_sem] theorem GFace.one (x : GFace) : x.enc.one = false := by rw [GFace.enc_eq]; rfl
@[go_sem] theorem GFace.withCells (x : GFace) (cs : List PV) : x.enc.withCells cs = some (.agg cs) := by rw [GFace.enc_eq]; rfl
theorem GFace.plain (x : GFace) : Plain x.enc := by rw [GFace.enc_eq]; exact Plain.agg_mk (Plains.cons (plain_str _) (Plains.cons (plain_str _) (Plains.cons (plain_str _) (Plains.cons (Plain.maps fun y _ => plain_str _) (Plains.cons (Plain.maps fun y _ => GFunc.plain y) Plains.nil)))))
@[go_sem] theorem GFace.noRef (x : GFace) : x.enc.noRef = true := by rw [GFace.enc_eq]; exact noRef_agg_mk (noRefs_cons_mk (rfl) (noRefs_cons_mk (rfl) (noRefs_cons_mk (rfl) (noRefs_cons_mk (noRef_maps fun y _ => rfl) (noRefs_cons_mk (noRef_maps fun y _ => GFunc.noRef y) noRefs_nil)))))
@[go_sem] theorem GFace.res (H : Heap) (x : GFace) : res H x.enc = some x.enc := GFace.plain x H
@[go_sem] theorem GFace.resL (H : Heap) (l : List GFace) : resL H (l.map GFace.enc) = some (l.map GFace.enc) := Plain.map GFace.plain l H
@[go_sem] theorem GFace.noRefs (l : List GFace) : noRefs (l.map GFace.enc) = true := noRefs_map fun y _ => GFace.noRef y
structure GBlock where
  At : Int
  Size : Int
deriving DecidableEq
def GBlock.enc (x : GBlock) : PV := .agg [.int .i64 x.At, .int .i64 x.Size]
theorem GBlock.enc_eq (x : GBlock) : x.enc = .agg [.int .i64 x.At, .int .i64 x.Size] := rfl
def GBlock.bulk (x : GBlock) : Nat := 0
theorem GBlock.bulk_eq (x : GBlock) : x.bulk = 0 := rfl
def GBlock.Fits (x : GBlock) : Prop := (-9223372036854775808 ≤ x.At ∧ x.At ≤ 9223372036854775807) ∧ (-9223372036854775808 ≤ x.Size ∧ x.Size ≤ 9223372036854775807)
theorem GBlock.fits_eq (x : GBlock) : x.Fits = ((-9223372036854775808 ≤ x.At ∧ x.At ≤ 9223372036854775807) ∧ (-9223372036854775808 ≤ x.Size ∧ x.Size ≤ 9223372036854775807)) := rfl
@[go_sem] theorem GBlock.cells (x : GBlock) : x.enc.cells = [.int .i64 x.At, .int .i64 x.Size] := by rw [GBlock.enc_eq]; rfl
@[go_sem] theorem GBlock.fold (x : GBlock) : PV.agg [.int .i64 x.At, .int .i64 x.Size] = x.enc := (GBlock.enc_eq x).symm
@[go_sem] theorem GBlock.val (x : GBlock) : x.enc.isVal = true := by rw [GBlock.enc_eq]; rfl
@[go_sem] theorem GBlock.one (x : GBlock) : x.enc.one = false := by rw [GBlock.enc_eq]; rfl
@[go_sem] theorem GBlock.withCells (x : GBlock) (cs : List PV) : x.enc.withCells cs = some (.agg cs) := by rw [GBlock.enc_eq]; rfl
theorem GBlock.plain (x : GBlock) : Plain x.enc := by rw [GBlock.enc_eq]; exact Plain.agg_mk (Plains.cons (plain_int _ _) (Plains.cons (plain_int _ _) Plains.nil))
@[go_sem] theorem GBlock.noRef (x : GBlock) : x.enc.noRef = true := by rw [GBlock.enc_eq]; exact noRef_agg_mk (noRefs_cons_mk (rfl) (noRefs_cons_mk (rfl) noRefs_nil))
@[go_sem] theorem GBlock.res (H : Heap) (x : GBlock) : res H x.enc = some x.enc := GBlock.plain x H
@[go_sem] theorem GBlock.resL (H : Heap) (l : List GBlock) : resL H (l.map GBlock.enc) = some (l.map GBlock.enc) := Plain.map GBlock.plain l H
@[go_sem] theorem GBlock.noRefs (l : List GBlock) : noRefs (l.map GBlock.enc) = true := noRefs_map fun y _ => GBlock.noRef y
theorem GBlock.eq_iff (x y : GBlock) : x = y ↔ x.At = y.At ∧ x.Size = y.Size := by cases x; cases y; simp
@[go_sem] theorem GBlock.eql (x y : GBlock) : binP Tryz.prog .eql 172 x.enc y.enc = some (.bool (decide (x = y))) := by
  rw [GBlock.enc_eq, GBlock.enc_eq, binP_agg_eql, te172, Option.bind_some]
  simp only [eqKs, eqK, if_true, Option.bind_some, Option.map_some]
  congr 2
  rw [Bool.eq_iff_iff]
  simp [GBlock.eq_iff]
@[go_sem] theorem GBlock.neq (x y : GBlock) : binP Tryz.prog .neq 172 x.enc y.enc = some (.bool (!decide (x = y))) := by
  have h := GBlock.eql x y
  rw [GBlock.enc_eq, GBlock.enc_eq] at h ⊢
  rw [binP_agg_eql, te172, Option.bind_some] at h
  rw [binP_agg_neq, te172, Option.bind_some]
  simp only [Option.map_eq_some_iff, PV.bool.injEq] at h ⊢
  obtain ⟨b, h1, h2⟩ := h
  exact ⟨b, h1, by rw [h2]⟩
structure GMemory where
  Bytes : List UInt8
  Free : List GBlock
deriving DecidableEq
def GMemory.enc (x : GMemory) : PV := .agg [.str x.Bytes, .slice false (x.Free.map GBlock.enc)]
theorem GMemory.enc_eq (x : GMemory) : x.enc = .agg [.str x.Bytes, .slice false (x.Free.map GBlock.enc)] := rfl
def GMemory.bulk (x : GMemory) : Nat := x.Bytes.length + bulkL GBlock.bulk x.Free
theorem GMemory.bulk_eq (x : GMemory) : x.bulk = x.Bytes.length + bulkL GBlock.bulk x.Free := rfl
def GMemory.Fits (x : GMemory) : Prop := x.Bytes.length ≤ 9223372036854775807 ∧ (x.Free.length ≤ 9223372036854775807 ∧ ∀ y ∈ x.Free, y.Fits)
theorem GMemory.fits_eq (x : GMemory) : x.Fits = (x.Bytes.length ≤ 9223372036854775807 ∧ (x.Free.length ≤ 9223372036854775807 ∧ ∀ y ∈ x.Free, y.Fits)) := rfl
@[go_sem] theorem GMemory.cells (x : GMemory) : x.enc.cells = [.str x.Bytes, .slice false (x.Free.map GBlock.enc)] := by rw [GMemory.enc_eq]; rfl
@[go_sem] theorem GMemory.fold (x : GMemory) : PV.agg [.str x.Bytes, .slice false (x.Free.map GBlock.enc)] = x.enc := (GMemory.enc_eq x).symm
@[go_sem] theorem GMemory.val (x : GMemory) : x.enc.isVal = true := by rw [GMemory.enc_eq]; rfl
@[go_sem] theorem GMemory.one (x : GMemory) : x.enc.one = false := by rw [GMemory.enc_eq]; rfl
@[go_sem] theorem GMemory.withCells (x : GMemory) (cs : List PV) : x.enc.withCells cs = some (.agg cs) := by rw [GMemory.enc_eq]; rfl
theorem GMemory.plain (x : GMemory) : Plain x.enc := by rw [GMemory.enc_eq]; exact Plain.agg_mk (Plains.cons (plain_str _) (Plains.cons (Plain.maps fun y _ => GBlock.plain y) Plains.nil))
@[go_sem] theorem GMemory.noRef (x : GMemory) : x.enc.noRef = true := by rw [GMemory.enc_eq]; exact noRef_agg_mk (noRefs_cons_mk (rfl) (noRefs_cons_mk (noRef_maps fun y _ => GBlock.noRef y) noRefs_nil))
@[go_sem] theorem GMemory.res (H : Heap) (x : GMemory) : res H x.enc = some x.enc := GMemory.plain x H
@[go_sem] theorem GMemory.resL (H : Heap) (l : List GMemory) : resL H (l.map GMemory.enc) = some (l.map GMemory.enc) := Plain.map GMemory.plain l H
@[go_sem] theorem GMemory.noRefs (l : List GMemory) : noRefs (l.map GMemory.enc) = true := noRefs_map fun y _ => GMemory.noRef y
structure GIns where
  Op : Int
  A : Int
deriving DecidableEq
def GIns.enc (x : GIns) : PV := .agg [.int .i64 x.Op, .int .i64 x.A]
theorem GIns.enc_eq (x : GIns) : x.enc = .agg [.int .i64 x.Op, .int .i64 x.A] := rfl
def GIns.bulk (x : GIns) : Nat := 0
theorem GIns.bulk_eq (x : GIns) : x.bulk = 0 := rfl
def GIns.Fits (x : GIns) : Prop := (-9223372036854775808 ≤ x.Op ∧ x.Op ≤ 9223372036854775807) ∧ (-9223372036854775808 ≤ x.A ∧ x.A ≤ 9223372036854775807)
theorem GIns.fits_eq (x : GIns) : x.Fits = ((-9223372036854775808 ≤ x.Op ∧ x.Op ≤ 9223372036854775807) ∧ (-9223372036854775808 ≤ x.A ∧ x.A ≤ 9223372036854775807)) := rfl
@[go_sem] theorem GIns.cells (x : GIns) : x.enc.cells = [.int .i64 x.Op, .int .i64 x.A] := by rw [GIns.enc_eq]; rfl
@[go_sem] theorem GIns.fold (x : GIns) : PV.agg [.int .i64 x.Op, .int .i64 x.A] = x.enc := (GIns.enc_eq x).symm
@[go_sem] theorem GIns.val (x : GIns) : x.enc.isVal = true := by rw [GIns.enc_eq]; rfl
@[go_sem] theorem GIns.one (x : GIns) : x.enc.one = false := by rw [GIns.enc_eq]; rfl
@[go_sem] theorem GIns.withCells (x : GIns) (cs : List PV) : x.enc.withCells cs = some (.agg cs) := by rw [GIns.enc_eq]; rfl
theorem GIns.plain (x : GIns) : Plain x.enc := by rw [GIns.enc_eq]; exact Plain.agg_mk (Plains.cons (plain_int _ _) (Plains.cons (plain_int _ _) Plains.nil))
@[go_sem] theorem GIns.noRef (x : GIns) : x.enc.noRef = true := by rw [GIns.enc_eq]; exact noRef_agg_mk (noRefs_cons_mk (rfl) (noRefs_cons_mk (rfl) noRefs_nil))
@[go_sem] theorem GIns.res (H : Heap) (x : GIns) : res H x.enc = some x.enc := GIns.plain x H
@[go_sem] theorem GIns.resL (H : Heap) (l : List GIns) : resL H (l.map GIns.enc) = some (l.map GIns.enc) := Plain.map GIns.plain l H
@[go_sem] theorem GIns.noRefs (l : List GIns) : noRefs (l.map GIns.enc) = true := noRefs_map fun y _ => GIns.noRef y
theorem GIns.eq_iff (x y : GIns) : x = y ↔ x.Op = y.Op ∧ x.A = y.A := by cases x; cases y; simp
@[go_sem] theorem GIns.eql (x y : GIns) : binP Tryz.prog .eql 251 x.enc y.enc = some (.bool (decide (x = y))) := by
  rw [GIns.enc_eq, GIns.enc_eq, binP_agg_eql, te251, Option.bind_some]
  simp only [eqKs, eqK, if_true, Option.bind_some, Option.map_some]
  congr 2
  rw [Bool.eq_iff_iff]
  simp [GIns.eq_iff]
@[go_sem] theorem GIns.neq (x y : GIns) : binP Tryz.prog .neq 251 x.enc y.enc = some (.bool (!decide (x = y))) := by
  have h := GIns.eql x y
  rw [GIns.enc_eq, GIns.enc_eq] at h ⊢
  rw [binP_agg_eql, te251, Option.bind_some] at h
  rw [binP_agg_neq, te251, Option.bind_some]
  simp only [Option.map_eq_some_iff, PV.bool.injEq] at h ⊢
  obtain ⟨b, h1, h2⟩ := h
  exact ⟨b, h1, by rw [h2]⟩
structure GCore where
  Name : List UInt8
  Params : Int
  Locals : Int
  Result : Bool
  Code : List GIns
deriving DecidableEq
def GCore.enc (x : GCore) : PV := .agg [.str x.Name, .int .i64 x.Params, .int .i64 x.Locals, .bool x.Result, .slice false (x.Code.map GIns.enc)]
theorem GCore.enc_eq (x : GCore) : x.enc = .agg [.str x.Name, .int .i64 x.Params, .int .i64 x.Locals, .bool x.Result, .slice false (x.Code.map GIns.enc)] := rfl
def GCore.bulk (x : GCore) : Nat := x.Name.length + bulkL GIns.bulk x.Code
theorem GCore.bulk_eq (x : GCore) : x.bulk = x.Name.length + bulkL GIns.bulk x.Code := rfl
def GCore.Fits (x : GCore) : Prop := x.Name.length ≤ 9223372036854775807 ∧ (-9223372036854775808 ≤ x.Params ∧ x.Params ≤ 9223372036854775807) ∧ (-9223372036854775808 ≤ x.Locals ∧ x.Locals ≤ 9223372036854775807) ∧ True ∧ (x.Code.length ≤ 9223372036854775807 ∧ ∀ y ∈ x.Code, y.Fits)
theorem GCore.fits_eq (x : GCore) : x.Fits = (x.Name.length ≤ 9223372036854775807 ∧ (-9223372036854775808 ≤ x.Params ∧ x.Params ≤ 9223372036854775807) ∧ (-9223372036854775808 ≤ x.Locals ∧ x.Locals ≤ 9223372036854775807) ∧ True ∧ (x.Code.length ≤ 9223372036854775807 ∧ ∀ y ∈ x.Code, y.Fits)) := rfl
@[go_sem] theorem GCore.cells (x : GCore) : x.enc.cells = [.str x.Name, .int .i64 x.Params, .int .i64 x.Locals, .bool x.Result, .slice false (x.Code.map GIns.enc)] := by rw [GCore.enc_eq]; rfl
@[go_sem] theorem GCore.fold (x : GCore) : PV.agg [.str x.Name, .int .i64 x.Params, .int .i64 x.Locals, .bool x.Result, .slice false (x.Code.map GIns.enc)] = x.enc := (GCore.enc_eq x).symm
@[go_sem] theorem GCore.val (x : GCore) : x.enc.isVal = true := by rw [GCore.enc_eq]; rfl
@[go_sem] theorem GCore.one (x : GCore) : x.enc.one = false := by rw [GCore.enc_eq]; rfl
@[go_sem] theorem GCore.withCells (x : GCore) (cs : List PV) : x.enc.withCells cs = some (.agg cs) := by rw [GCore.enc_eq]; rfl
theorem GCore.plain (x : GCore) : Plain x.enc := by rw [GCore.enc_eq]; exact Plain.agg_mk (Plains.cons (plain_str _) (Plains.cons (plain_int _ _) (Plains.cons (plain_int _ _) (Plains.cons (plain_bool _) (Plains.cons (Plain.maps fun y _ => GIns.plain y) Plains.nil)))))
@[go_sem] theorem GCore.noRef (x : GCore) : x.enc.noRef = true := by rw [GCore.enc_eq]; exact noRef_agg_mk (noRefs_cons_mk (rfl) (noRefs_cons_mk (rfl) (noRefs_cons_mk (rfl) (noRefs_cons_mk (rfl) (noRefs_cons_mk (noRef_maps fun y _ => GIns.noRef y) noRefs_nil)))))
@[go_sem] theorem GCore.res (H : Heap) (x : GCore) : res H x.enc = some x.enc := GCore.plain x H
@[go_sem] theorem GCore.resL (H : Heap) (l : List GCore) : resL H (l.map GCore.enc) = some (l.map GCore.enc) := Plain.map GCore.plain l H
@[go_sem] theorem GCore.noRefs (l : List GCore) : noRefs (l.map GCore.enc) = true := noRefs_map fun y _ => GCore.noRef y
structure GImport where
  Name : List UInt8
  Params : Int
  Result : Bool
deriving DecidableEq
def GImport.enc (x : GImport) : PV := .agg [.str x.Name, .int .i64 x.Params, .bool x.Result]
theorem GImport.enc_eq (x : GImport) : x.enc = .agg [.str x.Name, .int .i64 x.Params, .bool x.Result] := rfl
def GImport.bulk (x : GImport) : Nat := x.Name.length
theorem GImport.bulk_eq (x : GImport) : x.bulk = x.Name.length := rfl
def GImport.Fits (x : GImport) : Prop := x.Name.length ≤ 9223372036854775807 ∧ (-9223372036854775808 ≤ x.Params ∧ x.Params ≤ 9223372036854775807) ∧ True
theorem GImport.fits_eq (x : GImport) : x.Fits = (x.Name.length ≤ 9223372036854775807 ∧ (-9223372036854775808 ≤ x.Params ∧ x.Params ≤ 9223372036854775807) ∧ True) := rfl
@[go_sem] theorem GImport.cells (x : GImport) : x.enc.cells = [.str x.Name, .int .i64 x.Params, .bool x.Result] := by rw [GImport.enc_eq]; rfl
@[go_sem] theorem GImport.fold (x : GImport) : PV.agg [.str x.Name, .int .i64 x.Params, .bool x.Result] = x.enc := (GImport.enc_eq x).symm
@[go_sem] theorem GImport.val (x : GImport) : x.enc.isVal = true := by rw [GImport.enc_eq]; rfl
@[go_sem] theorem GImport.one (x : GImport) : x.enc.one = false := by rw [GImport.enc_eq]; rfl
@[go_sem] theorem GImport.withCells (x : GImport) (cs : List PV) : x.enc.withCells cs = some (.agg cs) := by rw [GImport.enc_eq]; rfl
theorem GImport.plain (x : GImport) : Plain x.enc := by rw [GImport.enc_eq]; exact Plain.agg_mk (Plains.cons (plain_str _) (Plains.cons (plain_int _ _) (Plains.cons (plain_bool _) Plains.nil)))
@[go_sem] theorem GImport.noRef (x : GImport) : x.enc.noRef = true := by rw [GImport.enc_eq]; exact noRef_agg_mk (noRefs_cons_mk (rfl) (noRefs_cons_mk (rfl) (noRefs_cons_mk (rfl) noRefs_nil)))
@[go_sem] theorem GImport.res (H : Heap) (x : GImport) : res H x.enc = some x.enc := GImport.plain x H
@[go_sem] theorem GImport.resL (H : Heap) (l : List GImport) : resL H (l.map GImport.enc) = some (l.map GImport.enc) := Plain.map GImport.plain l H
@[go_sem] theorem GImport.noRefs (l : List GImport) : noRefs (l.map GImport.enc) = true := noRefs_map fun y _ => GImport.noRef y
theorem GImport.eq_iff (x y : GImport) : x = y ↔ x.Name = y.Name ∧ x.Params = y.Params ∧ x.Result = y.Result := by cases x; cases y; simp
@[go_sem] theorem GImport.eql (x y : GImport) : binP Tryz.prog .eql 190 x.enc y.enc = some (.bool (decide (x = y))) := by
  rw [GImport.enc_eq, GImport.enc_eq, binP_agg_eql, te190, Option.bind_some]
  simp only [eqKs, eqK, if_true, Option.bind_some, Option.map_some]
  congr 2
  rw [Bool.eq_iff_iff]
  simp [GImport.eq_iff]
@[go_sem] theorem GImport.neq (x y : GImport) : binP Tryz.prog .neq 190 x.enc y.enc = some (.bool (!decide (x = y))) := by
  have h := GImport.eql x y
  rw [GImport.enc_eq, GImport.enc_eq] at h ⊢
  rw [binP_agg_eql, te190, Option.bind_some] at h
  rw [binP_agg_neq, te190, Option.bind_some]
  simp only [Option.map_eq_some_iff, PV.bool.injEq] at h ⊢
  obtain ⟨b, h1, h2⟩ := h
  exact ⟨b, h1, by rw [h2]⟩
structure GModule where
  Pages : Int
  Imports : List GImport
  Cores : List GCore
deriving DecidableEq
def GModule.enc (x : GModule) : PV := .agg [.int .i64 x.Pages, .slice false (x.Imports.map GImport.enc), .slice false (x.Cores.map GCore.enc)]
theorem GModule.enc_eq (x : GModule) : x.enc = .agg [.int .i64 x.Pages, .slice false (x.Imports.map GImport.enc), .slice false (x.Cores.map GCore.enc)] := rfl
def GModule.bulk (x : GModule) : Nat := bulkL GImport.bulk x.Imports + bulkL GCore.bulk x.Cores
theorem GModule.bulk_eq (x : GModule) : x.bulk = bulkL GImport.bulk x.Imports + bulkL GCore.bulk x.Cores := rfl
def GModule.Fits (x : GModule) : Prop := (-9223372036854775808 ≤ x.Pages ∧ x.Pages ≤ 9223372036854775807) ∧ (x.Imports.length ≤ 9223372036854775807 ∧ ∀ y ∈ x.Imports, y.Fits) ∧ (x.Cores.length ≤ 9223372036854775807 ∧ ∀ y ∈ x.Cores, y.Fits)
theorem GModule.fits_eq (x : GModule) : x.Fits = ((-9223372036854775808 ≤ x.Pages ∧ x.Pages ≤ 9223372036854775807) ∧ (x.Imports.length ≤ 9223372036854775807 ∧ ∀ y ∈ x.Imports, y.Fits) ∧ (x.Cores.length ≤ 9223372036854775807 ∧ ∀ y ∈ x.Cores, y.Fits)) := rfl
@[go_sem] theorem GModule.cells (x : GModule) : x.enc.cells = [.int .i64 x.Pages, .slice false (x.Imports.map GImport.enc), .slice false (x.Cores.map GCore.enc)] := by rw [GModule.enc_eq]; rfl
@[go_sem] theorem GModule.fold (x : GModule) : PV.agg [.int .i64 x.Pages, .slice false (x.Imports.map GImport.enc), .slice false (x.Cores.map GCore.enc)] = x.enc := (GModule.enc_eq x).symm
@[go_sem] theorem GModule.val (x : GModule) : x.enc.isVal = true := by rw [GModule.enc_eq]; rfl
@[go_sem] theorem GModule.one (x : GModule) : x.enc.one = false := by rw [GModule.enc_eq]; rfl
@[go_sem] theorem GModule.withCells (x : GModule) (cs : List PV) : x.enc.withCells cs = some (.agg cs) := by rw [GModule.enc_eq]; rfl
theorem GModule.plain (x : GModule) : Plain x.enc := by rw [GModule.enc_eq]; exact Plain.agg_mk (Plains.cons (plain_int _ _) (Plains.cons (Plain.maps fun y _ => GImport.plain y) (Plains.cons (Plain.maps fun y _ => GCore.plain y) Plains.nil)))
@[go_sem] theorem GModule.noRef (x : GModule) : x.enc.noRef = true := by rw [GModule.enc_eq]; exact noRef_agg_mk (noRefs_cons_mk (rfl) (noRefs_cons_mk (noRef_maps fun y _ => GImport.noRef y) (noRefs_cons_mk (noRef_maps fun y _ => GCore.noRef y) noRefs_nil)))
@[go_sem] theorem GModule.res (H : Heap) (x : GModule) : res H x.enc = some x.enc := GModule.plain x H
@[go_sem] theorem GModule.resL (H : Heap) (l : List GModule) : resL H (l.map GModule.enc) = some (l.map GModule.enc) := Plain.map GModule.plain l H
@[go_sem] theorem GModule.noRefs (l : List GModule) : noRefs (l.map GModule.enc) = true := noRefs_map fun y _ => GModule.noRef y
structure GEntry where
  Num : Int
  Id : Int
  Own : Bool
  Lends : Int
  Scope : Int
  From : Int
  FromNum : Int
deriving DecidableEq
def GEntry.enc (x : GEntry) : PV := .agg [.int .i64 x.Num, .int .i64 x.Id, .bool x.Own, .int .i64 x.Lends, .int .i64 x.Scope, .int .i64 x.From, .int .i64 x.FromNum]
theorem GEntry.enc_eq (x : GEntry) : x.enc = .agg [.int .i64 x.Num, .int .i64 x.Id, .bool x.Own, .int .i64 x.Lends, .int .i64 x.Scope, .int .i64 x.From, .int .i64 x.FromNum] := rfl
def GEntry.bulk (x : GEntry) : Nat := 0
theorem GEntry.bulk_eq (x : GEntry) : x.bulk = 0 := rfl
def GEntry.Fits (x : GEntry) : Prop := (-9223372036854775808 ≤ x.Num ∧ x.Num ≤ 9223372036854775807) ∧ (-9223372036854775808 ≤ x.Id ∧ x.Id ≤ 9223372036854775807) ∧ True ∧ (-9223372036854775808 ≤ x.Lends ∧ x.Lends ≤ 9223372036854775807) ∧ (-9223372036854775808 ≤ x.Scope ∧ x.Scope ≤ 9223372036854775807) ∧ (-9223372036854775808 ≤ x.From ∧ x.From ≤ 9223372036854775807) ∧ (-9223372036854775808 ≤ x.FromNum ∧ x.FromNum ≤ 9223372036854775807)
theorem GEntry.fits_eq (x : GEntry) : x.Fits = ((-9223372036854775808 ≤ x.Num ∧ x.Num ≤ 9223372036854775807) ∧ (-9223372036854775808 ≤ x.Id ∧ x.Id ≤ 9223372036854775807) ∧ True ∧ (-9223372036854775808 ≤ x.Lends ∧ x.Lends ≤ 9223372036854775807) ∧ (-9223372036854775808 ≤ x.Scope ∧ x.Scope ≤ 9223372036854775807) ∧ (-9223372036854775808 ≤ x.From ∧ x.From ≤ 9223372036854775807) ∧ (-9223372036854775808 ≤ x.FromNum ∧ x.FromNum ≤ 9223372036854775807)) := rfl
@[go_sem] theorem GEntry.cells (x : GEntry) : x.enc.cells = [.int .i64 x.Num, .int .i64 x.Id, .bool x.Own, .int .i64 x.Lends, .int .i64 x.Scope, .int .i64 x.From, .int .i64 x.FromNum] := by rw [GEntry.enc_eq]; rfl
@[go_sem] theorem GEntry.fold (x : GEntry) : PV.agg [.int .i64 x.Num, .int .i64 x.Id, .bool x.Own, .int .i64 x.Lends, .int .i64 x.Scope, .int .i64 x.From, .int .i64 x.FromNum] = x.enc := (GEntry.enc_eq x).symm
@[go_sem] theorem GEntry.val (x : GEntry) : x.enc.isVal = true := by rw [GEntry.enc_eq]; rfl
@[go_sem] theorem GEntry.one (x : GEntry) : x.enc.one = false := by rw [GEntry.enc_eq]; rfl
@[go_sem] theorem GEntry.withCells (x : GEntry) (cs : List PV) : x.enc.withCells cs = some (.agg cs) := by rw [GEntry.enc_eq]; rfl
theorem GEntry.plain (x : GEntry) : Plain x.enc := by rw [GEntry.enc_eq]; exact Plain.agg_mk (Plains.cons (plain_int _ _) (Plains.cons (plain_int _ _) (Plains.cons (plain_bool _) (Plains.cons (plain_int _ _) (Plains.cons (plain_int _ _) (Plains.cons (plain_int _ _) (Plains.cons (plain_int _ _) Plains.nil)))))))
@[go_sem] theorem GEntry.noRef (x : GEntry) : x.enc.noRef = true := by rw [GEntry.enc_eq]; exact noRef_agg_mk (noRefs_cons_mk (rfl) (noRefs_cons_mk (rfl) (noRefs_cons_mk (rfl) (noRefs_cons_mk (rfl) (noRefs_cons_mk (rfl) (noRefs_cons_mk (rfl) (noRefs_cons_mk (rfl) noRefs_nil)))))))
@[go_sem] theorem GEntry.res (H : Heap) (x : GEntry) : res H x.enc = some x.enc := GEntry.plain x H
@[go_sem] theorem GEntry.resL (H : Heap) (l : List GEntry) : resL H (l.map GEntry.enc) = some (l.map GEntry.enc) := Plain.map GEntry.plain l H
@[go_sem] theorem GEntry.noRefs (l : List GEntry) : noRefs (l.map GEntry.enc) = true := noRefs_map fun y _ => GEntry.noRef y
theorem GEntry.eq_iff (x y : GEntry) : x = y ↔ x.Num = y.Num ∧ x.Id = y.Id ∧ x.Own = y.Own ∧ x.Lends = y.Lends ∧ x.Scope = y.Scope ∧ x.From = y.From ∧ x.FromNum = y.FromNum := by cases x; cases y; simp
@[go_sem] theorem GEntry.eql (x y : GEntry) : binP Tryz.prog .eql 221 x.enc y.enc = some (.bool (decide (x = y))) := by
  rw [GEntry.enc_eq, GEntry.enc_eq, binP_agg_eql, te221, Option.bind_some]
  simp only [eqKs, eqK, if_true, Option.bind_some, Option.map_some]
  congr 2
  rw [Bool.eq_iff_iff]
  simp [GEntry.eq_iff]
@[go_sem] theorem GEntry.neq (x y : GEntry) : binP Tryz.prog .neq 221 x.enc y.enc = some (.bool (!decide (x = y))) := by
  have h := GEntry.eql x y
  rw [GEntry.enc_eq, GEntry.enc_eq] at h ⊢
  rw [binP_agg_eql, te221, Option.bind_some] at h
  rw [binP_agg_neq, te221, Option.bind_some]
  simp only [Option.map_eq_some_iff, PV.bool.injEq] at h ⊢
  obtain ⟨b, h1, h2⟩ := h
  exact ⟨b, h1, by rw [h2]⟩
structure GTable where
  Next : Int
  Entries : List GEntry
deriving DecidableEq
def GTable.enc (x : GTable) : PV := .agg [.int .i64 x.Next, .slice false (x.Entries.map GEntry.enc)]
theorem GTable.enc_eq (x : GTable) : x.enc = .agg [.int .i64 x.Next, .slice false (x.Entries.map GEntry.enc)] := rfl
def GTable.bulk (x : GTable) : Nat := bulkL GEntry.bulk x.Entries
theorem GTable.bulk_eq (x : GTable) : x.bulk = bulkL GEntry.bulk x.Entries := rfl
def GTable.Fits (x : GTable) : Prop := (-9223372036854775808 ≤ x.Next ∧ x.Next ≤ 9223372036854775807) ∧ (x.Entries.length ≤ 9223372036854775807 ∧ ∀ y ∈ x.Entries, y.Fits)
theorem GTable.fits_eq (x : GTable) : x.Fits = ((-9223372036854775808 ≤ x.Next ∧ x.Next ≤ 9223372036854775807) ∧ (x.Entries.length ≤ 9223372036854775807 ∧ ∀ y ∈ x.Entries, y.Fits)) := rfl
@[go_sem] theorem GTable.cells (x : GTable) : x.enc.cells = [.int .i64 x.Next, .slice false (x.Entries.map GEntry.enc)] := by rw [GTable.enc_eq]; rfl
@[go_sem] theorem GTable.fold (x : GTable) : PV.agg [.int .i64 x.Next, .slice false (x.Entries.map GEntry.enc)] = x.enc := (GTable.enc_eq x).symm
@[go_sem] theorem GTable.val (x : GTable) : x.enc.isVal = true := by rw [GTable.enc_eq]; rfl
@[go_sem] theorem GTable.one (x : GTable) : x.enc.one = false := by rw [GTable.enc_eq]; rfl
@[go_sem] theorem GTable.withCells (x : GTable) (cs : List PV) : x.enc.withCells cs = some (.agg cs) := by rw [GTable.enc_eq]; rfl
theorem GTable.plain (x : GTable) : Plain x.enc := by rw [GTable.enc_eq]; exact Plain.agg_mk (Plains.cons (plain_int _ _) (Plains.cons (Plain.maps fun y _ => GEntry.plain y) Plains.nil))
@[go_sem] theorem GTable.noRef (x : GTable) : x.enc.noRef = true := by rw [GTable.enc_eq]; exact noRef_agg_mk (noRefs_cons_mk (rfl) (noRefs_cons_mk (noRef_maps fun y _ => GEntry.noRef y) noRefs_nil))
@[go_sem] theorem GTable.res (H : Heap) (x : GTable) : res H x.enc = some x.enc := GTable.plain x H
@[go_sem] theorem GTable.resL (H : Heap) (l : List GTable) : resL H (l.map GTable.enc) = some (l.map GTable.enc) := Plain.map GTable.plain l H
@[go_sem] theorem GTable.noRefs (l : List GTable) : noRefs (l.map GTable.enc) = true := noRefs_map fun y _ => GTable.noRef y
structure GThing where
  Id : Int
  Res : Int
  Rep : Int
deriving DecidableEq
def GThing.enc (x : GThing) : PV := .agg [.int .i64 x.Id, .int .i64 x.Res, .int .i64 x.Rep]
theorem GThing.enc_eq (x : GThing) : x.enc = .agg [.int .i64 x.Id, .int .i64 x.Res, .int .i64 x.Rep] := rfl
def GThing.bulk (x : GThing) : Nat := 0
theorem GThing.bulk_eq (x : GThing) : x.bulk = 0 := rfl
def GThing.Fits (x : GThing) : Prop := (-9223372036854775808 ≤ x.Id ∧ x.Id ≤ 9223372036854775807) ∧ (-9223372036854775808 ≤ x.Res ∧ x.Res ≤ 9223372036854775807) ∧ (-9223372036854775808 ≤ x.Rep ∧ x.Rep ≤ 9223372036854775807)
theorem GThing.fits_eq (x : GThing) : x.Fits = ((-9223372036854775808 ≤ x.Id ∧ x.Id ≤ 9223372036854775807) ∧ (-9223372036854775808 ≤ x.Res ∧ x.Res ≤ 9223372036854775807) ∧ (-9223372036854775808 ≤ x.Rep ∧ x.Rep ≤ 9223372036854775807)) := rfl
@[go_sem] theorem GThing.cells (x : GThing) : x.enc.cells = [.int .i64 x.Id, .int .i64 x.Res, .int .i64 x.Rep] := by rw [GThing.enc_eq]; rfl
@[go_sem] theorem GThing.fold (x : GThing) : PV.agg [.int .i64 x.Id, .int .i64 x.Res, .int .i64 x.Rep] = x.enc := (GThing.enc_eq x).symm
@[go_sem] theorem GThing.val (x : GThing) : x.enc.isVal = true := by rw [GThing.enc_eq]; rfl
@[go_sem] theorem GThing.one (x : GThing) : x.enc.one = false := by rw [GThing.enc_eq]; rfl
@[go_sem] theorem GThing.withCells (x : GThing) (cs : List PV) : x.enc.withCells cs = some (.agg cs) := by rw [GThing.enc_eq]; rfl
theorem GThing.plain (x : GThing) : Plain x.enc := by rw [GThing.enc_eq]; exact Plain.agg_mk (Plains.cons (plain_int _ _) (Plains.cons (plain_int _ _) (Plains.cons (plain_int _ _) Plains.nil)))
@[go_sem] theorem GThing.noRef (x : GThing) : x.enc.noRef = true := by rw [GThing.enc_eq]; exact noRef_agg_mk (noRefs_cons_mk (rfl) (noRefs_cons_mk (rfl) (noRefs_cons_mk (rfl) noRefs_nil)))
@[go_sem] theorem GThing.res (H : Heap) (x : GThing) : res H x.enc = some x.enc := GThing.plain x H
@[go_sem] theorem GThing.resL (H : Heap) (l : List GThing) : resL H (l.map GThing.enc) = some (l.map GThing.enc) := Plain.map GThing.plain l H
@[go_sem] theorem GThing.noRefs (l : List GThing) : noRefs (l.map GThing.enc) = true := noRefs_map fun y _ => GThing.noRef y
theorem GThing.eq_iff (x y : GThing) : x = y ↔ x.Id = y.Id ∧ x.Res = y.Res ∧ x.Rep = y.Rep := by cases x; cases y; simp
@[go_sem] theorem GThing.eql (x y : GThing) : binP Tryz.prog .eql 216 x.enc y.enc = some (.bool (decide (x = y))) := by
  rw [GThing.enc_eq, GThing.enc_eq, binP_agg_eql, te216, Option.bind_some]
  simp only [eqKs, eqK, if_true, Option.bind_some, Option.map_some]
  congr 2
  rw [Bool.eq_iff_iff]
  simp [GThing.eq_iff]
@[go_sem] theorem GThing.neq (x y : GThing) : binP Tryz.prog .neq 216 x.enc y.enc = some (.bool (!decide (x = y))) := by
  have h := GThing.eql x y
  rw [GThing.enc_eq, GThing.enc_eq] at h ⊢
  rw [binP_agg_eql, te216, Option.bind_some] at h
  rw [binP_agg_neq, te216, Option.bind_some]
  simp only [Option.map_eq_some_iff, PV.bool.injEq] at h ⊢
  obtain ⟨b, h1, h2⟩ := h
  exact ⟨b, h1, by rw [h2]⟩
structure GShelf where
  Next : Int
  Tables : List GTable
  Things : List GThing
deriving DecidableEq
def GShelf.enc (x : GShelf) : PV := .agg [.int .i64 x.Next, .slice false (x.Tables.map GTable.enc), .slice false (x.Things.map GThing.enc)]
theorem GShelf.enc_eq (x : GShelf) : x.enc = .agg [.int .i64 x.Next, .slice false (x.Tables.map GTable.enc), .slice false (x.Things.map GThing.enc)] := rfl
def GShelf.bulk (x : GShelf) : Nat := bulkL GTable.bulk x.Tables + bulkL GThing.bulk x.Things
theorem GShelf.bulk_eq (x : GShelf) : x.bulk = bulkL GTable.bulk x.Tables + bulkL GThing.bulk x.Things := rfl
def GShelf.Fits (x : GShelf) : Prop := (-9223372036854775808 ≤ x.Next ∧ x.Next ≤ 9223372036854775807) ∧ (x.Tables.length ≤ 9223372036854775807 ∧ ∀ y ∈ x.Tables, y.Fits) ∧ (x.Things.length ≤ 9223372036854775807 ∧ ∀ y ∈ x.Things, y.Fits)
theorem GShelf.fits_eq (x : GShelf) : x.Fits = ((-9223372036854775808 ≤ x.Next ∧ x.Next ≤ 9223372036854775807) ∧ (x.Tables.length ≤ 9223372036854775807 ∧ ∀ y ∈ x.Tables, y.Fits) ∧ (x.Things.length ≤ 9223372036854775807 ∧ ∀ y ∈ x.Things, y.Fits)) := rfl
@[go_sem] theorem GShelf.cells (x : GShelf) : x.enc.cells = [.int .i64 x.Next, .slice false (x.Tables.map GTable.enc), .slice false (x.Things.map GThing.enc)] := by rw [GShelf.enc_eq]; rfl
@[go_sem] theorem GShelf.fold (x : GShelf) : PV.agg [.int .i64 x.Next, .slice false (x.Tables.map GTable.enc), .slice false (x.Things.map GThing.enc)] = x.enc := (GShelf.enc_eq x).symm
@[go_sem] theorem GShelf.val (x : GShelf) : x.enc.isVal = true := by rw [GShelf.enc_eq]; rfl
@[go_sem] theorem GShelf.one (x : GShelf) : x.enc.one = false := by rw [GShelf.enc_eq]; rfl
@[go_sem] theorem GShelf.withCells (x : GShelf) (cs : List PV) : x.enc.withCells cs = some (.agg cs) := by rw [GShelf.enc_eq]; rfl
theorem GShelf.plain (x : GShelf) : Plain x.enc := by rw [GShelf.enc_eq]; exact Plain.agg_mk (Plains.cons (plain_int _ _) (Plains.cons (Plain.maps fun y _ => GTable.plain y) (Plains.cons (Plain.maps fun y _ => GThing.plain y) Plains.nil)))
@[go_sem] theorem GShelf.noRef (x : GShelf) : x.enc.noRef = true := by rw [GShelf.enc_eq]; exact noRef_agg_mk (noRefs_cons_mk (rfl) (noRefs_cons_mk (noRef_maps fun y _ => GTable.noRef y) (noRefs_cons_mk (noRef_maps fun y _ => GThing.noRef y) noRefs_nil)))
@[go_sem] theorem GShelf.res (H : Heap) (x : GShelf) : res H x.enc = some x.enc := GShelf.plain x H
@[go_sem] theorem GShelf.resL (H : Heap) (l : List GShelf) : resL H (l.map GShelf.enc) = some (l.map GShelf.enc) := Plain.map GShelf.plain l H
@[go_sem] theorem GShelf.noRefs (l : List GShelf) : noRefs (l.map GShelf.enc) = true := noRefs_map fun y _ => GShelf.noRef y
structure GCall where
  Id : Int
  Caller : Int
  Callee : Int
  Args : List Int
deriving DecidableEq
def GCall.enc (x : GCall) : PV := .agg [.int .i64 x.Id, .int .i64 x.Caller, .int .i64 x.Callee, .slice false (x.Args.map (PV.int .i64))]
theorem GCall.enc_eq (x : GCall) : x.enc = .agg [.int .i64 x.Id, .int .i64 x.Caller, .int .i64 x.Callee, .slice false (x.Args.map (PV.int .i64))] := rfl
def GCall.bulk (x : GCall) : Nat := bulkL (fun _ : Int => 0) x.Args
theorem GCall.bulk_eq (x : GCall) : x.bulk = bulkL (fun _ : Int => 0) x.Args := rfl
def GCall.Fits (x : GCall) : Prop := (-9223372036854775808 ≤ x.Id ∧ x.Id ≤ 9223372036854775807) ∧ (-9223372036854775808 ≤ x.Caller ∧ x.Caller ≤ 9223372036854775807) ∧ (-9223372036854775808 ≤ x.Callee ∧ x.Callee ≤ 9223372036854775807) ∧ (x.Args.length ≤ 9223372036854775807 ∧ ∀ y ∈ x.Args, (-9223372036854775808 ≤ y ∧ y ≤ 9223372036854775807))
theorem GCall.fits_eq (x : GCall) : x.Fits = ((-9223372036854775808 ≤ x.Id ∧ x.Id ≤ 9223372036854775807) ∧ (-9223372036854775808 ≤ x.Caller ∧ x.Caller ≤ 9223372036854775807) ∧ (-9223372036854775808 ≤ x.Callee ∧ x.Callee ≤ 9223372036854775807) ∧ (x.Args.length ≤ 9223372036854775807 ∧ ∀ y ∈ x.Args, (-9223372036854775808 ≤ y ∧ y ≤ 9223372036854775807))) := rfl
@[go_sem] theorem GCall.cells (x : GCall) : x.enc.cells = [.int .i64 x.Id, .int .i64 x.Caller, .int .i64 x.Callee, .slice false (x.Args.map (PV.int .i64))] := by rw [GCall.enc_eq]; rfl
@[go_sem] theorem GCall.fold (x : GCall) : PV.agg [.int .i64 x.Id, .int .i64 x.Caller, .int .i64 x.Callee, .slice false (x.Args.map (PV.int .i64))] = x.enc := (GCall.enc_eq x).symm
@[go_sem] theorem GCall.val (x : GCall) : x.enc.isVal = true := by rw [GCall.enc_eq]; rfl
@[go_sem] theorem GCall.one (x : GCall) : x.enc.one = false := by rw [GCall.enc_eq]; rfl
@[go_sem] theorem GCall.withCells (x : GCall) (cs : List PV) : x.enc.withCells cs = some (.agg cs) := by rw [GCall.enc_eq]; rfl
theorem GCall.plain (x : GCall) : Plain x.enc := by rw [GCall.enc_eq]; exact Plain.agg_mk (Plains.cons (plain_int _ _) (Plains.cons (plain_int _ _) (Plains.cons (plain_int _ _) (Plains.cons (Plain.maps fun y _ => plain_int _ _) Plains.nil))))
@[go_sem] theorem GCall.noRef (x : GCall) : x.enc.noRef = true := by rw [GCall.enc_eq]; exact noRef_agg_mk (noRefs_cons_mk (rfl) (noRefs_cons_mk (rfl) (noRefs_cons_mk (rfl) (noRefs_cons_mk (noRef_maps fun y _ => rfl) noRefs_nil))))
@[go_sem] theorem GCall.res (H : Heap) (x : GCall) : res H x.enc = some x.enc := GCall.plain x H
@[go_sem] theorem GCall.resL (H : Heap) (l : List GCall) : resL H (l.map GCall.enc) = some (l.map GCall.enc) := Plain.map GCall.plain l H
@[go_sem] theorem GCall.noRefs (l : List GCall) : noRefs (l.map GCall.enc) = true := noRefs_map fun y _ => GCall.noRef y
structure GYard where
  Shelf : GShelf
  Stack : List GCall
  Next : Int
  Dead : List Int
deriving DecidableEq
def GYard.enc (x : GYard) : PV := .agg [.int .i64 x.Shelf.Next, .slice false (x.Shelf.Tables.map GTable.enc), .slice false (x.Shelf.Things.map GThing.enc), .slice false (x.Stack.map GCall.enc), .int .i64 x.Next, .slice false (x.Dead.map (PV.int .i64))]
theorem GYard.enc_eq (x : GYard) : x.enc = .agg [.int .i64 x.Shelf.Next, .slice false (x.Shelf.Tables.map GTable.enc), .slice false (x.Shelf.Things.map GThing.enc), .slice false (x.Stack.map GCall.enc), .int .i64 x.Next, .slice false (x.Dead.map (PV.int .i64))] := rfl
def GYard.bulk (x : GYard) : Nat := x.Shelf.bulk + bulkL GCall.bulk x.Stack + bulkL (fun _ : Int => 0) x.Dead
theorem GYard.bulk_eq (x : GYard) : x.bulk = x.Shelf.bulk + bulkL GCall.bulk x.Stack + bulkL (fun _ : Int => 0) x.Dead := rfl
def GYard.Fits (x : GYard) : Prop := x.Shelf.Fits ∧ (x.Stack.length ≤ 9223372036854775807 ∧ ∀ y ∈ x.Stack, y.Fits) ∧ (-9223372036854775808 ≤ x.Next ∧ x.Next ≤ 9223372036854775807) ∧ (x.Dead.length ≤ 9223372036854775807 ∧ ∀ y ∈ x.Dead, (-9223372036854775808 ≤ y ∧ y ≤ 9223372036854775807))
theorem GYard.fits_eq (x : GYard) : x.Fits = (x.Shelf.Fits ∧ (x.Stack.length ≤ 9223372036854775807 ∧ ∀ y ∈ x.Stack, y.Fits) ∧ (-9223372036854775808 ≤ x.Next ∧ x.Next ≤ 9223372036854775807) ∧ (x.Dead.length ≤ 9223372036854775807 ∧ ∀ y ∈ x.Dead, (-9223372036854775808 ≤ y ∧ y ≤ 9223372036854775807))) := rfl
@[go_sem] theorem GYard.cells (x : GYard) : x.enc.cells = [.int .i64 x.Shelf.Next, .slice false (x.Shelf.Tables.map GTable.enc), .slice false (x.Shelf.Things.map GThing.enc), .slice false (x.Stack.map GCall.enc), .int .i64 x.Next, .slice false (x.Dead.map (PV.int .i64))] := by rw [GYard.enc_eq]; rfl
@[go_sem] theorem GYard.fold (x : GYard) : PV.agg [.int .i64 x.Shelf.Next, .slice false (x.Shelf.Tables.map GTable.enc), .slice false (x.Shelf.Things.map GThing.enc), .slice false (x.Stack.map GCall.enc), .int .i64 x.Next, .slice false (x.Dead.map (PV.int .i64))] = x.enc := (GYard.enc_eq x).symm
@[go_sem] theorem GYard.val (x : GYard) : x.enc.isVal = true := by rw [GYard.enc_eq]; rfl
@[go_sem] theorem GYard.one (x : GYard) : x.enc.one = false := by rw [GYard.enc_eq]; rfl
@[go_sem] theorem GYard.withCells (x : GYard) (cs : List PV) : x.enc.withCells cs = some (.agg cs) := by rw [GYard.enc_eq]; rfl
theorem GYard.plain (x : GYard) : Plain x.enc := by rw [GYard.enc_eq]; exact Plain.agg_mk (Plains.cons (plain_int _ _) (Plains.cons (Plain.maps fun y _ => GTable.plain y) (Plains.cons (Plain.maps fun y _ => GThing.plain y) (Plains.cons (Plain.maps fun y _ => GCall.plain y) (Plains.cons (plain_int _ _) (Plains.cons (Plain.maps fun y _ => plain_int _ _) Plains.nil))))))
@[go_sem] theorem GYard.noRef (x : GYard) : x.enc.noRef = true := by rw [GYard.enc_eq]; exact noRef_agg_mk (noRefs_cons_mk (rfl) (noRefs_cons_mk (noRef_maps fun y _ => GTable.noRef y) (noRefs_cons_mk (noRef_maps fun y _ => GThing.noRef y) (noRefs_cons_mk (noRef_maps fun y _ => GCall.noRef y) (noRefs_cons_mk (rfl) (noRefs_cons_mk (noRef_maps fun y _ => rfl) noRefs_nil))))))
@[go_sem] theorem GYard.res (H : Heap) (x : GYard) : res H x.enc = some x.enc := GYard.plain x H
@[go_sem] theorem GYard.resL (H : Heap) (l : List GYard) : resL H (l.map GYard.enc) = some (l.map GYard.enc) := Plain.map GYard.plain l H
@[go_sem] theorem GYard.noRefs (l : List GYard) : noRefs (l.map GYard.enc) = true := noRefs_map fun y _ => GYard.noRef y
structure GLift where
  Face : List UInt8
  Func : List UInt8
  Core : List UInt8
deriving DecidableEq
def GLift.enc (x : GLift) : PV := .agg [.str x.Face, .str x.Func, .str x.Core]
theorem GLift.enc_eq (x : GLift) : x.enc = .agg [.str x.Face, .str x.Func, .str x.Core] := rfl
def GLift.bulk (x : GLift) : Nat := x.Face.length + x.Func.length + x.Core.length
theorem GLift.bulk_eq (x : GLift) : x.bulk = x.Face.length + x.Func.length + x.Core.length := rfl
def GLift.Fits (x : GLift) : Prop := x.Face.length ≤ 9223372036854775807 ∧ x.Func.length ≤ 9223372036854775807 ∧ x.Core.length ≤ 9223372036854775807
theorem GLift.fits_eq (x : GLift) : x.Fits = (x.Face.length ≤ 9223372036854775807 ∧ x.Func.length ≤ 9223372036854775807 ∧ x.Core.length ≤ 9223372036854775807) := rfl
@[go_sem] theorem GLift.cells (x : GLift) : x.enc.cells = [.str x.Face, .str x.Func, .str x.Core] := by rw [GLift.enc_eq]; rfl
@[go_sem] theorem GLift.fold (x : GLift) : PV.agg [.str x.Face, .str x.Func, .str x.Core] = x.enc := (GLift.enc_eq x).symm
@[go_sem] theorem GLift.val (x : GLift) : x.enc.isVal = true := by rw [GLift.enc_eq]; rfl
@[go_sem] theorem GLift.one (x : GLift) : x.enc.one = false := by rw [GLift.enc_eq]; rfl
@[go_sem] theorem GLift.withCells (x : GLift) (cs : List PV) : x.enc.withCells cs = some (.agg cs) := by rw [GLift.enc_eq]; rfl
theorem GLift.plain (x : GLift) : Plain x.enc := by rw [GLift.enc_eq]; exact Plain.agg_mk (Plains.cons (plain_str _) (Plains.cons (plain_str _) (Plains.cons (plain_str _) Plains.nil)))
@[go_sem] theorem GLift.noRef (x : GLift) : x.enc.noRef = true := by rw [GLift.enc_eq]; exact noRef_agg_mk (noRefs_cons_mk (rfl) (noRefs_cons_mk (rfl) (noRefs_cons_mk (rfl) noRefs_nil)))
@[go_sem] theorem GLift.res (H : Heap) (x : GLift) : res H x.enc = some x.enc := GLift.plain x H
@[go_sem] theorem GLift.resL (H : Heap) (l : List GLift) : resL H (l.map GLift.enc) = some (l.map GLift.enc) := Plain.map GLift.plain l H
@[go_sem] theorem GLift.noRefs (l : List GLift) : noRefs (l.map GLift.enc) = true := noRefs_map fun y _ => GLift.noRef y
theorem GLift.eq_iff (x y : GLift) : x = y ↔ x.Face = y.Face ∧ x.Func = y.Func ∧ x.Core = y.Core := by cases x; cases y; simp
@[go_sem] theorem GLift.eql (x y : GLift) : binP Tryz.prog .eql 136 x.enc y.enc = some (.bool (decide (x = y))) := by
  rw [GLift.enc_eq, GLift.enc_eq, binP_agg_eql, te136, Option.bind_some]
  simp only [eqKs, eqK, if_true, Option.bind_some, Option.map_some]
  congr 2
  rw [Bool.eq_iff_iff]
  simp [GLift.eq_iff]
@[go_sem] theorem GLift.neq (x y : GLift) : binP Tryz.prog .neq 136 x.enc y.enc = some (.bool (!decide (x = y))) := by
  have h := GLift.eql x y
  rw [GLift.enc_eq, GLift.enc_eq] at h ⊢
  rw [binP_agg_eql, te136, Option.bind_some] at h
  rw [binP_agg_neq, te136, Option.bind_some]
  simp only [Option.map_eq_some_iff, PV.bool.injEq] at h ⊢
  obtain ⟨b, h1, h2⟩ := h
  exact ⟨b, h1, by rw [h2]⟩
structure GLower where
  Face : List UInt8
  Func : List UInt8
  Import : List UInt8
deriving DecidableEq
def GLower.enc (x : GLower) : PV := .agg [.str x.Face, .str x.Func, .str x.Import]
theorem GLower.enc_eq (x : GLower) : x.enc = .agg [.str x.Face, .str x.Func, .str x.Import] := rfl
def GLower.bulk (x : GLower) : Nat := x.Face.length + x.Func.length + x.Import.length
theorem GLower.bulk_eq (x : GLower) : x.bulk = x.Face.length + x.Func.length + x.Import.length := rfl
def GLower.Fits (x : GLower) : Prop := x.Face.length ≤ 9223372036854775807 ∧ x.Func.length ≤ 9223372036854775807 ∧ x.Import.length ≤ 9223372036854775807
theorem GLower.fits_eq (x : GLower) : x.Fits = (x.Face.length ≤ 9223372036854775807 ∧ x.Func.length ≤ 9223372036854775807 ∧ x.Import.length ≤ 9223372036854775807) := rfl
@[go_sem] theorem GLower.cells (x : GLower) : x.enc.cells = [.str x.Face, .str x.Func, .str x.Import] := by rw [GLower.enc_eq]; rfl
@[go_sem] theorem GLower.fold (x : GLower) : PV.agg [.str x.Face, .str x.Func, .str x.Import] = x.enc := (GLower.enc_eq x).symm
@[go_sem] theorem GLower.val (x : GLower) : x.enc.isVal = true := by rw [GLower.enc_eq]; rfl
@[go_sem] theorem GLower.one (x : GLower) : x.enc.one = false := by rw [GLower.enc_eq]; rfl
@[go_sem] theorem GLower.withCells (x : GLower) (cs : List PV) : x.enc.withCells cs = some (.agg cs) := by rw [GLower.enc_eq]; rfl
theorem GLower.plain (x : GLower) : Plain x.enc := by rw [GLower.enc_eq]; exact Plain.agg_mk (Plains.cons (plain_str _) (Plains.cons (plain_str _) (Plains.cons (plain_str _) Plains.nil)))
@[go_sem] theorem GLower.noRef (x : GLower) : x.enc.noRef = true := by rw [GLower.enc_eq]; exact noRef_agg_mk (noRefs_cons_mk (rfl) (noRefs_cons_mk (rfl) (noRefs_cons_mk (rfl) noRefs_nil)))
@[go_sem] theorem GLower.res (H : Heap) (x : GLower) : res H x.enc = some x.enc := GLower.plain x H
@[go_sem] theorem GLower.resL (H : Heap) (l : List GLower) : resL H (l.map GLower.enc) = some (l.map GLower.enc) := Plain.map GLower.plain l H
@[go_sem] theorem GLower.noRefs (l : List GLower) : noRefs (l.map GLower.enc) = true := noRefs_map fun y _ => GLower.noRef y
theorem GLower.eq_iff (x y : GLower) : x = y ↔ x.Face = y.Face ∧ x.Func = y.Func ∧ x.Import = y.Import := by cases x; cases y; simp
@[go_sem] theorem GLower.eql (x y : GLower) : binP Tryz.prog .eql 138 x.enc y.enc = some (.bool (decide (x = y))) := by
  rw [GLower.enc_eq, GLower.enc_eq, binP_agg_eql, te138, Option.bind_some]
  simp only [eqKs, eqK, if_true, Option.bind_some, Option.map_some]
  congr 2
  rw [Bool.eq_iff_iff]
  simp [GLower.eq_iff]
@[go_sem] theorem GLower.neq (x y : GLower) : binP Tryz.prog .neq 138 x.enc y.enc = some (.bool (!decide (x = y))) := by
  have h := GLower.eql x y
  rw [GLower.enc_eq, GLower.enc_eq] at h ⊢
  rw [binP_agg_eql, te138, Option.bind_some] at h
  rw [binP_agg_neq, te138, Option.bind_some]
  simp only [Option.map_eq_some_iff, PV.bool.injEq] at h ⊢
  obtain ⟨b, h1, h2⟩ := h
  exact ⟨b, h1, by rw [h2]⟩
structure GBuiltin where
  Kind : Int
  Face : List UInt8
  Resource : List UInt8
  Import : List UInt8
deriving DecidableEq
def GBuiltin.enc (x : GBuiltin) : PV := .agg [.int .i64 x.Kind, .str x.Face, .str x.Resource, .str x.Import]
theorem GBuiltin.enc_eq (x : GBuiltin) : x.enc = .agg [.int .i64 x.Kind, .str x.Face, .str x.Resource, .str x.Import] := rfl
def GBuiltin.bulk (x : GBuiltin) : Nat := x.Face.length + x.Resource.length + x.Import.length
theorem GBuiltin.bulk_eq (x : GBuiltin) : x.bulk = x.Face.length + x.Resource.length + x.Import.length := rfl
def GBuiltin.Fits (x : GBuiltin) : Prop := (-9223372036854775808 ≤ x.Kind ∧ x.Kind ≤ 9223372036854775807) ∧ x.Face.length ≤ 9223372036854775807 ∧ x.Resource.length ≤ 9223372036854775807 ∧ x.Import.length ≤ 9223372036854775807
theorem GBuiltin.fits_eq (x : GBuiltin) : x.Fits = ((-9223372036854775808 ≤ x.Kind ∧ x.Kind ≤ 9223372036854775807) ∧ x.Face.length ≤ 9223372036854775807 ∧ x.Resource.length ≤ 9223372036854775807 ∧ x.Import.length ≤ 9223372036854775807) := rfl
@[go_sem] theorem GBuiltin.cells (x : GBuiltin) : x.enc.cells = [.int .i64 x.Kind, .str x.Face, .str x.Resource, .str x.Import] := by rw [GBuiltin.enc_eq]; rfl
@[go_sem] theorem GBuiltin.fold (x : GBuiltin) : PV.agg [.int .i64 x.Kind, .str x.Face, .str x.Resource, .str x.Import] = x.enc := (GBuiltin.enc_eq x).symm
@[go_sem] theorem GBuiltin.val (x : GBuiltin) : x.enc.isVal = true := by rw [GBuiltin.enc_eq]; rfl
@[go_sem] theorem GBuiltin.one (x : GBuiltin) : x.enc.one = false := by rw [GBuiltin.enc_eq]; rfl
@[go_sem] theorem GBuiltin.withCells (x : GBuiltin) (cs : List PV) : x.enc.withCells cs = some (.agg cs) := by rw [GBuiltin.enc_eq]; rfl
theorem GBuiltin.plain (x : GBuiltin) : Plain x.enc := by rw [GBuiltin.enc_eq]; exact Plain.agg_mk (Plains.cons (plain_int _ _) (Plains.cons (plain_str _) (Plains.cons (plain_str _) (Plains.cons (plain_str _) Plains.nil))))
@[go_sem] theorem GBuiltin.noRef (x : GBuiltin) : x.enc.noRef = true := by rw [GBuiltin.enc_eq]; exact noRef_agg_mk (noRefs_cons_mk (rfl) (noRefs_cons_mk (rfl) (noRefs_cons_mk (rfl) (noRefs_cons_mk (rfl) noRefs_nil))))
@[go_sem] theorem GBuiltin.res (H : Heap) (x : GBuiltin) : res H x.enc = some x.enc := GBuiltin.plain x H
@[go_sem] theorem GBuiltin.resL (H : Heap) (l : List GBuiltin) : resL H (l.map GBuiltin.enc) = some (l.map GBuiltin.enc) := Plain.map GBuiltin.plain l H
@[go_sem] theorem GBuiltin.noRefs (l : List GBuiltin) : noRefs (l.map GBuiltin.enc) = true := noRefs_map fun y _ => GBuiltin.noRef y
theorem GBuiltin.eq_iff (x y : GBuiltin) : x = y ↔ x.Kind = y.Kind ∧ x.Face = y.Face ∧ x.Resource = y.Resource ∧ x.Import = y.Import := by cases x; cases y; simp
@[go_sem] theorem GBuiltin.eql (x y : GBuiltin) : binP Tryz.prog .eql 140 x.enc y.enc = some (.bool (decide (x = y))) := by
  rw [GBuiltin.enc_eq, GBuiltin.enc_eq, binP_agg_eql, te140, Option.bind_some]
  simp only [eqKs, eqK, if_true, Option.bind_some, Option.map_some]
  congr 2
  rw [Bool.eq_iff_iff]
  simp [GBuiltin.eq_iff]
@[go_sem] theorem GBuiltin.neq (x y : GBuiltin) : binP Tryz.prog .neq 140 x.enc y.enc = some (.bool (!decide (x = y))) := by
  have h := GBuiltin.eql x y
  rw [GBuiltin.enc_eq, GBuiltin.enc_eq] at h ⊢
  rw [binP_agg_eql, te140, Option.bind_some] at h
  rw [binP_agg_neq, te140, Option.bind_some]
  simp only [Option.map_eq_some_iff, PV.bool.injEq] at h ⊢
  obtain ⟨b, h1, h2⟩ := h
  exact ⟨b, h1, by rw [h2]⟩
structure GComponent where
  Name : List UInt8
  Version : List UInt8
  Imports : List GFace
  Exports : List GFace
  Encoding : Int
  Reserve : Int
  Module : GModule
  Lifts : List GLift
  Lowers : List GLower
  Builtins : List GBuiltin
def GComponent.enc (x : GComponent) : PV := .agg [.str x.Name, .str x.Version, .slice false (x.Imports.map GFace.enc), .slice false (x.Exports.map GFace.enc), .int .i64 x.Encoding, .int .i64 x.Reserve, .int .i64 x.Module.Pages, .slice false (x.Module.Imports.map GImport.enc), .slice false (x.Module.Cores.map GCore.enc), .slice false (x.Lifts.map GLift.enc), .slice false (x.Lowers.map GLower.enc), .slice false (x.Builtins.map GBuiltin.enc)]
theorem GComponent.enc_eq (x : GComponent) : x.enc = .agg [.str x.Name, .str x.Version, .slice false (x.Imports.map GFace.enc), .slice false (x.Exports.map GFace.enc), .int .i64 x.Encoding, .int .i64 x.Reserve, .int .i64 x.Module.Pages, .slice false (x.Module.Imports.map GImport.enc), .slice false (x.Module.Cores.map GCore.enc), .slice false (x.Lifts.map GLift.enc), .slice false (x.Lowers.map GLower.enc), .slice false (x.Builtins.map GBuiltin.enc)] := rfl
def GComponent.bulk (x : GComponent) : Nat := x.Name.length + x.Version.length + bulkL GFace.bulk x.Imports + bulkL GFace.bulk x.Exports + x.Module.bulk + bulkL GLift.bulk x.Lifts + bulkL GLower.bulk x.Lowers + bulkL GBuiltin.bulk x.Builtins
theorem GComponent.bulk_eq (x : GComponent) : x.bulk = x.Name.length + x.Version.length + bulkL GFace.bulk x.Imports + bulkL GFace.bulk x.Exports + x.Module.bulk + bulkL GLift.bulk x.Lifts + bulkL GLower.bulk x.Lowers + bulkL GBuiltin.bulk x.Builtins := rfl
def GComponent.Fits (x : GComponent) : Prop := x.Name.length ≤ 9223372036854775807 ∧ x.Version.length ≤ 9223372036854775807 ∧ (x.Imports.length ≤ 9223372036854775807 ∧ ∀ y ∈ x.Imports, y.Fits) ∧ (x.Exports.length ≤ 9223372036854775807 ∧ ∀ y ∈ x.Exports, y.Fits) ∧ (-9223372036854775808 ≤ x.Encoding ∧ x.Encoding ≤ 9223372036854775807) ∧ (-9223372036854775808 ≤ x.Reserve ∧ x.Reserve ≤ 9223372036854775807) ∧ x.Module.Fits ∧ (x.Lifts.length ≤ 9223372036854775807 ∧ ∀ y ∈ x.Lifts, y.Fits) ∧ (x.Lowers.length ≤ 9223372036854775807 ∧ ∀ y ∈ x.Lowers, y.Fits) ∧ (x.Builtins.length ≤ 9223372036854775807 ∧ ∀ y ∈ x.Builtins, y.Fits)
theorem GComponent.fits_eq (x : GComponent) : x.Fits = (x.Name.length ≤ 9223372036854775807 ∧ x.Version.length ≤ 9223372036854775807 ∧ (x.Imports.length ≤ 9223372036854775807 ∧ ∀ y ∈ x.Imports, y.Fits) ∧ (x.Exports.length ≤ 9223372036854775807 ∧ ∀ y ∈ x.Exports, y.Fits) ∧ (-9223372036854775808 ≤ x.Encoding ∧ x.Encoding ≤ 9223372036854775807) ∧ (-9223372036854775808 ≤ x.Reserve ∧ x.Reserve ≤ 9223372036854775807) ∧ x.Module.Fits ∧ (x.Lifts.length ≤ 9223372036854775807 ∧ ∀ y ∈ x.Lifts, y.Fits) ∧ (x.Lowers.length ≤ 9223372036854775807 ∧ ∀ y ∈ x.Lowers, y.Fits) ∧ (x.Builtins.length ≤ 9223372036854775807 ∧ ∀ y ∈ x.Builtins, y.Fits)) := rfl
@[go_sem] theorem GComponent.cells (x : GComponent) : x.enc.cells = [.str x.Name, .str x.Version, .slice false (x.Imports.map GFace.enc), .slice false (x.Exports.map GFace.enc), .int .i64 x.Encoding, .int .i64 x.Reserve, .int .i64 x.Module.Pages, .slice false (x.Module.Imports.map GImport.enc), .slice false (x.Module.Cores.map GCore.enc), .slice false (x.Lifts.map GLift.enc), .slice false (x.Lowers.map GLower.enc), .slice false (x.Builtins.map GBuiltin.enc)] := by rw [GComponent.enc_eq]; rfl
@[go_sem] theorem GComponent.fold (x : GComponent) : PV.agg [.str x.Name, .str x.Version, .slice false (x.Imports.map GFace.enc), .slice false (x.Exports.map GFace.enc), .int .i64 x.Encoding, .int .i64 x.Reserve, .int .i64 x.Module.Pages, .slice false (x.Module.Imports.map GImport.enc), .slice false (x.Module.Cores.map GCore.enc), .slice false (x.Lifts.map GLift.enc), .slice false (x.Lowers.map GLower.enc), .slice false (x.Builtins.map GBuiltin.enc)] = x.enc := (GComponent.enc_eq x).symm
@[go_sem] theorem GComponent.val (x : GComponent) : x.enc.isVal = true := by rw [GComponent.enc_eq]; rfl
@[go_sem] theorem GComponent.one (x : GComponent) : x.enc.one = false := by rw [GComponent.enc_eq]; rfl
@[go_sem] theorem GComponent.withCells (x : GComponent) (cs : List PV) : x.enc.withCells cs = some (.agg cs) := by rw [GComponent.enc_eq]; rfl
theorem GComponent.plain (x : GComponent) : Plain x.enc := by rw [GComponent.enc_eq]; exact Plain.agg_mk (Plains.cons (plain_str _) (Plains.cons (plain_str _) (Plains.cons (Plain.maps fun y _ => GFace.plain y) (Plains.cons (Plain.maps fun y _ => GFace.plain y) (Plains.cons (plain_int _ _) (Plains.cons (plain_int _ _) (Plains.cons (plain_int _ _) (Plains.cons (Plain.maps fun y _ => GImport.plain y) (Plains.cons (Plain.maps fun y _ => GCore.plain y) (Plains.cons (Plain.maps fun y _ => GLift.plain y) (Plains.cons (Plain.maps fun y _ => GLower.plain y) (Plains.cons (Plain.maps fun y _ => GBuiltin.plain y) Plains.nil))))))))))))
@[go_sem] theorem GComponent.noRef (x : GComponent) : x.enc.noRef = true := by rw [GComponent.enc_eq]; exact noRef_agg_mk (noRefs_cons_mk (rfl) (noRefs_cons_mk (rfl) (noRefs_cons_mk (noRef_maps fun y _ => GFace.noRef y) (noRefs_cons_mk (noRef_maps fun y _ => GFace.noRef y) (noRefs_cons_mk (rfl) (noRefs_cons_mk (rfl) (noRefs_cons_mk (rfl) (noRefs_cons_mk (noRef_maps fun y _ => GImport.noRef y) (noRefs_cons_mk (noRef_maps fun y _ => GCore.noRef y) (noRefs_cons_mk (noRef_maps fun y _ => GLift.noRef y) (noRefs_cons_mk (noRef_maps fun y _ => GLower.noRef y) (noRefs_cons_mk (noRef_maps fun y _ => GBuiltin.noRef y) noRefs_nil))))))))))))
@[go_sem] theorem GComponent.res (H : Heap) (x : GComponent) : res H x.enc = some x.enc := GComponent.plain x H
@[go_sem] theorem GComponent.resL (H : Heap) (l : List GComponent) : resL H (l.map GComponent.enc) = some (l.map GComponent.enc) := Plain.map GComponent.plain l H
@[go_sem] theorem GComponent.noRefs (l : List GComponent) : noRefs (l.map GComponent.enc) = true := noRefs_map fun y _ => GComponent.noRef y
structure GArg where
  Face : List UInt8
  From : Int
deriving DecidableEq
def GArg.enc (x : GArg) : PV := .agg [.str x.Face, .int .i64 x.From]
theorem GArg.enc_eq (x : GArg) : x.enc = .agg [.str x.Face, .int .i64 x.From] := rfl
def GArg.bulk (x : GArg) : Nat := x.Face.length
theorem GArg.bulk_eq (x : GArg) : x.bulk = x.Face.length := rfl
def GArg.Fits (x : GArg) : Prop := x.Face.length ≤ 9223372036854775807 ∧ (-9223372036854775808 ≤ x.From ∧ x.From ≤ 9223372036854775807)
theorem GArg.fits_eq (x : GArg) : x.Fits = (x.Face.length ≤ 9223372036854775807 ∧ (-9223372036854775808 ≤ x.From ∧ x.From ≤ 9223372036854775807)) := rfl
@[go_sem] theorem GArg.cells (x : GArg) : x.enc.cells = [.str x.Face, .int .i64 x.From] := by rw [GArg.enc_eq]; rfl
@[go_sem] theorem GArg.fold (x : GArg) : PV.agg [.str x.Face, .int .i64 x.From] = x.enc := (GArg.enc_eq x).symm
@[go_sem] theorem GArg.val (x : GArg) : x.enc.isVal = true := by rw [GArg.enc_eq]; rfl
@[go_sem] theorem GArg.one (x : GArg) : x.enc.one = false := by rw [GArg.enc_eq]; rfl
@[go_sem] theorem GArg.withCells (x : GArg) (cs : List PV) : x.enc.withCells cs = some (.agg cs) := by rw [GArg.enc_eq]; rfl
theorem GArg.plain (x : GArg) : Plain x.enc := by rw [GArg.enc_eq]; exact Plain.agg_mk (Plains.cons (plain_str _) (Plains.cons (plain_int _ _) Plains.nil))
@[go_sem] theorem GArg.noRef (x : GArg) : x.enc.noRef = true := by rw [GArg.enc_eq]; exact noRef_agg_mk (noRefs_cons_mk (rfl) (noRefs_cons_mk (rfl) noRefs_nil))
@[go_sem] theorem GArg.res (H : Heap) (x : GArg) : res H x.enc = some x.enc := GArg.plain x H
@[go_sem] theorem GArg.resL (H : Heap) (l : List GArg) : resL H (l.map GArg.enc) = some (l.map GArg.enc) := Plain.map GArg.plain l H
@[go_sem] theorem GArg.noRefs (l : List GArg) : noRefs (l.map GArg.enc) = true := noRefs_map fun y _ => GArg.noRef y
theorem GArg.eq_iff (x y : GArg) : x = y ↔ x.Face = y.Face ∧ x.From = y.From := by cases x; cases y; simp
@[go_sem] theorem GArg.eql (x y : GArg) : binP Tryz.prog .eql 81 x.enc y.enc = some (.bool (decide (x = y))) := by
  rw [GArg.enc_eq, GArg.enc_eq, binP_agg_eql, te81, Option.bind_some]
  simp only [eqKs, eqK, if_true, Option.bind_some, Option.map_some]
  congr 2
  rw [Bool.eq_iff_iff]
  simp [GArg.eq_iff]
@[go_sem] theorem GArg.neq (x y : GArg) : binP Tryz.prog .neq 81 x.enc y.enc = some (.bool (!decide (x = y))) := by
  have h := GArg.eql x y
  rw [GArg.enc_eq, GArg.enc_eq] at h ⊢
  rw [binP_agg_eql, te81, Option.bind_some] at h
  rw [binP_agg_neq, te81, Option.bind_some]
  simp only [Option.map_eq_some_iff, PV.bool.injEq] at h ⊢
  obtain ⟨b, h1, h2⟩ := h
  exact ⟨b, h1, by rw [h2]⟩
structure GInst where
  Comp : Int
  Args : List GArg
deriving DecidableEq
def GInst.enc (x : GInst) : PV := .agg [.int .i64 x.Comp, .slice false (x.Args.map GArg.enc)]
theorem GInst.enc_eq (x : GInst) : x.enc = .agg [.int .i64 x.Comp, .slice false (x.Args.map GArg.enc)] := rfl
def GInst.bulk (x : GInst) : Nat := bulkL GArg.bulk x.Args
theorem GInst.bulk_eq (x : GInst) : x.bulk = bulkL GArg.bulk x.Args := rfl
def GInst.Fits (x : GInst) : Prop := (-9223372036854775808 ≤ x.Comp ∧ x.Comp ≤ 9223372036854775807) ∧ (x.Args.length ≤ 9223372036854775807 ∧ ∀ y ∈ x.Args, y.Fits)
theorem GInst.fits_eq (x : GInst) : x.Fits = ((-9223372036854775808 ≤ x.Comp ∧ x.Comp ≤ 9223372036854775807) ∧ (x.Args.length ≤ 9223372036854775807 ∧ ∀ y ∈ x.Args, y.Fits)) := rfl
@[go_sem] theorem GInst.cells (x : GInst) : x.enc.cells = [.int .i64 x.Comp, .slice false (x.Args.map GArg.enc)] := by rw [GInst.enc_eq]; rfl
@[go_sem] theorem GInst.fold (x : GInst) : PV.agg [.int .i64 x.Comp, .slice false (x.Args.map GArg.enc)] = x.enc := (GInst.enc_eq x).symm
@[go_sem] theorem GInst.val (x : GInst) : x.enc.isVal = true := by rw [GInst.enc_eq]; rfl
@[go_sem] theorem GInst.one (x : GInst) : x.enc.one = false := by rw [GInst.enc_eq]; rfl
@[go_sem] theorem GInst.withCells (x : GInst) (cs : List PV) : x.enc.withCells cs = some (.agg cs) := by rw [GInst.enc_eq]; rfl
theorem GInst.plain (x : GInst) : Plain x.enc := by rw [GInst.enc_eq]; exact Plain.agg_mk (Plains.cons (plain_int _ _) (Plains.cons (Plain.maps fun y _ => GArg.plain y) Plains.nil))
@[go_sem] theorem GInst.noRef (x : GInst) : x.enc.noRef = true := by rw [GInst.enc_eq]; exact noRef_agg_mk (noRefs_cons_mk (rfl) (noRefs_cons_mk (noRef_maps fun y _ => GArg.noRef y) noRefs_nil))
@[go_sem] theorem GInst.res (H : Heap) (x : GInst) : res H x.enc = some x.enc := GInst.plain x H
@[go_sem] theorem GInst.resL (H : Heap) (l : List GInst) : resL H (l.map GInst.enc) = some (l.map GInst.enc) := Plain.map GInst.plain l H
@[go_sem] theorem GInst.noRefs (l : List GInst) : noRefs (l.map GInst.enc) = true := noRefs_map fun y _ => GInst.noRef y
structure GGraph where
  Host : List GFace
  Comps : List GComponent
  Insts : List GInst
def GGraph.enc (x : GGraph) : PV := .agg [.slice false (x.Host.map GFace.enc), .slice false (x.Comps.map GComponent.enc), .slice false (x.Insts.map GInst.enc)]
theorem GGraph.enc_eq (x : GGraph) : x.enc = .agg [.slice false (x.Host.map GFace.enc), .slice false (x.Comps.map GComponent.enc), .slice false (x.Insts.map GInst.enc)] := rfl
def GGraph.bulk (x : GGraph) : Nat := bulkL GFace.bulk x.Host + bulkL GComponent.bulk x.Comps + bulkL GInst.bulk x.Insts
theorem GGraph.bulk_eq (x : GGraph) : x.bulk = bulkL GFace.bulk x.Host + bulkL GComponent.bulk x.Comps + bulkL GInst.bulk x.Insts := rfl
def GGraph.Fits (x : GGraph) : Prop := (x.Host.length ≤ 9223372036854775807 ∧ ∀ y ∈ x.Host, y.Fits) ∧ (x.Comps.length ≤ 9223372036854775807 ∧ ∀ y ∈ x.Comps, y.Fits) ∧ (x.Insts.length ≤ 9223372036854775807 ∧ ∀ y ∈ x.Insts, y.Fits)
theorem GGraph.fits_eq (x : GGraph) : x.Fits = ((x.Host.length ≤ 9223372036854775807 ∧ ∀ y ∈ x.Host, y.Fits) ∧ (x.Comps.length ≤ 9223372036854775807 ∧ ∀ y ∈ x.Comps, y.Fits) ∧ (x.Insts.length ≤ 9223372036854775807 ∧ ∀ y ∈ x.Insts, y.Fits)) := rfl
@[go_sem] theorem GGraph.cells (x : GGraph) : x.enc.cells = [.slice false (x.Host.map GFace.enc), .slice false (x.Comps.map GComponent.enc), .slice false (x.Insts.map GInst.enc)] := by rw [GGraph.enc_eq]; rfl
@[go_sem] theorem GGraph.fold (x : GGraph) : PV.agg [.slice false (x.Host.map GFace.enc), .slice false (x.Comps.map GComponent.enc), .slice false (x.Insts.map GInst.enc)] = x.enc := (GGraph.enc_eq x).symm
@[go_sem] theorem GGraph.val (x : GGraph) : x.enc.isVal = true := by rw [GGraph.enc_eq]; rfl
@[go_sem] theorem GGraph.one (x : GGraph) : x.enc.one = false := by rw [GGraph.enc_eq]; rfl
@[go_sem] theorem GGraph.withCells (x : GGraph) (cs : List PV) : x.enc.withCells cs = some (.agg cs) := by rw [GGraph.enc_eq]; rfl
theorem GGraph.plain (x : GGraph) : Plain x.enc := by rw [GGraph.enc_eq]; exact Plain.agg_mk (Plains.cons (Plain.maps fun y _ => GFace.plain y) (Plains.cons (Plain.maps fun y _ => GComponent.plain y) (Plains.cons (Plain.maps fun y _ => GInst.plain y) Plains.nil)))
@[go_sem] theorem GGraph.noRef (x : GGraph) : x.enc.noRef = true := by rw [GGraph.enc_eq]; exact noRef_agg_mk (noRefs_cons_mk (noRef_maps fun y _ => GFace.noRef y) (noRefs_cons_mk (noRef_maps fun y _ => GComponent.noRef y) (noRefs_cons_mk (noRef_maps fun y _ => GInst.noRef y) noRefs_nil)))
@[go_sem] theorem GGraph.res (H : Heap) (x : GGraph) : res H x.enc = some x.enc := GGraph.plain x H
@[go_sem] theorem GGraph.resL (H : Heap) (l : List GGraph) : resL H (l.map GGraph.enc) = some (l.map GGraph.enc) := Plain.map GGraph.plain l H
@[go_sem] theorem GGraph.noRefs (l : List GGraph) : noRefs (l.map GGraph.enc) = true := noRefs_map fun y _ => GGraph.noRef y
structure GHostCall where
  Inst : Int
  Word : List UInt8
  Args : List (List UInt8)
  Answer : List UInt8
deriving DecidableEq
def GHostCall.enc (x : GHostCall) : PV := .agg [.int .i64 x.Inst, .str x.Word, .slice false (x.Args.map PV.str), .str x.Answer]
theorem GHostCall.enc_eq (x : GHostCall) : x.enc = .agg [.int .i64 x.Inst, .str x.Word, .slice false (x.Args.map PV.str), .str x.Answer] := rfl
def GHostCall.bulk (x : GHostCall) : Nat := x.Word.length + bulkL List.length x.Args + x.Answer.length
theorem GHostCall.bulk_eq (x : GHostCall) : x.bulk = x.Word.length + bulkL List.length x.Args + x.Answer.length := rfl
def GHostCall.Fits (x : GHostCall) : Prop := (-9223372036854775808 ≤ x.Inst ∧ x.Inst ≤ 9223372036854775807) ∧ x.Word.length ≤ 9223372036854775807 ∧ (x.Args.length ≤ 9223372036854775807 ∧ ∀ y ∈ x.Args, y.length ≤ 9223372036854775807) ∧ x.Answer.length ≤ 9223372036854775807
theorem GHostCall.fits_eq (x : GHostCall) : x.Fits = ((-9223372036854775808 ≤ x.Inst ∧ x.Inst ≤ 9223372036854775807) ∧ x.Word.length ≤ 9223372036854775807 ∧ (x.Args.length ≤ 9223372036854775807 ∧ ∀ y ∈ x.Args, y.length ≤ 9223372036854775807) ∧ x.Answer.length ≤ 9223372036854775807) := rfl
@[go_sem] theorem GHostCall.cells (x : GHostCall) : x.enc.cells = [.int .i64 x.Inst, .str x.Word, .slice false (x.Args.map PV.str), .str x.Answer] := by rw [GHostCall.enc_eq]; rfl
@[go_sem] theorem GHostCall.fold (x : GHostCall) : PV.agg [.int .i64 x.Inst, .str x.Word, .slice false (x.Args.map PV.str), .str x.Answer] = x.enc := (GHostCall.enc_eq x).symm
@[go_sem] theorem GHostCall.val (x : GHostCall) : x.enc.isVal = true := by rw [GHostCall.enc_eq]; rfl
@[go_sem] theorem GHostCall.one (x : GHostCall) : x.enc.one = false := by rw [GHostCall.enc_eq]; rfl
@[go_sem] theorem GHostCall.withCells (x : GHostCall) (cs : List PV) : x.enc.withCells cs = some (.agg cs) := by rw [GHostCall.enc_eq]; rfl
theorem GHostCall.plain (x : GHostCall) : Plain x.enc := by rw [GHostCall.enc_eq]; exact Plain.agg_mk (Plains.cons (plain_int _ _) (Plains.cons (plain_str _) (Plains.cons (Plain.maps fun y _ => plain_str _) (Plains.cons (plain_str _) Plains.nil))))
@[go_sem] theorem GHostCall.noRef (x : GHostCall) : x.enc.noRef = true := by rw [GHostCall.enc_eq]; exact noRef_agg_mk (noRefs_cons_mk (rfl) (noRefs_cons_mk (rfl) (noRefs_cons_mk (noRef_maps fun y _ => rfl) (noRefs_cons_mk (rfl) noRefs_nil))))
@[go_sem] theorem GHostCall.res (H : Heap) (x : GHostCall) : res H x.enc = some x.enc := GHostCall.plain x H
@[go_sem] theorem GHostCall.resL (H : Heap) (l : List GHostCall) : resL H (l.map GHostCall.enc) = some (l.map GHostCall.enc) := Plain.map GHostCall.plain l H
@[go_sem] theorem GHostCall.noRefs (l : List GHostCall) : noRefs (l.map GHostCall.enc) = true := noRefs_map fun y _ => GHostCall.noRef y
structure GRunning where
  Graph : GGraph
  Fused : Bool
  Memory : List GMemory
  Yard : GYard
  Log : List GHostCall
def GRunning.enc (x : GRunning) : PV := .agg [.slice false (x.Graph.Host.map GFace.enc), .slice false (x.Graph.Comps.map GComponent.enc), .slice false (x.Graph.Insts.map GInst.enc), .bool x.Fused, .slice false (x.Memory.map GMemory.enc), .int .i64 x.Yard.Shelf.Next, .slice false (x.Yard.Shelf.Tables.map GTable.enc), .slice false (x.Yard.Shelf.Things.map GThing.enc), .slice false (x.Yard.Stack.map GCall.enc), .int .i64 x.Yard.Next, .slice false (x.Yard.Dead.map (PV.int .i64)), .slice false (x.Log.map GHostCall.enc)]
theorem GRunning.enc_eq (x : GRunning) : x.enc = .agg [.slice false (x.Graph.Host.map GFace.enc), .slice false (x.Graph.Comps.map GComponent.enc), .slice false (x.Graph.Insts.map GInst.enc), .bool x.Fused, .slice false (x.Memory.map GMemory.enc), .int .i64 x.Yard.Shelf.Next, .slice false (x.Yard.Shelf.Tables.map GTable.enc), .slice false (x.Yard.Shelf.Things.map GThing.enc), .slice false (x.Yard.Stack.map GCall.enc), .int .i64 x.Yard.Next, .slice false (x.Yard.Dead.map (PV.int .i64)), .slice false (x.Log.map GHostCall.enc)] := rfl
def GRunning.bulk (x : GRunning) : Nat := x.Graph.bulk + bulkL GMemory.bulk x.Memory + x.Yard.bulk + bulkL GHostCall.bulk x.Log
theorem GRunning.bulk_eq (x : GRunning) : x.bulk = x.Graph.bulk + bulkL GMemory.bulk x.Memory + x.Yard.bulk + bulkL GHostCall.bulk x.Log := rfl
def GRunning.Fits (x : GRunning) : Prop := x.Graph.Fits ∧ True ∧ (x.Memory.length ≤ 9223372036854775807 ∧ ∀ y ∈ x.Memory, y.Fits) ∧ x.Yard.Fits ∧ (x.Log.length ≤ 9223372036854775807 ∧ ∀ y ∈ x.Log, y.Fits)
theorem GRunning.fits_eq (x : GRunning) : x.Fits = (x.Graph.Fits ∧ True ∧ (x.Memory.length ≤ 9223372036854775807 ∧ ∀ y ∈ x.Memory, y.Fits) ∧ x.Yard.Fits ∧ (x.Log.length ≤ 9223372036854775807 ∧ ∀ y ∈ x.Log, y.Fits)) := rfl
@[go_sem] theorem GRunning.cells (x : GRunning) : x.enc.cells = [.slice false (x.Graph.Host.map GFace.enc), .slice false (x.Graph.Comps.map GComponent.enc), .slice false (x.Graph.Insts.map GInst.enc), .bool x.Fused, .slice false (x.Memory.map GMemory.enc), .int .i64 x.Yard.Shelf.Next, .slice false (x.Yard.Shelf.Tables.map GTable.enc), .slice false (x.Yard.Shelf.Things.map GThing.enc), .slice false (x.Yard.Stack.map GCall.enc), .int .i64 x.Yard.Next, .slice false (x.Yard.Dead.map (PV.int .i64)), .slice false (x.Log.map GHostCall.enc)] := by rw [GRunning.enc_eq]; rfl
@[go_sem] theorem GRunning.fold (x : GRunning) : PV.agg [.slice false (x.Graph.Host.map GFace.enc), .slice false (x.Graph.Comps.map GComponent.enc), .slice false (x.Graph.Insts.map GInst.enc), .bool x.Fused, .slice false (x.Memory.map GMemory.enc), .int .i64 x.Yard.Shelf.Next, .slice false (x.Yard.Shelf.Tables.map GTable.enc), .slice false (x.Yard.Shelf.Things.map GThing.enc), .slice false (x.Yard.Stack.map GCall.enc), .int .i64 x.Yard.Next, .slice false (x.Yard.Dead.map (PV.int .i64)), .slice false (x.Log.map GHostCall.enc)] = x.enc := (GRunning.enc_eq x).symm
@[go_sem] theorem GRunning.val (x : GRunning) : x.enc.isVal = true := by rw [GRunning.enc_eq]; rfl
@[go_sem] theorem GRunning.one (x : GRunning) : x.enc.one = false := by rw [GRunning.enc_eq]; rfl
@[go_sem] theorem GRunning.withCells (x : GRunning) (cs : List PV) : x.enc.withCells cs = some (.agg cs) := by rw [GRunning.enc_eq]; rfl
theorem GRunning.plain (x : GRunning) : Plain x.enc := by rw [GRunning.enc_eq]; exact Plain.agg_mk (Plains.cons (Plain.maps fun y _ => GFace.plain y) (Plains.cons (Plain.maps fun y _ => GComponent.plain y) (Plains.cons (Plain.maps fun y _ => GInst.plain y) (Plains.cons (plain_bool _) (Plains.cons (Plain.maps fun y _ => GMemory.plain y) (Plains.cons (plain_int _ _) (Plains.cons (Plain.maps fun y _ => GTable.plain y) (Plains.cons (Plain.maps fun y _ => GThing.plain y) (Plains.cons (Plain.maps fun y _ => GCall.plain y) (Plains.cons (plain_int _ _) (Plains.cons (Plain.maps fun y _ => plain_int _ _) (Plains.cons (Plain.maps fun y _ => GHostCall.plain y) Plains.nil))))))))))))
@[go_sem] theorem GRunning.noRef (x : GRunning) : x.enc.noRef = true := by rw [GRunning.enc_eq]; exact noRef_agg_mk (noRefs_cons_mk (noRef_maps fun y _ => GFace.noRef y) (noRefs_cons_mk (noRef_maps fun y _ => GComponent.noRef y) (noRefs_cons_mk (noRef_maps fun y _ => GInst.noRef y) (noRefs_cons_mk (rfl) (noRefs_cons_mk (noRef_maps fun y _ => GMemory.noRef y) (noRefs_cons_mk (rfl) (noRefs_cons_mk (noRef_maps fun y _ => GTable.noRef y) (noRefs_cons_mk (noRef_maps fun y _ => GThing.noRef y) (noRefs_cons_mk (noRef_maps fun y _ => GCall.noRef y) (noRefs_cons_mk (rfl) (noRefs_cons_mk (noRef_maps fun y _ => rfl) (noRefs_cons_mk (noRef_maps fun y _ => GHostCall.noRef y) noRefs_nil))))))))))))
@[go_sem] theorem GRunning.res (H : Heap) (x : GRunning) : res H x.enc = some x.enc := GRunning.plain x H
@[go_sem] theorem GRunning.resL (H : Heap) (l : List GRunning) : resL H (l.map GRunning.enc) = some (l.map GRunning.enc) := Plain.map GRunning.plain l H
@[go_sem] theorem GRunning.noRefs (l : List GRunning) : noRefs (l.map GRunning.enc) = true := noRefs_map fun y _ => GRunning.noRef y
end Go.Proofs.YtdlkndnlpgmdaaaGreat.V
