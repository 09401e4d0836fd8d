/- An argument of a law's type is a value of the data. No condition. -/
import Derived.Test.YtdlkndnlpgmdaaaGreatVData
import Derived.Test.YtdlkndnlpgmdaaaGreatVRow
namespace Go.Proofs.YtdlkndnlpgmdaaaGreat.V
open Go Go.V Go.Proofs
set_option linter.unusedSimpArgs false
set_option linter.unusedVariables false

theorem GTyper_inv : ∀ (n : Nat) {p : PV}, SizeOf.sizeOf p ≤ n → HasTy Tryz.prog 235 p → ∃ x : GType, p = x.enc ∧ x.Fits
  | 0, p, hn, h => by cases p <;> simp at hn
  | n + 1, p, hn, h => by
    obtain ⟨css, rfl, hl, hc⟩ := h.struct_inv Tryz.underlying235
    match css, hl with
    | [c0, c1, c2, c3], _ =>
    obtain ⟨v0, rfl, k0⟩ := (hc 0 _ c0 rfl rfl).int_inv (k := .i64) Tryz.underlying2
    obtain ⟨v1, rfl, k1⟩ := (hc 1 _ c1 rfl rfl).str_inv Tryz.underlying9
    obtain ⟨es2, rfl, l2, k2⟩ := (hc 2 _ c2 rfl rfl).slice_inv Tryz.underlying86
    obtain ⟨v2, rfl, m2⟩ := list_of (enc := PV.str) (R := fun y => y.length ≤ 9223372036854775807) (fun x hx => hx.str_inv Tryz.underlying9) k2
    rw [List.length_map] at l2
    obtain ⟨es3, rfl, l3, k3⟩ := (hc 3 _ c3 rfl rfl).slice_inv Tryz.underlying233
    obtain ⟨v3, rfl, m3⟩ := list_of (Q := fun y => y ∈ es3 ∧ HasTy Tryz.prog 235 y) (enc := GType.enc) (R := fun y => y.Fits) (fun x hx => GTyper_inv n (by have := List.sizeOf_lt_of_mem hx.1; simp at hn; omega) hx.2) (fun x hx => ⟨hx, k3 x hx⟩)
    rw [List.length_map] at l3
    exact ⟨⟨v0, v1, v2, v3⟩, by rw [GType.enc_eq]; simp, by rw [GType.fits_eq]; exact ⟨k0, k1, ⟨l2, m2⟩, ⟨l3, m3⟩⟩⟩
theorem GType_inv {p : PV} (h : HasTy Tryz.prog 235 p) : ∃ x : GType, p = x.enc ∧ x.Fits := GTyper_inv _ (Nat.le_refl _) h
theorem GType_cinv {qs : List PV} (h : HasCs Tryz.prog 235 qs) : ∃ x : GType, qs = x.enc.cells ∧ x.Fits := by
  obtain ⟨x, h1, h2⟩ := GType_inv (p := .agg qs) ⟨h, fun _ => ⟨qs, rfl⟩, fun hs => by simp [isStruct, Tryz.underlying235] at hs⟩
  exact ⟨x, by rw [← h1]; rfl, h2⟩
theorem GParam_cinv {qs : List PV} (h : HasCs Tryz.prog 304 qs) : ∃ x : GParam, qs = x.enc.cells ∧ x.Fits := by
  obtain ⟨css, hl, rfl, hc⟩ := h.struct_inv Tryz.underlying304
  match css, hl with
  | [c0, c1], _ =>
    obtain ⟨v0, rfl, k0⟩ := (hc 0 _ c0 rfl rfl).str_inv Tryz.underlying9
    obtain ⟨v1, rfl, k1⟩ := GType_cinv (hc 1 _ c1 rfl rfl)
    exact ⟨⟨v0, v1⟩, by simp [go_sem], by rw [GParam.fits_eq]; exact ⟨k0, k1⟩⟩
theorem GParam_inv {p : PV} (h : HasTy Tryz.prog 304 p) : ∃ x : GParam, p = x.enc ∧ x.Fits := by
  obtain ⟨cs, rfl⟩ := h.2.1 (by simp [isStruct, Tryz.underlying304])
  obtain ⟨x, h1, h2⟩ := GParam_cinv h.1
  exact ⟨x, by rw [GParam.enc_eq]; rw [GParam.cells] at h1; rw [← h1]; rfl, h2⟩
theorem GFuncType_cinv {qs : List PV} (h : HasCs Tryz.prog 237 qs) : ∃ x : GFuncType, qs = x.enc.cells ∧ x.Fits := by
  obtain ⟨css, hl, rfl, hc⟩ := h.struct_inv Tryz.underlying237
  match css, hl with
  | [c0, c1, c2], _ =>
    obtain ⟨es0, rfl, l0, k0⟩ := (hc 0 _ c0 rfl rfl).slice_inv Tryz.underlying232
    obtain ⟨v0, rfl, m0⟩ := list_of (enc := GParam.enc) (R := fun y => y.Fits) (fun x hx => GParam_inv hx) k0
    rw [List.length_map] at l0
    obtain ⟨v1, rfl, k1⟩ := GType_cinv (hc 1 _ c1 rfl rfl)
    obtain ⟨v2, rfl⟩ := (hc 2 _ c2 rfl rfl).bool_inv Tryz.underlying4
    exact ⟨⟨v0, v1, v2⟩, by simp [go_sem], by rw [GFuncType.fits_eq]; exact ⟨⟨l0, m0⟩, k1, trivial⟩⟩
theorem GFuncType_inv {p : PV} (h : HasTy Tryz.prog 237 p) : ∃ x : GFuncType, p = x.enc ∧ x.Fits := by
  obtain ⟨cs, rfl⟩ := h.2.1 (by simp [isStruct, Tryz.underlying237])
  obtain ⟨x, h1, h2⟩ := GFuncType_cinv h.1
  exact ⟨x, by rw [GFuncType.enc_eq]; rw [GFuncType.cells] at h1; rw [← h1]; rfl, h2⟩
theorem GFunc_cinv {qs : List PV} (h : HasCs Tryz.prog 239 qs) : ∃ x : GFunc, qs = x.enc.cells ∧ x.Fits := by
  obtain ⟨css, hl, rfl, hc⟩ := h.struct_inv Tryz.underlying239
  match css, hl with
  | [c0, c1], _ =>
    obtain ⟨v0, rfl, k0⟩ := (hc 0 _ c0 rfl rfl).str_inv Tryz.underlying9
    obtain ⟨v1, rfl, k1⟩ := GFuncType_cinv (hc 1 _ c1 rfl rfl)
    exact ⟨⟨v0, v1⟩, by simp [go_sem], by rw [GFunc.fits_eq]; exact ⟨k0, k1⟩⟩
theorem GFunc_inv {p : PV} (h : HasTy Tryz.prog 239 p) : ∃ x : GFunc, p = x.enc ∧ x.Fits := by
  obtain ⟨cs, rfl⟩ := h.2.1 (by simp [isStruct, Tryz.underlying239])
  obtain ⟨x, h1, h2⟩ := GFunc_cinv h.1
  exact ⟨x, by rw [GFunc.enc_eq]; rw [GFunc.cells] at h1; rw [← h1]; rfl, h2⟩
theorem GFace_cinv {qs : List PV} (h : HasCs Tryz.prog 119 qs) : ∃ x : GFace, qs = x.enc.cells ∧ x.Fits := by
  obtain ⟨css, hl, rfl, hc⟩ := h.struct_inv Tryz.underlying119
  match css, hl with
  | [c0, c1, c2, c3, c4], _ =>
    obtain ⟨v0, rfl, k0⟩ := (hc 0 _ c0 rfl rfl).str_inv Tryz.underlying9
    obtain ⟨v1, rfl, k1⟩ := (hc 1 _ c1 rfl rfl).str_inv Tryz.underlying9
    obtain ⟨v2, rfl, k2⟩ := (hc 2 _ c2 rfl rfl).str_inv Tryz.underlying9
    obtain ⟨es3, rfl, l3, k3⟩ := (hc 3 _ c3 rfl rfl).slice_inv Tryz.underlying86
    obtain ⟨v3, rfl, m3⟩ := list_of (enc := PV.str) (R := fun y => y.length ≤ 9223372036854775807) (fun x hx => hx.str_inv Tryz.underlying9) k3
    rw [List.length_map] at l3
    obtain ⟨es4, rfl, l4, k4⟩ := (hc 4 _ c4 rfl rfl).slice_inv Tryz.underlying117
    obtain ⟨v4, rfl, m4⟩ := list_of (enc := GFunc.enc) (R := fun y => y.Fits) (fun x hx => GFunc_inv hx) k4
    rw [List.length_map] at l4
    exact ⟨⟨v0, v1, v2, v3, v4⟩, by simp [go_sem], by rw [GFace.fits_eq]; exact ⟨k0, k1, k2, ⟨l3, m3⟩, ⟨l4, m4⟩⟩⟩
theorem GFace_inv {p : PV} (h : HasTy Tryz.prog 119 p) : ∃ x : GFace, p = x.enc ∧ x.Fits := by
  obtain ⟨cs, rfl⟩ := h.2.1 (by simp [isStruct, Tryz.underlying119])
  obtain ⟨x, h1, h2⟩ := GFace_cinv h.1
  exact ⟨x, by rw [GFace.enc_eq]; rw [GFace.cells] at h1; rw [← h1]; rfl, h2⟩
theorem GBlock_cinv {qs : List PV} (h : HasCs Tryz.prog 271 qs) : ∃ x : GBlock, qs = x.enc.cells ∧ x.Fits := by
  obtain ⟨css, hl, rfl, hc⟩ := h.struct_inv Tryz.underlying271
  match css, hl with
  | [c0, c1], _ =>
    obtain ⟨v0, rfl, k0⟩ := (hc 0 _ c0 rfl rfl).int_inv (k := .i64) Tryz.underlying2
    obtain ⟨v1, rfl, k1⟩ := (hc 1 _ c1 rfl rfl).int_inv (k := .i64) Tryz.underlying2
    exact ⟨⟨v0, v1⟩, by simp [go_sem], by rw [GBlock.fits_eq]; exact ⟨k0, k1⟩⟩
theorem GBlock_inv {p : PV} (h : HasTy Tryz.prog 271 p) : ∃ x : GBlock, p = x.enc ∧ x.Fits := by
  obtain ⟨cs, rfl⟩ := h.2.1 (by simp [isStruct, Tryz.underlying271])
  obtain ⟨x, h1, h2⟩ := GBlock_cinv h.1
  exact ⟨x, by rw [GBlock.enc_eq]; rw [GBlock.cells] at h1; rw [← h1]; rfl, h2⟩
theorem GMemory_cinv {qs : List PV} (h : HasCs Tryz.prog 161 qs) : ∃ x : GMemory, qs = x.enc.cells ∧ x.Fits := by
  obtain ⟨css, hl, rfl, hc⟩ := h.struct_inv Tryz.underlying161
  match css, hl with
  | [c0, c1], _ =>
    obtain ⟨v0, rfl, k0⟩ := (hc 0 _ c0 rfl rfl).str_inv Tryz.underlying9
    obtain ⟨es1, rfl, l1, k1⟩ := (hc 1 _ c1 rfl rfl).slice_inv Tryz.underlying159
    obtain ⟨v1, rfl, m1⟩ := list_of (enc := GBlock.enc) (R := fun y => y.Fits) (fun x hx => GBlock_inv hx) k1
    rw [List.length_map] at l1
    exact ⟨⟨v0, v1⟩, by simp [go_sem], by rw [GMemory.fits_eq]; exact ⟨k0, ⟨l1, m1⟩⟩⟩
theorem GMemory_inv {p : PV} (h : HasTy Tryz.prog 161 p) : ∃ x : GMemory, p = x.enc ∧ x.Fits := by
  obtain ⟨cs, rfl⟩ := h.2.1 (by simp [isStruct, Tryz.underlying161])
  obtain ⟨x, h1, h2⟩ := GMemory_cinv h.1
  exact ⟨x, by rw [GMemory.enc_eq]; rw [GMemory.cells] at h1; rw [← h1]; rfl, h2⟩
theorem GIns_cinv {qs : List PV} (h : HasCs Tryz.prog 309 qs) : ∃ x : GIns, qs = x.enc.cells ∧ x.Fits := by
  obtain ⟨css, hl, rfl, hc⟩ := h.struct_inv Tryz.underlying309
  match css, hl with
  | [c0, c1], _ =>
    obtain ⟨v0, rfl, k0⟩ := (hc 0 _ c0 rfl rfl).int_inv (k := .i64) Tryz.underlying2
    obtain ⟨v1, rfl, k1⟩ := (hc 1 _ c1 rfl rfl).int_inv (k := .i64) Tryz.underlying2
    exact ⟨⟨v0, v1⟩, by simp [go_sem], by rw [GIns.fits_eq]; exact ⟨k0, k1⟩⟩
theorem GIns_inv {p : PV} (h : HasTy Tryz.prog 309 p) : ∃ x : GIns, p = x.enc ∧ x.Fits := by
  obtain ⟨cs, rfl⟩ := h.2.1 (by simp [isStruct, Tryz.underlying309])
  obtain ⟨x, h1, h2⟩ := GIns_cinv h.1
  exact ⟨x, by rw [GIns.enc_eq]; rw [GIns.cells] at h1; rw [← h1]; rfl, h2⟩
theorem GCore_cinv {qs : List PV} (h : HasCs Tryz.prog 283 qs) : ∃ x : GCore, qs = x.enc.cells ∧ x.Fits := by
  obtain ⟨css, hl, rfl, hc⟩ := h.struct_inv Tryz.underlying283
  match css, hl with
  | [c0, c1, c2, c3, c4], _ =>
    obtain ⟨v0, rfl, k0⟩ := (hc 0 _ c0 rfl rfl).str_inv Tryz.underlying9
    obtain ⟨v1, rfl, k1⟩ := (hc 1 _ c1 rfl rfl).int_inv (k := .i64) Tryz.underlying2
    obtain ⟨v2, rfl, k2⟩ := (hc 2 _ c2 rfl rfl).int_inv (k := .i64) Tryz.underlying2
    obtain ⟨v3, rfl⟩ := (hc 3 _ c3 rfl rfl).bool_inv Tryz.underlying4
    obtain ⟨es4, rfl, l4, k4⟩ := (hc 4 _ c4 rfl rfl).slice_inv Tryz.underlying281
    obtain ⟨v4, rfl, m4⟩ := list_of (enc := GIns.enc) (R := fun y => y.Fits) (fun x hx => GIns_inv hx) k4
    rw [List.length_map] at l4
    exact ⟨⟨v0, v1, v2, v3, v4⟩, by simp [go_sem], by rw [GCore.fits_eq]; exact ⟨k0, k1, k2, trivial, ⟨l4, m4⟩⟩⟩
theorem GCore_inv {p : PV} (h : HasTy Tryz.prog 283 p) : ∃ x : GCore, p = x.enc ∧ x.Fits := by
  obtain ⟨cs, rfl⟩ := h.2.1 (by simp [isStruct, Tryz.underlying283])
  obtain ⟨x, h1, h2⟩ := GCore_cinv h.1
  exact ⟨x, by rw [GCore.enc_eq]; rw [GCore.cells] at h1; rw [← h1]; rfl, h2⟩
theorem GImport_cinv {qs : List PV} (h : HasCs Tryz.prog 279 qs) : ∃ x : GImport, qs = x.enc.cells ∧ x.Fits := by
  obtain ⟨css, hl, rfl, hc⟩ := h.struct_inv Tryz.underlying279
  match css, hl with
  | [c0, c1, c2], _ =>
    obtain ⟨v0, rfl, k0⟩ := (hc 0 _ c0 rfl rfl).str_inv Tryz.underlying9
    obtain ⟨v1, rfl, k1⟩ := (hc 1 _ c1 rfl rfl).int_inv (k := .i64) Tryz.underlying2
    obtain ⟨v2, rfl⟩ := (hc 2 _ c2 rfl rfl).bool_inv Tryz.underlying4
    exact ⟨⟨v0, v1, v2⟩, by simp [go_sem], by rw [GImport.fits_eq]; exact ⟨k0, k1, trivial⟩⟩
theorem GImport_inv {p : PV} (h : HasTy Tryz.prog 279 p) : ∃ x : GImport, p = x.enc ∧ x.Fits := by
  obtain ⟨cs, rfl⟩ := h.2.1 (by simp [isStruct, Tryz.underlying279])
  obtain ⟨x, h1, h2⟩ := GImport_cinv h.1
  exact ⟨x, by rw [GImport.enc_eq]; rw [GImport.cells] at h1; rw [← h1]; rfl, h2⟩
theorem GModule_cinv {qs : List PV} (h : HasCs Tryz.prog 124 qs) : ∃ x : GModule, qs = x.enc.cells ∧ x.Fits := by
  obtain ⟨css, hl, rfl, hc⟩ := h.struct_inv Tryz.underlying124
  match css, hl with
  | [c0, c1, c2], _ =>
    obtain ⟨v0, rfl, k0⟩ := (hc 0 _ c0 rfl rfl).int_inv (k := .i64) Tryz.underlying2
    obtain ⟨es1, rfl, l1, k1⟩ := (hc 1 _ c1 rfl rfl).slice_inv Tryz.underlying121
    obtain ⟨v1, rfl, m1⟩ := list_of (enc := GImport.enc) (R := fun y => y.Fits) (fun x hx => GImport_inv hx) k1
    rw [List.length_map] at l1
    obtain ⟨es2, rfl, l2, k2⟩ := (hc 2 _ c2 rfl rfl).slice_inv Tryz.underlying122
    obtain ⟨v2, rfl, m2⟩ := list_of (enc := GCore.enc) (R := fun y => y.Fits) (fun x hx => GCore_inv hx) k2
    rw [List.length_map] at l2
    exact ⟨⟨v0, v1, v2⟩, by simp [go_sem], by rw [GModule.fits_eq]; exact ⟨k0, ⟨l1, m1⟩, ⟨l2, m2⟩⟩⟩
theorem GModule_inv {p : PV} (h : HasTy Tryz.prog 124 p) : ∃ x : GModule, p = x.enc ∧ x.Fits := by
  obtain ⟨cs, rfl⟩ := h.2.1 (by simp [isStruct, Tryz.underlying124])
  obtain ⟨x, h1, h2⟩ := GModule_cinv h.1
  exact ⟨x, by rw [GModule.enc_eq]; rw [GModule.cells] at h1; rw [← h1]; rfl, h2⟩
theorem GEntry_cinv {qs : List PV} (h : HasCs Tryz.prog 300 qs) : ∃ x : GEntry, qs = x.enc.cells ∧ x.Fits := by
  obtain ⟨css, hl, rfl, hc⟩ := h.struct_inv Tryz.underlying300
  match css, hl with
  | [c0, c1, c2, c3, c4, c5, c6], _ =>
    obtain ⟨v0, rfl, k0⟩ := (hc 0 _ c0 rfl rfl).int_inv (k := .i64) Tryz.underlying2
    obtain ⟨v1, rfl, k1⟩ := (hc 1 _ c1 rfl rfl).int_inv (k := .i64) Tryz.underlying2
    obtain ⟨v2, rfl⟩ := (hc 2 _ c2 rfl rfl).bool_inv Tryz.underlying4
    obtain ⟨v3, rfl, k3⟩ := (hc 3 _ c3 rfl rfl).int_inv (k := .i64) Tryz.underlying2
    obtain ⟨v4, rfl, k4⟩ := (hc 4 _ c4 rfl rfl).int_inv (k := .i64) Tryz.underlying2
    obtain ⟨v5, rfl, k5⟩ := (hc 5 _ c5 rfl rfl).int_inv (k := .i64) Tryz.underlying2
    obtain ⟨v6, rfl, k6⟩ := (hc 6 _ c6 rfl rfl).int_inv (k := .i64) Tryz.underlying2
    exact ⟨⟨v0, v1, v2, v3, v4, v5, v6⟩, by simp [go_sem], by rw [GEntry.fits_eq]; exact ⟨k0, k1, trivial, k3, k4, k5, k6⟩⟩
theorem GEntry_inv {p : PV} (h : HasTy Tryz.prog 300 p) : ∃ x : GEntry, p = x.enc ∧ x.Fits := by
  obtain ⟨cs, rfl⟩ := h.2.1 (by simp [isStruct, Tryz.underlying300])
  obtain ⟨x, h1, h2⟩ := GEntry_cinv h.1
  exact ⟨x, by rw [GEntry.enc_eq]; rw [GEntry.cells] at h1; rw [← h1]; rfl, h2⟩
theorem GTable_cinv {qs : List PV} (h : HasCs Tryz.prog 269 qs) : ∃ x : GTable, qs = x.enc.cells ∧ x.Fits := by
  obtain ⟨css, hl, rfl, hc⟩ := h.struct_inv Tryz.underlying269
  match css, hl with
  | [c0, c1], _ =>
    obtain ⟨v0, rfl, k0⟩ := (hc 0 _ c0 rfl rfl).int_inv (k := .i64) Tryz.underlying2
    obtain ⟨es1, rfl, l1, k1⟩ := (hc 1 _ c1 rfl rfl).slice_inv Tryz.underlying267
    obtain ⟨v1, rfl, m1⟩ := list_of (enc := GEntry.enc) (R := fun y => y.Fits) (fun x hx => GEntry_inv hx) k1
    rw [List.length_map] at l1
    exact ⟨⟨v0, v1⟩, by simp [go_sem], by rw [GTable.fits_eq]; exact ⟨k0, ⟨l1, m1⟩⟩⟩
theorem GTable_inv {p : PV} (h : HasTy Tryz.prog 269 p) : ∃ x : GTable, p = x.enc ∧ x.Fits := by
  obtain ⟨cs, rfl⟩ := h.2.1 (by simp [isStruct, Tryz.underlying269])
  obtain ⟨x, h1, h2⟩ := GTable_cinv h.1
  exact ⟨x, by rw [GTable.enc_eq]; rw [GTable.cells] at h1; rw [← h1]; rfl, h2⟩
theorem GThing_cinv {qs : List PV} (h : HasCs Tryz.prog 274 qs) : ∃ x : GThing, qs = x.enc.cells ∧ x.Fits := by
  obtain ⟨css, hl, rfl, hc⟩ := h.struct_inv Tryz.underlying274
  match css, hl with
  | [c0, c1, c2], _ =>
    obtain ⟨v0, rfl, k0⟩ := (hc 0 _ c0 rfl rfl).int_inv (k := .i64) Tryz.underlying2
    obtain ⟨v1, rfl, k1⟩ := (hc 1 _ c1 rfl rfl).int_inv (k := .i64) Tryz.underlying2
    obtain ⟨v2, rfl, k2⟩ := (hc 2 _ c2 rfl rfl).int_inv (k := .i64) Tryz.underlying2
    exact ⟨⟨v0, v1, v2⟩, by simp [go_sem], by rw [GThing.fits_eq]; exact ⟨k0, k1, k2⟩⟩
theorem GThing_inv {p : PV} (h : HasTy Tryz.prog 274 p) : ∃ x : GThing, p = x.enc ∧ x.Fits := by
  obtain ⟨cs, rfl⟩ := h.2.1 (by simp [isStruct, Tryz.underlying274])
  obtain ⟨x, h1, h2⟩ := GThing_cinv h.1
  exact ⟨x, by rw [GThing.enc_eq]; rw [GThing.cells] at h1; rw [← h1]; rfl, h2⟩
theorem GShelf_cinv {qs : List PV} (h : HasCs Tryz.prog 40 qs) : ∃ x : GShelf, qs = x.enc.cells ∧ x.Fits := by
  obtain ⟨css, hl, rfl, hc⟩ := h.struct_inv Tryz.underlying40
  match css, hl with
  | [c0, c1, c2], _ =>
    obtain ⟨v0, rfl, k0⟩ := (hc 0 _ c0 rfl rfl).int_inv (k := .i64) Tryz.underlying2
    obtain ⟨es1, rfl, l1, k1⟩ := (hc 1 _ c1 rfl rfl).slice_inv Tryz.underlying37
    obtain ⟨v1, rfl, m1⟩ := list_of (enc := GTable.enc) (R := fun y => y.Fits) (fun x hx => GTable_inv hx) k1
    rw [List.length_map] at l1
    obtain ⟨es2, rfl, l2, k2⟩ := (hc 2 _ c2 rfl rfl).slice_inv Tryz.underlying38
    obtain ⟨v2, rfl, m2⟩ := list_of (enc := GThing.enc) (R := fun y => y.Fits) (fun x hx => GThing_inv hx) k2
    rw [List.length_map] at l2
    exact ⟨⟨v0, v1, v2⟩, by simp [go_sem], by rw [GShelf.fits_eq]; exact ⟨k0, ⟨l1, m1⟩, ⟨l2, m2⟩⟩⟩
theorem GShelf_inv {p : PV} (h : HasTy Tryz.prog 40 p) : ∃ x : GShelf, p = x.enc ∧ x.Fits := by
  obtain ⟨cs, rfl⟩ := h.2.1 (by simp [isStruct, Tryz.underlying40])
  obtain ⟨x, h1, h2⟩ := GShelf_cinv h.1
  exact ⟨x, by rw [GShelf.enc_eq]; rw [GShelf.cells] at h1; rw [← h1]; rfl, h2⟩
theorem GCall_cinv {qs : List PV} (h : HasCs Tryz.prog 214 qs) : ∃ x : GCall, qs = x.enc.cells ∧ x.Fits := by
  obtain ⟨css, hl, rfl, hc⟩ := h.struct_inv Tryz.underlying214
  match css, hl with
  | [c0, c1, c2, c3], _ =>
    obtain ⟨v0, rfl, k0⟩ := (hc 0 _ c0 rfl rfl).int_inv (k := .i64) Tryz.underlying2
    obtain ⟨v1, rfl, k1⟩ := (hc 1 _ c1 rfl rfl).int_inv (k := .i64) Tryz.underlying2
    obtain ⟨v2, rfl, k2⟩ := (hc 2 _ c2 rfl rfl).int_inv (k := .i64) Tryz.underlying2
    obtain ⟨es3, rfl, l3, k3⟩ := (hc 3 _ c3 rfl rfl).slice_inv Tryz.underlying42
    obtain ⟨v3, rfl, m3⟩ := list_of (enc := (PV.int .i64)) (R := fun y => (-9223372036854775808 ≤ y ∧ y ≤ 9223372036854775807)) (fun x hx => hx.int_inv Tryz.underlying2) k3
    rw [List.length_map] at l3
    exact ⟨⟨v0, v1, v2, v3⟩, by simp [go_sem], by rw [GCall.fits_eq]; exact ⟨k0, k1, k2, ⟨l3, m3⟩⟩⟩
theorem GCall_inv {p : PV} (h : HasTy Tryz.prog 214 p) : ∃ x : GCall, p = x.enc ∧ x.Fits := by
  obtain ⟨cs, rfl⟩ := h.2.1 (by simp [isStruct, Tryz.underlying214])
  obtain ⟨x, h1, h2⟩ := GCall_cinv h.1
  exact ⟨x, by rw [GCall.enc_eq]; rw [GCall.cells] at h1; rw [← h1]; rfl, h2⟩
theorem GYard_cinv {qs : List PV} (h : HasCs Tryz.prog 44 qs) : ∃ x : GYard, qs = x.enc.cells ∧ x.Fits := by
  obtain ⟨css, hl, rfl, hc⟩ := h.struct_inv Tryz.underlying44
  match css, hl with
  | [c0, c1, c2, c3], _ =>
    obtain ⟨v0, rfl, k0⟩ := GShelf_cinv (hc 0 _ c0 rfl rfl)
    obtain ⟨es1, rfl, l1, k1⟩ := (hc 1 _ c1 rfl rfl).slice_inv Tryz.underlying41
    obtain ⟨v1, rfl, m1⟩ := list_of (enc := GCall.enc) (R := fun y => y.Fits) (fun x hx => GCall_inv hx) k1
    rw [List.length_map] at l1
    obtain ⟨v2, rfl, k2⟩ := (hc 2 _ c2 rfl rfl).int_inv (k := .i64) Tryz.underlying2
    obtain ⟨es3, rfl, l3, k3⟩ := (hc 3 _ c3 rfl rfl).slice_inv Tryz.underlying42
    obtain ⟨v3, rfl, m3⟩ := list_of (enc := (PV.int .i64)) (R := fun y => (-9223372036854775808 ≤ y ∧ y ≤ 9223372036854775807)) (fun x hx => hx.int_inv Tryz.underlying2) k3
    rw [List.length_map] at l3
    exact ⟨⟨v0, v1, v2, v3⟩, by simp [go_sem], by rw [GYard.fits_eq]; exact ⟨k0, ⟨l1, m1⟩, k2, ⟨l3, m3⟩⟩⟩
theorem GYard_inv {p : PV} (h : HasTy Tryz.prog 44 p) : ∃ x : GYard, p = x.enc ∧ x.Fits := by
  obtain ⟨cs, rfl⟩ := h.2.1 (by simp [isStruct, Tryz.underlying44])
  obtain ⟨x, h1, h2⟩ := GYard_cinv h.1
  exact ⟨x, by rw [GYard.enc_eq]; rw [GYard.cells] at h1; rw [← h1]; rfl, h2⟩
theorem GLift_cinv {qs : List PV} (h : HasCs Tryz.prog 243 qs) : ∃ x : GLift, qs = x.enc.cells ∧ x.Fits := by
  obtain ⟨css, hl, rfl, hc⟩ := h.struct_inv Tryz.underlying243
  match css, hl with
  | [c0, c1, c2], _ =>
    obtain ⟨v0, rfl, k0⟩ := (hc 0 _ c0 rfl rfl).str_inv Tryz.underlying9
    obtain ⟨v1, rfl, k1⟩ := (hc 1 _ c1 rfl rfl).str_inv Tryz.underlying9
    obtain ⟨v2, rfl, k2⟩ := (hc 2 _ c2 rfl rfl).str_inv Tryz.underlying9
    exact ⟨⟨v0, v1, v2⟩, by simp [go_sem], by rw [GLift.fits_eq]; exact ⟨k0, k1, k2⟩⟩
theorem GLift_inv {p : PV} (h : HasTy Tryz.prog 243 p) : ∃ x : GLift, p = x.enc ∧ x.Fits := by
  obtain ⟨cs, rfl⟩ := h.2.1 (by simp [isStruct, Tryz.underlying243])
  obtain ⟨x, h1, h2⟩ := GLift_cinv h.1
  exact ⟨x, by rw [GLift.enc_eq]; rw [GLift.cells] at h1; rw [← h1]; rfl, h2⟩
theorem GLower_cinv {qs : List PV} (h : HasCs Tryz.prog 245 qs) : ∃ x : GLower, qs = x.enc.cells ∧ x.Fits := by
  obtain ⟨css, hl, rfl, hc⟩ := h.struct_inv Tryz.underlying245
  match css, hl with
  | [c0, c1, c2], _ =>
    obtain ⟨v0, rfl, k0⟩ := (hc 0 _ c0 rfl rfl).str_inv Tryz.underlying9
    obtain ⟨v1, rfl, k1⟩ := (hc 1 _ c1 rfl rfl).str_inv Tryz.underlying9
    obtain ⟨v2, rfl, k2⟩ := (hc 2 _ c2 rfl rfl).str_inv Tryz.underlying9
    exact ⟨⟨v0, v1, v2⟩, by simp [go_sem], by rw [GLower.fits_eq]; exact ⟨k0, k1, k2⟩⟩
theorem GLower_inv {p : PV} (h : HasTy Tryz.prog 245 p) : ∃ x : GLower, p = x.enc ∧ x.Fits := by
  obtain ⟨cs, rfl⟩ := h.2.1 (by simp [isStruct, Tryz.underlying245])
  obtain ⟨x, h1, h2⟩ := GLower_cinv h.1
  exact ⟨x, by rw [GLower.enc_eq]; rw [GLower.cells] at h1; rw [← h1]; rfl, h2⟩
theorem GBuiltin_cinv {qs : List PV} (h : HasCs Tryz.prog 247 qs) : ∃ x : GBuiltin, qs = x.enc.cells ∧ x.Fits := by
  obtain ⟨css, hl, rfl, hc⟩ := h.struct_inv Tryz.underlying247
  match css, hl with
  | [c0, c1, c2, c3], _ =>
    obtain ⟨v0, rfl, k0⟩ := (hc 0 _ c0 rfl rfl).int_inv (k := .i64) Tryz.underlying2
    obtain ⟨v1, rfl, k1⟩ := (hc 1 _ c1 rfl rfl).str_inv Tryz.underlying9
    obtain ⟨v2, rfl, k2⟩ := (hc 2 _ c2 rfl rfl).str_inv Tryz.underlying9
    obtain ⟨v3, rfl, k3⟩ := (hc 3 _ c3 rfl rfl).str_inv Tryz.underlying9
    exact ⟨⟨v0, v1, v2, v3⟩, by simp [go_sem], by rw [GBuiltin.fits_eq]; exact ⟨k0, k1, k2, k3⟩⟩
theorem GBuiltin_inv {p : PV} (h : HasTy Tryz.prog 247 p) : ∃ x : GBuiltin, p = x.enc ∧ x.Fits := by
  obtain ⟨cs, rfl⟩ := h.2.1 (by simp [isStruct, Tryz.underlying247])
  obtain ⟨x, h1, h2⟩ := GBuiltin_cinv h.1
  exact ⟨x, by rw [GBuiltin.enc_eq]; rw [GBuiltin.cells] at h1; rw [← h1]; rfl, h2⟩
theorem GComponent_cinv {qs : List PV} (h : HasCs Tryz.prog 129 qs) : ∃ x : GComponent, qs = x.enc.cells ∧ x.Fits := by
  obtain ⟨css, hl, rfl, hc⟩ := h.struct_inv Tryz.underlying129
  match css, hl with
  | [c0, c1, c2, c3, c4, c5, c6, c7, c8, c9], _ =>
    obtain ⟨v0, rfl, k0⟩ := (hc 0 _ c0 rfl rfl).str_inv Tryz.underlying9
    obtain ⟨v1, rfl, k1⟩ := (hc 1 _ c1 rfl rfl).str_inv Tryz.underlying9
    obtain ⟨es2, rfl, l2, k2⟩ := (hc 2 _ c2 rfl rfl).slice_inv Tryz.underlying22
    obtain ⟨v2, rfl, m2⟩ := list_of (enc := GFace.enc) (R := fun y => y.Fits) (fun x hx => GFace_inv hx) k2
    rw [List.length_map] at l2
    obtain ⟨es3, rfl, l3, k3⟩ := (hc 3 _ c3 rfl rfl).slice_inv Tryz.underlying22
    obtain ⟨v3, rfl, m3⟩ := list_of (enc := GFace.enc) (R := fun y => y.Fits) (fun x hx => GFace_inv hx) k3
    rw [List.length_map] at l3
    obtain ⟨v4, rfl, k4⟩ := (hc 4 _ c4 rfl rfl).int_inv (k := .i64) Tryz.underlying2
    obtain ⟨v5, rfl, k5⟩ := (hc 5 _ c5 rfl rfl).int_inv (k := .i64) Tryz.underlying2
    obtain ⟨v6, rfl, k6⟩ := GModule_cinv (hc 6 _ c6 rfl rfl)
    obtain ⟨es7, rfl, l7, k7⟩ := (hc 7 _ c7 rfl rfl).slice_inv Tryz.underlying125
    obtain ⟨v7, rfl, m7⟩ := list_of (enc := GLift.enc) (R := fun y => y.Fits) (fun x hx => GLift_inv hx) k7
    rw [List.length_map] at l7
    obtain ⟨es8, rfl, l8, k8⟩ := (hc 8 _ c8 rfl rfl).slice_inv Tryz.underlying126
    obtain ⟨v8, rfl, m8⟩ := list_of (enc := GLower.enc) (R := fun y => y.Fits) (fun x hx => GLower_inv hx) k8
    rw [List.length_map] at l8
    obtain ⟨es9, rfl, l9, k9⟩ := (hc 9 _ c9 rfl rfl).slice_inv Tryz.underlying127
    obtain ⟨v9, rfl, m9⟩ := list_of (enc := GBuiltin.enc) (R := fun y => y.Fits) (fun x hx => GBuiltin_inv hx) k9
    rw [List.length_map] at l9
    exact ⟨⟨v0, v1, v2, v3, v4, v5, v6, v7, v8, v9⟩, by simp [go_sem], by rw [GComponent.fits_eq]; exact ⟨k0, k1, ⟨l2, m2⟩, ⟨l3, m3⟩, k4, k5, k6, ⟨l7, m7⟩, ⟨l8, m8⟩, ⟨l9, m9⟩⟩⟩
theorem GComponent_inv {p : PV} (h : HasTy Tryz.prog 129 p) : ∃ x : GComponent, p = x.enc ∧ x.Fits := by
  obtain ⟨cs, rfl⟩ := h.2.1 (by simp [isStruct, Tryz.underlying129])
  obtain ⟨x, h1, h2⟩ := GComponent_cinv h.1
  exact ⟨x, by rw [GComponent.enc_eq]; rw [GComponent.cells] at h1; rw [← h1]; rfl, h2⟩
theorem GArg_cinv {qs : List PV} (h : HasCs Tryz.prog 249 qs) : ∃ x : GArg, qs = x.enc.cells ∧ x.Fits := by
  obtain ⟨css, hl, rfl, hc⟩ := h.struct_inv Tryz.underlying249
  match css, hl with
  | [c0, c1], _ =>
    obtain ⟨v0, rfl, k0⟩ := (hc 0 _ c0 rfl rfl).str_inv Tryz.underlying9
    obtain ⟨v1, rfl, k1⟩ := (hc 1 _ c1 rfl rfl).int_inv (k := .i64) Tryz.underlying2
    exact ⟨⟨v0, v1⟩, by simp [go_sem], by rw [GArg.fits_eq]; exact ⟨k0, k1⟩⟩
theorem GArg_inv {p : PV} (h : HasTy Tryz.prog 249 p) : ∃ x : GArg, p = x.enc ∧ x.Fits := by
  obtain ⟨cs, rfl⟩ := h.2.1 (by simp [isStruct, Tryz.underlying249])
  obtain ⟨x, h1, h2⟩ := GArg_cinv h.1
  exact ⟨x, by rw [GArg.enc_eq]; rw [GArg.cells] at h1; rw [← h1]; rfl, h2⟩
theorem GInst_cinv {qs : List PV} (h : HasCs Tryz.prog 133 qs) : ∃ x : GInst, qs = x.enc.cells ∧ x.Fits := by
  obtain ⟨css, hl, rfl, hc⟩ := h.struct_inv Tryz.underlying133
  match css, hl with
  | [c0, c1], _ =>
    obtain ⟨v0, rfl, k0⟩ := (hc 0 _ c0 rfl rfl).int_inv (k := .i64) Tryz.underlying2
    obtain ⟨es1, rfl, l1, k1⟩ := (hc 1 _ c1 rfl rfl).slice_inv Tryz.underlying131
    obtain ⟨v1, rfl, m1⟩ := list_of (enc := GArg.enc) (R := fun y => y.Fits) (fun x hx => GArg_inv hx) k1
    rw [List.length_map] at l1
    exact ⟨⟨v0, v1⟩, by simp [go_sem], by rw [GInst.fits_eq]; exact ⟨k0, ⟨l1, m1⟩⟩⟩
theorem GInst_inv {p : PV} (h : HasTy Tryz.prog 133 p) : ∃ x : GInst, p = x.enc ∧ x.Fits := by
  obtain ⟨cs, rfl⟩ := h.2.1 (by simp [isStruct, Tryz.underlying133])
  obtain ⟨x, h1, h2⟩ := GInst_cinv h.1
  exact ⟨x, by rw [GInst.enc_eq]; rw [GInst.cells] at h1; rw [← h1]; rfl, h2⟩
theorem GGraph_cinv {qs : List PV} (h : HasCs Tryz.prog 26 qs) : ∃ x : GGraph, qs = x.enc.cells ∧ x.Fits := by
  obtain ⟨css, hl, rfl, hc⟩ := h.struct_inv Tryz.underlying26
  match css, hl with
  | [c0, c1, c2], _ =>
    obtain ⟨es0, rfl, l0, k0⟩ := (hc 0 _ c0 rfl rfl).slice_inv Tryz.underlying22
    obtain ⟨v0, rfl, m0⟩ := list_of (enc := GFace.enc) (R := fun y => y.Fits) (fun x hx => GFace_inv hx) k0
    rw [List.length_map] at l0
    obtain ⟨es1, rfl, l1, k1⟩ := (hc 1 _ c1 rfl rfl).slice_inv Tryz.underlying23
    obtain ⟨v1, rfl, m1⟩ := list_of (enc := GComponent.enc) (R := fun y => y.Fits) (fun x hx => GComponent_inv hx) k1
    rw [List.length_map] at l1
    obtain ⟨es2, rfl, l2, k2⟩ := (hc 2 _ c2 rfl rfl).slice_inv Tryz.underlying24
    obtain ⟨v2, rfl, m2⟩ := list_of (enc := GInst.enc) (R := fun y => y.Fits) (fun x hx => GInst_inv hx) k2
    rw [List.length_map] at l2
    exact ⟨⟨v0, v1, v2⟩, by simp [go_sem], by rw [GGraph.fits_eq]; exact ⟨⟨l0, m0⟩, ⟨l1, m1⟩, ⟨l2, m2⟩⟩⟩
theorem GGraph_inv {p : PV} (h : HasTy Tryz.prog 26 p) : ∃ x : GGraph, p = x.enc ∧ x.Fits := by
  obtain ⟨cs, rfl⟩ := h.2.1 (by simp [isStruct, Tryz.underlying26])
  obtain ⟨x, h1, h2⟩ := GGraph_cinv h.1
  exact ⟨x, by rw [GGraph.enc_eq]; rw [GGraph.cells] at h1; rw [← h1]; rfl, h2⟩
theorem GHostCall_cinv {qs : List PV} (h : HasCs Tryz.prog 166 qs) : ∃ x : GHostCall, qs = x.enc.cells ∧ x.Fits := by
  obtain ⟨css, hl, rfl, hc⟩ := h.struct_inv Tryz.underlying166
  match css, hl with
  | [c0, c1, c2, c3], _ =>
    obtain ⟨v0, rfl, k0⟩ := (hc 0 _ c0 rfl rfl).int_inv (k := .i64) Tryz.underlying2
    obtain ⟨v1, rfl, k1⟩ := (hc 1 _ c1 rfl rfl).str_inv Tryz.underlying9
    obtain ⟨es2, rfl, l2, k2⟩ := (hc 2 _ c2 rfl rfl).slice_inv Tryz.underlying86
    obtain ⟨v2, rfl, m2⟩ := list_of (enc := PV.str) (R := fun y => y.length ≤ 9223372036854775807) (fun x hx => hx.str_inv Tryz.underlying9) k2
    rw [List.length_map] at l2
    obtain ⟨v3, rfl, k3⟩ := (hc 3 _ c3 rfl rfl).str_inv Tryz.underlying9
    exact ⟨⟨v0, v1, v2, v3⟩, by simp [go_sem], by rw [GHostCall.fits_eq]; exact ⟨k0, k1, ⟨l2, m2⟩, k3⟩⟩
theorem GHostCall_inv {p : PV} (h : HasTy Tryz.prog 166 p) : ∃ x : GHostCall, p = x.enc ∧ x.Fits := by
  obtain ⟨cs, rfl⟩ := h.2.1 (by simp [isStruct, Tryz.underlying166])
  obtain ⟨x, h1, h2⟩ := GHostCall_cinv h.1
  exact ⟨x, by rw [GHostCall.enc_eq]; rw [GHostCall.cells] at h1; rw [← h1]; rfl, h2⟩
theorem GRunning_cinv {qs : List PV} (h : HasCs Tryz.prog 47 qs) : ∃ x : GRunning, qs = x.enc.cells ∧ x.Fits := by
  obtain ⟨css, hl, rfl, hc⟩ := h.struct_inv Tryz.underlying47
  match css, hl with
  | [c0, c1, c2, c3, c4], _ =>
    obtain ⟨v0, rfl, k0⟩ := GGraph_cinv (hc 0 _ c0 rfl rfl)
    obtain ⟨v1, rfl⟩ := (hc 1 _ c1 rfl rfl).bool_inv Tryz.underlying4
    obtain ⟨es2, rfl, l2, k2⟩ := (hc 2 _ c2 rfl rfl).slice_inv Tryz.underlying36
    obtain ⟨v2, rfl, m2⟩ := list_of (enc := GMemory.enc) (R := fun y => y.Fits) (fun x hx => GMemory_inv hx) k2
    rw [List.length_map] at l2
    obtain ⟨v3, rfl, k3⟩ := GYard_cinv (hc 3 _ c3 rfl rfl)
    obtain ⟨es4, rfl, l4, k4⟩ := (hc 4 _ c4 rfl rfl).slice_inv Tryz.underlying45
    obtain ⟨v4, rfl, m4⟩ := list_of (enc := GHostCall.enc) (R := fun y => y.Fits) (fun x hx => GHostCall_inv hx) k4
    rw [List.length_map] at l4
    exact ⟨⟨v0, v1, v2, v3, v4⟩, by simp [go_sem], by rw [GRunning.fits_eq]; exact ⟨k0, trivial, ⟨l2, m2⟩, k3, ⟨l4, m4⟩⟩⟩
theorem GRunning_inv {p : PV} (h : HasTy Tryz.prog 47 p) : ∃ x : GRunning, p = x.enc ∧ x.Fits := by
  obtain ⟨cs, rfl⟩ := h.2.1 (by simp [isStruct, Tryz.underlying47])
  obtain ⟨x, h1, h2⟩ := GRunning_cinv h.1
  exact ⟨x, by rw [GRunning.enc_eq]; rw [GRunning.cells] at h1; rw [← h1]; rfl, h2⟩
end Go.Proofs.YtdlkndnlpgmdaaaGreat.V
