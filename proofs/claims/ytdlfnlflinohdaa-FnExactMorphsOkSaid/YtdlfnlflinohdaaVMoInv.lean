/- An argument of the type laws.Morph, and a list of them, are V values of morphs. No condition. -/
import Derived.Test.YtdlfnlflinohdaaVMorphOk
namespace Go.Proofs.Ytdlfnlflinohdaa.V
open Go Go.V Go.Proofs
set_option linter.unusedSimpArgs false
set_option linter.unusedVariables false
theorem mo_inv {p : PV} (h : HasTy Try.prog 27 p) : ∃ m : Mo, p = m.enc ∧ m.Fits := by
  obtain ⟨css, rfl, hl, hc⟩ := h.struct_inv Try.underlying27
  match css, hl with
  | [c0, c1, c2, c3, c4], _ =>
    obtain ⟨k, rfl, k1, k2⟩ := (hc 0 _ c0 rfl rfl).int_inv (k := .i64) Try.underlying2
    obtain ⟨a, rfl, ha⟩ := (hc 1 _ c1 rfl rfl).str_inv Try.underlying9
    obtain ⟨b, rfl, hb⟩ := (hc 2 _ c2 rfl rfl).str_inv Try.underlying9
    obtain ⟨c, rfl, hcc⟩ := (hc 3 _ c3 rfl rfl).str_inv Try.underlying9
    obtain ⟨d, rfl, hd⟩ := (hc 4 _ c4 rfl rfl).str_inv Try.underlying9
    exact ⟨⟨k, a, b, c, d⟩, rfl, ⟨ha, hb, hcc, hd⟩⟩
end Go.Proofs.Ytdlfnlflinohdaa.V
