/- The law FnExactWithin returns true whatever the two lists of strings are, and leaves them as they were; no condition beyond what the given row asks. -/
import Derived.Test.YtdlfnlflinohdaaVSeat
import Derived.Test.YtdlfnlflinohdaaVRow
import Derived.Test.YtdlfnlflinohdaaRows
import Derived.WalkKit
import Derived.ProofKit
import Derived.OpenShut
import Derived.ShutString
import Derived.ChangeOld
import Derived.Below
import Derived.SizedLaws
/- The law FnExactWithin returns true whatever the two lists of strings are, and leaves them as they were. No condition beyond what the given row asks. -/
namespace Go.Proofs.Ytdlfnlflinohdaa.V
open Go Go.V Go.Proofs
set_option linter.unusedSimpArgs false
set_option linter.unusedVariables false

theorem szList_le : ∀ (xs : List (List UInt8)) (l : Int), 0 ≤ l → szList xs l ≤ l ∧ (szList xs l = -1 ∨ 0 ≤ szList xs l)
  | [], l, h => ⟨Int.le_refl _, .inr h⟩
  | x :: xs, l, h => by
    unfold szList
    split
    · exact ⟨by omega, .inl rfl⟩
    · have := szList_le xs (l - x.length) (by omega)
      exact ⟨by omega, this.2⟩
theorem szStringS_spec (xs : List (List UInt8)) (l : Int) (h : 0 ≤ l) (hn : ¬ szStringS xs l < 0) : (xs.length : Int) ≤ l ∧ 0 ≤ szStringS xs l ∧ szStringS xs l ≤ l := by
  unfold szStringS at *
  split at hn
  · simp at hn
  · rename_i hlt
    rw [if_neg hlt]
    have := szList_le xs (l - xs.length) (by omega)
    omega

theorem f3_eq (xs ys : List (List UInt8)) (hx : xs.length ≤ 9223372036854775807) (hs : ∀ x ∈ xs, x.length ≤ 9223372036854775807) (hy : ys.length ≤ 9223372036854775807) (ht : ∀ x ∈ ys, x.length ≤ 9223372036854775807) :
    dPure CC 3 [.slice false (xs.map .str), .slice false (ys.map .str)] = some (.bool true) := by
  have h7 := f7_eq xs 1048576 (by omega) (by omega) hx hs
  rw [dPure_eq (C := CC) _ rfl rfl Try.func3 rfl]
  by_cases h1 : szStringS xs 1048576 < 0
  · simp [Try.f3, CC_call, go_sem, h7, h1]
  obtain ⟨a1, a2, a3⟩ := szStringS_spec xs 1048576 (by omega) h1
  have h7' := f7_eq ys (szStringS xs 1048576) a2 a3 hy ht
  by_cases h2 : szStringS ys (szStringS xs 1048576) < 0
  · simp [Try.f3, CC_call, go_sem, h7, h1, h7', h2]
  obtain ⟨b1, b2, b3⟩ := szStringS_spec ys _ a2 h2
  have mx : xs.length ≤ maxRow := by unfold maxRow; omega
  have my : ys.length ≤ maxRow := by unfold maxRow; omega
  simp [Try.f3, CC_call, go_sem, h7, h1, h7', h2, f9_eq xs mx, f9_eq ys my, f8_eq xs ys mx my, f10_eq xs ys mx my, f11_eq xs xs mx mx, f11_eq ys ys my my]

end Go.Proofs.Ytdlfnlflinohdaa.V
namespace Go.Proofs.Ytdlfnlflinohdaa.fnExactWithin
open Go Go.V Go.Proofs.Ytdlfnlflinohdaa.V
open Go.ChangeShapes Go.WideShapes Go.ChangeAt Go.RowKit
set_option linter.unusedVariables false
theorem own : ownKnob Try.prog.godebug = none := by kernel_rfl
theorem laidOut : laidOutB Try.prog = true := by kernel_rfl
theorem plain22 : plainTy Try.prog 8 22 = true := by kernel_rfl

set_option maxRecDepth 100000 in
theorem lifted (os : Os) (started : os.Started) (H : Type) (enc : TypeId × Value → H) :
    ReturnsInHanded {} Try.checked os 3 .any (Rows.fnExactWithinSpec.pre6 enc Try.prog Try.f3 Rows.fnExactWithinRow.domain false) (Rows.fnExactWithinSpec.post enc Try.prog Try.f3 false true false false) := by
  refine returnsInHanded_of_change_sized (C := Try.checked) own started (by kernel_rfl) Try.func3
    (ChangeSpec.witness6 (enc := enc) (C := Try.checked) false ⟨#[], #[.slice none 0 0, .slice none 0 0], []⟩ 8 (by kernel_rfl) (by kernel_rfl) (by kernel_rfl) (by kernel_rfl)) ?_
  intro W base args ds gs before hval0 hW hcnd hsz0 _
  have hval : ∀ (j : Nat) t v, Try.f3.params[j]? = some t → args[j]? = some v → Value.okWide Try.prog W .any base t v := hval0
  have hW' := hW
  obtain ⟨p, q, hA0, hV, rfl, hfz, hnd⟩ := hW
  have hA : DataW.TrodAll enc Try.prog W 0 (fun _ => true) true Try.f3.params.toList args.toList ds p := hA0
  rw [Try.params3] at hA hval
  obtain ⟨v0, vs0, d0, ds0, p0, q0, hargs, rfl, rfl, h0, r0⟩ := trodAll_cons hA
  obtain ⟨v1, vs1, d1, ds1, p1, q1, rfl, rfl, rfl, h1, r1⟩ := trodAll_cons r0
  obtain ⟨rfl, rfl, rfl⟩ := trodAll_nil r1
  obtain rfl : args = #[v0, v1] := by cases args; simp_all
  obtain ⟨rfl, rfl⟩ := trodVars_none hV
  have lt0 : ∀ x ∈ p0, x.block < W.heap.size := by obtain ⟨m, hm⟩ := h0; exact DataW.trod_lt m _ _ _ hm
  have lt1 : ∀ x ∈ p1, x.block < W.heap.size := by obtain ⟨m, hm⟩ := h1; exact DataW.trod_lt m _ _ _ hm
  obtain ⟨a0, e0, t0⟩ := read_arg plain22 (hval 0 22 v0 rfl rfl) h0
  obtain ⟨a1, e1, t1⟩ := read_arg plain22 (hval 1 22 v1 rfl rfl) h1
  clear hA0 hval0 hsz0
  obtain ⟨xs, rfl, hx, hs⟩ := t0.strs_inv Try.underlying22 Try.underlying9
  obtain ⟨ys, rfl, hy, ht⟩ := t1.strs_inv Try.underlying22 Try.underlying9
  refine (law_calls prog_ok (fun _ => rfl) rfl (f3_eq xs ys hx hs hy ht) (repl_cons e0 (repl_cons e1 repl_nil))).mono fun e W' ⟨he, bel⟩ => ?_
  subst he
  exact ⟨_, rfl, _, _, _, [], _, [], hW', trodAll_mk1 (shut_bool Try.underlying4 _), (trodAll_cons_mk (Below.trod laidOut (by kernel_rfl) (of_decide_eq_true (by kernel_rfl)) h0 bel lt0) (trodAll_cons_mk (Below.trod laidOut (by kernel_rfl) (of_decide_eq_true (by kernel_rfl)) h1 bel lt1) trodAll_mk0)), rfl, bel.frame _, fun h => by cases h⟩
theorem over : Rows.fnExactWithinRow.holds Try.pinned (OpenSpec.ofChange Rows.fnExactWithinSpec) :=
  OpenClaim.holds_of_wide 3 Try.f3 rfl rfl rfl rfl rfl rfl rfl ⟨rfl, rfl, rfl, rfl, rfl⟩ rfl rfl rfl rfl rfl (by kernel_rfl) Try.func3 (by kernel_rfl)
    (of_decide_eq_true (by kernel_rfl)) (by unfold Func.isWrapper; first | (rw [if_pos (by decide +kernel)]; kernel_rfl) | (rw [if_neg (by decide +kernel)]; exact ⟨rfl, rfl⟩))
    (fun os started H enc _ => lifted os started H enc)
theorem proved : Rows.FnExactWithinSaid := over
#print axioms proved
end Go.Proofs.Ytdlfnlflinohdaa.fnExactWithin
namespace Go.Proofs.Ytdlfnlflinohdaa
/-- The row, under a short name, for the claim. -/
theorem fnExactWithin_holds : Rows.FnExactWithinSaid := fnExactWithin.proved
end Go.Proofs.Ytdlfnlflinohdaa
