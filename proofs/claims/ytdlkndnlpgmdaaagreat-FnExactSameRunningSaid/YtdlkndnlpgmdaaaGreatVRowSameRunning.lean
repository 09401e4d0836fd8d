/- The law FnExactSameRunning returns true whatever the two running systems are, and leaves them as they were; no condition beyond what the given row asks. -/
import Derived.Test.YtdlkndnlpgmdaaaGreatVLawSame
import Derived.Test.YtdlkndnlpgmdaaaGreatRows
import Derived.WalkKit
import Derived.ProofKit
import Derived.OpenShut
import Derived.ShutString
import Derived.ChangeOld
import Derived.Below
import Derived.SizedLaws
namespace Go.Proofs.YtdlkndnlpgmdaaaGreat.fnExactSameRunning
open Go Go.V Go.Proofs.YtdlkndnlpgmdaaaGreat.V
open Go.ChangeShapes Go.WideShapes Go.ChangeAt Go.RowKit
set_option linter.unusedVariables false
theorem own : ownKnob Tryz.prog.godebug = none := by kernel_rfl
theorem laidOut : laidOutB Tryz.prog = true := by kernel_rfl
theorem plain47 : plainTy Tryz.prog [47, 26, 22, 119, 9, 86, 117, 239, 237, 232, 304, 235, 2, 233, 4, 23, 129, 124, 121, 279, 122, 283, 281, 309, 125, 243, 126, 245, 127, 247, 24, 133, 131, 249, 36, 161, 159, 271, 44, 40, 37, 269, 267, 300, 38, 274, 41, 214, 42, 45, 166] 47 = true := by kernel_rfl

set_option maxHeartbeats 40000000 in
set_option maxRecDepth 100000 in
theorem lifted (os : Os) (started : os.Started) (H : Type) (enc : TypeId × Value → H) :
    ReturnsInHanded {} Tryz.checked os 4 .any (Rows.fnExactSameRunningSpec.pre6 enc Tryz.prog Tryz.f4 Rows.fnExactSameRunningRow.domain false) (Rows.fnExactSameRunningSpec.post enc Tryz.prog Tryz.f4 false true false false) := by
  refine returnsInHanded_of_change_sized (C := Tryz.checked) own started (by kernel_rfl) Tryz.func4
    (ChangeSpec.witness6 (enc := enc) (C := Tryz.checked) false ⟨#[], #[.agg #[.slice none 0 0, .slice none 0 0, .slice none 0 0, .bool false, .slice none 0 0, .int .i64 0, .slice none 0 0, .slice none 0 0, .slice none 0 0, .int .i64 0, .slice none 0 0, .slice none 0 0], .agg #[.slice none 0 0, .slice none 0 0, .slice none 0 0, .bool false, .slice none 0 0, .int .i64 0, .slice none 0 0, .slice none 0 0, .slice none 0 0, .int .i64 0, .slice none 0 0, .slice none 0 0]], []⟩ 8 (by kernel_rfl) (by kernel_rfl) (by kernel_rfl) (by kernel_rfl)) ?_
  intro W base args ds gs before hval0 hW hcnd hsz0 _
  have hval : ∀ (j : Nat) t v, Tryz.f4.params[j]? = some t → args[j]? = some v → Value.okWide Tryz.prog W .any base t v := hval0
  have hW' := hW
  obtain ⟨p, q, hA0, hV, rfl, hfz, hnd⟩ := hW
  have hA : DataW.TrodAll enc Tryz.prog W 0 (fun _ => true) true Tryz.f4.params.toList args.toList ds p := hA0
  rw [Tryz.params4] at hA hval
  obtain ⟨v0, vs0, d0, ds0, p0, q0, hargs, rfl, rfl, h0, r0⟩ := trodAll_cons hA
  obtain ⟨v1, vs1, d1, ds1, p1, q1, rfl, rfl, rfl, h1, r1⟩ := trodAll_cons r0
  obtain ⟨rfl, rfl, rfl⟩ := trodAll_nil r1
  obtain rfl : args = #[v0, v1] := by cases args; simp_all
  obtain ⟨rfl, rfl⟩ := trodVars_none hV
  have lt0 : ∀ x ∈ p0, x.block < W.heap.size := by obtain ⟨m, hm⟩ := h0; exact DataW.trod_lt m _ _ _ hm
  have lt1 : ∀ x ∈ p1, x.block < W.heap.size := by obtain ⟨m, hm⟩ := h1; exact DataW.trod_lt m _ _ _ hm
  obtain ⟨a0, e0, t0⟩ := read_arg plain47 (hval 0 47 v0 rfl rfl) h0
  obtain ⟨a1, e1, t1⟩ := read_arg plain47 (hval 1 47 v1 rfl rfl) h1
  clear hA0 hval0 hsz0
  obtain ⟨x0, rfl, hx0⟩ := GRunning_inv t0
  obtain ⟨x1, rfl, hx1⟩ := GRunning_inv t1
  refine (law_calls prog_ok (fun _ => rfl) rfl (lawSameRunning x0 x1 hx0 hx1) (repl_cons e0 (repl_cons e1 repl_nil))).mono fun e W' ⟨he, bel⟩ => ?_
  subst he
  exact ⟨_, rfl, _, _, _, [], _, [], hW', trodAll_mk1 (shut_bool Tryz.underlying4 _), (trodAll_cons_mk (Below.trod laidOut (by kernel_rfl) (of_decide_eq_true (by kernel_rfl)) h0 bel lt0) (trodAll_cons_mk (Below.trod laidOut (by kernel_rfl) (of_decide_eq_true (by kernel_rfl)) h1 bel lt1) trodAll_mk0)), rfl, bel.frame _, fun h => by cases h⟩
set_option maxHeartbeats 40000000 in
theorem closed : joinedFacts Tryz.prog 4 Tryz.f4 Rows.fnExactSameRunningSpec Rows.fnExactSameRunningRow = true := by
  unfold joinedFacts
  simp only [Bool.and_eq_true]
  repeat' apply And.intro
  all_goals as_aux_lemma => kernel_rfl
set_option maxHeartbeats 40000000 in
theorem over : Rows.fnExactSameRunningRow.holds Tryz.pinned (OpenSpec.ofChange Rows.fnExactSameRunningSpec) :=
  OpenClaim.holds_of_wide 4 Tryz.f4 rfl rfl rfl rfl rfl rfl rfl ⟨rfl, rfl, rfl, rfl, rfl⟩ rfl rfl rfl rfl rfl (by kernel_rfl) Tryz.func4 closed
    (of_decide_eq_true (by kernel_rfl)) (by unfold Func.isWrapper; first | (rw [if_pos (by decide +kernel)]; kernel_rfl) | (rw [if_neg (by decide +kernel)]; exact ⟨rfl, rfl⟩))
    (fun os started H enc _ => lifted os started H enc)
theorem proved : Rows.FnExactSameRunningSaid := over
#print axioms proved
end Go.Proofs.YtdlkndnlpgmdaaaGreat.fnExactSameRunning
namespace Go.Proofs.YtdlkndnlpgmdaaaGreat
/-- The row, under a short name, for the claim. -/
theorem fnExactSameRunning_holds : Rows.FnExactSameRunningSaid := fnExactSameRunning.proved
end Go.Proofs.YtdlkndnlpgmdaaaGreat
