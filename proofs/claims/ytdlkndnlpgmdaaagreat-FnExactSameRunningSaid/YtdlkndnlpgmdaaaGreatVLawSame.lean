/- The laws FnExactSameGraph and FnExactSameRunning compute true in V. Condition: whole numbers and lengths in the ranges of their Go types. -/
import Derived.Test.YtdlkndnlpgmdaaaGreatVSameI
import Derived.Test.YtdlkndnlpgmdaaaGreatVSameS2
import Derived.Test.YtdlkndnlpgmdaaaGreatVSz2
import Derived.Test.YtdlkndnlpgmdaaaGreatVTo3
import Derived.Test.YtdlkndnlpgmdaaaGreatVEq3
import Derived.Test.YtdlkndnlpgmdaaaGreatVInv
namespace Go.Proofs.YtdlkndnlpgmdaaaGreat.V
open Go Go.V Go.Proofs
set_option linter.unusedSimpArgs false
set_option linter.unusedVariables false

set_option maxHeartbeats 4000000 in
theorem lawSameGraph (x y : GGraph) (hx : x.Fits) (hy : y.Fits) : dPure CC 3 [x.enc, y.enc] = some (.bool true) := by
  have hM : maxRow = 68719476736 := rfl
  have e0 := szGraph_eq x hx 1048576 (by omega) (by omega)
  rw [dPure_eq (C := CC) _ rfl rfl Tryz.func3 rfl]
  by_cases c0 : (x.bulk : Int) ≤ 1048576
  rotate_left
  · rw [szI_neg c0] at e0
    simp [Tryz.f3, go_sem, e0]
  rw [szI_pos c0] at e0
  have e1 := szGraph_eq y hy (1048576 - (x.bulk : Int)) (by omega) (by omega)
  have d0 : ¬ (1048576 - (x.bulk : Int) < 0) := by omega
  by_cases c1 : (y.bulk : Int) ≤ 1048576 - (x.bulk : Int)
  rotate_left
  · rw [szI_neg c1] at e1
    simp [Tryz.f3, go_sem, e0, e1, d0]
  rw [szI_pos c1] at e1
  have d1 : ¬ (1048576 - (x.bulk : Int) - (y.bulk : Int) < 0) := by omega
  have t0 := toGraph_eq x (by omega)
  have t1 := toGraph_eq y (by omega)
  have q0 := eqGraph_eq x (by omega)
  have q1 := eqGraph_eq y (by omega)
  have s0 := sSameGraph x y (by omega)
  have s1 := iSameGraph x y (by omega)
  simp [Tryz.f3, go_sem, e0, e1, d0, d1, t0, t1, q0, q1, s0, s1]
set_option maxHeartbeats 4000000 in
theorem lawSameRunning (x y : GRunning) (hx : x.Fits) (hy : y.Fits) : dPure CC 4 [x.enc, y.enc] = some (.bool true) := by
  have hM : maxRow = 68719476736 := rfl
  have e0 := szRunning_eq x hx 1048576 (by omega) (by omega)
  rw [dPure_eq (C := CC) _ rfl rfl Tryz.func4 rfl]
  by_cases c0 : (x.bulk : Int) ≤ 1048576
  rotate_left
  · rw [szI_neg c0] at e0
    simp [Tryz.f4, go_sem, e0]
  rw [szI_pos c0] at e0
  have e1 := szRunning_eq y hy (1048576 - (x.bulk : Int)) (by omega) (by omega)
  have d0 : ¬ (1048576 - (x.bulk : Int) < 0) := by omega
  by_cases c1 : (y.bulk : Int) ≤ 1048576 - (x.bulk : Int)
  rotate_left
  · rw [szI_neg c1] at e1
    simp [Tryz.f4, go_sem, e0, e1, d0]
  rw [szI_pos c1] at e1
  have d1 : ¬ (1048576 - (x.bulk : Int) - (y.bulk : Int) < 0) := by omega
  have t0 := toRunning_eq x (by omega)
  have t1 := toRunning_eq y (by omega)
  have q0 := eqRunning_eq x (by omega)
  have q1 := eqRunning_eq y (by omega)
  have s0 := sSameRun x y (by omega)
  have s1 := iSameRun x y (by omega)
  simp [Tryz.f4, go_sem, e0, e1, d0, d1, t0, t1, q0, q1, s0, s1]
end Go.Proofs.YtdlkndnlpgmdaaaGreat.V
