/- The equality functions of the laws give true of a value and itself. Condition: the measure at most what a row may hold. -/
import Derived.Test.YtdlkndnlpgmdaaaGreatVEq2
namespace Go.Proofs.YtdlkndnlpgmdaaaGreat.V
open Go Go.V Go.Proofs
set_option linter.unusedSimpArgs false
set_option linter.unusedVariables false

set_option maxHeartbeats 4000000 in
theorem eqHostCallS_eq (xs : List GHostCall) (hb : bulkL GHostCall.bulk xs ≤ maxRow) : dPure CC 49 [.slice false (xs.map GHostCall.enc), .slice false (xs.map GHostCall.enc)] = some (.bool true) := by
  have hx : xs.length ≤ maxRow := by unfold bulkL at hb; omega
  have hx' : xs.length ≤ 68719476736 := hx
  rw [dPure_eq (C := CC) _ rfl rfl Tryz.func49 rfl]
  simp [Tryz.f49, go_sem]
  generalize hc : dCode CC 0 (Code.loop _) _ _ = r
  have hL : Runs r fun o env' H' => o = .exit 0 := by
    rw [← hc]
    refine loop_rule (fun k env H => ∃ (i : Nat), k + i = xs.length ∧ env 0 = .slice false (xs.map GHostCall.enc) ∧ env 1 = .slice false (xs.map GHostCall.enc) ∧ env 5 = .int .i64 i) _ ?_ xs.length _ _
      ⟨0, by simp, by simp [go_sem], by simp [go_sem], by simp [go_sem]⟩
    clear hc
    rintro k env H ⟨i, hk, e0, e1, e5⟩
    by_cases hi : i < xs.length
    · have hw2 := wrapS (i := i) (by omega)
      have hE := eqHostCall_eq xs[i] (by have := sum_get GHostCall.bulk xs i hi; unfold bulkL at hb; omega)
      simp [go_sem, e0, e1, e5, hi, hw2, hE]
      exact ⟨k - 1, by omega, i + 1, by omega, rfl⟩
    · simp [go_sem, e0, e1, e5, hi]
  obtain ⟨o, env', H', rfl, rfl⟩ := hL
  simp [go_sem]
set_option maxHeartbeats 4000000 in
theorem eqRunning_eq (x : GRunning) (hb : x.bulk ≤ maxRow) : dPure CC 14 [x.enc, x.enc] = some (.bool true) := by
  rw [GRunning.bulk_eq] at hb
  have e0 := eqGraph_eq x.Graph (by omega)
  have e2 := eqMemoryS_eq x.Memory (by omega)
  have e3 := eqYard_eq x.Yard (by omega)
  have e4 := eqHostCallS_eq x.Log (by omega)
  rw [dPure_eq (C := CC) _ rfl rfl Tryz.func14 rfl]
  simp [Tryz.f14, go_sem, e0, e2, e3, e4]
end Go.Proofs.YtdlkndnlpgmdaaaGreat.V
