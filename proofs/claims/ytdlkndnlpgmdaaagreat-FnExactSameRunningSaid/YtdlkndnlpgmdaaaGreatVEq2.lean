/- The equality functions of the laws give true of a value and itself. Condition: the measure at most what a row may hold. -/
import Derived.Test.YtdlkndnlpgmdaaaGreatVEq1
namespace Go.Proofs.YtdlkndnlpgmdaaaGreat.V
open Go Go.V Go.Proofs
set_option linter.unusedSimpArgs false
set_option linter.unusedVariables false

set_option maxHeartbeats 4000000 in
theorem eqCallS_eq (xs : List GCall) (hb : bulkL GCall.bulk xs ≤ maxRow) : dPure CC 88 [.slice false (xs.map GCall.enc), .slice false (xs.map GCall.enc)] = some (.bool true) := by
  have hx : xs.length ≤ maxRow := by unfold bulkL at hb; omega
  have hx' : xs.length ≤ 68719476736 := hx
  rw [dPure_eq (C := CC) _ rfl rfl Tryz.func88 rfl]
  simp [Tryz.f88, go_sem]
  generalize hc : dCode CC 0 (Code.loop _) _ _ = r
  have hL : Runs r fun o env' H' => o = .exit 0 := by
    rw [← hc]
    refine loop_rule (fun k env H => ∃ (i : Nat), k + i = xs.length ∧ env 0 = .slice false (xs.map GCall.enc) ∧ env 1 = .slice false (xs.map GCall.enc) ∧ env 5 = .int .i64 i) _ ?_ xs.length _ _
      ⟨0, by simp, by simp [go_sem], by simp [go_sem], by simp [go_sem]⟩
    clear hc
    rintro k env H ⟨i, hk, e0, e1, e5⟩
    by_cases hi : i < xs.length
    · have hw2 := wrapS (i := i) (by omega)
      have hE := eqCall_eq xs[i] (by have := sum_get GCall.bulk xs i hi; unfold bulkL at hb; omega)
      simp [go_sem, e0, e1, e5, hi, hw2, hE]
      exact ⟨k - 1, by omega, i + 1, by omega, rfl⟩
    · simp [go_sem, e0, e1, e5, hi]
  obtain ⟨o, env', H', rfl, rfl⟩ := hL
  simp [go_sem]
set_option maxHeartbeats 4000000 in
theorem eqYard_eq (x : GYard) (hb : x.bulk ≤ maxRow) : dPure CC 48 [x.enc, x.enc] = some (.bool true) := by
  rw [GYard.bulk_eq] at hb
  have e0 := eqShelf_eq x.Shelf (by omega)
  have e1 := eqCallS_eq x.Stack (by omega)
  have e3 := eqInt64S_eq x.Dead (by omega)
  rw [dPure_eq (C := CC) _ rfl rfl Tryz.func48 rfl]
  simp [Tryz.f48, go_sem, e0, e1, e3]
set_option maxHeartbeats 4000000 in
theorem eqLift_eq (x : GLift) (hb : x.bulk ≤ maxRow) : dPure CC 156 [x.enc, x.enc] = some (.bool true) := by
  rw [GLift.bulk_eq] at hb
  rw [dPure_eq (C := CC) _ rfl rfl Tryz.func156 rfl]
  simp [Tryz.f156, go_sem]
set_option maxHeartbeats 4000000 in
theorem eqLiftS_eq (xs : List GLift) (hb : bulkL GLift.bulk xs ≤ maxRow) : dPure CC 116 [.slice false (xs.map GLift.enc), .slice false (xs.map GLift.enc)] = some (.bool true) := by
  have hx : xs.length ≤ maxRow := by unfold bulkL at hb; omega
  have hx' : xs.length ≤ 68719476736 := hx
  rw [dPure_eq (C := CC) _ rfl rfl Tryz.func116 rfl]
  simp [Tryz.f116, go_sem]
  generalize hc : dCode CC 0 (Code.loop _) _ _ = r
  have hL : Runs r fun o env' H' => o = .exit 0 := by
    rw [← hc]
    refine loop_rule (fun k env H => ∃ (i : Nat), k + i = xs.length ∧ env 0 = .slice false (xs.map GLift.enc) ∧ env 1 = .slice false (xs.map GLift.enc) ∧ env 5 = .int .i64 i) _ ?_ xs.length _ _
      ⟨0, by simp, by simp [go_sem], by simp [go_sem], by simp [go_sem]⟩
    clear hc
    rintro k env H ⟨i, hk, e0, e1, e5⟩
    by_cases hi : i < xs.length
    · have hw2 := wrapS (i := i) (by omega)
      have hE := eqLift_eq xs[i] (by have := sum_get GLift.bulk xs i hi; unfold bulkL at hb; omega)
      simp [go_sem, e0, e1, e5, hi, hw2, hE]
      exact ⟨k - 1, by omega, i + 1, by omega, rfl⟩
    · simp [go_sem, e0, e1, e5, hi]
  obtain ⟨o, env', H', rfl, rfl⟩ := hL
  simp [go_sem]
set_option maxHeartbeats 4000000 in
theorem eqLower_eq (x : GLower) (hb : x.bulk ≤ maxRow) : dPure CC 157 [x.enc, x.enc] = some (.bool true) := by
  rw [GLower.bulk_eq] at hb
  rw [dPure_eq (C := CC) _ rfl rfl Tryz.func157 rfl]
  simp [Tryz.f157, go_sem]
set_option maxHeartbeats 4000000 in
theorem eqLowerS_eq (xs : List GLower) (hb : bulkL GLower.bulk xs ≤ maxRow) : dPure CC 117 [.slice false (xs.map GLower.enc), .slice false (xs.map GLower.enc)] = some (.bool true) := by
  have hx : xs.length ≤ maxRow := by unfold bulkL at hb; omega
  have hx' : xs.length ≤ 68719476736 := hx
  rw [dPure_eq (C := CC) _ rfl rfl Tryz.func117 rfl]
  simp [Tryz.f117, go_sem]
  generalize hc : dCode CC 0 (Code.loop _) _ _ = r
  have hL : Runs r fun o env' H' => o = .exit 0 := by
    rw [← hc]
    refine loop_rule (fun k env H => ∃ (i : Nat), k + i = xs.length ∧ env 0 = .slice false (xs.map GLower.enc) ∧ env 1 = .slice false (xs.map GLower.enc) ∧ env 5 = .int .i64 i) _ ?_ xs.length _ _
      ⟨0, by simp, by simp [go_sem], by simp [go_sem], by simp [go_sem]⟩
    clear hc
    rintro k env H ⟨i, hk, e0, e1, e5⟩
    by_cases hi : i < xs.length
    · have hw2 := wrapS (i := i) (by omega)
      have hE := eqLower_eq xs[i] (by have := sum_get GLower.bulk xs i hi; unfold bulkL at hb; omega)
      simp [go_sem, e0, e1, e5, hi, hw2, hE]
      exact ⟨k - 1, by omega, i + 1, by omega, rfl⟩
    · simp [go_sem, e0, e1, e5, hi]
  obtain ⟨o, env', H', rfl, rfl⟩ := hL
  simp [go_sem]
set_option maxHeartbeats 4000000 in
theorem eqBuiltin_eq (x : GBuiltin) (hb : x.bulk ≤ maxRow) : dPure CC 158 [x.enc, x.enc] = some (.bool true) := by
  rw [GBuiltin.bulk_eq] at hb
  rw [dPure_eq (C := CC) _ rfl rfl Tryz.func158 rfl]
  simp [Tryz.f158, go_sem]
set_option maxHeartbeats 4000000 in
theorem eqBuiltinS_eq (xs : List GBuiltin) (hb : bulkL GBuiltin.bulk xs ≤ maxRow) : dPure CC 118 [.slice false (xs.map GBuiltin.enc), .slice false (xs.map GBuiltin.enc)] = some (.bool true) := by
  have hx : xs.length ≤ maxRow := by unfold bulkL at hb; omega
  have hx' : xs.length ≤ 68719476736 := hx
  rw [dPure_eq (C := CC) _ rfl rfl Tryz.func118 rfl]
  simp [Tryz.f118, go_sem]
  generalize hc : dCode CC 0 (Code.loop _) _ _ = r
  have hL : Runs r fun o env' H' => o = .exit 0 := by
    rw [← hc]
    refine loop_rule (fun k env H => ∃ (i : Nat), k + i = xs.length ∧ env 0 = .slice false (xs.map GBuiltin.enc) ∧ env 1 = .slice false (xs.map GBuiltin.enc) ∧ env 5 = .int .i64 i) _ ?_ xs.length _ _
      ⟨0, by simp, by simp [go_sem], by simp [go_sem], by simp [go_sem]⟩
    clear hc
    rintro k env H ⟨i, hk, e0, e1, e5⟩
    by_cases hi : i < xs.length
    · have hw2 := wrapS (i := i) (by omega)
      have hE := eqBuiltin_eq xs[i] (by have := sum_get GBuiltin.bulk xs i hi; unfold bulkL at hb; omega)
      simp [go_sem, e0, e1, e5, hi, hw2, hE]
      exact ⟨k - 1, by omega, i + 1, by omega, rfl⟩
    · simp [go_sem, e0, e1, e5, hi]
  obtain ⟨o, env', H', rfl, rfl⟩ := hL
  simp [go_sem]
set_option maxHeartbeats 4000000 in
theorem eqComponent_eq (x : GComponent) (hb : x.bulk ≤ maxRow) : dPure CC 67 [x.enc, x.enc] = some (.bool true) := by
  rw [GComponent.bulk_eq] at hb
  have e2 := eqFaceS_eq x.Imports (by omega)
  have e3 := eqFaceS_eq x.Exports (by omega)
  have e6 := eqModule_eq x.Module (by omega)
  have e7 := eqLiftS_eq x.Lifts (by omega)
  have e8 := eqLowerS_eq x.Lowers (by omega)
  have e9 := eqBuiltinS_eq x.Builtins (by omega)
  rw [dPure_eq (C := CC) _ rfl rfl Tryz.func67 rfl]
  simp [Tryz.f67, go_sem, e2, e3, e6, e7, e8, e9]
set_option maxHeartbeats 4000000 in
theorem eqComponentS_eq (xs : List GComponent) (hb : bulkL GComponent.bulk xs ≤ maxRow) : dPure CC 31 [.slice false (xs.map GComponent.enc), .slice false (xs.map GComponent.enc)] = some (.bool true) := by
  have hx : xs.length ≤ maxRow := by unfold bulkL at hb; omega
  have hx' : xs.length ≤ 68719476736 := hx
  rw [dPure_eq (C := CC) _ rfl rfl Tryz.func31 rfl]
  simp [Tryz.f31, go_sem]
  generalize hc : dCode CC 0 (Code.loop _) _ _ = r
  have hL : Runs r fun o env' H' => o = .exit 0 := by
    rw [← hc]
    refine loop_rule (fun k env H => ∃ (i : Nat), k + i = xs.length ∧ env 0 = .slice false (xs.map GComponent.enc) ∧ env 1 = .slice false (xs.map GComponent.enc) ∧ env 5 = .int .i64 i) _ ?_ xs.length _ _
      ⟨0, by simp, by simp [go_sem], by simp [go_sem], by simp [go_sem]⟩
    clear hc
    rintro k env H ⟨i, hk, e0, e1, e5⟩
    by_cases hi : i < xs.length
    · have hw2 := wrapS (i := i) (by omega)
      have hE := eqComponent_eq xs[i] (by have := sum_get GComponent.bulk xs i hi; unfold bulkL at hb; omega)
      simp [go_sem, e0, e1, e5, hi, hw2, hE]
      exact ⟨k - 1, by omega, i + 1, by omega, rfl⟩
    · simp [go_sem, e0, e1, e5, hi]
  obtain ⟨o, env', H', rfl, rfl⟩ := hL
  simp [go_sem]
set_option maxHeartbeats 4000000 in
theorem eqArg_eq (x : GArg) (hb : x.bulk ≤ maxRow) : dPure CC 159 [x.enc, x.enc] = some (.bool true) := by
  rw [GArg.bulk_eq] at hb
  rw [dPure_eq (C := CC) _ rfl rfl Tryz.func159 rfl]
  simp [Tryz.f159, go_sem]
set_option maxHeartbeats 4000000 in
theorem eqArgS_eq (xs : List GArg) (hb : bulkL GArg.bulk xs ≤ maxRow) : dPure CC 119 [.slice false (xs.map GArg.enc), .slice false (xs.map GArg.enc)] = some (.bool true) := by
  have hx : xs.length ≤ maxRow := by unfold bulkL at hb; omega
  have hx' : xs.length ≤ 68719476736 := hx
  rw [dPure_eq (C := CC) _ rfl rfl Tryz.func119 rfl]
  simp [Tryz.f119, go_sem]
  generalize hc : dCode CC 0 (Code.loop _) _ _ = r
  have hL : Runs r fun o env' H' => o = .exit 0 := by
    rw [← hc]
    refine loop_rule (fun k env H => ∃ (i : Nat), k + i = xs.length ∧ env 0 = .slice false (xs.map GArg.enc) ∧ env 1 = .slice false (xs.map GArg.enc) ∧ env 5 = .int .i64 i) _ ?_ xs.length _ _
      ⟨0, by simp, by simp [go_sem], by simp [go_sem], by simp [go_sem]⟩
    clear hc
    rintro k env H ⟨i, hk, e0, e1, e5⟩
    by_cases hi : i < xs.length
    · have hw2 := wrapS (i := i) (by omega)
      have hE := eqArg_eq xs[i] (by have := sum_get GArg.bulk xs i hi; unfold bulkL at hb; omega)
      simp [go_sem, e0, e1, e5, hi, hw2, hE]
      exact ⟨k - 1, by omega, i + 1, by omega, rfl⟩
    · simp [go_sem, e0, e1, e5, hi]
  obtain ⟨o, env', H', rfl, rfl⟩ := hL
  simp [go_sem]
set_option maxHeartbeats 4000000 in
theorem eqInst_eq (x : GInst) (hb : x.bulk ≤ maxRow) : dPure CC 68 [x.enc, x.enc] = some (.bool true) := by
  rw [GInst.bulk_eq] at hb
  have e1 := eqArgS_eq x.Args (by omega)
  rw [dPure_eq (C := CC) _ rfl rfl Tryz.func68 rfl]
  simp [Tryz.f68, go_sem, e1]
set_option maxHeartbeats 4000000 in
theorem eqInstS_eq (xs : List GInst) (hb : bulkL GInst.bulk xs ≤ maxRow) : dPure CC 32 [.slice false (xs.map GInst.enc), .slice false (xs.map GInst.enc)] = some (.bool true) := by
  have hx : xs.length ≤ maxRow := by unfold bulkL at hb; omega
  have hx' : xs.length ≤ 68719476736 := hx
  rw [dPure_eq (C := CC) _ rfl rfl Tryz.func32 rfl]
  simp [Tryz.f32, go_sem]
  generalize hc : dCode CC 0 (Code.loop _) _ _ = r
  have hL : Runs r fun o env' H' => o = .exit 0 := by
    rw [← hc]
    refine loop_rule (fun k env H => ∃ (i : Nat), k + i = xs.length ∧ env 0 = .slice false (xs.map GInst.enc) ∧ env 1 = .slice false (xs.map GInst.enc) ∧ env 5 = .int .i64 i) _ ?_ xs.length _ _
      ⟨0, by simp, by simp [go_sem], by simp [go_sem], by simp [go_sem]⟩
    clear hc
    rintro k env H ⟨i, hk, e0, e1, e5⟩
    by_cases hi : i < xs.length
    · have hw2 := wrapS (i := i) (by omega)
      have hE := eqInst_eq xs[i] (by have := sum_get GInst.bulk xs i hi; unfold bulkL at hb; omega)
      simp [go_sem, e0, e1, e5, hi, hw2, hE]
      exact ⟨k - 1, by omega, i + 1, by omega, rfl⟩
    · simp [go_sem, e0, e1, e5, hi]
  obtain ⟨o, env', H', rfl, rfl⟩ := hL
  simp [go_sem]
set_option maxHeartbeats 4000000 in
theorem eqGraph_eq (x : GGraph) (hb : x.bulk ≤ maxRow) : dPure CC 9 [x.enc, x.enc] = some (.bool true) := by
  rw [GGraph.bulk_eq] at hb
  have e0 := eqFaceS_eq x.Host (by omega)
  have e1 := eqComponentS_eq x.Comps (by omega)
  have e2 := eqInstS_eq x.Insts (by omega)
  rw [dPure_eq (C := CC) _ rfl rfl Tryz.func9 rfl]
  simp [Tryz.f9, go_sem, e0, e1, e2]
set_option maxHeartbeats 4000000 in
theorem eqHostCall_eq (x : GHostCall) (hb : x.bulk ≤ maxRow) : dPure CC 90 [x.enc, x.enc] = some (.bool true) := by
  rw [GHostCall.bulk_eq] at hb
  have e2 := eqStringS_eq x.Args (by omega)
  rw [dPure_eq (C := CC) _ rfl rfl Tryz.func90 rfl]
  simp [Tryz.f90, go_sem, e2]
end Go.Proofs.YtdlkndnlpgmdaaaGreat.V
