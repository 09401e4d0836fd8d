/- The equality functions of the laws give true of a value and itself. Condition: the measure at most what a row may hold. -/
import Derived.Test.YtdlkndnlpgmdaaaGreatVEq0
namespace Go.Proofs.YtdlkndnlpgmdaaaGreat.V
open Go Go.V Go.Proofs
set_option linter.unusedSimpArgs false
set_option linter.unusedVariables false

set_option maxHeartbeats 4000000 in
theorem eqMemoryS_eq (xs : List GMemory) (hb : bulkL GMemory.bulk xs ≤ maxRow) : dPure CC 47 [.slice false (xs.map GMemory.enc), .slice false (xs.map GMemory.enc)] = some (.bool true) := by
  have hx : xs.length ≤ maxRow := by unfold bulkL at hb; omega
  have hx' : xs.length ≤ 68719476736 := hx
  rw [dPure_eq (C := CC) _ rfl rfl Tryz.func47 rfl]
  simp [Tryz.f47, go_sem]
  generalize hc : dCode CC 0 (Code.loop _) _ _ = r
  have hL : Runs r fun o env' H' => o = .exit 0 := by
    rw [← hc]
    refine loop_rule (fun k env H => ∃ (i : Nat), k + i = xs.length ∧ env 0 = .slice false (xs.map GMemory.enc) ∧ env 1 = .slice false (xs.map GMemory.enc) ∧ env 5 = .int .i64 i) _ ?_ xs.length _ _
      ⟨0, by simp, by simp [go_sem], by simp [go_sem], by simp [go_sem]⟩
    clear hc
    rintro k env H ⟨i, hk, e0, e1, e5⟩
    by_cases hi : i < xs.length
    · have hw2 := wrapS (i := i) (by omega)
      have hE := eqMemory_eq xs[i] (by have := sum_get GMemory.bulk xs i hi; unfold bulkL at hb; omega)
      simp [go_sem, e0, e1, e5, hi, hw2, hE]
      exact ⟨k - 1, by omega, i + 1, by omega, rfl⟩
    · simp [go_sem, e0, e1, e5, hi]
  obtain ⟨o, env', H', rfl, rfl⟩ := hL
  simp [go_sem]
set_option maxHeartbeats 4000000 in
theorem eqIns_eq (x : GIns) (hb : x.bulk ≤ maxRow) : dPure CC 200 [x.enc, x.enc] = some (.bool true) := by
  rw [GIns.bulk_eq] at hb
  rw [dPure_eq (C := CC) _ rfl rfl Tryz.func200 rfl]
  simp [Tryz.f200, go_sem]
set_option maxHeartbeats 4000000 in
theorem eqInsS_eq (xs : List GIns) (hb : bulkL GIns.bulk xs ≤ maxRow) : dPure CC 190 [.slice false (xs.map GIns.enc), .slice false (xs.map GIns.enc)] = some (.bool true) := by
  have hx : xs.length ≤ maxRow := by unfold bulkL at hb; omega
  have hx' : xs.length ≤ 68719476736 := hx
  rw [dPure_eq (C := CC) _ rfl rfl Tryz.func190 rfl]
  simp [Tryz.f190, go_sem]
  generalize hc : dCode CC 0 (Code.loop _) _ _ = r
  have hL : Runs r fun o env' H' => o = .exit 0 := by
    rw [← hc]
    refine loop_rule (fun k env H => ∃ (i : Nat), k + i = xs.length ∧ env 0 = .slice false (xs.map GIns.enc) ∧ env 1 = .slice false (xs.map GIns.enc) ∧ env 5 = .int .i64 i) _ ?_ xs.length _ _
      ⟨0, by simp, by simp [go_sem], by simp [go_sem], by simp [go_sem]⟩
    clear hc
    rintro k env H ⟨i, hk, e0, e1, e5⟩
    by_cases hi : i < xs.length
    · have hw2 := wrapS (i := i) (by omega)
      have hE := eqIns_eq xs[i] (by have := sum_get GIns.bulk xs i hi; unfold bulkL at hb; omega)
      simp [go_sem, e0, e1, e5, hi, hw2, hE]
      exact ⟨k - 1, by omega, i + 1, by omega, rfl⟩
    · simp [go_sem, e0, e1, e5, hi]
  obtain ⟨o, env', H', rfl, rfl⟩ := hL
  simp [go_sem]
set_option maxHeartbeats 4000000 in
theorem eqCore_eq (x : GCore) (hb : x.bulk ≤ maxRow) : dPure CC 178 [x.enc, x.enc] = some (.bool true) := by
  rw [GCore.bulk_eq] at hb
  have e4 := eqInsS_eq x.Code (by omega)
  rw [dPure_eq (C := CC) _ rfl rfl Tryz.func178 rfl]
  simp [Tryz.f178, go_sem, e4]
set_option maxHeartbeats 4000000 in
theorem eqCoreS_eq (xs : List GCore) (hb : bulkL GCore.bulk xs ≤ maxRow) : dPure CC 155 [.slice false (xs.map GCore.enc), .slice false (xs.map GCore.enc)] = some (.bool true) := by
  have hx : xs.length ≤ maxRow := by unfold bulkL at hb; omega
  have hx' : xs.length ≤ 68719476736 := hx
  rw [dPure_eq (C := CC) _ rfl rfl Tryz.func155 rfl]
  simp [Tryz.f155, go_sem]
  generalize hc : dCode CC 0 (Code.loop _) _ _ = r
  have hL : Runs r fun o env' H' => o = .exit 0 := by
    rw [← hc]
    refine loop_rule (fun k env H => ∃ (i : Nat), k + i = xs.length ∧ env 0 = .slice false (xs.map GCore.enc) ∧ env 1 = .slice false (xs.map GCore.enc) ∧ env 5 = .int .i64 i) _ ?_ xs.length _ _
      ⟨0, by simp, by simp [go_sem], by simp [go_sem], by simp [go_sem]⟩
    clear hc
    rintro k env H ⟨i, hk, e0, e1, e5⟩
    by_cases hi : i < xs.length
    · have hw2 := wrapS (i := i) (by omega)
      have hE := eqCore_eq xs[i] (by have := sum_get GCore.bulk xs i hi; unfold bulkL at hb; omega)
      simp [go_sem, e0, e1, e5, hi, hw2, hE]
      exact ⟨k - 1, by omega, i + 1, by omega, rfl⟩
    · simp [go_sem, e0, e1, e5, hi]
  obtain ⟨o, env', H', rfl, rfl⟩ := hL
  simp [go_sem]
set_option maxHeartbeats 4000000 in
theorem eqImport_eq (x : GImport) (hb : x.bulk ≤ maxRow) : dPure CC 177 [x.enc, x.enc] = some (.bool true) := by
  rw [GImport.bulk_eq] at hb
  rw [dPure_eq (C := CC) _ rfl rfl Tryz.func177 rfl]
  simp [Tryz.f177, go_sem]
set_option maxHeartbeats 4000000 in
theorem eqImportS_eq (xs : List GImport) (hb : bulkL GImport.bulk xs ≤ maxRow) : dPure CC 154 [.slice false (xs.map GImport.enc), .slice false (xs.map GImport.enc)] = some (.bool true) := by
  have hx : xs.length ≤ maxRow := by unfold bulkL at hb; omega
  have hx' : xs.length ≤ 68719476736 := hx
  rw [dPure_eq (C := CC) _ rfl rfl Tryz.func154 rfl]
  simp [Tryz.f154, go_sem]
  generalize hc : dCode CC 0 (Code.loop _) _ _ = r
  have hL : Runs r fun o env' H' => o = .exit 0 := by
    rw [← hc]
    refine loop_rule (fun k env H => ∃ (i : Nat), k + i = xs.length ∧ env 0 = .slice false (xs.map GImport.enc) ∧ env 1 = .slice false (xs.map GImport.enc) ∧ env 5 = .int .i64 i) _ ?_ xs.length _ _
      ⟨0, by simp, by simp [go_sem], by simp [go_sem], by simp [go_sem]⟩
    clear hc
    rintro k env H ⟨i, hk, e0, e1, e5⟩
    by_cases hi : i < xs.length
    · have hw2 := wrapS (i := i) (by omega)
      have hE := eqImport_eq xs[i] (by have := sum_get GImport.bulk xs i hi; unfold bulkL at hb; omega)
      simp [go_sem, e0, e1, e5, hi, hw2, hE]
      exact ⟨k - 1, by omega, i + 1, by omega, rfl⟩
    · simp [go_sem, e0, e1, e5, hi]
  obtain ⟨o, env', H', rfl, rfl⟩ := hL
  simp [go_sem]
set_option maxHeartbeats 4000000 in
theorem eqModule_eq (x : GModule) (hb : x.bulk ≤ maxRow) : dPure CC 115 [x.enc, x.enc] = some (.bool true) := by
  rw [GModule.bulk_eq] at hb
  have e1 := eqImportS_eq x.Imports (by omega)
  have e2 := eqCoreS_eq x.Cores (by omega)
  rw [dPure_eq (C := CC) _ rfl rfl Tryz.func115 rfl]
  simp [Tryz.f115, go_sem, e1, e2]
set_option maxHeartbeats 4000000 in
theorem eqEntry_eq (x : GEntry) (hb : x.bulk ≤ maxRow) : dPure CC 192 [x.enc, x.enc] = some (.bool true) := by
  rw [GEntry.bulk_eq] at hb
  rw [dPure_eq (C := CC) _ rfl rfl Tryz.func192 rfl]
  simp [Tryz.f192, go_sem]
set_option maxHeartbeats 4000000 in
theorem eqEntryS_eq (xs : List GEntry) (hb : bulkL GEntry.bulk xs ≤ maxRow) : dPure CC 181 [.slice false (xs.map GEntry.enc), .slice false (xs.map GEntry.enc)] = some (.bool true) := by
  have hx : xs.length ≤ maxRow := by unfold bulkL at hb; omega
  have hx' : xs.length ≤ 68719476736 := hx
  rw [dPure_eq (C := CC) _ rfl rfl Tryz.func181 rfl]
  simp [Tryz.f181, go_sem]
  generalize hc : dCode CC 0 (Code.loop _) _ _ = r
  have hL : Runs r fun o env' H' => o = .exit 0 := by
    rw [← hc]
    refine loop_rule (fun k env H => ∃ (i : Nat), k + i = xs.length ∧ env 0 = .slice false (xs.map GEntry.enc) ∧ env 1 = .slice false (xs.map GEntry.enc) ∧ env 5 = .int .i64 i) _ ?_ xs.length _ _
      ⟨0, by simp, by simp [go_sem], by simp [go_sem], by simp [go_sem]⟩
    clear hc
    rintro k env H ⟨i, hk, e0, e1, e5⟩
    by_cases hi : i < xs.length
    · have hw2 := wrapS (i := i) (by omega)
      have hE := eqEntry_eq xs[i] (by have := sum_get GEntry.bulk xs i hi; unfold bulkL at hb; omega)
      simp [go_sem, e0, e1, e5, hi, hw2, hE]
      exact ⟨k - 1, by omega, i + 1, by omega, rfl⟩
    · simp [go_sem, e0, e1, e5, hi]
  obtain ⟨o, env', H', rfl, rfl⟩ := hL
  simp [go_sem]
set_option maxHeartbeats 4000000 in
theorem eqTable_eq (x : GTable) (hb : x.bulk ≤ maxRow) : dPure CC 165 [x.enc, x.enc] = some (.bool true) := by
  rw [GTable.bulk_eq] at hb
  have e1 := eqEntryS_eq x.Entries (by omega)
  rw [dPure_eq (C := CC) _ rfl rfl Tryz.func165 rfl]
  simp [Tryz.f165, go_sem, e1]
set_option maxHeartbeats 4000000 in
theorem eqTableS_eq (xs : List GTable) (hb : bulkL GTable.bulk xs ≤ maxRow) : dPure CC 133 [.slice false (xs.map GTable.enc), .slice false (xs.map GTable.enc)] = some (.bool true) := by
  have hx : xs.length ≤ maxRow := by unfold bulkL at hb; omega
  have hx' : xs.length ≤ 68719476736 := hx
  rw [dPure_eq (C := CC) _ rfl rfl Tryz.func133 rfl]
  simp [Tryz.f133, go_sem]
  generalize hc : dCode CC 0 (Code.loop _) _ _ = r
  have hL : Runs r fun o env' H' => o = .exit 0 := by
    rw [← hc]
    refine loop_rule (fun k env H => ∃ (i : Nat), k + i = xs.length ∧ env 0 = .slice false (xs.map GTable.enc) ∧ env 1 = .slice false (xs.map GTable.enc) ∧ env 5 = .int .i64 i) _ ?_ xs.length _ _
      ⟨0, by simp, by simp [go_sem], by simp [go_sem], by simp [go_sem]⟩
    clear hc
    rintro k env H ⟨i, hk, e0, e1, e5⟩
    by_cases hi : i < xs.length
    · have hw2 := wrapS (i := i) (by omega)
      have hE := eqTable_eq xs[i] (by have := sum_get GTable.bulk xs i hi; unfold bulkL at hb; omega)
      simp [go_sem, e0, e1, e5, hi, hw2, hE]
      exact ⟨k - 1, by omega, i + 1, by omega, rfl⟩
    · simp [go_sem, e0, e1, e5, hi]
  obtain ⟨o, env', H', rfl, rfl⟩ := hL
  simp [go_sem]
set_option maxHeartbeats 4000000 in
theorem eqThing_eq (x : GThing) (hb : x.bulk ≤ maxRow) : dPure CC 166 [x.enc, x.enc] = some (.bool true) := by
  rw [GThing.bulk_eq] at hb
  rw [dPure_eq (C := CC) _ rfl rfl Tryz.func166 rfl]
  simp [Tryz.f166, go_sem]
set_option maxHeartbeats 4000000 in
theorem eqThingS_eq (xs : List GThing) (hb : bulkL GThing.bulk xs ≤ maxRow) : dPure CC 134 [.slice false (xs.map GThing.enc), .slice false (xs.map GThing.enc)] = some (.bool true) := by
  have hx : xs.length ≤ maxRow := by unfold bulkL at hb; omega
  have hx' : xs.length ≤ 68719476736 := hx
  rw [dPure_eq (C := CC) _ rfl rfl Tryz.func134 rfl]
  simp [Tryz.f134, go_sem]
  generalize hc : dCode CC 0 (Code.loop _) _ _ = r
  have hL : Runs r fun o env' H' => o = .exit 0 := by
    rw [← hc]
    refine loop_rule (fun k env H => ∃ (i : Nat), k + i = xs.length ∧ env 0 = .slice false (xs.map GThing.enc) ∧ env 1 = .slice false (xs.map GThing.enc) ∧ env 5 = .int .i64 i) _ ?_ xs.length _ _
      ⟨0, by simp, by simp [go_sem], by simp [go_sem], by simp [go_sem]⟩
    clear hc
    rintro k env H ⟨i, hk, e0, e1, e5⟩
    by_cases hi : i < xs.length
    · have hw2 := wrapS (i := i) (by omega)
      have hE := eqThing_eq xs[i] (by have := sum_get GThing.bulk xs i hi; unfold bulkL at hb; omega)
      simp [go_sem, e0, e1, e5, hi, hw2, hE]
      exact ⟨k - 1, by omega, i + 1, by omega, rfl⟩
    · simp [go_sem, e0, e1, e5, hi]
  obtain ⟨o, env', H', rfl, rfl⟩ := hL
  simp [go_sem]
set_option maxHeartbeats 4000000 in
theorem eqShelf_eq (x : GShelf) (hb : x.bulk ≤ maxRow) : dPure CC 87 [x.enc, x.enc] = some (.bool true) := by
  rw [GShelf.bulk_eq] at hb
  have e1 := eqTableS_eq x.Tables (by omega)
  have e2 := eqThingS_eq x.Things (by omega)
  rw [dPure_eq (C := CC) _ rfl rfl Tryz.func87 rfl]
  simp [Tryz.f87, go_sem, e1, e2]
set_option maxHeartbeats 4000000 in
theorem eqCall_eq (x : GCall) (hb : x.bulk ≤ maxRow) : dPure CC 135 [x.enc, x.enc] = some (.bool true) := by
  rw [GCall.bulk_eq] at hb
  have e3 := eqInt64S_eq x.Args (by omega)
  rw [dPure_eq (C := CC) _ rfl rfl Tryz.func135 rfl]
  simp [Tryz.f135, go_sem, e3]
end Go.Proofs.YtdlkndnlpgmdaaaGreat.V
