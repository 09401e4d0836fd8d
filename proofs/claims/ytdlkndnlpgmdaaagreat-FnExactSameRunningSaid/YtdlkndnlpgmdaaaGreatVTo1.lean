/- What the copy functions of the laws compute in V. Condition: the measure at most what a row may hold. -/
import Derived.Test.YtdlkndnlpgmdaaaGreatVTo0
namespace Go.Proofs.YtdlkndnlpgmdaaaGreat.V
open Go Go.V Go.Proofs
set_option linter.unusedSimpArgs false
set_option linter.unusedVariables false

set_option maxHeartbeats 4000000 in
theorem toMemoryS_eq (xs : List GMemory) (hb : bulkL GMemory.bulk xs ≤ maxRow) : dPure CC 39 [.slice false (xs.map GMemory.enc)] = some (.slice false (xs.map GMemory.enc)) := by
  have hx : xs.length ≤ maxRow := by unfold bulkL at hb; omega
  have hx' : xs.length ≤ 68719476736 := hx
  rw [dPure_eq (C := CC) _ rfl rfl Tryz.func39 rfl]
  simp [Tryz.f39, go_sem, hx]
  generalize hc : dCode CC 0 (Code.loop _) _ _ = r
  have hL : Runs r fun o env' H' => o = .exit 0 ∧ env' 3 = .sref 0 7 1 2 0 xs.length ∧ H'.get 0 7 = ⟨1, 0, .arr (xs.map GMemory.enc)⟩ := by
    rw [← hc]
    refine loop_rule (fun k env H => ∃ (i : Nat), k + i = xs.length ∧ env 0 = .slice false (xs.map GMemory.enc) ∧ env 4 = .int .i64 i ∧ env 3 = .sref 0 7 1 2 0 xs.length ∧ H.get 0 7 = ⟨1, 0, .arr (filledP (.agg [.str [], .slice true []]) (xs.map GMemory.enc) i)⟩) _ ?_ xs.length _ _
      ⟨0, by simp, by simp [go_sem], by simp [go_sem], by simp [go_sem], by simp [go_sem, filledP]⟩
    clear hc
    rintro k env H ⟨i, hk, e0, e4, e3, hH⟩
    by_cases hi : i < xs.length
    · have hw2 := wrapS (i := i) (by omega)
      have hg := filledP_get (.agg [.str [], .slice true []]) (xs.map GMemory.enc) i (by simpa using hi)
      have hs := filledP_set (.agg [.str [], .slice true []]) (xs.map GMemory.enc) i (by simpa using hi)
      have hE := toMemory_eq xs[i] (by have := sum_get GMemory.bulk xs i hi; unfold bulkL at hb; omega)
      rw [List.getElem_map] at hs
      simp [go_sem, e0, e4, e3, hi, hw2, hH, hg, hs, hE]
      exact ⟨k - 1, by omega, i + 1, by omega, rfl, rfl⟩
    · have hd : i = xs.length := by omega
      subst hd
      have hf := filledP_all (.agg [.str [], .slice true []]) (xs.map GMemory.enc)
      rw [List.length_map] at hf
      simp [go_sem, e0, e4, e3, hi, hH, hf]
  obtain ⟨o, env', H', rfl, rfl, h1, h2⟩ := hL
  simp [go_sem, h1, h2]
set_option maxHeartbeats 4000000 in
theorem toIns_eq (x : GIns) (hb : x.bulk ≤ maxRow) : dPure CC 197 [x.enc] = some x.enc := by
  rw [GIns.bulk_eq] at hb
  rw [dPure_eq (C := CC) _ rfl rfl Tryz.func197 rfl]
  simp [Tryz.f197, go_sem]
set_option maxHeartbeats 4000000 in
theorem toInsS_eq (xs : List GIns) (hb : bulkL GIns.bulk xs ≤ maxRow) : dPure CC 187 [.slice false (xs.map GIns.enc)] = some (.slice false (xs.map GIns.enc)) := by
  have hx : xs.length ≤ maxRow := by unfold bulkL at hb; omega
  have hx' : xs.length ≤ 68719476736 := hx
  rw [dPure_eq (C := CC) _ rfl rfl Tryz.func187 rfl]
  simp [Tryz.f187, go_sem, hx]
  generalize hc : dCode CC 0 (Code.loop _) _ _ = r
  have hL : Runs r fun o env' H' => o = .exit 0 ∧ env' 3 = .sref 0 7 1 2 0 xs.length ∧ H'.get 0 7 = ⟨1, 0, .arr (xs.map GIns.enc)⟩ := by
    rw [← hc]
    refine loop_rule (fun k env H => ∃ (i : Nat), k + i = xs.length ∧ env 0 = .slice false (xs.map GIns.enc) ∧ env 4 = .int .i64 i ∧ env 3 = .sref 0 7 1 2 0 xs.length ∧ H.get 0 7 = ⟨1, 0, .arr (filledP (.agg [.int .i64 0, .int .i64 0]) (xs.map GIns.enc) i)⟩) _ ?_ xs.length _ _
      ⟨0, by simp, by simp [go_sem], by simp [go_sem], by simp [go_sem], by simp [go_sem, filledP]⟩
    clear hc
    rintro k env H ⟨i, hk, e0, e4, e3, hH⟩
    by_cases hi : i < xs.length
    · have hw2 := wrapS (i := i) (by omega)
      have hg := filledP_get (.agg [.int .i64 0, .int .i64 0]) (xs.map GIns.enc) i (by simpa using hi)
      have hs := filledP_set (.agg [.int .i64 0, .int .i64 0]) (xs.map GIns.enc) i (by simpa using hi)
      have hE := toIns_eq xs[i] (by have := sum_get GIns.bulk xs i hi; unfold bulkL at hb; omega)
      rw [List.getElem_map] at hs
      simp [go_sem, e0, e4, e3, hi, hw2, hH, hg, hs, hE]
      exact ⟨k - 1, by omega, i + 1, by omega, rfl, rfl⟩
    · have hd : i = xs.length := by omega
      subst hd
      have hf := filledP_all (.agg [.int .i64 0, .int .i64 0]) (xs.map GIns.enc)
      rw [List.length_map] at hf
      simp [go_sem, e0, e4, e3, hi, hH, hf]
  obtain ⟨o, env', H', rfl, rfl, h1, h2⟩ := hL
  simp [go_sem, h1, h2]
set_option maxHeartbeats 4000000 in
theorem toCore_eq (x : GCore) (hb : x.bulk ≤ maxRow) : dPure CC 173 [x.enc] = some x.enc := by
  rw [GCore.bulk_eq] at hb
  have e4 := toInsS_eq x.Code (by omega)
  rw [dPure_eq (C := CC) _ rfl rfl Tryz.func173 rfl]
  simp [Tryz.f173, go_sem, e4]
set_option maxHeartbeats 4000000 in
theorem toCoreS_eq (xs : List GCore) (hb : bulkL GCore.bulk xs ≤ maxRow) : dPure CC 146 [.slice false (xs.map GCore.enc)] = some (.slice false (xs.map GCore.enc)) := by
  have hx : xs.length ≤ maxRow := by unfold bulkL at hb; omega
  have hx' : xs.length ≤ 68719476736 := hx
  rw [dPure_eq (C := CC) _ rfl rfl Tryz.func146 rfl]
  simp [Tryz.f146, go_sem, hx]
  generalize hc : dCode CC 0 (Code.loop _) _ _ = r
  have hL : Runs r fun o env' H' => o = .exit 0 ∧ env' 3 = .sref 0 7 1 5 0 xs.length ∧ H'.get 0 7 = ⟨1, 0, .arr (xs.map GCore.enc)⟩ := by
    rw [← hc]
    refine loop_rule (fun k env H => ∃ (i : Nat), k + i = xs.length ∧ env 0 = .slice false (xs.map GCore.enc) ∧ env 4 = .int .i64 i ∧ env 3 = .sref 0 7 1 5 0 xs.length ∧ H.get 0 7 = ⟨1, 0, .arr (filledP (.agg [.str [], .int .i64 0, .int .i64 0, .bool false, .slice true []]) (xs.map GCore.enc) i)⟩) _ ?_ xs.length _ _
      ⟨0, by simp, by simp [go_sem], by simp [go_sem], by simp [go_sem], by simp [go_sem, filledP]⟩
    clear hc
    rintro k env H ⟨i, hk, e0, e4, e3, hH⟩
    by_cases hi : i < xs.length
    · have hw2 := wrapS (i := i) (by omega)
      have hg := filledP_get (.agg [.str [], .int .i64 0, .int .i64 0, .bool false, .slice true []]) (xs.map GCore.enc) i (by simpa using hi)
      have hs := filledP_set (.agg [.str [], .int .i64 0, .int .i64 0, .bool false, .slice true []]) (xs.map GCore.enc) i (by simpa using hi)
      have hE := toCore_eq xs[i] (by have := sum_get GCore.bulk xs i hi; unfold bulkL at hb; omega)
      rw [List.getElem_map] at hs
      simp [go_sem, e0, e4, e3, hi, hw2, hH, hg, hs, hE]
      exact ⟨k - 1, by omega, i + 1, by omega, rfl, rfl⟩
    · have hd : i = xs.length := by omega
      subst hd
      have hf := filledP_all (.agg [.str [], .int .i64 0, .int .i64 0, .bool false, .slice true []]) (xs.map GCore.enc)
      rw [List.length_map] at hf
      simp [go_sem, e0, e4, e3, hi, hH, hf]
  obtain ⟨o, env', H', rfl, rfl, h1, h2⟩ := hL
  simp [go_sem, h1, h2]
set_option maxHeartbeats 4000000 in
theorem toImport_eq (x : GImport) (hb : x.bulk ≤ maxRow) : dPure CC 172 [x.enc] = some x.enc := by
  rw [GImport.bulk_eq] at hb
  rw [dPure_eq (C := CC) _ rfl rfl Tryz.func172 rfl]
  simp [Tryz.f172, go_sem]
set_option maxHeartbeats 4000000 in
theorem toImportS_eq (xs : List GImport) (hb : bulkL GImport.bulk xs ≤ maxRow) : dPure CC 145 [.slice false (xs.map GImport.enc)] = some (.slice false (xs.map GImport.enc)) := by
  have hx : xs.length ≤ maxRow := by unfold bulkL at hb; omega
  have hx' : xs.length ≤ 68719476736 := hx
  rw [dPure_eq (C := CC) _ rfl rfl Tryz.func145 rfl]
  simp [Tryz.f145, go_sem, hx]
  generalize hc : dCode CC 0 (Code.loop _) _ _ = r
  have hL : Runs r fun o env' H' => o = .exit 0 ∧ env' 3 = .sref 0 7 1 3 0 xs.length ∧ H'.get 0 7 = ⟨1, 0, .arr (xs.map GImport.enc)⟩ := by
    rw [← hc]
    refine loop_rule (fun k env H => ∃ (i : Nat), k + i = xs.length ∧ env 0 = .slice false (xs.map GImport.enc) ∧ env 4 = .int .i64 i ∧ env 3 = .sref 0 7 1 3 0 xs.length ∧ H.get 0 7 = ⟨1, 0, .arr (filledP (.agg [.str [], .int .i64 0, .bool false]) (xs.map GImport.enc) i)⟩) _ ?_ xs.length _ _
      ⟨0, by simp, by simp [go_sem], by simp [go_sem], by simp [go_sem], by simp [go_sem, filledP]⟩
    clear hc
    rintro k env H ⟨i, hk, e0, e4, e3, hH⟩
    by_cases hi : i < xs.length
    · have hw2 := wrapS (i := i) (by omega)
      have hg := filledP_get (.agg [.str [], .int .i64 0, .bool false]) (xs.map GImport.enc) i (by simpa using hi)
      have hs := filledP_set (.agg [.str [], .int .i64 0, .bool false]) (xs.map GImport.enc) i (by simpa using hi)
      have hE := toImport_eq xs[i] (by have := sum_get GImport.bulk xs i hi; unfold bulkL at hb; omega)
      rw [List.getElem_map] at hs
      simp [go_sem, e0, e4, e3, hi, hw2, hH, hg, hs, hE]
      exact ⟨k - 1, by omega, i + 1, by omega, rfl, rfl⟩
    · have hd : i = xs.length := by omega
      subst hd
      have hf := filledP_all (.agg [.str [], .int .i64 0, .bool false]) (xs.map GImport.enc)
      rw [List.length_map] at hf
      simp [go_sem, e0, e4, e3, hi, hH, hf]
  obtain ⟨o, env', H', rfl, rfl, h1, h2⟩ := hL
  simp [go_sem, h1, h2]
set_option maxHeartbeats 4000000 in
theorem toModule_eq (x : GModule) (hb : x.bulk ≤ maxRow) : dPure CC 102 [x.enc] = some x.enc := by
  rw [GModule.bulk_eq] at hb
  have e1 := toImportS_eq x.Imports (by omega)
  have e2 := toCoreS_eq x.Cores (by omega)
  rw [dPure_eq (C := CC) _ rfl rfl Tryz.func102 rfl]
  simp [Tryz.f102, go_sem, e1, e2]
set_option maxHeartbeats 4000000 in
theorem toEntry_eq (x : GEntry) (hb : x.bulk ≤ maxRow) : dPure CC 191 [x.enc] = some x.enc := by
  rw [GEntry.bulk_eq] at hb
  rw [dPure_eq (C := CC) _ rfl rfl Tryz.func191 rfl]
  simp [Tryz.f191, go_sem]
set_option maxHeartbeats 4000000 in
theorem toEntryS_eq (xs : List GEntry) (hb : bulkL GEntry.bulk xs ≤ maxRow) : dPure CC 180 [.slice false (xs.map GEntry.enc)] = some (.slice false (xs.map GEntry.enc)) := by
  have hx : xs.length ≤ maxRow := by unfold bulkL at hb; omega
  have hx' : xs.length ≤ 68719476736 := hx
  rw [dPure_eq (C := CC) _ rfl rfl Tryz.func180 rfl]
  simp [Tryz.f180, go_sem, hx]
  generalize hc : dCode CC 0 (Code.loop _) _ _ = r
  have hL : Runs r fun o env' H' => o = .exit 0 ∧ env' 3 = .sref 0 7 1 7 0 xs.length ∧ H'.get 0 7 = ⟨1, 0, .arr (xs.map GEntry.enc)⟩ := by
    rw [← hc]
    refine loop_rule (fun k env H => ∃ (i : Nat), k + i = xs.length ∧ env 0 = .slice false (xs.map GEntry.enc) ∧ env 4 = .int .i64 i ∧ env 3 = .sref 0 7 1 7 0 xs.length ∧ H.get 0 7 = ⟨1, 0, .arr (filledP (.agg [.int .i64 0, .int .i64 0, .bool false, .int .i64 0, .int .i64 0, .int .i64 0, .int .i64 0]) (xs.map GEntry.enc) i)⟩) _ ?_ xs.length _ _
      ⟨0, by simp, by simp [go_sem], by simp [go_sem], by simp [go_sem], by simp [go_sem, filledP]⟩
    clear hc
    rintro k env H ⟨i, hk, e0, e4, e3, hH⟩
    by_cases hi : i < xs.length
    · have hw2 := wrapS (i := i) (by omega)
      have hg := filledP_get (.agg [.int .i64 0, .int .i64 0, .bool false, .int .i64 0, .int .i64 0, .int .i64 0, .int .i64 0]) (xs.map GEntry.enc) i (by simpa using hi)
      have hs := filledP_set (.agg [.int .i64 0, .int .i64 0, .bool false, .int .i64 0, .int .i64 0, .int .i64 0, .int .i64 0]) (xs.map GEntry.enc) i (by simpa using hi)
      have hE := toEntry_eq xs[i] (by have := sum_get GEntry.bulk xs i hi; unfold bulkL at hb; omega)
      rw [List.getElem_map] at hs
      simp [go_sem, e0, e4, e3, hi, hw2, hH, hg, hs, hE]
      exact ⟨k - 1, by omega, i + 1, by omega, rfl, rfl⟩
    · have hd : i = xs.length := by omega
      subst hd
      have hf := filledP_all (.agg [.int .i64 0, .int .i64 0, .bool false, .int .i64 0, .int .i64 0, .int .i64 0, .int .i64 0]) (xs.map GEntry.enc)
      rw [List.length_map] at hf
      simp [go_sem, e0, e4, e3, hi, hH, hf]
  obtain ⟨o, env', H', rfl, rfl, h1, h2⟩ := hL
  simp [go_sem, h1, h2]
set_option maxHeartbeats 4000000 in
theorem toTable_eq (x : GTable) (hb : x.bulk ≤ maxRow) : dPure CC 162 [x.enc] = some x.enc := by
  rw [GTable.bulk_eq] at hb
  have e1 := toEntryS_eq x.Entries (by omega)
  rw [dPure_eq (C := CC) _ rfl rfl Tryz.func162 rfl]
  simp [Tryz.f162, go_sem, e1]
set_option maxHeartbeats 4000000 in
theorem toTableS_eq (xs : List GTable) (hb : bulkL GTable.bulk xs ≤ maxRow) : dPure CC 125 [.slice false (xs.map GTable.enc)] = some (.slice false (xs.map GTable.enc)) := by
  have hx : xs.length ≤ maxRow := by unfold bulkL at hb; omega
  have hx' : xs.length ≤ 68719476736 := hx
  rw [dPure_eq (C := CC) _ rfl rfl Tryz.func125 rfl]
  simp [Tryz.f125, go_sem, hx]
  generalize hc : dCode CC 0 (Code.loop _) _ _ = r
  have hL : Runs r fun o env' H' => o = .exit 0 ∧ env' 3 = .sref 0 7 1 2 0 xs.length ∧ H'.get 0 7 = ⟨1, 0, .arr (xs.map GTable.enc)⟩ := by
    rw [← hc]
    refine loop_rule (fun k env H => ∃ (i : Nat), k + i = xs.length ∧ env 0 = .slice false (xs.map GTable.enc) ∧ env 4 = .int .i64 i ∧ env 3 = .sref 0 7 1 2 0 xs.length ∧ H.get 0 7 = ⟨1, 0, .arr (filledP (.agg [.int .i64 0, .slice true []]) (xs.map GTable.enc) i)⟩) _ ?_ xs.length _ _
      ⟨0, by simp, by simp [go_sem], by simp [go_sem], by simp [go_sem], by simp [go_sem, filledP]⟩
    clear hc
    rintro k env H ⟨i, hk, e0, e4, e3, hH⟩
    by_cases hi : i < xs.length
    · have hw2 := wrapS (i := i) (by omega)
      have hg := filledP_get (.agg [.int .i64 0, .slice true []]) (xs.map GTable.enc) i (by simpa using hi)
      have hs := filledP_set (.agg [.int .i64 0, .slice true []]) (xs.map GTable.enc) i (by simpa using hi)
      have hE := toTable_eq xs[i] (by have := sum_get GTable.bulk xs i hi; unfold bulkL at hb; omega)
      rw [List.getElem_map] at hs
      simp [go_sem, e0, e4, e3, hi, hw2, hH, hg, hs, hE]
      exact ⟨k - 1, by omega, i + 1, by omega, rfl, rfl⟩
    · have hd : i = xs.length := by omega
      subst hd
      have hf := filledP_all (.agg [.int .i64 0, .slice true []]) (xs.map GTable.enc)
      rw [List.length_map] at hf
      simp [go_sem, e0, e4, e3, hi, hH, hf]
  obtain ⟨o, env', H', rfl, rfl, h1, h2⟩ := hL
  simp [go_sem, h1, h2]
set_option maxHeartbeats 4000000 in
theorem toThing_eq (x : GThing) (hb : x.bulk ≤ maxRow) : dPure CC 163 [x.enc] = some x.enc := by
  rw [GThing.bulk_eq] at hb
  rw [dPure_eq (C := CC) _ rfl rfl Tryz.func163 rfl]
  simp [Tryz.f163, go_sem]
set_option maxHeartbeats 4000000 in
theorem toThingS_eq (xs : List GThing) (hb : bulkL GThing.bulk xs ≤ maxRow) : dPure CC 126 [.slice false (xs.map GThing.enc)] = some (.slice false (xs.map GThing.enc)) := by
  have hx : xs.length ≤ maxRow := by unfold bulkL at hb; omega
  have hx' : xs.length ≤ 68719476736 := hx
  rw [dPure_eq (C := CC) _ rfl rfl Tryz.func126 rfl]
  simp [Tryz.f126, go_sem, hx]
  generalize hc : dCode CC 0 (Code.loop _) _ _ = r
  have hL : Runs r fun o env' H' => o = .exit 0 ∧ env' 3 = .sref 0 7 1 3 0 xs.length ∧ H'.get 0 7 = ⟨1, 0, .arr (xs.map GThing.enc)⟩ := by
    rw [← hc]
    refine loop_rule (fun k env H => ∃ (i : Nat), k + i = xs.length ∧ env 0 = .slice false (xs.map GThing.enc) ∧ env 4 = .int .i64 i ∧ env 3 = .sref 0 7 1 3 0 xs.length ∧ H.get 0 7 = ⟨1, 0, .arr (filledP (.agg [.int .i64 0, .int .i64 0, .int .i64 0]) (xs.map GThing.enc) i)⟩) _ ?_ xs.length _ _
      ⟨0, by simp, by simp [go_sem], by simp [go_sem], by simp [go_sem], by simp [go_sem, filledP]⟩
    clear hc
    rintro k env H ⟨i, hk, e0, e4, e3, hH⟩
    by_cases hi : i < xs.length
    · have hw2 := wrapS (i := i) (by omega)
      have hg := filledP_get (.agg [.int .i64 0, .int .i64 0, .int .i64 0]) (xs.map GThing.enc) i (by simpa using hi)
      have hs := filledP_set (.agg [.int .i64 0, .int .i64 0, .int .i64 0]) (xs.map GThing.enc) i (by simpa using hi)
      have hE := toThing_eq xs[i] (by have := sum_get GThing.bulk xs i hi; unfold bulkL at hb; omega)
      rw [List.getElem_map] at hs
      simp [go_sem, e0, e4, e3, hi, hw2, hH, hg, hs, hE]
      exact ⟨k - 1, by omega, i + 1, by omega, rfl, rfl⟩
    · have hd : i = xs.length := by omega
      subst hd
      have hf := filledP_all (.agg [.int .i64 0, .int .i64 0, .int .i64 0]) (xs.map GThing.enc)
      rw [List.length_map] at hf
      simp [go_sem, e0, e4, e3, hi, hH, hf]
  obtain ⟨o, env', H', rfl, rfl, h1, h2⟩ := hL
  simp [go_sem, h1, h2]
set_option maxHeartbeats 4000000 in
theorem toShelf_eq (x : GShelf) (hb : x.bulk ≤ maxRow) : dPure CC 77 [x.enc] = some x.enc := by
  rw [GShelf.bulk_eq] at hb
  have e1 := toTableS_eq x.Tables (by omega)
  have e2 := toThingS_eq x.Things (by omega)
  rw [dPure_eq (C := CC) _ rfl rfl Tryz.func77 rfl]
  simp [Tryz.f77, go_sem, e1, e2]
set_option maxHeartbeats 4000000 in
theorem toCall_eq (x : GCall) (hb : x.bulk ≤ maxRow) : dPure CC 127 [x.enc] = some x.enc := by
  rw [GCall.bulk_eq] at hb
  have e3 := toInt64S_eq x.Args (by omega)
  rw [dPure_eq (C := CC) _ rfl rfl Tryz.func127 rfl]
  simp [Tryz.f127, go_sem, e3]
end Go.Proofs.YtdlkndnlpgmdaaaGreat.V
