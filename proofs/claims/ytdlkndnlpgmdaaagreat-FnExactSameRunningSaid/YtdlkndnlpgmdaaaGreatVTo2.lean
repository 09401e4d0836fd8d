/- What the copy functions of the laws compute in V. Condition: the measure at most what a row may hold. -/
import Derived.Test.YtdlkndnlpgmdaaaGreatVTo1
namespace Go.Proofs.YtdlkndnlpgmdaaaGreat.V
open Go Go.V Go.Proofs
set_option linter.unusedSimpArgs false
set_option linter.unusedVariables false

set_option maxHeartbeats 4000000 in
theorem toCallS_eq (xs : List GCall) (hb : bulkL GCall.bulk xs ≤ maxRow) : dPure CC 78 [.slice false (xs.map GCall.enc)] = some (.slice false (xs.map GCall.enc)) := by
  have hx : xs.length ≤ maxRow := by unfold bulkL at hb; omega
  have hx' : xs.length ≤ 68719476736 := hx
  rw [dPure_eq (C := CC) _ rfl rfl Tryz.func78 rfl]
  simp [Tryz.f78, go_sem, hx]
  generalize hc : dCode CC 0 (Code.loop _) _ _ = r
  have hL : Runs r fun o env' H' => o = .exit 0 ∧ env' 3 = .sref 0 7 1 4 0 xs.length ∧ H'.get 0 7 = ⟨1, 0, .arr (xs.map GCall.enc)⟩ := by
    rw [← hc]
    refine loop_rule (fun k env H => ∃ (i : Nat), k + i = xs.length ∧ env 0 = .slice false (xs.map GCall.enc) ∧ env 4 = .int .i64 i ∧ env 3 = .sref 0 7 1 4 0 xs.length ∧ H.get 0 7 = ⟨1, 0, .arr (filledP (.agg [.int .i64 0, .int .i64 0, .int .i64 0, .slice true []]) (xs.map GCall.enc) i)⟩) _ ?_ xs.length _ _
      ⟨0, by simp, by simp [go_sem], by simp [go_sem], by simp [go_sem], by simp [go_sem, filledP]⟩
    clear hc
    rintro k env H ⟨i, hk, e0, e4, e3, hH⟩
    by_cases hi : i < xs.length
    · have hw2 := wrapS (i := i) (by omega)
      have hg := filledP_get (.agg [.int .i64 0, .int .i64 0, .int .i64 0, .slice true []]) (xs.map GCall.enc) i (by simpa using hi)
      have hs := filledP_set (.agg [.int .i64 0, .int .i64 0, .int .i64 0, .slice true []]) (xs.map GCall.enc) i (by simpa using hi)
      have hE := toCall_eq xs[i] (by have := sum_get GCall.bulk xs i hi; unfold bulkL at hb; omega)
      rw [List.getElem_map] at hs
      simp [go_sem, e0, e4, e3, hi, hw2, hH, hg, hs, hE]
      exact ⟨k - 1, by omega, i + 1, by omega, rfl, rfl⟩
    · have hd : i = xs.length := by omega
      subst hd
      have hf := filledP_all (.agg [.int .i64 0, .int .i64 0, .int .i64 0, .slice true []]) (xs.map GCall.enc)
      rw [List.length_map] at hf
      simp [go_sem, e0, e4, e3, hi, hH, hf]
  obtain ⟨o, env', H', rfl, rfl, h1, h2⟩ := hL
  simp [go_sem, h1, h2]
set_option maxHeartbeats 4000000 in
theorem toYard_eq (x : GYard) (hb : x.bulk ≤ maxRow) : dPure CC 40 [x.enc] = some x.enc := by
  rw [GYard.bulk_eq] at hb
  have e0 := toShelf_eq x.Shelf (by omega)
  have e1 := toCallS_eq x.Stack (by omega)
  have e3 := toInt64S_eq x.Dead (by omega)
  rw [dPure_eq (C := CC) _ rfl rfl Tryz.func40 rfl]
  simp [Tryz.f40, go_sem, e0, e1, e3]
set_option maxHeartbeats 4000000 in
theorem toLift_eq (x : GLift) (hb : x.bulk ≤ maxRow) : dPure CC 147 [x.enc] = some x.enc := by
  rw [GLift.bulk_eq] at hb
  rw [dPure_eq (C := CC) _ rfl rfl Tryz.func147 rfl]
  simp [Tryz.f147, go_sem]
set_option maxHeartbeats 4000000 in
theorem toLiftS_eq (xs : List GLift) (hb : bulkL GLift.bulk xs ≤ maxRow) : dPure CC 103 [.slice false (xs.map GLift.enc)] = some (.slice false (xs.map GLift.enc)) := by
  have hx : xs.length ≤ maxRow := by unfold bulkL at hb; omega
  have hx' : xs.length ≤ 68719476736 := hx
  rw [dPure_eq (C := CC) _ rfl rfl Tryz.func103 rfl]
  simp [Tryz.f103, go_sem, hx]
  generalize hc : dCode CC 0 (Code.loop _) _ _ = r
  have hL : Runs r fun o env' H' => o = .exit 0 ∧ env' 3 = .sref 0 7 1 3 0 xs.length ∧ H'.get 0 7 = ⟨1, 0, .arr (xs.map GLift.enc)⟩ := by
    rw [← hc]
    refine loop_rule (fun k env H => ∃ (i : Nat), k + i = xs.length ∧ env 0 = .slice false (xs.map GLift.enc) ∧ env 4 = .int .i64 i ∧ env 3 = .sref 0 7 1 3 0 xs.length ∧ H.get 0 7 = ⟨1, 0, .arr (filledP (.agg [.str [], .str [], .str []]) (xs.map GLift.enc) i)⟩) _ ?_ xs.length _ _
      ⟨0, by simp, by simp [go_sem], by simp [go_sem], by simp [go_sem], by simp [go_sem, filledP]⟩
    clear hc
    rintro k env H ⟨i, hk, e0, e4, e3, hH⟩
    by_cases hi : i < xs.length
    · have hw2 := wrapS (i := i) (by omega)
      have hg := filledP_get (.agg [.str [], .str [], .str []]) (xs.map GLift.enc) i (by simpa using hi)
      have hs := filledP_set (.agg [.str [], .str [], .str []]) (xs.map GLift.enc) i (by simpa using hi)
      have hE := toLift_eq xs[i] (by have := sum_get GLift.bulk xs i hi; unfold bulkL at hb; omega)
      rw [List.getElem_map] at hs
      simp [go_sem, e0, e4, e3, hi, hw2, hH, hg, hs, hE]
      exact ⟨k - 1, by omega, i + 1, by omega, rfl, rfl⟩
    · have hd : i = xs.length := by omega
      subst hd
      have hf := filledP_all (.agg [.str [], .str [], .str []]) (xs.map GLift.enc)
      rw [List.length_map] at hf
      simp [go_sem, e0, e4, e3, hi, hH, hf]
  obtain ⟨o, env', H', rfl, rfl, h1, h2⟩ := hL
  simp [go_sem, h1, h2]
set_option maxHeartbeats 4000000 in
theorem toLower_eq (x : GLower) (hb : x.bulk ≤ maxRow) : dPure CC 148 [x.enc] = some x.enc := by
  rw [GLower.bulk_eq] at hb
  rw [dPure_eq (C := CC) _ rfl rfl Tryz.func148 rfl]
  simp [Tryz.f148, go_sem]
set_option maxHeartbeats 4000000 in
theorem toLowerS_eq (xs : List GLower) (hb : bulkL GLower.bulk xs ≤ maxRow) : dPure CC 104 [.slice false (xs.map GLower.enc)] = some (.slice false (xs.map GLower.enc)) := by
  have hx : xs.length ≤ maxRow := by unfold bulkL at hb; omega
  have hx' : xs.length ≤ 68719476736 := hx
  rw [dPure_eq (C := CC) _ rfl rfl Tryz.func104 rfl]
  simp [Tryz.f104, go_sem, hx]
  generalize hc : dCode CC 0 (Code.loop _) _ _ = r
  have hL : Runs r fun o env' H' => o = .exit 0 ∧ env' 3 = .sref 0 7 1 3 0 xs.length ∧ H'.get 0 7 = ⟨1, 0, .arr (xs.map GLower.enc)⟩ := by
    rw [← hc]
    refine loop_rule (fun k env H => ∃ (i : Nat), k + i = xs.length ∧ env 0 = .slice false (xs.map GLower.enc) ∧ env 4 = .int .i64 i ∧ env 3 = .sref 0 7 1 3 0 xs.length ∧ H.get 0 7 = ⟨1, 0, .arr (filledP (.agg [.str [], .str [], .str []]) (xs.map GLower.enc) i)⟩) _ ?_ xs.length _ _
      ⟨0, by simp, by simp [go_sem], by simp [go_sem], by simp [go_sem], by simp [go_sem, filledP]⟩
    clear hc
    rintro k env H ⟨i, hk, e0, e4, e3, hH⟩
    by_cases hi : i < xs.length
    · have hw2 := wrapS (i := i) (by omega)
      have hg := filledP_get (.agg [.str [], .str [], .str []]) (xs.map GLower.enc) i (by simpa using hi)
      have hs := filledP_set (.agg [.str [], .str [], .str []]) (xs.map GLower.enc) i (by simpa using hi)
      have hE := toLower_eq xs[i] (by have := sum_get GLower.bulk xs i hi; unfold bulkL at hb; omega)
      rw [List.getElem_map] at hs
      simp [go_sem, e0, e4, e3, hi, hw2, hH, hg, hs, hE]
      exact ⟨k - 1, by omega, i + 1, by omega, rfl, rfl⟩
    · have hd : i = xs.length := by omega
      subst hd
      have hf := filledP_all (.agg [.str [], .str [], .str []]) (xs.map GLower.enc)
      rw [List.length_map] at hf
      simp [go_sem, e0, e4, e3, hi, hH, hf]
  obtain ⟨o, env', H', rfl, rfl, h1, h2⟩ := hL
  simp [go_sem, h1, h2]
set_option maxHeartbeats 4000000 in
theorem toBuiltin_eq (x : GBuiltin) (hb : x.bulk ≤ maxRow) : dPure CC 149 [x.enc] = some x.enc := by
  rw [GBuiltin.bulk_eq] at hb
  rw [dPure_eq (C := CC) _ rfl rfl Tryz.func149 rfl]
  simp [Tryz.f149, go_sem]
set_option maxHeartbeats 4000000 in
theorem toBuiltinS_eq (xs : List GBuiltin) (hb : bulkL GBuiltin.bulk xs ≤ maxRow) : dPure CC 105 [.slice false (xs.map GBuiltin.enc)] = some (.slice false (xs.map GBuiltin.enc)) := by
  have hx : xs.length ≤ maxRow := by unfold bulkL at hb; omega
  have hx' : xs.length ≤ 68719476736 := hx
  rw [dPure_eq (C := CC) _ rfl rfl Tryz.func105 rfl]
  simp [Tryz.f105, go_sem, hx]
  generalize hc : dCode CC 0 (Code.loop _) _ _ = r
  have hL : Runs r fun o env' H' => o = .exit 0 ∧ env' 3 = .sref 0 7 1 4 0 xs.length ∧ H'.get 0 7 = ⟨1, 0, .arr (xs.map GBuiltin.enc)⟩ := by
    rw [← hc]
    refine loop_rule (fun k env H => ∃ (i : Nat), k + i = xs.length ∧ env 0 = .slice false (xs.map GBuiltin.enc) ∧ env 4 = .int .i64 i ∧ env 3 = .sref 0 7 1 4 0 xs.length ∧ H.get 0 7 = ⟨1, 0, .arr (filledP (.agg [.int .i64 0, .str [], .str [], .str []]) (xs.map GBuiltin.enc) i)⟩) _ ?_ xs.length _ _
      ⟨0, by simp, by simp [go_sem], by simp [go_sem], by simp [go_sem], by simp [go_sem, filledP]⟩
    clear hc
    rintro k env H ⟨i, hk, e0, e4, e3, hH⟩
    by_cases hi : i < xs.length
    · have hw2 := wrapS (i := i) (by omega)
      have hg := filledP_get (.agg [.int .i64 0, .str [], .str [], .str []]) (xs.map GBuiltin.enc) i (by simpa using hi)
      have hs := filledP_set (.agg [.int .i64 0, .str [], .str [], .str []]) (xs.map GBuiltin.enc) i (by simpa using hi)
      have hE := toBuiltin_eq xs[i] (by have := sum_get GBuiltin.bulk xs i hi; unfold bulkL at hb; omega)
      rw [List.getElem_map] at hs
      simp [go_sem, e0, e4, e3, hi, hw2, hH, hg, hs, hE]
      exact ⟨k - 1, by omega, i + 1, by omega, rfl, rfl⟩
    · have hd : i = xs.length := by omega
      subst hd
      have hf := filledP_all (.agg [.int .i64 0, .str [], .str [], .str []]) (xs.map GBuiltin.enc)
      rw [List.length_map] at hf
      simp [go_sem, e0, e4, e3, hi, hH, hf]
  obtain ⟨o, env', H', rfl, rfl, h1, h2⟩ := hL
  simp [go_sem, h1, h2]
set_option maxHeartbeats 4000000 in
theorem toComponent_eq (x : GComponent) (hb : x.bulk ≤ maxRow) : dPure CC 56 [x.enc] = some x.enc := by
  rw [GComponent.bulk_eq] at hb
  have e2 := toFaceS_eq x.Imports (by omega)
  have e3 := toFaceS_eq x.Exports (by omega)
  have e6 := toModule_eq x.Module (by omega)
  have e7 := toLiftS_eq x.Lifts (by omega)
  have e8 := toLowerS_eq x.Lowers (by omega)
  have e9 := toBuiltinS_eq x.Builtins (by omega)
  rw [dPure_eq (C := CC) _ rfl rfl Tryz.func56 rfl]
  simp [Tryz.f56, go_sem, e2, e3, e6, e7, e8, e9]
set_option maxHeartbeats 4000000 in
theorem toComponentS_eq (xs : List GComponent) (hb : bulkL GComponent.bulk xs ≤ maxRow) : dPure CC 21 [.slice false (xs.map GComponent.enc)] = some (.slice false (xs.map GComponent.enc)) := by
  have hx : xs.length ≤ maxRow := by unfold bulkL at hb; omega
  have hx' : xs.length ≤ 68719476736 := hx
  rw [dPure_eq (C := CC) _ rfl rfl Tryz.func21 rfl]
  simp [Tryz.f21, go_sem, hx]
  generalize hc : dCode CC 0 (Code.loop _) _ _ = r
  have hL : Runs r fun o env' H' => o = .exit 0 ∧ env' 3 = .sref 0 7 1 12 0 xs.length ∧ H'.get 0 7 = ⟨1, 0, .arr (xs.map GComponent.enc)⟩ := by
    rw [← hc]
    refine loop_rule (fun k env H => ∃ (i : Nat), k + i = xs.length ∧ env 0 = .slice false (xs.map GComponent.enc) ∧ env 4 = .int .i64 i ∧ env 3 = .sref 0 7 1 12 0 xs.length ∧ H.get 0 7 = ⟨1, 0, .arr (filledP (.agg [.str [], .str [], .slice true [], .slice true [], .int .i64 0, .int .i64 0, .int .i64 0, .slice true [], .slice true [], .slice true [], .slice true [], .slice true []]) (xs.map GComponent.enc) i)⟩) _ ?_ xs.length _ _
      ⟨0, by simp, by simp [go_sem], by simp [go_sem], by simp [go_sem], by simp [go_sem, filledP]⟩
    clear hc
    rintro k env H ⟨i, hk, e0, e4, e3, hH⟩
    by_cases hi : i < xs.length
    · have hw2 := wrapS (i := i) (by omega)
      have hg := filledP_get (.agg [.str [], .str [], .slice true [], .slice true [], .int .i64 0, .int .i64 0, .int .i64 0, .slice true [], .slice true [], .slice true [], .slice true [], .slice true []]) (xs.map GComponent.enc) i (by simpa using hi)
      have hs := filledP_set (.agg [.str [], .str [], .slice true [], .slice true [], .int .i64 0, .int .i64 0, .int .i64 0, .slice true [], .slice true [], .slice true [], .slice true [], .slice true []]) (xs.map GComponent.enc) i (by simpa using hi)
      have hE := toComponent_eq xs[i] (by have := sum_get GComponent.bulk xs i hi; unfold bulkL at hb; omega)
      rw [List.getElem_map] at hs
      simp [go_sem, e0, e4, e3, hi, hw2, hH, hg, hs, hE]
      exact ⟨k - 1, by omega, i + 1, by omega, rfl, rfl⟩
    · have hd : i = xs.length := by omega
      subst hd
      have hf := filledP_all (.agg [.str [], .str [], .slice true [], .slice true [], .int .i64 0, .int .i64 0, .int .i64 0, .slice true [], .slice true [], .slice true [], .slice true [], .slice true []]) (xs.map GComponent.enc)
      rw [List.length_map] at hf
      simp [go_sem, e0, e4, e3, hi, hH, hf]
  obtain ⟨o, env', H', rfl, rfl, h1, h2⟩ := hL
  simp [go_sem, h1, h2]
set_option maxHeartbeats 4000000 in
theorem toArg_eq (x : GArg) (hb : x.bulk ≤ maxRow) : dPure CC 150 [x.enc] = some x.enc := by
  rw [GArg.bulk_eq] at hb
  rw [dPure_eq (C := CC) _ rfl rfl Tryz.func150 rfl]
  simp [Tryz.f150, go_sem]
set_option maxHeartbeats 4000000 in
theorem toArgS_eq (xs : List GArg) (hb : bulkL GArg.bulk xs ≤ maxRow) : dPure CC 106 [.slice false (xs.map GArg.enc)] = some (.slice false (xs.map GArg.enc)) := by
  have hx : xs.length ≤ maxRow := by unfold bulkL at hb; omega
  have hx' : xs.length ≤ 68719476736 := hx
  rw [dPure_eq (C := CC) _ rfl rfl Tryz.func106 rfl]
  simp [Tryz.f106, go_sem, hx]
  generalize hc : dCode CC 0 (Code.loop _) _ _ = r
  have hL : Runs r fun o env' H' => o = .exit 0 ∧ env' 3 = .sref 0 7 1 2 0 xs.length ∧ H'.get 0 7 = ⟨1, 0, .arr (xs.map GArg.enc)⟩ := by
    rw [← hc]
    refine loop_rule (fun k env H => ∃ (i : Nat), k + i = xs.length ∧ env 0 = .slice false (xs.map GArg.enc) ∧ env 4 = .int .i64 i ∧ env 3 = .sref 0 7 1 2 0 xs.length ∧ H.get 0 7 = ⟨1, 0, .arr (filledP (.agg [.str [], .int .i64 0]) (xs.map GArg.enc) i)⟩) _ ?_ xs.length _ _
      ⟨0, by simp, by simp [go_sem], by simp [go_sem], by simp [go_sem], by simp [go_sem, filledP]⟩
    clear hc
    rintro k env H ⟨i, hk, e0, e4, e3, hH⟩
    by_cases hi : i < xs.length
    · have hw2 := wrapS (i := i) (by omega)
      have hg := filledP_get (.agg [.str [], .int .i64 0]) (xs.map GArg.enc) i (by simpa using hi)
      have hs := filledP_set (.agg [.str [], .int .i64 0]) (xs.map GArg.enc) i (by simpa using hi)
      have hE := toArg_eq xs[i] (by have := sum_get GArg.bulk xs i hi; unfold bulkL at hb; omega)
      rw [List.getElem_map] at hs
      simp [go_sem, e0, e4, e3, hi, hw2, hH, hg, hs, hE]
      exact ⟨k - 1, by omega, i + 1, by omega, rfl, rfl⟩
    · have hd : i = xs.length := by omega
      subst hd
      have hf := filledP_all (.agg [.str [], .int .i64 0]) (xs.map GArg.enc)
      rw [List.length_map] at hf
      simp [go_sem, e0, e4, e3, hi, hH, hf]
  obtain ⟨o, env', H', rfl, rfl, h1, h2⟩ := hL
  simp [go_sem, h1, h2]
set_option maxHeartbeats 4000000 in
theorem toInst_eq (x : GInst) (hb : x.bulk ≤ maxRow) : dPure CC 57 [x.enc] = some x.enc := by
  rw [GInst.bulk_eq] at hb
  have e1 := toArgS_eq x.Args (by omega)
  rw [dPure_eq (C := CC) _ rfl rfl Tryz.func57 rfl]
  simp [Tryz.f57, go_sem, e1]
set_option maxHeartbeats 4000000 in
theorem toInstS_eq (xs : List GInst) (hb : bulkL GInst.bulk xs ≤ maxRow) : dPure CC 22 [.slice false (xs.map GInst.enc)] = some (.slice false (xs.map GInst.enc)) := by
  have hx : xs.length ≤ maxRow := by unfold bulkL at hb; omega
  have hx' : xs.length ≤ 68719476736 := hx
  rw [dPure_eq (C := CC) _ rfl rfl Tryz.func22 rfl]
  simp [Tryz.f22, go_sem, hx]
  generalize hc : dCode CC 0 (Code.loop _) _ _ = r
  have hL : Runs r fun o env' H' => o = .exit 0 ∧ env' 3 = .sref 0 7 1 2 0 xs.length ∧ H'.get 0 7 = ⟨1, 0, .arr (xs.map GInst.enc)⟩ := by
    rw [← hc]
    refine loop_rule (fun k env H => ∃ (i : Nat), k + i = xs.length ∧ env 0 = .slice false (xs.map GInst.enc) ∧ env 4 = .int .i64 i ∧ env 3 = .sref 0 7 1 2 0 xs.length ∧ H.get 0 7 = ⟨1, 0, .arr (filledP (.agg [.int .i64 0, .slice true []]) (xs.map GInst.enc) i)⟩) _ ?_ xs.length _ _
      ⟨0, by simp, by simp [go_sem], by simp [go_sem], by simp [go_sem], by simp [go_sem, filledP]⟩
    clear hc
    rintro k env H ⟨i, hk, e0, e4, e3, hH⟩
    by_cases hi : i < xs.length
    · have hw2 := wrapS (i := i) (by omega)
      have hg := filledP_get (.agg [.int .i64 0, .slice true []]) (xs.map GInst.enc) i (by simpa using hi)
      have hs := filledP_set (.agg [.int .i64 0, .slice true []]) (xs.map GInst.enc) i (by simpa using hi)
      have hE := toInst_eq xs[i] (by have := sum_get GInst.bulk xs i hi; unfold bulkL at hb; omega)
      rw [List.getElem_map] at hs
      simp [go_sem, e0, e4, e3, hi, hw2, hH, hg, hs, hE]
      exact ⟨k - 1, by omega, i + 1, by omega, rfl, rfl⟩
    · have hd : i = xs.length := by omega
      subst hd
      have hf := filledP_all (.agg [.int .i64 0, .slice true []]) (xs.map GInst.enc)
      rw [List.length_map] at hf
      simp [go_sem, e0, e4, e3, hi, hH, hf]
  obtain ⟨o, env', H', rfl, rfl, h1, h2⟩ := hL
  simp [go_sem, h1, h2]
set_option maxHeartbeats 4000000 in
theorem toGraph_eq (x : GGraph) (hb : x.bulk ≤ maxRow) : dPure CC 7 [x.enc] = some x.enc := by
  rw [GGraph.bulk_eq] at hb
  have e0 := toFaceS_eq x.Host (by omega)
  have e1 := toComponentS_eq x.Comps (by omega)
  have e2 := toInstS_eq x.Insts (by omega)
  rw [dPure_eq (C := CC) _ rfl rfl Tryz.func7 rfl]
  simp [Tryz.f7, go_sem, e0, e1, e2]
set_option maxHeartbeats 4000000 in
theorem toHostCall_eq (x : GHostCall) (hb : x.bulk ≤ maxRow) : dPure CC 80 [x.enc] = some x.enc := by
  rw [GHostCall.bulk_eq] at hb
  have e2 := toStringS_eq x.Args (by omega)
  rw [dPure_eq (C := CC) _ rfl rfl Tryz.func80 rfl]
  simp [Tryz.f80, go_sem, e2]
end Go.Proofs.YtdlkndnlpgmdaaaGreat.V
