/- What the copy functions of the laws compute in V. Condition: the measure at most what a row may hold. -/
import Derived.Test.YtdlkndnlpgmdaaaGreatVData
namespace Go.Proofs.YtdlkndnlpgmdaaaGreat.V
open Go Go.V Go.Proofs
set_option linter.unusedSimpArgs false
set_option linter.unusedVariables false

set_option maxHeartbeats 4000000 in
theorem toStringS_eq (xs : List (List UInt8)) (hb : bulkL List.length xs ≤ maxRow) : dPure CC 100 [.slice false (xs.map PV.str)] = some (.slice false (xs.map PV.str)) := by
  have hx : xs.length ≤ maxRow := by unfold bulkL at hb; omega
  have hx' : xs.length ≤ 68719476736 := hx
  rw [dPure_eq (C := CC) _ rfl rfl Tryz.func100 rfl]
  simp [Tryz.f100, go_sem, hx]
  generalize hc : dCode CC 0 (Code.loop _) _ _ = r
  have hL : Runs r fun o env' H' => o = .exit 0 ∧ env' 3 = .sref 0 7 1 1 0 xs.length ∧ H'.get 0 7 = ⟨1, 0, .arr (xs.map PV.str)⟩ := by
    rw [← hc]
    refine loop_rule (fun k env H => ∃ (i : Nat), k + i = xs.length ∧ env 0 = .slice false (xs.map PV.str) ∧ env 4 = .int .i64 i ∧ env 3 = .sref 0 7 1 1 0 xs.length ∧ H.get 0 7 = ⟨1, 0, .arr (filledP (.str []) (xs.map PV.str) i)⟩) _ ?_ xs.length _ _
      ⟨0, by simp, by simp [go_sem], by simp [go_sem], by simp [go_sem], by simp [go_sem, filledP]⟩
    clear hc
    rintro k env H ⟨i, hk, e0, e4, e3, hH⟩
    by_cases hi : i < xs.length
    · have hw2 := wrapS (i := i) (by omega)
      have hg := filledP_get (.str []) (xs.map PV.str) i (by simpa using hi)
      have hs := filledP_set (.str []) (xs.map PV.str) i (by simpa using hi)
      rw [List.getElem_map] at hs
      simp [go_sem, e0, e4, e3, hi, hw2, hH, hg, hs]
      exact ⟨k - 1, by omega, i + 1, by omega, rfl, rfl⟩
    · have hd : i = xs.length := by omega
      subst hd
      have hf := filledP_all (.str []) (xs.map PV.str)
      rw [List.length_map] at hf
      simp [go_sem, e0, e4, e3, hi, hH, hf]
  obtain ⟨o, env', H', rfl, rfl, h1, h2⟩ := hL
  simp [go_sem, h1, h2]
set_option maxHeartbeats 4000000 in
theorem toInt64S_eq (xs : List Int) (hb : bulkL (fun _ : Int => 0) xs ≤ maxRow) : dPure CC 79 [.slice false (xs.map (PV.int .i64))] = some (.slice false (xs.map (PV.int .i64))) := by
  have hx : xs.length ≤ maxRow := by unfold bulkL at hb; omega
  have hx' : xs.length ≤ 68719476736 := hx
  rw [dPure_eq (C := CC) _ rfl rfl Tryz.func79 rfl]
  simp [Tryz.f79, go_sem, hx]
  generalize hc : dCode CC 0 (Code.loop _) _ _ = r
  have hL : Runs r fun o env' H' => o = .exit 0 ∧ env' 3 = .sref 0 7 1 1 0 xs.length ∧ H'.get 0 7 = ⟨1, 0, .arr (xs.map (PV.int .i64))⟩ := by
    rw [← hc]
    refine loop_rule (fun k env H => ∃ (i : Nat), k + i = xs.length ∧ env 0 = .slice false (xs.map (PV.int .i64)) ∧ env 4 = .int .i64 i ∧ env 3 = .sref 0 7 1 1 0 xs.length ∧ H.get 0 7 = ⟨1, 0, .arr (filledP (.int .i64 0) (xs.map (PV.int .i64)) i)⟩) _ ?_ xs.length _ _
      ⟨0, by simp, by simp [go_sem], by simp [go_sem], by simp [go_sem], by simp [go_sem, filledP]⟩
    clear hc
    rintro k env H ⟨i, hk, e0, e4, e3, hH⟩
    by_cases hi : i < xs.length
    · have hw2 := wrapS (i := i) (by omega)
      have hg := filledP_get (.int .i64 0) (xs.map (PV.int .i64)) i (by simpa using hi)
      have hs := filledP_set (.int .i64 0) (xs.map (PV.int .i64)) i (by simpa using hi)
      rw [List.getElem_map] at hs
      simp [go_sem, e0, e4, e3, hi, hw2, hH, hg, hs]
      exact ⟨k - 1, by omega, i + 1, by omega, rfl, rfl⟩
    · have hd : i = xs.length := by omega
      subst hd
      have hf := filledP_all (.int .i64 0) (xs.map (PV.int .i64))
      rw [List.length_map] at hf
      simp [go_sem, e0, e4, e3, hi, hH, hf]
  obtain ⟨o, env', H', rfl, rfl, h1, h2⟩ := hL
  simp [go_sem, h1, h2]
set_option maxHeartbeats 4000000 in
theorem toTypeS_of (xs : List GType) (hb : bulkL GType.bulk xs ≤ maxRow) (ih : ∀ y ∈ xs, dPure CC 186 [y.enc] = some y.enc) : dPure CC 196 [.slice false (xs.map GType.enc)] = some (.slice false (xs.map GType.enc)) := by
  have hx : xs.length ≤ maxRow := by unfold bulkL at hb; omega
  have hx' : xs.length ≤ 68719476736 := hx
  rw [dPure_eq (C := CC) _ rfl rfl Tryz.func196 rfl]
  simp [Tryz.f196, go_sem, hx]
  generalize hc : dCode CC 0 (Code.loop _) _ _ = r
  have hL : Runs r fun o env' H' => o = .exit 0 ∧ env' 3 = .sref 0 7 1 4 0 xs.length ∧ H'.get 0 7 = ⟨1, 0, .arr (xs.map GType.enc)⟩ := by
    rw [← hc]
    refine loop_rule (fun k env H => ∃ (i : Nat), k + i = xs.length ∧ env 0 = .slice false (xs.map GType.enc) ∧ env 4 = .int .i64 i ∧ env 3 = .sref 0 7 1 4 0 xs.length ∧ H.get 0 7 = ⟨1, 0, .arr (filledP (.agg [.int .i64 0, .str [], .slice true [], .slice true []]) (xs.map GType.enc) i)⟩) _ ?_ xs.length _ _
      ⟨0, by simp, by simp [go_sem], by simp [go_sem], by simp [go_sem], by simp [go_sem, filledP]⟩
    clear hc
    rintro k env H ⟨i, hk, e0, e4, e3, hH⟩
    by_cases hi : i < xs.length
    · have hw2 := wrapS (i := i) (by omega)
      have hg := filledP_get (.agg [.int .i64 0, .str [], .slice true [], .slice true []]) (xs.map GType.enc) i (by simpa using hi)
      have hs := filledP_set (.agg [.int .i64 0, .str [], .slice true [], .slice true []]) (xs.map GType.enc) i (by simpa using hi)
      have hE := ih _ (List.getElem_mem hi)
      rw [List.getElem_map] at hs
      simp [go_sem, e0, e4, e3, hi, hw2, hH, hg, hs, hE]
      exact ⟨k - 1, by omega, i + 1, by omega, rfl, rfl⟩
    · have hd : i = xs.length := by omega
      subst hd
      have hf := filledP_all (.agg [.int .i64 0, .str [], .slice true [], .slice true []]) (xs.map GType.enc)
      rw [List.length_map] at hf
      simp [go_sem, e0, e4, e3, hi, hH, hf]
  obtain ⟨o, env', H', rfl, rfl, h1, h2⟩ := hL
  simp [go_sem, h1, h2]
set_option maxHeartbeats 4000000 in
theorem toType_of (x : GType) (hb : x.bulk ≤ maxRow) (ihS : dPure CC 196 [.slice false (x.Kids.map GType.enc)] = some (.slice false (x.Kids.map GType.enc))) : dPure CC 186 [x.enc] = some x.enc := by
  rw [GType.bulk_eq] at hb
  have e2 := toStringS_eq x.Labels (by omega)
  rw [dPure_eq (C := CC) _ rfl rfl Tryz.func186 rfl]
  simp [Tryz.f186, go_sem, e2, ihS]
theorem toType_eq (x : GType) : x.bulk ≤ maxRow → dPure CC 186 [x.enc] = some x.enc :=
  GType.ind (P := fun x => x.bulk ≤ maxRow → dPure CC 186 [x.enc] = some x.enc) (fun x ih hb => by
    have hb2 := hb
    rw [GType.bulk_eq] at hb
    exact toType_of x hb2 (toTypeS_of x.Kids (by omega) fun y hy => ih y hy (by have := sum_mem GType.bulk hy; unfold bulkL at hb; omega))) x
theorem toTypeS_eq (xs : List GType) (hb : bulkL GType.bulk xs ≤ maxRow) : dPure CC 196 [.slice false (xs.map GType.enc)] = some (.slice false (xs.map GType.enc)) :=
  toTypeS_of xs hb fun y hy => toType_eq y (by have := sum_mem GType.bulk hy; unfold bulkL at hb; omega)
set_option maxHeartbeats 4000000 in
theorem toParam_eq (x : GParam) (hb : x.bulk ≤ maxRow) : dPure CC 195 [x.enc] = some x.enc := by
  rw [GParam.bulk_eq] at hb
  have e1 := toType_eq x.Ty (by omega)
  rw [dPure_eq (C := CC) _ rfl rfl Tryz.func195 rfl]
  simp [Tryz.f195, go_sem, e1]
set_option maxHeartbeats 4000000 in
theorem toParamS_eq (xs : List GParam) (hb : bulkL GParam.bulk xs ≤ maxRow) : dPure CC 185 [.slice false (xs.map GParam.enc)] = some (.slice false (xs.map GParam.enc)) := by
  have hx : xs.length ≤ maxRow := by unfold bulkL at hb; omega
  have hx' : xs.length ≤ 68719476736 := hx
  rw [dPure_eq (C := CC) _ rfl rfl Tryz.func185 rfl]
  simp [Tryz.f185, go_sem, hx]
  generalize hc : dCode CC 0 (Code.loop _) _ _ = r
  have hL : Runs r fun o env' H' => o = .exit 0 ∧ env' 3 = .sref 0 7 1 5 0 xs.length ∧ H'.get 0 7 = ⟨1, 0, .arr (xs.map GParam.enc)⟩ := by
    rw [← hc]
    refine loop_rule (fun k env H => ∃ (i : Nat), k + i = xs.length ∧ env 0 = .slice false (xs.map GParam.enc) ∧ env 4 = .int .i64 i ∧ env 3 = .sref 0 7 1 5 0 xs.length ∧ H.get 0 7 = ⟨1, 0, .arr (filledP (.agg [.str [], .int .i64 0, .str [], .slice true [], .slice true []]) (xs.map GParam.enc) i)⟩) _ ?_ xs.length _ _
      ⟨0, by simp, by simp [go_sem], by simp [go_sem], by simp [go_sem], by simp [go_sem, filledP]⟩
    clear hc
    rintro k env H ⟨i, hk, e0, e4, e3, hH⟩
    by_cases hi : i < xs.length
    · have hw2 := wrapS (i := i) (by omega)
      have hg := filledP_get (.agg [.str [], .int .i64 0, .str [], .slice true [], .slice true []]) (xs.map GParam.enc) i (by simpa using hi)
      have hs := filledP_set (.agg [.str [], .int .i64 0, .str [], .slice true [], .slice true []]) (xs.map GParam.enc) i (by simpa using hi)
      have hE := toParam_eq xs[i] (by have := sum_get GParam.bulk xs i hi; unfold bulkL at hb; omega)
      rw [List.getElem_map] at hs
      simp [go_sem, e0, e4, e3, hi, hw2, hH, hg, hs, hE]
      exact ⟨k - 1, by omega, i + 1, by omega, rfl, rfl⟩
    · have hd : i = xs.length := by omega
      subst hd
      have hf := filledP_all (.agg [.str [], .int .i64 0, .str [], .slice true [], .slice true []]) (xs.map GParam.enc)
      rw [List.length_map] at hf
      simp [go_sem, e0, e4, e3, hi, hH, hf]
  obtain ⟨o, env', H', rfl, rfl, h1, h2⟩ := hL
  simp [go_sem, h1, h2]
set_option maxHeartbeats 4000000 in
theorem toFuncType_eq (x : GFuncType) (hb : x.bulk ≤ maxRow) : dPure CC 171 [x.enc] = some x.enc := by
  rw [GFuncType.bulk_eq] at hb
  have e0 := toParamS_eq x.Params (by omega)
  have e1 := toType_eq x.Result (by omega)
  rw [dPure_eq (C := CC) _ rfl rfl Tryz.func171 rfl]
  simp [Tryz.f171, go_sem, e0, e1]
set_option maxHeartbeats 4000000 in
theorem toFunc_eq (x : GFunc) (hb : x.bulk ≤ maxRow) : dPure CC 144 [x.enc] = some x.enc := by
  rw [GFunc.bulk_eq] at hb
  have e1 := toFuncType_eq x.Ty (by omega)
  rw [dPure_eq (C := CC) _ rfl rfl Tryz.func144 rfl]
  simp [Tryz.f144, go_sem, e1]
set_option maxHeartbeats 4000000 in
theorem toFuncS_eq (xs : List GFunc) (hb : bulkL GFunc.bulk xs ≤ maxRow) : dPure CC 101 [.slice false (xs.map GFunc.enc)] = some (.slice false (xs.map GFunc.enc)) := by
  have hx : xs.length ≤ maxRow := by unfold bulkL at hb; omega
  have hx' : xs.length ≤ 68719476736 := hx
  rw [dPure_eq (C := CC) _ rfl rfl Tryz.func101 rfl]
  simp [Tryz.f101, go_sem, hx]
  generalize hc : dCode CC 0 (Code.loop _) _ _ = r
  have hL : Runs r fun o env' H' => o = .exit 0 ∧ env' 3 = .sref 0 7 1 7 0 xs.length ∧ H'.get 0 7 = ⟨1, 0, .arr (xs.map GFunc.enc)⟩ := by
    rw [← hc]
    refine loop_rule (fun k env H => ∃ (i : Nat), k + i = xs.length ∧ env 0 = .slice false (xs.map GFunc.enc) ∧ env 4 = .int .i64 i ∧ env 3 = .sref 0 7 1 7 0 xs.length ∧ H.get 0 7 = ⟨1, 0, .arr (filledP (.agg [.str [], .slice true [], .int .i64 0, .str [], .slice true [], .slice true [], .bool false]) (xs.map GFunc.enc) i)⟩) _ ?_ xs.length _ _
      ⟨0, by simp, by simp [go_sem], by simp [go_sem], by simp [go_sem], by simp [go_sem, filledP]⟩
    clear hc
    rintro k env H ⟨i, hk, e0, e4, e3, hH⟩
    by_cases hi : i < xs.length
    · have hw2 := wrapS (i := i) (by omega)
      have hg := filledP_get (.agg [.str [], .slice true [], .int .i64 0, .str [], .slice true [], .slice true [], .bool false]) (xs.map GFunc.enc) i (by simpa using hi)
      have hs := filledP_set (.agg [.str [], .slice true [], .int .i64 0, .str [], .slice true [], .slice true [], .bool false]) (xs.map GFunc.enc) i (by simpa using hi)
      have hE := toFunc_eq xs[i] (by have := sum_get GFunc.bulk xs i hi; unfold bulkL at hb; omega)
      rw [List.getElem_map] at hs
      simp [go_sem, e0, e4, e3, hi, hw2, hH, hg, hs, hE]
      exact ⟨k - 1, by omega, i + 1, by omega, rfl, rfl⟩
    · have hd : i = xs.length := by omega
      subst hd
      have hf := filledP_all (.agg [.str [], .slice true [], .int .i64 0, .str [], .slice true [], .slice true [], .bool false]) (xs.map GFunc.enc)
      rw [List.length_map] at hf
      simp [go_sem, e0, e4, e3, hi, hH, hf]
  obtain ⟨o, env', H', rfl, rfl, h1, h2⟩ := hL
  simp [go_sem, h1, h2]
set_option maxHeartbeats 4000000 in
theorem toFace_eq (x : GFace) (hb : x.bulk ≤ maxRow) : dPure CC 55 [x.enc] = some x.enc := by
  rw [GFace.bulk_eq] at hb
  have e3 := toStringS_eq x.Resources (by omega)
  have e4 := toFuncS_eq x.Funcs (by omega)
  rw [dPure_eq (C := CC) _ rfl rfl Tryz.func55 rfl]
  simp [Tryz.f55, go_sem, e3, e4]
set_option maxHeartbeats 4000000 in
theorem toFaceS_eq (xs : List GFace) (hb : bulkL GFace.bulk xs ≤ maxRow) : dPure CC 20 [.slice false (xs.map GFace.enc)] = some (.slice false (xs.map GFace.enc)) := by
  have hx : xs.length ≤ maxRow := by unfold bulkL at hb; omega
  have hx' : xs.length ≤ 68719476736 := hx
  rw [dPure_eq (C := CC) _ rfl rfl Tryz.func20 rfl]
  simp [Tryz.f20, go_sem, hx]
  generalize hc : dCode CC 0 (Code.loop _) _ _ = r
  have hL : Runs r fun o env' H' => o = .exit 0 ∧ env' 3 = .sref 0 7 1 5 0 xs.length ∧ H'.get 0 7 = ⟨1, 0, .arr (xs.map GFace.enc)⟩ := by
    rw [← hc]
    refine loop_rule (fun k env H => ∃ (i : Nat), k + i = xs.length ∧ env 0 = .slice false (xs.map GFace.enc) ∧ env 4 = .int .i64 i ∧ env 3 = .sref 0 7 1 5 0 xs.length ∧ H.get 0 7 = ⟨1, 0, .arr (filledP (.agg [.str [], .str [], .str [], .slice true [], .slice true []]) (xs.map GFace.enc) i)⟩) _ ?_ xs.length _ _
      ⟨0, by simp, by simp [go_sem], by simp [go_sem], by simp [go_sem], by simp [go_sem, filledP]⟩
    clear hc
    rintro k env H ⟨i, hk, e0, e4, e3, hH⟩
    by_cases hi : i < xs.length
    · have hw2 := wrapS (i := i) (by omega)
      have hg := filledP_get (.agg [.str [], .str [], .str [], .slice true [], .slice true []]) (xs.map GFace.enc) i (by simpa using hi)
      have hs := filledP_set (.agg [.str [], .str [], .str [], .slice true [], .slice true []]) (xs.map GFace.enc) i (by simpa using hi)
      have hE := toFace_eq xs[i] (by have := sum_get GFace.bulk xs i hi; unfold bulkL at hb; omega)
      rw [List.getElem_map] at hs
      simp [go_sem, e0, e4, e3, hi, hw2, hH, hg, hs, hE]
      exact ⟨k - 1, by omega, i + 1, by omega, rfl, rfl⟩
    · have hd : i = xs.length := by omega
      subst hd
      have hf := filledP_all (.agg [.str [], .str [], .str [], .slice true [], .slice true []]) (xs.map GFace.enc)
      rw [List.length_map] at hf
      simp [go_sem, e0, e4, e3, hi, hH, hf]
  obtain ⟨o, env', H', rfl, rfl, h1, h2⟩ := hL
  simp [go_sem, h1, h2]
set_option maxHeartbeats 4000000 in
theorem toBlock_eq (x : GBlock) (hb : x.bulk ≤ maxRow) : dPure CC 161 [x.enc] = some x.enc := by
  rw [GBlock.bulk_eq] at hb
  rw [dPure_eq (C := CC) _ rfl rfl Tryz.func161 rfl]
  simp [Tryz.f161, go_sem]
set_option maxHeartbeats 4000000 in
theorem toBlockS_eq (xs : List GBlock) (hb : bulkL GBlock.bulk xs ≤ maxRow) : dPure CC 124 [.slice false (xs.map GBlock.enc)] = some (.slice false (xs.map GBlock.enc)) := by
  have hx : xs.length ≤ maxRow := by unfold bulkL at hb; omega
  have hx' : xs.length ≤ 68719476736 := hx
  rw [dPure_eq (C := CC) _ rfl rfl Tryz.func124 rfl]
  simp [Tryz.f124, go_sem, hx]
  generalize hc : dCode CC 0 (Code.loop _) _ _ = r
  have hL : Runs r fun o env' H' => o = .exit 0 ∧ env' 3 = .sref 0 7 1 2 0 xs.length ∧ H'.get 0 7 = ⟨1, 0, .arr (xs.map GBlock.enc)⟩ := by
    rw [← hc]
    refine loop_rule (fun k env H => ∃ (i : Nat), k + i = xs.length ∧ env 0 = .slice false (xs.map GBlock.enc) ∧ env 4 = .int .i64 i ∧ env 3 = .sref 0 7 1 2 0 xs.length ∧ H.get 0 7 = ⟨1, 0, .arr (filledP (.agg [.int .i64 0, .int .i64 0]) (xs.map GBlock.enc) i)⟩) _ ?_ xs.length _ _
      ⟨0, by simp, by simp [go_sem], by simp [go_sem], by simp [go_sem], by simp [go_sem, filledP]⟩
    clear hc
    rintro k env H ⟨i, hk, e0, e4, e3, hH⟩
    by_cases hi : i < xs.length
    · have hw2 := wrapS (i := i) (by omega)
      have hg := filledP_get (.agg [.int .i64 0, .int .i64 0]) (xs.map GBlock.enc) i (by simpa using hi)
      have hs := filledP_set (.agg [.int .i64 0, .int .i64 0]) (xs.map GBlock.enc) i (by simpa using hi)
      have hE := toBlock_eq xs[i] (by have := sum_get GBlock.bulk xs i hi; unfold bulkL at hb; omega)
      rw [List.getElem_map] at hs
      simp [go_sem, e0, e4, e3, hi, hw2, hH, hg, hs, hE]
      exact ⟨k - 1, by omega, i + 1, by omega, rfl, rfl⟩
    · have hd : i = xs.length := by omega
      subst hd
      have hf := filledP_all (.agg [.int .i64 0, .int .i64 0]) (xs.map GBlock.enc)
      rw [List.length_map] at hf
      simp [go_sem, e0, e4, e3, hi, hH, hf]
  obtain ⟨o, env', H', rfl, rfl, h1, h2⟩ := hL
  simp [go_sem, h1, h2]
set_option maxHeartbeats 4000000 in
theorem toMemory_eq (x : GMemory) (hb : x.bulk ≤ maxRow) : dPure CC 76 [x.enc] = some x.enc := by
  rw [GMemory.bulk_eq] at hb
  have e1 := toBlockS_eq x.Free (by omega)
  rw [dPure_eq (C := CC) _ rfl rfl Tryz.func76 rfl]
  simp [Tryz.f76, go_sem, e1]
end Go.Proofs.YtdlkndnlpgmdaaaGreat.V
