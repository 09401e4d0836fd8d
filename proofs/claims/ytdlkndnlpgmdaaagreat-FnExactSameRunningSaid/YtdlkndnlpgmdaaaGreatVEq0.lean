/- The equality functions of the laws give true of a value and itself. Condition: the measure at most what a row may hold. -/
import Derived.Test.YtdlkndnlpgmdaaaGreatVData
namespace Go.Proofs.YtdlkndnlpgmdaaaGreat.V
open Go Go.V Go.Proofs
set_option linter.unusedSimpArgs false
set_option linter.unusedVariables false

set_option maxHeartbeats 4000000 in
theorem eqStringS_eq (xs : List (List UInt8)) (hb : bulkL List.length xs ≤ maxRow) : dPure CC 113 [.slice false (xs.map PV.str), .slice false (xs.map PV.str)] = some (.bool true) := by
  have hx : xs.length ≤ maxRow := by unfold bulkL at hb; omega
  have hx' : xs.length ≤ 68719476736 := hx
  rw [dPure_eq (C := CC) _ rfl rfl Tryz.func113 rfl]
  simp [Tryz.f113, go_sem]
  generalize hc : dCode CC 0 (Code.loop _) _ _ = r
  have hL : Runs r fun o env' H' => o = .exit 0 := by
    rw [← hc]
    refine loop_rule (fun k env H => ∃ (i : Nat), k + i = xs.length ∧ env 0 = .slice false (xs.map PV.str) ∧ env 1 = .slice false (xs.map PV.str) ∧ env 5 = .int .i64 i) _ ?_ xs.length _ _
      ⟨0, by simp, by simp [go_sem], by simp [go_sem], by simp [go_sem]⟩
    clear hc
    rintro k env H ⟨i, hk, e0, e1, e5⟩
    by_cases hi : i < xs.length
    · have hw2 := wrapS (i := i) (by omega)
      simp [go_sem, e0, e1, e5, hi, hw2]
      exact ⟨k - 1, by omega, i + 1, by omega, rfl⟩
    · simp [go_sem, e0, e1, e5, hi]
  obtain ⟨o, env', H', rfl, rfl⟩ := hL
  simp [go_sem]
set_option maxHeartbeats 4000000 in
theorem eqInt64S_eq (xs : List Int) (hb : bulkL (fun _ : Int => 0) xs ≤ maxRow) : dPure CC 89 [.slice false (xs.map (PV.int .i64)), .slice false (xs.map (PV.int .i64))] = some (.bool true) := by
  have hx : xs.length ≤ maxRow := by unfold bulkL at hb; omega
  have hx' : xs.length ≤ 68719476736 := hx
  rw [dPure_eq (C := CC) _ rfl rfl Tryz.func89 rfl]
  simp [Tryz.f89, go_sem]
  generalize hc : dCode CC 0 (Code.loop _) _ _ = r
  have hL : Runs r fun o env' H' => o = .exit 0 := by
    rw [← hc]
    refine loop_rule (fun k env H => ∃ (i : Nat), k + i = xs.length ∧ env 0 = .slice false (xs.map (PV.int .i64)) ∧ env 1 = .slice false (xs.map (PV.int .i64)) ∧ env 5 = .int .i64 i) _ ?_ xs.length _ _
      ⟨0, by simp, by simp [go_sem], by simp [go_sem], by simp [go_sem]⟩
    clear hc
    rintro k env H ⟨i, hk, e0, e1, e5⟩
    by_cases hi : i < xs.length
    · have hw2 := wrapS (i := i) (by omega)
      simp [go_sem, e0, e1, e5, hi, hw2]
      exact ⟨k - 1, by omega, i + 1, by omega, rfl⟩
    · simp [go_sem, e0, e1, e5, hi]
  obtain ⟨o, env', H', rfl, rfl⟩ := hL
  simp [go_sem]
set_option maxHeartbeats 4000000 in
theorem eqTypeS_of (xs : List GType) (hb : bulkL GType.bulk xs ≤ maxRow) (ih : ∀ y ∈ xs, dPure CC 189 [y.enc, y.enc] = some (.bool true)) : dPure CC 199 [.slice false (xs.map GType.enc), .slice false (xs.map GType.enc)] = some (.bool true) := by
  have hx : xs.length ≤ maxRow := by unfold bulkL at hb; omega
  have hx' : xs.length ≤ 68719476736 := hx
  rw [dPure_eq (C := CC) _ rfl rfl Tryz.func199 rfl]
  simp [Tryz.f199, go_sem]
  generalize hc : dCode CC 0 (Code.loop _) _ _ = r
  have hL : Runs r fun o env' H' => o = .exit 0 := by
    rw [← hc]
    refine loop_rule (fun k env H => ∃ (i : Nat), k + i = xs.length ∧ env 0 = .slice false (xs.map GType.enc) ∧ env 1 = .slice false (xs.map GType.enc) ∧ env 5 = .int .i64 i) _ ?_ xs.length _ _
      ⟨0, by simp, by simp [go_sem], by simp [go_sem], by simp [go_sem]⟩
    clear hc
    rintro k env H ⟨i, hk, e0, e1, e5⟩
    by_cases hi : i < xs.length
    · have hw2 := wrapS (i := i) (by omega)
      have hE := ih _ (List.getElem_mem hi)
      simp [go_sem, e0, e1, e5, hi, hw2, hE]
      exact ⟨k - 1, by omega, i + 1, by omega, rfl⟩
    · simp [go_sem, e0, e1, e5, hi]
  obtain ⟨o, env', H', rfl, rfl⟩ := hL
  simp [go_sem]
set_option maxHeartbeats 4000000 in
theorem eqType_of (x : GType) (hb : x.bulk ≤ maxRow) (ihS : dPure CC 199 [.slice false (x.Kids.map GType.enc), .slice false (x.Kids.map GType.enc)] = some (.bool true)) : dPure CC 189 [x.enc, x.enc] = some (.bool true) := by
  rw [GType.bulk_eq] at hb
  have e2 := eqStringS_eq x.Labels (by omega)
  rw [dPure_eq (C := CC) _ rfl rfl Tryz.func189 rfl]
  simp [Tryz.f189, go_sem, e2, ihS]
theorem eqType_eq (x : GType) : x.bulk ≤ maxRow → dPure CC 189 [x.enc, x.enc] = some (.bool true) :=
  GType.ind (P := fun x => x.bulk ≤ maxRow → dPure CC 189 [x.enc, x.enc] = some (.bool true)) (fun x ih hb => by
    have hb2 := hb
    rw [GType.bulk_eq] at hb
    exact eqType_of x hb2 (eqTypeS_of x.Kids (by omega) fun y hy => ih y hy (by have := sum_mem GType.bulk hy; unfold bulkL at hb; omega))) x
theorem eqTypeS_eq (xs : List GType) (hb : bulkL GType.bulk xs ≤ maxRow) : dPure CC 199 [.slice false (xs.map GType.enc), .slice false (xs.map GType.enc)] = some (.bool true) :=
  eqTypeS_of xs hb fun y hy => eqType_eq y (by have := sum_mem GType.bulk hy; unfold bulkL at hb; omega)
set_option maxHeartbeats 4000000 in
theorem eqParam_eq (x : GParam) (hb : x.bulk ≤ maxRow) : dPure CC 198 [x.enc, x.enc] = some (.bool true) := by
  rw [GParam.bulk_eq] at hb
  have e1 := eqType_eq x.Ty (by omega)
  rw [dPure_eq (C := CC) _ rfl rfl Tryz.func198 rfl]
  simp [Tryz.f198, go_sem, e1]
set_option maxHeartbeats 4000000 in
theorem eqParamS_eq (xs : List GParam) (hb : bulkL GParam.bulk xs ≤ maxRow) : dPure CC 188 [.slice false (xs.map GParam.enc), .slice false (xs.map GParam.enc)] = some (.bool true) := by
  have hx : xs.length ≤ maxRow := by unfold bulkL at hb; omega
  have hx' : xs.length ≤ 68719476736 := hx
  rw [dPure_eq (C := CC) _ rfl rfl Tryz.func188 rfl]
  simp [Tryz.f188, go_sem]
  generalize hc : dCode CC 0 (Code.loop _) _ _ = r
  have hL : Runs r fun o env' H' => o = .exit 0 := by
    rw [← hc]
    refine loop_rule (fun k env H => ∃ (i : Nat), k + i = xs.length ∧ env 0 = .slice false (xs.map GParam.enc) ∧ env 1 = .slice false (xs.map GParam.enc) ∧ env 5 = .int .i64 i) _ ?_ xs.length _ _
      ⟨0, by simp, by simp [go_sem], by simp [go_sem], by simp [go_sem]⟩
    clear hc
    rintro k env H ⟨i, hk, e0, e1, e5⟩
    by_cases hi : i < xs.length
    · have hw2 := wrapS (i := i) (by omega)
      have hE := eqParam_eq xs[i] (by have := sum_get GParam.bulk xs i hi; unfold bulkL at hb; omega)
      simp [go_sem, e0, e1, e5, hi, hw2, hE]
      exact ⟨k - 1, by omega, i + 1, by omega, rfl⟩
    · simp [go_sem, e0, e1, e5, hi]
  obtain ⟨o, env', H', rfl, rfl⟩ := hL
  simp [go_sem]
set_option maxHeartbeats 4000000 in
theorem eqFuncType_eq (x : GFuncType) (hb : x.bulk ≤ maxRow) : dPure CC 176 [x.enc, x.enc] = some (.bool true) := by
  rw [GFuncType.bulk_eq] at hb
  have e0 := eqParamS_eq x.Params (by omega)
  have e1 := eqType_eq x.Result (by omega)
  rw [dPure_eq (C := CC) _ rfl rfl Tryz.func176 rfl]
  simp [Tryz.f176, go_sem, e0, e1]
set_option maxHeartbeats 4000000 in
theorem eqFunc_eq (x : GFunc) (hb : x.bulk ≤ maxRow) : dPure CC 153 [x.enc, x.enc] = some (.bool true) := by
  rw [GFunc.bulk_eq] at hb
  have e1 := eqFuncType_eq x.Ty (by omega)
  rw [dPure_eq (C := CC) _ rfl rfl Tryz.func153 rfl]
  simp [Tryz.f153, go_sem, e1]
set_option maxHeartbeats 4000000 in
theorem eqFuncS_eq (xs : List GFunc) (hb : bulkL GFunc.bulk xs ≤ maxRow) : dPure CC 114 [.slice false (xs.map GFunc.enc), .slice false (xs.map GFunc.enc)] = some (.bool true) := by
  have hx : xs.length ≤ maxRow := by unfold bulkL at hb; omega
  have hx' : xs.length ≤ 68719476736 := hx
  rw [dPure_eq (C := CC) _ rfl rfl Tryz.func114 rfl]
  simp [Tryz.f114, go_sem]
  generalize hc : dCode CC 0 (Code.loop _) _ _ = r
  have hL : Runs r fun o env' H' => o = .exit 0 := by
    rw [← hc]
    refine loop_rule (fun k env H => ∃ (i : Nat), k + i = xs.length ∧ env 0 = .slice false (xs.map GFunc.enc) ∧ env 1 = .slice false (xs.map GFunc.enc) ∧ env 5 = .int .i64 i) _ ?_ xs.length _ _
      ⟨0, by simp, by simp [go_sem], by simp [go_sem], by simp [go_sem]⟩
    clear hc
    rintro k env H ⟨i, hk, e0, e1, e5⟩
    by_cases hi : i < xs.length
    · have hw2 := wrapS (i := i) (by omega)
      have hE := eqFunc_eq xs[i] (by have := sum_get GFunc.bulk xs i hi; unfold bulkL at hb; omega)
      simp [go_sem, e0, e1, e5, hi, hw2, hE]
      exact ⟨k - 1, by omega, i + 1, by omega, rfl⟩
    · simp [go_sem, e0, e1, e5, hi]
  obtain ⟨o, env', H', rfl, rfl⟩ := hL
  simp [go_sem]
set_option maxHeartbeats 4000000 in
theorem eqFace_eq (x : GFace) (hb : x.bulk ≤ maxRow) : dPure CC 66 [x.enc, x.enc] = some (.bool true) := by
  rw [GFace.bulk_eq] at hb
  have e3 := eqStringS_eq x.Resources (by omega)
  have e4 := eqFuncS_eq x.Funcs (by omega)
  rw [dPure_eq (C := CC) _ rfl rfl Tryz.func66 rfl]
  simp [Tryz.f66, go_sem, e3, e4]
set_option maxHeartbeats 4000000 in
theorem eqFaceS_eq (xs : List GFace) (hb : bulkL GFace.bulk xs ≤ maxRow) : dPure CC 30 [.slice false (xs.map GFace.enc), .slice false (xs.map GFace.enc)] = some (.bool true) := by
  have hx : xs.length ≤ maxRow := by unfold bulkL at hb; omega
  have hx' : xs.length ≤ 68719476736 := hx
  rw [dPure_eq (C := CC) _ rfl rfl Tryz.func30 rfl]
  simp [Tryz.f30, go_sem]
  generalize hc : dCode CC 0 (Code.loop _) _ _ = r
  have hL : Runs r fun o env' H' => o = .exit 0 := by
    rw [← hc]
    refine loop_rule (fun k env H => ∃ (i : Nat), k + i = xs.length ∧ env 0 = .slice false (xs.map GFace.enc) ∧ env 1 = .slice false (xs.map GFace.enc) ∧ env 5 = .int .i64 i) _ ?_ xs.length _ _
      ⟨0, by simp, by simp [go_sem], by simp [go_sem], by simp [go_sem]⟩
    clear hc
    rintro k env H ⟨i, hk, e0, e1, e5⟩
    by_cases hi : i < xs.length
    · have hw2 := wrapS (i := i) (by omega)
      have hE := eqFace_eq xs[i] (by have := sum_get GFace.bulk xs i hi; unfold bulkL at hb; omega)
      simp [go_sem, e0, e1, e5, hi, hw2, hE]
      exact ⟨k - 1, by omega, i + 1, by omega, rfl⟩
    · simp [go_sem, e0, e1, e5, hi]
  obtain ⟨o, env', H', rfl, rfl⟩ := hL
  simp [go_sem]
set_option maxHeartbeats 4000000 in
theorem eqBlock_eq (x : GBlock) (hb : x.bulk ≤ maxRow) : dPure CC 164 [x.enc, x.enc] = some (.bool true) := by
  rw [GBlock.bulk_eq] at hb
  rw [dPure_eq (C := CC) _ rfl rfl Tryz.func164 rfl]
  simp [Tryz.f164, go_sem]
set_option maxHeartbeats 4000000 in
theorem eqBlockS_eq (xs : List GBlock) (hb : bulkL GBlock.bulk xs ≤ maxRow) : dPure CC 132 [.slice false (xs.map GBlock.enc), .slice false (xs.map GBlock.enc)] = some (.bool true) := by
  have hx : xs.length ≤ maxRow := by unfold bulkL at hb; omega
  have hx' : xs.length ≤ 68719476736 := hx
  rw [dPure_eq (C := CC) _ rfl rfl Tryz.func132 rfl]
  simp [Tryz.f132, go_sem]
  generalize hc : dCode CC 0 (Code.loop _) _ _ = r
  have hL : Runs r fun o env' H' => o = .exit 0 := by
    rw [← hc]
    refine loop_rule (fun k env H => ∃ (i : Nat), k + i = xs.length ∧ env 0 = .slice false (xs.map GBlock.enc) ∧ env 1 = .slice false (xs.map GBlock.enc) ∧ env 5 = .int .i64 i) _ ?_ xs.length _ _
      ⟨0, by simp, by simp [go_sem], by simp [go_sem], by simp [go_sem]⟩
    clear hc
    rintro k env H ⟨i, hk, e0, e1, e5⟩
    by_cases hi : i < xs.length
    · have hw2 := wrapS (i := i) (by omega)
      have hE := eqBlock_eq xs[i] (by have := sum_get GBlock.bulk xs i hi; unfold bulkL at hb; omega)
      simp [go_sem, e0, e1, e5, hi, hw2, hE]
      exact ⟨k - 1, by omega, i + 1, by omega, rfl⟩
    · simp [go_sem, e0, e1, e5, hi]
  obtain ⟨o, env', H', rfl, rfl⟩ := hL
  simp [go_sem]
set_option maxHeartbeats 4000000 in
theorem eqMemory_eq (x : GMemory) (hb : x.bulk ≤ maxRow) : dPure CC 86 [x.enc, x.enc] = some (.bool true) := by
  rw [GMemory.bulk_eq] at hb
  have e1 := eqBlockS_eq x.Free (by omega)
  rw [dPure_eq (C := CC) _ rfl rfl Tryz.func86 rfl]
  simp [Tryz.f86, go_sem, e1]
end Go.Proofs.YtdlkndnlpgmdaaaGreat.V
