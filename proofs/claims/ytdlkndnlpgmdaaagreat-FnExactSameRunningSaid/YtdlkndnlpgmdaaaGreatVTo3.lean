/- What the copy functions of the laws compute in V. Condition: the measure at most what a row may hold. -/
import Derived.Test.YtdlkndnlpgmdaaaGreatVTo2
namespace Go.Proofs.YtdlkndnlpgmdaaaGreat.V
open Go Go.V Go.Proofs
set_option linter.unusedSimpArgs false
set_option linter.unusedVariables false

set_option maxHeartbeats 4000000 in
theorem toHostCallS_eq (xs : List GHostCall) (hb : bulkL GHostCall.bulk xs ≤ maxRow) : dPure CC 41 [.slice false (xs.map GHostCall.enc)] = some (.slice false (xs.map GHostCall.enc)) := by
  have hx : xs.length ≤ maxRow := by unfold bulkL at hb; omega
  have hx' : xs.length ≤ 68719476736 := hx
  rw [dPure_eq (C := CC) _ rfl rfl Tryz.func41 rfl]
  simp [Tryz.f41, go_sem, hx]
  generalize hc : dCode CC 0 (Code.loop _) _ _ = r
  have hL : Runs r fun o env' H' => o = .exit 0 ∧ env' 3 = .sref 0 7 1 4 0 xs.length ∧ H'.get 0 7 = ⟨1, 0, .arr (xs.map GHostCall.enc)⟩ := by
    rw [← hc]
    refine loop_rule (fun k env H => ∃ (i : Nat), k + i = xs.length ∧ env 0 = .slice false (xs.map GHostCall.enc) ∧ env 4 = .int .i64 i ∧ env 3 = .sref 0 7 1 4 0 xs.length ∧ H.get 0 7 = ⟨1, 0, .arr (filledP (.agg [.int .i64 0, .str [], .slice true [], .str []]) (xs.map GHostCall.enc) i)⟩) _ ?_ xs.length _ _
      ⟨0, by simp, by simp [go_sem], by simp [go_sem], by simp [go_sem], by simp [go_sem, filledP]⟩
    clear hc
    rintro k env H ⟨i, hk, e0, e4, e3, hH⟩
    by_cases hi : i < xs.length
    · have hw2 := wrapS (i := i) (by omega)
      have hg := filledP_get (.agg [.int .i64 0, .str [], .slice true [], .str []]) (xs.map GHostCall.enc) i (by simpa using hi)
      have hs := filledP_set (.agg [.int .i64 0, .str [], .slice true [], .str []]) (xs.map GHostCall.enc) i (by simpa using hi)
      have hE := toHostCall_eq xs[i] (by have := sum_get GHostCall.bulk xs i hi; unfold bulkL at hb; omega)
      rw [List.getElem_map] at hs
      simp [go_sem, e0, e4, e3, hi, hw2, hH, hg, hs, hE]
      exact ⟨k - 1, by omega, i + 1, by omega, rfl, rfl⟩
    · have hd : i = xs.length := by omega
      subst hd
      have hf := filledP_all (.agg [.int .i64 0, .str [], .slice true [], .str []]) (xs.map GHostCall.enc)
      rw [List.length_map] at hf
      simp [go_sem, e0, e4, e3, hi, hH, hf]
  obtain ⟨o, env', H', rfl, rfl, h1, h2⟩ := hL
  simp [go_sem, h1, h2]
set_option maxHeartbeats 4000000 in
theorem toRunning_eq (x : GRunning) (hb : x.bulk ≤ maxRow) : dPure CC 12 [x.enc] = some x.enc := by
  rw [GRunning.bulk_eq] at hb
  have e0 := toGraph_eq x.Graph (by omega)
  have e2 := toMemoryS_eq x.Memory (by omega)
  have e3 := toYard_eq x.Yard (by omega)
  have e4 := toHostCallS_eq x.Log (by omega)
  rw [dPure_eq (C := CC) _ rfl rfl Tryz.func12 rfl]
  simp [Tryz.f12, go_sem, e0, e2, e3, e4]
end Go.Proofs.YtdlkndnlpgmdaaaGreat.V
