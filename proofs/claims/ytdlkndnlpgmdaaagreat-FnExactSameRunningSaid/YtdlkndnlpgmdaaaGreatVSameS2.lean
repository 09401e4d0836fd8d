/- The reference's equality functions in V: shelves, yards, graphs, running systems. Condition: the measure of the first value at most what a row may hold. -/
import Derived.Test.YtdlkndnlpgmdaaaGreatVSameS
namespace Go.Proofs.YtdlkndnlpgmdaaaGreat.V
open Go Go.V Go.Proofs
set_option linter.unusedSimpArgs false
set_option linter.unusedVariables false

set_option maxHeartbeats 8000000 in
theorem sSameShelf (x y : GShelf) (hb : x.bulk ≤ maxRow) : dPure CC 74 [x.enc, y.enc] = some (.bool (sameShelf x y)) := by
  have hM : maxRow = 68719476736 := rfl
  rw [GShelf.bulk_eq] at hb
  try unfold bulkL at hb
  unfold sameShelf
  rw [← all2_eq x.Things y.Things]
  rw [dPure_eq (C := CC) _ rfl rfl Tryz.func74 rfl]
  by_cases h0 : x.Next = y.Next
  rotate_left
  · simp [Tryz.f74, go_sem, h0]
  by_cases h1 : x.Tables.length = y.Tables.length
  rotate_left
  · have hq : ¬ ((x.Tables.length : Int) = y.Tables.length) := by omega
    simp [Tryz.f74, go_sem, h0, hq, all2_ne h1]
  by_cases h2 : x.Things.length = y.Things.length
  rotate_left
  · have hq : ¬ ((x.Things.length : Int) = y.Things.length) := by omega
    simp [Tryz.f74, go_sem, h0, h1, hq, all2_ne h2]
  simp [Tryz.f74, go_sem, h0, h1, h2]
  generalize hc0 : dCode CC 0 (Code.loop _) _ _ = r0
  have hL0 : Runs r0 fun o env' H' => (o = .exit 0 ∧ (env' 2 = .ptr 0 2 1 0 0 ∧ env' 3 = .ptr 0 3 1 0 0 ∧ H'.get 0 2 = ⟨1, 0, .arr [x.enc]⟩ ∧ H'.get 0 3 = ⟨1, 0, .arr [y.enc]⟩) ∧ all2 (fun a b => decide (a = b)) x.Things y.Things = true) ∨ (o = .ret ∧ env' 4 = .bool false ∧ all2 (fun a b => decide (a = b)) x.Things y.Things = false) := by
    rw [← hc0]
    refine all2_loop _ x.Things y.Things 5 0 (fun env H => env 2 = .ptr 0 2 1 0 0 ∧ env 3 = .ptr 0 3 1 0 0 ∧ H.get 0 2 = ⟨1, 0, .arr [x.enc]⟩ ∧ H.get 0 3 = ⟨1, 0, .arr [y.enc]⟩) (fun env H => env 4 = .bool false) h2 ?_ ?_ ?_ _ _ (by simp [go_sem]) (by simp [go_sem])
    all_goals clear hc0
    · rintro i hi hj env H hp ⟨e2, e3, g2, g3⟩ es
      have hw := wrapS (i := i) (by omega)
      simp only [decide_eq_true_eq] at hp
      simp [go_sem, es, hi, hj, hw, hp, e2, e3, g2, g3]
    · rintro i hi hj env H hp ⟨e2, e3, g2, g3⟩ es
      have hw := wrapS (i := i) (by omega)
      simp only [decide_eq_false_iff_not] at hp
      simp [go_sem, es, hi, hj, hw, hp, e2, e3, g2, g3]
    · rintro env H ⟨e2, e3, g2, g3⟩ es
      simp [go_sem, es, e2, e3, g2, g3]
  obtain ⟨o, env', H', rfl, h⟩ := hL0
  rcases h with ⟨rfl, hI, hA0⟩ | ⟨rfl, hR, hA0⟩
  rotate_left
  · simp [go_sem, hR, hA0]
  obtain ⟨e2', e3', g2', g3'⟩ := hI
  simp [go_sem, e2', e3', g2', g3']
  generalize hc1 : dCode CC 0 (Code.loop _) _ _ = r1
  have hL1 : Runs r1 fun o env' H' => (o = .exit 2 ∧ (env' 2 = .ptr 0 2 1 0 0 ∧ env' 3 = .ptr 0 3 1 0 0 ∧ H'.get 0 2 = ⟨1, 0, .arr [x.enc]⟩ ∧ H'.get 0 3 = ⟨1, 0, .arr [y.enc]⟩) ∧ all2 sameTable x.Tables y.Tables = true) ∨ (o = .ret ∧ env' 4 = .bool false ∧ all2 sameTable x.Tables y.Tables = false) := by
    rw [← hc1]
    refine all2_loop _ x.Tables y.Tables 6 2 (fun env H => env 2 = .ptr 0 2 1 0 0 ∧ env 3 = .ptr 0 3 1 0 0 ∧ H.get 0 2 = ⟨1, 0, .arr [x.enc]⟩ ∧ H.get 0 3 = ⟨1, 0, .arr [y.enc]⟩) (fun env H => env 4 = .bool false) h1 ?_ ?_ ?_ _ _ (by simp [go_sem, e2', e3', g2', g3']) (by simp [go_sem])
    all_goals clear hc1
    · rintro i hi hj env H hp ⟨e2, e3, g2, g3⟩ es
      have hw := wrapS (i := i) (by omega)
      unfold sameTable at hp
      rw [← all2_eq x.Tables[i].Entries y.Tables[i].Entries] at hp
      by_cases q0 : x.Tables[i].Next = y.Tables[i].Next
      rotate_left
      · simp [q0] at hp
      by_cases q1 : x.Tables[i].Entries.length = y.Tables[i].Entries.length
      rotate_left
      · simp [all2_ne q1] at hp
      simp [go_sem, es, hi, hj, hw, q0, q1, e2, e3, g2, g3]
      generalize hcc : dCode CC 0 (Code.loop _) _ _ = rr
      have hLL : ∃ v7 v8, Runs rr fun o env H => (o = .exit 4 ∧ (env 2 = .ptr 0 2 1 0 0 ∧ env 3 = .ptr 0 3 1 0 0 ∧ H.get 0 2 = ⟨1, 0, .arr [x.enc]⟩ ∧ H.get 0 3 = ⟨1, 0, .arr [y.enc]⟩ ∧ env 6 = .int .i64 i ∧ env 7 = .ptr 0 7 v7 0 0 ∧ env 8 = .ptr 0 8 v8 0 0 ∧ H.get 0 7 = ⟨v7, 0, .arr [x.Tables[i].enc]⟩ ∧ H.get 0 8 = ⟨v8, 0, .arr [y.Tables[i].enc]⟩) ∧ all2 (fun a b => decide (a = b)) x.Tables[i].Entries y.Tables[i].Entries = true) ∨ (o = .ret ∧ env 4 = .bool false ∧ all2 (fun a b => decide (a = b)) x.Tables[i].Entries y.Tables[i].Entries = false) := by
        refine ⟨(H.get 0 7).ver + 1, (H.get 0 8).ver + 1, ?_⟩
        rw [← hcc]
        generalize hv7 : (H.get 0 7).ver + 1 = v7
        generalize hv8 : (H.get 0 8).ver + 1 = v8
        have hlb : x.Tables[i].Entries.length ≤ maxRow := by have := sum_get GTable.bulk x.Tables i hi; rw [GTable.bulk_eq] at this; unfold bulkL at this; omega
        refine all2_loop _ x.Tables[i].Entries y.Tables[i].Entries 9 4 (fun env H => env 2 = .ptr 0 2 1 0 0 ∧ env 3 = .ptr 0 3 1 0 0 ∧ H.get 0 2 = ⟨1, 0, .arr [x.enc]⟩ ∧ H.get 0 3 = ⟨1, 0, .arr [y.enc]⟩ ∧ env 6 = .int .i64 i ∧ env 7 = .ptr 0 7 v7 0 0 ∧ env 8 = .ptr 0 8 v8 0 0 ∧ H.get 0 7 = ⟨v7, 0, .arr [x.Tables[i].enc]⟩ ∧ H.get 0 8 = ⟨v8, 0, .arr [y.Tables[i].enc]⟩) (fun env H => env 4 = .bool false) q1 ?_ ?_ ?_ _ _ (by simp [go_sem, hv7, hv8, es, e2, e3, g2, g3] <;> rw [GTable.enc_eq, q0]) (by simp [go_sem])
        all_goals clear hcc hv7 hv8 es e2 e3 g2 g3
        · rintro j hj1 hj2 env H hpp ⟨e2, e3, g2, g3, e6, e7, e8, g7, g8⟩ ess
          have hw2 := wrapS (i := j) (by omega)
          simp only [decide_eq_true_eq] at hpp
          simp [go_sem, ess, hj1, hj2, hw2, hpp, e2, e3, g2, g3, e6, e7, e8, g7, g8]
        · rintro j hj1 hj2 env H hpp ⟨e2, e3, g2, g3, e6, e7, e8, g7, g8⟩ ess
          have hw2 := wrapS (i := j) (by omega)
          simp only [decide_eq_false_iff_not] at hpp
          simp [go_sem, ess, hj1, hj2, hw2, hpp, e2, e3, g2, g3, e6, e7, e8, g7, g8]
        · rintro env H ⟨e2, e3, g2, g3, e6, e7, e8, g7, g8⟩ ess
          simp [go_sem, ess, e2, e3, g2, g3, e6, e7, e8, g7, g8]
      obtain ⟨v7, v8, o, env', H', rfl, h⟩ := hLL
      rcases h with ⟨rfl, ⟨e2', e3', g2', g3', e6', e7', e8', g7', g8'⟩, hA⟩ | ⟨rfl, hR, hA⟩
      · simp [go_sem, hw, e2', e3', g2', g3', e6', e7', e8', g7', g8']
      · simp [hA] at hp
    · rintro i hi hj env H hp ⟨e2, e3, g2, g3⟩ es
      have hw := wrapS (i := i) (by omega)
      unfold sameTable at hp
      rw [← all2_eq x.Tables[i].Entries y.Tables[i].Entries] at hp
      by_cases q0 : x.Tables[i].Next = y.Tables[i].Next
      rotate_left
      · simp [go_sem, es, hi, hj, hw, q0, e2, e3, g2, g3]
      by_cases q1 : x.Tables[i].Entries.length = y.Tables[i].Entries.length
      rotate_left
      · have hq : ¬ ((x.Tables[i].Entries.length : Int) = y.Tables[i].Entries.length) := by omega
        simp [go_sem, es, hi, hj, hw, q0, hq, e2, e3, g2, g3]
      simp [go_sem, es, hi, hj, hw, q0, q1, e2, e3, g2, g3]
      generalize hcc : dCode CC 0 (Code.loop _) _ _ = rr
      have hLL : ∃ v7 v8, Runs rr fun o env H => (o = .exit 4 ∧ (env 2 = .ptr 0 2 1 0 0 ∧ env 3 = .ptr 0 3 1 0 0 ∧ H.get 0 2 = ⟨1, 0, .arr [x.enc]⟩ ∧ H.get 0 3 = ⟨1, 0, .arr [y.enc]⟩ ∧ env 6 = .int .i64 i ∧ env 7 = .ptr 0 7 v7 0 0 ∧ env 8 = .ptr 0 8 v8 0 0 ∧ H.get 0 7 = ⟨v7, 0, .arr [x.Tables[i].enc]⟩ ∧ H.get 0 8 = ⟨v8, 0, .arr [y.Tables[i].enc]⟩) ∧ all2 (fun a b => decide (a = b)) x.Tables[i].Entries y.Tables[i].Entries = true) ∨ (o = .ret ∧ env 4 = .bool false ∧ all2 (fun a b => decide (a = b)) x.Tables[i].Entries y.Tables[i].Entries = false) := by
        refine ⟨(H.get 0 7).ver + 1, (H.get 0 8).ver + 1, ?_⟩
        rw [← hcc]
        generalize hv7 : (H.get 0 7).ver + 1 = v7
        generalize hv8 : (H.get 0 8).ver + 1 = v8
        have hlb : x.Tables[i].Entries.length ≤ maxRow := by have := sum_get GTable.bulk x.Tables i hi; rw [GTable.bulk_eq] at this; unfold bulkL at this; omega
        refine all2_loop _ x.Tables[i].Entries y.Tables[i].Entries 9 4 (fun env H => env 2 = .ptr 0 2 1 0 0 ∧ env 3 = .ptr 0 3 1 0 0 ∧ H.get 0 2 = ⟨1, 0, .arr [x.enc]⟩ ∧ H.get 0 3 = ⟨1, 0, .arr [y.enc]⟩ ∧ env 6 = .int .i64 i ∧ env 7 = .ptr 0 7 v7 0 0 ∧ env 8 = .ptr 0 8 v8 0 0 ∧ H.get 0 7 = ⟨v7, 0, .arr [x.Tables[i].enc]⟩ ∧ H.get 0 8 = ⟨v8, 0, .arr [y.Tables[i].enc]⟩) (fun env H => env 4 = .bool false) q1 ?_ ?_ ?_ _ _ (by simp [go_sem, hv7, hv8, es, e2, e3, g2, g3] <;> rw [GTable.enc_eq, q0]) (by simp [go_sem])
        all_goals clear hcc hv7 hv8 es e2 e3 g2 g3
        · rintro j hj1 hj2 env H hpp ⟨e2, e3, g2, g3, e6, e7, e8, g7, g8⟩ ess
          have hw2 := wrapS (i := j) (by omega)
          simp only [decide_eq_true_eq] at hpp
          simp [go_sem, ess, hj1, hj2, hw2, hpp, e2, e3, g2, g3, e6, e7, e8, g7, g8]
        · rintro j hj1 hj2 env H hpp ⟨e2, e3, g2, g3, e6, e7, e8, g7, g8⟩ ess
          have hw2 := wrapS (i := j) (by omega)
          simp only [decide_eq_false_iff_not] at hpp
          simp [go_sem, ess, hj1, hj2, hw2, hpp, e2, e3, g2, g3, e6, e7, e8, g7, g8]
        · rintro env H ⟨e2, e3, g2, g3, e6, e7, e8, g7, g8⟩ ess
          simp [go_sem, ess, e2, e3, g2, g3, e6, e7, e8, g7, g8]
      obtain ⟨v7, v8, o, env', H', rfl, h⟩ := hLL
      rcases h with ⟨rfl, ⟨e2', e3', g2', g3', e6', e7', e8', g7', g8'⟩, hA⟩ | ⟨rfl, hR, hA⟩
      · simp [q0, hA] at hp
      · simp [go_sem, hR]
    · rintro env H ⟨e2, e3, g2, g3⟩ es
      simp [go_sem, es, e2, e3, g2, g3]
  obtain ⟨o, env', H', rfl, h⟩ := hL1
  rcases h with ⟨rfl, hI, hA1⟩ | ⟨rfl, hR, hA1⟩
  rotate_left
  · simp [go_sem, hR, hA0, hA1]
  obtain ⟨e2', e3', g2', g3'⟩ := hI
  simp [go_sem, e2', e3', g2', g3', hA0, hA1]
set_option maxHeartbeats 8000000 in
theorem sSameYard (x y : GYard) (hb : x.bulk ≤ maxRow) : dPure CC 36 [x.enc, y.enc] = some (.bool (sameYard x y)) := by
  have hM : maxRow = 68719476736 := rfl
  rw [GYard.bulk_eq] at hb
  try unfold bulkL at hb
  have e0 := sSameShelf x.Shelf y.Shelf (by omega)
  have e1 := sInts x.Dead y.Dead (by unfold bulkL; omega)
  unfold sameYard
  rw [← all2_eq x.Dead y.Dead]
  revert e0 e1
  generalize sameShelf x.Shelf y.Shelf = b0
  generalize all2 (fun a b => decide (a = b)) x.Dead y.Dead = b3
  intro e0 e1
  rw [dPure_eq (C := CC) _ rfl rfl Tryz.func36 rfl]
  cases b0
  · simp [Tryz.f36, go_sem, e0, e1]
  by_cases h1 : x.Stack.length = y.Stack.length
  rotate_left
  · have hq : ¬ ((x.Stack.length : Int) = y.Stack.length) := by omega
    simp [Tryz.f36, go_sem, e0, e1, hq, all2_ne h1]
  by_cases h2 : x.Next = y.Next
  rotate_left
  · simp [Tryz.f36, go_sem, e0, e1, h1, h2]
  cases b3
  · simp [Tryz.f36, go_sem, e0, e1, h1, h2]
  simp [Tryz.f36, go_sem, e0, e1, h1, h2]
  generalize hc0 : dCode CC 0 (Code.loop _) _ _ = r0
  have hL0 : Runs r0 fun o env' H' => (o = .exit 0 ∧ (env' 2 = .ptr 0 2 1 0 0 ∧ env' 3 = .ptr 0 3 1 0 0 ∧ H'.get 0 2 = ⟨1, 0, .arr [x.enc]⟩ ∧ H'.get 0 3 = ⟨1, 0, .arr [y.enc]⟩) ∧ all2 sameCall x.Stack y.Stack = true) ∨ (o = .ret ∧ env' 4 = .bool false ∧ all2 sameCall x.Stack y.Stack = false) := by
    rw [← hc0]
    refine all2_loop _ x.Stack y.Stack 5 0 (fun env H => env 2 = .ptr 0 2 1 0 0 ∧ env 3 = .ptr 0 3 1 0 0 ∧ H.get 0 2 = ⟨1, 0, .arr [x.enc]⟩ ∧ H.get 0 3 = ⟨1, 0, .arr [y.enc]⟩) (fun env H => env 4 = .bool false) h1 ?_ ?_ ?_ _ _ (by simp [go_sem]) (by simp [go_sem])
    all_goals clear hc0
    · rintro i hi hj env H hp ⟨e2, e3, g2, g3⟩ es
      have hw := wrapS (i := i) (by omega)
      have p0 := sInts x.Stack[i].Args y.Stack[i].Args (by have := sum_get GCall.bulk x.Stack i hi; rw [GCall.bulk_eq] at this; omega)
      unfold sameCall at hp
      rw [← all2_eq x.Stack[i].Args y.Stack[i].Args] at hp
      revert hp p0
      generalize all2 (fun a b => decide (a = b)) x.Stack[i].Args y.Stack[i].Args = b3
      intro hp p0
      by_cases q0 : x.Stack[i].Id = y.Stack[i].Id
      rotate_left
      · simp [q0] at hp
      by_cases q1 : x.Stack[i].Caller = y.Stack[i].Caller
      rotate_left
      · simp [q0, q1] at hp
      by_cases q2 : x.Stack[i].Callee = y.Stack[i].Callee
      rotate_left
      · simp [q0, q1, q2] at hp
      cases b3
      · simp [q0, q1, q2] at hp
      simp [go_sem, es, hi, hj, hw, e2, e3, g2, g3, q0, q1, q2, p0]
    · rintro i hi hj env H hp ⟨e2, e3, g2, g3⟩ es
      have hw := wrapS (i := i) (by omega)
      have p0 := sInts x.Stack[i].Args y.Stack[i].Args (by have := sum_get GCall.bulk x.Stack i hi; rw [GCall.bulk_eq] at this; omega)
      unfold sameCall at hp
      rw [← all2_eq x.Stack[i].Args y.Stack[i].Args] at hp
      revert hp p0
      generalize all2 (fun a b => decide (a = b)) x.Stack[i].Args y.Stack[i].Args = b3
      intro hp p0
      by_cases q0 : x.Stack[i].Id = y.Stack[i].Id
      rotate_left
      · simp [go_sem, es, hi, hj, hw, e2, e3, g2, g3, q0, p0]
      by_cases q1 : x.Stack[i].Caller = y.Stack[i].Caller
      rotate_left
      · simp [go_sem, es, hi, hj, hw, e2, e3, g2, g3, q0, q1, p0]
      by_cases q2 : x.Stack[i].Callee = y.Stack[i].Callee
      rotate_left
      · simp [go_sem, es, hi, hj, hw, e2, e3, g2, g3, q0, q1, q2, p0]
      cases b3
      · simp [go_sem, es, hi, hj, hw, e2, e3, g2, g3, q0, q1, q2, p0]
      simp [q0, q1, q2] at hp
    · rintro env H ⟨e2, e3, g2, g3⟩ es
      simp [go_sem, es, e2, e3, g2, g3]
  obtain ⟨o, env', H', rfl, h⟩ := hL0
  rcases h with ⟨rfl, hI, hA0⟩ | ⟨rfl, hR, hA0⟩
  rotate_left
  · simp [go_sem, hR, hA0]
  obtain ⟨e2', e3', g2', g3'⟩ := hI
  simp [go_sem, e2', e3', g2', g3', hA0]
set_option maxHeartbeats 8000000 in
theorem sSameGraph (x y : GGraph) (hb : x.bulk ≤ maxRow) : dPure CC 6 [x.enc, y.enc] = some (.bool (sameGraph x y)) := by
  have hM : maxRow = 68719476736 := rfl
  rw [GGraph.bulk_eq] at hb
  try unfold bulkL at hb
  have e0 := sFaces x.Host y.Host (by unfold bulkL; omega)
  unfold sameGraph
  revert e0
  generalize all2 sameFace x.Host y.Host = b0
  intro e0
  rw [dPure_eq (C := CC) _ rfl rfl Tryz.func6 rfl]
  cases b0
  · simp [Tryz.f6, go_sem, e0]
  by_cases h1 : x.Comps.length = y.Comps.length
  rotate_left
  · have hq : ¬ ((x.Comps.length : Int) = y.Comps.length) := by omega
    simp [Tryz.f6, go_sem, e0, hq, all2_ne h1]
  by_cases h2 : x.Insts.length = y.Insts.length
  rotate_left
  · have hq : ¬ ((x.Insts.length : Int) = y.Insts.length) := by omega
    simp [Tryz.f6, go_sem, e0, h1, hq, all2_ne h2]
  simp [Tryz.f6, go_sem, e0, h1, h2]
  generalize hc0 : dCode CC 0 (Code.loop _) _ _ = r0
  have hL0 : Runs r0 fun o env' H' => (o = .exit 0 ∧ (env' 2 = .ptr 0 2 1 0 0 ∧ env' 3 = .ptr 0 3 1 0 0 ∧ H'.get 0 2 = ⟨1, 0, .arr [x.enc]⟩ ∧ H'.get 0 3 = ⟨1, 0, .arr [y.enc]⟩) ∧ all2 sameComp x.Comps y.Comps = true) ∨ (o = .ret ∧ env' 4 = .bool false ∧ all2 sameComp x.Comps y.Comps = false) := by
    rw [← hc0]
    refine all2_loop _ x.Comps y.Comps 5 0 (fun env H => env 2 = .ptr 0 2 1 0 0 ∧ env 3 = .ptr 0 3 1 0 0 ∧ H.get 0 2 = ⟨1, 0, .arr [x.enc]⟩ ∧ H.get 0 3 = ⟨1, 0, .arr [y.enc]⟩) (fun env H => env 4 = .bool false) h1 ?_ ?_ ?_ _ _ (by simp [go_sem]) (by simp [go_sem])
    all_goals clear hc0
    · rintro i hi hj env H hp ⟨e2, e3, g2, g3⟩ es
      have hw := wrapS (i := i) (by omega)
      have hE := sSameComp x.Comps[i] y.Comps[i] (by have := sum_get GComponent.bulk x.Comps i hi; omega)
      rw [hp] at hE
      simp [go_sem, es, hi, hj, hw, hE, e2, e3, g2, g3]
    · rintro i hi hj env H hp ⟨e2, e3, g2, g3⟩ es
      have hw := wrapS (i := i) (by omega)
      have hE := sSameComp x.Comps[i] y.Comps[i] (by have := sum_get GComponent.bulk x.Comps i hi; omega)
      rw [hp] at hE
      simp [go_sem, es, hi, hj, hw, hE, e2, e3, g2, g3]
    · rintro env H ⟨e2, e3, g2, g3⟩ es
      simp [go_sem, es, e2, e3, g2, g3]
  obtain ⟨o, env', H', rfl, h⟩ := hL0
  rcases h with ⟨rfl, hI, hA0⟩ | ⟨rfl, hR, hA0⟩
  rotate_left
  · simp [go_sem, hR, hA0]
  obtain ⟨e2', e3', g2', g3'⟩ := hI
  simp [go_sem, e2', e3', g2', g3']
  generalize hc1 : dCode CC 0 (Code.loop _) _ _ = r1
  have hL1 : Runs r1 fun o env' H' => (o = .exit 2 ∧ (env' 2 = .ptr 0 2 1 0 0 ∧ env' 3 = .ptr 0 3 1 0 0 ∧ H'.get 0 2 = ⟨1, 0, .arr [x.enc]⟩ ∧ H'.get 0 3 = ⟨1, 0, .arr [y.enc]⟩) ∧ all2 sameInst x.Insts y.Insts = true) ∨ (o = .ret ∧ env' 4 = .bool false ∧ all2 sameInst x.Insts y.Insts = false) := by
    rw [← hc1]
    refine all2_loop _ x.Insts y.Insts 6 2 (fun env H => env 2 = .ptr 0 2 1 0 0 ∧ env 3 = .ptr 0 3 1 0 0 ∧ H.get 0 2 = ⟨1, 0, .arr [x.enc]⟩ ∧ H.get 0 3 = ⟨1, 0, .arr [y.enc]⟩) (fun env H => env 4 = .bool false) h2 ?_ ?_ ?_ _ _ (by simp [go_sem, e2', e3', g2', g3']) (by simp [go_sem])
    all_goals clear hc1
    · rintro i hi hj env H hp ⟨e2, e3, g2, g3⟩ es
      have hw := wrapS (i := i) (by omega)
      unfold sameInst at hp
      rw [← all2_eq x.Insts[i].Args y.Insts[i].Args] at hp
      by_cases q0 : x.Insts[i].Comp = y.Insts[i].Comp
      rotate_left
      · simp [q0] at hp
      by_cases q1 : x.Insts[i].Args.length = y.Insts[i].Args.length
      rotate_left
      · simp [all2_ne q1] at hp
      simp [go_sem, es, hi, hj, hw, q0, q1, e2, e3, g2, g3]
      generalize hcc : dCode CC 0 (Code.loop _) _ _ = rr
      have hLL : ∃ v7 v8, Runs rr fun o env H => (o = .exit 4 ∧ (env 2 = .ptr 0 2 1 0 0 ∧ env 3 = .ptr 0 3 1 0 0 ∧ H.get 0 2 = ⟨1, 0, .arr [x.enc]⟩ ∧ H.get 0 3 = ⟨1, 0, .arr [y.enc]⟩ ∧ env 6 = .int .i64 i ∧ env 7 = .ptr 0 7 v7 0 0 ∧ env 8 = .ptr 0 8 v8 0 0 ∧ H.get 0 7 = ⟨v7, 0, .arr [x.Insts[i].enc]⟩ ∧ H.get 0 8 = ⟨v8, 0, .arr [y.Insts[i].enc]⟩) ∧ all2 (fun a b => decide (a = b)) x.Insts[i].Args y.Insts[i].Args = true) ∨ (o = .ret ∧ env 4 = .bool false ∧ all2 (fun a b => decide (a = b)) x.Insts[i].Args y.Insts[i].Args = false) := by
        refine ⟨(H.get 0 7).ver + 1, (H.get 0 8).ver + 1, ?_⟩
        rw [← hcc]
        generalize hv7 : (H.get 0 7).ver + 1 = v7
        generalize hv8 : (H.get 0 8).ver + 1 = v8
        have hlb : x.Insts[i].Args.length ≤ maxRow := by have := sum_get GInst.bulk x.Insts i hi; rw [GInst.bulk_eq] at this; unfold bulkL at this; omega
        refine all2_loop _ x.Insts[i].Args y.Insts[i].Args 9 4 (fun env H => env 2 = .ptr 0 2 1 0 0 ∧ env 3 = .ptr 0 3 1 0 0 ∧ H.get 0 2 = ⟨1, 0, .arr [x.enc]⟩ ∧ H.get 0 3 = ⟨1, 0, .arr [y.enc]⟩ ∧ env 6 = .int .i64 i ∧ env 7 = .ptr 0 7 v7 0 0 ∧ env 8 = .ptr 0 8 v8 0 0 ∧ H.get 0 7 = ⟨v7, 0, .arr [x.Insts[i].enc]⟩ ∧ H.get 0 8 = ⟨v8, 0, .arr [y.Insts[i].enc]⟩) (fun env H => env 4 = .bool false) q1 ?_ ?_ ?_ _ _ (by simp [go_sem, hv7, hv8, es, e2, e3, g2, g3] <;> rw [GInst.enc_eq, q0]) (by simp [go_sem])
        all_goals clear hcc hv7 hv8 es e2 e3 g2 g3
        · rintro j hj1 hj2 env H hpp ⟨e2, e3, g2, g3, e6, e7, e8, g7, g8⟩ ess
          have hw2 := wrapS (i := j) (by omega)
          simp only [decide_eq_true_eq] at hpp
          simp [go_sem, ess, hj1, hj2, hw2, hpp, e2, e3, g2, g3, e6, e7, e8, g7, g8]
        · rintro j hj1 hj2 env H hpp ⟨e2, e3, g2, g3, e6, e7, e8, g7, g8⟩ ess
          have hw2 := wrapS (i := j) (by omega)
          simp only [decide_eq_false_iff_not] at hpp
          simp [go_sem, ess, hj1, hj2, hw2, hpp, e2, e3, g2, g3, e6, e7, e8, g7, g8]
        · rintro env H ⟨e2, e3, g2, g3, e6, e7, e8, g7, g8⟩ ess
          simp [go_sem, ess, e2, e3, g2, g3, e6, e7, e8, g7, g8]
      obtain ⟨v7, v8, o, env', H', rfl, h⟩ := hLL
      rcases h with ⟨rfl, ⟨e2', e3', g2', g3', e6', e7', e8', g7', g8'⟩, hA⟩ | ⟨rfl, hR, hA⟩
      · simp [go_sem, hw, e2', e3', g2', g3', e6', e7', e8', g7', g8']
      · simp [hA] at hp
    · rintro i hi hj env H hp ⟨e2, e3, g2, g3⟩ es
      have hw := wrapS (i := i) (by omega)
      unfold sameInst at hp
      rw [← all2_eq x.Insts[i].Args y.Insts[i].Args] at hp
      by_cases q0 : x.Insts[i].Comp = y.Insts[i].Comp
      rotate_left
      · simp [go_sem, es, hi, hj, hw, q0, e2, e3, g2, g3]
      by_cases q1 : x.Insts[i].Args.length = y.Insts[i].Args.length
      rotate_left
      · have hq : ¬ ((x.Insts[i].Args.length : Int) = y.Insts[i].Args.length) := by omega
        simp [go_sem, es, hi, hj, hw, q0, hq, e2, e3, g2, g3]
      simp [go_sem, es, hi, hj, hw, q0, q1, e2, e3, g2, g3]
      generalize hcc : dCode CC 0 (Code.loop _) _ _ = rr
      have hLL : ∃ v7 v8, Runs rr fun o env H => (o = .exit 4 ∧ (env 2 = .ptr 0 2 1 0 0 ∧ env 3 = .ptr 0 3 1 0 0 ∧ H.get 0 2 = ⟨1, 0, .arr [x.enc]⟩ ∧ H.get 0 3 = ⟨1, 0, .arr [y.enc]⟩ ∧ env 6 = .int .i64 i ∧ env 7 = .ptr 0 7 v7 0 0 ∧ env 8 = .ptr 0 8 v8 0 0 ∧ H.get 0 7 = ⟨v7, 0, .arr [x.Insts[i].enc]⟩ ∧ H.get 0 8 = ⟨v8, 0, .arr [y.Insts[i].enc]⟩) ∧ all2 (fun a b => decide (a = b)) x.Insts[i].Args y.Insts[i].Args = true) ∨ (o = .ret ∧ env 4 = .bool false ∧ all2 (fun a b => decide (a = b)) x.Insts[i].Args y.Insts[i].Args = false) := by
        refine ⟨(H.get 0 7).ver + 1, (H.get 0 8).ver + 1, ?_⟩
        rw [← hcc]
        generalize hv7 : (H.get 0 7).ver + 1 = v7
        generalize hv8 : (H.get 0 8).ver + 1 = v8
        have hlb : x.Insts[i].Args.length ≤ maxRow := by have := sum_get GInst.bulk x.Insts i hi; rw [GInst.bulk_eq] at this; unfold bulkL at this; omega
        refine all2_loop _ x.Insts[i].Args y.Insts[i].Args 9 4 (fun env H => env 2 = .ptr 0 2 1 0 0 ∧ env 3 = .ptr 0 3 1 0 0 ∧ H.get 0 2 = ⟨1, 0, .arr [x.enc]⟩ ∧ H.get 0 3 = ⟨1, 0, .arr [y.enc]⟩ ∧ env 6 = .int .i64 i ∧ env 7 = .ptr 0 7 v7 0 0 ∧ env 8 = .ptr 0 8 v8 0 0 ∧ H.get 0 7 = ⟨v7, 0, .arr [x.Insts[i].enc]⟩ ∧ H.get 0 8 = ⟨v8, 0, .arr [y.Insts[i].enc]⟩) (fun env H => env 4 = .bool false) q1 ?_ ?_ ?_ _ _ (by simp [go_sem, hv7, hv8, es, e2, e3, g2, g3] <;> rw [GInst.enc_eq, q0]) (by simp [go_sem])
        all_goals clear hcc hv7 hv8 es e2 e3 g2 g3
        · rintro j hj1 hj2 env H hpp ⟨e2, e3, g2, g3, e6, e7, e8, g7, g8⟩ ess
          have hw2 := wrapS (i := j) (by omega)
          simp only [decide_eq_true_eq] at hpp
          simp [go_sem, ess, hj1, hj2, hw2, hpp, e2, e3, g2, g3, e6, e7, e8, g7, g8]
        · rintro j hj1 hj2 env H hpp ⟨e2, e3, g2, g3, e6, e7, e8, g7, g8⟩ ess
          have hw2 := wrapS (i := j) (by omega)
          simp only [decide_eq_false_iff_not] at hpp
          simp [go_sem, ess, hj1, hj2, hw2, hpp, e2, e3, g2, g3, e6, e7, e8, g7, g8]
        · rintro env H ⟨e2, e3, g2, g3, e6, e7, e8, g7, g8⟩ ess
          simp [go_sem, ess, e2, e3, g2, g3, e6, e7, e8, g7, g8]
      obtain ⟨v7, v8, o, env', H', rfl, h⟩ := hLL
      rcases h with ⟨rfl, ⟨e2', e3', g2', g3', e6', e7', e8', g7', g8'⟩, hA⟩ | ⟨rfl, hR, hA⟩
      · simp [q0, hA] at hp
      · simp [go_sem, hR]
    · rintro env H ⟨e2, e3, g2, g3⟩ es
      simp [go_sem, es, e2, e3, g2, g3]
  obtain ⟨o, env', H', rfl, h⟩ := hL1
  rcases h with ⟨rfl, hI, hA1⟩ | ⟨rfl, hR, hA1⟩
  rotate_left
  · simp [go_sem, hR, hA0, hA1]
  obtain ⟨e2', e3', g2', g3'⟩ := hI
  simp [go_sem, e2', e3', g2', g3', hA0, hA1]
set_option maxHeartbeats 8000000 in
theorem sSameRun (x y : GRunning) (hb : x.bulk ≤ maxRow) : dPure CC 11 [x.enc, y.enc] = some (.bool (sameRun x y)) := by
  have hM : maxRow = 68719476736 := rfl
  rw [GRunning.bulk_eq] at hb
  try unfold bulkL at hb
  have e0 := sSameGraph x.Graph y.Graph (by omega)
  have e1 := sSameYard x.Yard y.Yard (by omega)
  unfold sameRun
  revert e0 e1
  generalize sameGraph x.Graph y.Graph = b0
  generalize sameYard x.Yard y.Yard = b3
  intro e0 e1
  rw [dPure_eq (C := CC) _ rfl rfl Tryz.func11 rfl]
  cases b0
  · simp [Tryz.f11, go_sem, e0, e1]
  by_cases h1 : x.Fused = y.Fused
  rotate_left
  · have hq : (x.Fused == y.Fused) = false := by simpa using h1
    simp [Tryz.f11, go_sem, e0, e1, h1, hq]
  by_cases h2 : x.Memory.length = y.Memory.length
  rotate_left
  · have hq : ¬ ((x.Memory.length : Int) = y.Memory.length) := by omega
    simp [Tryz.f11, go_sem, e0, e1, h1, hq, all2_ne h2]
  cases b3
  · simp [Tryz.f11, go_sem, e0, e1, h1, h2]
  by_cases h4 : x.Log.length = y.Log.length
  rotate_left
  · have hq : ¬ ((x.Log.length : Int) = y.Log.length) := by omega
    simp [Tryz.f11, go_sem, e0, e1, h1, h2, hq, all2_ne h4]
  simp [Tryz.f11, go_sem, e0, e1, h1, h2, h4]
  generalize hc0 : dCode CC 0 (Code.loop _) _ _ = r0
  have hL0 : Runs r0 fun o env' H' => (o = .exit 0 ∧ (env' 2 = .ptr 0 2 1 0 0 ∧ env' 3 = .ptr 0 3 1 0 0 ∧ H'.get 0 2 = ⟨1, 0, .arr [x.enc]⟩ ∧ H'.get 0 3 = ⟨1, 0, .arr [y.enc]⟩) ∧ all2 sameMem x.Memory y.Memory = true) ∨ (o = .ret ∧ env' 4 = .bool false ∧ all2 sameMem x.Memory y.Memory = false) := by
    rw [← hc0]
    refine all2_loop _ x.Memory y.Memory 5 0 (fun env H => env 2 = .ptr 0 2 1 0 0 ∧ env 3 = .ptr 0 3 1 0 0 ∧ H.get 0 2 = ⟨1, 0, .arr [x.enc]⟩ ∧ H.get 0 3 = ⟨1, 0, .arr [y.enc]⟩) (fun env H => env 4 = .bool false) h2 ?_ ?_ ?_ _ _ (by simp [go_sem]) (by simp [go_sem])
    all_goals clear hc0
    · rintro i hi hj env H hp ⟨e2, e3, g2, g3⟩ es
      have hw := wrapS (i := i) (by omega)
      have hE := sSameMem x.Memory[i] y.Memory[i] (by have := sum_get GMemory.bulk x.Memory i hi; omega)
      rw [hp] at hE
      simp [go_sem, es, hi, hj, hw, hE, e2, e3, g2, g3]
    · rintro i hi hj env H hp ⟨e2, e3, g2, g3⟩ es
      have hw := wrapS (i := i) (by omega)
      have hE := sSameMem x.Memory[i] y.Memory[i] (by have := sum_get GMemory.bulk x.Memory i hi; omega)
      rw [hp] at hE
      simp [go_sem, es, hi, hj, hw, hE, e2, e3, g2, g3]
    · rintro env H ⟨e2, e3, g2, g3⟩ es
      simp [go_sem, es, e2, e3, g2, g3]
  obtain ⟨o, env', H', rfl, h⟩ := hL0
  rcases h with ⟨rfl, hI, hA0⟩ | ⟨rfl, hR, hA0⟩
  rotate_left
  · simp [go_sem, hR, hA0]
  obtain ⟨e2', e3', g2', g3'⟩ := hI
  simp [go_sem, e2', e3', g2', g3']
  generalize hc1 : dCode CC 0 (Code.loop _) _ _ = r1
  have hL1 : Runs r1 fun o env' H' => (o = .exit 2 ∧ (env' 2 = .ptr 0 2 1 0 0 ∧ env' 3 = .ptr 0 3 1 0 0 ∧ H'.get 0 2 = ⟨1, 0, .arr [x.enc]⟩ ∧ H'.get 0 3 = ⟨1, 0, .arr [y.enc]⟩) ∧ all2 sameHC x.Log y.Log = true) ∨ (o = .ret ∧ env' 4 = .bool false ∧ all2 sameHC x.Log y.Log = false) := by
    rw [← hc1]
    refine all2_loop _ x.Log y.Log 6 2 (fun env H => env 2 = .ptr 0 2 1 0 0 ∧ env 3 = .ptr 0 3 1 0 0 ∧ H.get 0 2 = ⟨1, 0, .arr [x.enc]⟩ ∧ H.get 0 3 = ⟨1, 0, .arr [y.enc]⟩) (fun env H => env 4 = .bool false) h4 ?_ ?_ ?_ _ _ (by simp [go_sem, e2', e3', g2', g3']) (by simp [go_sem])
    all_goals clear hc1
    · rintro i hi hj env H hp ⟨e2, e3, g2, g3⟩ es
      have hw := wrapS (i := i) (by omega)
      have p0 := sTexts x.Log[i].Args y.Log[i].Args (by have := sum_get GHostCall.bulk x.Log i hi; rw [GHostCall.bulk_eq] at this; omega)
      unfold sameHC at hp
      rw [← all2_eq x.Log[i].Args y.Log[i].Args] at hp
      revert hp p0
      generalize all2 (fun a b => decide (a = b)) x.Log[i].Args y.Log[i].Args = b2
      intro hp p0
      by_cases q0 : x.Log[i].Inst = y.Log[i].Inst
      rotate_left
      · simp [q0] at hp
      by_cases q1 : x.Log[i].Word = y.Log[i].Word
      rotate_left
      · simp [q0, q1] at hp
      cases b2
      · simp [q0, q1] at hp
      by_cases q3 : x.Log[i].Answer = y.Log[i].Answer
      rotate_left
      · simp [q0, q1, q3] at hp
      simp [go_sem, es, hi, hj, hw, e2, e3, g2, g3, q0, q1, q3, p0]
    · rintro i hi hj env H hp ⟨e2, e3, g2, g3⟩ es
      have hw := wrapS (i := i) (by omega)
      have p0 := sTexts x.Log[i].Args y.Log[i].Args (by have := sum_get GHostCall.bulk x.Log i hi; rw [GHostCall.bulk_eq] at this; omega)
      unfold sameHC at hp
      rw [← all2_eq x.Log[i].Args y.Log[i].Args] at hp
      revert hp p0
      generalize all2 (fun a b => decide (a = b)) x.Log[i].Args y.Log[i].Args = b2
      intro hp p0
      by_cases q0 : x.Log[i].Inst = y.Log[i].Inst
      rotate_left
      · simp [go_sem, es, hi, hj, hw, e2, e3, g2, g3, q0, p0]
      by_cases q1 : x.Log[i].Word = y.Log[i].Word
      rotate_left
      · simp [go_sem, es, hi, hj, hw, e2, e3, g2, g3, q0, q1, p0]
      cases b2
      · simp [go_sem, es, hi, hj, hw, e2, e3, g2, g3, q0, q1, p0]
      by_cases q3 : x.Log[i].Answer = y.Log[i].Answer
      rotate_left
      · simp [go_sem, es, hi, hj, hw, e2, e3, g2, g3, q0, q1, q3, p0]
      simp [q0, q1, q3] at hp
    · rintro env H ⟨e2, e3, g2, g3⟩ es
      simp [go_sem, es, e2, e3, g2, g3]
  obtain ⟨o, env', H', rfl, h⟩ := hL1
  rcases h with ⟨rfl, hI, hA1⟩ | ⟨rfl, hR, hA1⟩
  rotate_left
  · simp [go_sem, hR, hA0, hA1]
  obtain ⟨e2', e3', g2', g3'⟩ := hI
  simp [go_sem, e2', e3', g2', g3', hA0, hA1]
end Go.Proofs.YtdlkndnlpgmdaaaGreat.V
