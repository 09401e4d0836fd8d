/- What the functions of slices compute in V over the data. Condition: no list longer than a row may be. -/
import Derived.Test.YtdlkndnlpgmdaaaGreatVSl0
namespace Go.Proofs.YtdlkndnlpgmdaaaGreat.V
open Go Go.V Go.Proofs
set_option linter.unusedSimpArgs false
set_option linter.unusedVariables false

set_option maxHeartbeats 4000000 in
theorem slEqualIns (xs ys : List GIns) (hx : xs.length ≤ maxRow) : dPure CC 152 [.slice false (xs.map GIns.enc), .slice false (ys.map GIns.enc)] = some (.bool (decide (xs = ys))) := by
  have hx' : xs.length ≤ 68719476736 := hx
  rw [← all2_eq, dPure_eq (C := CC) _ rfl rfl Tryz.func152 rfl]
  by_cases hn : xs.length ≠ ys.length
  · have hl2 : ¬ ((xs.length : Int) = ys.length) := by omega
    simp [Tryz.f152, go_sem, hl2, all2_ne hn]
  have hl : xs.length = ys.length := by omega
  simp [Tryz.f152, go_sem, hl]
  generalize hc : dCode CC 0 (Code.loop _) _ _ = r
  have hL : Runs r fun o env' H' => (o = .exit 0 ∧ (env' 0 = .slice false (xs.map GIns.enc) ∧ env' 1 = .slice false (ys.map GIns.enc) ∧ env' 12 = .int .i64 xs.length) ∧ all2 (fun x y => decide (x = y)) xs ys = true) ∨ (o = .ret ∧ env' 4 = .bool false ∧ all2 (fun x y => decide (x = y)) xs ys = false) := by
    rw [← hc]
    refine all2_loop _ xs ys 13 0 (fun env H => env 0 = .slice false (xs.map GIns.enc) ∧ env 1 = .slice false (ys.map GIns.enc) ∧ env 12 = .int .i64 xs.length) (fun env H => env 4 = .bool false) hl ?_ ?_ ?_ _ _ ⟨by simp [go_sem], by simp [go_sem], by simp [go_sem, hl]⟩ (by simp [go_sem])
    all_goals clear hc
    · rintro i hi hj env H hp ⟨e0, e1, e12⟩ e13
      have hw := wrapS (i := i) (by omega)
      simp only [decide_eq_true_eq] at hp
      simp [go_sem, e0, e1, e12, e13, hi, hj, hw, hp]
    · rintro i hi hj env H hp ⟨e0, e1, e12⟩ e13
      have hw := wrapS (i := i) (by omega)
      simp only [decide_eq_false_iff_not] at hp
      simp [go_sem, e0, e1, e12, e13, hi, hj, hw, hp]
    · rintro env H ⟨e0, e1, e12⟩ e13
      simp [go_sem, e0, e1, e12, e13]
  obtain ⟨o, env', H', rfl, h⟩ := hL
  rcases h with ⟨rfl, h1, h2⟩ | ⟨rfl, h1, h2⟩
  · simp [go_sem, h2]
  · simp [go_sem, h1, h2]
set_option maxHeartbeats 4000000 in
theorem slEqualLift (xs ys : List GLift) (hx : xs.length ≤ maxRow) : dPure CC 63 [.slice false (xs.map GLift.enc), .slice false (ys.map GLift.enc)] = some (.bool (decide (xs = ys))) := by
  have hx' : xs.length ≤ 68719476736 := hx
  rw [← all2_eq, dPure_eq (C := CC) _ rfl rfl Tryz.func63 rfl]
  by_cases hn : xs.length ≠ ys.length
  · have hl2 : ¬ ((xs.length : Int) = ys.length) := by omega
    simp [Tryz.f63, go_sem, hl2, all2_ne hn]
  have hl : xs.length = ys.length := by omega
  simp [Tryz.f63, go_sem, hl]
  generalize hc : dCode CC 0 (Code.loop _) _ _ = r
  have hL : Runs r fun o env' H' => (o = .exit 0 ∧ (env' 0 = .slice false (xs.map GLift.enc) ∧ env' 1 = .slice false (ys.map GLift.enc) ∧ env' 12 = .int .i64 xs.length) ∧ all2 (fun x y => decide (x = y)) xs ys = true) ∨ (o = .ret ∧ env' 4 = .bool false ∧ all2 (fun x y => decide (x = y)) xs ys = false) := by
    rw [← hc]
    refine all2_loop _ xs ys 13 0 (fun env H => env 0 = .slice false (xs.map GLift.enc) ∧ env 1 = .slice false (ys.map GLift.enc) ∧ env 12 = .int .i64 xs.length) (fun env H => env 4 = .bool false) hl ?_ ?_ ?_ _ _ ⟨by simp [go_sem], by simp [go_sem], by simp [go_sem, hl]⟩ (by simp [go_sem])
    all_goals clear hc
    · rintro i hi hj env H hp ⟨e0, e1, e12⟩ e13
      have hw := wrapS (i := i) (by omega)
      simp only [decide_eq_true_eq] at hp
      simp [go_sem, e0, e1, e12, e13, hi, hj, hw, hp]
    · rintro i hi hj env H hp ⟨e0, e1, e12⟩ e13
      have hw := wrapS (i := i) (by omega)
      simp only [decide_eq_false_iff_not] at hp
      simp [go_sem, e0, e1, e12, e13, hi, hj, hw, hp]
    · rintro env H ⟨e0, e1, e12⟩ e13
      simp [go_sem, e0, e1, e12, e13]
  obtain ⟨o, env', H', rfl, h⟩ := hL
  rcases h with ⟨rfl, h1, h2⟩ | ⟨rfl, h1, h2⟩
  · simp [go_sem, h2]
  · simp [go_sem, h1, h2]
set_option maxHeartbeats 4000000 in
theorem slEqualLower (xs ys : List GLower) (hx : xs.length ≤ maxRow) : dPure CC 64 [.slice false (xs.map GLower.enc), .slice false (ys.map GLower.enc)] = some (.bool (decide (xs = ys))) := by
  have hx' : xs.length ≤ 68719476736 := hx
  rw [← all2_eq, dPure_eq (C := CC) _ rfl rfl Tryz.func64 rfl]
  by_cases hn : xs.length ≠ ys.length
  · have hl2 : ¬ ((xs.length : Int) = ys.length) := by omega
    simp [Tryz.f64, go_sem, hl2, all2_ne hn]
  have hl : xs.length = ys.length := by omega
  simp [Tryz.f64, go_sem, hl]
  generalize hc : dCode CC 0 (Code.loop _) _ _ = r
  have hL : Runs r fun o env' H' => (o = .exit 0 ∧ (env' 0 = .slice false (xs.map GLower.enc) ∧ env' 1 = .slice false (ys.map GLower.enc) ∧ env' 12 = .int .i64 xs.length) ∧ all2 (fun x y => decide (x = y)) xs ys = true) ∨ (o = .ret ∧ env' 4 = .bool false ∧ all2 (fun x y => decide (x = y)) xs ys = false) := by
    rw [← hc]
    refine all2_loop _ xs ys 13 0 (fun env H => env 0 = .slice false (xs.map GLower.enc) ∧ env 1 = .slice false (ys.map GLower.enc) ∧ env 12 = .int .i64 xs.length) (fun env H => env 4 = .bool false) hl ?_ ?_ ?_ _ _ ⟨by simp [go_sem], by simp [go_sem], by simp [go_sem, hl]⟩ (by simp [go_sem])
    all_goals clear hc
    · rintro i hi hj env H hp ⟨e0, e1, e12⟩ e13
      have hw := wrapS (i := i) (by omega)
      simp only [decide_eq_true_eq] at hp
      simp [go_sem, e0, e1, e12, e13, hi, hj, hw, hp]
    · rintro i hi hj env H hp ⟨e0, e1, e12⟩ e13
      have hw := wrapS (i := i) (by omega)
      simp only [decide_eq_false_iff_not] at hp
      simp [go_sem, e0, e1, e12, e13, hi, hj, hw, hp]
    · rintro env H ⟨e0, e1, e12⟩ e13
      simp [go_sem, e0, e1, e12, e13]
  obtain ⟨o, env', H', rfl, h⟩ := hL
  rcases h with ⟨rfl, h1, h2⟩ | ⟨rfl, h1, h2⟩
  · simp [go_sem, h2]
  · simp [go_sem, h1, h2]
set_option maxHeartbeats 4000000 in
theorem slEqualThing (xs ys : List GThing) (hx : xs.length ≤ maxRow) : dPure CC 128 [.slice false (xs.map GThing.enc), .slice false (ys.map GThing.enc)] = some (.bool (decide (xs = ys))) := by
  have hx' : xs.length ≤ 68719476736 := hx
  rw [← all2_eq, dPure_eq (C := CC) _ rfl rfl Tryz.func128 rfl]
  by_cases hn : xs.length ≠ ys.length
  · have hl2 : ¬ ((xs.length : Int) = ys.length) := by omega
    simp [Tryz.f128, go_sem, hl2, all2_ne hn]
  have hl : xs.length = ys.length := by omega
  simp [Tryz.f128, go_sem, hl]
  generalize hc : dCode CC 0 (Code.loop _) _ _ = r
  have hL : Runs r fun o env' H' => (o = .exit 0 ∧ (env' 0 = .slice false (xs.map GThing.enc) ∧ env' 1 = .slice false (ys.map GThing.enc) ∧ env' 12 = .int .i64 xs.length) ∧ all2 (fun x y => decide (x = y)) xs ys = true) ∨ (o = .ret ∧ env' 4 = .bool false ∧ all2 (fun x y => decide (x = y)) xs ys = false) := by
    rw [← hc]
    refine all2_loop _ xs ys 13 0 (fun env H => env 0 = .slice false (xs.map GThing.enc) ∧ env 1 = .slice false (ys.map GThing.enc) ∧ env 12 = .int .i64 xs.length) (fun env H => env 4 = .bool false) hl ?_ ?_ ?_ _ _ ⟨by simp [go_sem], by simp [go_sem], by simp [go_sem, hl]⟩ (by simp [go_sem])
    all_goals clear hc
    · rintro i hi hj env H hp ⟨e0, e1, e12⟩ e13
      have hw := wrapS (i := i) (by omega)
      simp only [decide_eq_true_eq] at hp
      simp [go_sem, e0, e1, e12, e13, hi, hj, hw, hp]
    · rintro i hi hj env H hp ⟨e0, e1, e12⟩ e13
      have hw := wrapS (i := i) (by omega)
      simp only [decide_eq_false_iff_not] at hp
      simp [go_sem, e0, e1, e12, e13, hi, hj, hw, hp]
    · rintro env H ⟨e0, e1, e12⟩ e13
      simp [go_sem, e0, e1, e12, e13]
  obtain ⟨o, env', H', rfl, h⟩ := hL
  rcases h with ⟨rfl, h1, h2⟩ | ⟨rfl, h1, h2⟩
  · simp [go_sem, h2]
  · simp [go_sem, h1, h2]
set_option maxHeartbeats 4000000 in
theorem slEqualInt64 (xs ys : List Int) (hx : xs.length ≤ maxRow) : dPure CC 83 [.slice false (xs.map (PV.int .i64)), .slice false (ys.map (PV.int .i64))] = some (.bool (decide (xs = ys))) := by
  have hx' : xs.length ≤ 68719476736 := hx
  rw [← all2_eq, dPure_eq (C := CC) _ rfl rfl Tryz.func83 rfl]
  by_cases hn : xs.length ≠ ys.length
  · have hl2 : ¬ ((xs.length : Int) = ys.length) := by omega
    simp [Tryz.f83, go_sem, hl2, all2_ne hn]
  have hl : xs.length = ys.length := by omega
  simp [Tryz.f83, go_sem, hl]
  generalize hc : dCode CC 0 (Code.loop _) _ _ = r
  have hL : Runs r fun o env' H' => (o = .exit 0 ∧ (env' 0 = .slice false (xs.map (PV.int .i64)) ∧ env' 1 = .slice false (ys.map (PV.int .i64)) ∧ env' 12 = .int .i64 xs.length) ∧ all2 (fun x y => decide (x = y)) xs ys = true) ∨ (o = .ret ∧ env' 4 = .bool false ∧ all2 (fun x y => decide (x = y)) xs ys = false) := by
    rw [← hc]
    refine all2_loop _ xs ys 13 0 (fun env H => env 0 = .slice false (xs.map (PV.int .i64)) ∧ env 1 = .slice false (ys.map (PV.int .i64)) ∧ env 12 = .int .i64 xs.length) (fun env H => env 4 = .bool false) hl ?_ ?_ ?_ _ _ ⟨by simp [go_sem], by simp [go_sem], by simp [go_sem, hl]⟩ (by simp [go_sem])
    all_goals clear hc
    · rintro i hi hj env H hp ⟨e0, e1, e12⟩ e13
      have hw := wrapS (i := i) (by omega)
      simp only [decide_eq_true_eq] at hp
      simp [go_sem, e0, e1, e12, e13, hi, hj, hw, hp]
    · rintro i hi hj env H hp ⟨e0, e1, e12⟩ e13
      have hw := wrapS (i := i) (by omega)
      simp only [decide_eq_false_iff_not] at hp
      simp [go_sem, e0, e1, e12, e13, hi, hj, hw, hp]
    · rintro env H ⟨e0, e1, e12⟩ e13
      simp [go_sem, e0, e1, e12, e13]
  obtain ⟨o, env', H', rfl, h⟩ := hL
  rcases h with ⟨rfl, h1, h2⟩ | ⟨rfl, h1, h2⟩
  · simp [go_sem, h2]
  · simp [go_sem, h1, h2]
set_option maxHeartbeats 4000000 in
theorem slEqualString (xs ys : List (List UInt8)) (hx : xs.length ≤ maxRow) : dPure CC 58 [.slice false (xs.map PV.str), .slice false (ys.map PV.str)] = some (.bool (decide (xs = ys))) := by
  have hx' : xs.length ≤ 68719476736 := hx
  rw [← all2_eq, dPure_eq (C := CC) _ rfl rfl Tryz.func58 rfl]
  by_cases hn : xs.length ≠ ys.length
  · have hl2 : ¬ ((xs.length : Int) = ys.length) := by omega
    simp [Tryz.f58, go_sem, hl2, all2_ne hn]
  have hl : xs.length = ys.length := by omega
  simp [Tryz.f58, go_sem, hl]
  generalize hc : dCode CC 0 (Code.loop _) _ _ = r
  have hL : Runs r fun o env' H' => (o = .exit 0 ∧ (env' 0 = .slice false (xs.map PV.str) ∧ env' 1 = .slice false (ys.map PV.str) ∧ env' 12 = .int .i64 xs.length) ∧ all2 (fun x y => decide (x = y)) xs ys = true) ∨ (o = .ret ∧ env' 4 = .bool false ∧ all2 (fun x y => decide (x = y)) xs ys = false) := by
    rw [← hc]
    refine all2_loop _ xs ys 13 0 (fun env H => env 0 = .slice false (xs.map PV.str) ∧ env 1 = .slice false (ys.map PV.str) ∧ env 12 = .int .i64 xs.length) (fun env H => env 4 = .bool false) hl ?_ ?_ ?_ _ _ ⟨by simp [go_sem], by simp [go_sem], by simp [go_sem, hl]⟩ (by simp [go_sem])
    all_goals clear hc
    · rintro i hi hj env H hp ⟨e0, e1, e12⟩ e13
      have hw := wrapS (i := i) (by omega)
      simp only [decide_eq_true_eq] at hp
      simp [go_sem, e0, e1, e12, e13, hi, hj, hw, hp]
    · rintro i hi hj env H hp ⟨e0, e1, e12⟩ e13
      have hw := wrapS (i := i) (by omega)
      simp only [decide_eq_false_iff_not] at hp
      simp [go_sem, e0, e1, e12, e13, hi, hj, hw, hp]
    · rintro env H ⟨e0, e1, e12⟩ e13
      simp [go_sem, e0, e1, e12, e13]
  obtain ⟨o, env', H', rfl, h⟩ := hL
  rcases h with ⟨rfl, h1, h2⟩ | ⟨rfl, h1, h2⟩
  · simp [go_sem, h2]
  · simp [go_sem, h1, h2]
end Go.Proofs.YtdlkndnlpgmdaaaGreat.V
