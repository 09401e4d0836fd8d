/- The reference's equality functions in V. Condition: the measure of the first value at most what a row may hold. -/
import Derived.Test.YtdlkndnlpgmdaaaGreatVSame
namespace Go.Proofs.YtdlkndnlpgmdaaaGreat.V
open Go Go.V Go.Proofs
set_option linter.unusedSimpArgs false
set_option linter.unusedVariables false

set_option maxHeartbeats 4000000 in
theorem sTexts (xs ys : List (List UInt8)) (hb : bulkL List.length xs ≤ maxRow) : dPure CC 38 [.slice false (xs.map PV.str), .slice false (ys.map PV.str)] = some (.bool (all2 (fun a b => decide (a = b)) xs ys)) := by
  have hM : maxRow = 68719476736 := rfl
  unfold bulkL at hb
  rw [dPure_eq (C := CC) _ rfl rfl Tryz.func38 rfl]
  by_cases hn : xs.length ≠ ys.length
  · have hl2 : ¬ ((xs.length : Int) = ys.length) := by omega
    simp [Tryz.f38, go_sem, hl2, all2_ne hn]
  have hl : xs.length = ys.length := by omega
  simp [Tryz.f38, go_sem, hl]
  generalize hc : dCode CC 0 (Code.loop _) _ _ = r
  have hL : Runs r fun o env' H' => (o = .exit 0 ∧ (env' 0 = .slice false (xs.map PV.str) ∧ env' 1 = .slice false (ys.map PV.str)) ∧ all2 (fun a b => decide (a = b)) xs ys = true) ∨ (o = .ret ∧ env' 4 = .bool false ∧ all2 (fun a b => decide (a = b)) xs ys = false) := by
    rw [← hc]
    refine all2_loop _ xs ys 5 0 (fun env H => env 0 = .slice false (xs.map PV.str) ∧ env 1 = .slice false (ys.map PV.str)) (fun env H => env 4 = .bool false) hl ?_ ?_ ?_ _ _ (by simp [go_sem]) (by simp [go_sem])
    all_goals clear hc
    · rintro i hi hj env H hp ⟨e0, e1⟩ es
      have hw := wrapS (i := i) (by omega)
      simp only [decide_eq_true_eq] at hp
      simp [go_sem, es, hi, hj, hw, hp, e0, e1]
    · rintro i hi hj env H hp ⟨e0, e1⟩ es
      have hw := wrapS (i := i) (by omega)
      simp only [decide_eq_false_iff_not] at hp
      simp [go_sem, es, hi, hj, hw, hp, e0, e1]
    · rintro env H ⟨e0, e1⟩ es
      simp [go_sem, es, e0, e1]
  obtain ⟨o, env', H', rfl, h⟩ := hL
  rcases h with ⟨rfl, h1, h2⟩ | ⟨rfl, h1, h2⟩
  · simp [go_sem, h2]
  · simp [go_sem, h1, h2]
set_option maxHeartbeats 4000000 in
theorem sInts (xs ys : List Int) (hb : bulkL (fun _ : Int => 0) xs ≤ maxRow) : dPure CC 75 [.slice false (xs.map (PV.int .i64)), .slice false (ys.map (PV.int .i64))] = some (.bool (all2 (fun a b => decide (a = b)) xs ys)) := by
  have hM : maxRow = 68719476736 := rfl
  unfold bulkL at hb
  rw [dPure_eq (C := CC) _ rfl rfl Tryz.func75 rfl]
  by_cases hn : xs.length ≠ ys.length
  · have hl2 : ¬ ((xs.length : Int) = ys.length) := by omega
    simp [Tryz.f75, go_sem, hl2, all2_ne hn]
  have hl : xs.length = ys.length := by omega
  simp [Tryz.f75, go_sem, hl]
  generalize hc : dCode CC 0 (Code.loop _) _ _ = r
  have hL : Runs r fun o env' H' => (o = .exit 0 ∧ (env' 0 = .slice false (xs.map (PV.int .i64)) ∧ env' 1 = .slice false (ys.map (PV.int .i64))) ∧ all2 (fun a b => decide (a = b)) xs ys = true) ∨ (o = .ret ∧ env' 4 = .bool false ∧ all2 (fun a b => decide (a = b)) xs ys = false) := by
    rw [← hc]
    refine all2_loop _ xs ys 5 0 (fun env H => env 0 = .slice false (xs.map (PV.int .i64)) ∧ env 1 = .slice false (ys.map (PV.int .i64))) (fun env H => env 4 = .bool false) hl ?_ ?_ ?_ _ _ (by simp [go_sem]) (by simp [go_sem])
    all_goals clear hc
    · rintro i hi hj env H hp ⟨e0, e1⟩ es
      have hw := wrapS (i := i) (by omega)
      simp only [decide_eq_true_eq] at hp
      simp [go_sem, es, hi, hj, hw, hp, e0, e1]
    · rintro i hi hj env H hp ⟨e0, e1⟩ es
      have hw := wrapS (i := i) (by omega)
      simp only [decide_eq_false_iff_not] at hp
      simp [go_sem, es, hi, hj, hw, hp, e0, e1]
    · rintro env H ⟨e0, e1⟩ es
      simp [go_sem, es, e0, e1]
  obtain ⟨o, env', H', rfl, h⟩ := hL
  rcases h with ⟨rfl, h1, h2⟩ | ⟨rfl, h1, h2⟩
  · simp [go_sem, h2]
  · simp [go_sem, h1, h2]
set_option maxHeartbeats 8000000 in
theorem sSameT (n : Nat) (hn : n ≤ 100) : ∀ (x y : GType), x.bulk ≤ maxRow → ∀ (d : Int), d = 101 - n → dPure CC 170 [x.enc, y.enc, .int .i64 d] = some (.bool (sameT n x y)) := by
  induction n with
  | zero =>
    intro x y hb d hd
    subst hd
    rw [dPure_eq (C := CC) _ rfl rfl Tryz.func170 rfl]
    simp [Tryz.f170, go_sem, sameT]
  | succ n ih =>
    intro x y hb d hd
    have hM : maxRow = 68719476736 := rfl
    rw [GType.bulk_eq] at hb
    have e0 := sTexts x.Labels y.Labels (by omega)
    unfold bulkL at hb
    have hd1 : ¬ 100 < d := by omega
    have hwd : IntKind.i64.wrap (d + 1) = d + 1 := wrap64 (by omega) (by omega)
    unfold sameT
    rw [← all2_eq x.Labels y.Labels]
    revert e0
    generalize all2 (fun a b => decide (a = b)) x.Labels y.Labels = b2
    intro e0
    rw [dPure_eq (C := CC) _ rfl rfl Tryz.func170 rfl]
    by_cases h0 : x.Kind = y.Kind
    rotate_left
    · simp [Tryz.f170, go_sem, e0, hd1, h0]
    by_cases h1 : x.Name = y.Name
    rotate_left
    · simp [Tryz.f170, go_sem, e0, hd1, h0, h1]
    cases b2
    · simp [Tryz.f170, go_sem, e0, hd1, h0, h1]
    by_cases h3 : x.Kids.length = y.Kids.length
    rotate_left
    · have hq : ¬ ((x.Kids.length : Int) = y.Kids.length) := by omega
      simp [Tryz.f170, go_sem, e0, hd1, h0, h1, hq, all2_ne h3]
    simp [Tryz.f170, go_sem, e0, hd1, h0, h1, h3]
    generalize hc : dCode CC 0 (Code.loop _) _ _ = r
    have hL : Runs r fun o env' H' => (o = .exit 0 ∧ (env' 2 = .int .i64 d ∧ env' 3 = .ptr 0 3 1 0 0 ∧ env' 4 = .ptr 0 4 1 0 0 ∧ H'.get 0 3 = ⟨1, 0, .arr [x.enc]⟩ ∧ H'.get 0 4 = ⟨1, 0, .arr [y.enc]⟩) ∧ all2 (sameT n) x.Kids y.Kids = true) ∨ (o = .ret ∧ env' 6 = .bool false ∧ all2 (sameT n) x.Kids y.Kids = false) := by
      rw [← hc]
      refine all2_loop _ x.Kids y.Kids 7 0 (fun env H => env 2 = .int .i64 d ∧ env 3 = .ptr 0 3 1 0 0 ∧ env 4 = .ptr 0 4 1 0 0 ∧ H.get 0 3 = ⟨1, 0, .arr [x.enc]⟩ ∧ H.get 0 4 = ⟨1, 0, .arr [y.enc]⟩) (fun env H => env 6 = .bool false) h3 ?_ ?_ ?_ _ _ (by simp [go_sem]) (by simp [go_sem])
      all_goals clear hc
      · rintro i hi hj env H hp ⟨e2, e3, e4, g3, g4⟩ es
        have hw := wrapS (i := i) (by omega)
        have hE := ih (by omega) x.Kids[i] y.Kids[i] (by have := sum_get GType.bulk x.Kids i hi; omega) (d + 1) (by omega)
        rw [hp] at hE
        simp [go_sem, es, hi, hj, hw, hE, hwd, e2, e3, e4, g3, g4]
      · rintro i hi hj env H hp ⟨e2, e3, e4, g3, g4⟩ es
        have hw := wrapS (i := i) (by omega)
        have hE := ih (by omega) x.Kids[i] y.Kids[i] (by have := sum_get GType.bulk x.Kids i hi; omega) (d + 1) (by omega)
        rw [hp] at hE
        simp [go_sem, es, hi, hj, hw, hE, hwd, e2, e3, e4, g3, g4]
      · rintro env H ⟨e2, e3, e4, g3, g4⟩ es
        simp [go_sem, es, e2, e3, e4, g3, g4]
    obtain ⟨o, env', H', rfl, h⟩ := hL
    rcases h with ⟨rfl, hI, hA⟩ | ⟨rfl, hR, hA⟩
    · simp [go_sem, hA]
    · simp [go_sem, hR, hA]
theorem sSameType (x y : GType) (hb : x.bulk ≤ maxRow) : dPure CC 143 [x.enc, y.enc] = some (.bool (sameType x y)) := by
  have h := sSameT 100 (by omega) x y hb 1 (by omega)
  rw [dPure_eq (C := CC) _ rfl rfl Tryz.func143 rfl]
  simp [Tryz.f143, go_sem, sameType, h]
set_option maxHeartbeats 8000000 in
theorem sSameFunc (x y : GFuncType) (hb : x.bulk ≤ maxRow) : dPure CC 98 [x.enc, y.enc] = some (.bool (sameFT x y)) := by
  have hM : maxRow = 68719476736 := rfl
  rw [GFuncType.bulk_eq] at hb
  try unfold bulkL at hb
  have e0 := sSameType x.Result y.Result (by omega)
  unfold sameFT
  revert e0
  generalize sameType x.Result y.Result = b2
  intro e0
  rw [dPure_eq (C := CC) _ rfl rfl Tryz.func98 rfl]
  by_cases h0 : x.Params.length = y.Params.length
  rotate_left
  · have hq : ¬ ((x.Params.length : Int) = y.Params.length) := by omega
    simp [Tryz.f98, go_sem, e0, hq, all2_ne h0]
  by_cases h1 : x.Async = y.Async
  rotate_left
  · have hq : (x.Async == y.Async) = false := by simpa using h1
    simp [Tryz.f98, go_sem, e0, h0, h1, hq]
  cases b2
  · simp [Tryz.f98, go_sem, e0, h0, h1]
  simp [Tryz.f98, go_sem, e0, h0, h1]
  generalize hc0 : dCode CC 0 (Code.loop _) _ _ = r0
  have hL0 : Runs r0 fun o env' H' => (o = .exit 0 ∧ (env' 2 = .ptr 0 2 1 0 0 ∧ env' 3 = .ptr 0 3 1 0 0 ∧ H'.get 0 2 = ⟨1, 0, .arr [x.enc]⟩ ∧ H'.get 0 3 = ⟨1, 0, .arr [y.enc]⟩) ∧ all2 sameParam x.Params y.Params = true) ∨ (o = .ret ∧ env' 4 = .bool false ∧ all2 sameParam x.Params y.Params = false) := by
    rw [← hc0]
    refine all2_loop _ x.Params y.Params 5 0 (fun env H => env 2 = .ptr 0 2 1 0 0 ∧ env 3 = .ptr 0 3 1 0 0 ∧ H.get 0 2 = ⟨1, 0, .arr [x.enc]⟩ ∧ H.get 0 3 = ⟨1, 0, .arr [y.enc]⟩) (fun env H => env 4 = .bool false) h0 ?_ ?_ ?_ _ _ (by simp [go_sem]) (by simp [go_sem])
    all_goals clear hc0
    · rintro i hi hj env H hp ⟨e2, e3, g2, g3⟩ es
      have hw := wrapS (i := i) (by omega)
      have p0 := sSameType x.Params[i].Ty y.Params[i].Ty (by have := sum_get GParam.bulk x.Params i hi; rw [GParam.bulk_eq] at this; omega)
      unfold sameParam at hp
      revert hp p0
      generalize sameType x.Params[i].Ty y.Params[i].Ty = b1
      intro hp p0
      by_cases q0 : x.Params[i].Name = y.Params[i].Name
      rotate_left
      · simp [q0] at hp
      cases b1
      · simp [q0] at hp
      simp [go_sem, es, hi, hj, hw, e2, e3, g2, g3, q0, p0]
    · rintro i hi hj env H hp ⟨e2, e3, g2, g3⟩ es
      have hw := wrapS (i := i) (by omega)
      have p0 := sSameType x.Params[i].Ty y.Params[i].Ty (by have := sum_get GParam.bulk x.Params i hi; rw [GParam.bulk_eq] at this; omega)
      unfold sameParam at hp
      revert hp p0
      generalize sameType x.Params[i].Ty y.Params[i].Ty = b1
      intro hp p0
      by_cases q0 : x.Params[i].Name = y.Params[i].Name
      rotate_left
      · simp [go_sem, es, hi, hj, hw, e2, e3, g2, g3, q0, p0]
      cases b1
      · simp [go_sem, es, hi, hj, hw, e2, e3, g2, g3, q0, p0]
      simp [q0] at hp
    · rintro env H ⟨e2, e3, g2, g3⟩ es
      simp [go_sem, es, e2, e3, g2, g3]
  obtain ⟨o, env', H', rfl, h⟩ := hL0
  rcases h with ⟨rfl, hI, hA0⟩ | ⟨rfl, hR, hA0⟩
  rotate_left
  · simp [go_sem, hR, hA0]
  obtain ⟨e2', e3', g2', g3'⟩ := hI
  simp [go_sem, e2', e3', g2', g3', hA0]
set_option maxHeartbeats 8000000 in
theorem sSameFace (x y : GFace) (hb : x.bulk ≤ maxRow) : dPure CC 53 [x.enc, y.enc] = some (.bool (sameFace x y)) := by
  have hM : maxRow = 68719476736 := rfl
  rw [GFace.bulk_eq] at hb
  try unfold bulkL at hb
  have e0 := sTexts x.Resources y.Resources (by unfold bulkL; omega)
  unfold sameFace
  rw [← all2_eq x.Resources y.Resources]
  revert e0
  generalize all2 (fun a b => decide (a = b)) x.Resources y.Resources = b3
  intro e0
  rw [dPure_eq (C := CC) _ rfl rfl Tryz.func53 rfl]
  by_cases h0 : x.Package = y.Package
  rotate_left
  · simp [Tryz.f53, go_sem, e0, h0]
  by_cases h1 : x.Name = y.Name
  rotate_left
  · simp [Tryz.f53, go_sem, e0, h0, h1]
  by_cases h2 : x.Version = y.Version
  rotate_left
  · simp [Tryz.f53, go_sem, e0, h0, h1, h2]
  cases b3
  · simp [Tryz.f53, go_sem, e0, h0, h1, h2]
  by_cases h4 : x.Funcs.length = y.Funcs.length
  rotate_left
  · have hq : ¬ ((x.Funcs.length : Int) = y.Funcs.length) := by omega
    simp [Tryz.f53, go_sem, e0, h0, h1, h2, hq, all2_ne h4]
  simp [Tryz.f53, go_sem, e0, h0, h1, h2, h4]
  generalize hc0 : dCode CC 0 (Code.loop _) _ _ = r0
  have hL0 : Runs r0 fun o env' H' => (o = .exit 0 ∧ (env' 2 = .ptr 0 2 1 0 0 ∧ env' 3 = .ptr 0 3 1 0 0 ∧ H'.get 0 2 = ⟨1, 0, .arr [x.enc]⟩ ∧ H'.get 0 3 = ⟨1, 0, .arr [y.enc]⟩) ∧ all2 sameFn x.Funcs y.Funcs = true) ∨ (o = .ret ∧ env' 4 = .bool false ∧ all2 sameFn x.Funcs y.Funcs = false) := by
    rw [← hc0]
    refine all2_loop _ x.Funcs y.Funcs 5 0 (fun env H => env 2 = .ptr 0 2 1 0 0 ∧ env 3 = .ptr 0 3 1 0 0 ∧ H.get 0 2 = ⟨1, 0, .arr [x.enc]⟩ ∧ H.get 0 3 = ⟨1, 0, .arr [y.enc]⟩) (fun env H => env 4 = .bool false) h4 ?_ ?_ ?_ _ _ (by simp [go_sem]) (by simp [go_sem])
    all_goals clear hc0
    · rintro i hi hj env H hp ⟨e2, e3, g2, g3⟩ es
      have hw := wrapS (i := i) (by omega)
      have p0 := sSameFunc x.Funcs[i].Ty y.Funcs[i].Ty (by have := sum_get GFunc.bulk x.Funcs i hi; rw [GFunc.bulk_eq] at this; omega)
      unfold sameFn at hp
      revert hp p0
      generalize sameFT x.Funcs[i].Ty y.Funcs[i].Ty = b1
      intro hp p0
      by_cases q0 : x.Funcs[i].Name = y.Funcs[i].Name
      rotate_left
      · simp [q0] at hp
      cases b1
      · simp [q0] at hp
      simp [go_sem, es, hi, hj, hw, e2, e3, g2, g3, q0, p0]
    · rintro i hi hj env H hp ⟨e2, e3, g2, g3⟩ es
      have hw := wrapS (i := i) (by omega)
      have p0 := sSameFunc x.Funcs[i].Ty y.Funcs[i].Ty (by have := sum_get GFunc.bulk x.Funcs i hi; rw [GFunc.bulk_eq] at this; omega)
      unfold sameFn at hp
      revert hp p0
      generalize sameFT x.Funcs[i].Ty y.Funcs[i].Ty = b1
      intro hp p0
      by_cases q0 : x.Funcs[i].Name = y.Funcs[i].Name
      rotate_left
      · simp [go_sem, es, hi, hj, hw, e2, e3, g2, g3, q0, p0]
      cases b1
      · simp [go_sem, es, hi, hj, hw, e2, e3, g2, g3, q0, p0]
      simp [q0] at hp
    · rintro env H ⟨e2, e3, g2, g3⟩ es
      simp [go_sem, es, e2, e3, g2, g3]
  obtain ⟨o, env', H', rfl, h⟩ := hL0
  rcases h with ⟨rfl, hI, hA0⟩ | ⟨rfl, hR, hA0⟩
  rotate_left
  · simp [go_sem, hR, hA0]
  obtain ⟨e2', e3', g2', g3'⟩ := hI
  simp [go_sem, e2', e3', g2', g3', hA0]
set_option maxHeartbeats 4000000 in
theorem sFaces (xs ys : List GFace) (hb : bulkL GFace.bulk xs ≤ maxRow) : dPure CC 18 [.slice false (xs.map GFace.enc), .slice false (ys.map GFace.enc)] = some (.bool (all2 sameFace xs ys)) := by
  have hM : maxRow = 68719476736 := rfl
  unfold bulkL at hb
  rw [dPure_eq (C := CC) _ rfl rfl Tryz.func18 rfl]
  by_cases hn : xs.length ≠ ys.length
  · have hl2 : ¬ ((xs.length : Int) = ys.length) := by omega
    simp [Tryz.f18, go_sem, hl2, all2_ne hn]
  have hl : xs.length = ys.length := by omega
  simp [Tryz.f18, go_sem, hl]
  generalize hc : dCode CC 0 (Code.loop _) _ _ = r
  have hL : Runs r fun o env' H' => (o = .exit 0 ∧ (env' 0 = .slice false (xs.map GFace.enc) ∧ env' 1 = .slice false (ys.map GFace.enc)) ∧ all2 sameFace xs ys = true) ∨ (o = .ret ∧ env' 4 = .bool false ∧ all2 sameFace xs ys = false) := by
    rw [← hc]
    refine all2_loop _ xs ys 5 0 (fun env H => env 0 = .slice false (xs.map GFace.enc) ∧ env 1 = .slice false (ys.map GFace.enc)) (fun env H => env 4 = .bool false) hl ?_ ?_ ?_ _ _ (by simp [go_sem]) (by simp [go_sem])
    all_goals clear hc
    · rintro i hi hj env H hp ⟨e0, e1⟩ es
      have hw := wrapS (i := i) (by omega)
      have hE := sSameFace xs[i] ys[i] (by have := sum_get GFace.bulk xs i hi; omega)
      rw [hp] at hE
      simp [go_sem, es, hi, hj, hw, hE, e0, e1]
    · rintro i hi hj env H hp ⟨e0, e1⟩ es
      have hw := wrapS (i := i) (by omega)
      have hE := sSameFace xs[i] ys[i] (by have := sum_get GFace.bulk xs i hi; omega)
      rw [hp] at hE
      simp [go_sem, es, hi, hj, hw, hE, e0, e1]
    · rintro env H ⟨e0, e1⟩ es
      simp [go_sem, es, e0, e1]
  obtain ⟨o, env', H', rfl, h⟩ := hL
  rcases h with ⟨rfl, h1, h2⟩ | ⟨rfl, h1, h2⟩
  · simp [go_sem, h2]
  · simp [go_sem, h1, h2]
set_option maxHeartbeats 8000000 in
theorem sSameCore (x y : GCore) (hb : x.bulk ≤ maxRow) : dPure CC 99 [x.enc, y.enc] = some (.bool (sameCore x y)) := by
  have hM : maxRow = 68719476736 := rfl
  rw [GCore.bulk_eq] at hb
  try unfold bulkL at hb
  unfold sameCore
  rw [← all2_eq x.Code y.Code]
  rw [dPure_eq (C := CC) _ rfl rfl Tryz.func99 rfl]
  by_cases h0 : x.Name = y.Name
  rotate_left
  · simp [Tryz.f99, go_sem, h0]
  by_cases h1 : x.Params = y.Params
  rotate_left
  · simp [Tryz.f99, go_sem, h0, h1]
  by_cases h2 : x.Locals = y.Locals
  rotate_left
  · simp [Tryz.f99, go_sem, h0, h1, h2]
  by_cases h3 : x.Result = y.Result
  rotate_left
  · have hq : (x.Result == y.Result) = false := by simpa using h3
    simp [Tryz.f99, go_sem, h0, h1, h2, h3, hq]
  by_cases h4 : x.Code.length = y.Code.length
  rotate_left
  · have hq : ¬ ((x.Code.length : Int) = y.Code.length) := by omega
    simp [Tryz.f99, go_sem, h0, h1, h2, h3, hq, all2_ne h4]
  simp [Tryz.f99, go_sem, h0, h1, h2, h3, h4]
  generalize hc0 : dCode CC 0 (Code.loop _) _ _ = r0
  have hL0 : Runs r0 fun o env' H' => (o = .exit 0 ∧ (env' 2 = .ptr 0 2 1 0 0 ∧ env' 3 = .ptr 0 3 1 0 0 ∧ H'.get 0 2 = ⟨1, 0, .arr [x.enc]⟩ ∧ H'.get 0 3 = ⟨1, 0, .arr [y.enc]⟩) ∧ all2 (fun a b => decide (a = b)) x.Code y.Code = true) ∨ (o = .ret ∧ env' 4 = .bool false ∧ all2 (fun a b => decide (a = b)) x.Code y.Code = false) := by
    rw [← hc0]
    refine all2_loop _ x.Code y.Code 5 0 (fun env H => env 2 = .ptr 0 2 1 0 0 ∧ env 3 = .ptr 0 3 1 0 0 ∧ H.get 0 2 = ⟨1, 0, .arr [x.enc]⟩ ∧ H.get 0 3 = ⟨1, 0, .arr [y.enc]⟩) (fun env H => env 4 = .bool false) h4 ?_ ?_ ?_ _ _ (by simp [go_sem]) (by simp [go_sem])
    all_goals clear hc0
    · rintro i hi hj env H hp ⟨e2, e3, g2, g3⟩ es
      have hw := wrapS (i := i) (by omega)
      simp only [decide_eq_true_eq] at hp
      simp [go_sem, es, hi, hj, hw, hp, e2, e3, g2, g3]
    · rintro i hi hj env H hp ⟨e2, e3, g2, g3⟩ es
      have hw := wrapS (i := i) (by omega)
      simp only [decide_eq_false_iff_not] at hp
      simp [go_sem, es, hi, hj, hw, hp, e2, e3, g2, g3]
    · rintro env H ⟨e2, e3, g2, g3⟩ es
      simp [go_sem, es, e2, e3, g2, g3]
  obtain ⟨o, env', H', rfl, h⟩ := hL0
  rcases h with ⟨rfl, hI, hA0⟩ | ⟨rfl, hR, hA0⟩
  rotate_left
  · simp [go_sem, hR, hA0]
  obtain ⟨e2', e3', g2', g3'⟩ := hI
  simp [go_sem, e2', e3', g2', g3', hA0]
set_option maxHeartbeats 8000000 in
theorem sSameModule (x y : GModule) (hb : x.bulk ≤ maxRow) : dPure CC 54 [x.enc, y.enc] = some (.bool (sameModule x y)) := by
  have hM : maxRow = 68719476736 := rfl
  rw [GModule.bulk_eq] at hb
  try unfold bulkL at hb
  unfold sameModule
  rw [← all2_eq x.Imports y.Imports]
  rw [dPure_eq (C := CC) _ rfl rfl Tryz.func54 rfl]
  by_cases h0 : x.Pages = y.Pages
  rotate_left
  · simp [Tryz.f54, go_sem, h0]
  by_cases h1 : x.Imports.length = y.Imports.length
  rotate_left
  · have hq : ¬ ((x.Imports.length : Int) = y.Imports.length) := by omega
    simp [Tryz.f54, go_sem, h0, hq, all2_ne h1]
  by_cases h2 : x.Cores.length = y.Cores.length
  rotate_left
  · have hq : ¬ ((x.Cores.length : Int) = y.Cores.length) := by omega
    simp [Tryz.f54, go_sem, h0, h1, hq, all2_ne h2]
  simp [Tryz.f54, go_sem, h0, h1, h2]
  generalize hc0 : dCode CC 0 (Code.loop _) _ _ = r0
  have hL0 : Runs r0 fun o env' H' => (o = .exit 0 ∧ (env' 2 = .ptr 0 2 1 0 0 ∧ env' 3 = .ptr 0 3 1 0 0 ∧ H'.get 0 2 = ⟨1, 0, .arr [x.enc]⟩ ∧ H'.get 0 3 = ⟨1, 0, .arr [y.enc]⟩) ∧ all2 (fun a b => decide (a = b)) x.Imports y.Imports = true) ∨ (o = .ret ∧ env' 4 = .bool false ∧ all2 (fun a b => decide (a = b)) x.Imports y.Imports = false) := by
    rw [← hc0]
    refine all2_loop _ x.Imports y.Imports 5 0 (fun env H => env 2 = .ptr 0 2 1 0 0 ∧ env 3 = .ptr 0 3 1 0 0 ∧ H.get 0 2 = ⟨1, 0, .arr [x.enc]⟩ ∧ H.get 0 3 = ⟨1, 0, .arr [y.enc]⟩) (fun env H => env 4 = .bool false) h1 ?_ ?_ ?_ _ _ (by simp [go_sem]) (by simp [go_sem])
    all_goals clear hc0
    · rintro i hi hj env H hp ⟨e2, e3, g2, g3⟩ es
      have hw := wrapS (i := i) (by omega)
      simp only [decide_eq_true_eq] at hp
      simp [go_sem, es, hi, hj, hw, hp, e2, e3, g2, g3]
    · rintro i hi hj env H hp ⟨e2, e3, g2, g3⟩ es
      have hw := wrapS (i := i) (by omega)
      simp only [decide_eq_false_iff_not] at hp
      simp [go_sem, es, hi, hj, hw, hp, e2, e3, g2, g3]
    · rintro env H ⟨e2, e3, g2, g3⟩ es
      simp [go_sem, es, e2, e3, g2, g3]
  obtain ⟨o, env', H', rfl, h⟩ := hL0
  rcases h with ⟨rfl, hI, hA0⟩ | ⟨rfl, hR, hA0⟩
  rotate_left
  · simp [go_sem, hR, hA0]
  obtain ⟨e2', e3', g2', g3'⟩ := hI
  simp [go_sem, e2', e3', g2', g3']
  generalize hc1 : dCode CC 0 (Code.loop _) _ _ = r1
  have hL1 : Runs r1 fun o env' H' => (o = .exit 2 ∧ (env' 2 = .ptr 0 2 1 0 0 ∧ env' 3 = .ptr 0 3 1 0 0 ∧ H'.get 0 2 = ⟨1, 0, .arr [x.enc]⟩ ∧ H'.get 0 3 = ⟨1, 0, .arr [y.enc]⟩) ∧ all2 sameCore x.Cores y.Cores = true) ∨ (o = .ret ∧ env' 4 = .bool false ∧ all2 sameCore x.Cores y.Cores = false) := by
    rw [← hc1]
    refine all2_loop _ x.Cores y.Cores 6 2 (fun env H => env 2 = .ptr 0 2 1 0 0 ∧ env 3 = .ptr 0 3 1 0 0 ∧ H.get 0 2 = ⟨1, 0, .arr [x.enc]⟩ ∧ H.get 0 3 = ⟨1, 0, .arr [y.enc]⟩) (fun env H => env 4 = .bool false) h2 ?_ ?_ ?_ _ _ (by simp [go_sem, e2', e3', g2', g3']) (by simp [go_sem])
    all_goals clear hc1
    · rintro i hi hj env H hp ⟨e2, e3, g2, g3⟩ es
      have hw := wrapS (i := i) (by omega)
      have hE := sSameCore x.Cores[i] y.Cores[i] (by have := sum_get GCore.bulk x.Cores i hi; omega)
      rw [hp] at hE
      simp [go_sem, es, hi, hj, hw, hE, e2, e3, g2, g3]
    · rintro i hi hj env H hp ⟨e2, e3, g2, g3⟩ es
      have hw := wrapS (i := i) (by omega)
      have hE := sSameCore x.Cores[i] y.Cores[i] (by have := sum_get GCore.bulk x.Cores i hi; omega)
      rw [hp] at hE
      simp [go_sem, es, hi, hj, hw, hE, e2, e3, g2, g3]
    · rintro env H ⟨e2, e3, g2, g3⟩ es
      simp [go_sem, es, e2, e3, g2, g3]
  obtain ⟨o, env', H', rfl, h⟩ := hL1
  rcases h with ⟨rfl, hI, hA1⟩ | ⟨rfl, hR, hA1⟩
  rotate_left
  · simp [go_sem, hR, hA0, hA1]
  obtain ⟨e2', e3', g2', g3'⟩ := hI
  simp [go_sem, e2', e3', g2', g3', hA0, hA1]
set_option maxHeartbeats 8000000 in
theorem sSameComp (x y : GComponent) (hb : x.bulk ≤ maxRow) : dPure CC 19 [x.enc, y.enc] = some (.bool (sameComp x y)) := by
  have hM : maxRow = 68719476736 := rfl
  rw [GComponent.bulk_eq] at hb
  try unfold bulkL at hb
  have e0 := sFaces x.Imports y.Imports (by unfold bulkL; omega)
  have e1 := sFaces x.Exports y.Exports (by unfold bulkL; omega)
  have e2 := sSameModule x.Module y.Module (by omega)
  unfold sameComp
  rw [← all2_eq x.Lifts y.Lifts, ← all2_eq x.Lowers y.Lowers, ← all2_eq x.Builtins y.Builtins]
  revert e0 e1 e2
  generalize all2 sameFace x.Imports y.Imports = b2
  generalize all2 sameFace x.Exports y.Exports = b3
  generalize sameModule x.Module y.Module = b6
  intro e0 e1 e2
  rw [dPure_eq (C := CC) _ rfl rfl Tryz.func19 rfl]
  by_cases h0 : x.Name = y.Name
  rotate_left
  · simp [Tryz.f19, go_sem, e0, e1, e2, h0]
  by_cases h1 : x.Version = y.Version
  rotate_left
  · simp [Tryz.f19, go_sem, e0, e1, e2, h0, h1]
  cases b2
  · simp [Tryz.f19, go_sem, e0, e1, e2, h0, h1]
  cases b3
  · simp [Tryz.f19, go_sem, e0, e1, e2, h0, h1]
  by_cases h4 : x.Encoding = y.Encoding
  rotate_left
  · simp [Tryz.f19, go_sem, e0, e1, e2, h0, h1, h4]
  by_cases h5 : x.Reserve = y.Reserve
  rotate_left
  · simp [Tryz.f19, go_sem, e0, e1, e2, h0, h1, h4, h5]
  cases b6
  · simp [Tryz.f19, go_sem, e0, e1, e2, h0, h1, h4, h5]
  by_cases h7 : x.Lifts.length = y.Lifts.length
  rotate_left
  · have hq : ¬ ((x.Lifts.length : Int) = y.Lifts.length) := by omega
    simp [Tryz.f19, go_sem, e0, e1, e2, h0, h1, h4, h5, hq, all2_ne h7]
  by_cases h8 : x.Lowers.length = y.Lowers.length
  rotate_left
  · have hq : ¬ ((x.Lowers.length : Int) = y.Lowers.length) := by omega
    simp [Tryz.f19, go_sem, e0, e1, e2, h0, h1, h4, h5, h7, hq, all2_ne h8]
  by_cases h9 : x.Builtins.length = y.Builtins.length
  rotate_left
  · have hq : ¬ ((x.Builtins.length : Int) = y.Builtins.length) := by omega
    simp [Tryz.f19, go_sem, e0, e1, e2, h0, h1, h4, h5, h7, h8, hq, all2_ne h9]
  simp [Tryz.f19, go_sem, e0, e1, e2, h0, h1, h4, h5, h7, h8, h9]
  generalize hc0 : dCode CC 0 (Code.loop _) _ _ = r0
  have hL0 : Runs r0 fun o env' H' => (o = .exit 0 ∧ (env' 2 = .ptr 0 2 1 0 0 ∧ env' 3 = .ptr 0 3 1 0 0 ∧ H'.get 0 2 = ⟨1, 0, .arr [x.enc]⟩ ∧ H'.get 0 3 = ⟨1, 0, .arr [y.enc]⟩) ∧ all2 (fun a b => decide (a = b)) x.Lifts y.Lifts = true) ∨ (o = .ret ∧ env' 4 = .bool false ∧ all2 (fun a b => decide (a = b)) x.Lifts y.Lifts = false) := by
    rw [← hc0]
    refine all2_loop _ x.Lifts y.Lifts 5 0 (fun env H => env 2 = .ptr 0 2 1 0 0 ∧ env 3 = .ptr 0 3 1 0 0 ∧ H.get 0 2 = ⟨1, 0, .arr [x.enc]⟩ ∧ H.get 0 3 = ⟨1, 0, .arr [y.enc]⟩) (fun env H => env 4 = .bool false) h7 ?_ ?_ ?_ _ _ (by simp [go_sem]) (by simp [go_sem])
    all_goals clear hc0
    · rintro i hi hj env H hp ⟨e2, e3, g2, g3⟩ es
      have hw := wrapS (i := i) (by omega)
      simp only [decide_eq_true_eq] at hp
      simp [go_sem, es, hi, hj, hw, hp, e2, e3, g2, g3]
    · rintro i hi hj env H hp ⟨e2, e3, g2, g3⟩ es
      have hw := wrapS (i := i) (by omega)
      simp only [decide_eq_false_iff_not] at hp
      simp [go_sem, es, hi, hj, hw, hp, e2, e3, g2, g3]
    · rintro env H ⟨e2, e3, g2, g3⟩ es
      simp [go_sem, es, e2, e3, g2, g3]
  obtain ⟨o, env', H', rfl, h⟩ := hL0
  rcases h with ⟨rfl, hI, hA0⟩ | ⟨rfl, hR, hA0⟩
  rotate_left
  · simp [go_sem, hR, hA0]
  obtain ⟨e2', e3', g2', g3'⟩ := hI
  simp [go_sem, e2', e3', g2', g3']
  generalize hc1 : dCode CC 0 (Code.loop _) _ _ = r1
  have hL1 : Runs r1 fun o env' H' => (o = .exit 2 ∧ (env' 2 = .ptr 0 2 1 0 0 ∧ env' 3 = .ptr 0 3 1 0 0 ∧ H'.get 0 2 = ⟨1, 0, .arr [x.enc]⟩ ∧ H'.get 0 3 = ⟨1, 0, .arr [y.enc]⟩) ∧ all2 (fun a b => decide (a = b)) x.Lowers y.Lowers = true) ∨ (o = .ret ∧ env' 4 = .bool false ∧ all2 (fun a b => decide (a = b)) x.Lowers y.Lowers = false) := by
    rw [← hc1]
    refine all2_loop _ x.Lowers y.Lowers 6 2 (fun env H => env 2 = .ptr 0 2 1 0 0 ∧ env 3 = .ptr 0 3 1 0 0 ∧ H.get 0 2 = ⟨1, 0, .arr [x.enc]⟩ ∧ H.get 0 3 = ⟨1, 0, .arr [y.enc]⟩) (fun env H => env 4 = .bool false) h8 ?_ ?_ ?_ _ _ (by simp [go_sem, e2', e3', g2', g3']) (by simp [go_sem])
    all_goals clear hc1
    · rintro i hi hj env H hp ⟨e2, e3, g2, g3⟩ es
      have hw := wrapS (i := i) (by omega)
      simp only [decide_eq_true_eq] at hp
      simp [go_sem, es, hi, hj, hw, hp, e2, e3, g2, g3]
    · rintro i hi hj env H hp ⟨e2, e3, g2, g3⟩ es
      have hw := wrapS (i := i) (by omega)
      simp only [decide_eq_false_iff_not] at hp
      simp [go_sem, es, hi, hj, hw, hp, e2, e3, g2, g3]
    · rintro env H ⟨e2, e3, g2, g3⟩ es
      simp [go_sem, es, e2, e3, g2, g3]
  obtain ⟨o, env', H', rfl, h⟩ := hL1
  rcases h with ⟨rfl, hI, hA1⟩ | ⟨rfl, hR, hA1⟩
  rotate_left
  · simp [go_sem, hR, hA0, hA1]
  obtain ⟨e2', e3', g2', g3'⟩ := hI
  simp [go_sem, e2', e3', g2', g3']
  generalize hc2 : dCode CC 0 (Code.loop _) _ _ = r2
  have hL2 : Runs r2 fun o env' H' => (o = .exit 4 ∧ (env' 2 = .ptr 0 2 1 0 0 ∧ env' 3 = .ptr 0 3 1 0 0 ∧ H'.get 0 2 = ⟨1, 0, .arr [x.enc]⟩ ∧ H'.get 0 3 = ⟨1, 0, .arr [y.enc]⟩) ∧ all2 (fun a b => decide (a = b)) x.Builtins y.Builtins = true) ∨ (o = .ret ∧ env' 4 = .bool false ∧ all2 (fun a b => decide (a = b)) x.Builtins y.Builtins = false) := by
    rw [← hc2]
    refine all2_loop _ x.Builtins y.Builtins 7 4 (fun env H => env 2 = .ptr 0 2 1 0 0 ∧ env 3 = .ptr 0 3 1 0 0 ∧ H.get 0 2 = ⟨1, 0, .arr [x.enc]⟩ ∧ H.get 0 3 = ⟨1, 0, .arr [y.enc]⟩) (fun env H => env 4 = .bool false) h9 ?_ ?_ ?_ _ _ (by simp [go_sem, e2', e3', g2', g3']) (by simp [go_sem])
    all_goals clear hc2
    · rintro i hi hj env H hp ⟨e2, e3, g2, g3⟩ es
      have hw := wrapS (i := i) (by omega)
      simp only [decide_eq_true_eq] at hp
      simp [go_sem, es, hi, hj, hw, hp, e2, e3, g2, g3]
    · rintro i hi hj env H hp ⟨e2, e3, g2, g3⟩ es
      have hw := wrapS (i := i) (by omega)
      simp only [decide_eq_false_iff_not] at hp
      simp [go_sem, es, hi, hj, hw, hp, e2, e3, g2, g3]
    · rintro env H ⟨e2, e3, g2, g3⟩ es
      simp [go_sem, es, e2, e3, g2, g3]
  obtain ⟨o, env', H', rfl, h⟩ := hL2
  rcases h with ⟨rfl, hI, hA2⟩ | ⟨rfl, hR, hA2⟩
  rotate_left
  · simp [go_sem, hR, hA0, hA1, hA2]
  obtain ⟨e2', e3', g2', g3'⟩ := hI
  simp [go_sem, e2', e3', g2', g3', hA0, hA1, hA2]
set_option maxHeartbeats 8000000 in
theorem sSameMem (x y : GMemory) (hb : x.bulk ≤ maxRow) : dPure CC 37 [x.enc, y.enc] = some (.bool (sameMem x y)) := by
  have hM : maxRow = 68719476736 := rfl
  rw [GMemory.bulk_eq] at hb
  try unfold bulkL at hb
  unfold sameMem
  rw [← all2_eq x.Free y.Free]
  rw [dPure_eq (C := CC) _ rfl rfl Tryz.func37 rfl]
  by_cases h0 : x.Bytes = y.Bytes
  rotate_left
  · simp [Tryz.f37, go_sem, h0]
  by_cases h1 : x.Free.length = y.Free.length
  rotate_left
  · have hq : ¬ ((x.Free.length : Int) = y.Free.length) := by omega
    simp [Tryz.f37, go_sem, h0, hq, all2_ne h1]
  simp [Tryz.f37, go_sem, h0, h1]
  generalize hc0 : dCode CC 0 (Code.loop _) _ _ = r0
  have hL0 : Runs r0 fun o env' H' => (o = .exit 0 ∧ (env' 2 = .ptr 0 2 1 0 0 ∧ env' 3 = .ptr 0 3 1 0 0 ∧ H'.get 0 2 = ⟨1, 0, .arr [x.enc]⟩ ∧ H'.get 0 3 = ⟨1, 0, .arr [y.enc]⟩) ∧ all2 (fun a b => decide (a = b)) x.Free y.Free = true) ∨ (o = .ret ∧ env' 4 = .bool false ∧ all2 (fun a b => decide (a = b)) x.Free y.Free = false) := by
    rw [← hc0]
    refine all2_loop _ x.Free y.Free 5 0 (fun env H => env 2 = .ptr 0 2 1 0 0 ∧ env 3 = .ptr 0 3 1 0 0 ∧ H.get 0 2 = ⟨1, 0, .arr [x.enc]⟩ ∧ H.get 0 3 = ⟨1, 0, .arr [y.enc]⟩) (fun env H => env 4 = .bool false) h1 ?_ ?_ ?_ _ _ (by simp [go_sem]) (by simp [go_sem])
    all_goals clear hc0
    · rintro i hi hj env H hp ⟨e2, e3, g2, g3⟩ es
      have hw := wrapS (i := i) (by omega)
      simp only [decide_eq_true_eq] at hp
      simp [go_sem, es, hi, hj, hw, hp, e2, e3, g2, g3]
    · rintro i hi hj env H hp ⟨e2, e3, g2, g3⟩ es
      have hw := wrapS (i := i) (by omega)
      simp only [decide_eq_false_iff_not] at hp
      simp [go_sem, es, hi, hj, hw, hp, e2, e3, g2, g3]
    · rintro env H ⟨e2, e3, g2, g3⟩ es
      simp [go_sem, es, e2, e3, g2, g3]
  obtain ⟨o, env', H', rfl, h⟩ := hL0
  rcases h with ⟨rfl, hI, hA0⟩ | ⟨rfl, hR, hA0⟩
  rotate_left
  · simp [go_sem, hR, hA0]
  obtain ⟨e2', e3', g2', g3'⟩ := hI
  simp [go_sem, e2', e3', g2', g3', hA0]
end Go.Proofs.YtdlkndnlpgmdaaaGreat.V
