/- What the functions of slices compute in V over the data. Condition: no list longer than a row may be. -/
import Derived.Test.YtdlkndnlpgmdaaaGreatVData
namespace Go.Proofs.YtdlkndnlpgmdaaaGreat.V
open Go Go.V Go.Proofs
set_option linter.unusedSimpArgs false
set_option linter.unusedVariables false

set_option maxHeartbeats 4000000 in
theorem slEqualFuncCall (xs ys : List GCall) (f : FuncId) (fs cs : List PV) (p : GCall → GCall → Bool) (hx : xs.length ≤ maxRow) (hf : ∀ x ∈ xs, ∀ y ∈ ys, ∀ H, dCall CC f (fs ++ ([GCall.enc x, GCall.enc y] ++ cs)) H = some (.bool (p x y), H)) :
    dPure CC 84 [.slice false (xs.map GCall.enc), .slice false (ys.map GCall.enc), .func (.func f) fs cs] = some (.bool (all2 p xs ys)) := by
  have hx' : xs.length ≤ 68719476736 := hx
  rw [dPure_eq (C := CC) _ rfl rfl Tryz.func84 rfl]
  by_cases hn : xs.length ≠ ys.length
  · have hl2 : ¬ ((xs.length : Int) = ys.length) := by omega
    simp [Tryz.f84, go_sem, hl2, all2_ne hn]
  have hl : xs.length = ys.length := by omega
  simp [Tryz.f84, go_sem, hl]
  generalize hc : dCode CC 0 (Code.loop _) _ _ = r
  have hL : Runs r fun o env' H' => (o = .exit 0 ∧ (env' 1 = .slice false (ys.map GCall.enc) ∧ env' 2 = .func (.func f) fs cs ∧ env' 15 = .slice false (xs.map GCall.enc) ∧ env' 16 = .int .i64 xs.length) ∧ all2 p xs ys = true) ∨ (o = .ret ∧ env' 6 = .bool false ∧ all2 p xs ys = false) := by
    rw [← hc]
    refine all2_loop _ xs ys 17 0 (fun env H => env 1 = .slice false (ys.map GCall.enc) ∧ env 2 = .func (.func f) fs cs ∧ env 15 = .slice false (xs.map GCall.enc) ∧ env 16 = .int .i64 xs.length) (fun env H => env 6 = .bool false) hl ?_ ?_ ?_ _ _ ⟨by simp [go_sem], by simp [go_sem], by simp [go_sem], by simp [go_sem, hl]⟩ (by simp [go_sem])
    all_goals clear hc
    · rintro i hi hj env H hp ⟨e1, e2, e15, e16⟩ e17
      have hw := wrapS (i := i) (by omega)
      have hfi := hf xs[i] (by simp) ys[i] (by simp)
      simp only [List.cons_append, List.nil_append] at hfi
      simp [go_sem, e1, e2, e15, e16, e17, hi, hj, hw, hp, hfi]
    · rintro i hi hj env H hp ⟨e1, e2, e15, e16⟩ e17
      have hw := wrapS (i := i) (by omega)
      have hfi := hf xs[i] (by simp) ys[i] (by simp)
      simp only [List.cons_append, List.nil_append] at hfi
      simp [go_sem, e1, e2, e15, e16, e17, hi, hj, hw, hp, hfi]
    · rintro env H ⟨e1, e2, e15, e16⟩ e17
      simp [go_sem, e1, e2, e15, e16, e17]
  obtain ⟨o, env', H', rfl, h⟩ := hL
  rcases h with ⟨rfl, h1, h2⟩ | ⟨rfl, h1, h2⟩
  · simp [go_sem, h2]
  · simp [go_sem, h1, h2]
set_option maxHeartbeats 4000000 in
theorem slEqualFuncComponent (xs ys : List GComponent) (f : FuncId) (fs cs : List PV) (p : GComponent → GComponent → Bool) (hx : xs.length ≤ maxRow) (hf : ∀ x ∈ xs, ∀ y ∈ ys, ∀ H, dCall CC f (fs ++ ([GComponent.enc x, GComponent.enc y] ++ cs)) H = some (.bool (p x y), H)) :
    dPure CC 25 [.slice false (xs.map GComponent.enc), .slice false (ys.map GComponent.enc), .func (.func f) fs cs] = some (.bool (all2 p xs ys)) := by
  have hx' : xs.length ≤ 68719476736 := hx
  rw [dPure_eq (C := CC) _ rfl rfl Tryz.func25 rfl]
  by_cases hn : xs.length ≠ ys.length
  · have hl2 : ¬ ((xs.length : Int) = ys.length) := by omega
    simp [Tryz.f25, go_sem, hl2, all2_ne hn]
  have hl : xs.length = ys.length := by omega
  simp [Tryz.f25, go_sem, hl]
  generalize hc : dCode CC 0 (Code.loop _) _ _ = r
  have hL : Runs r fun o env' H' => (o = .exit 0 ∧ (env' 1 = .slice false (ys.map GComponent.enc) ∧ env' 2 = .func (.func f) fs cs ∧ env' 15 = .slice false (xs.map GComponent.enc) ∧ env' 16 = .int .i64 xs.length) ∧ all2 p xs ys = true) ∨ (o = .ret ∧ env' 6 = .bool false ∧ all2 p xs ys = false) := by
    rw [← hc]
    refine all2_loop _ xs ys 17 0 (fun env H => env 1 = .slice false (ys.map GComponent.enc) ∧ env 2 = .func (.func f) fs cs ∧ env 15 = .slice false (xs.map GComponent.enc) ∧ env 16 = .int .i64 xs.length) (fun env H => env 6 = .bool false) hl ?_ ?_ ?_ _ _ ⟨by simp [go_sem], by simp [go_sem], by simp [go_sem], by simp [go_sem, hl]⟩ (by simp [go_sem])
    all_goals clear hc
    · rintro i hi hj env H hp ⟨e1, e2, e15, e16⟩ e17
      have hw := wrapS (i := i) (by omega)
      have hfi := hf xs[i] (by simp) ys[i] (by simp)
      simp only [List.cons_append, List.nil_append] at hfi
      simp [go_sem, e1, e2, e15, e16, e17, hi, hj, hw, hp, hfi]
    · rintro i hi hj env H hp ⟨e1, e2, e15, e16⟩ e17
      have hw := wrapS (i := i) (by omega)
      have hfi := hf xs[i] (by simp) ys[i] (by simp)
      simp only [List.cons_append, List.nil_append] at hfi
      simp [go_sem, e1, e2, e15, e16, e17, hi, hj, hw, hp, hfi]
    · rintro env H ⟨e1, e2, e15, e16⟩ e17
      simp [go_sem, e1, e2, e15, e16, e17]
  obtain ⟨o, env', H', rfl, h⟩ := hL
  rcases h with ⟨rfl, h1, h2⟩ | ⟨rfl, h1, h2⟩
  · simp [go_sem, h2]
  · simp [go_sem, h1, h2]
set_option maxHeartbeats 4000000 in
theorem slEqualFuncCore (xs ys : List GCore) (f : FuncId) (fs cs : List PV) (p : GCore → GCore → Bool) (hx : xs.length ≤ maxRow) (hf : ∀ x ∈ xs, ∀ y ∈ ys, ∀ H, dCall CC f (fs ++ ([GCore.enc x, GCore.enc y] ++ cs)) H = some (.bool (p x y), H)) :
    dPure CC 111 [.slice false (xs.map GCore.enc), .slice false (ys.map GCore.enc), .func (.func f) fs cs] = some (.bool (all2 p xs ys)) := by
  have hx' : xs.length ≤ 68719476736 := hx
  rw [dPure_eq (C := CC) _ rfl rfl Tryz.func111 rfl]
  by_cases hn : xs.length ≠ ys.length
  · have hl2 : ¬ ((xs.length : Int) = ys.length) := by omega
    simp [Tryz.f111, go_sem, hl2, all2_ne hn]
  have hl : xs.length = ys.length := by omega
  simp [Tryz.f111, go_sem, hl]
  generalize hc : dCode CC 0 (Code.loop _) _ _ = r
  have hL : Runs r fun o env' H' => (o = .exit 0 ∧ (env' 1 = .slice false (ys.map GCore.enc) ∧ env' 2 = .func (.func f) fs cs ∧ env' 15 = .slice false (xs.map GCore.enc) ∧ env' 16 = .int .i64 xs.length) ∧ all2 p xs ys = true) ∨ (o = .ret ∧ env' 6 = .bool false ∧ all2 p xs ys = false) := by
    rw [← hc]
    refine all2_loop _ xs ys 17 0 (fun env H => env 1 = .slice false (ys.map GCore.enc) ∧ env 2 = .func (.func f) fs cs ∧ env 15 = .slice false (xs.map GCore.enc) ∧ env 16 = .int .i64 xs.length) (fun env H => env 6 = .bool false) hl ?_ ?_ ?_ _ _ ⟨by simp [go_sem], by simp [go_sem], by simp [go_sem], by simp [go_sem, hl]⟩ (by simp [go_sem])
    all_goals clear hc
    · rintro i hi hj env H hp ⟨e1, e2, e15, e16⟩ e17
      have hw := wrapS (i := i) (by omega)
      have hfi := hf xs[i] (by simp) ys[i] (by simp)
      simp only [List.cons_append, List.nil_append] at hfi
      simp [go_sem, e1, e2, e15, e16, e17, hi, hj, hw, hp, hfi]
    · rintro i hi hj env H hp ⟨e1, e2, e15, e16⟩ e17
      have hw := wrapS (i := i) (by omega)
      have hfi := hf xs[i] (by simp) ys[i] (by simp)
      simp only [List.cons_append, List.nil_append] at hfi
      simp [go_sem, e1, e2, e15, e16, e17, hi, hj, hw, hp, hfi]
    · rintro env H ⟨e1, e2, e15, e16⟩ e17
      simp [go_sem, e1, e2, e15, e16, e17]
  obtain ⟨o, env', H', rfl, h⟩ := hL
  rcases h with ⟨rfl, h1, h2⟩ | ⟨rfl, h1, h2⟩
  · simp [go_sem, h2]
  · simp [go_sem, h1, h2]
set_option maxHeartbeats 4000000 in
theorem slEqualFuncFace (xs ys : List GFace) (f : FuncId) (fs cs : List PV) (p : GFace → GFace → Bool) (hx : xs.length ≤ maxRow) (hf : ∀ x ∈ xs, ∀ y ∈ ys, ∀ H, dCall CC f (fs ++ ([GFace.enc x, GFace.enc y] ++ cs)) H = some (.bool (p x y), H)) :
    dPure CC 23 [.slice false (xs.map GFace.enc), .slice false (ys.map GFace.enc), .func (.func f) fs cs] = some (.bool (all2 p xs ys)) := by
  have hx' : xs.length ≤ 68719476736 := hx
  rw [dPure_eq (C := CC) _ rfl rfl Tryz.func23 rfl]
  by_cases hn : xs.length ≠ ys.length
  · have hl2 : ¬ ((xs.length : Int) = ys.length) := by omega
    simp [Tryz.f23, go_sem, hl2, all2_ne hn]
  have hl : xs.length = ys.length := by omega
  simp [Tryz.f23, go_sem, hl]
  generalize hc : dCode CC 0 (Code.loop _) _ _ = r
  have hL : Runs r fun o env' H' => (o = .exit 0 ∧ (env' 1 = .slice false (ys.map GFace.enc) ∧ env' 2 = .func (.func f) fs cs ∧ env' 15 = .slice false (xs.map GFace.enc) ∧ env' 16 = .int .i64 xs.length) ∧ all2 p xs ys = true) ∨ (o = .ret ∧ env' 6 = .bool false ∧ all2 p xs ys = false) := by
    rw [← hc]
    refine all2_loop _ xs ys 17 0 (fun env H => env 1 = .slice false (ys.map GFace.enc) ∧ env 2 = .func (.func f) fs cs ∧ env 15 = .slice false (xs.map GFace.enc) ∧ env 16 = .int .i64 xs.length) (fun env H => env 6 = .bool false) hl ?_ ?_ ?_ _ _ ⟨by simp [go_sem], by simp [go_sem], by simp [go_sem], by simp [go_sem, hl]⟩ (by simp [go_sem])
    all_goals clear hc
    · rintro i hi hj env H hp ⟨e1, e2, e15, e16⟩ e17
      have hw := wrapS (i := i) (by omega)
      have hfi := hf xs[i] (by simp) ys[i] (by simp)
      simp only [List.cons_append, List.nil_append] at hfi
      simp [go_sem, e1, e2, e15, e16, e17, hi, hj, hw, hp, hfi]
    · rintro i hi hj env H hp ⟨e1, e2, e15, e16⟩ e17
      have hw := wrapS (i := i) (by omega)
      have hfi := hf xs[i] (by simp) ys[i] (by simp)
      simp only [List.cons_append, List.nil_append] at hfi
      simp [go_sem, e1, e2, e15, e16, e17, hi, hj, hw, hp, hfi]
    · rintro env H ⟨e1, e2, e15, e16⟩ e17
      simp [go_sem, e1, e2, e15, e16, e17]
  obtain ⟨o, env', H', rfl, h⟩ := hL
  rcases h with ⟨rfl, h1, h2⟩ | ⟨rfl, h1, h2⟩
  · simp [go_sem, h2]
  · simp [go_sem, h1, h2]
set_option maxHeartbeats 4000000 in
theorem slEqualFuncFunc (xs ys : List GFunc) (f : FuncId) (fs cs : List PV) (p : GFunc → GFunc → Bool) (hx : xs.length ≤ maxRow) (hf : ∀ x ∈ xs, ∀ y ∈ ys, ∀ H, dCall CC f (fs ++ ([GFunc.enc x, GFunc.enc y] ++ cs)) H = some (.bool (p x y), H)) :
    dPure CC 59 [.slice false (xs.map GFunc.enc), .slice false (ys.map GFunc.enc), .func (.func f) fs cs] = some (.bool (all2 p xs ys)) := by
  have hx' : xs.length ≤ 68719476736 := hx
  rw [dPure_eq (C := CC) _ rfl rfl Tryz.func59 rfl]
  by_cases hn : xs.length ≠ ys.length
  · have hl2 : ¬ ((xs.length : Int) = ys.length) := by omega
    simp [Tryz.f59, go_sem, hl2, all2_ne hn]
  have hl : xs.length = ys.length := by omega
  simp [Tryz.f59, go_sem, hl]
  generalize hc : dCode CC 0 (Code.loop _) _ _ = r
  have hL : Runs r fun o env' H' => (o = .exit 0 ∧ (env' 1 = .slice false (ys.map GFunc.enc) ∧ env' 2 = .func (.func f) fs cs ∧ env' 15 = .slice false (xs.map GFunc.enc) ∧ env' 16 = .int .i64 xs.length) ∧ all2 p xs ys = true) ∨ (o = .ret ∧ env' 6 = .bool false ∧ all2 p xs ys = false) := by
    rw [← hc]
    refine all2_loop _ xs ys 17 0 (fun env H => env 1 = .slice false (ys.map GFunc.enc) ∧ env 2 = .func (.func f) fs cs ∧ env 15 = .slice false (xs.map GFunc.enc) ∧ env 16 = .int .i64 xs.length) (fun env H => env 6 = .bool false) hl ?_ ?_ ?_ _ _ ⟨by simp [go_sem], by simp [go_sem], by simp [go_sem], by simp [go_sem, hl]⟩ (by simp [go_sem])
    all_goals clear hc
    · rintro i hi hj env H hp ⟨e1, e2, e15, e16⟩ e17
      have hw := wrapS (i := i) (by omega)
      have hfi := hf xs[i] (by simp) ys[i] (by simp)
      simp only [List.cons_append, List.nil_append] at hfi
      simp [go_sem, e1, e2, e15, e16, e17, hi, hj, hw, hp, hfi]
    · rintro i hi hj env H hp ⟨e1, e2, e15, e16⟩ e17
      have hw := wrapS (i := i) (by omega)
      have hfi := hf xs[i] (by simp) ys[i] (by simp)
      simp only [List.cons_append, List.nil_append] at hfi
      simp [go_sem, e1, e2, e15, e16, e17, hi, hj, hw, hp, hfi]
    · rintro env H ⟨e1, e2, e15, e16⟩ e17
      simp [go_sem, e1, e2, e15, e16, e17]
  obtain ⟨o, env', H', rfl, h⟩ := hL
  rcases h with ⟨rfl, h1, h2⟩ | ⟨rfl, h1, h2⟩
  · simp [go_sem, h2]
  · simp [go_sem, h1, h2]
set_option maxHeartbeats 4000000 in
theorem slEqualFuncHostCall (xs ys : List GHostCall) (f : FuncId) (fs cs : List PV) (p : GHostCall → GHostCall → Bool) (hx : xs.length ≤ maxRow) (hf : ∀ x ∈ xs, ∀ y ∈ ys, ∀ H, dCall CC f (fs ++ ([GHostCall.enc x, GHostCall.enc y] ++ cs)) H = some (.bool (p x y), H)) :
    dPure CC 45 [.slice false (xs.map GHostCall.enc), .slice false (ys.map GHostCall.enc), .func (.func f) fs cs] = some (.bool (all2 p xs ys)) := by
  have hx' : xs.length ≤ 68719476736 := hx
  rw [dPure_eq (C := CC) _ rfl rfl Tryz.func45 rfl]
  by_cases hn : xs.length ≠ ys.length
  · have hl2 : ¬ ((xs.length : Int) = ys.length) := by omega
    simp [Tryz.f45, go_sem, hl2, all2_ne hn]
  have hl : xs.length = ys.length := by omega
  simp [Tryz.f45, go_sem, hl]
  generalize hc : dCode CC 0 (Code.loop _) _ _ = r
  have hL : Runs r fun o env' H' => (o = .exit 0 ∧ (env' 1 = .slice false (ys.map GHostCall.enc) ∧ env' 2 = .func (.func f) fs cs ∧ env' 15 = .slice false (xs.map GHostCall.enc) ∧ env' 16 = .int .i64 xs.length) ∧ all2 p xs ys = true) ∨ (o = .ret ∧ env' 6 = .bool false ∧ all2 p xs ys = false) := by
    rw [← hc]
    refine all2_loop _ xs ys 17 0 (fun env H => env 1 = .slice false (ys.map GHostCall.enc) ∧ env 2 = .func (.func f) fs cs ∧ env 15 = .slice false (xs.map GHostCall.enc) ∧ env 16 = .int .i64 xs.length) (fun env H => env 6 = .bool false) hl ?_ ?_ ?_ _ _ ⟨by simp [go_sem], by simp [go_sem], by simp [go_sem], by simp [go_sem, hl]⟩ (by simp [go_sem])
    all_goals clear hc
    · rintro i hi hj env H hp ⟨e1, e2, e15, e16⟩ e17
      have hw := wrapS (i := i) (by omega)
      have hfi := hf xs[i] (by simp) ys[i] (by simp)
      simp only [List.cons_append, List.nil_append] at hfi
      simp [go_sem, e1, e2, e15, e16, e17, hi, hj, hw, hp, hfi]
    · rintro i hi hj env H hp ⟨e1, e2, e15, e16⟩ e17
      have hw := wrapS (i := i) (by omega)
      have hfi := hf xs[i] (by simp) ys[i] (by simp)
      simp only [List.cons_append, List.nil_append] at hfi
      simp [go_sem, e1, e2, e15, e16, e17, hi, hj, hw, hp, hfi]
    · rintro env H ⟨e1, e2, e15, e16⟩ e17
      simp [go_sem, e1, e2, e15, e16, e17]
  obtain ⟨o, env', H', rfl, h⟩ := hL
  rcases h with ⟨rfl, h1, h2⟩ | ⟨rfl, h1, h2⟩
  · simp [go_sem, h2]
  · simp [go_sem, h1, h2]
set_option maxHeartbeats 4000000 in
theorem slEqualFuncInst (xs ys : List GInst) (f : FuncId) (fs cs : List PV) (p : GInst → GInst → Bool) (hx : xs.length ≤ maxRow) (hf : ∀ x ∈ xs, ∀ y ∈ ys, ∀ H, dCall CC f (fs ++ ([GInst.enc x, GInst.enc y] ++ cs)) H = some (.bool (p x y), H)) :
    dPure CC 27 [.slice false (xs.map GInst.enc), .slice false (ys.map GInst.enc), .func (.func f) fs cs] = some (.bool (all2 p xs ys)) := by
  have hx' : xs.length ≤ 68719476736 := hx
  rw [dPure_eq (C := CC) _ rfl rfl Tryz.func27 rfl]
  by_cases hn : xs.length ≠ ys.length
  · have hl2 : ¬ ((xs.length : Int) = ys.length) := by omega
    simp [Tryz.f27, go_sem, hl2, all2_ne hn]
  have hl : xs.length = ys.length := by omega
  simp [Tryz.f27, go_sem, hl]
  generalize hc : dCode CC 0 (Code.loop _) _ _ = r
  have hL : Runs r fun o env' H' => (o = .exit 0 ∧ (env' 1 = .slice false (ys.map GInst.enc) ∧ env' 2 = .func (.func f) fs cs ∧ env' 15 = .slice false (xs.map GInst.enc) ∧ env' 16 = .int .i64 xs.length) ∧ all2 p xs ys = true) ∨ (o = .ret ∧ env' 6 = .bool false ∧ all2 p xs ys = false) := by
    rw [← hc]
    refine all2_loop _ xs ys 17 0 (fun env H => env 1 = .slice false (ys.map GInst.enc) ∧ env 2 = .func (.func f) fs cs ∧ env 15 = .slice false (xs.map GInst.enc) ∧ env 16 = .int .i64 xs.length) (fun env H => env 6 = .bool false) hl ?_ ?_ ?_ _ _ ⟨by simp [go_sem], by simp [go_sem], by simp [go_sem], by simp [go_sem, hl]⟩ (by simp [go_sem])
    all_goals clear hc
    · rintro i hi hj env H hp ⟨e1, e2, e15, e16⟩ e17
      have hw := wrapS (i := i) (by omega)
      have hfi := hf xs[i] (by simp) ys[i] (by simp)
      simp only [List.cons_append, List.nil_append] at hfi
      simp [go_sem, e1, e2, e15, e16, e17, hi, hj, hw, hp, hfi]
    · rintro i hi hj env H hp ⟨e1, e2, e15, e16⟩ e17
      have hw := wrapS (i := i) (by omega)
      have hfi := hf xs[i] (by simp) ys[i] (by simp)
      simp only [List.cons_append, List.nil_append] at hfi
      simp [go_sem, e1, e2, e15, e16, e17, hi, hj, hw, hp, hfi]
    · rintro env H ⟨e1, e2, e15, e16⟩ e17
      simp [go_sem, e1, e2, e15, e16, e17]
  obtain ⟨o, env', H', rfl, h⟩ := hL
  rcases h with ⟨rfl, h1, h2⟩ | ⟨rfl, h1, h2⟩
  · simp [go_sem, h2]
  · simp [go_sem, h1, h2]
set_option maxHeartbeats 4000000 in
theorem slEqualFuncMemory (xs ys : List GMemory) (f : FuncId) (fs cs : List PV) (p : GMemory → GMemory → Bool) (hx : xs.length ≤ maxRow) (hf : ∀ x ∈ xs, ∀ y ∈ ys, ∀ H, dCall CC f (fs ++ ([GMemory.enc x, GMemory.enc y] ++ cs)) H = some (.bool (p x y), H)) :
    dPure CC 42 [.slice false (xs.map GMemory.enc), .slice false (ys.map GMemory.enc), .func (.func f) fs cs] = some (.bool (all2 p xs ys)) := by
  have hx' : xs.length ≤ 68719476736 := hx
  rw [dPure_eq (C := CC) _ rfl rfl Tryz.func42 rfl]
  by_cases hn : xs.length ≠ ys.length
  · have hl2 : ¬ ((xs.length : Int) = ys.length) := by omega
    simp [Tryz.f42, go_sem, hl2, all2_ne hn]
  have hl : xs.length = ys.length := by omega
  simp [Tryz.f42, go_sem, hl]
  generalize hc : dCode CC 0 (Code.loop _) _ _ = r
  have hL : Runs r fun o env' H' => (o = .exit 0 ∧ (env' 1 = .slice false (ys.map GMemory.enc) ∧ env' 2 = .func (.func f) fs cs ∧ env' 15 = .slice false (xs.map GMemory.enc) ∧ env' 16 = .int .i64 xs.length) ∧ all2 p xs ys = true) ∨ (o = .ret ∧ env' 6 = .bool false ∧ all2 p xs ys = false) := by
    rw [← hc]
    refine all2_loop _ xs ys 17 0 (fun env H => env 1 = .slice false (ys.map GMemory.enc) ∧ env 2 = .func (.func f) fs cs ∧ env 15 = .slice false (xs.map GMemory.enc) ∧ env 16 = .int .i64 xs.length) (fun env H => env 6 = .bool false) hl ?_ ?_ ?_ _ _ ⟨by simp [go_sem], by simp [go_sem], by simp [go_sem], by simp [go_sem, hl]⟩ (by simp [go_sem])
    all_goals clear hc
    · rintro i hi hj env H hp ⟨e1, e2, e15, e16⟩ e17
      have hw := wrapS (i := i) (by omega)
      have hfi := hf xs[i] (by simp) ys[i] (by simp)
      simp only [List.cons_append, List.nil_append] at hfi
      simp [go_sem, e1, e2, e15, e16, e17, hi, hj, hw, hp, hfi]
    · rintro i hi hj env H hp ⟨e1, e2, e15, e16⟩ e17
      have hw := wrapS (i := i) (by omega)
      have hfi := hf xs[i] (by simp) ys[i] (by simp)
      simp only [List.cons_append, List.nil_append] at hfi
      simp [go_sem, e1, e2, e15, e16, e17, hi, hj, hw, hp, hfi]
    · rintro env H ⟨e1, e2, e15, e16⟩ e17
      simp [go_sem, e1, e2, e15, e16, e17]
  obtain ⟨o, env', H', rfl, h⟩ := hL
  rcases h with ⟨rfl, h1, h2⟩ | ⟨rfl, h1, h2⟩
  · simp [go_sem, h2]
  · simp [go_sem, h1, h2]
set_option maxHeartbeats 4000000 in
theorem slEqualFuncParam (xs ys : List GParam) (f : FuncId) (fs cs : List PV) (p : GParam → GParam → Bool) (hx : xs.length ≤ maxRow) (hf : ∀ x ∈ xs, ∀ y ∈ ys, ∀ H, dCall CC f (fs ++ ([GParam.enc x, GParam.enc y] ++ cs)) H = some (.bool (p x y), H)) :
    dPure CC 108 [.slice false (xs.map GParam.enc), .slice false (ys.map GParam.enc), .func (.func f) fs cs] = some (.bool (all2 p xs ys)) := by
  have hx' : xs.length ≤ 68719476736 := hx
  rw [dPure_eq (C := CC) _ rfl rfl Tryz.func108 rfl]
  by_cases hn : xs.length ≠ ys.length
  · have hl2 : ¬ ((xs.length : Int) = ys.length) := by omega
    simp [Tryz.f108, go_sem, hl2, all2_ne hn]
  have hl : xs.length = ys.length := by omega
  simp [Tryz.f108, go_sem, hl]
  generalize hc : dCode CC 0 (Code.loop _) _ _ = r
  have hL : Runs r fun o env' H' => (o = .exit 0 ∧ (env' 1 = .slice false (ys.map GParam.enc) ∧ env' 2 = .func (.func f) fs cs ∧ env' 15 = .slice false (xs.map GParam.enc) ∧ env' 16 = .int .i64 xs.length) ∧ all2 p xs ys = true) ∨ (o = .ret ∧ env' 6 = .bool false ∧ all2 p xs ys = false) := by
    rw [← hc]
    refine all2_loop _ xs ys 17 0 (fun env H => env 1 = .slice false (ys.map GParam.enc) ∧ env 2 = .func (.func f) fs cs ∧ env 15 = .slice false (xs.map GParam.enc) ∧ env 16 = .int .i64 xs.length) (fun env H => env 6 = .bool false) hl ?_ ?_ ?_ _ _ ⟨by simp [go_sem], by simp [go_sem], by simp [go_sem], by simp [go_sem, hl]⟩ (by simp [go_sem])
    all_goals clear hc
    · rintro i hi hj env H hp ⟨e1, e2, e15, e16⟩ e17
      have hw := wrapS (i := i) (by omega)
      have hfi := hf xs[i] (by simp) ys[i] (by simp)
      simp only [List.cons_append, List.nil_append] at hfi
      simp [go_sem, e1, e2, e15, e16, e17, hi, hj, hw, hp, hfi]
    · rintro i hi hj env H hp ⟨e1, e2, e15, e16⟩ e17
      have hw := wrapS (i := i) (by omega)
      have hfi := hf xs[i] (by simp) ys[i] (by simp)
      simp only [List.cons_append, List.nil_append] at hfi
      simp [go_sem, e1, e2, e15, e16, e17, hi, hj, hw, hp, hfi]
    · rintro env H ⟨e1, e2, e15, e16⟩ e17
      simp [go_sem, e1, e2, e15, e16, e17]
  obtain ⟨o, env', H', rfl, h⟩ := hL
  rcases h with ⟨rfl, h1, h2⟩ | ⟨rfl, h1, h2⟩
  · simp [go_sem, h2]
  · simp [go_sem, h1, h2]
set_option maxHeartbeats 4000000 in
theorem slEqualFuncTable (xs ys : List GTable) (f : FuncId) (fs cs : List PV) (p : GTable → GTable → Bool) (hx : xs.length ≤ maxRow) (hf : ∀ x ∈ xs, ∀ y ∈ ys, ∀ H, dCall CC f (fs ++ ([GTable.enc x, GTable.enc y] ++ cs)) H = some (.bool (p x y), H)) :
    dPure CC 129 [.slice false (xs.map GTable.enc), .slice false (ys.map GTable.enc), .func (.func f) fs cs] = some (.bool (all2 p xs ys)) := by
  have hx' : xs.length ≤ 68719476736 := hx
  rw [dPure_eq (C := CC) _ rfl rfl Tryz.func129 rfl]
  by_cases hn : xs.length ≠ ys.length
  · have hl2 : ¬ ((xs.length : Int) = ys.length) := by omega
    simp [Tryz.f129, go_sem, hl2, all2_ne hn]
  have hl : xs.length = ys.length := by omega
  simp [Tryz.f129, go_sem, hl]
  generalize hc : dCode CC 0 (Code.loop _) _ _ = r
  have hL : Runs r fun o env' H' => (o = .exit 0 ∧ (env' 1 = .slice false (ys.map GTable.enc) ∧ env' 2 = .func (.func f) fs cs ∧ env' 15 = .slice false (xs.map GTable.enc) ∧ env' 16 = .int .i64 xs.length) ∧ all2 p xs ys = true) ∨ (o = .ret ∧ env' 6 = .bool false ∧ all2 p xs ys = false) := by
    rw [← hc]
    refine all2_loop _ xs ys 17 0 (fun env H => env 1 = .slice false (ys.map GTable.enc) ∧ env 2 = .func (.func f) fs cs ∧ env 15 = .slice false (xs.map GTable.enc) ∧ env 16 = .int .i64 xs.length) (fun env H => env 6 = .bool false) hl ?_ ?_ ?_ _ _ ⟨by simp [go_sem], by simp [go_sem], by simp [go_sem], by simp [go_sem, hl]⟩ (by simp [go_sem])
    all_goals clear hc
    · rintro i hi hj env H hp ⟨e1, e2, e15, e16⟩ e17
      have hw := wrapS (i := i) (by omega)
      have hfi := hf xs[i] (by simp) ys[i] (by simp)
      simp only [List.cons_append, List.nil_append] at hfi
      simp [go_sem, e1, e2, e15, e16, e17, hi, hj, hw, hp, hfi]
    · rintro i hi hj env H hp ⟨e1, e2, e15, e16⟩ e17
      have hw := wrapS (i := i) (by omega)
      have hfi := hf xs[i] (by simp) ys[i] (by simp)
      simp only [List.cons_append, List.nil_append] at hfi
      simp [go_sem, e1, e2, e15, e16, e17, hi, hj, hw, hp, hfi]
    · rintro env H ⟨e1, e2, e15, e16⟩ e17
      simp [go_sem, e1, e2, e15, e16, e17]
  obtain ⟨o, env', H', rfl, h⟩ := hL
  rcases h with ⟨rfl, h1, h2⟩ | ⟨rfl, h1, h2⟩
  · simp [go_sem, h2]
  · simp [go_sem, h1, h2]
set_option maxHeartbeats 4000000 in
theorem slEqualFuncType (xs ys : List GType) (f : FuncId) (fs cs : List PV) (p : GType → GType → Bool) (hx : xs.length ≤ maxRow) (hf : ∀ x ∈ xs, ∀ y ∈ ys, ∀ H, dCall CC f (fs ++ ([GType.enc x, GType.enc y] ++ cs)) H = some (.bool (p x y), H)) :
    dPure CC 174 [.slice false (xs.map GType.enc), .slice false (ys.map GType.enc), .func (.func f) fs cs] = some (.bool (all2 p xs ys)) := by
  have hx' : xs.length ≤ 68719476736 := hx
  rw [dPure_eq (C := CC) _ rfl rfl Tryz.func174 rfl]
  by_cases hn : xs.length ≠ ys.length
  · have hl2 : ¬ ((xs.length : Int) = ys.length) := by omega
    simp [Tryz.f174, go_sem, hl2, all2_ne hn]
  have hl : xs.length = ys.length := by omega
  simp [Tryz.f174, go_sem, hl]
  generalize hc : dCode CC 0 (Code.loop _) _ _ = r
  have hL : Runs r fun o env' H' => (o = .exit 0 ∧ (env' 1 = .slice false (ys.map GType.enc) ∧ env' 2 = .func (.func f) fs cs ∧ env' 15 = .slice false (xs.map GType.enc) ∧ env' 16 = .int .i64 xs.length) ∧ all2 p xs ys = true) ∨ (o = .ret ∧ env' 6 = .bool false ∧ all2 p xs ys = false) := by
    rw [← hc]
    refine all2_loop _ xs ys 17 0 (fun env H => env 1 = .slice false (ys.map GType.enc) ∧ env 2 = .func (.func f) fs cs ∧ env 15 = .slice false (xs.map GType.enc) ∧ env 16 = .int .i64 xs.length) (fun env H => env 6 = .bool false) hl ?_ ?_ ?_ _ _ ⟨by simp [go_sem], by simp [go_sem], by simp [go_sem], by simp [go_sem, hl]⟩ (by simp [go_sem])
    all_goals clear hc
    · rintro i hi hj env H hp ⟨e1, e2, e15, e16⟩ e17
      have hw := wrapS (i := i) (by omega)
      have hfi := hf xs[i] (by simp) ys[i] (by simp)
      simp only [List.cons_append, List.nil_append] at hfi
      simp [go_sem, e1, e2, e15, e16, e17, hi, hj, hw, hp, hfi]
    · rintro i hi hj env H hp ⟨e1, e2, e15, e16⟩ e17
      have hw := wrapS (i := i) (by omega)
      have hfi := hf xs[i] (by simp) ys[i] (by simp)
      simp only [List.cons_append, List.nil_append] at hfi
      simp [go_sem, e1, e2, e15, e16, e17, hi, hj, hw, hp, hfi]
    · rintro env H ⟨e1, e2, e15, e16⟩ e17
      simp [go_sem, e1, e2, e15, e16, e17]
  obtain ⟨o, env', H', rfl, h⟩ := hL
  rcases h with ⟨rfl, h1, h2⟩ | ⟨rfl, h1, h2⟩
  · simp [go_sem, h2]
  · simp [go_sem, h1, h2]
set_option maxHeartbeats 4000000 in
theorem slEqualArg (xs ys : List GArg) (hx : xs.length ≤ maxRow) : dPure CC 29 [.slice false (xs.map GArg.enc), .slice false (ys.map GArg.enc)] = some (.bool (decide (xs = ys))) := by
  have hx' : xs.length ≤ 68719476736 := hx
  rw [← all2_eq, dPure_eq (C := CC) _ rfl rfl Tryz.func29 rfl]
  by_cases hn : xs.length ≠ ys.length
  · have hl2 : ¬ ((xs.length : Int) = ys.length) := by omega
    simp [Tryz.f29, go_sem, hl2, all2_ne hn]
  have hl : xs.length = ys.length := by omega
  simp [Tryz.f29, go_sem, hl]
  generalize hc : dCode CC 0 (Code.loop _) _ _ = r
  have hL : Runs r fun o env' H' => (o = .exit 0 ∧ (env' 0 = .slice false (xs.map GArg.enc) ∧ env' 1 = .slice false (ys.map GArg.enc) ∧ env' 12 = .int .i64 xs.length) ∧ all2 (fun x y => decide (x = y)) xs ys = true) ∨ (o = .ret ∧ env' 4 = .bool false ∧ all2 (fun x y => decide (x = y)) xs ys = false) := by
    rw [← hc]
    refine all2_loop _ xs ys 13 0 (fun env H => env 0 = .slice false (xs.map GArg.enc) ∧ env 1 = .slice false (ys.map GArg.enc) ∧ env 12 = .int .i64 xs.length) (fun env H => env 4 = .bool false) hl ?_ ?_ ?_ _ _ ⟨by simp [go_sem], by simp [go_sem], by simp [go_sem, hl]⟩ (by simp [go_sem])
    all_goals clear hc
    · rintro i hi hj env H hp ⟨e0, e1, e12⟩ e13
      have hw := wrapS (i := i) (by omega)
      simp only [decide_eq_true_eq] at hp
      simp [go_sem, e0, e1, e12, e13, hi, hj, hw, hp]
    · rintro i hi hj env H hp ⟨e0, e1, e12⟩ e13
      have hw := wrapS (i := i) (by omega)
      simp only [decide_eq_false_iff_not] at hp
      simp [go_sem, e0, e1, e12, e13, hi, hj, hw, hp]
    · rintro env H ⟨e0, e1, e12⟩ e13
      simp [go_sem, e0, e1, e12, e13]
  obtain ⟨o, env', H', rfl, h⟩ := hL
  rcases h with ⟨rfl, h1, h2⟩ | ⟨rfl, h1, h2⟩
  · simp [go_sem, h2]
  · simp [go_sem, h1, h2]
set_option maxHeartbeats 4000000 in
theorem slEqualBlock (xs ys : List GBlock) (hx : xs.length ≤ maxRow) : dPure CC 81 [.slice false (xs.map GBlock.enc), .slice false (ys.map GBlock.enc)] = some (.bool (decide (xs = ys))) := by
  have hx' : xs.length ≤ 68719476736 := hx
  rw [← all2_eq, dPure_eq (C := CC) _ rfl rfl Tryz.func81 rfl]
  by_cases hn : xs.length ≠ ys.length
  · have hl2 : ¬ ((xs.length : Int) = ys.length) := by omega
    simp [Tryz.f81, go_sem, hl2, all2_ne hn]
  have hl : xs.length = ys.length := by omega
  simp [Tryz.f81, go_sem, hl]
  generalize hc : dCode CC 0 (Code.loop _) _ _ = r
  have hL : Runs r fun o env' H' => (o = .exit 0 ∧ (env' 0 = .slice false (xs.map GBlock.enc) ∧ env' 1 = .slice false (ys.map GBlock.enc) ∧ env' 12 = .int .i64 xs.length) ∧ all2 (fun x y => decide (x = y)) xs ys = true) ∨ (o = .ret ∧ env' 4 = .bool false ∧ all2 (fun x y => decide (x = y)) xs ys = false) := by
    rw [← hc]
    refine all2_loop _ xs ys 13 0 (fun env H => env 0 = .slice false (xs.map GBlock.enc) ∧ env 1 = .slice false (ys.map GBlock.enc) ∧ env 12 = .int .i64 xs.length) (fun env H => env 4 = .bool false) hl ?_ ?_ ?_ _ _ ⟨by simp [go_sem], by simp [go_sem], by simp [go_sem, hl]⟩ (by simp [go_sem])
    all_goals clear hc
    · rintro i hi hj env H hp ⟨e0, e1, e12⟩ e13
      have hw := wrapS (i := i) (by omega)
      simp only [decide_eq_true_eq] at hp
      simp [go_sem, e0, e1, e12, e13, hi, hj, hw, hp]
    · rintro i hi hj env H hp ⟨e0, e1, e12⟩ e13
      have hw := wrapS (i := i) (by omega)
      simp only [decide_eq_false_iff_not] at hp
      simp [go_sem, e0, e1, e12, e13, hi, hj, hw, hp]
    · rintro env H ⟨e0, e1, e12⟩ e13
      simp [go_sem, e0, e1, e12, e13]
  obtain ⟨o, env', H', rfl, h⟩ := hL
  rcases h with ⟨rfl, h1, h2⟩ | ⟨rfl, h1, h2⟩
  · simp [go_sem, h2]
  · simp [go_sem, h1, h2]
set_option maxHeartbeats 4000000 in
theorem slEqualBuiltin (xs ys : List GBuiltin) (hx : xs.length ≤ maxRow) : dPure CC 65 [.slice false (xs.map GBuiltin.enc), .slice false (ys.map GBuiltin.enc)] = some (.bool (decide (xs = ys))) := by
  have hx' : xs.length ≤ 68719476736 := hx
  rw [← all2_eq, dPure_eq (C := CC) _ rfl rfl Tryz.func65 rfl]
  by_cases hn : xs.length ≠ ys.length
  · have hl2 : ¬ ((xs.length : Int) = ys.length) := by omega
    simp [Tryz.f65, go_sem, hl2, all2_ne hn]
  have hl : xs.length = ys.length := by omega
  simp [Tryz.f65, go_sem, hl]
  generalize hc : dCode CC 0 (Code.loop _) _ _ = r
  have hL : Runs r fun o env' H' => (o = .exit 0 ∧ (env' 0 = .slice false (xs.map GBuiltin.enc) ∧ env' 1 = .slice false (ys.map GBuiltin.enc) ∧ env' 12 = .int .i64 xs.length) ∧ all2 (fun x y => decide (x = y)) xs ys = true) ∨ (o = .ret ∧ env' 4 = .bool false ∧ all2 (fun x y => decide (x = y)) xs ys = false) := by
    rw [← hc]
    refine all2_loop _ xs ys 13 0 (fun env H => env 0 = .slice false (xs.map GBuiltin.enc) ∧ env 1 = .slice false (ys.map GBuiltin.enc) ∧ env 12 = .int .i64 xs.length) (fun env H => env 4 = .bool false) hl ?_ ?_ ?_ _ _ ⟨by simp [go_sem], by simp [go_sem], by simp [go_sem, hl]⟩ (by simp [go_sem])
    all_goals clear hc
    · rintro i hi hj env H hp ⟨e0, e1, e12⟩ e13
      have hw := wrapS (i := i) (by omega)
      simp only [decide_eq_true_eq] at hp
      simp [go_sem, e0, e1, e12, e13, hi, hj, hw, hp]
    · rintro i hi hj env H hp ⟨e0, e1, e12⟩ e13
      have hw := wrapS (i := i) (by omega)
      simp only [decide_eq_false_iff_not] at hp
      simp [go_sem, e0, e1, e12, e13, hi, hj, hw, hp]
    · rintro env H ⟨e0, e1, e12⟩ e13
      simp [go_sem, e0, e1, e12, e13]
  obtain ⟨o, env', H', rfl, h⟩ := hL
  rcases h with ⟨rfl, h1, h2⟩ | ⟨rfl, h1, h2⟩
  · simp [go_sem, h2]
  · simp [go_sem, h1, h2]
set_option maxHeartbeats 4000000 in
theorem slEqualEntry (xs ys : List GEntry) (hx : xs.length ≤ maxRow) : dPure CC 131 [.slice false (xs.map GEntry.enc), .slice false (ys.map GEntry.enc)] = some (.bool (decide (xs = ys))) := by
  have hx' : xs.length ≤ 68719476736 := hx
  rw [← all2_eq, dPure_eq (C := CC) _ rfl rfl Tryz.func131 rfl]
  by_cases hn : xs.length ≠ ys.length
  · have hl2 : ¬ ((xs.length : Int) = ys.length) := by omega
    simp [Tryz.f131, go_sem, hl2, all2_ne hn]
  have hl : xs.length = ys.length := by omega
  simp [Tryz.f131, go_sem, hl]
  generalize hc : dCode CC 0 (Code.loop _) _ _ = r
  have hL : Runs r fun o env' H' => (o = .exit 0 ∧ (env' 0 = .slice false (xs.map GEntry.enc) ∧ env' 1 = .slice false (ys.map GEntry.enc) ∧ env' 12 = .int .i64 xs.length) ∧ all2 (fun x y => decide (x = y)) xs ys = true) ∨ (o = .ret ∧ env' 4 = .bool false ∧ all2 (fun x y => decide (x = y)) xs ys = false) := by
    rw [← hc]
    refine all2_loop _ xs ys 13 0 (fun env H => env 0 = .slice false (xs.map GEntry.enc) ∧ env 1 = .slice false (ys.map GEntry.enc) ∧ env 12 = .int .i64 xs.length) (fun env H => env 4 = .bool false) hl ?_ ?_ ?_ _ _ ⟨by simp [go_sem], by simp [go_sem], by simp [go_sem, hl]⟩ (by simp [go_sem])
    all_goals clear hc
    · rintro i hi hj env H hp ⟨e0, e1, e12⟩ e13
      have hw := wrapS (i := i) (by omega)
      simp only [decide_eq_true_eq] at hp
      simp [go_sem, e0, e1, e12, e13, hi, hj, hw, hp]
    · rintro i hi hj env H hp ⟨e0, e1, e12⟩ e13
      have hw := wrapS (i := i) (by omega)
      simp only [decide_eq_false_iff_not] at hp
      simp [go_sem, e0, e1, e12, e13, hi, hj, hw, hp]
    · rintro env H ⟨e0, e1, e12⟩ e13
      simp [go_sem, e0, e1, e12, e13]
  obtain ⟨o, env', H', rfl, h⟩ := hL
  rcases h with ⟨rfl, h1, h2⟩ | ⟨rfl, h1, h2⟩
  · simp [go_sem, h2]
  · simp [go_sem, h1, h2]
set_option maxHeartbeats 4000000 in
theorem slEqualImport (xs ys : List GImport) (hx : xs.length ≤ maxRow) : dPure CC 110 [.slice false (xs.map GImport.enc), .slice false (ys.map GImport.enc)] = some (.bool (decide (xs = ys))) := by
  have hx' : xs.length ≤ 68719476736 := hx
  rw [← all2_eq, dPure_eq (C := CC) _ rfl rfl Tryz.func110 rfl]
  by_cases hn : xs.length ≠ ys.length
  · have hl2 : ¬ ((xs.length : Int) = ys.length) := by omega
    simp [Tryz.f110, go_sem, hl2, all2_ne hn]
  have hl : xs.length = ys.length := by omega
  simp [Tryz.f110, go_sem, hl]
  generalize hc : dCode CC 0 (Code.loop _) _ _ = r
  have hL : Runs r fun o env' H' => (o = .exit 0 ∧ (env' 0 = .slice false (xs.map GImport.enc) ∧ env' 1 = .slice false (ys.map GImport.enc) ∧ env' 12 = .int .i64 xs.length) ∧ all2 (fun x y => decide (x = y)) xs ys = true) ∨ (o = .ret ∧ env' 4 = .bool false ∧ all2 (fun x y => decide (x = y)) xs ys = false) := by
    rw [← hc]
    refine all2_loop _ xs ys 13 0 (fun env H => env 0 = .slice false (xs.map GImport.enc) ∧ env 1 = .slice false (ys.map GImport.enc) ∧ env 12 = .int .i64 xs.length) (fun env H => env 4 = .bool false) hl ?_ ?_ ?_ _ _ ⟨by simp [go_sem], by simp [go_sem], by simp [go_sem, hl]⟩ (by simp [go_sem])
    all_goals clear hc
    · rintro i hi hj env H hp ⟨e0, e1, e12⟩ e13
      have hw := wrapS (i := i) (by omega)
      simp only [decide_eq_true_eq] at hp
      simp [go_sem, e0, e1, e12, e13, hi, hj, hw, hp]
    · rintro i hi hj env H hp ⟨e0, e1, e12⟩ e13
      have hw := wrapS (i := i) (by omega)
      simp only [decide_eq_false_iff_not] at hp
      simp [go_sem, e0, e1, e12, e13, hi, hj, hw, hp]
    · rintro env H ⟨e0, e1, e12⟩ e13
      simp [go_sem, e0, e1, e12, e13]
  obtain ⟨o, env', H', rfl, h⟩ := hL
  rcases h with ⟨rfl, h1, h2⟩ | ⟨rfl, h1, h2⟩
  · simp [go_sem, h2]
  · simp [go_sem, h1, h2]
end Go.Proofs.YtdlkndnlpgmdaaaGreat.V
