/- What the size functions of the laws compute in V. Conditions: whole numbers and lengths in the ranges of their Go types; the measure at most 2^20. -/
import Derived.Test.YtdlkndnlpgmdaaaGreatVSz1
namespace Go.Proofs.YtdlkndnlpgmdaaaGreat.V
open Go Go.V Go.Proofs
set_option linter.unusedSimpArgs false
set_option linter.unusedVariables false

set_option maxHeartbeats 4000000 in
theorem szLower_eq (x : GLower) (hx : x.Fits) (left : Int) (h0 : 0 ≤ left) (h1 : left ≤ 1048576) : dPure CC 140 [x.enc, .int .i64 left] = some (.int .i64 (szI x.bulk left)) := by
  rw [GLower.fits_eq] at hx
  rw [GLower.bulk_eq]
  rw [dPure_eq (C := CC) _ rfl rfl Tryz.func140 rfl]
  have b0 := hx.1
  have w0 : IntKind.i64.wrap (left - (x.Face.length : Int)) = left - (x.Face.length : Int) := wrap64 (by omega) (by omega)
  by_cases c0 : left - (x.Face.length : Int) < 0
  · rw [szI_neg (b := x.Face.length + x.Func.length + x.Import.length) (by omega)]
    simp [Tryz.f140, go_sem, c0, w0]
  have b1 := hx.2.1
  have w1 : IntKind.i64.wrap (left - (x.Face.length : Int) - (x.Func.length : Int)) = left - (x.Face.length : Int) - (x.Func.length : Int) := wrap64 (by omega) (by omega)
  by_cases c1 : left - (x.Face.length : Int) - (x.Func.length : Int) < 0
  · rw [szI_neg (b := x.Face.length + x.Func.length + x.Import.length) (by omega)]
    simp [Tryz.f140, go_sem, c1, w0, c0, w1]
  have b2 := hx.2.2
  have w2 : IntKind.i64.wrap (left - (x.Face.length : Int) - (x.Func.length : Int) - (x.Import.length : Int)) = left - (x.Face.length : Int) - (x.Func.length : Int) - (x.Import.length : Int) := wrap64 (by omega) (by omega)
  by_cases c2 : left - (x.Face.length : Int) - (x.Func.length : Int) - (x.Import.length : Int) < 0
  · rw [szI_neg (b := x.Face.length + x.Func.length + x.Import.length) (by omega)]
    simp [Tryz.f140, go_sem, c2, w0, c0, w1, c1, w2]
  rw [szI_pos (b := x.Face.length + x.Func.length + x.Import.length) (by omega)]
  simp [Tryz.f140, go_sem, w0, c0, w1, c1, w2, c2]
  try omega
set_option maxHeartbeats 4000000 in
theorem szLowerS_eq (xs : List GLower) (hl : xs.length ≤ 9223372036854775807) (hs : ∀ y ∈ xs, y.Fits) (left : Int) (h0 : 0 ≤ left) (h1 : left ≤ 1048576) : dPure CC 95 [.slice false (xs.map GLower.enc), .int .i64 left] = some (.int .i64 (szI (bulkL GLower.bulk xs) left)) := by
  have w0 : IntKind.i64.wrap (left - (xs.length : Int)) = left - xs.length := wrap64 (by omega) (by omega)
  rw [dPure_eq (C := CC) _ rfl rfl Tryz.func95 rfl]
  unfold bulkL
  by_cases c0 : left - (xs.length : Int) < 0
  · rw [szI_neg (by omega)]
    simp [Tryz.f95, go_sem, w0, c0]
  simp [Tryz.f95, go_sem, w0, c0]
  generalize hc : dCode CC 0 (Code.loop _) _ _ = r
  have hL : Runs r fun o env' H' => ((o = .exit 0 ∧ env' 1 = .int .i64 (szI (xs.length + (xs.map GLower.bulk).sum) left)) ∨ (o = .ret ∧ env' 4 = .int .i64 (-1) ∧ szI (xs.length + (xs.map GLower.bulk).sum) left = -1)) := by
    rw [← hc]
    refine loop_rule (fun k env H => ∃ (i : Nat) (l : Int), k + i = xs.length ∧ env 0 = .slice false (xs.map GLower.enc) ∧ env 5 = .int .i64 i ∧ env 1 = .int .i64 l ∧ 0 ≤ l ∧ l = left - xs.length - sumTo GLower.bulk xs i) _ ?_ xs.length _ _
      ⟨0, left - xs.length, by simp, by simp [go_sem], by simp [go_sem], by simp [go_sem], by omega, by simp [sumTo]⟩
    clear hc
    rintro k env H ⟨i, l, hk, e0, e5, e1, hl0, hl1⟩
    by_cases hi : i < xs.length
    · have hm := List.getElem_mem hi
      have hsu := sumTo_succ GLower.bulk xs i hi
      have hle := sumTo_le GLower.bulk xs (i + 1)
      have hw2 := wrapS (i := i) (by omega)
      have hE := szLower_eq xs[i] (hs _ hm) l hl0 (by omega)
      by_cases c1 : l - ((GLower.bulk xs[i] : Nat) : Int) < 0
      · rw [szI_neg (by omega)] at hE
        simp [go_sem, e0, e5, e1, hi, hE, hw2, c1]
        exact szI_neg (by omega)
      · rw [szI_pos (by omega)] at hE
        simp [go_sem, e0, e5, e1, hi, hE, hw2, c1]
        exact ⟨k - 1, by omega, i + 1, by omega, rfl, by omega, by omega⟩
    · have hle := sumTo_all GLower.bulk xs i (by omega)
      simp [go_sem, e0, e5, e1, hi]
      rw [szI_pos (by omega)]
      omega
  obtain ⟨o, env', H', rfl, h⟩ := hL
  rcases h with ⟨rfl, h1⟩ | ⟨rfl, h1, h2⟩
  · simp [go_sem, h1]
  · simp [go_sem, h1, h2]
set_option maxHeartbeats 4000000 in
theorem szBuiltin_eq (x : GBuiltin) (hx : x.Fits) (left : Int) (h0 : 0 ≤ left) (h1 : left ≤ 1048576) : dPure CC 141 [x.enc, .int .i64 left] = some (.int .i64 (szI x.bulk left)) := by
  rw [GBuiltin.fits_eq] at hx
  rw [GBuiltin.bulk_eq]
  rw [dPure_eq (C := CC) _ rfl rfl Tryz.func141 rfl]
  have b0 := hx.2.1
  have w0 : IntKind.i64.wrap (left - (x.Face.length : Int)) = left - (x.Face.length : Int) := wrap64 (by omega) (by omega)
  by_cases c0 : left - (x.Face.length : Int) < 0
  · rw [szI_neg (b := x.Face.length + x.Resource.length + x.Import.length) (by omega)]
    simp [Tryz.f141, go_sem, c0, w0]
  have b1 := hx.2.2.1
  have w1 : IntKind.i64.wrap (left - (x.Face.length : Int) - (x.Resource.length : Int)) = left - (x.Face.length : Int) - (x.Resource.length : Int) := wrap64 (by omega) (by omega)
  by_cases c1 : left - (x.Face.length : Int) - (x.Resource.length : Int) < 0
  · rw [szI_neg (b := x.Face.length + x.Resource.length + x.Import.length) (by omega)]
    simp [Tryz.f141, go_sem, c1, w0, c0, w1]
  have b2 := hx.2.2.2
  have w2 : IntKind.i64.wrap (left - (x.Face.length : Int) - (x.Resource.length : Int) - (x.Import.length : Int)) = left - (x.Face.length : Int) - (x.Resource.length : Int) - (x.Import.length : Int) := wrap64 (by omega) (by omega)
  by_cases c2 : left - (x.Face.length : Int) - (x.Resource.length : Int) - (x.Import.length : Int) < 0
  · rw [szI_neg (b := x.Face.length + x.Resource.length + x.Import.length) (by omega)]
    simp [Tryz.f141, go_sem, c2, w0, c0, w1, c1, w2]
  rw [szI_pos (b := x.Face.length + x.Resource.length + x.Import.length) (by omega)]
  simp [Tryz.f141, go_sem, w0, c0, w1, c1, w2, c2]
  try omega
set_option maxHeartbeats 4000000 in
theorem szBuiltinS_eq (xs : List GBuiltin) (hl : xs.length ≤ 9223372036854775807) (hs : ∀ y ∈ xs, y.Fits) (left : Int) (h0 : 0 ≤ left) (h1 : left ≤ 1048576) : dPure CC 96 [.slice false (xs.map GBuiltin.enc), .int .i64 left] = some (.int .i64 (szI (bulkL GBuiltin.bulk xs) left)) := by
  have w0 : IntKind.i64.wrap (left - (xs.length : Int)) = left - xs.length := wrap64 (by omega) (by omega)
  rw [dPure_eq (C := CC) _ rfl rfl Tryz.func96 rfl]
  unfold bulkL
  by_cases c0 : left - (xs.length : Int) < 0
  · rw [szI_neg (by omega)]
    simp [Tryz.f96, go_sem, w0, c0]
  simp [Tryz.f96, go_sem, w0, c0]
  generalize hc : dCode CC 0 (Code.loop _) _ _ = r
  have hL : Runs r fun o env' H' => ((o = .exit 0 ∧ env' 1 = .int .i64 (szI (xs.length + (xs.map GBuiltin.bulk).sum) left)) ∨ (o = .ret ∧ env' 4 = .int .i64 (-1) ∧ szI (xs.length + (xs.map GBuiltin.bulk).sum) left = -1)) := by
    rw [← hc]
    refine loop_rule (fun k env H => ∃ (i : Nat) (l : Int), k + i = xs.length ∧ env 0 = .slice false (xs.map GBuiltin.enc) ∧ env 5 = .int .i64 i ∧ env 1 = .int .i64 l ∧ 0 ≤ l ∧ l = left - xs.length - sumTo GBuiltin.bulk xs i) _ ?_ xs.length _ _
      ⟨0, left - xs.length, by simp, by simp [go_sem], by simp [go_sem], by simp [go_sem], by omega, by simp [sumTo]⟩
    clear hc
    rintro k env H ⟨i, l, hk, e0, e5, e1, hl0, hl1⟩
    by_cases hi : i < xs.length
    · have hm := List.getElem_mem hi
      have hsu := sumTo_succ GBuiltin.bulk xs i hi
      have hle := sumTo_le GBuiltin.bulk xs (i + 1)
      have hw2 := wrapS (i := i) (by omega)
      have hE := szBuiltin_eq xs[i] (hs _ hm) l hl0 (by omega)
      by_cases c1 : l - ((GBuiltin.bulk xs[i] : Nat) : Int) < 0
      · rw [szI_neg (by omega)] at hE
        simp [go_sem, e0, e5, e1, hi, hE, hw2, c1]
        exact szI_neg (by omega)
      · rw [szI_pos (by omega)] at hE
        simp [go_sem, e0, e5, e1, hi, hE, hw2, c1]
        exact ⟨k - 1, by omega, i + 1, by omega, rfl, by omega, by omega⟩
    · have hle := sumTo_all GBuiltin.bulk xs i (by omega)
      simp [go_sem, e0, e5, e1, hi]
      rw [szI_pos (by omega)]
      omega
  obtain ⟨o, env', H', rfl, h⟩ := hL
  rcases h with ⟨rfl, h1⟩ | ⟨rfl, h1, h2⟩
  · simp [go_sem, h1]
  · simp [go_sem, h1, h2]
set_option maxHeartbeats 4000000 in
theorem szComponent_eq (x : GComponent) (hx : x.Fits) (left : Int) (h0 : 0 ≤ left) (h1 : left ≤ 1048576) : dPure CC 51 [x.enc, .int .i64 left] = some (.int .i64 (szI x.bulk left)) := by
  rw [GComponent.fits_eq] at hx
  rw [GComponent.bulk_eq]
  rw [dPure_eq (C := CC) _ rfl rfl Tryz.func51 rfl]
  have b0 := hx.1
  have w0 : IntKind.i64.wrap (left - (x.Name.length : Int)) = left - (x.Name.length : Int) := wrap64 (by omega) (by omega)
  by_cases c0 : left - (x.Name.length : Int) < 0
  · rw [szI_neg (b := x.Name.length + x.Version.length + bulkL GFace.bulk x.Imports + bulkL GFace.bulk x.Exports + x.Module.bulk + bulkL GLift.bulk x.Lifts + bulkL GLower.bulk x.Lowers + bulkL GBuiltin.bulk x.Builtins) (by omega)]
    simp [Tryz.f51, go_sem, c0, w0]
  have b1 := hx.2.1
  have w1 : IntKind.i64.wrap (left - (x.Name.length : Int) - (x.Version.length : Int)) = left - (x.Name.length : Int) - (x.Version.length : Int) := wrap64 (by omega) (by omega)
  by_cases c1 : left - (x.Name.length : Int) - (x.Version.length : Int) < 0
  · rw [szI_neg (b := x.Name.length + x.Version.length + bulkL GFace.bulk x.Imports + bulkL GFace.bulk x.Exports + x.Module.bulk + bulkL GLift.bulk x.Lifts + bulkL GLower.bulk x.Lowers + bulkL GBuiltin.bulk x.Builtins) (by omega)]
    simp [Tryz.f51, go_sem, c1, w0, c0, w1]
  have e2 := szFaceS_eq x.Imports hx.2.2.1.1 hx.2.2.1.2 (left - (x.Name.length : Int) - (x.Version.length : Int)) (by omega) (by omega)
  by_cases c2 : left - (x.Name.length : Int) - (x.Version.length : Int) - ((bulkL GFace.bulk x.Imports : Nat) : Int) < 0
  · rw [szI_neg (by omega)] at e2
    rw [szI_neg (b := x.Name.length + x.Version.length + bulkL GFace.bulk x.Imports + bulkL GFace.bulk x.Exports + x.Module.bulk + bulkL GLift.bulk x.Lifts + bulkL GLower.bulk x.Lowers + bulkL GBuiltin.bulk x.Builtins) (by omega)]
    simp [Tryz.f51, go_sem, w0, c0, w1, c1, e2]
  rw [szI_pos (by omega)] at e2
  have e3 := szFaceS_eq x.Exports hx.2.2.2.1.1 hx.2.2.2.1.2 (left - (x.Name.length : Int) - (x.Version.length : Int) - ((bulkL GFace.bulk x.Imports : Nat) : Int)) (by omega) (by omega)
  by_cases c3 : left - (x.Name.length : Int) - (x.Version.length : Int) - ((bulkL GFace.bulk x.Imports : Nat) : Int) - ((bulkL GFace.bulk x.Exports : Nat) : Int) < 0
  · rw [szI_neg (by omega)] at e3
    rw [szI_neg (b := x.Name.length + x.Version.length + bulkL GFace.bulk x.Imports + bulkL GFace.bulk x.Exports + x.Module.bulk + bulkL GLift.bulk x.Lifts + bulkL GLower.bulk x.Lowers + bulkL GBuiltin.bulk x.Builtins) (by omega)]
    simp [Tryz.f51, go_sem, w0, c0, w1, c1, e2, c2, e3]
  rw [szI_pos (by omega)] at e3
  have e4 := szModule_eq x.Module hx.2.2.2.2.2.2.1 (left - (x.Name.length : Int) - (x.Version.length : Int) - ((bulkL GFace.bulk x.Imports : Nat) : Int) - ((bulkL GFace.bulk x.Exports : Nat) : Int)) (by omega) (by omega)
  by_cases c4 : left - (x.Name.length : Int) - (x.Version.length : Int) - ((bulkL GFace.bulk x.Imports : Nat) : Int) - ((bulkL GFace.bulk x.Exports : Nat) : Int) - ((x.Module.bulk : Nat) : Int) < 0
  · rw [szI_neg (by omega)] at e4
    rw [szI_neg (b := x.Name.length + x.Version.length + bulkL GFace.bulk x.Imports + bulkL GFace.bulk x.Exports + x.Module.bulk + bulkL GLift.bulk x.Lifts + bulkL GLower.bulk x.Lowers + bulkL GBuiltin.bulk x.Builtins) (by omega)]
    simp [Tryz.f51, go_sem, w0, c0, w1, c1, e2, c2, e3, c3, e4]
  rw [szI_pos (by omega)] at e4
  have e5 := szLiftS_eq x.Lifts hx.2.2.2.2.2.2.2.1.1 hx.2.2.2.2.2.2.2.1.2 (left - (x.Name.length : Int) - (x.Version.length : Int) - ((bulkL GFace.bulk x.Imports : Nat) : Int) - ((bulkL GFace.bulk x.Exports : Nat) : Int) - ((x.Module.bulk : Nat) : Int)) (by omega) (by omega)
  by_cases c5 : left - (x.Name.length : Int) - (x.Version.length : Int) - ((bulkL GFace.bulk x.Imports : Nat) : Int) - ((bulkL GFace.bulk x.Exports : Nat) : Int) - ((x.Module.bulk : Nat) : Int) - ((bulkL GLift.bulk x.Lifts : Nat) : Int) < 0
  · rw [szI_neg (by omega)] at e5
    rw [szI_neg (b := x.Name.length + x.Version.length + bulkL GFace.bulk x.Imports + bulkL GFace.bulk x.Exports + x.Module.bulk + bulkL GLift.bulk x.Lifts + bulkL GLower.bulk x.Lowers + bulkL GBuiltin.bulk x.Builtins) (by omega)]
    simp [Tryz.f51, go_sem, w0, c0, w1, c1, e2, c2, e3, c3, e4, c4, e5]
  rw [szI_pos (by omega)] at e5
  have e6 := szLowerS_eq x.Lowers hx.2.2.2.2.2.2.2.2.1.1 hx.2.2.2.2.2.2.2.2.1.2 (left - (x.Name.length : Int) - (x.Version.length : Int) - ((bulkL GFace.bulk x.Imports : Nat) : Int) - ((bulkL GFace.bulk x.Exports : Nat) : Int) - ((x.Module.bulk : Nat) : Int) - ((bulkL GLift.bulk x.Lifts : Nat) : Int)) (by omega) (by omega)
  by_cases c6 : left - (x.Name.length : Int) - (x.Version.length : Int) - ((bulkL GFace.bulk x.Imports : Nat) : Int) - ((bulkL GFace.bulk x.Exports : Nat) : Int) - ((x.Module.bulk : Nat) : Int) - ((bulkL GLift.bulk x.Lifts : Nat) : Int) - ((bulkL GLower.bulk x.Lowers : Nat) : Int) < 0
  · rw [szI_neg (by omega)] at e6
    rw [szI_neg (b := x.Name.length + x.Version.length + bulkL GFace.bulk x.Imports + bulkL GFace.bulk x.Exports + x.Module.bulk + bulkL GLift.bulk x.Lifts + bulkL GLower.bulk x.Lowers + bulkL GBuiltin.bulk x.Builtins) (by omega)]
    simp [Tryz.f51, go_sem, w0, c0, w1, c1, e2, c2, e3, c3, e4, c4, e5, c5, e6]
  rw [szI_pos (by omega)] at e6
  have e7 := szBuiltinS_eq x.Builtins hx.2.2.2.2.2.2.2.2.2.1 hx.2.2.2.2.2.2.2.2.2.2 (left - (x.Name.length : Int) - (x.Version.length : Int) - ((bulkL GFace.bulk x.Imports : Nat) : Int) - ((bulkL GFace.bulk x.Exports : Nat) : Int) - ((x.Module.bulk : Nat) : Int) - ((bulkL GLift.bulk x.Lifts : Nat) : Int) - ((bulkL GLower.bulk x.Lowers : Nat) : Int)) (by omega) (by omega)
  by_cases c7 : left - (x.Name.length : Int) - (x.Version.length : Int) - ((bulkL GFace.bulk x.Imports : Nat) : Int) - ((bulkL GFace.bulk x.Exports : Nat) : Int) - ((x.Module.bulk : Nat) : Int) - ((bulkL GLift.bulk x.Lifts : Nat) : Int) - ((bulkL GLower.bulk x.Lowers : Nat) : Int) - ((bulkL GBuiltin.bulk x.Builtins : Nat) : Int) < 0
  · rw [szI_neg (by omega)] at e7
    rw [szI_neg (b := x.Name.length + x.Version.length + bulkL GFace.bulk x.Imports + bulkL GFace.bulk x.Exports + x.Module.bulk + bulkL GLift.bulk x.Lifts + bulkL GLower.bulk x.Lowers + bulkL GBuiltin.bulk x.Builtins) (by omega)]
    simp [Tryz.f51, go_sem, w0, c0, w1, c1, e2, c2, e3, c3, e4, c4, e5, c5, e6, c6, e7]
  rw [szI_pos (by omega)] at e7
  rw [szI_pos (b := x.Name.length + x.Version.length + bulkL GFace.bulk x.Imports + bulkL GFace.bulk x.Exports + x.Module.bulk + bulkL GLift.bulk x.Lifts + bulkL GLower.bulk x.Lowers + bulkL GBuiltin.bulk x.Builtins) (by omega)]
  simp [Tryz.f51, go_sem, w0, c0, w1, c1, e2, c2, e3, c3, e4, c4, e5, c5, e6, c6, e7, c7]
  try omega
set_option maxHeartbeats 4000000 in
theorem szComponentS_eq (xs : List GComponent) (hl : xs.length ≤ 9223372036854775807) (hs : ∀ y ∈ xs, y.Fits) (left : Int) (h0 : 0 ≤ left) (h1 : left ≤ 1048576) : dPure CC 16 [.slice false (xs.map GComponent.enc), .int .i64 left] = some (.int .i64 (szI (bulkL GComponent.bulk xs) left)) := by
  have w0 : IntKind.i64.wrap (left - (xs.length : Int)) = left - xs.length := wrap64 (by omega) (by omega)
  rw [dPure_eq (C := CC) _ rfl rfl Tryz.func16 rfl]
  unfold bulkL
  by_cases c0 : left - (xs.length : Int) < 0
  · rw [szI_neg (by omega)]
    simp [Tryz.f16, go_sem, w0, c0]
  simp [Tryz.f16, go_sem, w0, c0]
  generalize hc : dCode CC 0 (Code.loop _) _ _ = r
  have hL : Runs r fun o env' H' => ((o = .exit 0 ∧ env' 1 = .int .i64 (szI (xs.length + (xs.map GComponent.bulk).sum) left)) ∨ (o = .ret ∧ env' 4 = .int .i64 (-1) ∧ szI (xs.length + (xs.map GComponent.bulk).sum) left = -1)) := by
    rw [← hc]
    refine loop_rule (fun k env H => ∃ (i : Nat) (l : Int), k + i = xs.length ∧ env 0 = .slice false (xs.map GComponent.enc) ∧ env 5 = .int .i64 i ∧ env 1 = .int .i64 l ∧ 0 ≤ l ∧ l = left - xs.length - sumTo GComponent.bulk xs i) _ ?_ xs.length _ _
      ⟨0, left - xs.length, by simp, by simp [go_sem], by simp [go_sem], by simp [go_sem], by omega, by simp [sumTo]⟩
    clear hc
    rintro k env H ⟨i, l, hk, e0, e5, e1, hl0, hl1⟩
    by_cases hi : i < xs.length
    · have hm := List.getElem_mem hi
      have hsu := sumTo_succ GComponent.bulk xs i hi
      have hle := sumTo_le GComponent.bulk xs (i + 1)
      have hw2 := wrapS (i := i) (by omega)
      have hE := szComponent_eq xs[i] (hs _ hm) l hl0 (by omega)
      by_cases c1 : l - ((GComponent.bulk xs[i] : Nat) : Int) < 0
      · rw [szI_neg (by omega)] at hE
        simp [go_sem, e0, e5, e1, hi, hE, hw2, c1]
        exact szI_neg (by omega)
      · rw [szI_pos (by omega)] at hE
        simp [go_sem, e0, e5, e1, hi, hE, hw2, c1]
        exact ⟨k - 1, by omega, i + 1, by omega, rfl, by omega, by omega⟩
    · have hle := sumTo_all GComponent.bulk xs i (by omega)
      simp [go_sem, e0, e5, e1, hi]
      rw [szI_pos (by omega)]
      omega
  obtain ⟨o, env', H', rfl, h⟩ := hL
  rcases h with ⟨rfl, h1⟩ | ⟨rfl, h1, h2⟩
  · simp [go_sem, h1]
  · simp [go_sem, h1, h2]
set_option maxHeartbeats 4000000 in
theorem szArg_eq (x : GArg) (hx : x.Fits) (left : Int) (h0 : 0 ≤ left) (h1 : left ≤ 1048576) : dPure CC 142 [x.enc, .int .i64 left] = some (.int .i64 (szI x.bulk left)) := by
  rw [GArg.fits_eq] at hx
  rw [GArg.bulk_eq]
  rw [dPure_eq (C := CC) _ rfl rfl Tryz.func142 rfl]
  have b0 := hx.1
  have w0 : IntKind.i64.wrap (left - (x.Face.length : Int)) = left - (x.Face.length : Int) := wrap64 (by omega) (by omega)
  by_cases c0 : left - (x.Face.length : Int) < 0
  · rw [szI_neg (b := x.Face.length) (by omega)]
    simp [Tryz.f142, go_sem, c0, w0]
  rw [szI_pos (b := x.Face.length) (by omega)]
  simp [Tryz.f142, go_sem, w0, c0]
  try omega
set_option maxHeartbeats 4000000 in
theorem szArgS_eq (xs : List GArg) (hl : xs.length ≤ 9223372036854775807) (hs : ∀ y ∈ xs, y.Fits) (left : Int) (h0 : 0 ≤ left) (h1 : left ≤ 1048576) : dPure CC 97 [.slice false (xs.map GArg.enc), .int .i64 left] = some (.int .i64 (szI (bulkL GArg.bulk xs) left)) := by
  have w0 : IntKind.i64.wrap (left - (xs.length : Int)) = left - xs.length := wrap64 (by omega) (by omega)
  rw [dPure_eq (C := CC) _ rfl rfl Tryz.func97 rfl]
  unfold bulkL
  by_cases c0 : left - (xs.length : Int) < 0
  · rw [szI_neg (by omega)]
    simp [Tryz.f97, go_sem, w0, c0]
  simp [Tryz.f97, go_sem, w0, c0]
  generalize hc : dCode CC 0 (Code.loop _) _ _ = r
  have hL : Runs r fun o env' H' => ((o = .exit 0 ∧ env' 1 = .int .i64 (szI (xs.length + (xs.map GArg.bulk).sum) left)) ∨ (o = .ret ∧ env' 4 = .int .i64 (-1) ∧ szI (xs.length + (xs.map GArg.bulk).sum) left = -1)) := by
    rw [← hc]
    refine loop_rule (fun k env H => ∃ (i : Nat) (l : Int), k + i = xs.length ∧ env 0 = .slice false (xs.map GArg.enc) ∧ env 5 = .int .i64 i ∧ env 1 = .int .i64 l ∧ 0 ≤ l ∧ l = left - xs.length - sumTo GArg.bulk xs i) _ ?_ xs.length _ _
      ⟨0, left - xs.length, by simp, by simp [go_sem], by simp [go_sem], by simp [go_sem], by omega, by simp [sumTo]⟩
    clear hc
    rintro k env H ⟨i, l, hk, e0, e5, e1, hl0, hl1⟩
    by_cases hi : i < xs.length
    · have hm := List.getElem_mem hi
      have hsu := sumTo_succ GArg.bulk xs i hi
      have hle := sumTo_le GArg.bulk xs (i + 1)
      have hw2 := wrapS (i := i) (by omega)
      have hE := szArg_eq xs[i] (hs _ hm) l hl0 (by omega)
      by_cases c1 : l - ((GArg.bulk xs[i] : Nat) : Int) < 0
      · rw [szI_neg (by omega)] at hE
        simp [go_sem, e0, e5, e1, hi, hE, hw2, c1]
        exact szI_neg (by omega)
      · rw [szI_pos (by omega)] at hE
        simp [go_sem, e0, e5, e1, hi, hE, hw2, c1]
        exact ⟨k - 1, by omega, i + 1, by omega, rfl, by omega, by omega⟩
    · have hle := sumTo_all GArg.bulk xs i (by omega)
      simp [go_sem, e0, e5, e1, hi]
      rw [szI_pos (by omega)]
      omega
  obtain ⟨o, env', H', rfl, h⟩ := hL
  rcases h with ⟨rfl, h1⟩ | ⟨rfl, h1, h2⟩
  · simp [go_sem, h1]
  · simp [go_sem, h1, h2]
set_option maxHeartbeats 4000000 in
theorem szInst_eq (x : GInst) (hx : x.Fits) (left : Int) (h0 : 0 ≤ left) (h1 : left ≤ 1048576) : dPure CC 52 [x.enc, .int .i64 left] = some (.int .i64 (szI x.bulk left)) := by
  rw [GInst.fits_eq] at hx
  rw [GInst.bulk_eq]
  rw [dPure_eq (C := CC) _ rfl rfl Tryz.func52 rfl]
  have e0 := szArgS_eq x.Args hx.2.1 hx.2.2 (left) (by omega) (by omega)
  by_cases c0 : left - ((bulkL GArg.bulk x.Args : Nat) : Int) < 0
  · rw [szI_neg (by omega)] at e0
    rw [szI_neg (b := bulkL GArg.bulk x.Args) (by omega)]
    simp [Tryz.f52, go_sem, e0]
  rw [szI_pos (by omega)] at e0
  rw [szI_pos (b := bulkL GArg.bulk x.Args) (by omega)]
  simp [Tryz.f52, go_sem, e0, c0]
  try omega
set_option maxHeartbeats 4000000 in
theorem szInstS_eq (xs : List GInst) (hl : xs.length ≤ 9223372036854775807) (hs : ∀ y ∈ xs, y.Fits) (left : Int) (h0 : 0 ≤ left) (h1 : left ≤ 1048576) : dPure CC 17 [.slice false (xs.map GInst.enc), .int .i64 left] = some (.int .i64 (szI (bulkL GInst.bulk xs) left)) := by
  have w0 : IntKind.i64.wrap (left - (xs.length : Int)) = left - xs.length := wrap64 (by omega) (by omega)
  rw [dPure_eq (C := CC) _ rfl rfl Tryz.func17 rfl]
  unfold bulkL
  by_cases c0 : left - (xs.length : Int) < 0
  · rw [szI_neg (by omega)]
    simp [Tryz.f17, go_sem, w0, c0]
  simp [Tryz.f17, go_sem, w0, c0]
  generalize hc : dCode CC 0 (Code.loop _) _ _ = r
  have hL : Runs r fun o env' H' => ((o = .exit 0 ∧ env' 1 = .int .i64 (szI (xs.length + (xs.map GInst.bulk).sum) left)) ∨ (o = .ret ∧ env' 4 = .int .i64 (-1) ∧ szI (xs.length + (xs.map GInst.bulk).sum) left = -1)) := by
    rw [← hc]
    refine loop_rule (fun k env H => ∃ (i : Nat) (l : Int), k + i = xs.length ∧ env 0 = .slice false (xs.map GInst.enc) ∧ env 5 = .int .i64 i ∧ env 1 = .int .i64 l ∧ 0 ≤ l ∧ l = left - xs.length - sumTo GInst.bulk xs i) _ ?_ xs.length _ _
      ⟨0, left - xs.length, by simp, by simp [go_sem], by simp [go_sem], by simp [go_sem], by omega, by simp [sumTo]⟩
    clear hc
    rintro k env H ⟨i, l, hk, e0, e5, e1, hl0, hl1⟩
    by_cases hi : i < xs.length
    · have hm := List.getElem_mem hi
      have hsu := sumTo_succ GInst.bulk xs i hi
      have hle := sumTo_le GInst.bulk xs (i + 1)
      have hw2 := wrapS (i := i) (by omega)
      have hE := szInst_eq xs[i] (hs _ hm) l hl0 (by omega)
      by_cases c1 : l - ((GInst.bulk xs[i] : Nat) : Int) < 0
      · rw [szI_neg (by omega)] at hE
        simp [go_sem, e0, e5, e1, hi, hE, hw2, c1]
        exact szI_neg (by omega)
      · rw [szI_pos (by omega)] at hE
        simp [go_sem, e0, e5, e1, hi, hE, hw2, c1]
        exact ⟨k - 1, by omega, i + 1, by omega, rfl, by omega, by omega⟩
    · have hle := sumTo_all GInst.bulk xs i (by omega)
      simp [go_sem, e0, e5, e1, hi]
      rw [szI_pos (by omega)]
      omega
  obtain ⟨o, env', H', rfl, h⟩ := hL
  rcases h with ⟨rfl, h1⟩ | ⟨rfl, h1, h2⟩
  · simp [go_sem, h1]
  · simp [go_sem, h1, h2]
set_option maxHeartbeats 4000000 in
theorem szGraph_eq (x : GGraph) (hx : x.Fits) (left : Int) (h0 : 0 ≤ left) (h1 : left ≤ 1048576) : dPure CC 5 [x.enc, .int .i64 left] = some (.int .i64 (szI x.bulk left)) := by
  rw [GGraph.fits_eq] at hx
  rw [GGraph.bulk_eq]
  rw [dPure_eq (C := CC) _ rfl rfl Tryz.func5 rfl]
  have e0 := szFaceS_eq x.Host hx.1.1 hx.1.2 (left) (by omega) (by omega)
  by_cases c0 : left - ((bulkL GFace.bulk x.Host : Nat) : Int) < 0
  · rw [szI_neg (by omega)] at e0
    rw [szI_neg (b := bulkL GFace.bulk x.Host + bulkL GComponent.bulk x.Comps + bulkL GInst.bulk x.Insts) (by omega)]
    simp [Tryz.f5, go_sem, e0]
  rw [szI_pos (by omega)] at e0
  have e1 := szComponentS_eq x.Comps hx.2.1.1 hx.2.1.2 (left - ((bulkL GFace.bulk x.Host : Nat) : Int)) (by omega) (by omega)
  by_cases c1 : left - ((bulkL GFace.bulk x.Host : Nat) : Int) - ((bulkL GComponent.bulk x.Comps : Nat) : Int) < 0
  · rw [szI_neg (by omega)] at e1
    rw [szI_neg (b := bulkL GFace.bulk x.Host + bulkL GComponent.bulk x.Comps + bulkL GInst.bulk x.Insts) (by omega)]
    simp [Tryz.f5, go_sem, e0, c0, e1]
  rw [szI_pos (by omega)] at e1
  have e2 := szInstS_eq x.Insts hx.2.2.1 hx.2.2.2 (left - ((bulkL GFace.bulk x.Host : Nat) : Int) - ((bulkL GComponent.bulk x.Comps : Nat) : Int)) (by omega) (by omega)
  by_cases c2 : left - ((bulkL GFace.bulk x.Host : Nat) : Int) - ((bulkL GComponent.bulk x.Comps : Nat) : Int) - ((bulkL GInst.bulk x.Insts : Nat) : Int) < 0
  · rw [szI_neg (by omega)] at e2
    rw [szI_neg (b := bulkL GFace.bulk x.Host + bulkL GComponent.bulk x.Comps + bulkL GInst.bulk x.Insts) (by omega)]
    simp [Tryz.f5, go_sem, e0, c0, e1, c1, e2]
  rw [szI_pos (by omega)] at e2
  rw [szI_pos (b := bulkL GFace.bulk x.Host + bulkL GComponent.bulk x.Comps + bulkL GInst.bulk x.Insts) (by omega)]
  simp [Tryz.f5, go_sem, e0, c0, e1, c1, e2, c2]
  try omega
set_option maxHeartbeats 4000000 in
theorem szHostCall_eq (x : GHostCall) (hx : x.Fits) (left : Int) (h0 : 0 ≤ left) (h1 : left ≤ 1048576) : dPure CC 73 [x.enc, .int .i64 left] = some (.int .i64 (szI x.bulk left)) := by
  rw [GHostCall.fits_eq] at hx
  rw [GHostCall.bulk_eq]
  rw [dPure_eq (C := CC) _ rfl rfl Tryz.func73 rfl]
  have b0 := hx.2.1
  have w0 : IntKind.i64.wrap (left - (x.Word.length : Int)) = left - (x.Word.length : Int) := wrap64 (by omega) (by omega)
  by_cases c0 : left - (x.Word.length : Int) < 0
  · rw [szI_neg (b := x.Word.length + bulkL List.length x.Args + x.Answer.length) (by omega)]
    simp [Tryz.f73, go_sem, c0, w0]
  have e1 := szStringS_eq x.Args hx.2.2.1.1 hx.2.2.1.2 (left - (x.Word.length : Int)) (by omega) (by omega)
  by_cases c1 : left - (x.Word.length : Int) - ((bulkL List.length x.Args : Nat) : Int) < 0
  · rw [szI_neg (by omega)] at e1
    rw [szI_neg (b := x.Word.length + bulkL List.length x.Args + x.Answer.length) (by omega)]
    simp [Tryz.f73, go_sem, w0, c0, e1]
  rw [szI_pos (by omega)] at e1
  have b2 := hx.2.2.2
  have w2 : IntKind.i64.wrap (left - (x.Word.length : Int) - ((bulkL List.length x.Args : Nat) : Int) - (x.Answer.length : Int)) = left - (x.Word.length : Int) - ((bulkL List.length x.Args : Nat) : Int) - (x.Answer.length : Int) := wrap64 (by omega) (by omega)
  by_cases c2 : left - (x.Word.length : Int) - ((bulkL List.length x.Args : Nat) : Int) - (x.Answer.length : Int) < 0
  · rw [szI_neg (b := x.Word.length + bulkL List.length x.Args + x.Answer.length) (by omega)]
    simp [Tryz.f73, go_sem, c2, w0, c0, e1, c1, w2]
  rw [szI_pos (b := x.Word.length + bulkL List.length x.Args + x.Answer.length) (by omega)]
  simp [Tryz.f73, go_sem, w0, c0, e1, c1, w2, c2]
  try omega
set_option maxHeartbeats 4000000 in
theorem szHostCallS_eq (xs : List GHostCall) (hl : xs.length ≤ 9223372036854775807) (hs : ∀ y ∈ xs, y.Fits) (left : Int) (h0 : 0 ≤ left) (h1 : left ≤ 1048576) : dPure CC 35 [.slice false (xs.map GHostCall.enc), .int .i64 left] = some (.int .i64 (szI (bulkL GHostCall.bulk xs) left)) := by
  have w0 : IntKind.i64.wrap (left - (xs.length : Int)) = left - xs.length := wrap64 (by omega) (by omega)
  rw [dPure_eq (C := CC) _ rfl rfl Tryz.func35 rfl]
  unfold bulkL
  by_cases c0 : left - (xs.length : Int) < 0
  · rw [szI_neg (by omega)]
    simp [Tryz.f35, go_sem, w0, c0]
  simp [Tryz.f35, go_sem, w0, c0]
  generalize hc : dCode CC 0 (Code.loop _) _ _ = r
  have hL : Runs r fun o env' H' => ((o = .exit 0 ∧ env' 1 = .int .i64 (szI (xs.length + (xs.map GHostCall.bulk).sum) left)) ∨ (o = .ret ∧ env' 4 = .int .i64 (-1) ∧ szI (xs.length + (xs.map GHostCall.bulk).sum) left = -1)) := by
    rw [← hc]
    refine loop_rule (fun k env H => ∃ (i : Nat) (l : Int), k + i = xs.length ∧ env 0 = .slice false (xs.map GHostCall.enc) ∧ env 5 = .int .i64 i ∧ env 1 = .int .i64 l ∧ 0 ≤ l ∧ l = left - xs.length - sumTo GHostCall.bulk xs i) _ ?_ xs.length _ _
      ⟨0, left - xs.length, by simp, by simp [go_sem], by simp [go_sem], by simp [go_sem], by omega, by simp [sumTo]⟩
    clear hc
    rintro k env H ⟨i, l, hk, e0, e5, e1, hl0, hl1⟩
    by_cases hi : i < xs.length
    · have hm := List.getElem_mem hi
      have hsu := sumTo_succ GHostCall.bulk xs i hi
      have hle := sumTo_le GHostCall.bulk xs (i + 1)
      have hw2 := wrapS (i := i) (by omega)
      have hE := szHostCall_eq xs[i] (hs _ hm) l hl0 (by omega)
      by_cases c1 : l - ((GHostCall.bulk xs[i] : Nat) : Int) < 0
      · rw [szI_neg (by omega)] at hE
        simp [go_sem, e0, e5, e1, hi, hE, hw2, c1]
        exact szI_neg (by omega)
      · rw [szI_pos (by omega)] at hE
        simp [go_sem, e0, e5, e1, hi, hE, hw2, c1]
        exact ⟨k - 1, by omega, i + 1, by omega, rfl, by omega, by omega⟩
    · have hle := sumTo_all GHostCall.bulk xs i (by omega)
      simp [go_sem, e0, e5, e1, hi]
      rw [szI_pos (by omega)]
      omega
  obtain ⟨o, env', H', rfl, h⟩ := hL
  rcases h with ⟨rfl, h1⟩ | ⟨rfl, h1, h2⟩
  · simp [go_sem, h1]
  · simp [go_sem, h1, h2]
set_option maxHeartbeats 4000000 in
theorem szRunning_eq (x : GRunning) (hx : x.Fits) (left : Int) (h0 : 0 ≤ left) (h1 : left ≤ 1048576) : dPure CC 10 [x.enc, .int .i64 left] = some (.int .i64 (szI x.bulk left)) := by
  rw [GRunning.fits_eq] at hx
  rw [GRunning.bulk_eq]
  rw [dPure_eq (C := CC) _ rfl rfl Tryz.func10 rfl]
  have e0 := szGraph_eq x.Graph hx.1 (left) (by omega) (by omega)
  by_cases c0 : left - ((x.Graph.bulk : Nat) : Int) < 0
  · rw [szI_neg (by omega)] at e0
    rw [szI_neg (b := x.Graph.bulk + bulkL GMemory.bulk x.Memory + x.Yard.bulk + bulkL GHostCall.bulk x.Log) (by omega)]
    simp [Tryz.f10, go_sem, e0]
  rw [szI_pos (by omega)] at e0
  have e1 := szMemoryS_eq x.Memory hx.2.2.1.1 hx.2.2.1.2 (left - ((x.Graph.bulk : Nat) : Int)) (by omega) (by omega)
  by_cases c1 : left - ((x.Graph.bulk : Nat) : Int) - ((bulkL GMemory.bulk x.Memory : Nat) : Int) < 0
  · rw [szI_neg (by omega)] at e1
    rw [szI_neg (b := x.Graph.bulk + bulkL GMemory.bulk x.Memory + x.Yard.bulk + bulkL GHostCall.bulk x.Log) (by omega)]
    simp [Tryz.f10, go_sem, e0, c0, e1]
  rw [szI_pos (by omega)] at e1
  have e2 := szYard_eq x.Yard hx.2.2.2.1 (left - ((x.Graph.bulk : Nat) : Int) - ((bulkL GMemory.bulk x.Memory : Nat) : Int)) (by omega) (by omega)
  by_cases c2 : left - ((x.Graph.bulk : Nat) : Int) - ((bulkL GMemory.bulk x.Memory : Nat) : Int) - ((x.Yard.bulk : Nat) : Int) < 0
  · rw [szI_neg (by omega)] at e2
    rw [szI_neg (b := x.Graph.bulk + bulkL GMemory.bulk x.Memory + x.Yard.bulk + bulkL GHostCall.bulk x.Log) (by omega)]
    simp [Tryz.f10, go_sem, e0, c0, e1, c1, e2]
  rw [szI_pos (by omega)] at e2
  have e3 := szHostCallS_eq x.Log hx.2.2.2.2.1 hx.2.2.2.2.2 (left - ((x.Graph.bulk : Nat) : Int) - ((bulkL GMemory.bulk x.Memory : Nat) : Int) - ((x.Yard.bulk : Nat) : Int)) (by omega) (by omega)
  by_cases c3 : left - ((x.Graph.bulk : Nat) : Int) - ((bulkL GMemory.bulk x.Memory : Nat) : Int) - ((x.Yard.bulk : Nat) : Int) - ((bulkL GHostCall.bulk x.Log : Nat) : Int) < 0
  · rw [szI_neg (by omega)] at e3
    rw [szI_neg (b := x.Graph.bulk + bulkL GMemory.bulk x.Memory + x.Yard.bulk + bulkL GHostCall.bulk x.Log) (by omega)]
    simp [Tryz.f10, go_sem, e0, c0, e1, c1, e2, c2, e3]
  rw [szI_pos (by omega)] at e3
  rw [szI_pos (b := x.Graph.bulk + bulkL GMemory.bulk x.Memory + x.Yard.bulk + bulkL GHostCall.bulk x.Log) (by omega)]
  simp [Tryz.f10, go_sem, e0, c0, e1, c1, e2, c2, e3, c3]
  try omega
end Go.Proofs.YtdlkndnlpgmdaaaGreat.V
