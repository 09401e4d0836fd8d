/- What the size functions of the laws compute in V. Conditions: whole numbers and lengths in the ranges of their Go types; the measure at most 2^20. -/
import Derived.Test.YtdlkndnlpgmdaaaGreatVData
namespace Go.Proofs.YtdlkndnlpgmdaaaGreat.V
open Go Go.V Go.Proofs
set_option linter.unusedSimpArgs false
set_option linter.unusedVariables false

set_option maxHeartbeats 4000000 in
theorem szStringS_eq (xs : List (List UInt8)) (hl : xs.length ≤ 9223372036854775807) (hs : ∀ y ∈ xs, y.length ≤ 9223372036854775807) (left : Int) (h0 : 0 ≤ left) (h1 : left ≤ 1048576) : dPure CC 91 [.slice false (xs.map PV.str), .int .i64 left] = some (.int .i64 (szI (bulkL List.length xs) left)) := by
  have w0 : IntKind.i64.wrap (left - (xs.length : Int)) = left - xs.length := wrap64 (by omega) (by omega)
  rw [dPure_eq (C := CC) _ rfl rfl Tryz.func91 rfl]
  unfold bulkL
  by_cases c0 : left - (xs.length : Int) < 0
  · rw [szI_neg (by omega)]
    simp [Tryz.f91, go_sem, w0, c0]
  simp [Tryz.f91, go_sem, w0, c0]
  generalize hc : dCode CC 0 (Code.loop _) _ _ = r
  have hL : Runs r fun o env' H' => ((o = .exit 0 ∧ env' 1 = .int .i64 (szI (xs.length + (xs.map List.length).sum) left)) ∨ (o = .ret ∧ env' 4 = .int .i64 (-1) ∧ szI (xs.length + (xs.map List.length).sum) left = -1)) := by
    rw [← hc]
    refine loop_rule (fun k env H => ∃ (i : Nat) (l : Int), k + i = xs.length ∧ env 0 = .slice false (xs.map PV.str) ∧ env 5 = .int .i64 i ∧ env 1 = .int .i64 l ∧ 0 ≤ l ∧ l = left - xs.length - sumTo List.length xs i) _ ?_ xs.length _ _
      ⟨0, left - xs.length, by simp, by simp [go_sem], by simp [go_sem], by simp [go_sem], by omega, by simp [sumTo]⟩
    clear hc
    rintro k env H ⟨i, l, hk, e0, e5, e1, hl0, hl1⟩
    by_cases hi : i < xs.length
    · have hm := List.getElem_mem hi
      have hsu := sumTo_succ List.length xs i hi
      have hle := sumTo_le List.length xs (i + 1)
      have hw2 := wrapS (i := i) (by omega)
      have hxi := hs _ hm
      have hw1 : IntKind.i64.wrap (l - (xs[i].length : Int)) = l - xs[i].length := wrap64 (by omega) (by omega)
      by_cases c1 : l - (xs[i].length : Int) < 0
      · simp [go_sem, e0, e5, e1, hi, hw1, hw2, c1]
        exact szI_neg (by omega)
      · simp [go_sem, e0, e5, e1, hi, hw1, hw2, c1]
        exact ⟨k - 1, by omega, i + 1, by omega, rfl, by omega, by omega⟩
    · have hle := sumTo_all List.length xs i (by omega)
      simp [go_sem, e0, e5, e1, hi]
      rw [szI_pos (by omega)]
      omega
  obtain ⟨o, env', H', rfl, h⟩ := hL
  rcases h with ⟨rfl, h1⟩ | ⟨rfl, h1, h2⟩
  · simp [go_sem, h1]
  · simp [go_sem, h1, h2]
set_option maxHeartbeats 4000000 in
theorem szInt64S_eq (xs : List Int) (hl : xs.length ≤ 9223372036854775807) (hs : ∀ y ∈ xs, (-9223372036854775808 ≤ y ∧ y ≤ 9223372036854775807)) (left : Int) (h0 : 0 ≤ left) (h1 : left ≤ 1048576) : dPure CC 72 [.slice false (xs.map (PV.int .i64)), .int .i64 left] = some (.int .i64 (szI (bulkL (fun _ : Int => 0) xs) left)) := by
  have w0 : IntKind.i64.wrap (left - (xs.length : Int)) = left - xs.length := wrap64 (by omega) (by omega)
  rw [dPure_eq (C := CC) _ rfl rfl Tryz.func72 rfl]
  unfold bulkL
  by_cases c0 : left - (xs.length : Int) < 0
  · rw [szI_neg (by omega)]
    simp [Tryz.f72, go_sem, w0, c0]
  rw [szI_pos (by rw [sum_zero (fun _ => rfl)]; omega), sum_zero (fun _ => rfl)]
  simp [Tryz.f72, go_sem, w0, c0]
set_option maxHeartbeats 4000000 in
theorem szTypeS_of (xs : List GType) (hl : xs.length ≤ 9223372036854775807) (hs : ∀ y ∈ xs, y.Fits) (ih : ∀ y ∈ xs, ∀ (left : Int), 0 ≤ left → left ≤ 1048576 → dPure CC 183 [y.enc, .int .i64 left] = some (.int .i64 (szI y.bulk left))) (left : Int) (h0 : 0 ≤ left) (h1 : left ≤ 1048576) : dPure CC 194 [.slice false (xs.map GType.enc), .int .i64 left] = some (.int .i64 (szI (bulkL GType.bulk xs) left)) := by
  have w0 : IntKind.i64.wrap (left - (xs.length : Int)) = left - xs.length := wrap64 (by omega) (by omega)
  rw [dPure_eq (C := CC) _ rfl rfl Tryz.func194 rfl]
  unfold bulkL
  by_cases c0 : left - (xs.length : Int) < 0
  · rw [szI_neg (by omega)]
    simp [Tryz.f194, go_sem, w0, c0]
  simp [Tryz.f194, go_sem, w0, c0]
  generalize hc : dCode CC 0 (Code.loop _) _ _ = r
  have hL : Runs r fun o env' H' => ((o = .exit 0 ∧ env' 1 = .int .i64 (szI (xs.length + (xs.map GType.bulk).sum) left)) ∨ (o = .ret ∧ env' 4 = .int .i64 (-1) ∧ szI (xs.length + (xs.map GType.bulk).sum) left = -1)) := by
    rw [← hc]
    refine loop_rule (fun k env H => ∃ (i : Nat) (l : Int), k + i = xs.length ∧ env 0 = .slice false (xs.map GType.enc) ∧ env 5 = .int .i64 i ∧ env 1 = .int .i64 l ∧ 0 ≤ l ∧ l = left - xs.length - sumTo GType.bulk xs i) _ ?_ xs.length _ _
      ⟨0, left - xs.length, by simp, by simp [go_sem], by simp [go_sem], by simp [go_sem], by omega, by simp [sumTo]⟩
    clear hc
    rintro k env H ⟨i, l, hk, e0, e5, e1, hl0, hl1⟩
    by_cases hi : i < xs.length
    · have hm := List.getElem_mem hi
      have hsu := sumTo_succ GType.bulk xs i hi
      have hle := sumTo_le GType.bulk xs (i + 1)
      have hw2 := wrapS (i := i) (by omega)
      have hE := ih _ hm l hl0 (by omega)
      by_cases c1 : l - ((GType.bulk xs[i] : Nat) : Int) < 0
      · rw [szI_neg (by omega)] at hE
        simp [go_sem, e0, e5, e1, hi, hE, hw2, c1]
        exact szI_neg (by omega)
      · rw [szI_pos (by omega)] at hE
        simp [go_sem, e0, e5, e1, hi, hE, hw2, c1]
        exact ⟨k - 1, by omega, i + 1, by omega, rfl, by omega, by omega⟩
    · have hle := sumTo_all GType.bulk xs i (by omega)
      simp [go_sem, e0, e5, e1, hi]
      rw [szI_pos (by omega)]
      omega
  obtain ⟨o, env', H', rfl, h⟩ := hL
  rcases h with ⟨rfl, h1⟩ | ⟨rfl, h1, h2⟩
  · simp [go_sem, h1]
  · simp [go_sem, h1, h2]
set_option maxHeartbeats 4000000 in
theorem szType_of (x : GType) (hx : x.Fits) (ihS : ∀ (left : Int), 0 ≤ left → left ≤ 1048576 → dPure CC 194 [.slice false (x.Kids.map GType.enc), .int .i64 left] = some (.int .i64 (szI (bulkL GType.bulk x.Kids) left))) (left : Int) (h0 : 0 ≤ left) (h1 : left ≤ 1048576) : dPure CC 183 [x.enc, .int .i64 left] = some (.int .i64 (szI x.bulk left)) := by
  rw [GType.fits_eq] at hx
  rw [GType.bulk_eq]
  rw [dPure_eq (C := CC) _ rfl rfl Tryz.func183 rfl]
  have b0 := hx.2.1
  have w0 : IntKind.i64.wrap (left - (x.Name.length : Int)) = left - (x.Name.length : Int) := wrap64 (by omega) (by omega)
  by_cases c0 : left - (x.Name.length : Int) < 0
  · rw [szI_neg (b := x.Name.length + bulkL List.length x.Labels + bulkL GType.bulk x.Kids) (by omega)]
    simp [Tryz.f183, go_sem, c0, w0]
  have e1 := szStringS_eq x.Labels hx.2.2.1.1 hx.2.2.1.2 (left - (x.Name.length : Int)) (by omega) (by omega)
  by_cases c1 : left - (x.Name.length : Int) - ((bulkL List.length x.Labels : Nat) : Int) < 0
  · rw [szI_neg (by omega)] at e1
    rw [szI_neg (b := x.Name.length + bulkL List.length x.Labels + bulkL GType.bulk x.Kids) (by omega)]
    simp [Tryz.f183, go_sem, w0, c0, e1]
  rw [szI_pos (by omega)] at e1
  have e2 := ihS (left - (x.Name.length : Int) - ((bulkL List.length x.Labels : Nat) : Int)) (by omega) (by omega)
  by_cases c2 : left - (x.Name.length : Int) - ((bulkL List.length x.Labels : Nat) : Int) - ((bulkL GType.bulk x.Kids : Nat) : Int) < 0
  · rw [szI_neg (by omega)] at e2
    rw [szI_neg (b := x.Name.length + bulkL List.length x.Labels + bulkL GType.bulk x.Kids) (by omega)]
    simp [Tryz.f183, go_sem, w0, c0, e1, c1, e2]
  rw [szI_pos (by omega)] at e2
  rw [szI_pos (b := x.Name.length + bulkL List.length x.Labels + bulkL GType.bulk x.Kids) (by omega)]
  simp [Tryz.f183, go_sem, w0, c0, e1, c1, e2, c2]
  try omega
theorem szType_eq (x : GType) : x.Fits → ∀ (left : Int), 0 ≤ left → left ≤ 1048576 → dPure CC 183 [x.enc, .int .i64 left] = some (.int .i64 (szI x.bulk left)) :=
  GType.ind (P := fun x => x.Fits → ∀ (left : Int), 0 ≤ left → left ≤ 1048576 → dPure CC 183 [x.enc, .int .i64 left] = some (.int .i64 (szI x.bulk left))) (fun x ih hx => by
    have hx2 := hx
    rw [GType.fits_eq] at hx
    exact szType_of x hx2 (szTypeS_of x.Kids hx.2.2.2.1 hx.2.2.2.2 fun y hy => ih y hy (hx.2.2.2.2 y hy))) x
theorem szTypeS_eq (xs : List GType) (hl : xs.length ≤ 9223372036854775807) (hs : ∀ y ∈ xs, y.Fits) (left : Int) (h0 : 0 ≤ left) (h1 : left ≤ 1048576) : dPure CC 194 [.slice false (xs.map GType.enc), .int .i64 left] = some (.int .i64 (szI (bulkL GType.bulk xs) left)) :=
  szTypeS_of xs hl hs (fun y hy => szType_eq y (hs y hy)) left h0 h1
set_option maxHeartbeats 4000000 in
theorem szParam_eq (x : GParam) (hx : x.Fits) (left : Int) (h0 : 0 ≤ left) (h1 : left ≤ 1048576) : dPure CC 193 [x.enc, .int .i64 left] = some (.int .i64 (szI x.bulk left)) := by
  rw [GParam.fits_eq] at hx
  rw [GParam.bulk_eq]
  rw [dPure_eq (C := CC) _ rfl rfl Tryz.func193 rfl]
  have b0 := hx.1
  have w0 : IntKind.i64.wrap (left - (x.Name.length : Int)) = left - (x.Name.length : Int) := wrap64 (by omega) (by omega)
  by_cases c0 : left - (x.Name.length : Int) < 0
  · rw [szI_neg (b := x.Name.length + x.Ty.bulk) (by omega)]
    simp [Tryz.f193, go_sem, c0, w0]
  have e1 := szType_eq x.Ty hx.2 (left - (x.Name.length : Int)) (by omega) (by omega)
  by_cases c1 : left - (x.Name.length : Int) - ((x.Ty.bulk : Nat) : Int) < 0
  · rw [szI_neg (by omega)] at e1
    rw [szI_neg (b := x.Name.length + x.Ty.bulk) (by omega)]
    simp [Tryz.f193, go_sem, w0, c0, e1]
  rw [szI_pos (by omega)] at e1
  rw [szI_pos (b := x.Name.length + x.Ty.bulk) (by omega)]
  simp [Tryz.f193, go_sem, w0, c0, e1, c1]
  try omega
set_option maxHeartbeats 4000000 in
theorem szParamS_eq (xs : List GParam) (hl : xs.length ≤ 9223372036854775807) (hs : ∀ y ∈ xs, y.Fits) (left : Int) (h0 : 0 ≤ left) (h1 : left ≤ 1048576) : dPure CC 182 [.slice false (xs.map GParam.enc), .int .i64 left] = some (.int .i64 (szI (bulkL GParam.bulk xs) left)) := by
  have w0 : IntKind.i64.wrap (left - (xs.length : Int)) = left - xs.length := wrap64 (by omega) (by omega)
  rw [dPure_eq (C := CC) _ rfl rfl Tryz.func182 rfl]
  unfold bulkL
  by_cases c0 : left - (xs.length : Int) < 0
  · rw [szI_neg (by omega)]
    simp [Tryz.f182, go_sem, w0, c0]
  simp [Tryz.f182, go_sem, w0, c0]
  generalize hc : dCode CC 0 (Code.loop _) _ _ = r
  have hL : Runs r fun o env' H' => ((o = .exit 0 ∧ env' 1 = .int .i64 (szI (xs.length + (xs.map GParam.bulk).sum) left)) ∨ (o = .ret ∧ env' 4 = .int .i64 (-1) ∧ szI (xs.length + (xs.map GParam.bulk).sum) left = -1)) := by
    rw [← hc]
    refine loop_rule (fun k env H => ∃ (i : Nat) (l : Int), k + i = xs.length ∧ env 0 = .slice false (xs.map GParam.enc) ∧ env 5 = .int .i64 i ∧ env 1 = .int .i64 l ∧ 0 ≤ l ∧ l = left - xs.length - sumTo GParam.bulk xs i) _ ?_ xs.length _ _
      ⟨0, left - xs.length, by simp, by simp [go_sem], by simp [go_sem], by simp [go_sem], by omega, by simp [sumTo]⟩
    clear hc
    rintro k env H ⟨i, l, hk, e0, e5, e1, hl0, hl1⟩
    by_cases hi : i < xs.length
    · have hm := List.getElem_mem hi
      have hsu := sumTo_succ GParam.bulk xs i hi
      have hle := sumTo_le GParam.bulk xs (i + 1)
      have hw2 := wrapS (i := i) (by omega)
      have hE := szParam_eq xs[i] (hs _ hm) l hl0 (by omega)
      by_cases c1 : l - ((GParam.bulk xs[i] : Nat) : Int) < 0
      · rw [szI_neg (by omega)] at hE
        simp [go_sem, e0, e5, e1, hi, hE, hw2, c1]
        exact szI_neg (by omega)
      · rw [szI_pos (by omega)] at hE
        simp [go_sem, e0, e5, e1, hi, hE, hw2, c1]
        exact ⟨k - 1, by omega, i + 1, by omega, rfl, by omega, by omega⟩
    · have hle := sumTo_all GParam.bulk xs i (by omega)
      simp [go_sem, e0, e5, e1, hi]
      rw [szI_pos (by omega)]
      omega
  obtain ⟨o, env', H', rfl, h⟩ := hL
  rcases h with ⟨rfl, h1⟩ | ⟨rfl, h1, h2⟩
  · simp [go_sem, h1]
  · simp [go_sem, h1, h2]
set_option maxHeartbeats 4000000 in
theorem szFuncType_eq (x : GFuncType) (hx : x.Fits) (left : Int) (h0 : 0 ≤ left) (h1 : left ≤ 1048576) : dPure CC 167 [x.enc, .int .i64 left] = some (.int .i64 (szI x.bulk left)) := by
  rw [GFuncType.fits_eq] at hx
  rw [GFuncType.bulk_eq]
  rw [dPure_eq (C := CC) _ rfl rfl Tryz.func167 rfl]
  have e0 := szParamS_eq x.Params hx.1.1 hx.1.2 (left) (by omega) (by omega)
  by_cases c0 : left - ((bulkL GParam.bulk x.Params : Nat) : Int) < 0
  · rw [szI_neg (by omega)] at e0
    rw [szI_neg (b := bulkL GParam.bulk x.Params + x.Result.bulk) (by omega)]
    simp [Tryz.f167, go_sem, e0]
  rw [szI_pos (by omega)] at e0
  have e1 := szType_eq x.Result hx.2.1 (left - ((bulkL GParam.bulk x.Params : Nat) : Int)) (by omega) (by omega)
  by_cases c1 : left - ((bulkL GParam.bulk x.Params : Nat) : Int) - ((x.Result.bulk : Nat) : Int) < 0
  · rw [szI_neg (by omega)] at e1
    rw [szI_neg (b := bulkL GParam.bulk x.Params + x.Result.bulk) (by omega)]
    simp [Tryz.f167, go_sem, e0, c0, e1]
  rw [szI_pos (by omega)] at e1
  rw [szI_pos (b := bulkL GParam.bulk x.Params + x.Result.bulk) (by omega)]
  simp [Tryz.f167, go_sem, e0, c0, e1, c1]
  try omega
set_option maxHeartbeats 4000000 in
theorem szFunc_eq (x : GFunc) (hx : x.Fits) (left : Int) (h0 : 0 ≤ left) (h1 : left ≤ 1048576) : dPure CC 136 [x.enc, .int .i64 left] = some (.int .i64 (szI x.bulk left)) := by
  rw [GFunc.fits_eq] at hx
  rw [GFunc.bulk_eq]
  rw [dPure_eq (C := CC) _ rfl rfl Tryz.func136 rfl]
  have b0 := hx.1
  have w0 : IntKind.i64.wrap (left - (x.Name.length : Int)) = left - (x.Name.length : Int) := wrap64 (by omega) (by omega)
  by_cases c0 : left - (x.Name.length : Int) < 0
  · rw [szI_neg (b := x.Name.length + x.Ty.bulk) (by omega)]
    simp [Tryz.f136, go_sem, c0, w0]
  have e1 := szFuncType_eq x.Ty hx.2 (left - (x.Name.length : Int)) (by omega) (by omega)
  by_cases c1 : left - (x.Name.length : Int) - ((x.Ty.bulk : Nat) : Int) < 0
  · rw [szI_neg (by omega)] at e1
    rw [szI_neg (b := x.Name.length + x.Ty.bulk) (by omega)]
    simp [Tryz.f136, go_sem, w0, c0, e1]
  rw [szI_pos (by omega)] at e1
  rw [szI_pos (b := x.Name.length + x.Ty.bulk) (by omega)]
  simp [Tryz.f136, go_sem, w0, c0, e1, c1]
  try omega
set_option maxHeartbeats 4000000 in
theorem szFuncS_eq (xs : List GFunc) (hl : xs.length ≤ 9223372036854775807) (hs : ∀ y ∈ xs, y.Fits) (left : Int) (h0 : 0 ≤ left) (h1 : left ≤ 1048576) : dPure CC 92 [.slice false (xs.map GFunc.enc), .int .i64 left] = some (.int .i64 (szI (bulkL GFunc.bulk xs) left)) := by
  have w0 : IntKind.i64.wrap (left - (xs.length : Int)) = left - xs.length := wrap64 (by omega) (by omega)
  rw [dPure_eq (C := CC) _ rfl rfl Tryz.func92 rfl]
  unfold bulkL
  by_cases c0 : left - (xs.length : Int) < 0
  · rw [szI_neg (by omega)]
    simp [Tryz.f92, go_sem, w0, c0]
  simp [Tryz.f92, go_sem, w0, c0]
  generalize hc : dCode CC 0 (Code.loop _) _ _ = r
  have hL : Runs r fun o env' H' => ((o = .exit 0 ∧ env' 1 = .int .i64 (szI (xs.length + (xs.map GFunc.bulk).sum) left)) ∨ (o = .ret ∧ env' 4 = .int .i64 (-1) ∧ szI (xs.length + (xs.map GFunc.bulk).sum) left = -1)) := by
    rw [← hc]
    refine loop_rule (fun k env H => ∃ (i : Nat) (l : Int), k + i = xs.length ∧ env 0 = .slice false (xs.map GFunc.enc) ∧ env 5 = .int .i64 i ∧ env 1 = .int .i64 l ∧ 0 ≤ l ∧ l = left - xs.length - sumTo GFunc.bulk xs i) _ ?_ xs.length _ _
      ⟨0, left - xs.length, by simp, by simp [go_sem], by simp [go_sem], by simp [go_sem], by omega, by simp [sumTo]⟩
    clear hc
    rintro k env H ⟨i, l, hk, e0, e5, e1, hl0, hl1⟩
    by_cases hi : i < xs.length
    · have hm := List.getElem_mem hi
      have hsu := sumTo_succ GFunc.bulk xs i hi
      have hle := sumTo_le GFunc.bulk xs (i + 1)
      have hw2 := wrapS (i := i) (by omega)
      have hE := szFunc_eq xs[i] (hs _ hm) l hl0 (by omega)
      by_cases c1 : l - ((GFunc.bulk xs[i] : Nat) : Int) < 0
      · rw [szI_neg (by omega)] at hE
        simp [go_sem, e0, e5, e1, hi, hE, hw2, c1]
        exact szI_neg (by omega)
      · rw [szI_pos (by omega)] at hE
        simp [go_sem, e0, e5, e1, hi, hE, hw2, c1]
        exact ⟨k - 1, by omega, i + 1, by omega, rfl, by omega, by omega⟩
    · have hle := sumTo_all GFunc.bulk xs i (by omega)
      simp [go_sem, e0, e5, e1, hi]
      rw [szI_pos (by omega)]
      omega
  obtain ⟨o, env', H', rfl, h⟩ := hL
  rcases h with ⟨rfl, h1⟩ | ⟨rfl, h1, h2⟩
  · simp [go_sem, h1]
  · simp [go_sem, h1, h2]
set_option maxHeartbeats 4000000 in
theorem szFace_eq (x : GFace) (hx : x.Fits) (left : Int) (h0 : 0 ≤ left) (h1 : left ≤ 1048576) : dPure CC 50 [x.enc, .int .i64 left] = some (.int .i64 (szI x.bulk left)) := by
  rw [GFace.fits_eq] at hx
  rw [GFace.bulk_eq]
  rw [dPure_eq (C := CC) _ rfl rfl Tryz.func50 rfl]
  have b0 := hx.1
  have w0 : IntKind.i64.wrap (left - (x.Package.length : Int)) = left - (x.Package.length : Int) := wrap64 (by omega) (by omega)
  by_cases c0 : left - (x.Package.length : Int) < 0
  · rw [szI_neg (b := x.Package.length + x.Name.length + x.Version.length + bulkL List.length x.Resources + bulkL GFunc.bulk x.Funcs) (by omega)]
    simp [Tryz.f50, go_sem, c0, w0]
  have b1 := hx.2.1
  have w1 : IntKind.i64.wrap (left - (x.Package.length : Int) - (x.Name.length : Int)) = left - (x.Package.length : Int) - (x.Name.length : Int) := wrap64 (by omega) (by omega)
  by_cases c1 : left - (x.Package.length : Int) - (x.Name.length : Int) < 0
  · rw [szI_neg (b := x.Package.length + x.Name.length + x.Version.length + bulkL List.length x.Resources + bulkL GFunc.bulk x.Funcs) (by omega)]
    simp [Tryz.f50, go_sem, c1, w0, c0, w1]
  have b2 := hx.2.2.1
  have w2 : IntKind.i64.wrap (left - (x.Package.length : Int) - (x.Name.length : Int) - (x.Version.length : Int)) = left - (x.Package.length : Int) - (x.Name.length : Int) - (x.Version.length : Int) := wrap64 (by omega) (by omega)
  by_cases c2 : left - (x.Package.length : Int) - (x.Name.length : Int) - (x.Version.length : Int) < 0
  · rw [szI_neg (b := x.Package.length + x.Name.length + x.Version.length + bulkL List.length x.Resources + bulkL GFunc.bulk x.Funcs) (by omega)]
    simp [Tryz.f50, go_sem, c2, w0, c0, w1, c1, w2]
  have e3 := szStringS_eq x.Resources hx.2.2.2.1.1 hx.2.2.2.1.2 (left - (x.Package.length : Int) - (x.Name.length : Int) - (x.Version.length : Int)) (by omega) (by omega)
  by_cases c3 : left - (x.Package.length : Int) - (x.Name.length : Int) - (x.Version.length : Int) - ((bulkL List.length x.Resources : Nat) : Int) < 0
  · rw [szI_neg (by omega)] at e3
    rw [szI_neg (b := x.Package.length + x.Name.length + x.Version.length + bulkL List.length x.Resources + bulkL GFunc.bulk x.Funcs) (by omega)]
    simp [Tryz.f50, go_sem, w0, c0, w1, c1, w2, c2, e3]
  rw [szI_pos (by omega)] at e3
  have e4 := szFuncS_eq x.Funcs hx.2.2.2.2.1 hx.2.2.2.2.2 (left - (x.Package.length : Int) - (x.Name.length : Int) - (x.Version.length : Int) - ((bulkL List.length x.Resources : Nat) : Int)) (by omega) (by omega)
  by_cases c4 : left - (x.Package.length : Int) - (x.Name.length : Int) - (x.Version.length : Int) - ((bulkL List.length x.Resources : Nat) : Int) - ((bulkL GFunc.bulk x.Funcs : Nat) : Int) < 0
  · rw [szI_neg (by omega)] at e4
    rw [szI_neg (b := x.Package.length + x.Name.length + x.Version.length + bulkL List.length x.Resources + bulkL GFunc.bulk x.Funcs) (by omega)]
    simp [Tryz.f50, go_sem, w0, c0, w1, c1, w2, c2, e3, c3, e4]
  rw [szI_pos (by omega)] at e4
  rw [szI_pos (b := x.Package.length + x.Name.length + x.Version.length + bulkL List.length x.Resources + bulkL GFunc.bulk x.Funcs) (by omega)]
  simp [Tryz.f50, go_sem, w0, c0, w1, c1, w2, c2, e3, c3, e4, c4]
  try omega
set_option maxHeartbeats 4000000 in
theorem szFaceS_eq (xs : List GFace) (hl : xs.length ≤ 9223372036854775807) (hs : ∀ y ∈ xs, y.Fits) (left : Int) (h0 : 0 ≤ left) (h1 : left ≤ 1048576) : dPure CC 15 [.slice false (xs.map GFace.enc), .int .i64 left] = some (.int .i64 (szI (bulkL GFace.bulk xs) left)) := by
  have w0 : IntKind.i64.wrap (left - (xs.length : Int)) = left - xs.length := wrap64 (by omega) (by omega)
  rw [dPure_eq (C := CC) _ rfl rfl Tryz.func15 rfl]
  unfold bulkL
  by_cases c0 : left - (xs.length : Int) < 0
  · rw [szI_neg (by omega)]
    simp [Tryz.f15, go_sem, w0, c0]
  simp [Tryz.f15, go_sem, w0, c0]
  generalize hc : dCode CC 0 (Code.loop _) _ _ = r
  have hL : Runs r fun o env' H' => ((o = .exit 0 ∧ env' 1 = .int .i64 (szI (xs.length + (xs.map GFace.bulk).sum) left)) ∨ (o = .ret ∧ env' 4 = .int .i64 (-1) ∧ szI (xs.length + (xs.map GFace.bulk).sum) left = -1)) := by
    rw [← hc]
    refine loop_rule (fun k env H => ∃ (i : Nat) (l : Int), k + i = xs.length ∧ env 0 = .slice false (xs.map GFace.enc) ∧ env 5 = .int .i64 i ∧ env 1 = .int .i64 l ∧ 0 ≤ l ∧ l = left - xs.length - sumTo GFace.bulk xs i) _ ?_ xs.length _ _
      ⟨0, left - xs.length, by simp, by simp [go_sem], by simp [go_sem], by simp [go_sem], by omega, by simp [sumTo]⟩
    clear hc
    rintro k env H ⟨i, l, hk, e0, e5, e1, hl0, hl1⟩
    by_cases hi : i < xs.length
    · have hm := List.getElem_mem hi
      have hsu := sumTo_succ GFace.bulk xs i hi
      have hle := sumTo_le GFace.bulk xs (i + 1)
      have hw2 := wrapS (i := i) (by omega)
      have hE := szFace_eq xs[i] (hs _ hm) l hl0 (by omega)
      by_cases c1 : l - ((GFace.bulk xs[i] : Nat) : Int) < 0
      · rw [szI_neg (by omega)] at hE
        simp [go_sem, e0, e5, e1, hi, hE, hw2, c1]
        exact szI_neg (by omega)
      · rw [szI_pos (by omega)] at hE
        simp [go_sem, e0, e5, e1, hi, hE, hw2, c1]
        exact ⟨k - 1, by omega, i + 1, by omega, rfl, by omega, by omega⟩
    · have hle := sumTo_all GFace.bulk xs i (by omega)
      simp [go_sem, e0, e5, e1, hi]
      rw [szI_pos (by omega)]
      omega
  obtain ⟨o, env', H', rfl, h⟩ := hL
  rcases h with ⟨rfl, h1⟩ | ⟨rfl, h1, h2⟩
  · simp [go_sem, h1]
  · simp [go_sem, h1, h2]
set_option maxHeartbeats 4000000 in
theorem szBlockS_eq (xs : List GBlock) (hl : xs.length ≤ 9223372036854775807) (hs : ∀ y ∈ xs, y.Fits) (left : Int) (h0 : 0 ≤ left) (h1 : left ≤ 1048576) : dPure CC 120 [.slice false (xs.map GBlock.enc), .int .i64 left] = some (.int .i64 (szI (bulkL GBlock.bulk xs) left)) := by
  have w0 : IntKind.i64.wrap (left - (xs.length : Int)) = left - xs.length := wrap64 (by omega) (by omega)
  rw [dPure_eq (C := CC) _ rfl rfl Tryz.func120 rfl]
  unfold bulkL
  by_cases c0 : left - (xs.length : Int) < 0
  · rw [szI_neg (by omega)]
    simp [Tryz.f120, go_sem, w0, c0]
  rw [szI_pos (by rw [sum_zero (fun _ => by rw [GBlock.bulk_eq])]; omega), sum_zero (fun _ => by rw [GBlock.bulk_eq])]
  simp [Tryz.f120, go_sem, w0, c0]
set_option maxHeartbeats 4000000 in
theorem szMemory_eq (x : GMemory) (hx : x.Fits) (left : Int) (h0 : 0 ≤ left) (h1 : left ≤ 1048576) : dPure CC 69 [x.enc, .int .i64 left] = some (.int .i64 (szI x.bulk left)) := by
  rw [GMemory.fits_eq] at hx
  rw [GMemory.bulk_eq]
  rw [dPure_eq (C := CC) _ rfl rfl Tryz.func69 rfl]
  have b0 := hx.1
  have w0 : IntKind.i64.wrap (left - (x.Bytes.length : Int)) = left - (x.Bytes.length : Int) := wrap64 (by omega) (by omega)
  by_cases c0 : left - (x.Bytes.length : Int) < 0
  · rw [szI_neg (b := x.Bytes.length + bulkL GBlock.bulk x.Free) (by omega)]
    simp [Tryz.f69, go_sem, c0, w0]
  have e1 := szBlockS_eq x.Free hx.2.1 hx.2.2 (left - (x.Bytes.length : Int)) (by omega) (by omega)
  by_cases c1 : left - (x.Bytes.length : Int) - ((bulkL GBlock.bulk x.Free : Nat) : Int) < 0
  · rw [szI_neg (by omega)] at e1
    rw [szI_neg (b := x.Bytes.length + bulkL GBlock.bulk x.Free) (by omega)]
    simp [Tryz.f69, go_sem, w0, c0, e1]
  rw [szI_pos (by omega)] at e1
  rw [szI_pos (b := x.Bytes.length + bulkL GBlock.bulk x.Free) (by omega)]
  simp [Tryz.f69, go_sem, w0, c0, e1, c1]
  try omega
set_option maxHeartbeats 4000000 in
theorem szMemoryS_eq (xs : List GMemory) (hl : xs.length ≤ 9223372036854775807) (hs : ∀ y ∈ xs, y.Fits) (left : Int) (h0 : 0 ≤ left) (h1 : left ≤ 1048576) : dPure CC 33 [.slice false (xs.map GMemory.enc), .int .i64 left] = some (.int .i64 (szI (bulkL GMemory.bulk xs) left)) := by
  have w0 : IntKind.i64.wrap (left - (xs.length : Int)) = left - xs.length := wrap64 (by omega) (by omega)
  rw [dPure_eq (C := CC) _ rfl rfl Tryz.func33 rfl]
  unfold bulkL
  by_cases c0 : left - (xs.length : Int) < 0
  · rw [szI_neg (by omega)]
    simp [Tryz.f33, go_sem, w0, c0]
  simp [Tryz.f33, go_sem, w0, c0]
  generalize hc : dCode CC 0 (Code.loop _) _ _ = r
  have hL : Runs r fun o env' H' => ((o = .exit 0 ∧ env' 1 = .int .i64 (szI (xs.length + (xs.map GMemory.bulk).sum) left)) ∨ (o = .ret ∧ env' 4 = .int .i64 (-1) ∧ szI (xs.length + (xs.map GMemory.bulk).sum) left = -1)) := by
    rw [← hc]
    refine loop_rule (fun k env H => ∃ (i : Nat) (l : Int), k + i = xs.length ∧ env 0 = .slice false (xs.map GMemory.enc) ∧ env 5 = .int .i64 i ∧ env 1 = .int .i64 l ∧ 0 ≤ l ∧ l = left - xs.length - sumTo GMemory.bulk xs i) _ ?_ xs.length _ _
      ⟨0, left - xs.length, by simp, by simp [go_sem], by simp [go_sem], by simp [go_sem], by omega, by simp [sumTo]⟩
    clear hc
    rintro k env H ⟨i, l, hk, e0, e5, e1, hl0, hl1⟩
    by_cases hi : i < xs.length
    · have hm := List.getElem_mem hi
      have hsu := sumTo_succ GMemory.bulk xs i hi
      have hle := sumTo_le GMemory.bulk xs (i + 1)
      have hw2 := wrapS (i := i) (by omega)
      have hE := szMemory_eq xs[i] (hs _ hm) l hl0 (by omega)
      by_cases c1 : l - ((GMemory.bulk xs[i] : Nat) : Int) < 0
      · rw [szI_neg (by omega)] at hE
        simp [go_sem, e0, e5, e1, hi, hE, hw2, c1]
        exact szI_neg (by omega)
      · rw [szI_pos (by omega)] at hE
        simp [go_sem, e0, e5, e1, hi, hE, hw2, c1]
        exact ⟨k - 1, by omega, i + 1, by omega, rfl, by omega, by omega⟩
    · have hle := sumTo_all GMemory.bulk xs i (by omega)
      simp [go_sem, e0, e5, e1, hi]
      rw [szI_pos (by omega)]
      omega
  obtain ⟨o, env', H', rfl, h⟩ := hL
  rcases h with ⟨rfl, h1⟩ | ⟨rfl, h1, h2⟩
  · simp [go_sem, h1]
  · simp [go_sem, h1, h2]
end Go.Proofs.YtdlkndnlpgmdaaaGreat.V
