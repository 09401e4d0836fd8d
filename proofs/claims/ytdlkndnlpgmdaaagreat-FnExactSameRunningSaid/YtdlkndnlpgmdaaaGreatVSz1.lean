/- What the size functions of the laws compute in V. Conditions: whole numbers and lengths in the ranges of their Go types; the measure at most 2^20. -/
import Derived.Test.YtdlkndnlpgmdaaaGreatVSz0
namespace Go.Proofs.YtdlkndnlpgmdaaaGreat.V
open Go Go.V Go.Proofs
set_option linter.unusedSimpArgs false
set_option linter.unusedVariables false

set_option maxHeartbeats 4000000 in
theorem szInsS_eq (xs : List GIns) (hl : xs.length ≤ 9223372036854775807) (hs : ∀ y ∈ xs, y.Fits) (left : Int) (h0 : 0 ≤ left) (h1 : left ≤ 1048576) : dPure CC 184 [.slice false (xs.map GIns.enc), .int .i64 left] = some (.int .i64 (szI (bulkL GIns.bulk xs) left)) := by
  have w0 : IntKind.i64.wrap (left - (xs.length : Int)) = left - xs.length := wrap64 (by omega) (by omega)
  rw [dPure_eq (C := CC) _ rfl rfl Tryz.func184 rfl]
  unfold bulkL
  by_cases c0 : left - (xs.length : Int) < 0
  · rw [szI_neg (by omega)]
    simp [Tryz.f184, go_sem, w0, c0]
  rw [szI_pos (by rw [sum_zero (fun _ => by rw [GIns.bulk_eq])]; omega), sum_zero (fun _ => by rw [GIns.bulk_eq])]
  simp [Tryz.f184, go_sem, w0, c0]
set_option maxHeartbeats 4000000 in
theorem szCore_eq (x : GCore) (hx : x.Fits) (left : Int) (h0 : 0 ≤ left) (h1 : left ≤ 1048576) : dPure CC 169 [x.enc, .int .i64 left] = some (.int .i64 (szI x.bulk left)) := by
  rw [GCore.fits_eq] at hx
  rw [GCore.bulk_eq]
  rw [dPure_eq (C := CC) _ rfl rfl Tryz.func169 rfl]
  have b0 := hx.1
  have w0 : IntKind.i64.wrap (left - (x.Name.length : Int)) = left - (x.Name.length : Int) := wrap64 (by omega) (by omega)
  by_cases c0 : left - (x.Name.length : Int) < 0
  · rw [szI_neg (b := x.Name.length + bulkL GIns.bulk x.Code) (by omega)]
    simp [Tryz.f169, go_sem, c0, w0]
  have e1 := szInsS_eq x.Code hx.2.2.2.2.1 hx.2.2.2.2.2 (left - (x.Name.length : Int)) (by omega) (by omega)
  by_cases c1 : left - (x.Name.length : Int) - ((bulkL GIns.bulk x.Code : Nat) : Int) < 0
  · rw [szI_neg (by omega)] at e1
    rw [szI_neg (b := x.Name.length + bulkL GIns.bulk x.Code) (by omega)]
    simp [Tryz.f169, go_sem, w0, c0, e1]
  rw [szI_pos (by omega)] at e1
  rw [szI_pos (b := x.Name.length + bulkL GIns.bulk x.Code) (by omega)]
  simp [Tryz.f169, go_sem, w0, c0, e1, c1]
  try omega
set_option maxHeartbeats 4000000 in
theorem szCoreS_eq (xs : List GCore) (hl : xs.length ≤ 9223372036854775807) (hs : ∀ y ∈ xs, y.Fits) (left : Int) (h0 : 0 ≤ left) (h1 : left ≤ 1048576) : dPure CC 138 [.slice false (xs.map GCore.enc), .int .i64 left] = some (.int .i64 (szI (bulkL GCore.bulk xs) left)) := by
  have w0 : IntKind.i64.wrap (left - (xs.length : Int)) = left - xs.length := wrap64 (by omega) (by omega)
  rw [dPure_eq (C := CC) _ rfl rfl Tryz.func138 rfl]
  unfold bulkL
  by_cases c0 : left - (xs.length : Int) < 0
  · rw [szI_neg (by omega)]
    simp [Tryz.f138, go_sem, w0, c0]
  simp [Tryz.f138, go_sem, w0, c0]
  generalize hc : dCode CC 0 (Code.loop _) _ _ = r
  have hL : Runs r fun o env' H' => ((o = .exit 0 ∧ env' 1 = .int .i64 (szI (xs.length + (xs.map GCore.bulk).sum) left)) ∨ (o = .ret ∧ env' 4 = .int .i64 (-1) ∧ szI (xs.length + (xs.map GCore.bulk).sum) left = -1)) := by
    rw [← hc]
    refine loop_rule (fun k env H => ∃ (i : Nat) (l : Int), k + i = xs.length ∧ env 0 = .slice false (xs.map GCore.enc) ∧ env 5 = .int .i64 i ∧ env 1 = .int .i64 l ∧ 0 ≤ l ∧ l = left - xs.length - sumTo GCore.bulk xs i) _ ?_ xs.length _ _
      ⟨0, left - xs.length, by simp, by simp [go_sem], by simp [go_sem], by simp [go_sem], by omega, by simp [sumTo]⟩
    clear hc
    rintro k env H ⟨i, l, hk, e0, e5, e1, hl0, hl1⟩
    by_cases hi : i < xs.length
    · have hm := List.getElem_mem hi
      have hsu := sumTo_succ GCore.bulk xs i hi
      have hle := sumTo_le GCore.bulk xs (i + 1)
      have hw2 := wrapS (i := i) (by omega)
      have hE := szCore_eq xs[i] (hs _ hm) l hl0 (by omega)
      by_cases c1 : l - ((GCore.bulk xs[i] : Nat) : Int) < 0
      · rw [szI_neg (by omega)] at hE
        simp [go_sem, e0, e5, e1, hi, hE, hw2, c1]
        exact szI_neg (by omega)
      · rw [szI_pos (by omega)] at hE
        simp [go_sem, e0, e5, e1, hi, hE, hw2, c1]
        exact ⟨k - 1, by omega, i + 1, by omega, rfl, by omega, by omega⟩
    · have hle := sumTo_all GCore.bulk xs i (by omega)
      simp [go_sem, e0, e5, e1, hi]
      rw [szI_pos (by omega)]
      omega
  obtain ⟨o, env', H', rfl, h⟩ := hL
  rcases h with ⟨rfl, h1⟩ | ⟨rfl, h1, h2⟩
  · simp [go_sem, h1]
  · simp [go_sem, h1, h2]
set_option maxHeartbeats 4000000 in
theorem szImport_eq (x : GImport) (hx : x.Fits) (left : Int) (h0 : 0 ≤ left) (h1 : left ≤ 1048576) : dPure CC 168 [x.enc, .int .i64 left] = some (.int .i64 (szI x.bulk left)) := by
  rw [GImport.fits_eq] at hx
  rw [GImport.bulk_eq]
  rw [dPure_eq (C := CC) _ rfl rfl Tryz.func168 rfl]
  have b0 := hx.1
  have w0 : IntKind.i64.wrap (left - (x.Name.length : Int)) = left - (x.Name.length : Int) := wrap64 (by omega) (by omega)
  by_cases c0 : left - (x.Name.length : Int) < 0
  · rw [szI_neg (b := x.Name.length) (by omega)]
    simp [Tryz.f168, go_sem, c0, w0]
  rw [szI_pos (b := x.Name.length) (by omega)]
  simp [Tryz.f168, go_sem, w0, c0]
  try omega
set_option maxHeartbeats 4000000 in
theorem szImportS_eq (xs : List GImport) (hl : xs.length ≤ 9223372036854775807) (hs : ∀ y ∈ xs, y.Fits) (left : Int) (h0 : 0 ≤ left) (h1 : left ≤ 1048576) : dPure CC 137 [.slice false (xs.map GImport.enc), .int .i64 left] = some (.int .i64 (szI (bulkL GImport.bulk xs) left)) := by
  have w0 : IntKind.i64.wrap (left - (xs.length : Int)) = left - xs.length := wrap64 (by omega) (by omega)
  rw [dPure_eq (C := CC) _ rfl rfl Tryz.func137 rfl]
  unfold bulkL
  by_cases c0 : left - (xs.length : Int) < 0
  · rw [szI_neg (by omega)]
    simp [Tryz.f137, go_sem, w0, c0]
  simp [Tryz.f137, go_sem, w0, c0]
  generalize hc : dCode CC 0 (Code.loop _) _ _ = r
  have hL : Runs r fun o env' H' => ((o = .exit 0 ∧ env' 1 = .int .i64 (szI (xs.length + (xs.map GImport.bulk).sum) left)) ∨ (o = .ret ∧ env' 4 = .int .i64 (-1) ∧ szI (xs.length + (xs.map GImport.bulk).sum) left = -1)) := by
    rw [← hc]
    refine loop_rule (fun k env H => ∃ (i : Nat) (l : Int), k + i = xs.length ∧ env 0 = .slice false (xs.map GImport.enc) ∧ env 5 = .int .i64 i ∧ env 1 = .int .i64 l ∧ 0 ≤ l ∧ l = left - xs.length - sumTo GImport.bulk xs i) _ ?_ xs.length _ _
      ⟨0, left - xs.length, by simp, by simp [go_sem], by simp [go_sem], by simp [go_sem], by omega, by simp [sumTo]⟩
    clear hc
    rintro k env H ⟨i, l, hk, e0, e5, e1, hl0, hl1⟩
    by_cases hi : i < xs.length
    · have hm := List.getElem_mem hi
      have hsu := sumTo_succ GImport.bulk xs i hi
      have hle := sumTo_le GImport.bulk xs (i + 1)
      have hw2 := wrapS (i := i) (by omega)
      have hE := szImport_eq xs[i] (hs _ hm) l hl0 (by omega)
      by_cases c1 : l - ((GImport.bulk xs[i] : Nat) : Int) < 0
      · rw [szI_neg (by omega)] at hE
        simp [go_sem, e0, e5, e1, hi, hE, hw2, c1]
        exact szI_neg (by omega)
      · rw [szI_pos (by omega)] at hE
        simp [go_sem, e0, e5, e1, hi, hE, hw2, c1]
        exact ⟨k - 1, by omega, i + 1, by omega, rfl, by omega, by omega⟩
    · have hle := sumTo_all GImport.bulk xs i (by omega)
      simp [go_sem, e0, e5, e1, hi]
      rw [szI_pos (by omega)]
      omega
  obtain ⟨o, env', H', rfl, h⟩ := hL
  rcases h with ⟨rfl, h1⟩ | ⟨rfl, h1, h2⟩
  · simp [go_sem, h1]
  · simp [go_sem, h1, h2]
set_option maxHeartbeats 4000000 in
theorem szModule_eq (x : GModule) (hx : x.Fits) (left : Int) (h0 : 0 ≤ left) (h1 : left ≤ 1048576) : dPure CC 93 [x.enc, .int .i64 left] = some (.int .i64 (szI x.bulk left)) := by
  rw [GModule.fits_eq] at hx
  rw [GModule.bulk_eq]
  rw [dPure_eq (C := CC) _ rfl rfl Tryz.func93 rfl]
  have e0 := szImportS_eq x.Imports hx.2.1.1 hx.2.1.2 (left) (by omega) (by omega)
  by_cases c0 : left - ((bulkL GImport.bulk x.Imports : Nat) : Int) < 0
  · rw [szI_neg (by omega)] at e0
    rw [szI_neg (b := bulkL GImport.bulk x.Imports + bulkL GCore.bulk x.Cores) (by omega)]
    simp [Tryz.f93, go_sem, e0]
  rw [szI_pos (by omega)] at e0
  have e1 := szCoreS_eq x.Cores hx.2.2.1 hx.2.2.2 (left - ((bulkL GImport.bulk x.Imports : Nat) : Int)) (by omega) (by omega)
  by_cases c1 : left - ((bulkL GImport.bulk x.Imports : Nat) : Int) - ((bulkL GCore.bulk x.Cores : Nat) : Int) < 0
  · rw [szI_neg (by omega)] at e1
    rw [szI_neg (b := bulkL GImport.bulk x.Imports + bulkL GCore.bulk x.Cores) (by omega)]
    simp [Tryz.f93, go_sem, e0, c0, e1]
  rw [szI_pos (by omega)] at e1
  rw [szI_pos (b := bulkL GImport.bulk x.Imports + bulkL GCore.bulk x.Cores) (by omega)]
  simp [Tryz.f93, go_sem, e0, c0, e1, c1]
  try omega
set_option maxHeartbeats 4000000 in
theorem szEntryS_eq (xs : List GEntry) (hl : xs.length ≤ 9223372036854775807) (hs : ∀ y ∈ xs, y.Fits) (left : Int) (h0 : 0 ≤ left) (h1 : left ≤ 1048576) : dPure CC 179 [.slice false (xs.map GEntry.enc), .int .i64 left] = some (.int .i64 (szI (bulkL GEntry.bulk xs) left)) := by
  have w0 : IntKind.i64.wrap (left - (xs.length : Int)) = left - xs.length := wrap64 (by omega) (by omega)
  rw [dPure_eq (C := CC) _ rfl rfl Tryz.func179 rfl]
  unfold bulkL
  by_cases c0 : left - (xs.length : Int) < 0
  · rw [szI_neg (by omega)]
    simp [Tryz.f179, go_sem, w0, c0]
  rw [szI_pos (by rw [sum_zero (fun _ => by rw [GEntry.bulk_eq])]; omega), sum_zero (fun _ => by rw [GEntry.bulk_eq])]
  simp [Tryz.f179, go_sem, w0, c0]
set_option maxHeartbeats 4000000 in
theorem szTable_eq (x : GTable) (hx : x.Fits) (left : Int) (h0 : 0 ≤ left) (h1 : left ≤ 1048576) : dPure CC 160 [x.enc, .int .i64 left] = some (.int .i64 (szI x.bulk left)) := by
  rw [GTable.fits_eq] at hx
  rw [GTable.bulk_eq]
  rw [dPure_eq (C := CC) _ rfl rfl Tryz.func160 rfl]
  have e0 := szEntryS_eq x.Entries hx.2.1 hx.2.2 (left) (by omega) (by omega)
  by_cases c0 : left - ((bulkL GEntry.bulk x.Entries : Nat) : Int) < 0
  · rw [szI_neg (by omega)] at e0
    rw [szI_neg (b := bulkL GEntry.bulk x.Entries) (by omega)]
    simp [Tryz.f160, go_sem, e0]
  rw [szI_pos (by omega)] at e0
  rw [szI_pos (b := bulkL GEntry.bulk x.Entries) (by omega)]
  simp [Tryz.f160, go_sem, e0, c0]
  try omega
set_option maxHeartbeats 4000000 in
theorem szTableS_eq (xs : List GTable) (hl : xs.length ≤ 9223372036854775807) (hs : ∀ y ∈ xs, y.Fits) (left : Int) (h0 : 0 ≤ left) (h1 : left ≤ 1048576) : dPure CC 121 [.slice false (xs.map GTable.enc), .int .i64 left] = some (.int .i64 (szI (bulkL GTable.bulk xs) left)) := by
  have w0 : IntKind.i64.wrap (left - (xs.length : Int)) = left - xs.length := wrap64 (by omega) (by omega)
  rw [dPure_eq (C := CC) _ rfl rfl Tryz.func121 rfl]
  unfold bulkL
  by_cases c0 : left - (xs.length : Int) < 0
  · rw [szI_neg (by omega)]
    simp [Tryz.f121, go_sem, w0, c0]
  simp [Tryz.f121, go_sem, w0, c0]
  generalize hc : dCode CC 0 (Code.loop _) _ _ = r
  have hL : Runs r fun o env' H' => ((o = .exit 0 ∧ env' 1 = .int .i64 (szI (xs.length + (xs.map GTable.bulk).sum) left)) ∨ (o = .ret ∧ env' 4 = .int .i64 (-1) ∧ szI (xs.length + (xs.map GTable.bulk).sum) left = -1)) := by
    rw [← hc]
    refine loop_rule (fun k env H => ∃ (i : Nat) (l : Int), k + i = xs.length ∧ env 0 = .slice false (xs.map GTable.enc) ∧ env 5 = .int .i64 i ∧ env 1 = .int .i64 l ∧ 0 ≤ l ∧ l = left - xs.length - sumTo GTable.bulk xs i) _ ?_ xs.length _ _
      ⟨0, left - xs.length, by simp, by simp [go_sem], by simp [go_sem], by simp [go_sem], by omega, by simp [sumTo]⟩
    clear hc
    rintro k env H ⟨i, l, hk, e0, e5, e1, hl0, hl1⟩
    by_cases hi : i < xs.length
    · have hm := List.getElem_mem hi
      have hsu := sumTo_succ GTable.bulk xs i hi
      have hle := sumTo_le GTable.bulk xs (i + 1)
      have hw2 := wrapS (i := i) (by omega)
      have hE := szTable_eq xs[i] (hs _ hm) l hl0 (by omega)
      by_cases c1 : l - ((GTable.bulk xs[i] : Nat) : Int) < 0
      · rw [szI_neg (by omega)] at hE
        simp [go_sem, e0, e5, e1, hi, hE, hw2, c1]
        exact szI_neg (by omega)
      · rw [szI_pos (by omega)] at hE
        simp [go_sem, e0, e5, e1, hi, hE, hw2, c1]
        exact ⟨k - 1, by omega, i + 1, by omega, rfl, by omega, by omega⟩
    · have hle := sumTo_all GTable.bulk xs i (by omega)
      simp [go_sem, e0, e5, e1, hi]
      rw [szI_pos (by omega)]
      omega
  obtain ⟨o, env', H', rfl, h⟩ := hL
  rcases h with ⟨rfl, h1⟩ | ⟨rfl, h1, h2⟩
  · simp [go_sem, h1]
  · simp [go_sem, h1, h2]
set_option maxHeartbeats 4000000 in
theorem szThingS_eq (xs : List GThing) (hl : xs.length ≤ 9223372036854775807) (hs : ∀ y ∈ xs, y.Fits) (left : Int) (h0 : 0 ≤ left) (h1 : left ≤ 1048576) : dPure CC 122 [.slice false (xs.map GThing.enc), .int .i64 left] = some (.int .i64 (szI (bulkL GThing.bulk xs) left)) := by
  have w0 : IntKind.i64.wrap (left - (xs.length : Int)) = left - xs.length := wrap64 (by omega) (by omega)
  rw [dPure_eq (C := CC) _ rfl rfl Tryz.func122 rfl]
  unfold bulkL
  by_cases c0 : left - (xs.length : Int) < 0
  · rw [szI_neg (by omega)]
    simp [Tryz.f122, go_sem, w0, c0]
  rw [szI_pos (by rw [sum_zero (fun _ => by rw [GThing.bulk_eq])]; omega), sum_zero (fun _ => by rw [GThing.bulk_eq])]
  simp [Tryz.f122, go_sem, w0, c0]
set_option maxHeartbeats 4000000 in
theorem szShelf_eq (x : GShelf) (hx : x.Fits) (left : Int) (h0 : 0 ≤ left) (h1 : left ≤ 1048576) : dPure CC 70 [x.enc, .int .i64 left] = some (.int .i64 (szI x.bulk left)) := by
  rw [GShelf.fits_eq] at hx
  rw [GShelf.bulk_eq]
  rw [dPure_eq (C := CC) _ rfl rfl Tryz.func70 rfl]
  have e0 := szTableS_eq x.Tables hx.2.1.1 hx.2.1.2 (left) (by omega) (by omega)
  by_cases c0 : left - ((bulkL GTable.bulk x.Tables : Nat) : Int) < 0
  · rw [szI_neg (by omega)] at e0
    rw [szI_neg (b := bulkL GTable.bulk x.Tables + bulkL GThing.bulk x.Things) (by omega)]
    simp [Tryz.f70, go_sem, e0]
  rw [szI_pos (by omega)] at e0
  have e1 := szThingS_eq x.Things hx.2.2.1 hx.2.2.2 (left - ((bulkL GTable.bulk x.Tables : Nat) : Int)) (by omega) (by omega)
  by_cases c1 : left - ((bulkL GTable.bulk x.Tables : Nat) : Int) - ((bulkL GThing.bulk x.Things : Nat) : Int) < 0
  · rw [szI_neg (by omega)] at e1
    rw [szI_neg (b := bulkL GTable.bulk x.Tables + bulkL GThing.bulk x.Things) (by omega)]
    simp [Tryz.f70, go_sem, e0, c0, e1]
  rw [szI_pos (by omega)] at e1
  rw [szI_pos (b := bulkL GTable.bulk x.Tables + bulkL GThing.bulk x.Things) (by omega)]
  simp [Tryz.f70, go_sem, e0, c0, e1, c1]
  try omega
set_option maxHeartbeats 4000000 in
theorem szCall_eq (x : GCall) (hx : x.Fits) (left : Int) (h0 : 0 ≤ left) (h1 : left ≤ 1048576) : dPure CC 123 [x.enc, .int .i64 left] = some (.int .i64 (szI x.bulk left)) := by
  rw [GCall.fits_eq] at hx
  rw [GCall.bulk_eq]
  rw [dPure_eq (C := CC) _ rfl rfl Tryz.func123 rfl]
  have e0 := szInt64S_eq x.Args hx.2.2.2.1 hx.2.2.2.2 (left) (by omega) (by omega)
  by_cases c0 : left - ((bulkL (fun _ : Int => 0) x.Args : Nat) : Int) < 0
  · rw [szI_neg (by omega)] at e0
    rw [szI_neg (b := bulkL (fun _ : Int => 0) x.Args) (by omega)]
    simp [Tryz.f123, go_sem, e0]
  rw [szI_pos (by omega)] at e0
  rw [szI_pos (b := bulkL (fun _ : Int => 0) x.Args) (by omega)]
  simp [Tryz.f123, go_sem, e0, c0]
  try omega
set_option maxHeartbeats 4000000 in
theorem szCallS_eq (xs : List GCall) (hl : xs.length ≤ 9223372036854775807) (hs : ∀ y ∈ xs, y.Fits) (left : Int) (h0 : 0 ≤ left) (h1 : left ≤ 1048576) : dPure CC 71 [.slice false (xs.map GCall.enc), .int .i64 left] = some (.int .i64 (szI (bulkL GCall.bulk xs) left)) := by
  have w0 : IntKind.i64.wrap (left - (xs.length : Int)) = left - xs.length := wrap64 (by omega) (by omega)
  rw [dPure_eq (C := CC) _ rfl rfl Tryz.func71 rfl]
  unfold bulkL
  by_cases c0 : left - (xs.length : Int) < 0
  · rw [szI_neg (by omega)]
    simp [Tryz.f71, go_sem, w0, c0]
  simp [Tryz.f71, go_sem, w0, c0]
  generalize hc : dCode CC 0 (Code.loop _) _ _ = r
  have hL : Runs r fun o env' H' => ((o = .exit 0 ∧ env' 1 = .int .i64 (szI (xs.length + (xs.map GCall.bulk).sum) left)) ∨ (o = .ret ∧ env' 4 = .int .i64 (-1) ∧ szI (xs.length + (xs.map GCall.bulk).sum) left = -1)) := by
    rw [← hc]
    refine loop_rule (fun k env H => ∃ (i : Nat) (l : Int), k + i = xs.length ∧ env 0 = .slice false (xs.map GCall.enc) ∧ env 5 = .int .i64 i ∧ env 1 = .int .i64 l ∧ 0 ≤ l ∧ l = left - xs.length - sumTo GCall.bulk xs i) _ ?_ xs.length _ _
      ⟨0, left - xs.length, by simp, by simp [go_sem], by simp [go_sem], by simp [go_sem], by omega, by simp [sumTo]⟩
    clear hc
    rintro k env H ⟨i, l, hk, e0, e5, e1, hl0, hl1⟩
    by_cases hi : i < xs.length
    · have hm := List.getElem_mem hi
      have hsu := sumTo_succ GCall.bulk xs i hi
      have hle := sumTo_le GCall.bulk xs (i + 1)
      have hw2 := wrapS (i := i) (by omega)
      have hE := szCall_eq xs[i] (hs _ hm) l hl0 (by omega)
      by_cases c1 : l - ((GCall.bulk xs[i] : Nat) : Int) < 0
      · rw [szI_neg (by omega)] at hE
        simp [go_sem, e0, e5, e1, hi, hE, hw2, c1]
        exact szI_neg (by omega)
      · rw [szI_pos (by omega)] at hE
        simp [go_sem, e0, e5, e1, hi, hE, hw2, c1]
        exact ⟨k - 1, by omega, i + 1, by omega, rfl, by omega, by omega⟩
    · have hle := sumTo_all GCall.bulk xs i (by omega)
      simp [go_sem, e0, e5, e1, hi]
      rw [szI_pos (by omega)]
      omega
  obtain ⟨o, env', H', rfl, h⟩ := hL
  rcases h with ⟨rfl, h1⟩ | ⟨rfl, h1, h2⟩
  · simp [go_sem, h1]
  · simp [go_sem, h1, h2]
set_option maxHeartbeats 4000000 in
theorem szYard_eq (x : GYard) (hx : x.Fits) (left : Int) (h0 : 0 ≤ left) (h1 : left ≤ 1048576) : dPure CC 34 [x.enc, .int .i64 left] = some (.int .i64 (szI x.bulk left)) := by
  rw [GYard.fits_eq] at hx
  rw [GYard.bulk_eq]
  rw [dPure_eq (C := CC) _ rfl rfl Tryz.func34 rfl]
  have e0 := szShelf_eq x.Shelf hx.1 (left) (by omega) (by omega)
  by_cases c0 : left - ((x.Shelf.bulk : Nat) : Int) < 0
  · rw [szI_neg (by omega)] at e0
    rw [szI_neg (b := x.Shelf.bulk + bulkL GCall.bulk x.Stack + bulkL (fun _ : Int => 0) x.Dead) (by omega)]
    simp [Tryz.f34, go_sem, e0]
  rw [szI_pos (by omega)] at e0
  have e1 := szCallS_eq x.Stack hx.2.1.1 hx.2.1.2 (left - ((x.Shelf.bulk : Nat) : Int)) (by omega) (by omega)
  by_cases c1 : left - ((x.Shelf.bulk : Nat) : Int) - ((bulkL GCall.bulk x.Stack : Nat) : Int) < 0
  · rw [szI_neg (by omega)] at e1
    rw [szI_neg (b := x.Shelf.bulk + bulkL GCall.bulk x.Stack + bulkL (fun _ : Int => 0) x.Dead) (by omega)]
    simp [Tryz.f34, go_sem, e0, c0, e1]
  rw [szI_pos (by omega)] at e1
  have e2 := szInt64S_eq x.Dead hx.2.2.2.1 hx.2.2.2.2 (left - ((x.Shelf.bulk : Nat) : Int) - ((bulkL GCall.bulk x.Stack : Nat) : Int)) (by omega) (by omega)
  by_cases c2 : left - ((x.Shelf.bulk : Nat) : Int) - ((bulkL GCall.bulk x.Stack : Nat) : Int) - ((bulkL (fun _ : Int => 0) x.Dead : Nat) : Int) < 0
  · rw [szI_neg (by omega)] at e2
    rw [szI_neg (b := x.Shelf.bulk + bulkL GCall.bulk x.Stack + bulkL (fun _ : Int => 0) x.Dead) (by omega)]
    simp [Tryz.f34, go_sem, e0, c0, e1, c1, e2]
  rw [szI_pos (by omega)] at e2
  rw [szI_pos (b := x.Shelf.bulk + bulkL GCall.bulk x.Stack + bulkL (fun _ : Int => 0) x.Dead) (by omega)]
  simp [Tryz.f34, go_sem, e0, c0, e1, c1, e2, c2]
  try omega
set_option maxHeartbeats 4000000 in
theorem szLift_eq (x : GLift) (hx : x.Fits) (left : Int) (h0 : 0 ≤ left) (h1 : left ≤ 1048576) : dPure CC 139 [x.enc, .int .i64 left] = some (.int .i64 (szI x.bulk left)) := by
  rw [GLift.fits_eq] at hx
  rw [GLift.bulk_eq]
  rw [dPure_eq (C := CC) _ rfl rfl Tryz.func139 rfl]
  have b0 := hx.1
  have w0 : IntKind.i64.wrap (left - (x.Face.length : Int)) = left - (x.Face.length : Int) := wrap64 (by omega) (by omega)
  by_cases c0 : left - (x.Face.length : Int) < 0
  · rw [szI_neg (b := x.Face.length + x.Func.length + x.Core.length) (by omega)]
    simp [Tryz.f139, go_sem, c0, w0]
  have b1 := hx.2.1
  have w1 : IntKind.i64.wrap (left - (x.Face.length : Int) - (x.Func.length : Int)) = left - (x.Face.length : Int) - (x.Func.length : Int) := wrap64 (by omega) (by omega)
  by_cases c1 : left - (x.Face.length : Int) - (x.Func.length : Int) < 0
  · rw [szI_neg (b := x.Face.length + x.Func.length + x.Core.length) (by omega)]
    simp [Tryz.f139, go_sem, c1, w0, c0, w1]
  have b2 := hx.2.2
  have w2 : IntKind.i64.wrap (left - (x.Face.length : Int) - (x.Func.length : Int) - (x.Core.length : Int)) = left - (x.Face.length : Int) - (x.Func.length : Int) - (x.Core.length : Int) := wrap64 (by omega) (by omega)
  by_cases c2 : left - (x.Face.length : Int) - (x.Func.length : Int) - (x.Core.length : Int) < 0
  · rw [szI_neg (b := x.Face.length + x.Func.length + x.Core.length) (by omega)]
    simp [Tryz.f139, go_sem, c2, w0, c0, w1, c1, w2]
  rw [szI_pos (b := x.Face.length + x.Func.length + x.Core.length) (by omega)]
  simp [Tryz.f139, go_sem, w0, c0, w1, c1, w2, c2]
  try omega
set_option maxHeartbeats 4000000 in
theorem szLiftS_eq (xs : List GLift) (hl : xs.length ≤ 9223372036854775807) (hs : ∀ y ∈ xs, y.Fits) (left : Int) (h0 : 0 ≤ left) (h1 : left ≤ 1048576) : dPure CC 94 [.slice false (xs.map GLift.enc), .int .i64 left] = some (.int .i64 (szI (bulkL GLift.bulk xs) left)) := by
  have w0 : IntKind.i64.wrap (left - (xs.length : Int)) = left - xs.length := wrap64 (by omega) (by omega)
  rw [dPure_eq (C := CC) _ rfl rfl Tryz.func94 rfl]
  unfold bulkL
  by_cases c0 : left - (xs.length : Int) < 0
  · rw [szI_neg (by omega)]
    simp [Tryz.f94, go_sem, w0, c0]
  simp [Tryz.f94, go_sem, w0, c0]
  generalize hc : dCode CC 0 (Code.loop _) _ _ = r
  have hL : Runs r fun o env' H' => ((o = .exit 0 ∧ env' 1 = .int .i64 (szI (xs.length + (xs.map GLift.bulk).sum) left)) ∨ (o = .ret ∧ env' 4 = .int .i64 (-1) ∧ szI (xs.length + (xs.map GLift.bulk).sum) left = -1)) := by
    rw [← hc]
    refine loop_rule (fun k env H => ∃ (i : Nat) (l : Int), k + i = xs.length ∧ env 0 = .slice false (xs.map GLift.enc) ∧ env 5 = .int .i64 i ∧ env 1 = .int .i64 l ∧ 0 ≤ l ∧ l = left - xs.length - sumTo GLift.bulk xs i) _ ?_ xs.length _ _
      ⟨0, left - xs.length, by simp, by simp [go_sem], by simp [go_sem], by simp [go_sem], by omega, by simp [sumTo]⟩
    clear hc
    rintro k env H ⟨i, l, hk, e0, e5, e1, hl0, hl1⟩
    by_cases hi : i < xs.length
    · have hm := List.getElem_mem hi
      have hsu := sumTo_succ GLift.bulk xs i hi
      have hle := sumTo_le GLift.bulk xs (i + 1)
      have hw2 := wrapS (i := i) (by omega)
      have hE := szLift_eq xs[i] (hs _ hm) l hl0 (by omega)
      by_cases c1 : l - ((GLift.bulk xs[i] : Nat) : Int) < 0
      · rw [szI_neg (by omega)] at hE
        simp [go_sem, e0, e5, e1, hi, hE, hw2, c1]
        exact szI_neg (by omega)
      · rw [szI_pos (by omega)] at hE
        simp [go_sem, e0, e5, e1, hi, hE, hw2, c1]
        exact ⟨k - 1, by omega, i + 1, by omega, rfl, by omega, by omega⟩
    · have hle := sumTo_all GLift.bulk xs i (by omega)
      simp [go_sem, e0, e5, e1, hi]
      rw [szI_pos (by omega)]
      omega
  obtain ⟨o, env', H', rfl, h⟩ := hL
  rcases h with ⟨rfl, h1⟩ | ⟨rfl, h1, h2⟩
  · simp [go_sem, h1]
  · simp [go_sem, h1, h2]
end Go.Proofs.YtdlkndnlpgmdaaaGreat.V
