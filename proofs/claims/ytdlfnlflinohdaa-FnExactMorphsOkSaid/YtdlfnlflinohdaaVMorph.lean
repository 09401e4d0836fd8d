/- What the functions that the laws of morphs reach compute in V: the two sides' names, paths and shown texts. No condition. -/
import Derived.Test.YtdlfnlflinohdaaVSeat
namespace Go.Proofs.Ytdlfnlflinohdaa.V
open Go Go.V Go.Proofs
set_option linter.unusedSimpArgs false
set_option linter.unusedVariables false

theorem f42_eq (c : Int) : dPure CC 42 [.int .u8 c] = some (.bool (decide (97 ≤ c ∧ c ≤ 122))) := by
  rw [dPure_eq (C := CC) _ rfl rfl Try.func42 rfl]
  by_cases h1 : 97 ≤ c <;> by_cases h2 : c ≤ 122 <;> simp [Try.f42, go_sem, h1, h2]
theorem f43_eq (c : Int) : dPure CC 43 [.int .u8 c] = some (.bool (decide (48 ≤ c ∧ c ≤ 57))) := by
  rw [dPure_eq (C := CC) _ rfl rfl Try.func43 rfl]
  by_cases h1 : 48 ≤ c <;> by_cases h2 : c ≤ 57 <;> simp [Try.f43, go_sem, h1, h2]
theorem f41_eq (x a b : Int) : dPure CC 41 [.int .i64 x, .int .i64 a, .int .i64 b] = some (.bool (decide (a ≤ x ∧ x ≤ b))) := by
  rw [dPure_eq (C := CC) _ rfl rfl Try.func41 rfl]
  by_cases h1 : a ≤ x <;> by_cases h2 : x ≤ b <;> simp [Try.f41, go_sem, h1, h2]
theorem f45_eq (x a b : Int) : dPure CC 45 [.int .i64 x, .int .i64 a, .int .i64 b] = some (.bool (decide (a ≤ x ∧ x ≤ b))) := by
  rw [dPure_eq (C := CC) _ rfl rfl Try.func45 rfl]
  by_cases h1 : a ≤ x <;> by_cases h2 : x ≤ b <;> simp [Try.f45, go_sem, h1, h2]
theorem f46_eq (s : List UInt8) : dPure CC 46 [.str s] = some (.int .i64 s.length) := by
  rw [dPure_eq (C := CC) _ rfl rfl Try.func46 rfl]
  simp [Try.f46, go_sem]
theorem f48_eq (r : Int) : dPure CC 48 [.int .i32 r] = some (.bool (decide (r < 32 ∨ 126 < r))) := by
  rw [dPure_eq (C := CC) _ rfl rfl Try.func48 rfl]
  by_cases h1 : r < 32 <;> by_cases h2 : 126 < r <;> simp [Try.f48, go_sem, h1, h2]
theorem f52_eq (s : List UInt8) (c : Int) : dPure CC 52 [.str s, .int .u8 c] = some (.int .i64 (Lib.indexByte s c.toNat.toUInt8)) := by
  rw [dPure_ext (C := CC) 52 _ (g := extIndexByte) rfl]
  rfl
theorem f50_eq (s : List UInt8) (c : Int) : dPure CC 50 [.str s, .int .u8 c] = some (.int .i64 (Lib.indexByte s c.toNat.toUInt8)) := by
  rw [dPure_eq (C := CC) _ rfl rfl Try.func50 rfl]
  simp [Try.f50, CC_call, go_sem, f52_eq]
theorem f44_eq (s : List UInt8) (c : Int) : dPure CC 44 [.str s, .int .u8 c] = some (.int .i64 (Lib.indexByte s c.toNat.toUInt8)) := by
  rw [dPure_eq (C := CC) _ rfl rfl Try.func44 rfl]
  simp [Try.f44, CC_call, go_sem, f50_eq]

/-! ### Paths -/
/-- A letter of a path. -/
def pathCh (b : UInt8) : Bool := (decide (97 ≤ b.toNat) && decide (b.toNat ≤ 122)) || (decide (48 ≤ b.toNat) && decide (b.toNat ≤ 57)) || decide (b.toNat = 45) || decide (b.toNat = 42) || decide (b.toNat = 47)
def pathOk (s : List UInt8) : Prop := s.length ≤ 60 ∧ ∀ b ∈ s, pathCh b = true
instance (s : List UInt8) : Decidable (pathOk s) := by unfold pathOk; infer_instance

theorem take_all {p : UInt8 → Prop} {s : List UInt8} {i : Nat} (hi : i < s.length) (h : ∀ b ∈ s.take i, p b) (h1 : p s[i]) : ∀ b ∈ s.take (i + 1), p b := by
  intro b hb
  rw [List.take_succ_eq_append_getElem hi] at hb
  rcases List.mem_append.1 hb with hb | hb
  · exact h b hb
  · rw [List.mem_singleton.1 hb]; exact h1

theorem f27_eq (s : List UInt8) (hs : s.length ≤ 9223372036854775807) : dPure CC 27 [.str s] = some (.bool (decide (pathOk s))) := by
  rw [dPure_eq (C := CC) _ rfl rfl Try.func27 rfl]
  simp [Try.f27, go_sem]
  generalize hc : dCode CC 0 (Code.loop _) _ _ = r
  have hL : Runs r fun o env' H' => (o = .exit 0 ∧ env' 0 = .str s ∧ (s.length ≤ 60 → ∀ b ∈ s, pathCh b = true)) ∨ (o = .ret ∧ env' 2 = .bool false ∧ ¬ pathOk s) := by
    rw [← hc]
    refine loop_rule (fun k env H => ∃ (i : Nat), k + i = s.length ∧ i ≤ 61 ∧ env 0 = .str s ∧ env 3 = .int .i64 i ∧ (∀ b ∈ s.take i, pathCh b = true)) _ ?_ s.length _ _
      ⟨0, by simp, by omega, by simp [go_sem], by simp [go_sem], by simp⟩
    clear hc
    rintro k env H ⟨i, hk, hb, e0, e3, hn⟩
    by_cases hi : i < s.length
    · by_cases hi2 : i ≤ 60
      · have hw2 := wrapS (i := i) (by omega)
        have hi3 : (i : Int) ≤ 60 := by omega
        obtain ⟨c, hcc⟩ : ∃ c : Int, ((s[i].toNat : Nat) : Int) = c := ⟨_, rfl⟩
        have hch : pathCh s[i] = true ↔ ((97 ≤ c ∧ c ≤ 122) ∨ (48 ≤ c ∧ c ≤ 57) ∨ c = 45 ∨ c = 42 ∨ c = 47) := by
          unfold pathCh
          simp only [Bool.or_eq_true, Bool.and_eq_true, decide_eq_true_eq]
          omega
        have hok : pathCh s[i] = true → ∃ k', k' < k ∧ ∃ i', k' + i' = s.length ∧ i' ≤ 61 ∧ (i : Int) + 1 = (i' : Int) ∧ ∀ b ∈ s.take i', pathCh b = true := fun h =>
          ⟨k - 1, by omega, i + 1, by omega, by omega, rfl, take_all (p := fun b => pathCh b = true) hi hn h⟩
        have hbad : pathCh s[i] ≠ true → ¬ pathOk s := fun h hp => h (hp.2 _ (by simp))
        by_cases a1 : c < 97 <;> by_cases a2 : 122 < c <;> by_cases a3 : c < 48 <;> by_cases a4 : 57 < c <;> by_cases a5 : c = 45 <;> by_cases a6 : c = 42 <;> by_cases a7 : c = 47 <;> (try (exfalso; omega)) <;>
          simp [go_sem, e0, e3, hi, hi2, hi3, hw2, hcc, a1, a2, a3, a4, a5, a6, a7] <;> first
            | (exact hbad (fun h => by rw [hch] at h; omega))
            | (exact hok (by rw [hch]; omega))
      · have hi3 : ¬ (i : Int) ≤ 60 := by omega
        simp [go_sem, e0, e3, hi, hi2, hi3]
        omega
    · rw [List.take_of_length_le (by omega)] at hn
      simp [go_sem, e0, e3, hi]
      exact fun _ => hn
  obtain ⟨o, env', H', rfl, h⟩ := hL
  rcases h with ⟨rfl, h0, h1⟩ | ⟨rfl, h1, h2⟩
  · simp [go_sem, h0]
    unfold pathOk
    exact ⟨fun h => ⟨by omega, h1 (by omega)⟩, fun h => by omega⟩
  · simp [go_sem, h1, h2]

theorem f30_eq (s : List UInt8) (hs : s.length ≤ 9223372036854775807) : dPure CC 30 [.str s] = some (.bool (decide (pathOk s))) := by
  rw [dPure_eq (C := CC) _ rfl rfl Try.func30 rfl]
  simp [Try.f30, go_sem]
  generalize hc : dCode CC 0 (Code.loop _) _ _ = r
  have hL : Runs r fun o env' H' => (o = .exit 0 ∧ env' 0 = .str s ∧ (∀ b ∈ s, pathCh b = true)) ∨ (o = .ret ∧ env' 2 = .bool false ∧ ¬ pathOk s) := by
    rw [← hc]
    refine loop_rule (fun k env H => ∃ (i : Nat), k + i = s.length ∧ env 0 = .str s ∧ env 5 = .int .i64 s.length ∧ env 6 = .int .i64 i ∧ (∀ b ∈ s.take i, pathCh b = true)) _ ?_ s.length _ _
      ⟨0, by simp, by simp [go_sem], by simp [go_sem], by simp [go_sem], by simp⟩
    clear hc
    rintro k env H ⟨i, hk, e0, e5, e6, hn⟩
    by_cases hi : i < s.length
    · have hw2 := wrapS (i := i) (by omega)
      obtain ⟨c, hcc⟩ : ∃ c : Int, ((s[i].toNat : Nat) : Int) = c := ⟨_, rfl⟩
      have hch : pathCh s[i] = true ↔ ((97 ≤ c ∧ c ≤ 122) ∨ (48 ≤ c ∧ c ≤ 57) ∨ c = 45 ∨ c = 42 ∨ c = 47) := by
        unfold pathCh
        simp only [Bool.or_eq_true, Bool.and_eq_true, decide_eq_true_eq]
        omega
      have hok : pathCh s[i] = true → ∃ k', k' < k ∧ ∃ i', k' + i' = s.length ∧ (i : Int) + 1 = (i' : Int) ∧ ∀ b ∈ s.take i', pathCh b = true := fun h =>
        ⟨k - 1, by omega, i + 1, by omega, rfl, take_all (p := fun b => pathCh b = true) hi hn h⟩
      have hbad : pathCh s[i] ≠ true → ¬ pathOk s := fun h hp => h (hp.2 _ (by simp))
      have hidx : Lib.indexByte [45, 42, 47] c.toNat.toUInt8 < 0 ↔ ¬ (c = 45 ∨ c = 42 ∨ c = 47) := by
        have e : c.toNat.toUInt8 = s[i] := by rw [← hcc]; simp
        rw [e, ← hcc]
        have h45 : s[i].toNat = 45 ↔ s[i] = 45 := ⟨fun h => UInt8.toNat_inj.1 (by simpa using h), fun h => by rw [h]; rfl⟩
        have h42 : s[i].toNat = 42 ↔ s[i] = 42 := ⟨fun h => UInt8.toNat_inj.1 (by simpa using h), fun h => by rw [h]; rfl⟩
        have h47 : s[i].toNat = 47 ↔ s[i] = 47 := ⟨fun h => UInt8.toNat_inj.1 (by simpa using h), fun h => by rw [h]; rfl⟩
        have i45 : ((s[i].toNat : Nat) : Int) = 45 ↔ s[i] = 45 := by rw [← h45]; omega
        have i42 : ((s[i].toNat : Nat) : Int) = 42 ↔ s[i] = 42 := by rw [← h42]; omega
        have i47 : ((s[i].toNat : Nat) : Int) = 47 ↔ s[i] = 47 := by rw [← h47]; omega
        rw [i45, i42, i47]
        generalize s[i] = x
        by_cases b1 : x = 45
        · subst b1; decide
        by_cases b2 : x = 42
        · subst b2; decide
        by_cases b3 : x = 47
        · subst b3; decide
        have n1 : ((45 : UInt8) == x) = false := by simpa using fun h => b1 h.symm
        have n2 : ((42 : UInt8) == x) = false := by simpa using fun h => b2 h.symm
        have n3 : ((47 : UInt8) == x) = false := by simpa using fun h => b3 h.symm
        simp [Lib.indexByte, n1, n2, n3, b1, b2, b3]
      have hdash : (⟨⟨[45, 42, 47]⟩⟩ : ByteArray).data.toList = [45, 42, 47] := rfl
      by_cases l1 : 97 ≤ c ∧ c ≤ 122
      · simp [CC_call, go_sem, e0, e5, e6, hi, hw2, hcc, f42_eq, l1]
        exact hok (by rw [hch]; omega)
      by_cases l2 : 48 ≤ c ∧ c ≤ 57
      · simp [CC_call, go_sem, e0, e5, e6, hi, hw2, hcc, f42_eq, f43_eq, l1, l2]
        exact hok (by rw [hch]; omega)
      by_cases l3 : c = 45 ∨ c = 42 ∨ c = 47
      · have h3 : ¬ Lib.indexByte [45, 42, 47] c.toNat.toUInt8 < 0 := fun h => hidx.1 h l3
        simp [CC_call, go_sem, e0, e5, e6, hi, hw2, hcc, f42_eq, f43_eq, f44_eq, l1, l2, h3]
        exact hok (by rw [hch]; omega)
      · have h3 : Lib.indexByte [45, 42, 47] c.toNat.toUInt8 < 0 := hidx.2 l3
        simp [CC_call, go_sem, e0, e5, e6, hi, hw2, hcc, f42_eq, f43_eq, f44_eq, l1, l2, h3]
        exact hbad (fun h => by rw [hch] at h; omega)
    · rw [List.take_of_length_le (by omega)] at hn
      simp [go_sem, e0, e5, e6, hi]
      exact hn
  obtain ⟨o, env', H', rfl, h⟩ := hL
  rcases h with ⟨rfl, h0, h1⟩ | ⟨rfl, h1, h2⟩
  · simp [go_sem, h0]
    unfold pathOk
    exact ⟨fun h => ⟨by omega, h1⟩, fun h => by omega⟩
  · simp [go_sem, h1, h2]
end Go.Proofs.Ytdlfnlflinohdaa.V
