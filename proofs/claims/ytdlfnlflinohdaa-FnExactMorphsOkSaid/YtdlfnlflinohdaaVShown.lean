/- What the two sides' tests of a shown text compute in V. No condition. -/
import Derived.Test.YtdlfnlflinohdaaVName
import Derived.Laws.RangeString
import Derived.Laws.RangeAny
namespace Go.Proofs.Ytdlfnlflinohdaa.V
open Go Go.V Go.Proofs
set_option linter.unusedSimpArgs false
set_option linter.unusedVariables false

def shownCh (b : UInt8) : Bool := decide (32 ≤ b.toNat) && decide (b.toNat ≤ 126)
def shownOk (s : List UInt8) : Prop := (1 ≤ s.length ∧ s.length ≤ 60) ∧ ∀ b ∈ s, shownCh b = true
instance (s : List UInt8) : Decidable (shownOk s) := by unfold shownOk; infer_instance

theorem shownCh_iff {b : UInt8} : shownCh b = true ↔ 32 ≤ ((b.toNat : Nat) : Int) ∧ ((b.toNat : Nat) : Int) ≤ 126 := by
  unfold shownCh
  simp only [Bool.and_eq_true, decide_eq_true_eq]
  omega

theorem f29_eq (s : List UInt8) (hs : s.length ≤ 9223372036854775807) : dPure CC 29 [.str s] = some (.bool (decide (shownOk s))) := by
  rw [dPure_eq (C := CC) _ rfl rfl Try.func29 rfl]
  simp [Try.f29, go_sem]
  generalize hc : dCode CC 0 (Code.loop _) _ _ = r
  have hL : Runs r fun o env' H' => (o = .exit 0 ∧ env' 0 = .str s ∧ (s.length ≤ 60 → ∀ b ∈ s, shownCh b = true)) ∨ (o = .ret ∧ env' 2 = .bool false ∧ ¬ shownOk s) := by
    rw [← hc]
    refine loop_rule (fun k env H => ∃ (i : Nat), k + i = s.length ∧ i ≤ 61 ∧ env 0 = .str s ∧ env 3 = .int .i64 i ∧ (∀ b ∈ s.take i, shownCh b = true)) _ ?_ s.length _ _
      ⟨0, by simp, by omega, by simp [go_sem], by simp [go_sem], by simp⟩
    clear hc
    rintro k env H ⟨i, hk, hb, e0, e3, hn⟩
    by_cases hi : i < s.length
    · by_cases hi2 : i ≤ 60
      · have hw2 := wrapS (i := i) (by omega)
        have hi3 : (i : Int) ≤ 60 := by omega
        have gi := ch_eq hi
        have hch : shownCh s[i] = true ↔ 32 ≤ ch s i ∧ ch s i ≤ 126 := by rw [shownCh_iff, gi]
        have hok : shownCh s[i] = true → ∃ k', k' < k ∧ ∃ i', k' + i' = s.length ∧ i' ≤ 61 ∧ (i : Int) + 1 = (i' : Int) ∧ ∀ b ∈ s.take i', shownCh b = true := fun h =>
          ⟨k - 1, by omega, i + 1, by omega, by omega, rfl, take_all (p := fun b => shownCh b = true) hi hn h⟩
        have hbad : shownCh s[i] ≠ true → ¬ shownOk s := fun h hp => h (hp.2 _ (by simp))
        by_cases a1 : ch s i < 32 <;> by_cases a2 : 126 < ch s i <;> (try (exfalso; omega)) <;>
          simp [go_sem, e0, e3, hi, hi2, hi3, hw2, gi, a1, a2] <;> first
            | (exact hbad (fun h => by rw [hch] at h; omega))
            | (exact hok (by rw [hch]; omega))
      · have hi3 : ¬ (i : Int) ≤ 60 := by omega
        simp [go_sem, e0, e3, hi, hi2, hi3]
        omega
    · rw [List.take_of_length_le (by omega)] at hn
      simp [go_sem, e0, e3, hi]
      exact fun _ => hn
  obtain ⟨o, env', H', rfl, h⟩ := hL
  rcases h with ⟨rfl, h0, h1⟩ | ⟨rfl, h1, h2⟩
  · simp [CC_call, go_sem, h0, f41_eq]
    have hiff : (1 ≤ s.length ∧ s.length ≤ 60) ↔ shownOk s := ⟨fun h => ⟨h, h1 h.2⟩, fun h => h.1⟩
    rw [Bool.eq_iff_iff]
    simp only [Bool.and_eq_true, decide_eq_true_eq]
    rw [← hiff]
    omega
  · simp [go_sem, h1, h2]

/-- `strings.indexFunc` at the test of what is not shown. -/
theorem f53_eq (s : List UInt8) (hs : s.length ≤ 9223372036854775807) : ∃ n : Int, dPure CC 53 [.str s, .func (.func 48) [] [], .bool true] = some (.int .i64 n) ∧ (0 ≤ n ↔ ¬ ∀ b ∈ s, shownCh b = true) := by
  rw [dPure_eq (C := CC) _ rfl rfl Try.func53 rfl]
  simp [Try.f53, go_sem]
  generalize hc : dCode CC 0 (Code.loop _) _ _ = r
  have hL : Runs r fun o env' H' => (o = .exit 0 ∧ (∀ b ∈ s, shownCh b = true)) ∨ (o = .ret ∧ (¬ ∀ b ∈ s, shownCh b = true) ∧ ∃ i : Nat, env' 6 = .int .i64 i) := by
    rw [← hc]
    refine loop_rule (fun k env H => ∃ (i : Nat), k + i = s.length ∧ env 1 = .func (.func 48) [] [] ∧ env 2 = .bool true ∧ env 10 = .mref 0 10 1 ∧ H.get 0 10 = ⟨1, 0, .iter s i⟩ ∧ (∀ b ∈ s.take i, shownCh b = true)) _ ?_ s.length _ _
      ⟨0, by simp, by simp [go_sem], by simp [go_sem], by simp [go_sem], by simp [go_sem], by simp⟩
    clear hc
    rintro k env H ⟨i, hk, e1, e2, e10, hH, hn⟩
    by_cases hi : i < s.length
    · have gi := ch_eq hi
      have hch : shownCh s[i] = true ↔ 32 ≤ ch s i ∧ ch s i ≤ 126 := by rw [shownCh_iff, gi]
      have hsz : i < (⟨⟨s⟩⟩ : ByteArray).size := hi
      by_cases hlow : s[i].toNat < 128
      · have hdec : Utf8.decode ⟨⟨s⟩⟩ i = (s[i].toNat, 1) := decode_ascii ⟨⟨s⟩⟩ i hsz hlow
        have hok : shownCh s[i] = true → ∃ k', k' < k ∧ ∃ i', k' + i' = s.length ∧ i + 1 = i' ∧ ∀ b ∈ s.take i', shownCh b = true := fun h =>
          ⟨k - 1, by omega, i + 1, by omega, rfl, take_all (p := fun b => shownCh b = true) hi hn h⟩
        have hbad : shownCh s[i] ≠ true → ¬ ∀ b ∈ s, shownCh b = true := fun h hp => h (hp _ (by simp))
        by_cases a : ch s i < 32 ∨ 126 < ch s i
        · simp [CC_call, go_sem, e1, e2, e10, hH, iterNext, hi, hdec, gi, f48_eq, a]
          refine ⟨?_, i, rfl⟩
          have := hbad (fun h => by rw [hch] at h; omega)
          simpa using this
        · simp [CC_call, go_sem, e1, e2, e10, hH, iterNext, hi, hdec, gi, f48_eq, a]
          exact hok (by rw [hch]; omega)
      · have hdec := decode_high ⟨⟨s⟩⟩ i hsz (by show 128 ≤ s[i].toNat; omega)
        obtain ⟨r0, hr0⟩ : ∃ r0 : Int, (((Utf8.decode ⟨⟨s⟩⟩ i).1 : Nat) : Int) = r0 := ⟨_, rfl⟩
        have a : r0 < 32 ∨ 126 < r0 := by have := hdec.1; omega
        simp [CC_call, go_sem, e1, e2, e10, hH, iterNext, hi, hr0, f48_eq, a]
        refine ⟨?_, i, rfl⟩
        have hbad : ¬ ∀ b ∈ s, shownCh b = true := fun hp => by
          have := hp s[i] (by simp)
          rw [hch, ← gi] at this
          omega
        simpa using hbad
    · rw [List.take_of_length_le (by omega)] at hn
      simp [go_sem, e1, e2, e10, hH, iterNext, hi]
      exact hn
  obtain ⟨o, env', H', rfl, h⟩ := hL
  rcases h with ⟨rfl, h1⟩ | ⟨rfl, h1, i, h2⟩
  · refine ⟨-1, by simp [go_sem], ?_⟩
    simpa using h1
  · refine ⟨i, by simp [go_sem, h2], ?_⟩
    simpa using h1

theorem f47_eq (s : List UInt8) (hs : s.length ≤ 9223372036854775807) : dPure CC 47 [.str s, .func (.func 48) [] []] = some (.bool (decide (¬ ∀ b ∈ s, shownCh b = true))) := by
  obtain ⟨n, hn, h⟩ := f53_eq s hs
  have h51 : dPure CC 51 [.str s, .func (.func 48) [] []] = some (.int .i64 n) := by
    rw [dPure_eq (C := CC) _ rfl rfl Try.func51 rfl]
    simp [Try.f51, CC_call, go_sem, hn]
  rw [dPure_eq (C := CC) _ rfl rfl Try.func47 rfl]
  simp only [← h]
  simp [Try.f47, CC_call, go_sem, h51]

theorem f32_eq (s : List UInt8) (hs : s.length ≤ 9223372036854775807) : dPure CC 32 [.str s] = some (.bool (decide (shownOk s))) := by
  rw [dPure_eq (C := CC) _ rfl rfl Try.func32 rfl]
  by_cases h1 : (1 : Int) ≤ s.length ∧ (s.length : Int) ≤ 60
  · have hiff : shownOk s ↔ ∀ b ∈ s, shownCh b = true := ⟨fun h => h.2, fun h => ⟨⟨by omega, by omega⟩, h⟩⟩
    by_cases h2 : ∀ b ∈ s, shownCh b = true
    · have hok := hiff.2 h2
      have h47 := f47_eq s hs
      rw [decide_eq_false (fun h => h h2)] at h47
      simp [Try.f32, CC_call, go_sem, f45_eq, f46_eq, h1, h47, hok]
    · have hno : ¬ shownOk s := fun h => h2 (hiff.1 h)
      have h47 := f47_eq s hs
      rw [decide_eq_true h2] at h47
      simp [Try.f32, CC_call, go_sem, f45_eq, f46_eq, h1, h47, hno]
  · have hno : ¬ shownOk s := fun h => h1 ⟨by have := h.1.1; omega, by have := h.1.2; omega⟩
    simp [Try.f32, CC_call, go_sem, f45_eq, f46_eq, h1, hno]
end Go.Proofs.Ytdlfnlflinohdaa.V
