/- What the two sides' NameOk computes in V. No condition. -/
import Derived.Test.YtdlfnlflinohdaaVMorph
namespace Go.Proofs.Ytdlfnlflinohdaa.V
open Go Go.V Go.Proofs
set_option linter.unusedSimpArgs false
set_option linter.unusedVariables false

def ch (s : List UInt8) (i : Nat) : Int := ((s.getD i 0).toNat : Int)
theorem ch_eq {s : List UInt8} {i : Nat} (h : i < s.length) : ((s[i].toNat : Nat) : Int) = ch s i := by simp [ch, h]
theorem ch_get {s : List UInt8} {i : Nat} (h : i < s.length) : (s[i]?).map (fun b => PV.int .u8 ((b.toNat : Nat) : Int)) = some (.int .u8 (ch s i)) := by simp [ch, h]
def nameStep (s : List UInt8) (i : Nat) : Prop := ((97 ≤ ch s i ∧ ch s i ≤ 122) ∨ (48 ≤ ch s i ∧ ch s i ≤ 57) ∨ ch s i = 45) ∧ ¬ (ch s i = 45 ∧ 0 < i ∧ ch s (i - 1) = 45)
instance (s : List UInt8) (i : Nat) : Decidable (nameStep s i) := by unfold nameStep; infer_instance
def nameOk (s : List UInt8) : Prop := (1 ≤ s.length ∧ s.length ≤ 12 ∧ 97 ≤ ch s 0 ∧ ch s 0 ≤ 122 ∧ ch s (s.length - 1) ≠ 45) ∧ ∀ i, i < s.length → nameStep s i
instance (s : List UInt8) : Decidable (nameOk s) := by unfold nameOk; infer_instance

theorem f40_eq (s : List UInt8) (hs : s.length ≤ 9223372036854775807) : dPure CC 40 [.str s] = some (.bool (decide (nameOk s))) := by
  rw [dPure_eq (C := CC) _ rfl rfl Try.func40 rfl]
  by_cases b1 : s.length < 1
  · have b1' : (s.length : Int) < 1 := by omega
    have hno : ¬ nameOk s := fun h => by have := h.1.1; omega
    simp [Try.f40, go_sem, b1', hno]
  have b1' : ¬ (s.length : Int) < 1 := by omega
  by_cases b2 : 12 < s.length
  · have b2' : (12 : Int) < s.length := by omega
    have hno : ¬ nameOk s := fun h => by have := h.1.2.1; omega
    simp [Try.f40, go_sem, b1', b2', hno]
  have b2' : ¬ (12 : Int) < s.length := by omega
  have g0 := ch_get (s := s) (i := 0) (by omega)
  have gl := ch_get (s := s) (i := s.length - 1) (by omega)
  have hw1 : IntKind.i64.wrap ((s.length : Int) - 1) = ((s.length - 1 : Nat) : Int) := by rw [wrap64 (by omega) (by omega)]; omega
  by_cases b3 : ch s 0 < 97
  · have hno : ¬ nameOk s := fun h => by have := h.1.2.2.1; omega
    simp [Try.f40, go_sem, b1', b2', g0, b3, hno]
  by_cases b4 : 122 < ch s 0
  · have hno : ¬ nameOk s := fun h => by have := h.1.2.2.2.1; omega
    simp [Try.f40, go_sem, b1', b2', g0, b3, b4, hno]
  by_cases b5 : ch s (s.length - 1) = 45
  · have hno : ¬ nameOk s := fun h => h.1.2.2.2.2 b5
    simp [Try.f40, go_sem, b1', b2', g0, b3, b4, hw1, gl, b5, hno]
  simp [Try.f40, go_sem, b1', b2', g0, b3, b4, hw1, gl, b5]
  generalize hc : dCode CC 0 (Code.loop _) _ _ = r
  have hL : Runs r fun o env' H' => (o = .exit 0 ∧ nameOk s) ∨ (o = .ret ∧ env' 2 = .bool false ∧ ¬ nameOk s) := by
    rw [← hc]
    refine loop_rule (fun k env H => ∃ (i : Nat), k + i = s.length ∧ env 0 = .str s ∧ env 3 = .int .i64 i ∧ (∀ j, j < i → nameStep s j)) _ ?_ s.length _ _
      ⟨0, by simp, by simp [go_sem], by simp [go_sem], by intro j hj; omega⟩
    clear hc
    rintro k env H ⟨i, hk, e0, e3, hn⟩
    by_cases hi : i < s.length
    · have hw2 := wrapS (i := i) (by omega)
      have gi := ch_eq hi
      have hok : nameStep s i → ∃ k', k' < k ∧ ∃ i', k' + i' = s.length ∧ (i : Int) + 1 = (i' : Int) ∧ ∀ j, j < i' → nameStep s j := fun h =>
        ⟨k - 1, by omega, i + 1, by omega, rfl, fun j hj => by
          rcases Nat.lt_or_ge j i with h1 | h1
          · exact hn j h1
          · rw [show j = i by omega]; exact h⟩
      have hbad : ¬ nameStep s i → ¬ nameOk s := fun h hp => h (hp.2 i hi)
      by_cases a5 : ch s i = 45
      · have hpos : 0 < i := by
          rcases Nat.eq_zero_or_pos i with h0 | h0
          · subst h0; omega
          · exact h0
        have gp := ch_get (s := s) (i := i - 1) (by omega)
        have hw3 : IntKind.i64.wrap ((i : Int) - 1) = ((i - 1 : Nat) : Int) := by rw [wrap64 (by omega) (by omega)]; omega
        by_cases a6 : ch s (i - 1) = 45
        · simp [go_sem, e0, e3, hi, hw2, hw3, gi, gp, a5, a6]
          exact hbad fun h => h.2 ⟨a5, hpos, a6⟩
        · simp [go_sem, e0, e3, hi, hw2, hw3, gi, gp, a5, a6]
          exact hok ⟨.inr (.inr a5), fun h => a6 h.2.2⟩
      · by_cases a1 : ch s i < 97 <;> by_cases a2 : 122 < ch s i <;> by_cases a3 : ch s i < 48 <;> by_cases a4 : 57 < ch s i <;> (try (exfalso; omega)) <;>
          simp [go_sem, e0, e3, hi, hw2, gi, a1, a2, a3, a4, a5] <;> first
            | (exact hbad (fun h => by have := h.1; omega))
            | (exact hok ⟨by omega, fun h => a5 h.1⟩)
    · simp [go_sem, e0, e3, hi]
      exact ⟨⟨by omega, by omega, by omega, by omega, b5⟩, fun j hj => hn j (by omega)⟩
  obtain ⟨o, env', H', rfl, h⟩ := hL
  rcases h with ⟨rfl, h1⟩ | ⟨rfl, h1, h2⟩
  · simp [go_sem, h1]
  · simp [go_sem, h1, h2]

theorem f28_eq (s : List UInt8) (hs : s.length ≤ 9223372036854775807) : dPure CC 28 [.str s] = some (.bool (decide (nameOk s))) := by
  rw [dPure_eq (C := CC) _ rfl rfl Try.func28 rfl]
  simp [Try.f28, CC_call, go_sem, f40_eq s hs]

def implStep (s : List UInt8) (i : Nat) : Prop := nameStep s i ∧ (i = 0 → 97 ≤ ch s i ∧ ch s i ≤ 122)
theorem nameOk_iff {s : List UInt8} (h1 : 1 ≤ s.length) (h : ∀ i, i < s.length → implStep s i) : nameOk s ↔ s.length ≤ 12 ∧ ch s (s.length - 1) ≠ 45 := by
  have h0 := (h 0 (by omega)).2 rfl
  exact ⟨fun g => ⟨g.1.2.1, g.1.2.2.2.2⟩, fun g => ⟨⟨h1, g.1, h0.1, h0.2, g.2⟩, fun i hi => (h i hi).1⟩⟩
theorem nameOk_step {s : List UInt8} (h : nameOk s) {i : Nat} (hi : i < s.length) : implStep s i := ⟨h.2 i hi, fun h0 => by subst h0; exact ⟨h.1.2.2.1, h.1.2.2.2.1⟩⟩

theorem f31_eq (s : List UInt8) (hs : s.length ≤ 9223372036854775807) : dPure CC 31 [.str s] = some (.bool (decide (nameOk s))) := by
  rw [dPure_eq (C := CC) _ rfl rfl Try.func31 rfl]
  simp [Try.f31, go_sem]
  generalize hc : dCode CC 0 (Code.loop _) _ _ = r
  have hL : Runs r fun o env' H' => (o = .exit 0 ∧ env' 0 = .str s ∧ (∀ i, i < s.length → implStep s i)) ∨ (o = .ret ∧ env' 2 = .bool false ∧ ¬ nameOk s) := by
    rw [← hc]
    refine loop_rule (fun k env H => ∃ (i : Nat), k + i = s.length ∧ env 0 = .str s ∧ env 7 = .int .i64 s.length ∧ env 8 = .int .i64 i ∧ (∀ j, j < i → implStep s j)) _ ?_ s.length _ _
      ⟨0, by simp, by simp [go_sem], by simp [go_sem], by simp [go_sem], by intro j hj; omega⟩
    clear hc
    rintro k env H ⟨i, hk, e0, e7, e8, hn⟩
    by_cases hi : i < s.length
    · have hw2 := wrapS (i := i) (by omega)
      have gi := ch_eq hi
      have hok : implStep s i → ∃ k', k' < k ∧ ∃ i', k' + i' = s.length ∧ (i : Int) + 1 = (i' : Int) ∧ ∀ j, j < i' → implStep s j := fun h =>
        ⟨k - 1, by omega, i + 1, by omega, rfl, fun j hj => by
          rcases Nat.lt_or_ge j i with h1 | h1
          · exact hn j h1
          · rw [show j = i by omega]; exact h⟩
      have hbad : ¬ implStep s i → ¬ nameOk s := fun h hp => h (nameOk_step hp hi)
      by_cases a1 : 97 ≤ ch s i <;> by_cases a2 : ch s i ≤ 122 <;> by_cases a3 : 48 ≤ ch s i <;> by_cases a4 : ch s i ≤ 57 <;> by_cases a5 : ch s i = 45 <;> (try (exfalso; omega)) <;>
        by_cases a0 : i = 0
      all_goals first
        | (subst a0
           simp [go_sem, e0, e7, e8, hi, hw2, gi, a1, a2, a3, a4, a5]
           first
             | (exact hbad (fun h => by have := h.2 rfl; omega))
             | (exact hok ⟨⟨by omega, fun h => by omega⟩, fun _ => by omega⟩))
        | (have a0' : ¬ ((i : Int) = 0) := by omega
           have hw3 : IntKind.i64.wrap ((i : Int) - 1) = ((i - 1 : Nat) : Int) := by rw [wrap64 (by omega) (by omega)]; omega
           have gp := ch_get (s := s) (i := i - 1) (by omega)
           by_cases a6 : ch s (i - 1) = 45 <;>
             simp [go_sem, e0, e7, e8, hi, hw2, hw3, gi, gp, a0, a0', a1, a2, a3, a4, a5, a6] <;> first
               | (exact hbad (fun h => by have h1 := h.1.1; have h2 := h.1.2; first | omega | exact h2 ⟨a5, by omega, a6⟩))
               | (exact hok ⟨⟨by omega, fun h => by have := h.1; have := h.2.2; omega⟩, fun h => absurd h a0⟩))
    · simp [go_sem, e0, e7, e8, hi]
      exact fun j hj => hn j (by omega)
  obtain ⟨o, env', H', rfl, h⟩ := hL
  rcases h with ⟨rfl, h0, h1⟩ | ⟨rfl, h1, h2⟩
  · by_cases b1 : 1 ≤ s.length
    · have b1' : (1 : Int) ≤ s.length := by omega
      have hn := nameOk_iff b1 h1
      by_cases b2 : s.length ≤ 12
      · have b2' : (s.length : Int) ≤ 12 := by omega
        have gl := ch_get (s := s) (i := s.length - 1) (by omega)
        have hw1 : IntKind.i64.wrap ((s.length : Int) - 1) = ((s.length - 1 : Nat) : Int) := by rw [wrap64 (by omega) (by omega)]; omega
        simp [go_sem, h0, b1', b2', hw1, gl, hn, b2]
      · have b2' : ¬ (s.length : Int) ≤ 12 := by omega
        simp [go_sem, h0, b1', b2', hn, b2]
    · have b1' : ¬ (1 : Int) ≤ s.length := by omega
      have hn : ¬ nameOk s := fun h => b1 h.1.1
      simp [go_sem, h0, b1', hn]
  · simp [go_sem, h1, h2]
end Go.Proofs.Ytdlfnlflinohdaa.V
