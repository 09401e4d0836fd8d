/- The two sides' MorphsOk give the same, and the law FnExactMorphsOk computes true in V, for strings and lists no longer than they may be. -/
import Derived.Test.YtdlfnlflinohdaaVMorphs2
namespace Go.Proofs.Ytdlfnlflinohdaa.V
open Go Go.V Go.Proofs
set_option linter.unusedSimpArgs false
set_option linter.unusedVariables false

/-- A morph of the list and what came before it. -/
def stepOk (ms : List Mo) (i : Nat) (h : i < ms.length) : Prop := ms[i].ok ∧ ∀ b ∈ ms.take i, ¬ clash ms[i] b
def morphsOk (ms : List Mo) : Prop := ms.length ≤ 12 ∧ ∀ (i : Nat) (h : i < ms.length), stepOk ms i h

theorem f21_eq (ms : List Mo) (hx : ms.length ≤ maxRow) (hs : ∀ m ∈ ms, m.Fits) : ∃ b, dPure CC 21 [.slice false (ms.map Mo.enc)] = some (.bool b) ∧ (b = true ↔ morphsOk ms) := by
  have hx' : ms.length ≤ 68719476736 := hx
  rw [dPure_eq (C := CC) _ rfl rfl Try.func21 rfl]
  have key : ∃ z, ((dCode CC 0 (match Try.f21.body with | some c => c | none => .skip) (Env.ofList [.slice false (ms.map Mo.enc)]) Heap.empty).bind (dEnd CC Try.f21.results.toList)).bind (fun x => Go.V.resolve depth x.2 x.1) = z := ⟨_, rfl⟩
  obtain ⟨z, hz⟩ := key
  have hz' := hz
  simp [Try.f21, go_sem] at hz'
  show ∃ b, ((dCode CC 0 (match Try.f21.body with | some c => c | none => .skip) (Env.ofList [.slice false (ms.map Mo.enc)]) Heap.empty).bind (dEnd CC Try.f21.results.toList)).bind (fun x => Go.V.resolve depth x.2 x.1) = some (.bool b) ∧ (b = true ↔ morphsOk ms)
  rw [hz, ← hz']
  clear hz hz'
  generalize hc : dCode CC 0 (Code.loop _) _ _ = r
  have hL : Runs r fun o env' H' => (o = .exit 0 ∧ env' 0 = .slice false (ms.map Mo.enc) ∧ (∀ (i : Nat) (h : i < ms.length), stepOk ms i h)) ∨ (o = .ret ∧ env' 2 = .bool false ∧ ¬ morphsOk ms) := by
    rw [← hc]
    refine loop_rule (fun k env H => ∃ (i : Nat), k + i = ms.length ∧ env 0 = .slice false (ms.map Mo.enc) ∧ env 5 = .slice false (ms.map Mo.enc) ∧ env 6 = .int .i64 ms.length ∧ env 7 = .int .i64 i ∧ (∀ (j : Nat) (h : j < ms.length), j < i → stepOk ms j h)) _ ?_ ms.length _ _
      ⟨0, by simp, by simp [go_sem], by simp [go_sem], by simp [go_sem], by simp [go_sem], fun j h hj => by omega⟩
    clear hc
    rintro k env H ⟨i, hk, e0, e5, e6, e7, hn⟩
    by_cases hi : i < ms.length
    · have hw2 := wrapS (i := i) (by omega)
      have h15 := f15_eq ms[i] (hs _ (by simp))
      have h34 := f34_eq (ms.take i) ms[i] (by rw [List.length_take]; omega)
      rw [List.map_take] at h34
      have hi' : i ≤ ms.length := by omega
      simp only [← enc_agg, cells_agg] at h15 h34
      have hall : (ms.map Mo.enc).all (fun e => e.cells.length == 5) = true := by simp [Mo.enc, PV.cells]
      have hres : ∀ (n : Nat) (H : Heap), resL n H ((ms.map Mo.enc).take i) = some ((ms.map Mo.enc).take i) := fun n H => by rw [← List.map_take]; exact resL_mos n H _
      by_cases hok : ms[i].ok
      · rw [decide_eq_true hok] at h15
        cases hcl : (ms.take i).any fun b => decide (clash ms[i] b) with
        | true =>
          rw [hcl] at h34
          simp [CC_call, go_sem, e0, e5, e6, e7, hi, hi', hw2, h15, h34, hall, hres]
          intro hm
          obtain ⟨b, hb, hcb⟩ := List.any_eq_true.1 hcl
          exact (hm.2 i hi).2 b hb (of_decide_eq_true hcb)
        | false =>
          rw [hcl] at h34
          simp [CC_call, go_sem, e0, e5, e6, e7, hi, hi', hw2, h15, h34, hall, hres]
          refine ⟨k - 1, by omega, i + 1, by omega, rfl, fun j h hj => ?_⟩
          rcases Nat.lt_or_ge j i with h1 | h1
          · exact hn j h h1
          · have : j = i := by omega
            subst this
            refine ⟨hok, fun b hb hcb => ?_⟩
            have : (ms.take j).any (fun b => decide (clash ms[j] b)) = true := List.any_eq_true.2 ⟨b, hb, decide_eq_true hcb⟩
            rw [hcl] at this
            cases this
      · rw [decide_eq_false hok] at h15
        simp [CC_call, go_sem, e0, e5, e6, e7, hi, hi', hw2, h15]
        exact fun hm => hok (hm.2 i hi).1
    · simp [go_sem, e0, e5, e6, e7, hi]
      exact fun j h => hn j h (by omega)
  obtain ⟨o, env', H', rfl, h⟩ := hL
  rcases h with ⟨rfl, h0, h1⟩ | ⟨rfl, h1, h2⟩
  · refine ⟨decide (ms.length ≤ 12), ?_, ?_⟩
    · simp [go_sem, h0]
      omega
    · simp only [decide_eq_true_eq]
      exact ⟨fun h => ⟨h, h1⟩, fun h => h.1⟩
  · exact ⟨false, by simp [go_sem, h1], by simp [h2]⟩
end Go.Proofs.Ytdlfnlflinohdaa.V
