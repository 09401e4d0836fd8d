/- What the two sides' MorphsOk compute in V, for lists no longer than a row may be. -/
import Derived.Test.YtdlfnlflinohdaaVMorphs
namespace Go.Proofs.Ytdlfnlflinohdaa.V
open Go Go.V Go.Proofs
set_option linter.unusedSimpArgs false
set_option linter.unusedVariables false

theorem f22_eq (xs ys : List Mo) (hx : xs.length ≤ maxRow) (hy : ys.length ≤ maxRow) : dPure CC 22 [.slice false (xs.map Mo.enc), .slice false (ys.map Mo.enc)] = some (.bool (decide (xs = ys))) := by
  have hx' : xs.length ≤ 68719476736 := hx
  rw [dPure_eq (C := CC) _ rfl rfl Try.func22 rfl]
  by_cases hl : xs.length = ys.length
  · simp [Try.f22, go_sem, hl]
    generalize hc : dCode CC 0 (Code.loop _) _ _ = r
    have hL : Runs r fun o env' H' => (o = .exit 0 ∧ xs = ys) ∨ (o = .ret ∧ env' 4 = .bool false ∧ xs ≠ ys) := by
      rw [← hc]
      refine loop_rule (fun k env H => ∃ (i : Nat), k + i = xs.length ∧ env 0 = .slice false (xs.map Mo.enc) ∧ env 1 = .slice false (ys.map Mo.enc) ∧ env 5 = .int .i64 i ∧ (xs.take i = ys.take i)) _ ?_ xs.length _ _
        ⟨0, by simp, by simp [go_sem], by simp [go_sem], by simp [go_sem], by simp⟩
      clear hc
      rintro k env H ⟨i, hk, e0, e1, e5, hn⟩
      by_cases hi : i < xs.length
      · have hw2 := wrapS (i := i) (by omega)
        have hi2 : i < ys.length := by omega
        have hf := f37_eq xs[i] ys[i]
        simp only [← enc_agg] at hf
        by_cases he : xs[i] = ys[i]
        · rw [decide_eq_true he] at hf
          simp [CC_call, go_sem, e0, e1, e5, hi, hi2, hw2, hf]
          refine ⟨k - 1, by omega, i + 1, by omega, rfl, ?_⟩
          rw [List.take_succ_eq_append_getElem hi, List.take_succ_eq_append_getElem hi2, hn, he]
        · rw [decide_eq_false he] at hf
          simp [CC_call, go_sem, e0, e1, e5, hi, hi2, hw2, hf]
          intro h
          subst h
          exact he rfl
      · rw [List.take_of_length_le (by omega), List.take_of_length_le (by omega)] at hn
        have hi2 : ¬ i < ys.length := by omega
        simp [go_sem, e0, e1, e5, hi, hi2, hn]
    obtain ⟨o, env', H', rfl, h⟩ := hL
    rcases h with ⟨rfl, h1⟩ | ⟨rfl, h1, h2⟩
    · simp [go_sem, h1]
    · simp [go_sem, h1, h2]
  · have hne : xs ≠ ys := fun h => hl (by rw [h])
    have hl' : ¬ ((xs.length : Int) = ys.length) := by omega
    simp [Try.f22, go_sem, hl', hne]

def clash (a b : Mo) : Prop := a.path = b.path ∧ ((a.kind ≠ 2 ∧ b.kind ≠ 2 ∧ a.dst = b.dst) ∨ (a.kind ≠ 3 ∧ b.kind ≠ 3 ∧ a.src = b.src))
instance (a b : Mo) : Decidable (clash a b) := by unfold clash; infer_instance

set_option maxHeartbeats 4000000 in
theorem f36_eq (a b : Mo) : dPure CC 36 [a.enc, b.enc] = some (.bool (decide (clash a b))) := by
  obtain ⟨k, p, s, d, t⟩ := a
  obtain ⟨k', p', s', d', t'⟩ := b
  rw [dPure_eq (C := CC) _ rfl rfl Try.func36 rfl]
  unfold clash
  simp only [Mo.enc]
  have second : ∀ (h : p = p') (hn : ¬ (k ≠ 2 ∧ k' ≠ 2 ∧ d = d')), True := fun _ _ => trivial
  by_cases h1 : p = p'
  · by_cases c : k ≠ 2 ∧ k' ≠ 2 ∧ d = d'
    · obtain ⟨c1, c2, c3⟩ := c
      simp [Try.f36, go_sem, h1, c1, c2, c3]
    · by_cases k2 : k = 2
      · have k3 : ¬ k = 3 := by omega
        by_cases k3' : k' = 3
        · simp [Try.f36, go_sem, h1, k2, k3']
        · by_cases e : s = s' <;> simp [Try.f36, go_sem, h1, k2, k3', e]
      · by_cases k2' : k' = 2
        · by_cases k3 : k = 3
          · simp [Try.f36, go_sem, h1, k3, k2']
          · by_cases e : s = s' <;> simp [Try.f36, go_sem, h1, k2, k2', k3, e]
        · have hd : ¬ d = d' := fun e => c ⟨k2, k2', e⟩
          by_cases k3 : k = 3
          · simp [Try.f36, go_sem, h1, k3, k2', hd]
          · by_cases k3' : k' = 3
            · simp [Try.f36, go_sem, h1, k2, k3, k3', hd]
            · by_cases e : s = s' <;> simp [Try.f36, go_sem, h1, k2, k2', k3, k3', hd, e]
  · simp [Try.f36, go_sem, h1]

theorem f35_eq (m b : Mo) : dPure CC 35 [b.enc, .cptr m.enc.cells 0] = some (.bool (decide (clash m b))) := by
  have h := f36_eq m b
  simp only [← enc_agg] at h
  rw [dPure_eq (C := CC) _ rfl rfl Try.func35 rfl]
  simp only [← enc_agg, cells_agg]
  simp [Try.f35, CC_call, go_sem, h]

theorem f49_eq (xs : List Mo) (f : FuncId) (fs cs : List PV) (p : Mo → Bool) (hx : xs.length ≤ maxRow) (hf : ∀ x ∈ xs, ∀ H, dCall CC f (fs ++ [x.enc] ++ cs) H = some (.bool (p x), H)) :
    ∃ n : Int, dPure CC 49 [.slice false (xs.map Mo.enc), .func (.func f) fs cs] = some (.int .i64 n) ∧ (0 ≤ n ↔ ∃ x ∈ xs, p x = true) := by
  have hx' : xs.length ≤ 68719476736 := hx
  rw [dPure_eq (C := CC) _ rfl rfl Try.func49 rfl]
  simp [Try.f49, go_sem]
  generalize hc : dCode CC 0 (Code.loop _) _ _ = r
  have hL : Runs r fun o env' H' => (o = .exit 0 ∧ ¬ ∃ x ∈ xs, p x = true) ∨ (o = .ret ∧ (∃ x ∈ xs, p x = true) ∧ ∃ i : Nat, env' 4 = .int .i64 i) := by
    rw [← hc]
    refine loop_rule (fun k env H => ∃ (i : Nat), k + i = xs.length ∧ env 0 = .slice false (xs.map Mo.enc) ∧ env 1 = .func (.func f) fs cs ∧ env 7 = .int .i64 xs.length ∧ env 8 = .int .i64 i ∧ (∀ x ∈ xs.take i, p x = false)) _ ?_ xs.length _ _
      ⟨0, by simp, by simp [go_sem], by simp [go_sem], by simp [go_sem], by simp [go_sem], by simp⟩
    clear hc
    rintro k env H ⟨i, hk, e0, e1, e7, e8, hn⟩
    by_cases hi : i < xs.length
    · have hw2 := wrapS (i := i) (by omega)
      have hfi := hf xs[i] (by simp)
      simp only [List.append_assoc, List.cons_append, List.nil_append, ← enc_agg] at hfi
      cases he : p xs[i] with
      | true =>
        simp [go_sem, e0, e1, e7, e8, hi, hw2, hfi, he]
        exact ⟨⟨xs[i], by simp, he⟩, i, rfl⟩
      | false =>
        simp [go_sem, e0, e1, e7, e8, hi, hw2, hfi, he]
        refine ⟨k - 1, by omega, i + 1, by omega, rfl, fun x hx => ?_⟩
        rw [List.take_succ_eq_append_getElem hi] at hx
        rcases List.mem_append.1 hx with h | h
        · exact hn x h
        · rw [List.mem_singleton.1 h]; exact he
    · rw [List.take_of_length_le (by omega)] at hn
      simp [go_sem, e0, e1, e7, e8, hi]
      exact hn
  obtain ⟨o, env', H', rfl, h⟩ := hL
  rcases h with ⟨rfl, h1⟩ | ⟨rfl, h1, i, h2⟩
  · refine ⟨-1, by simp [go_sem], ?_⟩
    simpa using h1
  · refine ⟨i, by simp [go_sem, h2], ?_⟩
    simpa using h1

theorem f34_eq (xs : List Mo) (m : Mo) (hx : xs.length ≤ maxRow) : dPure CC 34 [.slice false (xs.map Mo.enc), .func (.func 35) [] [.cptr m.enc.cells 0]] = some (.bool (xs.any fun b => decide (clash m b))) := by
  have hpl : ∀ (n : Nat) (H : Heap), resL n H m.enc.cells = some m.enc.cells := fun n H => by simp only [cells_mo, go_sem]
  obtain ⟨n, hn, h⟩ := f49_eq xs 35 [] [.cptr m.enc.cells 0] (fun b => decide (clash m b)) hx fun x _ H => by
    have := f35_eq m x
    simp only [List.nil_append, List.cons_append]
    rw [CC_call]
    simp only [resL_cons, resolve_mo, resolve_cptr, hpl, resL_nil, Option.bind_some, Option.map_some, this]
    simp [go_sem]
  rw [dPure_eq (C := CC) _ rfl rfl Try.func34 rfl]
  simp only [cells_mo] at hn ⊢
  simp [Try.f34, CC_call, go_sem, hn]
  rw [Bool.eq_iff_iff]
  simp [h]
end Go.Proofs.Ytdlfnlflinohdaa.V
