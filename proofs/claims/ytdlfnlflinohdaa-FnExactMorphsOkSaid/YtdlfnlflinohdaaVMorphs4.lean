/- The reference's MorphsOk gives what the program's gives; the law FnExactMorphsOk computes true in V, for strings and lists no longer than they may be. -/
import Derived.Test.YtdlfnlflinohdaaVMorphs3
namespace Go.Proofs.Ytdlfnlflinohdaa.V
open Go Go.V Go.Proofs
set_option linter.unusedSimpArgs false
set_option linter.unusedVariables false

def clash2 (a b : Mo) : Prop := a.path = b.path ∧ ((a.dst ≠ [] ∧ a.dst = b.dst) ∨ (a.src ≠ [] ∧ a.src = b.src))
instance (a b : Mo) : Decidable (clash2 a b) := by unfold clash2; infer_instance
theorem nameOk_ne {s : List UInt8} (h : nameOk s) : s ≠ [] := fun e => by have := h.1.1; rw [e] at this; simp at this
theorem clash_iff {a b : Mo} (ha : a.ok) (hb : b.ok) : clash a b ↔ clash2 a b := by
  have side : ∀ {m : Mo}, m.ok → (m.kind ≠ 2 ↔ m.dst ≠ []) ∧ (m.kind ≠ 3 ↔ m.src ≠ []) := fun {m} h => by
    rcases h.2 with ⟨k, x, y, z⟩ | ⟨k, x, y, z⟩ | ⟨k, x, y, z⟩
    · exact ⟨⟨fun _ => nameOk_ne y, fun _ => by omega⟩, ⟨fun _ => nameOk_ne x, fun _ => by omega⟩⟩
    · exact ⟨⟨fun h => absurd k h, fun h => absurd y h⟩, ⟨fun _ => nameOk_ne x, fun _ => by omega⟩⟩
    · exact ⟨⟨fun _ => nameOk_ne y, fun _ => by omega⟩, ⟨fun h => absurd k h, fun h => absurd x h⟩⟩
  obtain ⟨a1, a2⟩ := side ha
  obtain ⟨b1, b2⟩ := side hb
  unfold clash clash2
  rw [a1, a2, b1, b2]
  constructor
  · rintro ⟨h, ⟨x, y, z⟩ | ⟨x, y, z⟩⟩
    · exact ⟨h, .inl ⟨x, z⟩⟩
    · exact ⟨h, .inr ⟨x, z⟩⟩
  · rintro ⟨h, ⟨x, z⟩ | ⟨x, z⟩⟩
    · exact ⟨h, .inl ⟨x, by rw [← z]; exact x, z⟩⟩
    · exact ⟨h, .inr ⟨x, by rw [← z]; exact x, z⟩⟩

set_option maxHeartbeats 4000000 in
theorem f19_eq (ms : List Mo) (hx : ms.length ≤ maxRow) (hs : ∀ m ∈ ms, m.Fits) : ∃ b, dPure CC 19 [.slice false (ms.map Mo.enc)] = some (.bool b) ∧ (b = true ↔ morphsOk ms) := by
  have hx' : ms.length ≤ 68719476736 := hx
  rw [dPure_eq (C := CC) _ rfl rfl Try.func19 rfl]
  by_cases h12 : (12 : Int) < ms.length
  · refine ⟨false, ?_, ?_⟩
    · simp [Try.f19, go_sem, h12]
    · simp only [Bool.false_eq_true, false_iff]
      exact fun h => by have := h.1; omega
  have key : ∃ z, ((dCode CC 0 (match Try.f19.body with | some c => c | none => .skip) (Env.ofList [.slice false (ms.map Mo.enc)]) Heap.empty).bind (dEnd CC Try.f19.results.toList)).bind (fun x => Go.V.resolve depth x.2 x.1) = z := ⟨_, rfl⟩
  obtain ⟨z, hz⟩ := key
  have hz' := hz
  simp [Try.f19, go_sem, h12] at hz'
  show ∃ b, ((dCode CC 0 (match Try.f19.body with | some c => c | none => .skip) (Env.ofList [.slice false (ms.map Mo.enc)]) Heap.empty).bind (dEnd CC Try.f19.results.toList)).bind (fun x => Go.V.resolve depth x.2 x.1) = some (.bool b) ∧ (b = true ↔ morphsOk ms)
  rw [hz, ← hz']
  clear hz hz'
  generalize hc : dCode CC 0 (Code.loop _) _ _ = r
  have hL : Runs r fun o env' H' => (o = .exit 0 ∧ (∀ (i : Nat) (h : i < ms.length), stepOk ms i h)) ∨ (o = .ret ∧ env' 2 = .bool false ∧ ¬ morphsOk ms) := by
    rw [← hc]
    refine loop_rule (fun k env H => ∃ (i : Nat), k + i = ms.length ∧ env 0 = .slice false (ms.map Mo.enc) ∧ env 3 = .int .i64 i ∧ (∀ (j : Nat) (h : j < ms.length), j < i → stepOk ms j h)) _ ?_ ms.length _ _
      ⟨0, by simp, by simp [go_sem], by simp [go_sem], fun j h hj => by omega⟩
    clear hc
    rintro k env H ⟨i, hk, e0, e3, hn⟩
    by_cases hi : i < ms.length
    · have hw2 := wrapS (i := i) (by omega)
      have h13 := f13_eq ms[i] (hs _ (by simp))
      simp only [← enc_agg] at h13
      by_cases hok : ms[i].ok
      · rw [decide_eq_true hok] at h13
        simp [CC_call, go_sem, e0, e3, hi, hw2, h13]
        generalize hc2 : dCode CC 0 (Code.loop _) _ _ = r2
        have hL2 : Runs r2 fun o env' H' => (o = .exit 2 ∧ env' 0 = .slice false (ms.map Mo.enc) ∧ env' 3 = .int .i64 i ∧ (∀ b ∈ ms.take i, ¬ clash2 ms[i] b)) ∨ (o = .ret ∧ env' 2 = .bool false ∧ ∃ b ∈ ms.take i, clash2 ms[i] b) := by
          rw [← hc2]
          refine loop_rule (fun k2 env H => ∃ (j : Nat), k2 + j = i ∧ env 0 = .slice false (ms.map Mo.enc) ∧ env 3 = .int .i64 i ∧ env 4 = .int .i64 j ∧ (∀ b ∈ ms.take j, ¬ clash2 ms[i] b)) _ ?_ i _ _
            ⟨0, by simp, by simp [go_sem, e0], by simp [go_sem, e3], by simp [go_sem], by simp⟩
          clear hc2
          rintro k2 env2 H2 ⟨j, hk2, e0, e3, e4, hn2⟩
          by_cases hj : j < i
          · have hw3 := wrapS (i := j) (by omega)
            have hjl : j < ms.length := by omega
            have hok2 : ¬ clash2 ms[i] ms[j] → ∃ k', k' < k2 ∧ ∃ j', k' + j' = i ∧ (j : Int) + 1 = (j' : Int) ∧ ∀ b ∈ ms.take j', ¬ clash2 ms[i] b := fun h =>
              ⟨k2 - 1, by omega, j + 1, by omega, rfl, fun b hb => by
                rw [List.take_succ_eq_append_getElem hjl] at hb
                rcases List.mem_append.1 hb with hb | hb
                · exact hn2 b hb
                · rw [List.mem_singleton.1 hb]; exact h⟩
            have hbad2 : clash2 ms[i] ms[j] → ∃ b ∈ ms.take i, clash2 ms[i] b := fun h => ⟨ms[j], List.mem_iff_getElem.2 ⟨j, by rw [List.length_take]; omega, by simp⟩, h⟩
            have d3 : ms[j].dst = ms[i].dst ∨ ¬ ms[i].dst = ms[j].dst := (Decidable.em (ms[i].dst = ms[j].dst)).imp Eq.symm id
            have d5 : ms[j].src = ms[i].src ∨ ¬ ms[i].src = ms[j].src := (Decidable.em (ms[i].src = ms[j].src)).imp Eq.symm id
            by_cases c1 : ms[i].path = ms[j].path <;> by_cases c2 : ms[i].dst = [] <;> rcases d3 with c3 | c3 <;> by_cases c4 : ms[i].src = [] <;> rcases d5 with c5 | c5 <;>
              simp [CC_call, go_sem, e0, e3, e4, hi, hj, hjl, hw3, c1, c2, c3, c4, c5] <;> first
                | (exact hok2 (fun h => by obtain ⟨h0, ⟨h1, h2⟩ | ⟨h1, h2⟩⟩ := h <;> first | exact absurd h0 c1 | exact h1 c2 | exact c3 h2 | exact h1 c4 | exact c5 h2))
                | (exact hbad2 ⟨c1, by first | exact .inl ⟨c2, c3.symm⟩ | exact .inr ⟨c4, c5.symm⟩⟩)
          · have : j = i := by omega
            subst this
            simp [go_sem, e0, e3, e4]
            exact hn2
        obtain ⟨o, env', H', rfl, h⟩ := hL2
        have hprev : ∀ b ∈ ms.take i, b.ok := fun b hb => by
          obtain ⟨j, hj, rfl⟩ := List.mem_iff_getElem.1 hb
          have hji : j < i := by rw [List.length_take] at hj; omega
          have := (hn j (by omega) hji).1
          simpa using this
        rcases h with ⟨rfl, g0, g3, g⟩ | ⟨rfl, g2, b, hb, hcl⟩
        · simp [go_sem, g0, g3, hw2]
          refine ⟨k - 1, by omega, i + 1, by omega, rfl, fun j h hj => ?_⟩
          rcases Nat.lt_or_ge j i with h1 | h1
          · exact hn j h h1
          · have : j = i := by omega
            subst this
            exact ⟨hok, fun b hb hcb => g b hb ((clash_iff hok (hprev b hb)).1 hcb)⟩
        · simp [go_sem, g2]
          exact fun hm => (hm.2 i hi).2 b hb ((clash_iff hok (hprev b hb)).2 hcl)
      · rw [decide_eq_false hok] at h13
        simp [CC_call, go_sem, e0, e3, hi, hw2, h13]
        exact fun hm => hok (hm.2 i hi).1
    · simp [go_sem, e0, e3, hi]
      exact fun j h => hn j h (by omega)
  obtain ⟨o, env', H', rfl, h⟩ := hL
  rcases h with ⟨rfl, h1⟩ | ⟨rfl, h1, h2⟩
  · refine ⟨true, ?_, ?_⟩
    · simp [go_sem]
    · simp only [true_iff]
      exact ⟨by omega, h1⟩
  · exact ⟨false, by simp [go_sem, h1], by simp [h2]⟩

theorem szMos_spec (ms : List Mo) (h : ¬ szMorphS ms 1048576 < 0) : (ms.length : Int) ≤ 1048576 := by
  unfold szMorphS at h
  split at h
  · simp at h
  · omega
theorem f6_eq (ms : List Mo) (hl : ms.length ≤ 9223372036854775807) (hs : ∀ m ∈ ms, m.Fits) : dPure CC 6 [.slice false (ms.map Mo.enc)] = some (.bool true) := by
  have h18 := f18_eq ms 1048576 (by omega) (by omega) hl hs
  rw [dPure_eq (C := CC) _ rfl rfl Try.func6 rfl]
  by_cases hz : szMorphS ms 1048576 < 0
  · simp [Try.f6, CC_call, go_sem, h18, hz]
  · have hlen := szMos_spec ms hz
    have hx : ms.length ≤ maxRow := by unfold maxRow; omega
    obtain ⟨b, h19, hb⟩ := f19_eq ms hx hs
    obtain ⟨b', h21, hb'⟩ := f21_eq ms hx hs
    have hbb : b' = b := by rw [Bool.eq_iff_iff, hb, hb']
    subst hbb
    simp [Try.f6, CC_call, go_sem, h18, hz, f20_eq ms hx, h19, h21, f22_eq ms ms hx hx]
theorem mos_inv {p : PV} (h : HasTy Try.prog 34 p) : ∃ ms : List Mo, p = .slice false (ms.map Mo.enc) ∧ ms.length ≤ maxLen ∧ ∀ m ∈ ms, m.Fits := by
  obtain ⟨es, rfl, hl, hc⟩ := h.slice_inv Try.underlying34
  obtain ⟨ms, rfl, hm⟩ := list_of (enc := Mo.enc) (R := Mo.Fits) (fun x hx => mo_inv hx) hc
  exact ⟨ms, rfl, by simpa using hl, hm⟩
end Go.Proofs.Ytdlfnlflinohdaa.V
