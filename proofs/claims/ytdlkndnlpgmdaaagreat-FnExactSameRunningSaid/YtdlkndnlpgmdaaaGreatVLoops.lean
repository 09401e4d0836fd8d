/- Loops that go along lists and stop at the first member that falls. No condition. -/
import Derived.Test.YtdlkndnlpgmdaaaGreatVLoop
/-! Loops along lists. -/
namespace Go.V
open Go
set_option linter.unusedVariables false
/-- Two lists, member by member. -/
def all2 {α β : Type} (p : α → β → Bool) : List α → List β → Bool
  | [], [] => true
  | x :: xs, y :: ys => p x y && all2 p xs ys
  | _, _ => false
theorem all2_nil {α β : Type} (p : α → β → Bool) : all2 p [] [] = true := rfl
theorem all2_length {α β : Type} {p : α → β → Bool} : ∀ {xs : List α} {ys : List β}, all2 p xs ys = true → xs.length = ys.length
  | [], [], _ => rfl
  | x :: xs, y :: ys, h => by simp only [all2, Bool.and_eq_true] at h; simp [all2_length h.2]
  | [], _ :: _, h => by simp [all2] at h
  | _ :: _, [], h => by simp [all2] at h
theorem all2_ne {α β : Type} {p : α → β → Bool} {xs : List α} {ys : List β} (h : xs.length ≠ ys.length) : all2 p xs ys = false := by
  cases hh : all2 p xs ys with
  | false => rfl
  | true => exact absurd (all2_length hh) h
theorem all2_drop {α β : Type} (p : α → β → Bool) {xs : List α} {ys : List β} {i : Nat} (hi : i < xs.length) (hj : i < ys.length) : all2 p (xs.drop i) (ys.drop i) = (p xs[i] ys[i] && all2 p (xs.drop (i + 1)) (ys.drop (i + 1))) := by
  rw [List.drop_eq_getElem_cons hi, List.drop_eq_getElem_cons hj]; rfl
theorem all2_eq {α : Type} [DecidableEq α] : ∀ (xs ys : List α), all2 (fun x y => decide (x = y)) xs ys = decide (xs = ys)
  | [], [] => by simp [all2]
  | x :: xs, y :: ys => by
    simp only [all2, all2_eq xs ys, List.cons.injEq]
    by_cases h : x = y <;> simp [h]
  | [], _ :: _ => by simp [all2]
  | _ :: _, [] => by simp [all2]
theorem all2_congr {α β : Type} {p q : α → β → Bool} : ∀ {xs : List α} {ys : List β}, (∀ x ∈ xs, ∀ y ∈ ys, p x y = q x y) → all2 p xs ys = all2 q xs ys
  | [], [], _ => rfl
  | x :: xs, y :: ys, h => by
    simp only [all2]
    rw [h x (by simp) y (by simp), all2_congr fun a ha b hb => h a (by simp [ha]) b (by simp [hb])]
  | [], _ :: _, _ => rfl
  | _ :: _, [], _ => rfl
section
variable {C : Cfg} {a : Nat} {α β : Type}
/-- A loop along two lists of one length that leaves at the first pair that falls. -/
theorem all2_loop {body : Code} (p : α → β → Bool) (xs : List α) (ys : List β) (slot x : Nat) (I : Env → Heap → Prop) (R : Env → Heap → Prop) (hlen : xs.length = ys.length)
    (good : ∀ (i : Nat) (hi : i < xs.length) (hj : i < ys.length) env H, p xs[i] ys[i] = true → I env H → env slot = .int .i64 i → Runs (dCode C a body env H) fun o env' H' => o = .norm ∧ I env' H' ∧ env' slot = .int .i64 ((i + 1 : Nat) : Int))
    (fall : ∀ (i : Nat) (hi : i < xs.length) (hj : i < ys.length) env H, p xs[i] ys[i] = false → I env H → env slot = .int .i64 i → Runs (dCode C a body env H) fun o env' H' => o = .ret ∧ R env' H')
    (stop : ∀ env H, I env H → env slot = .int .i64 xs.length → Runs (dCode C a body env H) fun o env' H' => o = .exit x ∧ I env' H')
    (env : Env) (H : Heap) (h0 : I env H) (hs : env slot = .int .i64 0) :
    Runs (dCode C a (.loop body) env H) fun o env' H' => (o = .exit x ∧ I env' H' ∧ all2 p xs ys = true) ∨ (o = .ret ∧ R env' H' ∧ all2 p xs ys = false) := by
  refine loop_rule (fun k env H => ∃ i : Nat, k + i = xs.length ∧ I env H ∧ env slot = .int .i64 i ∧ all2 p xs ys = all2 p (xs.drop i) (ys.drop i)) _ ?_ xs.length env H ⟨0, by simp, h0, hs, by simp⟩
  rintro k env H ⟨i, hk, hI, hsl, hall⟩
  by_cases hi : i < xs.length
  · have hj : i < ys.length := by omega
    have hd := all2_drop p hi hj
    cases hp : p xs[i] ys[i] with
    | true =>
      obtain ⟨o, env', H', h1, rfl, h2, h3⟩ := good i hi hj env H hp hI hsl
      refine ⟨_, _, _, h1, ?_⟩
      rw [round_norm]
      exact ⟨k - 1, by omega, i + 1, by omega, h2, h3, by rw [hall, hd, hp, Bool.true_and]⟩
    | false =>
      obtain ⟨o, env', H', h1, rfl, h2⟩ := fall i hi hj env H hp hI hsl
      refine ⟨_, _, _, h1, ?_⟩
      rw [round_ret]
      exact .inr ⟨rfl, h2, by rw [hall, hd, hp, Bool.false_and]⟩
  · have hi' : i = xs.length := by omega
    subst hi'
    obtain ⟨o, env', H', h1, rfl, h2⟩ := stop env H hI hsl
    refine ⟨_, _, _, h1, ?_⟩
    rw [round_exit]
    refine .inl ⟨rfl, h2, ?_⟩
    rw [hall, List.drop_eq_nil_of_le (Nat.le_refl _), List.drop_eq_nil_of_le (by omega)]; rfl
/-- A loop along a list that leaves at the first member that falls. -/
theorem all_loop {body : Code} (p : α → Bool) (xs : List α) (slot x : Nat) (out : Out) (hout : out ≠ .norm) (hout2 : out ≠ .exit x) (I : Env → Heap → Prop) (R : Env → Heap → Prop)
    (good : ∀ (i : Nat) (hi : i < xs.length) env H, p xs[i] = true → I env H → env slot = .int .i64 i → Runs (dCode C a body env H) fun o env' H' => o = .norm ∧ I env' H' ∧ env' slot = .int .i64 ((i + 1 : Nat) : Int))
    (fall : ∀ (i : Nat) (hi : i < xs.length) env H, p xs[i] = false → I env H → env slot = .int .i64 i → Runs (dCode C a body env H) fun o env' H' => o = out ∧ R env' H')
    (stop : ∀ env H, I env H → env slot = .int .i64 xs.length → Runs (dCode C a body env H) fun o env' H' => o = .exit x ∧ I env' H')
    (env : Env) (H : Heap) (h0 : I env H) (hs : env slot = .int .i64 0) :
    Runs (dCode C a (.loop body) env H) fun o env' H' => (o = .exit x ∧ I env' H' ∧ xs.all p = true) ∨ (o = out ∧ R env' H' ∧ xs.all p = false) := by
  refine loop_rule (fun k env H => ∃ i : Nat, k + i = xs.length ∧ I env H ∧ env slot = .int .i64 i ∧ xs.all p = (xs.drop i).all p) _ ?_ xs.length env H ⟨0, by simp, h0, hs, by simp⟩
  rintro k env H ⟨i, hk, hI, hsl, hall⟩
  by_cases hi : i < xs.length
  · have hd : (xs.drop i).all p = (p xs[i] && (xs.drop (i + 1)).all p) := by rw [List.drop_eq_getElem_cons hi]; rfl
    cases hp : p xs[i] with
    | true =>
      obtain ⟨o, env', H', h1, rfl, h2, h3⟩ := good i hi env H hp hI hsl
      refine ⟨_, _, _, h1, ?_⟩
      rw [round_norm]
      exact ⟨k - 1, by omega, i + 1, by omega, h2, h3, by rw [hall, hd, hp, Bool.true_and]⟩
    | false =>
      obtain ⟨o, env', H', h1, rfl, h2⟩ := fall i hi env H hp hI hsl
      refine ⟨_, _, _, h1, ?_⟩
      have hr : Round (fun k env H => ∃ i : Nat, k + i = xs.length ∧ I env H ∧ env slot = .int .i64 i ∧ xs.all p = (xs.drop i).all p) (fun o' env' H' => (o' = .exit x ∧ I env' H' ∧ xs.all p = true) ∨ (o' = o ∧ R env' H' ∧ xs.all p = false)) k o env' H' = ((o = .exit x ∧ I env' H' ∧ xs.all p = true) ∨ (o = o ∧ R env' H' ∧ xs.all p = false)) := by
        cases o <;> first | exact absurd rfl hout | rfl
      rw [hr]
      exact .inr ⟨rfl, h2, by rw [hall, hd, hp, Bool.false_and]⟩
  · have hi' : i = xs.length := by omega
    subst hi'
    obtain ⟨o, env', H', h1, rfl, h2⟩ := stop env H hI hsl
    refine ⟨_, _, _, h1, ?_⟩
    rw [round_exit]
    refine .inl ⟨rfl, h2, ?_⟩
    rw [hall, List.drop_eq_nil_of_le (Nat.le_refl _)]; rfl
end
end Go.V
