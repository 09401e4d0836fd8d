/- What the two sides' MorphOk and MorphText compute in V, for strings no longer than a Go string may be. -/
import Derived.Test.YtdlfnlflinohdaaVShown
namespace Go.Proofs.Ytdlfnlflinohdaa.V
open Go Go.V Go.Proofs
set_option linter.unusedSimpArgs false
set_option linter.unusedVariables false

structure Mo where
  kind : Int
  path : List UInt8
  src : List UInt8
  dst : List UInt8
  text : List UInt8
def Mo.enc (m : Mo) : PV := .agg [.int .i64 m.kind, .str m.path, .str m.src, .str m.dst, .str m.text]
structure Mo.Fits (m : Mo) : Prop where
  p : m.path.length ≤ 9223372036854775807
  s : m.src.length ≤ 9223372036854775807
  d : m.dst.length ≤ 9223372036854775807
  t : m.text.length ≤ 9223372036854775807
def Mo.ok (m : Mo) : Prop := pathOk m.path ∧ ((m.kind = 1 ∧ nameOk m.src ∧ nameOk m.dst ∧ m.text = []) ∨ (m.kind = 2 ∧ nameOk m.src ∧ m.dst = [] ∧ m.text = []) ∨ (m.kind = 3 ∧ m.src = [] ∧ nameOk m.dst ∧ shownOk m.text))
instance (m : Mo) : Decidable m.ok := by unfold Mo.ok; infer_instance

theorem plain_mo (m : Mo) : Plain m.enc := Plain.agg (by
  intro p hp
  simp at hp
  rcases hp with rfl | rfl | rfl | rfl | rfl
  · exact plain_int _ _
  all_goals exact plain_str _)
@[go_sem] theorem resolve_mo (n : Nat) (H : Heap) (m : Mo) : Go.V.resolve n H m.enc = some m.enc := plain_mo m n H

theorem f13_eq (m : Mo) (h : m.Fits) : dPure CC 13 [m.enc] = some (.bool (decide m.ok)) := by
  have h27 := f27_eq m.path h.p
  have hs := f28_eq m.src h.s
  have hd := f28_eq m.dst h.d
  have ht := f29_eq m.text h.t
  obtain ⟨k, p, s, d, t⟩ := m
  dsimp only at h27 hs hd ht
  rw [dPure_eq (C := CC) _ rfl rfl Try.func13 rfl]
  unfold Mo.ok
  by_cases h1 : pathOk p
  · by_cases k1 : k = 1
    · subst k1
      by_cases a1 : nameOk s <;> by_cases a2 : nameOk d <;> by_cases a3 : t = [] <;>
        simp [Try.f13, CC_call, go_sem, Mo.enc, h27, hs, hd, ht, h1, a1, a2, a3]
    · by_cases k2 : k = 2
      · subst k2
        by_cases a1 : nameOk s <;> by_cases a2 : d = [] <;> by_cases a3 : t = [] <;>
          simp [Try.f13, CC_call, go_sem, Mo.enc, h27, hs, hd, ht, h1, a1, a2, a3]
      · by_cases k3 : k = 3
        · subst k3
          by_cases a1 : s = [] <;> by_cases a2 : nameOk d <;> by_cases a3 : shownOk t <;>
            simp [Try.f13, CC_call, go_sem, Mo.enc, h27, hs, hd, ht, h1, a1, a2, a3]
        · simp [Try.f13, CC_call, go_sem, Mo.enc, h27, hs, hd, ht, h1, k1, k2, k3]
  · simp [Try.f13, CC_call, go_sem, Mo.enc, h27, hs, hd, ht, h1]

theorem f15_eq (m : Mo) (h : m.Fits) : dPure CC 15 [m.enc] = some (.bool (decide m.ok)) := by
  have h27 := f30_eq m.path h.p
  have hs := f31_eq m.src h.s
  have hd := f31_eq m.dst h.d
  have ht := f32_eq m.text h.t
  obtain ⟨k, p, s, d, t⟩ := m
  dsimp only at h27 hs hd ht
  rw [dPure_eq (C := CC) _ rfl rfl Try.func15 rfl]
  unfold Mo.ok
  by_cases h1 : pathOk p
  · by_cases k1 : k = 1
    · subst k1
      by_cases a1 : nameOk s <;> by_cases a2 : nameOk d <;> by_cases a3 : t = [] <;>
        simp [Try.f15, CC_call, go_sem, Mo.enc, h27, hs, hd, ht, h1, a1, a2, a3]
    · by_cases k2 : k = 2
      · subst k2
        by_cases a1 : nameOk s <;> by_cases a2 : d = [] <;> by_cases a3 : t = [] <;>
          simp [Try.f15, CC_call, go_sem, Mo.enc, h27, hs, hd, ht, h1, a1, a2, a3]
      · by_cases k3 : k = 3
        · subst k3
          by_cases a1 : s = [] <;> by_cases a2 : nameOk d <;> by_cases a3 : shownOk t <;>
            simp [Try.f15, CC_call, go_sem, Mo.enc, h27, hs, hd, ht, h1, a1, a2, a3]
        · simp [Try.f15, CC_call, go_sem, Mo.enc, h27, hs, hd, ht, h1, k1, k2, k3]
  · simp [Try.f15, CC_call, go_sem, Mo.enc, h27, hs, hd, ht, h1]

theorem f14_eq (m : Mo) : dPure CC 14 [m.enc] = some m.enc := by
  obtain ⟨k, p, s, d, t⟩ := m
  rw [dPure_eq (C := CC) _ rfl rfl Try.func14 rfl]
  simp [Try.f14, go_sem, Mo.enc]

/-- szMorph. -/
def szMo (m : Mo) (left : Int) : Int :=
  if left - m.path.length < 0 then -1 else if left - m.path.length - m.src.length < 0 then -1 else if left - m.path.length - m.src.length - m.dst.length < 0 then -1
  else if left - m.path.length - m.src.length - m.dst.length - m.text.length < 0 then -1 else left - m.path.length - m.src.length - m.dst.length - m.text.length
theorem f12_eq (m : Mo) (h : m.Fits) (left : Int) (h0 : 0 ≤ left) (h1 : left ≤ 1048576) : dPure CC 12 [m.enc, .int .i64 left] = some (.int .i64 (szMo m left)) := by
  obtain ⟨k, p, s, d, t⟩ := m
  obtain ⟨hp, hs, hd, ht⟩ := h
  dsimp only at hp hs hd ht
  rw [dPure_eq (C := CC) _ rfl rfl Try.func12 rfl]
  unfold szMo
  have w1 : IntKind.i64.wrap (left - (p.length : Int)) = left - p.length := wrap64 (by omega) (by omega)
  by_cases a1 : left - (p.length : Int) < 0
  · simp [Try.f12, go_sem, Mo.enc, w1, a1]
  have w2 : IntKind.i64.wrap (left - (p.length : Int) - s.length) = left - p.length - s.length := wrap64 (by omega) (by omega)
  by_cases a2 : left - (p.length : Int) - s.length < 0
  · simp [Try.f12, go_sem, Mo.enc, w1, a1, w2, a2]
  have w3 : IntKind.i64.wrap (left - (p.length : Int) - s.length - d.length) = left - p.length - s.length - d.length := wrap64 (by omega) (by omega)
  by_cases a3 : left - (p.length : Int) - s.length - d.length < 0
  · simp [Try.f12, go_sem, Mo.enc, w1, a1, w2, a2, w3, a3]
  have w4 : IntKind.i64.wrap (left - (p.length : Int) - s.length - d.length - t.length) = left - p.length - s.length - d.length - t.length := wrap64 (by omega) (by omega)
  by_cases a4 : left - (p.length : Int) - s.length - d.length - t.length < 0 <;>
    simp [Try.f12, go_sem, Mo.enc, w1, a1, w2, a2, w3, a3, w4, a4]

/-- The text of a morph. -/
def Mo.say (m : Mo) : List UInt8 :=
  if m.kind = 1 then [114, 101, 110, 97, 109, 101, 32] ++ m.path ++ [32] ++ m.src ++ [32] ++ m.dst
  else if m.kind = 2 then [100, 114, 111, 112, 32] ++ m.path ++ [32] ++ m.src
  else [97, 100, 100, 32] ++ m.path ++ [32] ++ m.dst ++ [32] ++ m.text
theorem Mo.ok_short {m : Mo} (h : m.ok) : m.path.length ≤ 60 ∧ m.src.length ≤ 12 ∧ m.dst.length ≤ 12 ∧ m.text.length ≤ 60 := by
  obtain ⟨h1, h2⟩ := h
  refine ⟨h1.1, ?_⟩
  rcases h2 with ⟨_, a, b, c⟩ | ⟨_, a, b, c⟩ | ⟨_, a, b, c⟩
  · exact ⟨a.1.2.1, b.1.2.1, by rw [c]; simp⟩
  · exact ⟨a.1.2.1, by rw [b]; simp, by rw [c]; simp⟩
  · exact ⟨by rw [a]; simp, b.1.2.1, c.1.2⟩
theorem ite_big {α : Type} {n : Int} (h : n ≤ 9223372036854775807) (x : Option α) : (if 9223372036854775807 < n then none else x) = x := if_neg (by omega)
theorem i64_max : IntKind.i64.max = 9223372036854775807 := by decide
theorem f33_eq (m : Mo) (h : m.ok) : dPure CC 33 [m.enc] = some (.str m.say) := by
  obtain ⟨b1, b2, b3, b4⟩ := Mo.ok_short h
  obtain ⟨k, p, s, d, t⟩ := m
  dsimp only at b1 b2 b3 b4
  rw [dPure_eq (C := CC) _ rfl rfl Try.func33 rfl]
  unfold Mo.say
  by_cases k1 : k = 1
  · subst k1
    simp (disch := first | omega | decide | simp_all) [Try.f33, go_sem, Mo.enc, i64_max, ite_big]
  · by_cases k2 : k = 2
    · subst k2
      simp (disch := first | omega | decide | simp_all) [Try.f33, go_sem, Mo.enc, i64_max, ite_big]
    · simp (disch := first | omega | decide | simp_all) [Try.f33, go_sem, Mo.enc, i64_max, ite_big, k1, k2]
theorem f16_eq (m : Mo) (h : m.Fits) : dPure CC 16 [m.enc] = some (.str (if m.ok then m.say else [])) := by
  have h13 := f13_eq m h
  rw [dPure_eq (C := CC) _ rfl rfl Try.func16 rfl]
  by_cases hok : m.ok
  · have h33 := f33_eq m hok
    obtain ⟨k, p, s, d, t⟩ := m
    simp only [Mo.enc] at h13 h33 ⊢
    simp [Try.f16, CC_call, go_sem, h13, h33, hok]
  · obtain ⟨k, p, s, d, t⟩ := m
    simp only [Mo.enc] at h13 ⊢
    simp [Try.f16, CC_call, go_sem, h13, hok]
set_option maxHeartbeats 2000000 in
theorem f17_eq (m : Mo) (h : m.Fits) : dPure CC 17 [m.enc] = some (.str (if m.ok then m.say else [])) := by
  have h15 := f15_eq m h
  rw [dPure_eq (C := CC) _ rfl rfl Try.func17 rfl]
  by_cases hok : m.ok
  · obtain ⟨b1, b2, b3, b4⟩ := Mo.ok_short hok
    unfold Mo.say
    obtain ⟨k, p, s, d, t⟩ := m
    dsimp only at b1 b2 b3 b4
    simp only [Mo.enc] at h15 ⊢
    by_cases k1 : k = 1
    · subst k1
      simp (disch := first | omega | decide | simp_all) [Try.f17, CC_call, go_sem, i64_max, ite_big, h15, hok]
    · by_cases k2 : k = 2
      · subst k2
        simp (disch := first | omega | decide | simp_all) [Try.f17, CC_call, go_sem, i64_max, ite_big, h15, hok]
      · simp (disch := first | omega | decide | simp_all) [Try.f17, CC_call, go_sem, i64_max, ite_big, h15, hok, k1, k2]
  · rw [decide_eq_false hok] at h15
    rw [if_neg hok]
    clear hok
    obtain ⟨k, p, s, d, t⟩ := m
    simp only [Mo.enc] at h15 ⊢
    simp [Try.f17, CC_call, go_sem, h15]

theorem f4_eq (m : Mo) (h : m.Fits) : dPure CC 4 [m.enc] = some (.bool true) := by
  have h12 := f12_eq m h 1048576 (by omega) (by omega)
  have h14 := f14_eq m
  have h13 := f13_eq m h
  have h15 := f15_eq m h
  rw [dPure_eq (C := CC) _ rfl rfl Try.func4 rfl]
  generalize szMo m 1048576 = z at h12
  generalize decide m.ok = b at h13 h15
  obtain ⟨k, p, s, d, t⟩ := m
  simp only [Mo.enc] at h12 h13 h14 h15 ⊢
  by_cases hz : z < 0
  · simp [Try.f4, CC_call, go_sem, h12, hz]
  · simp [Try.f4, CC_call, go_sem, h12, h13, h14, h15, hz]

theorem f5_eq (m : Mo) (h : m.Fits) : dPure CC 5 [m.enc] = some (.bool true) := by
  have h12 := f12_eq m h 1048576 (by omega) (by omega)
  have h14 := f14_eq m
  have h16 := f16_eq m h
  have h17 := f17_eq m h
  rw [dPure_eq (C := CC) _ rfl rfl Try.func5 rfl]
  generalize szMo m 1048576 = z at h12
  generalize (if m.ok then m.say else []) = b at h16 h17
  obtain ⟨k, p, s, d, t⟩ := m
  simp only [Mo.enc] at h12 h14 h16 h17 ⊢
  by_cases hz : z < 0
  · simp [Try.f5, CC_call, go_sem, h12, hz]
  · simp [Try.f5, CC_call, go_sem, h12, h14, h16, h17, hz]
end Go.Proofs.Ytdlfnlflinohdaa.V
