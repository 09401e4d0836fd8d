/- What the functions that the law FnExactMorphsOk reaches compute in V, for lists no longer than a row may be. -/
import Derived.Test.YtdlfnlflinohdaaVMoInv
namespace Go.Proofs.Ytdlfnlflinohdaa.V
open Go Go.V Go.Proofs
set_option linter.unusedSimpArgs false
set_option linter.unusedVariables false

theorem Mo.ext_iff' (a b : Mo) : a = b ↔ a.kind = b.kind ∧ a.path = b.path ∧ a.src = b.src ∧ a.dst = b.dst ∧ a.text = b.text := by
  obtain ⟨k, p, s, d, t⟩ := a
  obtain ⟨k', p', s', d', t'⟩ := b
  simp
instance : DecidableEq Mo := fun a b => decidable_of_iff _ (Mo.ext_iff' a b).symm
@[go_sem] theorem cells_mo (m : Mo) : m.enc.cells = [.int .i64 m.kind, .str m.path, .str m.src, .str m.dst, .str m.text] := rfl
@[go_sem] theorem resL_mos (n : Nat) (H : Heap) (ms : List Mo) : resL n H (ms.map Mo.enc) = some (ms.map Mo.enc) := Plain.map plain_mo ms n H
@[go_sem] theorem noRefs_mos (ms : List Mo) : noRefs (ms.map Mo.enc) = true := by induction ms <;> simp_all [noRefs, PV.noRef, Mo.enc]
@[go_sem] theorem withCells_mo (m : Mo) (cs : List PV) : m.enc.withCells cs = some (.agg cs) := rfl
theorem enc_agg (m : Mo) : PV.agg [.int .i64 m.kind, .str m.path, .str m.src, .str m.dst, .str m.text] = m.enc := rfl

theorem f37_eq (a b : Mo) : dPure CC 37 [a.enc, b.enc] = some (.bool (decide (a = b))) := by
  have h := Mo.ext_iff' a b
  obtain ⟨k, p, s, d, t⟩ := a
  obtain ⟨k', p', s', d', t'⟩ := b
  rw [dPure_eq (C := CC) _ rfl rfl Try.func37 rfl]
  simp only [Mo.enc]
  by_cases h1 : k = k'
  · by_cases h2 : p = p'
    · by_cases h3 : s = s'
      · by_cases h4 : d = d'
        · by_cases h5 : t = t' <;> simp [Try.f37, go_sem, h1, h2, h3, h4, h5]
        · simp [Try.f37, go_sem, h1, h2, h3, h4]
      · simp [Try.f37, go_sem, h1, h2, h3]
    · simp [Try.f37, go_sem, h1, h2]
  · simp [Try.f37, go_sem, h1]

def szMos : List Mo → Int → Int
  | [], left => left
  | m :: ms, left => if szMo m left < 0 then -1 else szMos ms (szMo m left)
theorem szMos_drop (ms : List Mo) (i : Nat) (h : i < ms.length) (l : Int) : szMos (ms.drop i) l = if szMo ms[i] l < 0 then -1 else szMos (ms.drop (i + 1)) (szMo ms[i] l) := by
  rw [List.drop_eq_getElem_cons h]; rfl
theorem szMo_le (m : Mo) (l : Int) (h : 0 ≤ l) : szMo m l ≤ l ∧ (szMo m l = -1 ∨ 0 ≤ szMo m l) := by
  unfold szMo
  split
  · omega
  split
  · omega
  split
  · omega
  split <;> omega
def szMorphS (ms : List Mo) (left : Int) : Int := if left - ms.length < 0 then -1 else szMos ms (left - ms.length)

theorem f18_eq (ms : List Mo) (left : Int) (h0 : 0 ≤ left) (h1 : left ≤ 1048576) (hx : ms.length ≤ 9223372036854775807) (hs : ∀ m ∈ ms, m.Fits) :
    dPure CC 18 [.slice false (ms.map Mo.enc), .int .i64 left] = some (.int .i64 (szMorphS ms left)) := by
  have hw : IntKind.i64.wrap (left - (ms.length : Int)) = left - ms.length := wrap64 (by omega) (by omega)
  rw [dPure_eq (C := CC) _ rfl rfl Try.func18 rfl]
  unfold szMorphS
  by_cases hlt : left - (ms.length : Int) < 0
  · simp [Try.f18, go_sem, hw, hlt]
  simp [Try.f18, go_sem, hw, hlt]
  generalize hc : dCode CC 0 (Code.loop _) _ _ = r
  have hL : Runs r fun o env' H' => H' = Heap.empty ∧ ((o = .exit 0 ∧ env' 1 = .int .i64 (szMos ms (left - ms.length))) ∨ (o = .ret ∧ env' 4 = .int .i64 (-1) ∧ szMos ms (left - ms.length) = -1)) := by
    rw [← hc]
    refine loop_rule (fun k env H => H = Heap.empty ∧ ∃ (i : Nat) (l : Int), k + i = ms.length ∧ env 0 = .slice false (ms.map Mo.enc) ∧ env 5 = .int .i64 i ∧ env 1 = .int .i64 l ∧ 0 ≤ l ∧ l ≤ 1048576 ∧ szMos ms (left - ms.length) = szMos (ms.drop i) l) _ ?_ ms.length _ _
      ⟨rfl, 0, left - ms.length, by simp, by simp [go_sem], by simp [go_sem], by simp [go_sem], by omega, by omega, rfl⟩
    clear hc
    rintro k env H ⟨rfl, i, l, hk, e0, e5, e1, hl0, hl1, hsz⟩
    by_cases hi : i < ms.length
    · have hf := f12_eq ms[i] (hs _ (by simp)) l hl0 hl1
      have hle := szMo_le ms[i] l hl0
      have hw2 := wrapS (i := i) (by omega)
      have hd := szMos_drop ms i hi l
      simp only [← enc_agg] at hf
      by_cases hneg : szMo ms[i] l < 0
      · rw [if_pos hneg] at hd
        simp [CC_call, go_sem, e0, e5, e1, hi, hf, hw2, hneg]
        rw [hsz, hd]
      · rw [if_neg hneg] at hd
        simp [CC_call, go_sem, e0, e5, e1, hi, hf, hw2, hneg]
        exact ⟨k - 1, by omega, i + 1, by omega, rfl, by omega, by omega, by rw [hsz, hd]⟩
    · have hd : ms.drop i = [] := List.drop_eq_nil_of_le (by omega)
      simp [go_sem, e0, e5, e1, hi]
      rw [hsz, hd]
      rfl
  obtain ⟨o, env', H', rfl, rfl, h⟩ := hL
  rcases h with ⟨rfl, h1⟩ | ⟨rfl, h1, h2⟩
  · simp [go_sem, h1]
  · simp [go_sem, h1, h2]

def mo0 : Mo := ⟨0, [], [], [], []⟩
theorem f20_eq (ms : List Mo) (hx : ms.length ≤ maxRow) : dPure CC 20 [.slice false (ms.map Mo.enc)] = some (.slice false (ms.map Mo.enc)) := by
  have hx' : ms.length ≤ 68719476736 := hx
  rw [dPure_eq (C := CC) _ rfl rfl Try.func20 rfl]
  simp [Try.f20, go_sem, hx]
  generalize hc : dCode CC 0 (Code.loop _) _ _ = r
  have hL : Runs r fun o env' H' => o = .exit 0 ∧ env' 3 = .sref 0 7 1 5 0 ms.length ∧ H'.get 0 7 = ⟨1, 0, .arr (ms.map Mo.enc)⟩ := by
    rw [← hc]
    refine loop_rule (fun k env H => ∃ (i : Nat), k + i = ms.length ∧ env 0 = .slice false (ms.map Mo.enc) ∧ env 4 = .int .i64 i ∧ env 3 = .sref 0 7 1 5 0 ms.length ∧ H.get 0 7 = ⟨1, 0, .arr ((filled mo0 ms i).map Mo.enc)⟩) _ ?_ ms.length _ _
      ⟨0, by simp, by simp [go_sem], by simp [go_sem], by simp [go_sem], by simp [go_sem, filled_zero, mo0, Mo.enc]⟩
    clear hc
    rintro k env H ⟨i, hk, e0, e4, e3, hH⟩
    by_cases hi : i < ms.length
    · have hw2 := wrapS (i := i) (by omega)
      have hg := filled_get mo0 ms i hi
      have hs := filled_set mo0 ms i hi
      have hf := f14_eq ms[i]
      simp only [← enc_agg] at hf
      simp [CC_call, go_sem, e0, e4, e3, hi, hw2, hH, hg, hf]
      refine ⟨k - 1, by omega, i + 1, by omega, rfl, ?_⟩
      rw [← hs]
      simp [Mo.enc]
    · have hd : i = ms.length := by omega
      subst hd
      simp [go_sem, e0, e4, e3, hi, hH, filled_all]
  obtain ⟨o, env', H', rfl, rfl, h1, h2⟩ := hL
  simp [go_sem, h1, h2]
end Go.Proofs.Ytdlfnlflinohdaa.V
