/- New rows, stores and appends of V keep the relation to memory. No condition. -/
import Derived.Test.YtdlkndnlpgmdaaaGreatVSim
/-! How the V heap turns: a new row, a store, an append. -/
namespace Go.V
open Go Go.RowKit
set_option linter.unusedSimpArgs false
set_option linter.unusedVariables false

def SMap.upd (σ : SMap) (a d : Nat) (x : Nat × Nat × Nat) : SMap := fun a' d' => if a' = a ∧ d' = d then some x else σ a' d'
theorem SMap.upd_same (σ : SMap) (a d : Nat) (x : Nat × Nat × Nat) : σ.upd a d x a d = some x := by simp [SMap.upd]
theorem SMap.upd_ne (σ : SMap) {a d a' d' : Nat} (x : Nat × Nat × Nat) (h : ¬ (a' = a ∧ d' = d)) : σ.upd a d x a' d' = σ a' d' := by simp [SMap.upd, h]
theorem Heap.get_set_same (H : Heap) (a d : Nat) (o : Obj) : (H.set a d o).get a d = o := by simp [Heap.set]
theorem Heap.get_set_ne (H : Heap) {a d a' d' : Nat} (o : Obj) (h : ¬ (a' = a ∧ d' = d)) : (H.set a d o).get a' d' = H.get a' d' := by simp [Heap.set, h]

section
variable {w : World} {F : Nat → Prop} {σ : SMap} {H : Heap}

theorem RelObj.ext' {hp hp' : Array Go.Obj} {F F' : Nat → Prop} {σ σ' : SMap} {H H' : Heap} {a d : Nat} (x : Ext hp F σ H hp' F' σ' H') (ho : RelObj hp F σ H a d) (hg : H'.get a d = H.get a d) (hσ : σ' a d = σ a d)
    (hb : ∀ b base n, alive H a d → σ a d = some (b, base, n) → hp'[b]? = hp[b]? ∧ ¬ F' b) : RelObj hp' F' σ' H' a d := by
  unfold RelObj at *
  rw [hg]
  split at ho
  · trivial
  · rename_i es h
    obtain ⟨b, base, n, c, t, lo, hi, h1, h2, h3, h4, h5, h6, h7⟩ := ho
    obtain ⟨hb1, hb2⟩ := hb b base n (alive_of h) h1
    exact ⟨b, base, n, c, t, lo, hi, by rw [hσ]; exact h1, by rw [hb1]; exact h2, hb2, h4, h5, fun i e he j p hp => by
      obtain ⟨u, hu, hr⟩ := h6 i e he j p hp
      exact ⟨u, hu, hr.ext x⟩, h7⟩
  · rename_i s pos h
    obtain ⟨b, base, n, h1, h2, h3⟩ := ho
    obtain ⟨hb1, hb2⟩ := hb b base n (by unfold alive; rw [h]; rfl) h1
    exact ⟨b, base, n, by rw [hσ]; exact h1, by rw [hb1]; exact h2, hb2⟩
  · exact ho.elim

theorem RelS.block_lt (hs : RelS w.heap F σ H) {b : Nat} (h : Wr σ H b) : b < w.heap.size ∧ ¬ F b := by
  obtain ⟨a, d, base, n, hal, hσ⟩ := h
  have ho := hs.obj a d
  unfold RelObj at ho
  unfold alive at hal
  split at ho
  · rename_i he; rw [he] at hal; cases hal
  · obtain ⟨b', base', n', c, t, lo, hi, h1, h2, h3, _⟩ := ho
    rw [hσ] at h1
    simp only [Option.some.injEq, Prod.mk.injEq] at h1
    obtain ⟨rfl, rfl, rfl⟩ := h1
    exact ⟨(Array.getElem?_eq_some_iff.1 h2).1, h3⟩
  · obtain ⟨b', base', n', h1, h2, h3⟩ := ho
    rw [hσ] at h1
    simp only [Option.some.injEq, Prod.mk.injEq] at h1
    obtain ⟨rfl, rfl, rfl⟩ := h1
    exact ⟨(Array.getElem?_eq_some_iff.1 h2).1, h3⟩
  · exact ho.elim

theorem sizeAt_push (hp : Array Go.Obj) (o : Go.Obj) (b : Nat) : sizeAt hp b ≤ sizeAt (hp.push o) b := by
  unfold sizeAt
  by_cases h : b < hp.size
  · rw [Array.getElem?_push, if_neg (by omega)]; exact Nat.le_refl _
  · rw [Array.getElem?_eq_none (Nat.le_of_not_lt h)]; exact Nat.zero_le _

/-- A new row. -/
theorem new_row_fz (fz : Nat) (hs : RelS w.heap F σ H) (a d : Nat) (es : List PV) (n : Nat) (c : Array Value) (t : TypeId) (hn : ∀ e ∈ es, e.cells.length = n ∧ e.cells.all PV.one = true) (hl : es.length * n ≤ c.size)
    (hc : ∀ (i : Nat) e, es[i]? = some e → ∀ (j : Nat) p, e.cells[j]? = some p → ∃ u, c[i * n + j]? = some u ∧ Rep w.heap F σ H u p) :
    Go_ w F σ H (w.alloc (.cells c t)) F (σ.upd a d (w.heap.size, 0, n)) (H.set a d ⟨(H.get a d).ver + 1, fz, .arr es⟩) := by
  have hx : Ext w.heap F σ H (w.alloc (.cells c t)).heap F (σ.upd a d (w.heap.size, 0, n)) (H.set a d ⟨(H.get a d).ver + 1, fz, .arr es⟩) := by
    refine ⟨fun _ h => h, fun b hb => ?_, fun a' d' => ?_⟩
    · have := hs.lt b hb
      show (w.heap.push _)[b]? = _
      rw [Array.getElem?_push, if_neg (by omega)]
    · by_cases h : a' = a ∧ d' = d
      · obtain ⟨rfl, rfl⟩ := h
        left
        simp [Heap.get_set_same]
      · right
        simp only [Heap.get_set_ne H _ h, SMap.upd_ne σ _ h, true_and]
        exact fun b base n hσ => ⟨hσ, sizeAt_push _ _ _⟩
  have hold : ∀ b, b < w.heap.size → (w.alloc (.cells c t)).heap[b]? = w.heap[b]? := fun b hb => by
    show (w.heap.push _)[b]? = _
    rw [Array.getElem?_push, if_neg (by omega)]
  have hal : ∀ {a' d'}, ¬ (a' = a ∧ d' = d) → alive (H.set a d ⟨(H.get a d).ver + 1, fz, .arr es⟩) a' d' → alive H a' d' := fun h he => by unfold alive at *; rw [Heap.get_set_ne H _ h] at he; exact he
  refine ⟨hx, ⟨rfl, rfl, rfl, by show _ ≤ (w.heap.push _).size; simp, fun b hb _ => hold b hb, fun b h => .inl h, fun b ⟨a', d', base, m, ha, hσ⟩ => ?_⟩, ⟨fun a' d' => ?_, ?_, fun b hb => by have := hs.lt b hb; show _ < (w.heap.push _).size; simp; omega⟩⟩
  · by_cases h : a' = a ∧ d' = d
    · obtain ⟨rfl, rfl⟩ := h
      rw [SMap.upd_same] at hσ
      simp only [Option.some.injEq, Prod.mk.injEq] at hσ
      exact .inr (by omega)
    · rw [SMap.upd_ne σ _ h] at hσ
      exact .inl ⟨a', d', base, m, hal h ha, hσ⟩
  · by_cases h : a' = a ∧ d' = d
    · obtain ⟨rfl, rfl⟩ := h
      unfold RelObj
      simp only [Heap.get_set_same]
      refine ⟨w.heap.size, 0, n, c, t, 0, 0, SMap.upd_same .., by show (w.heap.push _)[_]? = _; simp, fun hF => by have := hs.lt _ hF; omega, by omega, hn, fun i e he j p hp => ?_, fun o _ h => by omega⟩
      obtain ⟨u, hu, hr⟩ := hc i e he j p hp
      exact ⟨u, by rw [show 0 + i * n + j = i * n + j by omega]; exact hu, hr.ext hx⟩
    · refine RelObj.ext' hx (hs.obj a' d') (by rw [Heap.get_set_ne H _ h]) (SMap.upd_ne σ _ h) fun b base m ha hσ => ?_
      have := hs.block_lt ⟨a', d', base, m, ha, hσ⟩
      exact ⟨hold b this.1, this.2⟩
  · intro a1 d1 a2 d2 b base n1 base' n2 h1 h2 hσ1 hσ2
    by_cases e1 : a1 = a ∧ d1 = d <;> by_cases e2 : a2 = a ∧ d2 = d
    · exact ⟨by omega, by omega⟩
    · exfalso
      rw [SMap.upd_ne σ _ e2] at hσ2
      obtain ⟨rfl, rfl⟩ := e1
      rw [SMap.upd_same] at hσ1
      simp only [Option.some.injEq, Prod.mk.injEq] at hσ1
      have := hs.block_lt ⟨a2, d2, base', n2, hal e2 h2, hσ2⟩
      omega
    · exfalso
      rw [SMap.upd_ne σ _ e1] at hσ1
      obtain ⟨rfl, rfl⟩ := e2
      rw [SMap.upd_same] at hσ2
      simp only [Option.some.injEq, Prod.mk.injEq] at hσ2
      have := hs.block_lt ⟨a1, d1, base, n1, hal e1 h1, hσ1⟩
      omega
    · rw [SMap.upd_ne σ _ e1] at hσ1
      rw [SMap.upd_ne σ _ e2] at hσ2
      exact hs.inj a1 d1 a2 d2 b base n1 base' n2 (hal e1 h1) (hal e2 h2) hσ1 hσ2

theorem new_row (hs : RelS w.heap F σ H) (a d : Nat) (es : List PV) (n : Nat) (c : Array Value) (t : TypeId) (hn : ∀ e ∈ es, e.cells.length = n ∧ e.cells.all PV.one = true) (hl : es.length * n ≤ c.size)
    (hc : ∀ (i : Nat) e, es[i]? = some e → ∀ (j : Nat) p, e.cells[j]? = some p → ∃ u, c[i * n + j]? = some u ∧ Rep w.heap F σ H u p) :
    Go_ w F σ H (w.alloc (.cells c t)) F (σ.upd a d (w.heap.size, 0, n)) (H.newArr a d es) := new_row_fz 0 hs a d es n c t hn hl hc

/-- A new iterator. -/
theorem new_iter (hs : RelS w.heap F σ H) (a d : Nat) (s : List UInt8) (pos : Nat) :
    Go_ w F σ H (w.alloc (.stringIter ⟨⟨s⟩⟩ pos)) F (σ.upd a d (w.heap.size, 0, 0)) (H.new a d (.iter s pos)) := by
  have hx : Ext w.heap F σ H (w.alloc (.stringIter ⟨⟨s⟩⟩ pos)).heap F (σ.upd a d (w.heap.size, 0, 0)) (H.new a d (.iter s pos)) := by
    refine ⟨fun _ h => h, fun b hb => ?_, fun a' d' => ?_⟩
    · have := hs.lt b hb
      show (w.heap.push _)[b]? = _
      rw [Array.getElem?_push, if_neg (by omega)]
    · by_cases h : a' = a ∧ d' = d
      · obtain ⟨rfl, rfl⟩ := h
        left
        simp [Heap.new, Heap.get_set_same]
      · right
        simp only [Heap.new, Heap.get_set_ne H _ h, SMap.upd_ne σ _ h, true_and]
        exact fun b base n hσ => ⟨hσ, sizeAt_push _ _ _⟩
  have hold : ∀ b, b < w.heap.size → (w.alloc (.stringIter ⟨⟨s⟩⟩ pos)).heap[b]? = w.heap[b]? := fun b hb => by
    show (w.heap.push _)[b]? = _
    rw [Array.getElem?_push, if_neg (by omega)]
  have hal : ∀ {a' d'}, ¬ (a' = a ∧ d' = d) → alive (H.new a d (.iter s pos)) a' d' → alive H a' d' := fun h he => by unfold alive at *; rw [Heap.new, Heap.get_set_ne H _ h] at he; exact he
  refine ⟨hx, ⟨rfl, rfl, rfl, by show _ ≤ (w.heap.push _).size; simp, fun b hb _ => hold b hb, fun b h => .inl h, fun b ⟨a', d', base, m, ha, hσ⟩ => ?_⟩, ⟨fun a' d' => ?_, ?_, fun b hb => by have := hs.lt b hb; show _ < (w.heap.push _).size; simp; omega⟩⟩
  · by_cases h : a' = a ∧ d' = d
    · obtain ⟨rfl, rfl⟩ := h
      rw [SMap.upd_same] at hσ
      simp only [Option.some.injEq, Prod.mk.injEq] at hσ
      exact .inr (by omega)
    · rw [SMap.upd_ne σ _ h] at hσ
      exact .inl ⟨a', d', base, m, hal h ha, hσ⟩
  · by_cases h : a' = a ∧ d' = d
    · obtain ⟨rfl, rfl⟩ := h
      unfold RelObj
      simp only [Heap.new, Heap.get_set_same]
      exact ⟨w.heap.size, 0, 0, SMap.upd_same .., by show (w.heap.push _)[_]? = _; simp, fun hF => by have := hs.lt _ hF; omega⟩
    · refine RelObj.ext' hx (hs.obj a' d') (by rw [Heap.new, Heap.get_set_ne H _ h]) (SMap.upd_ne σ _ h) fun b base m ha hσ => ?_
      have := hs.block_lt ⟨a', d', base, m, ha, hσ⟩
      exact ⟨hold b this.1, this.2⟩
  · intro a1 d1 a2 d2 b base n1 base' n2 h1 h2 hσ1 hσ2
    by_cases e1 : a1 = a ∧ d1 = d <;> by_cases e2 : a2 = a ∧ d2 = d
    · exact ⟨by omega, by omega⟩
    · exfalso
      rw [SMap.upd_ne σ _ e2] at hσ2
      obtain ⟨rfl, rfl⟩ := e1
      rw [SMap.upd_same] at hσ1
      simp only [Option.some.injEq, Prod.mk.injEq] at hσ1
      have := hs.block_lt ⟨a2, d2, base', n2, hal e2 h2, hσ2⟩
      omega
    · exfalso
      rw [SMap.upd_ne σ _ e1] at hσ1
      obtain ⟨rfl, rfl⟩ := e2
      rw [SMap.upd_same] at hσ2
      simp only [Option.some.injEq, Prod.mk.injEq] at hσ2
      have := hs.block_lt ⟨a1, d1, base, n1, hal e1 h1, hσ1⟩
      omega
    · rw [SMap.upd_ne σ _ e1] at hσ1
      rw [SMap.upd_ne σ _ e2] at hσ2
      exact hs.inj a1 d1 a2 d2 b base n1 base' n2 (hal e1 h1) (hal e2 h2) hσ1 hσ2

/-- An iterator goes on. -/
theorem step_iter (hs : RelS w.heap F σ H) {a d b base n : Nat} {s : List UInt8} {pos : Nat} (pos' : Nat) {w' : World} (hb : (H.get a d).body = .iter s pos) (hσ : σ a d = some (b, base, n))
    (h1 : w'.os = w.os) (h2 : w'.tape = w.tape) (h3 : w'.output = w.output) (h4 : w'.heap = w.heap.setIfInBounds b (.stringIter ⟨⟨s⟩⟩ pos')) :
    Go_ w F σ H w' F σ (H.set a d ⟨(H.get a d).ver, (H.get a d).fz, .iter s pos'⟩) := by
  have hal0 : alive H a d := by unfold alive; rw [hb]; rfl
  have hwr : Wr σ H b := ⟨a, d, base, n, hal0, hσ⟩
  obtain ⟨hlt, hnF⟩ := hs.block_lt hwr
  have hobj : w.heap[b]? = some (.stringIter ⟨⟨s⟩⟩ pos) := by
    have ho := hs.obj a d
    unfold RelObj at ho
    rw [hb] at ho
    obtain ⟨b', base', n', g1, g2, g3⟩ := ho
    rw [hσ] at g1
    simp only [Option.some.injEq, Prod.mk.injEq] at g1
    obtain ⟨rfl, rfl, rfl⟩ := g1
    exact g2
  have hother : ∀ k, k ≠ b → w'.heap[k]? = w.heap[k]? := fun k hk => by rw [h4, Array.getElem?_setIfInBounds_ne (Ne.symm hk)]
  have hsame : w'.heap[b]? = some (.stringIter ⟨⟨s⟩⟩ pos') := by rw [h4]; simp [hlt]
  have hsize : w'.heap.size = w.heap.size := by rw [h4]; simp
  have hsz : ∀ k, sizeAt w'.heap k = sizeAt w.heap k := fun k => by
    unfold sizeAt
    by_cases hk : k = b
    · subst hk; rw [hsame, hobj]
    · rw [hother k hk]
  have hx : Ext w.heap F σ H w'.heap F σ (H.set a d ⟨(H.get a d).ver, (H.get a d).fz, .iter s pos'⟩) := by
    refine ⟨fun _ h => h, fun k hk => hother k fun e => hnF (e ▸ hk), fun a' d' => .inr ⟨?_, fun k base m h => ⟨h, by rw [hsz]; exact Nat.le_refl _⟩⟩⟩
    by_cases h : a' = a ∧ d' = d
    · obtain ⟨rfl, rfl⟩ := h; rw [Heap.get_set_same]
    · rw [Heap.get_set_ne H _ h]
  have hal : ∀ {a' d'}, alive (H.set a d ⟨(H.get a d).ver, (H.get a d).fz, .iter s pos'⟩) a' d' → alive H a' d' := fun {a' d'} he => by
    by_cases h : a' = a ∧ d' = d
    · obtain ⟨rfl, rfl⟩ := h; exact hal0
    · unfold alive at *; rw [Heap.get_set_ne H _ h] at he; exact he
  refine ⟨hx, ⟨h1, h2, h3, by rw [hsize]; exact Nat.le_refl _, fun k hk hnw => hother k fun e => hnw (e ▸ hwr), fun _ h => .inl h, fun k ⟨a', d', base, m, ha, hσ'⟩ => .inl ⟨a', d', base, m, hal ha, hσ'⟩⟩, ⟨fun a' d' => ?_, ?_, fun k hk => by rw [hsize]; exact hs.lt k hk⟩⟩
  · by_cases h : a' = a ∧ d' = d
    · obtain ⟨rfl, rfl⟩ := h
      unfold RelObj
      simp only [Heap.get_set_same]
      exact ⟨b, base, n, hσ, hsame, hnF⟩
    · refine RelObj.ext' hx (hs.obj a' d') (Heap.get_set_ne H _ h) rfl fun k base' m ha hσ' => ⟨hother k fun e => ?_, (hs.block_lt ⟨a', d', base', m, ha, hσ'⟩).2⟩
      subst e
      exact h (hs.inj a' d' a d _ base' m base n ha hal0 hσ' hσ)
  · intro a1 d1 a2 d2 b base n1 base' n2 h1 h2
    exact hs.inj a1 d1 a2 d2 b base n1 base' n2 (hal h1) (hal h2)

/-- A name is given up. -/
theorem kill_row (hs : RelS w.heap F σ H) (a d : Nat) : Go_ w F σ H w F σ (H.kill a d) := by
  have hal : ∀ {a' d'}, alive (H.kill a d) a' d' → ¬ (a' = a ∧ d' = d) ∧ alive H a' d' := fun {a' d'} he => by
    by_cases h : a' = a ∧ d' = d
    · obtain ⟨rfl, rfl⟩ := h
      simp [alive, Heap.kill, Heap.get_set_same, Body.live] at he
    · exact ⟨h, by unfold alive at *; rw [Heap.kill, Heap.get_set_ne H _ h] at he; exact he⟩
  have hx : Ext w.heap F σ H w.heap F σ (H.kill a d) := ⟨fun _ h => h, fun _ _ => rfl, fun a' d' => by
    by_cases h : a' = a ∧ d' = d
    · obtain ⟨rfl, rfl⟩ := h
      left
      simp [Heap.kill, Heap.get_set_same]
    · right
      rw [Heap.kill, Heap.get_set_ne H _ h]
      exact ⟨rfl, fun _ _ _ h => ⟨h, Nat.le_refl _⟩⟩⟩
  refine ⟨hx, ⟨rfl, rfl, rfl, Nat.le_refl _, fun _ _ _ => rfl, fun _ h => .inl h, fun b ⟨a', d', base, n, ha, hσ⟩ => .inl ⟨a', d', base, n, (hal ha).2, hσ⟩⟩, ⟨fun a' d' => ?_, ?_, hs.lt⟩⟩
  · by_cases h : a' = a ∧ d' = d
    · obtain ⟨rfl, rfl⟩ := h
      unfold RelObj
      simp [Heap.kill, Heap.get_set_same]
    · exact RelObj.ext' hx (hs.obj a' d') (by rw [Heap.kill, Heap.get_set_ne H _ h]) rfl fun b base m ha hσ => ⟨rfl, (hs.block_lt ⟨a', d', base, m, ha, hσ⟩).2⟩
  · intro a1 d1 a2 d2 b base n1 base' n2 h1 h2
    exact hs.inj a1 d1 a2 d2 b base n1 base' n2 (hal h1).2 (hal h2).2

/-- Cells are written behind an object's block: what a world is that differs in one block alone. -/
structure OneBlock (w w' : World) (b : Nat) (c c' : Array Value) (t : TypeId) (fr : Nat × Nat) : Prop where
  os : w'.os = w.os
  tape : w'.tape = w.tape
  output : w'.output = w.output
  size : w'.heap.size = w.heap.size
  other : ∀ k, k ≠ b → w'.heap[k]? = w.heap[k]?
  before : w.heap[b]? = some (.cells c t fr)
  after : w'.heap[b]? = some (.cells c' t fr)
  sz : c'.size = c.size

theorem OneBlock.sizeAt {w w' : World} {b : Nat} {c c' : Array Value} {t : TypeId} {fr : Nat × Nat} (h : OneBlock w w' b c c' t fr) (k : Nat) : sizeAt w'.heap k = sizeAt w.heap k := by
  unfold V.sizeAt
  by_cases hk : k = b
  · subst hk; rw [h.after, h.before]; exact h.sz
  · rw [h.other k hk]

theorem setCells_oneBlock (b : Nat) (t : TypeId) (fr : Nat × Nat) : ∀ (vs : List Value) (o : Nat) (w : World) (c : Array Value), w.heap[b]? = some (.cells c t fr) →
    ∃ c', OneBlock w (w.setCells b o vs) b c c' t fr ∧ (∀ j, (j < o ∨ o + vs.length ≤ j) → c'[j]? = c[j]?) ∧ (∀ j, j < vs.length → o + j < c.size → c'[o + j]? = vs[j]?)
  | [], o, w, c, h => ⟨c, ⟨rfl, rfl, rfl, rfl, fun _ _ => rfl, h, h, rfl⟩, fun _ _ => rfl, fun j hj => by simp at hj⟩
  | v :: vs, o, w, c, h => by
    have h1 : (w.setCell ⟨b, o, none⟩ v).heap[b]? = some (.cells (c.setIfInBounds o v) t fr) := by
      simp [World.setCell, Array.getElem?_modify, h]
    obtain ⟨c', hb, h2, h3⟩ := setCells_oneBlock b t fr vs (o + 1) (w.setCell ⟨b, o, none⟩ v) _ h1
    refine ⟨c', ⟨hb.os, hb.tape, hb.output, by rw [World.setCells, hb.size]; simp [World.setCell], fun k hk => ?_, h, hb.after, by rw [hb.sz]; simp⟩, fun j hj => ?_, fun j hj hc => ?_⟩
    · rw [World.setCells, hb.other k hk]
      simp only [World.setCell, Array.getElem?_modify]
      rw [if_neg (by omega)]
    · rw [h2 j (by simp only [List.length_cons] at hj; omega), Array.getElem?_setIfInBounds_ne (by simp only [List.length_cons] at hj; omega)]
    · cases j with
      | zero =>
        rw [Nat.add_zero, h2 o (by omega)]
        simp [Array.getElem?_setIfInBounds, hc] <;> omega
      | succ j =>
        have := h3 j (by simp at hj; omega) (by simp; omega)
        rw [show o + (j + 1) = o + 1 + j by omega, this]
        simp

/-- An object's elements are written, its name and version kept. -/
theorem write_row (hs : RelS w.heap F σ H) {a d b base n : Nat} {es es' : List PV} {c c' : Array Value} {t : TypeId} {lo hi : Nat} {w' : World} (hb : (H.get a d).body = .arr es) (hσ : σ a d = some (b, base, n))
    (hw : OneBlock w w' b c c' t (lo, hi)) (hn : ∀ e ∈ es', e.cells.length = n ∧ e.cells.all PV.one = true) (hl : base + es'.length * n ≤ c'.size)
    (hc : ∀ (i : Nat) e, es'[i]? = some e → ∀ (j : Nat) p, e.cells[j]? = some p → ∃ u, c'[base + i * n + j]? = some u ∧ Rep w.heap F σ H u p)
    (hf : ∀ o, base + (H.get a d).fz * n ≤ o → ¬ (lo ≤ o ∧ o < hi)) :
    Go_ w F σ H w' F σ (H.set a d ⟨(H.get a d).ver, (H.get a d).fz, .arr es'⟩) := by
  have hwr : Wr σ H b := ⟨a, d, base, n, alive_of hb, hσ⟩
  obtain ⟨hlt, hnF⟩ := hs.block_lt hwr
  have hx : Ext w.heap F σ H w'.heap F σ (H.set a d ⟨(H.get a d).ver, (H.get a d).fz, .arr es'⟩) := by
    refine ⟨fun _ h => h, fun k hk => hw.other k fun e => hnF (e ▸ hk), fun a' d' => .inr ⟨?_, fun k base m h => ⟨h, by rw [hw.sizeAt]; exact Nat.le_refl _⟩⟩⟩
    by_cases h : a' = a ∧ d' = d
    · obtain ⟨rfl, rfl⟩ := h; rw [Heap.get_set_same]
    · rw [Heap.get_set_ne H _ h]
  have hal : ∀ {a' d'}, alive (H.set a d ⟨(H.get a d).ver, (H.get a d).fz, .arr es'⟩) a' d' → alive H a' d' := fun {a' d'} he => by
    by_cases h : a' = a ∧ d' = d
    · obtain ⟨rfl, rfl⟩ := h; exact alive_of hb
    · unfold alive at *; rw [Heap.get_set_ne H _ h] at he; exact he
  refine ⟨hx, ⟨hw.os, hw.tape, hw.output, by rw [hw.size]; exact Nat.le_refl _, fun k hk hnw => hw.other k fun e => hnw (e ▸ hwr), fun _ h => .inl h, fun k ⟨a', d', base, m, ha, hσ'⟩ => .inl ⟨a', d', base, m, hal ha, hσ'⟩⟩, ⟨fun a' d' => ?_, ?_, fun k hk => by rw [hw.size]; exact hs.lt k hk⟩⟩
  · by_cases h : a' = a ∧ d' = d
    · obtain ⟨rfl, rfl⟩ := h
      unfold RelObj
      simp only [Heap.get_set_same]
      exact ⟨b, base, n, c', t, lo, hi, hσ, hw.after, hnF, hl, hn, fun i e he j p hp => by
        obtain ⟨u, hu, hr⟩ := hc i e he j p hp
        exact ⟨u, hu, hr.ext hx⟩, hf⟩
    · refine RelObj.ext' hx (hs.obj a' d') (Heap.get_set_ne H _ h) rfl fun k base' m ha hσ' => ⟨hw.other k fun e => ?_, (hs.block_lt ⟨a', d', base', m, ha, hσ'⟩).2⟩
      subst e
      exact h (hs.inj a' d' a d _ base' m base n ha (alive_of hb) hσ' hσ)
  · intro a1 d1 a2 d2 b base n1 base' n2 h1 h2
    exact hs.inj a1 d1 a2 d2 b base n1 base' n2 (hal h1) (hal h2)

/-- An object's block goes over to a new name, written behind. -/
theorem move_row (hs : RelS w.heap F σ H) {a0 d0 b base0 n0 : Nat} {es0 : List PV} (a d : Nat) {es' : List PV} {c c' : Array Value} {t : TypeId} {lo hi : Nat} {w' : World} {base n fz : Nat} (hb : (H.get a0 d0).body = .arr es0) (hσ : σ a0 d0 = some (b, base0, n0))
    (hw : OneBlock w w' b c c' t (lo, hi)) (hn : ∀ e ∈ es', e.cells.length = n ∧ e.cells.all PV.one = true) (hl : base + es'.length * n ≤ c'.size)
    (hc : ∀ (i : Nat) e, es'[i]? = some e → ∀ (j : Nat) p, e.cells[j]? = some p → ∃ u, c'[base + i * n + j]? = some u ∧ Rep w.heap F σ H u p)
    (hf : ∀ o, base + fz * n ≤ o → ¬ (lo ≤ o ∧ o < hi)) :
    Go_ w F σ H w' F (σ.upd a d (b, base, n)) ((H.kill a0 d0).set a d ⟨((H.kill a0 d0).get a d).ver + 1, fz, .arr es'⟩) := by
  have hwr : Wr σ H b := ⟨a0, d0, base0, n0, alive_of hb, hσ⟩
  obtain ⟨hlt, hnF⟩ := hs.block_lt hwr
  generalize hH' : (H.kill a0 d0).set a d ⟨((H.kill a0 d0).get a d).ver + 1, fz, .arr es'⟩ = H'
  have hsame : H'.get a d = ⟨((H.kill a0 d0).get a d).ver + 1, fz, .arr es'⟩ := by rw [← hH', Heap.get_set_same]
  have hother : ∀ {a' d'}, ¬ (a' = a ∧ d' = d) → ¬ (a' = a0 ∧ d' = d0) → H'.get a' d' = H.get a' d' := fun h1 h2 => by rw [← hH', Heap.get_set_ne _ _ h1, Heap.kill, Heap.get_set_ne _ _ h2]
  have hdead : ¬ (a0 = a ∧ d0 = d) → H'.get a0 d0 = ⟨(H.get a0 d0).ver + 1, 0, .dead⟩ := fun h => by rw [← hH', Heap.get_set_ne _ _ h, Heap.kill, Heap.get_set_same]
  have hver : (H.get a d).ver < ((H.kill a0 d0).get a d).ver + 1 := by
    by_cases h : a = a0 ∧ d = d0
    · obtain ⟨rfl, rfl⟩ := h; rw [Heap.kill, Heap.get_set_same]; simp; omega
    · rw [Heap.kill, Heap.get_set_ne _ _ h]; omega
  have hx : Ext w.heap F σ H w'.heap F (σ.upd a d (b, base, n)) H' := by
    refine ⟨fun _ h => h, fun k hk => hw.other k fun e => hnF (e ▸ hk), fun a' d' => ?_⟩
    by_cases h : a' = a ∧ d' = d
    · obtain ⟨rfl, rfl⟩ := h
      left; rw [hsame]; exact hver
    · by_cases h0 : a' = a0 ∧ d' = d0
      · obtain ⟨rfl, rfl⟩ := h0
        left; rw [hdead h]; simp
      · right
        rw [hother h h0, SMap.upd_ne σ _ h]
        exact ⟨rfl, fun k base m h => ⟨h, by rw [hw.sizeAt]; exact Nat.le_refl _⟩⟩
  have hal : ∀ {a' d'}, ¬ (a' = a ∧ d' = d) → alive H' a' d' → ¬ (a' = a0 ∧ d' = d0) ∧ alive H a' d' := fun {a' d'} h he => by
    unfold alive at *
    by_cases h0 : a' = a0 ∧ d' = d0
    · obtain ⟨rfl, rfl⟩ := h0
      rw [hdead h] at he; cases he
    · exact ⟨h0, by rw [hother h h0] at he; exact he⟩
  refine ⟨hx, ⟨hw.os, hw.tape, hw.output, by rw [hw.size]; exact Nat.le_refl _, fun k hk hnw => hw.other k fun e => hnw (e ▸ hwr), fun _ h => .inl h, fun k ⟨a', d', base', m, ha, hσ'⟩ => ?_⟩, ⟨fun a' d' => ?_, ?_, fun k hk => by rw [hw.size]; exact hs.lt k hk⟩⟩
  · left
    by_cases h : a' = a ∧ d' = d
    · obtain ⟨rfl, rfl⟩ := h
      rw [SMap.upd_same] at hσ'
      simp only [Option.some.injEq, Prod.mk.injEq] at hσ'
      rw [← hσ'.1]; exact hwr
    · rw [SMap.upd_ne σ _ h] at hσ'
      exact ⟨a', d', base', m, (hal h ha).2, hσ'⟩
  · by_cases h : a' = a ∧ d' = d
    · obtain ⟨rfl, rfl⟩ := h
      unfold RelObj
      rw [hsame]
      exact ⟨b, base, n, c', t, lo, hi, SMap.upd_same .., hw.after, hnF, hl, hn, fun i e he j p hp => by
        obtain ⟨u, hu, hr⟩ := hc i e he j p hp
        exact ⟨u, hu, hr.ext hx⟩, hf⟩
    · by_cases h0 : a' = a0 ∧ d' = d0
      · obtain ⟨rfl, rfl⟩ := h0
        unfold RelObj
        rw [hdead h]; trivial
      · refine RelObj.ext' hx (hs.obj a' d') (hother h h0) (SMap.upd_ne σ _ h) fun k base' m ha hσ' => ⟨hw.other k fun e => ?_, (hs.block_lt ⟨a', d', base', m, ha, hσ'⟩).2⟩
        subst e
        exact h0 (hs.inj a' d' a0 d0 _ base' m base0 n0 ha (alive_of hb) hσ' hσ)
  · intro a1 d1 a2 d2 k base1 n1 base2 n2 h1 h2 hσ1 hσ2
    by_cases e1 : a1 = a ∧ d1 = d <;> by_cases e2 : a2 = a ∧ d2 = d
    · exact ⟨by omega, by omega⟩
    · exfalso
      rw [SMap.upd_ne σ _ e2] at hσ2
      obtain ⟨rfl, rfl⟩ := e1
      rw [SMap.upd_same] at hσ1
      simp only [Option.some.injEq, Prod.mk.injEq] at hσ1
      obtain ⟨rfl, _⟩ := hσ1
      obtain ⟨h3, h4⟩ := hal e2 h2
      exact h3 (hs.inj a2 d2 a0 d0 _ base2 n2 base0 n0 h4 (alive_of hb) hσ2 hσ)
    · exfalso
      rw [SMap.upd_ne σ _ e1] at hσ1
      obtain ⟨rfl, rfl⟩ := e2
      rw [SMap.upd_same] at hσ2
      simp only [Option.some.injEq, Prod.mk.injEq] at hσ2
      obtain ⟨rfl, _⟩ := hσ2
      obtain ⟨h3, h4⟩ := hal e1 h1
      exact h3 (hs.inj a1 d1 a0 d0 _ base1 n1 base0 n0 h4 (alive_of hb) hσ1 hσ)
    · rw [SMap.upd_ne σ _ e1] at hσ1
      rw [SMap.upd_ne σ _ e2] at hσ2
      exact hs.inj a1 d1 a2 d2 k base1 n1 base2 n2 (hal e1 h1).2 (hal e2 h2).2 hσ1 hσ2
end
end Go.V
