/- Resolving a V value gives a plain value that lies in memory. No condition. -/
import Derived.Test.YtdlkndnlpgmdaaaGreatVSound2
/-! V is sound: resolving, bodies, calls, and the whole. -/
namespace Go.V
open Go Go.RowKit
set_option linter.unusedSimpArgs false
set_option linter.unusedVariables false

/-! ### Resolving -/
theorem deeps_spec {look : PV → Option PV} : ∀ {ps qs : List PV}, deeps look ps = some qs → qs.length = ps.length ∧ ∀ (i : Nat) p q, ps[i]? = some p → qs[i]? = some q → deep look p = some q
  | [], qs, h => by simp [deeps] at h; subst h; exact ⟨rfl, fun i p q hp => by simp at hp⟩
  | p :: ps, qs, h => by
    simp only [deeps, Option.bind_eq_some_iff, Option.map_eq_some_iff] at h
    obtain ⟨q, hq, qs', hqs, rfl⟩ := h
    obtain ⟨h1, h2⟩ := deeps_spec hqs
    refine ⟨by simp [h1], fun i x y hx hy => ?_⟩
    cases i with
    | zero => simp at hx hy; subst hx hy; exact hq
    | succ i => simp at hx hy; exact h2 i x y hx hy
theorem deep_one {look : PV → Option PV} (hl : ∀ p q, look p = some q → q.one = true) {p q : PV} (h : deep look p = some q) (ho : p.one = true) : q.one = true := by
  cases p <;> first
    | (cases ho; done)
    | (simp only [deep, Option.map_eq_some_iff, Option.bind_eq_some_iff, Option.some.injEq] at h
       first
         | (subst h; rfl)
         | (obtain ⟨_, _, rfl⟩ := h; rfl)
         | (obtain ⟨_, _, _, _, rfl⟩ := h; rfl)
         | exact hl _ _ h
         | cases h)
theorem deeps_one {look : PV → Option PV} (hl : ∀ p q, look p = some q → q.one = true) {ps qs : List PV} (h : deeps look ps = some qs) (ho : ps.all PV.one = true) : qs.all PV.one = true := by
  obtain ⟨h1, h2⟩ := deeps_spec h
  rw [List.all_eq_true] at *
  intro q hq
  obtain ⟨i, hi⟩ := List.mem_iff_getElem?.1 hq
  have hlt : i < ps.length := by rw [← h1]; exact (List.getElem?_eq_some_iff.1 hi).1
  exact deep_one hl (h2 i _ q (List.getElem?_eq_getElem hlt) hi) (ho _ (by simp))
theorem noRefs_of {l : List PV} (h : ∀ (i : Nat) p, l[i]? = some p → p.noRef = true) : noRefs l = true := by
  induction l with
  | nil => rfl
  | cons p r ih => simp only [noRefs, Bool.and_eq_true]; exact ⟨h 0 p rfl, ih fun i q hq => h (i + 1) q (by simpa using hq)⟩

section
variable {hp : Array Go.Obj} {G : Nat → Prop} {σ : SMap} {H : Heap}

theorem deep_list {look : PV → Option PV} {B : Bool} {vs : List Value} {ps qs : List PV} (hl : vs.length = ps.length)
    (ih : ∀ (i : Nat) v p, vs[i]? = some v → ps[i]? = some p → (B = false → p.noRef = true) → ∀ q, deep look p = some q → q.noRef = true ∧ Rep hp G nosig Heap.empty v q)
    (hB : B = false → noRefs ps = true) (h : deeps look ps = some qs) : noRefs qs = true ∧ RepL hp G nosig Heap.empty vs qs := by
  obtain ⟨h1, h2⟩ := deeps_spec h
  have key : ∀ (i : Nat) v q, vs[i]? = some v → qs[i]? = some q → q.noRef = true ∧ Rep hp G nosig Heap.empty v q := fun i v q hv hq => by
    have hlt : i < ps.length := by rw [← h1]; exact (List.getElem?_eq_some_iff.1 hq).1
    exact ih i v _ hv (List.getElem?_eq_getElem hlt) (fun hb => noRefs_get (hB hb) i _ (List.getElem?_eq_getElem hlt)) q (h2 i _ q (List.getElem?_eq_getElem hlt) hq)
  refine ⟨noRefs_of fun i q hq => ?_, by rw [hl, h1], fun i v q hv hq => (key i v q hv hq).2⟩
  have hlt : i < vs.length := by rw [hl, ← h1]; exact (List.getElem?_eq_some_iff.1 hq).1
  exact (key i _ q (List.getElem?_eq_getElem hlt) hq).1

/-- The cells of an element that was resolved. -/
theorem deep_cells {look : PV → Option PV} (hl : ∀ p q, look p = some q → q.one = true) {e e' : PV} (h : deep look e = some e') (ho : e.cells.all PV.one = true) :
    e'.cells.length = e.cells.length ∧ e'.cells.all PV.one = true ∧ ∀ (j : Nat) p q, e.cells[j]? = some p → e'.cells[j]? = some q → deep look p = some q := by
  cases e
  case agg cs =>
    simp only [deep, Option.map_eq_some_iff] at h
    obtain ⟨qs, hqs, rfl⟩ := h
    obtain ⟨h1, h2⟩ := deeps_spec hqs
    exact ⟨h1, deeps_one hl hqs ho, h2⟩
  case tuple => simp [PV.cells, PV.one] at ho
  all_goals
    have h1 := deep_one hl h rfl
    have h2 : e'.cells = [e'] := PV.cells_one h1
    rw [h2]
    refine ⟨rfl, by simp [h1], fun j p q hj hq => ?_⟩
    cases j with
    | zero => simp [PV.cells] at hj hq; subst hj hq; exact h
    | succ j => simp at hq

theorem deep_rep {look : PV → Option PV} {B : Bool} (h1 : ∀ p q, look p = some q → q.one = true)
    (hlk : B = true → ∀ v p q, Rep hp G σ H v p → look p = some q → q.noRef = true ∧ Rep hp G nosig Heap.empty v q) {v : Value} {p : PV} (h : Rep hp G σ H v p) :
    (B = false → p.noRef = true) → ∀ q, deep look p = some q → q.noRef = true ∧ Rep hp G nosig Heap.empty v q := by
  induction h with
  | bool b => intro _ q hq; simp [deep] at hq; subst hq; exact ⟨rfl, .bool b⟩
  | int k n => intro _ q hq; simp [deep] at hq; subst hq; exact ⟨rfl, .int k n⟩
  | str s => intro _ q hq; simp [deep] at hq; subst hq; exact ⟨rfl, .str s⟩
  | agg vs ps hl ho hr ih =>
    intro hB q hq
    simp only [deep, Option.map_eq_some_iff] at hq
    obtain ⟨qs, hqs, rfl⟩ := hq
    obtain ⟨h2, h3⟩ := deep_list hl ih (fun hb => by simpa [PV.noRef] using hB hb) hqs
    exact ⟨by simpa [PV.noRef] using h2, .agg vs qs h3.1 (deeps_one h1 hqs ho) h3.2⟩
  | tuple vs ps hl hr ih =>
    intro hB q hq
    simp only [deep, Option.map_eq_some_iff] at hq
    obtain ⟨qs, hqs, rfl⟩ := hq
    obtain ⟨h2, h3⟩ := deep_list hl ih (fun hb => by simpa [PV.noRef] using hB hb) hqs
    exact ⟨by simpa [PV.noRef] using h2, .tuple vs qs h3.1 h3.2⟩
  | empty a cap f hf => intro _ q hq; simp [deep, deeps] at hq; subst hq; exact ⟨by simp [PV.noRef, noRefs], .empty a cap false fun h => by cases h⟩
  | slice b off n cap f es g hF hne hcap hf hn ho hc hr ih =>
    intro hB q hq
    simp only [deep, Option.map_eq_some_iff] at hq
    obtain ⟨es', hes, rfl⟩ := hq
    obtain ⟨h2, h3⟩ := deeps_spec hes
    have hcell : ∀ (i : Nat) e', es'[i]? = some e' → e'.cells.length = n ∧ e'.cells.all PV.one = true ∧ ∀ (j : Nat) q, e'.cells[j]? = some q → q.noRef = true ∧ Rep hp G nosig Heap.empty (g i j) q := fun i e' he' => by
      have hlt : i < es.length := by rw [← h2]; exact (List.getElem?_eq_some_iff.1 he').1
      have he := List.getElem?_eq_getElem hlt
      obtain ⟨h5, h6, h7⟩ := deep_cells h1 (h3 i _ e' he he') (ho _ (by simp))
      refine ⟨by rw [h5]; exact hn _ (by simp), h6, fun j q hq => ?_⟩
      have hj : j < es[i].cells.length := by rw [← h5]; exact (List.getElem?_eq_some_iff.1 hq).1
      have hp' := List.getElem?_eq_getElem hj
      exact ih i _ he j _ hp' (fun hb => noRefs_get (noRef_cells (noRefs_get (by simpa [PV.noRef] using hB hb) i _ he)) j _ hp') q (h7 j _ q hp' hq)
    refine ⟨?_, ?_⟩
    · simp only [PV.noRef]
      refine noRefs_of fun i e' he' => ?_
      obtain ⟨_, h6, h7⟩ := hcell i e' he'
      have : noRefs e'.cells = true := noRefs_of fun j q hq => (h7 j q hq).1
      cases e' <;> simp_all [PV.cells, noRefs, PV.noRef]
    · rw [← h2]
      refine .slice b off n cap false es' g hF (fun h => hne (by simpa [h] using h2.symm)) (by rw [h2]; exact hcap) (fun h => by cases h) ?_ ?_ ?_ fun i e' he' j q hq => ((hcell i e' he').2.2 j q hq).2
      · intro e' he'
        obtain ⟨i, hi⟩ := List.mem_iff_getElem?.1 he'
        exact (hcell i e' hi).1
      · intro e' he'
        obtain ⟨i, hi⟩ := List.mem_iff_getElem?.1 he'
        exact (hcell i e' hi).2.1
      · intro i e' he' j hj
        have hlt : i < es.length := by rw [← h2]; exact (List.getElem?_eq_some_iff.1 he').1
        exact hc i _ (List.getElem?_eq_getElem hlt) j hj
  | srefOld x cap a d ver n off len hcap h =>
    intro hB q hq
    cases B
    · simp [PV.noRef] at hB
    · exact hlk rfl _ _ q (.srefOld x cap a d ver n off len hcap h) (by simpa only [deep] using hq)
  | sref a d off len b base n cap x hs hcap hx hz =>
    intro hB q hq
    cases B
    · simp [PV.noRef] at hB
    · exact hlk rfl _ _ q (.sref a d off len b base n cap x hs hcap hx hz) (by simpa only [deep] using hq)
  | cptr b o off cs g hF ho hc hr ih =>
    intro hB q hq
    simp only [deep, Option.map_eq_some_iff] at hq
    obtain ⟨qs, hqs, rfl⟩ := hq
    obtain ⟨h2, h3⟩ := deeps_spec hqs
    obtain ⟨h4, h5⟩ := deep_list (vs := (List.range cs.length).map g) (by simp) (B := B) (fun i v p hv hp' => by
      have hlt := (List.getElem?_eq_some_iff.1 hp').1
      simp [hlt] at hv
      subst hv
      exact ih i p hp') (fun hb => by simpa [PV.noRef] using hB hb) hqs
    refine ⟨by simpa [PV.noRef] using h4, .cptr b o off qs g hF (deeps_one h1 hqs ho) (fun j hj => hc j (by omega)) fun j q hq => ?_⟩
    have hlt : j < cs.length := by rw [← h2]; exact (List.getElem?_eq_some_iff.1 hq).1
    exact h5.2 j (g j) q (by simp [hlt]) hq
  | ptrOld x a d ver idx off h =>
    intro hB q hq
    cases B
    · simp [PV.noRef] at hB
    · exact hlk rfl _ _ q (.ptrOld x a d ver idx off h) (by simpa only [deep] using hq)
  | ptr a d idx off b base n hs =>
    intro hB q hq
    cases B
    · simp [PV.noRef] at hB
    · exact hlk rfl _ _ q (.ptr a d idx off b base n hs) (by simpa only [deep] using hq)
  | mrefOld x a d ver h =>
    intro hB q hq
    simp [deep] at hq
  | mref a d b base n hs =>
    intro hB q hq
    simp [deep] at hq
  | nilptr => intro _ q hq; simp [deep] at hq; subst hq; exact ⟨rfl, .nilptr⟩
  | func fn vs us ps qs hl hm hr hq' ih ih2 =>
    intro hB q hq
    simp only [deep, Option.map_eq_some_iff, Option.bind_eq_some_iff] at hq
    obtain ⟨as, has, bs, hbs, rfl⟩ := hq
    obtain ⟨h2, h3⟩ := deep_list hl ih (fun hb => by have := hB hb; simp only [PV.noRef, Bool.and_eq_true] at this; exact this.1) has
    obtain ⟨h4, h5⟩ := deep_list hm ih2 (fun hb => by have := hB hb; simp only [PV.noRef, Bool.and_eq_true] at this; exact this.2) hbs
    exact ⟨by simp [PV.noRef, h2, h4], .func fn vs us as bs h3.1 h5.1 h3.2 h5.2⟩
  | nilfunc => intro _ q hq; simp [deep] at hq; subst hq; exact ⟨rfl, .nilfunc⟩
  | nilmap => intro _ q hq; simp [deep] at hq; subst hq; exact ⟨rfl, .nilmap⟩
  | iface t v p h ih =>
    intro hB q hq
    simp only [deep, Option.map_eq_some_iff] at hq
    obtain ⟨q', hq', rfl⟩ := hq
    obtain ⟨h2, h3⟩ := ih (fun hb => by simpa [PV.noRef] using hB hb) q' hq'
    exact ⟨by simpa [PV.noRef] using h2, .iface t v q' h3⟩
  | niliface => intro _ q hq; simp [deep] at hq; subst hq; exact ⟨rfl, .niliface⟩

theorem look_one {H : Heap} : ∀ (k : Nat) p q, lookWith H (resolve k H) p = some q → q.one = true := by
  intro k p q h
  have hslice : ∀ es q, resolve k H (.slice false es) = some q → q.one = true := fun es q h => by
    cases k <;> (simp only [resolve, deep, Option.map_eq_some_iff] at h; obtain ⟨_, _, rfl⟩ := h; rfl)
  unfold lookWith at h
  split at h
  · simp only [Option.bind_eq_some_iff] at h
    obtain ⟨es, _, h⟩ := h
    exact hslice es q h
  · simp only [Option.bind_eq_some_iff] at h
    obtain ⟨es, _, e, _, t, _, h⟩ := h
    split at h
    · simp only [Option.some.injEq] at h; subst h; rfl
    · cases h
  · cases h

/-- **Resolving**: the value, with what it leads to, as a plain value over whatever may be read. -/
theorem resolve_rep {w : World} {F : Nat → Prop} (B : Bool) (hs : RelS w.heap F σ H) (hF : ∀ b, F b → G b) (hW : B = true → ∀ b, Wr σ H b → G b) : ∀ (k : Nat) (v : Value) (p q : PV), Rep w.heap G σ H v p → (B = false → p.noRef = true) → resolve k H p = some q → q.noRef = true ∧ Rep w.heap G nosig Heap.empty v q
  | 0, v, p, q, h, hB, hq => deep_rep (fun _ _ h => by cases h) (fun _ _ _ _ _ h => by cases h) h hB q hq
  | k + 1, v, p, q, h, hB, hq => by
    refine deep_rep (look_one k) (fun hBt v p q hr hl => ?_) h hB q hq
    have hx : Ext w.heap F σ H w.heap G σ H := ⟨hF, fun _ _ => rfl, fun _ _ => .inr ⟨rfl, fun _ _ _ h => ⟨h, Nat.le_refl _⟩⟩⟩
    unfold lookWith at hl
    split at hl
    · rename_i a d ver n0 off len
      simp only [Option.bind_eq_some_iff] at hl
      obtain ⟨es, hes, hl⟩ := hl
      refine resolve_rep B hs hF hW k v (.slice false es) q ?_ (fun h => by rw [hBt] at h; cases h) hl
      unfold Heap.rows at hes
      simp only [Option.bind_eq_some_iff] at hes
      obtain ⟨all, hall, hes⟩ := hes
      split at hes
      · rename_i hle
        simp only [Option.some.injEq] at hes; subst hes
        obtain ⟨rfl, hal, hb, b, base, n, c, ty, lo, hi, h1, h2, h3, h4, h5, h6, h7⟩ := hs.arr hall
        cases hr with
        | srefOld x cap a d ver n off len hcp hlt => omega
        | sref _ _ _ _ b' base' n' cap x hs' hcap hx' hz =>
          rw [h1] at hs'
          simp only [Option.some.injEq, Prod.mk.injEq] at hs'
          obtain ⟨rfl, rfl, rfl⟩ := hs'
          have hlen : ((all.drop off).take len).length = len := by simp; omega
          rcases Nat.eq_zero_or_pos len with h0 | h0
          · subst h0
            simp only [List.take_zero]
            exact .empty (some x) cap false fun h => by cases h
          · have hxx : x = ⟨b, base + off * n, none⟩ := hx'.resolve_left (by omega)
            subst hxx
            have hget : ∀ (i : Nat) e, ((all.drop off).take len)[i]? = some e → all[off + i]? = some e := fun i e he => by
              rw [List.getElem?_take] at he
              split at he
              · rw [List.getElem?_drop] at he; exact he
              · cases he
            have hrow : ∀ (i : Nat) e, ((all.drop off).take len)[i]? = some e → RowAt w.heap F σ H b (base + off * n + i * n) e.cells := fun i e he => by
              have := h6 (off + i) e (hget i e he)
              rw [show base + off * n + i * n = base + (off + i) * n by rw [Nat.add_mul]; omega]
              exact this
            have hmem : ∀ e ∈ (all.drop off).take len, e.cells.length = n ∧ e.cells.all PV.one = true := fun e he => h5 e (List.drop_subset _ _ (List.take_subset _ _ he))
            conv => arg 5; rw [← hlen]
            refine .slice b (base + off * n) n cap false _ (fun i j => (cellOf w.heap b (base + off * n + i * n + j)).getD undef) (hW hBt b ⟨a, d, base, n, hal, h1⟩) (fun h => by rw [h] at hlen; simp at hlen; omega) (by rw [hlen]; exact hcap) (fun h => by cases h)
              (fun e he => (hmem e he).1) (fun e he => (hmem e he).2) ?_ ?_
            · intro i e he j hj
              have hlt : j < e.cells.length := by rw [(hmem e (List.mem_of_getElem? he)).1]; exact hj
              obtain ⟨u, hu, _⟩ := hrow i e he j _ (List.getElem?_eq_getElem hlt)
              rw [hu]; rfl
            · intro i e he j p hp'
              obtain ⟨u, hu, hr⟩ := hrow i e he j p hp'
              rw [hu]
              exact hr.ext hx
      · cases hes
    · rename_i a d ver idx off
      simp only [Option.bind_eq_some_iff] at hl
      obtain ⟨es, hes, e, he, t, ht, hl⟩ := hl
      obtain ⟨rfl, hal, hb, b, base, n, c, ty, lo, hi, h1, h2, h3, h4, h5, h6, h7⟩ := hs.arr hes
      cases hr with
      | ptrOld x a d ver idx off hlt => omega
      | ptr a d idx2 off b' base' n' hs' =>
        rw [h1] at hs'
        simp only [Option.some.injEq, Prod.mk.injEq] at hs'
        obtain ⟨rfl, rfl, rfl⟩ := hs'
        have hrow := h6 _ e he
        obtain ⟨f, h8, h9⟩ := hrow.vals 0 e.cells.length (by simp)
        simp only [List.drop_zero, List.take_length, Nat.add_zero] at h8 h9
        have htup := resolve_rep B hs hF hW k (.tuple ⟨(List.range e.cells.length).map f⟩) (.tuple e.cells) t (.tuple _ _ h9.1 fun i v p hv hp' => (h9.2 i v p hv hp').ext hx) (fun h => by rw [hBt] at h; cases h) ht
        have hone : ∀ cs, t = .tuple cs → cs.all PV.one = true ∧ cs.length = e.cells.length := by
          rintro cs rfl
          have ho := (h5 e (List.mem_of_getElem? he)).2
          cases k with
          | zero =>
            simp only [resolve, deep, Option.map_eq_some_iff, PV.tuple.injEq] at ht
            obtain ⟨qs, hqs, rfl⟩ := ht
            exact ⟨deeps_one (fun _ _ h => by cases h) hqs ho, (deeps_spec hqs).1⟩
          | succ k =>
            simp only [resolve, deep, Option.map_eq_some_iff, PV.tuple.injEq] at ht
            obtain ⟨qs, hqs, rfl⟩ := ht
            exact ⟨deeps_one (look_one k) hqs ho, (deeps_spec hqs).1⟩
        split at hl
        · rename_i cs
          simp only [Option.some.injEq] at hl; subst hl
          obtain ⟨ho, hln⟩ := hone cs rfl
          obtain ⟨hn, hr2⟩ := htup
          refine ⟨by simpa [PV.noRef] using hn, .cptr b (base + idx * n) off cs f (hW hBt b ⟨a, d, base, n, hal, h1⟩) ho (fun j hj => h8 j (by omega)) fun j p hp' => ?_⟩
          cases hr2 with
          | tuple vs ps hl hr3 =>
            have hlt : j < e.cells.length := by rw [← hln]; exact (List.getElem?_eq_some_iff.1 hp').1
            exact hr3 j (f j) p (by simp [hlt]) hp'
        · cases hl
    · cases hl
end
end Go.V
