/- Building of structs and zero values of V is carried out by the machine. No condition. -/
import Derived.Test.YtdlkndnlpgmdaaaGreatVOps
import Derived.Laws.Tables
/-! The simulation: operations that build, read and write. -/
namespace Go.V
open Go Go.RowKit
set_option linter.unusedSimpArgs false
set_option linter.unusedVariables false

section
variable {P : Program} {w : World} {F : Nat → Prop} {σ : SMap} {H : Heap}

theorem run_newVar (t : TypeId) (v : Value) (w : World) : (newVar t v).run P w = .ok ⟨w.heap.size, 0, none⟩ (w.alloc (.cells v.cells t)) := rfl
theorem tyZero_spec {t : TypeId} {z : PV} (h : tyZero P t = some z) : ∃ i v, P.info? t = some i ∧ i.zero = some v ∧ ofConst v = some z := by
  unfold tyZero at h
  simp only [Option.bind_eq_some_iff] at h
  obtain ⟨v, ⟨i, h1, h2⟩, h3⟩ := h
  exact ⟨i, v, h1, h2, h3⟩
theorem run_zeroValue' {t : TypeId} {i : TypeInfo} {v : Value} (h : P.info? t = some i) (hz : i.zero = some v) (w : World) : (zeroValue t).run P w = .ok v w := by
  unfold zeroValue typeInfo; simp [h, hz]

/-- One new variable. -/
theorem new_var (hs : RelS w.heap F σ H) (a d : Nat) (t : TypeId) {v : Value} {p : PV} (hr : Rep w.heap F σ H v p) (hv : p.isVal = true) :
    Go_ w F σ H (w.alloc (.cells v.cells t)) F (σ.upd a d (w.heap.size, 0, p.cells.length)) (H.newArr a d [p]) ∧
    Rep (w.alloc (.cells v.cells t)).heap F (σ.upd a d (w.heap.size, 0, p.cells.length)) (H.newArr a d [p]) (.pointer (some ⟨w.heap.size, 0, none⟩)) (.ptr a d ((H.get a d).ver + 1) 0 0) := by
  obtain ⟨⟨hl, hc⟩, ho⟩ := hr.cells hv
  refine ⟨new_row hs a d [p] p.cells.length v.cells t (fun e he => by simp at he; subst he; exact ⟨rfl, ho⟩) (by simp at hl ⊢; omega) fun i e he j q hq => ?_, ?_⟩
  · cases i with
    | zero =>
      simp at he; subst he
      obtain ⟨hj, _⟩ := List.getElem?_eq_some_iff.1 hq
      have hj' : j < v.cells.toList.length := by omega
      refine ⟨v.cells.toList[j], by simp, hc j _ q (List.getElem?_eq_getElem hj') hq⟩
    | succ i => simp at he
  · have := Rep.ptr (hp := (w.alloc (.cells v.cells t)).heap) (F := F) (σ := σ.upd a d (w.heap.size, 0, p.cells.length)) (H := H.newArr a d [p]) a d 0 0 w.heap.size 0 p.cells.length (SMap.upd_same ..)
    simpa [Heap.newArr, Heap.get_set_same] using this

/-! ### Cells put into a row -/
theorem put_list {α : Type} (off : Nat) : ∀ (vs : List α) (k : Nat) (cs : Array α), off + k + vs.length ≤ cs.size →
    ((vs.zipIdx k).foldl (fun cs (x : α × Nat) => cs.setIfInBounds (off + x.2) x.1) cs).toList = cs.toList.take (off + k) ++ vs ++ cs.toList.drop (off + k + vs.length)
  | [], k, cs, h => by simp
  | v :: vs, k, cs, h => by
    simp only [List.length_cons] at h
    have ih := put_list off vs (k + 1) (cs.setIfInBounds (off + k) v) (by simp; omega)
    simp only [List.zipIdx_cons, List.foldl_cons]
    rw [ih]
    apply List.ext_getElem?
    intro i
    simp only [Array.toList_setIfInBounds, List.getElem?_append, List.length_take, List.length_set, Array.length_toList, List.length_append, List.getElem?_take, List.getElem?_drop, List.getElem?_set, List.length_cons]
    by_cases h1 : i < off + k
    · simp [show i < min (off + (k + 1)) cs.size by omega, show i < off + (k + 1) by omega, show i < min (off + k) cs.size by omega, h1, show off + k ≠ i by omega, show i < min (off + k) cs.size + (vs.length + 1) by omega, show i < min (off + (k + 1)) cs.size + vs.length by omega]
    · by_cases h2 : i = off + k
      · subst h2
        simp [show off + k < min (off + (k + 1)) cs.size by omega, show off + k < off + (k + 1) by omega, show ¬ off + k < min (off + k) cs.size by omega, show off + k < cs.size by omega, show off + k < min (off + k) cs.size + (vs.length + 1) by omega, show off + k < min (off + (k + 1)) cs.size + vs.length by omega, show off + k - min (off + k) cs.size = 0 by omega]
      · have e1 : ¬ i < min (off + (k + 1)) cs.size := by omega
        have e2 : ¬ i < min (off + k) cs.size := by omega
        simp only [e1, e2, if_false]
        by_cases h3 : i < off + k + (vs.length + 1)
        · simp [show i < min (off + (k + 1)) cs.size + vs.length by omega, show i < min (off + k) cs.size + (vs.length + 1) by omega, show i - min (off + k) cs.size = (i - min (off + (k + 1)) cs.size) + 1 by omega]
        · simp [show ¬ i < min (off + (k + 1)) cs.size + vs.length by omega, show ¬ i < min (off + k) cs.size + (vs.length + 1) by omega]
          rw [if_neg (by omega)]
          congr 1
          omega
/-- Cells put: both sides. -/
theorem RepL.put {hp : Array Go.Obj} {vs us : List Value} {ps qs : List PV} (h : RepL hp F σ H vs ps) (k : RepL hp F σ H us qs) (off : Nat) (hle : off + qs.length ≤ ps.length) :
    RepL hp F σ H (vs.take off ++ us ++ vs.drop (off + us.length)) (ps.take off ++ qs ++ ps.drop (off + qs.length)) := by
  have e1 := h.1
  have e2 := k.1
  refine ⟨by simp; omega, fun i v p hv hp => ?_⟩
  simp only [List.getElem?_append, List.length_take, List.length_append, List.getElem?_take, List.getElem?_drop] at hv hp
  by_cases h1 : i < off
  · simp only [show i < min off vs.length + us.length by omega, show i < min off vs.length by omega, h1, if_true] at hv
    simp only [show i < min off ps.length + qs.length by omega, show i < min off ps.length by omega, h1, if_true] at hp
    exact h.2 i v p hv hp
  · by_cases h2 : i < off + us.length
    · simp only [show i < min off vs.length + us.length by omega, show ¬ i < min off vs.length by omega, if_true, if_false] at hv
      simp only [show i < min off ps.length + qs.length by omega, show ¬ i < min off ps.length by omega, if_true, if_false] at hp
      rw [show min off vs.length = min off ps.length by omega] at hv
      exact k.2 _ v p hv hp
    · simp only [show ¬ i < min off vs.length + us.length by omega, if_false] at hv
      simp only [show ¬ i < min off ps.length + qs.length by omega, if_false] at hp
      rw [e2, show min off vs.length + qs.length = min off ps.length + qs.length by omega] at hv
      exact h.2 _ v p hv hp
theorem all_put {ps qs : List PV} (h1 : ps.all PV.one = true) (h2 : qs.all PV.one = true) (off k : Nat) : (ps.take off ++ qs ++ ps.drop k).all PV.one = true := by
  rw [List.all_eq_true] at *
  intro x hx
  simp only [List.mem_append] at hx
  rcases hx with (hx | hx) | hx
  · exact h1 x (List.take_subset _ _ hx)
  · exact h2 x hx
  · exact h1 x (List.drop_subset _ _ hx)
theorem cellsPut_spec {n : Nat} {cs cs' : List PV} {off : Nat} {v : PV} (h : cellsPut n cs off v = some cs') : v.cells.length = n ∧ v.isVal = true ∧ off + n ≤ cs.length ∧ cs' = cs.take off ++ v.cells ++ cs.drop (off + v.cells.length) := by
  unfold cellsPut at h
  split at h
  · rename_i hh
    obtain ⟨h1, h2, h3⟩ := hh
    simp only [Option.some.injEq] at h
    exact ⟨h1, h2, h3, by rw [← h, h1]⟩
  · cases h

theorem fill_rep {places : List (Nat × Nat)} : ∀ (xs : List (Nat × Value)) (parts : List (Nat × PV)) (vs : Array Value) (cs cs' : List PV), parts.length = xs.length →
    (∀ (i : Nat) x p, xs[i]? = some x → parts[i]? = some p → x.1 = p.1 ∧ Rep w.heap F σ H x.2 p.2) → RepL w.heap F σ H vs.toList cs → cs.all PV.one = true → fillP places cs parts = some cs' →
    ∃ us, Instr.fill (places.toArray[·]?) vs xs = some us ∧ RepL w.heap F σ H us.toList cs' ∧ cs'.all PV.one = true
  | [], [], vs, cs, cs', _, _, hr, ho, h => by simp [fillP] at h; subst h; exact ⟨vs, rfl, hr, ho⟩
  | [], _ :: _, _, _, _, hl, _, _, _, _ => by simp at hl
  | _ :: _, [], _, _, _, hl, _, _, _, _ => by simp at hl
  | (i, v) :: xs, (f, p) :: parts, vs, cs, cs', hl, hx, hr, ho, h => by
    simp only [fillP, Option.bind_eq_some_iff] at h
    obtain ⟨x, hx1, cs1, h1, h2⟩ := h
    obtain ⟨e1, hrep⟩ := hx 0 (i, v) (f, p) rfl rfl
    simp only at e1; subst e1
    obtain ⟨h3, h4, h5, rfl⟩ := cellsPut_spec h1
    obtain ⟨hcl, hone⟩ := hrep.cells h4
    have hsz : v.cells.size = x.2 := by have := hcl.1; simp at this; omega
    have hvs : vs.size = cs.length := by have := hr.1; simpa using this
    have hput := put_list (α := Value) x.1 v.cells.toList 0 vs (by simp; omega)
    have hfold : (v.cells.zipIdx.foldl (fun cs (y : Value × Nat) => cs.setIfInBounds (x.1 + y.2) y.1) vs) = ((v.cells.toList.zipIdx 0).foldl (fun cs (y : Value × Nat) => cs.setIfInBounds (x.1 + y.2) y.1) vs) := by
      rw [← Array.foldl_toList]
      simp
    obtain ⟨us, h6, h7, h8⟩ := fill_rep xs parts (v.cells.zipIdx.foldl (fun cs (y : Value × Nat) => cs.setIfInBounds (x.1 + y.2) y.1) vs) _ cs' (by simpa using hl)
      (fun i x p hi hp => hx (i + 1) x p (by simpa using hi) (by simpa using hp)) (by
        rw [hfold, hput, Nat.add_zero]
        exact hr.put hcl x.1 (by rw [h3]; omega)) (all_put ho hone _ _) h2
    refine ⟨us, ?_, h7, h8⟩
    rw [Instr.fill]
    have hp0 : places.toArray[i]? = some x := by simpa using hx1
    simp only [hp0]
    rw [if_neg (by simp [hsz]; omega)]
    exact h6
theorem buildP_run {t : TypeId} (xs : Array (Nat × Value)) (parts : List (Nat × PV)) {p : PV} (hl : parts.length = xs.toList.length)
    (hx : ∀ (i : Nat) x q, xs.toList[i]? = some x → parts[i]? = some q → x.1 = q.1 ∧ Rep w.heap F σ H x.2 q.2) (h : buildP P t parts = some p) :
    ∃ v, (Instr.build t xs).run P w = .ok v w ∧ Rep w.heap F σ H v p := by
  unfold buildP at h
  simp only [Option.bind_eq_some_iff, Option.map_eq_some_iff] at h
  obtain ⟨z, hz, cs, hf, rfl⟩ := h
  unfold tyBuild at hz
  split at hz
  · rename_i fs hu
    simp only [Option.bind_eq_some_iff] at hz
    obtain ⟨zz, h1, h2⟩ := hz
    split at h2
    · rename_i hval
      simp only [Option.map_eq_some_iff] at h2
      obtain ⟨l, h2, rfl⟩ := h2
      obtain ⟨i, v, h3, h4, h5⟩ := tyZero_spec h1
      have hr := ofConst_rep (F := F) (σ := σ) (H := H) (hp := w.heap) v zz h5
      obtain ⟨hcl, hone⟩ := hr.cells hval
      obtain ⟨us, h6, h7, h8⟩ := fill_rep xs.toList parts v.cells zz.cells cs hl hx hcl hone hf
      exact ⟨.agg us, run_build w t xs us (by simp only [Program.built, h3, hu, h4, h2]; exact h6), by
        obtain ⟨us⟩ := us
        exact .agg us cs h7.1 h8 h7.2⟩
    · cases h2
  · cases hz

/-! ### A literal row -/
/-- Elements whose cells lie behind one another. -/
def Cut (n : Nat) (es : List PV) (cs : List PV) : Prop := (∀ e ∈ es, e.cells.length = n ∧ e.cells.all PV.one = true) ∧ cs.length = es.length * n ∧ ∀ (i : Nat) e, es[i]? = some e → ∀ (j : Nat), j < n → cs[i * n + j]? = e.cells[j]?
theorem mul_lt_of {i m n j : Nat} (h : i < m) (hj : j < n) : i * n + j < m * n := by
  have : i * n + n ≤ m * n := by rw [← Nat.succ_mul]; exact Nat.mul_le_mul_right n h
  omega
theorem split_lt {i m n : Nat} (h : i < m * n) : i / n < m ∧ i % n < n ∧ i = i / n * n + i % n := by
  have hn : 0 < n := by
    rcases Nat.eq_zero_or_pos n with h0 | h0
    · subst h0; simp at h
    · exact h0
  exact ⟨(Nat.div_lt_iff_lt_mul hn).2 h, Nat.mod_lt _ hn, by rw [Nat.mul_comm]; exact (Nat.div_add_mod i n).symm⟩
theorem Cut.flat {n : Nat} {es : List PV} (h : ∀ e ∈ es, e.cells.length = n ∧ e.cells.all PV.one = true) : Cut n es (es.flatMap PV.cells) := by
  induction es with
  | nil => exact ⟨h, by simp, fun i e he => by simp at he⟩
  | cons e es ih =>
    obtain ⟨h1, h2, h3⟩ := ih fun x hx => h x (by simp [hx])
    have he := (h e (by simp)).1
    refine ⟨h, by simp [h2, he, Nat.succ_mul]; omega, fun i x hx j hj => ?_⟩
    rw [List.flatMap_cons]
    cases i with
    | zero =>
      simp at hx; subst hx
      rw [List.getElem?_append_left (by omega)]; simp
    | succ i =>
      simp at hx
      rw [List.getElem?_append_right (by rw [he, Nat.succ_mul]; omega), he, show (i + 1) * n + j - n = i * n + j by rw [Nat.succ_mul]; omega]
      exact h3 i x hx j hj
theorem flat_set {n : Nat} : ∀ {es : List PV} {i : Nat} {v : PV}, (∀ e ∈ es, e.cells.length = n) → v.cells.length = n → i < es.length →
    (es.set i v).flatMap PV.cells = (es.flatMap PV.cells).take (i * n) ++ v.cells ++ (es.flatMap PV.cells).drop (i * n + v.cells.length)
  | [], i, v, _, _, hi => by simp at hi
  | e :: es, 0, v, h, hv, hi => by
    have he := h e (by simp)
    simp [hv, ← he]
  | e :: es, i + 1, v, h, hv, hi => by
    have he := h e (by simp)
    have ih := flat_set (es := es) (i := i) (v := v) (fun x hx => h x (by simp [hx])) hv (by simpa using hi)
    simp only [List.set_cons_succ, List.flatMap_cons, ih]
    have t1 : ∀ (L : List PV) k, (e.cells ++ L).take (e.cells.length + k) = e.cells ++ L.take k := fun L k => by
      rw [List.take_append, List.take_of_length_le (by omega)]; simp
    have d1 : ∀ (L : List PV) k, (e.cells ++ L).drop (e.cells.length + k) = L.drop k := fun L k => by
      rw [List.drop_append, List.drop_of_length_le (by omega)]; simp
    rw [show (i + 1) * n = e.cells.length + i * n by rw [Nat.succ_mul, he]; omega, t1, Nat.add_assoc, d1]
    simp [List.append_assoc]
theorem setAll_rep {s m : Nat} : ∀ (xs : List (Nat × Value)) (parts : List (Nat × PV)) (vs : Array Value) (es es' : List PV), parts.length = xs.length →
    (∀ (i : Nat) x p, xs[i]? = some x → parts[i]? = some p → x.1 = p.1 ∧ Rep w.heap F σ H x.2 p.2) → RepL w.heap F σ H vs.toList (es.flatMap PV.cells) → (∀ e ∈ es, e.cells.length = s ∧ e.cells.all PV.one = true) → setAll s es parts = some es' →
    ∃ us, Instr.fill (fun i => some (i * s, s)) vs xs = some us ∧ RepL w.heap F σ H us.toList (es'.flatMap PV.cells) ∧ (∀ e ∈ es', e.cells.length = s ∧ e.cells.all PV.one = true) ∧ es'.length = es.length
  | [], [], vs, es, es', _, _, hr, ho, h => by simp [setAll] at h; subst h; exact ⟨vs, rfl, hr, ho, rfl⟩
  | [], _ :: _, _, _, _, hl, _, _, _, _ => by simp at hl
  | _ :: _, [], _, _, _, hl, _, _, _, _ => by simp at hl
  | (i, v) :: xs, (f, p) :: parts, vs, es, es', hl, hx, hr, ho, h => by
    simp only [setAll] at h
    split at h
    · rename_i hh
      obtain ⟨hi, hc, hv⟩ := hh
      obtain ⟨e1, hrep⟩ := hx 0 (i, v) (f, p) rfl rfl
      simp only at e1; subst e1
      obtain ⟨hcl, hone⟩ := hrep.cells hv
      have hlen := (Cut.flat (n := s) ho).2.1
      have hsz : v.cells.size = s := by have := hcl.1; simp at this; omega
      have hvs : vs.size = es.length * s := by have := hr.1; simp only [Array.length_toList] at this; omega
      have hle : i * s + s ≤ es.length * s := by rw [← Nat.succ_mul]; exact Nat.mul_le_mul_right s hi
      have hput := put_list (α := Value) (i * s) v.cells.toList 0 vs (by simp; omega)
      have hfold : (v.cells.zipIdx.foldl (fun cs (y : Value × Nat) => cs.setIfInBounds (i * s + y.2) y.1) vs) = ((v.cells.toList.zipIdx 0).foldl (fun cs (y : Value × Nat) => cs.setIfInBounds (i * s + y.2) y.1) vs) := by
        rw [← Array.foldl_toList]; simp
      have hset := flat_set (n := s) (es := es) (i := i) (v := p) (fun e he => (ho e he).1) hc hi
      obtain ⟨us, h6, h7, h8, h9⟩ := setAll_rep (m := m) xs parts (v.cells.zipIdx.foldl (fun cs (y : Value × Nat) => cs.setIfInBounds (i * s + y.2) y.1) vs) (es.set i p) es' (by simpa using hl)
        (fun i x p hi hp => hx (i + 1) x p (by simpa using hi) (by simpa using hp)) (by
          rw [hfold, hput, Nat.add_zero, hset]
          exact hr.put hcl (i * s) (by rw [hlen, hc]; omega)) (fun e he => by
            rcases List.mem_or_eq_of_mem_set he with he | rfl
            · exact ho e he
            · exact ⟨hc, hone⟩) h
      refine ⟨us, ?_, h7, h8, by rw [h9]; simp⟩
      rw [Instr.fill]
      simp only
      rw [if_neg (by simp [hsz]; omega)]
      exact h6
    · cases h
theorem flat_replicate (z : PV) : ∀ m, (List.replicate m z).flatMap PV.cells = (List.replicate m z.cells).flatten
  | 0 => rfl
  | m + 1 => by simp [List.replicate_succ, List.flatMap_cons, flat_replicate z m]
/-- The zero cells of a row. -/
theorem zeros_rep {v : Value} {z : PV} (hr : Rep w.heap F σ H v z) (hv : z.isVal = true) (m s : Nat) (hs : z.cells.length = s) (h0 : 0 < s) :
    RepL w.heap F σ H ((List.range (m * s)).map fun i => v.cells[i % v.cells.size]!) ((List.replicate m z).flatMap PV.cells) := by
  obtain ⟨hcl, hone⟩ := hr.cells hv
  have hcut := Cut.flat (n := s) (es := List.replicate m z) fun e he => by rw [List.eq_of_mem_replicate he]; exact ⟨hs, hone⟩
  have hsz : v.cells.size = s := by have := hcl.1; simp at this; omega
  refine ⟨by rw [hcut.2.1]; simp, fun i u p hu hp => ?_⟩
  have hi : i < m * s := by
    have := (List.getElem?_eq_some_iff.1 hu).1
    simpa using this
  obtain ⟨h1, h2, h3⟩ := split_lt hi
  have hz := hcut.2.2 (i / s) z (by simp [List.getElem?_replicate, h1]) (i % s) h2
  rw [← h3, hp] at hz
  have hu' : u = v.cells[i % s]! := by
    rw [List.getElem?_map, List.getElem?_range hi] at hu
    simp only [Option.map_some, Option.some.injEq] at hu
    rw [← hu, hsz]
  have hlt : i % s < v.cells.size := by omega
  refine hcl.2 (i % s) u p ?_ hz.symm
  rw [hu', Array.getElem!_eq_getD, Array.getD_eq_getD_getElem?]
  simp [hlt]

theorem run_newRow (e : TypeId) (cs : Array Value) (w : World) : (newRow e cs).run P w = .ok ⟨w.heap.size, 0, none⟩ (w.alloc (.cells cs e)) := rfl
end
end Go.V
