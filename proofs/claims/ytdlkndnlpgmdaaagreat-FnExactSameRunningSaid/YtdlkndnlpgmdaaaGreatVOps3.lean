/- Slice literals and stores of V are carried out by the machine. No condition. -/
import Derived.Test.YtdlkndnlpgmdaaaGreatVOps2
/-! The simulation: rows and stores. -/
namespace Go.V
open Go Go.RowKit
set_option linter.unusedSimpArgs false
set_option linter.unusedVariables false

section
variable {P : Program} {w : World} {F : Nat → Prop} {σ : SMap} {H : Heap}

/-- A new row that nobody will write. -/
theorem fro_row (hs : RelS w.heap F σ H) (c : Array Value) (t : TypeId) : Go_ w F σ H (w.alloc (.cells c t)) (fun b => F b ∨ b = w.heap.size) σ H := by
  have hold : ∀ b, b < w.heap.size → (w.alloc (.cells c t)).heap[b]? = w.heap[b]? := fun b hb => by
    show (w.heap.push _)[b]? = _
    rw [Array.getElem?_push, if_neg (by omega)]
  have hx : Ext w.heap F σ H (w.alloc (.cells c t)).heap (fun b => F b ∨ b = w.heap.size) σ H :=
    ⟨fun _ h => .inl h, fun b hb => hold b (hs.lt b hb), fun a d => .inr ⟨rfl, fun b base n h => ⟨h, sizeAt_push _ _ _⟩⟩⟩
  refine ⟨hx, ⟨rfl, rfl, rfl, by show _ ≤ (w.heap.push _).size; simp, fun b hb _ => hold b hb, fun b h => h.imp id fun e => by omega, fun b h => .inl h⟩, ⟨fun a d => ?_, hs.inj, fun b hb => ?_⟩⟩
  · refine RelObj.ext' hx (hs.obj a d) rfl rfl fun b base n ha hσ => ?_
    have := hs.block_lt ⟨a, d, base, n, ha, hσ⟩
    exact ⟨hold b this.1, fun h => h.elim this.2 (by omega)⟩
  · show _ < (w.heap.push _).size
    simp
    rcases hb with hb | hb
    · have := hs.lt b hb; omega
    · omega

/-- A row of elements laid whole in a block. -/
theorem slice_rep {hp : Array Go.Obj} {F' : Nat → Prop} {b n cap : Nat} {es : List PV} {c : Array Value} {t : TypeId} {fr : Nat × Nat} (f : Bool) (hb : hp[b]? = some (.cells c t fr)) (hF : F' b) (hne : es ≠ [])
    (hcap : es.length ≤ cap) (hf : f = true → cap = es.length) (hn : ∀ e ∈ es, e.cells.length = n ∧ e.cells.all PV.one = true) (off : Nat)
    (hr : ∀ (i : Nat) e, es[i]? = some e → ∀ (j : Nat) p, e.cells[j]? = some p → ∃ u, c[off + i * n + j]? = some u ∧ Rep hp F' σ H u p) :
    Rep hp F' σ H (.slice (some ⟨b, off, none⟩) es.length cap) (.slice f es) := by
  refine .slice b off n cap f es (fun i j => (c[off + i * n + j]?).getD undef) hF hne hcap hf (fun e he => (hn e he).1) (fun e he => (hn e he).2) (fun i e he j hj => ?_) fun i e he j p hp => ?_
  · have hl := (hn e (List.mem_of_getElem? he)).1
    obtain ⟨u, hu, _⟩ := hr i e he j e.cells[j] (List.getElem?_eq_getElem (by omega))
    unfold cellOf; rw [hb]; simp only [hu, Option.getD_some]
  · obtain ⟨u, hu, hrr⟩ := hr i e he j p hp
    simp only [hu, Option.getD_some]; exact hrr

theorem buildSliceP_run (hs : RelS w.heap F σ H) {t : TypeId} {len : Nat} (xs : Array (Nat × Value)) (parts : List (Nat × PV)) {p : PV} (hl : parts.length = xs.toList.length)
    (hx : ∀ (i : Nat) x q, xs.toList[i]? = some x → parts[i]? = some q → x.1 = q.1 ∧ Rep w.heap F σ H x.2 q.2) (h : buildSliceP P t len parts = some p) :
    ∃ v c e F', (Instr.buildSlice t len xs).run P w = .ok v (w.alloc (.cells c e)) ∧ Rep (w.alloc (.cells c e)).heap F' σ H v p ∧ Go_ w F σ H (w.alloc (.cells c e)) F' σ H := by
  unfold buildSliceP at h
  split at h
  · rename_i e hk
    have hu := kind_slice hk
    simp only [Option.bind_eq_some_iff] at h
    obtain ⟨s, hsz, h⟩ := h
    split at h
    · rename_i h0
      subst h0
      split at h
      · rename_i hemp
        simp only [Option.some.injEq] at h; subst h
        have hxs : xs.toList = [] := by
          have : parts = [] := by simpa using hemp
          subst this; simpa using hl.symm
        have hxs' : xs = #[] := by simpa using hxs
        subst hxs'
        refine ⟨.slice (some ⟨w.heap.size, 0, none⟩) 0 0, #[], e, _, ?_, .empty _ 0 true fun _ => rfl, fro_row hs _ _⟩
        simp [Instr.buildSlice, run_underlying hu, run_sizeOf' hsz, Instr.fill, run_newRow]
        have e0 : Array.range 0 = #[] := by apply Array.ext' <;> simp
        rw [e0, Array.map_empty]
      · cases h
    · rename_i h0
      split at h
      · rename_i hh
        obtain ⟨hpos, h24⟩ := hh
        simp only [Option.bind_eq_some_iff] at h
        obtain ⟨z, hz, h⟩ := h
        split at h
        · rename_i hzz
          obtain ⟨hzl, hzv⟩ := hzz
          simp only [Option.map_eq_some_iff] at h
          obtain ⟨es, hes, rfl⟩ := h
          obtain ⟨i, v, h3, h4, h5⟩ := tyZero_spec hz
          have hr := ofConst_rep (F := F) (σ := σ) (H := H) (hp := w.heap) v z h5
          obtain ⟨hcl, hone⟩ := hr.cells hzv
          have hzr := zeros_rep hr hzv len s.2 hzl hpos
          obtain ⟨us, h6, h7, h8, h9⟩ := setAll_rep (m := len) xs.toList parts ((Array.range (len * s.2)).map fun i => v.cells[i % v.cells.size]!) (List.replicate len z) es hl hx (by
            have : ((Array.range (len * s.2)).map fun i => v.cells[i % v.cells.size]!).toList = (List.range (len * s.2)).map fun i => v.cells[i % v.cells.size]! := by simp
            rw [this]; exact hzr) (fun e he => by rw [List.eq_of_mem_replicate he]; exact ⟨hzl, hone⟩) hes
          have hlen : es.length = len := by rw [h9]; simp
          have hg := fro_row hs us e
          refine ⟨.slice (some ⟨w.heap.size, 0, none⟩) len len, us, e, _, ?_, ?_, hg⟩
          · have hn24 : ¬ (2 ^ 24 < len * s.2) := by have : (2:Nat) ^ 24 = 16777216 := rfl; omega
            have hne0 : ¬ (len * s.2 = 0) := by rw [Nat.mul_eq_zero]; omega
            unfold Instr.buildSlice
            simp only [Sem.run_bind, run_underlying hu, Result.andThen, run_sizeOf' hsz, gt_iff_lt, hn24, if_false, hne0, run_zeroValue' h3 h4, Sem.run_pure, h6, run_newRow]
          · have := slice_rep (σ := σ) (H := H) (hp := (w.alloc (.cells us e)).heap) (F' := fun b => F b ∨ b = w.heap.size) (b := w.heap.size) (n := s.2) (cap := len) (es := es) (c := us) (t := e) (fr := (0, 0)) true
              (by show (w.heap.push _)[_]? = _; simp) (.inr rfl) (by intro he; subst he; simp at hlen; omega) (by omega) (fun _ => by omega) h8 0 (fun i x hx j q hq => by
                have hcut := Cut.flat h8
                have hj : j < s.2 := by have := (List.getElem?_eq_some_iff.1 hq).1; have := (h8 x (List.mem_of_getElem? hx)).1; omega
                have hi : i < es.length := (List.getElem?_eq_some_iff.1 hx).1
                have hfl := hcut.2.2 i x hx j hj
                rw [hq] at hfl
                have hlt : i * s.2 + j < us.toList.length := by
                  rw [h7.1, hcut.2.1]; exact mul_lt_of hi hj
                refine ⟨us.toList[i * s.2 + j], ?_, (h7.2 _ _ q (List.getElem?_eq_getElem hlt) hfl).ext hg.ext⟩
                rw [show 0 + i * s.2 + j = i * s.2 + j by omega]
                simp)
            rw [hlen] at this
            exact this
        · cases h
      · cases h
  · cases h

theorem withCells_cells {p q : PV} {cs : List PV} (h : p.withCells cs = some q) (ho : cs.all PV.one = true) : q.cells = cs ∧ (p.isVal = true → q.isVal = true) := by
  unfold PV.withCells at h
  split at h
  · simp only [Option.some.injEq] at h; subst h; exact ⟨rfl, fun _ => rfl⟩
  · simp only [Option.some.injEq] at h; subst h
    simp at ho
    rename_i c _
    exact ⟨PV.cells_one ho, fun _ => by cases c <;> first | rfl | cases ho⟩
  · cases h

theorem oneCells {vs : List Value} {ps : List PV} (h : RepL w.heap F σ H vs ps) (ho : ps.all PV.one = true) : ∀ v ∈ vs, v.oneCell' = true := by
  intro v hv
  obtain ⟨i, hi, rfl⟩ := List.mem_iff_getElem.1 hv
  have hlt : i < ps.length := by rw [← h.1]; exact hi
  exact (h.2 i _ ps[i] (List.getElem?_eq_getElem hi) (List.getElem?_eq_getElem hlt)).one (List.all_eq_true.1 ho _ (List.getElem_mem hlt))

theorem storeP_run (hs : RelS w.heap F σ H) {t : TypeId} {x v : Value} {p q : PV} {H' : Heap} (hx : Rep w.heap F σ H x p) (hv : Rep w.heap F σ H v q) (h : storeP P t H p q = some H') :
    ∃ w', (Instr.storeAt t x v).run P w = .ok () w' ∧ Go_ w F σ H w' F σ H' := by
  unfold storeP at h
  split at h
  · rename_i a d ver idx off
    simp only [Option.bind_eq_some_iff] at h
    obtain ⟨es, hes, e, he, h⟩ := h
    obtain ⟨rfl, hal, hb, b, base, n, c, ty, lo, hi, h1, h2, h3, h4, h5, h6, h7⟩ := hs.arr hes
    split at h
    · rename_i hfz
      simp only [Option.bind_eq_some_iff, Option.map_eq_some_iff] at h
      obtain ⟨i, hi', cs, hput, e', hwc, rfl⟩ := h
      obtain ⟨hlen, hval, hle, rfl⟩ := cellsPut_spec hput
      obtain ⟨hcl, hone⟩ := hv.cells hval
      obtain ⟨hen, heo⟩ := h5 e (List.mem_of_getElem? he)
      have hidx : idx < es.length := (List.getElem?_eq_some_iff.1 he).1
      have hcs := all_put heo hone off (off + q.cells.length)
      obtain ⟨hce, _⟩ := withCells_cells hwc hcs
      have hvl : v.cells.toList.length = i.2 := by rw [hcl.1]; exact hlen
      cases hx with
      | ptrOld x a d ver idx off hlt => omega
      | ptr a d idx2 off b' base' n' hs' =>
        rw [h1] at hs'
        simp only [Option.some.injEq, Prod.mk.injEq] at hs'
        obtain ⟨rfl, rfl, rfl⟩ := hs'
        have hin : idx * n + n ≤ es.length * n := by rw [← Nat.succ_mul]; exact Nat.mul_le_mul_right n hidx
        have hfzn : (H.get a d).fz * n ≤ idx * n := Nat.mul_le_mul_right n hfz
        obtain ⟨c', hob, hc1, hc2⟩ := setCells_oneBlock b ty (lo, hi) v.cells.toList (base + idx * n + off) w c h2
        refine ⟨w.setCells b (base + idx * n + off) v.cells.toList, ?_, ?_⟩
        · have hst := run_storeCells_cells (P := P) b (base + idx * n + off) v.cells.toList 0 w (fun j hj => by
            rw [Nat.add_zero, cell_eq]; unfold cellOf; rw [h2]
            have : base + idx * n + off + j < c.size := by omega
            simp [this]) (fun j hj => by
            rw [Nat.add_zero]
            have := h7 (base + idx * n + off + j) (by omega)
            simp only [World.frozen?, h2, Bool.and_eq_false_iff, decide_eq_false_iff_not]
            omega) (oneCells hcl hone)
          have hsz : v.cells.size = i.2 := by simpa using hvl
          unfold Instr.storeAt storeVar
          simp only [Instr.sureAddr, Sem.run_bind, Sem.run_pure, Result.andThen, run_sizeOf' hi', hsz, ne_eq, not_true_eq_false, if_false, hst, Nat.add_zero]
        · refine write_row hs hb h1 hob (fun x hx => ?_) ?_ ?_ h7
          · rcases List.mem_or_eq_of_mem_set hx with hx | rfl
            · exact h5 x hx
            · rw [hce]
              refine ⟨?_, hcs⟩
              simp; omega
          · rw [List.length_set, hob.sz]; exact h4
          · intro k x hk j r hr
            by_cases hki : k = idx
            · subst hki
              rw [List.getElem?_set_self hidx, Option.some.injEq] at hk
              subst hk
              rw [hce] at hr
              simp only [List.getElem?_append, List.length_take, List.length_append, List.getElem?_take, List.getElem?_drop] at hr
              by_cases hj1 : j < off
              · simp only [show j < min off e.cells.length + q.cells.length by omega, show j < min off e.cells.length by omega, hj1, if_true] at hr
                obtain ⟨u, hu, hrr⟩ := h6 k e he j r hr
                refine ⟨u, ?_, hrr⟩
                rw [hc1 _ (.inl (by omega))]
                unfold cellOf at hu; rw [h2] at hu; exact hu
              · by_cases hj2 : j < off + q.cells.length
                · simp only [show j < min off e.cells.length + q.cells.length by omega, show ¬ j < min off e.cells.length by omega, if_true, if_false] at hr
                  rw [show min off e.cells.length = off by omega] at hr
                  have hjl : j - off < v.cells.toList.length := by omega
                  refine ⟨v.cells.toList[j - off], ?_, hcl.2 (j - off) _ r (List.getElem?_eq_getElem hjl) hr⟩
                  rw [show base + k * n + j = base + k * n + off + (j - off) by omega, hc2 _ hjl (by omega)]
                  exact List.getElem?_eq_getElem hjl
                · simp only [show ¬ j < min off e.cells.length + q.cells.length by omega, if_false] at hr
                  rw [show off + q.cells.length + (j - (min off e.cells.length + q.cells.length)) = j by omega] at hr
                  obtain ⟨u, hu, hrr⟩ := h6 k e he j r hr
                  refine ⟨u, ?_, hrr⟩
                  rw [hc1 _ (.inr (by omega))]
                  unfold cellOf at hu; rw [h2] at hu; exact hu
            · rw [List.getElem?_set_ne (Ne.symm hki)] at hk
              obtain ⟨u, hu, hrr⟩ := h6 k x hk j r hr
              refine ⟨u, ?_, hrr⟩
              have hkl : k < es.length := (List.getElem?_eq_some_iff.1 hk).1
              have hjn : j < n := by have := (List.getElem?_eq_some_iff.1 hr).1; have := (h5 x (List.mem_of_getElem? hk)).1; omega
              rw [hc1 _ (by
                rcases Nat.lt_or_gt_of_ne hki with hlt | hlt
                · left
                  have : k * n + n ≤ idx * n := by rw [← Nat.succ_mul]; exact Nat.mul_le_mul_right n hlt
                  omega
                · right
                  have : idx * n + n ≤ k * n := by rw [← Nat.succ_mul]; exact Nat.mul_le_mul_right n hlt
                  omega)]
              unfold cellOf at hu; rw [h2] at hu; exact hu
    · cases h
  · cases h
end
end Go.V
