/- Appends of V are carried out by the machine. No condition. -/
import Derived.Test.YtdlkndnlpgmdaaaGreatVOps3
import Derived.Laws.MakeOwn
/-! The simulation: append, make, copy. -/
namespace Go.V
open Go Go.RowKit
set_option linter.unusedSimpArgs false
set_option linter.unusedVariables false

theorem slicecap_le (n c : Nat) (h : c < n) : Builtin.nextslicecap n c ≤ 2 * n + 1000 := by
  unfold Builtin.nextslicecap
  split
  · omega
  · split
    · omega
    · rw [growBy_four]
      repeat' split
      all_goals omega

theorem cap_fits {n c b : Nat} (h : c < n) (hn : n ≤ maxRow) (hb : b ≤ 1024) : Builtin.nextslicecap n c * b ≤ 281474976710656 := by
  have h1 := slicecap_le n c h
  have h3 : n ≤ 68719476736 := hn
  have h2 : Builtin.nextslicecap n c * b ≤ (2 * n + 1000) * 1024 := Nat.mul_le_mul h1 hb
  have h4 : 2 * n + 1000 ≤ 137438954472 := by omega
  exact Nat.le_trans h2 (Nat.le_trans (Nat.mul_le_mul_right 1024 h4) (by decide))
theorem row_63 {n : Nat} (hn : n ≤ maxRow) : ((n : Nat) : Int) ≤ 9223372036854775807 := by
  have h3 : n ≤ 68719476736 := hn
  omega
section
variable {P : Program} {w : World} {F : Nat → Prop} {σ : SMap} {H : Heap}

/-- The rows of a slice value, in memory. -/
theorem elems_rows (hs : RelS w.heap F σ H) {x : Value} {p : PV} {es : List PV} (hx : Rep w.heap F σ H x p) (h : elems H p = some es) :
    ∃ a cap, x = .slice a es.length cap ∧ es.length ≤ cap ∧ (es ≠ [] → ∃ b o n, a = some ⟨b, o, none⟩ ∧ (∀ e ∈ es, e.cells.length = n ∧ e.cells.all PV.one = true) ∧
      ∀ (i : Nat) e, es[i]? = some e → RowAt w.heap F σ H b (o + i * n) e.cells) := by
  unfold elems at h
  split at h
  · simp only [Option.some.injEq] at h; subst h
    cases hx with
    | empty a cap f hf => exact ⟨a, cap, rfl, by simp, fun h => absurd rfl h⟩
    | slice b off n cap f es g hF hne hcap hf hn ho hc hr =>
      refine ⟨_, cap, rfl, hcap, fun _ => ⟨b, off, n, rfl, fun e he => ⟨hn e he, ho e he⟩, fun i e he j c hj => ?_⟩⟩
      have hjn : j < n := by have := (List.getElem?_eq_some_iff.1 hj).1; have := hn e (List.mem_of_getElem? he); omega
      exact ⟨g i j, hc i e he j hjn, hr i e he j c hj⟩
  · rename_i a d ver n0 off len
    unfold Heap.rows at h
    simp only [Option.bind_eq_some_iff] at h
    obtain ⟨all, hall, h⟩ := h
    split at h
    · rename_i hle
      simp only [Option.some.injEq] at h; subst h
      obtain ⟨rfl, hal, hb, b, base, n, c, ty, lo, hi, h1, h2, h3, h4, h5, h6, h7⟩ := hs.arr hall
      cases hx with
      | srefOld x cap a d ver n off len hcp hlt => omega
      | sref _ _ _ _ b' base' n' cap x hs' hcap hx hz =>
        rw [h1] at hs'
        simp only [Option.some.injEq, Prod.mk.injEq] at hs'
        obtain ⟨rfl, rfl, rfl⟩ := hs'
        have hlen : ((all.drop off).take len).length = len := by simp; omega
        refine ⟨some x, cap, by rw [hlen], by rw [hlen]; exact hcap, fun hne => ?_⟩
        have h0 : 0 < len := by
          rcases Nat.eq_zero_or_pos len with h0 | h0
          · subst h0; simp at hne
          · exact h0
        have hx' : x = ⟨b, base + off * n, none⟩ := hx.resolve_left (by omega)
        refine ⟨b, base + off * n, n, by rw [hx'], fun e he => h5 e (List.drop_subset _ _ (List.take_subset _ _ he)), fun i e he => ?_⟩
        have he' : all[off + i]? = some e := by
          rw [List.getElem?_take] at he
          split at he
          · rw [List.getElem?_drop] at he; exact he
          · cases he
        have := h6 (off + i) e he'
        rw [show base + off * n + i * n = base + (off + i) * n by rw [Nat.add_mul]; omega]
        exact this
    · cases h
  · cases h

theorem bytesPV_length (s : List UInt8) : (bytesPV s).length = s.length := by simp [bytesPV]
theorem bytesPV_flat : ∀ s : List UInt8, (bytesPV s).flatMap PV.cells = bytesPV s
  | [] => rfl
  | b :: s => by
    have ih := bytesPV_flat s
    simp only [bytesPV, List.map_cons, List.flatMap_cons, PV.cells, List.singleton_append] at ih ⊢
    rw [ih]
/-- What is appended, in the kit's words. -/
theorem src_rep (hs : RelS w.heap F σ H) {tx : TypeId} {n : Nat} (hk : kindSrc (tyKind P tx) = true) {x : Value} {p : PV} {ys : List PV} (hx : Rep w.heap F σ H x p) (h : appended H n p = some ys) (hn : allCells n ys = true) :
    ∃ news, Src P n tx x ys.length news w ∧ RepL w.heap F σ H news (ys.flatMap PV.cells) ∧ ∀ e ∈ ys, e.cells.length = n ∧ e.cells.all PV.one = true := by
  have hkind : (∃ e', P.underlying tx = some (.slice e')) ∨ P.underlying tx = some .string := by
    unfold kindSrc at hk
    split at hk
    · rename_i e he; exact .inl ⟨e, kind_slice he⟩
    · rename_i he; exact .inr (kind_str he)
    · cases hk
  have hn' : ∀ y ∈ ys, y.cells.length = n := fun y hy => by
    have := List.all_eq_true.1 hn y hy
    simpa using this
  unfold appended at h
  split at h
  · rename_i s
    split at h
    · rename_i h1
      subst h1
      simp only [Option.some.injEq] at h; subst h
      have hxs := hx.str_inv
      subst hxs
      have hmk : (byteCells (⟨⟨s⟩⟩ : ByteArray)) = s.map fun b => Value.int .u8 b.toNat := rfl
      refine ⟨byteCells ⟨⟨s⟩⟩, ⟨hkind, fun _ => by rw [bytesPV_length]; rfl, by rw [bytesPV_length]; exact firstCells_string _ w, by rw [bytesPV_length]; exact firstCells_string _ w.drew, by rw [hmk]; simp [bytesPV_length], fun u hu => by
        rw [hmk] at hu; obtain ⟨b, _, rfl⟩ := List.mem_map.1 hu; rfl⟩, ?_, fun e he => ?_⟩
      · rw [bytesPV_flat, hmk]
        refine ⟨by simp [bytesPV_length], fun i v p hv hp => ?_⟩
        unfold bytesPV at hp
        rw [List.getElem?_map, Option.map_eq_some_iff] at hv hp
        obtain ⟨b, hb, rfl⟩ := hv
        obtain ⟨b', hb', rfl⟩ := hp
        rw [hb, Option.some.injEq] at hb'; subst hb'
        exact .int _ _
      · unfold bytesPV at he
        obtain ⟨b, _, rfl⟩ := List.mem_map.1 he
        exact ⟨rfl, rfl⟩
    · cases h
  · obtain ⟨a, cap, rfl, hle, hrow⟩ := elems_rows hs hx h
    cases ys with
    | nil =>
      refine ⟨[], ⟨hkind, fun _ => rfl, ?_, ?_, by simp, fun u hu => by cases hu⟩, ⟨rfl, fun i v p hv => by simp at hv⟩, fun e he => by cases he⟩
      · cases a <;> simp [Builtin.firstCells, loadCells, loadCellsFrom]
      · cases a <;> simp [Builtin.firstCells, loadCells, loadCellsFrom]
    | cons y ys' =>
      obtain ⟨b, o, m, rfl, hm, hr⟩ := hrow (by simp)
      have hmn : m = n := by rw [← (hm y (by simp)).1]; exact hn' y (by simp)
      subst hmn
      generalize hys : y :: ys' = ys at *
      have hcut := Cut.flat hm
      have hrow2 : RowAt w.heap F σ H b o (ys.flatMap PV.cells) := by
        intro k c hk
        have hkl : k < ys.length * m := by rw [← hcut.2.1]; exact (List.getElem?_eq_some_iff.1 hk).1
        obtain ⟨h1, h2, h3⟩ := split_lt hkl
        have hz := hcut.2.2 (k / m) ys[k / m] (List.getElem?_eq_getElem h1) (k % m) h2
        rw [← h3, hk] at hz
        obtain ⟨u, hu, hrr⟩ := hr (k / m) _ (List.getElem?_eq_getElem h1) (k % m) c hz.symm
        refine ⟨u, ?_, hrr⟩
        rw [← hu]; congr 1; omega
      obtain ⟨f, h1, h2⟩ := hrow2.vals 0 (ys.flatMap PV.cells).length (by omega)
      rw [List.drop_zero, List.take_length] at h2
      have hlen : ((List.range (ys.flatMap PV.cells).length).map f).length = ys.length * m := by simp [hcut.2.1]
      refine ⟨(List.range (ys.flatMap PV.cells).length).map f, ?_, h2, hm⟩
      have hcell : ∀ j u, ((List.range (ys.flatMap PV.cells).length).map f)[j]? = some u → w.cell? ((⟨b, o, none⟩ : Addr).add j) = some u := fun j u hj => by
        simp only [List.getElem?_map, Option.map_eq_some_iff] at hj
        obtain ⟨j', hj', rfl⟩ := hj
        have hjl : j < (ys.flatMap PV.cells).length := by simpa using (List.getElem?_eq_some_iff.1 hj').1
        obtain rfl : j' = j := by rw [List.getElem?_range hjl] at hj'; simpa using hj'.symm
        have : (⟨b, o, none⟩ : Addr).add j' = ⟨b, o + j', none⟩ := by unfold Addr.add; split <;> simp_all
        rw [this, cell_eq]
        have := h1 j' hjl
        rwa [Nat.add_zero] at this
      have hone : (ys.flatMap PV.cells).all PV.one = true := by
        rw [List.all_eq_true]
        intro c hc
        obtain ⟨e, he, hce⟩ := List.mem_flatMap.1 hc
        exact List.all_eq_true.1 (hm e he).2 c hce
      exact ⟨hkind, fun _ => rfl, run_firstCells_some w m ys.length ⟨b, o, none⟩ ys.length cap _ hlen hcell, run_firstCells_some w.drew m ys.length ⟨b, o, none⟩ ys.length cap _ hlen (fun j u hj => by simpa using hcell j u hj), hlen, oneCells h2 hone⟩

/-- Nothing is appended. -/
theorem run_append_zero {t tx ty e : TypeId} {i : TypeInfo} (ht : P.underlying t = some (.slice e)) (hi : P.info? e = some i) {x : Value} (hs : Src P i.size tx x 0 [] w) (base : Option Addr) (len cap : Nat) (hle : len ≤ cap) :
    (Builtin.append_ #[t, tx] ty #[.slice base len cap, x]).run P w = .ok (.slice base len cap) w := by
  rcases hs.kind with ⟨e', hk⟩ | hk <;> cases base <;> simp [Builtin.append_, run_underlying ht, run_underlying hk, sizeOf, typeInfo, hi, hs.len, hle, hs.cells, storeCells]

/-- Elements laid in a row of cells. -/
theorem RowAt.of_cut {hp : Array Go.Obj} {vs : List Value} {es : List PV} {n : Nat} (hn : ∀ e ∈ es, e.cells.length = n ∧ e.cells.all PV.one = true) (h : RepL hp F σ H vs (es.flatMap PV.cells)) :
    ∀ (i : Nat) e, es[i]? = some e → ∀ (j : Nat) p, e.cells[j]? = some p → ∃ u, vs[i * n + j]? = some u ∧ Rep hp F σ H u p := by
  intro i e he j p hp'
  have hcut := Cut.flat hn
  have hjn : j < n := by have := (List.getElem?_eq_some_iff.1 hp').1; have := (hn e (List.mem_of_getElem? he)).1; omega
  have hfl := hcut.2.2 i e he j hjn
  rw [hp'] at hfl
  have hlt : i * n + j < vs.length := by
    rw [h.1, hcut.2.1]; exact mul_lt_of (List.getElem?_eq_some_iff.1 he).1 hjn
  exact ⟨_, List.getElem?_eq_getElem hlt, h.2 _ _ p (List.getElem?_eq_getElem hlt) hfl⟩
/-- The cells of an old row, read whole. -/
theorem rows_vals {b o n : Nat} {es : List PV} (hn : ∀ e ∈ es, e.cells.length = n ∧ e.cells.all PV.one = true) (hr : ∀ (i : Nat) e, es[i]? = some e → RowAt w.heap F σ H b (o + i * n) e.cells) :
    ∃ vs : List Value, RepL w.heap F σ H vs (es.flatMap PV.cells) ∧ vs.length = es.length * n ∧ ∀ j u, vs[j]? = some u → w.cell? ((⟨b, o, none⟩ : Addr).add j) = some u := by
  have hcut := Cut.flat hn
  have hrow2 : RowAt w.heap F σ H b o (es.flatMap PV.cells) := by
    intro k c hk
    have hkl : k < es.length * n := by rw [← hcut.2.1]; exact (List.getElem?_eq_some_iff.1 hk).1
    obtain ⟨h1, h2, h3⟩ := split_lt hkl
    have hz := hcut.2.2 (k / n) es[k / n] (List.getElem?_eq_getElem h1) (k % n) h2
    rw [← h3, hk] at hz
    obtain ⟨u, hu, hrr⟩ := hr (k / n) _ (List.getElem?_eq_getElem h1) (k % n) c hz.symm
    refine ⟨u, ?_, hrr⟩
    rw [← hu]; congr 1; omega
  obtain ⟨f, h1, h2⟩ := hrow2.vals 0 (es.flatMap PV.cells).length (by omega)
  rw [List.drop_zero, List.take_length] at h2
  refine ⟨_, h2, by simp [hcut.2.1], fun j u hj => ?_⟩
  simp only [List.getElem?_map, Option.map_eq_some_iff] at hj
  obtain ⟨j', hj', rfl⟩ := hj
  have hjl : j < (es.flatMap PV.cells).length := by simpa using (List.getElem?_eq_some_iff.1 hj').1
  obtain rfl : j' = j := by rw [List.getElem?_range hjl] at hj'; simpa using hj'.symm
  have : (⟨b, o, none⟩ : Addr).add j' = ⟨b, o + j', none⟩ := by unfold Addr.add; split <;> simp_all
  rw [this, cell_eq]
  have := h1 j' hjl
  rwa [Nat.add_zero] at this
theorem RepL.append {hp : Array Go.Obj} {vs us : List Value} {ps qs : List PV} (h : RepL hp F σ H vs ps) (k : RepL hp F σ H us qs) : RepL hp F σ H (vs ++ us) (ps ++ qs) := by
  refine ⟨by simp [h.1, k.1], fun i v p hv hp => ?_⟩
  rw [List.getElem?_append] at hv hp
  rw [← h.1] at hp
  split at hv
  · rename_i hi
    rw [if_pos hi] at hp
    exact h.2 i v p hv hp
  · rename_i hi
    rw [if_neg hi] at hp
    exact k.2 _ v p hv hp
theorem RepL.nil {hp : Array Go.Obj} : RepL hp F σ H [] [] := ⟨rfl, fun i v p hv => by simp at hv⟩
theorem OneBlock.same {b : Nat} {c : Array Value} {t : TypeId} {fr : Nat × Nat} (h : w.heap[b]? = some (.cells c t fr)) : OneBlock w w b c c t fr := ⟨rfl, rfl, rfl, rfl, fun _ _ => rfl, h, h, rfl⟩

theorem grownCap_ge (w : World) (need old : Nat) (e : TypeId) : need ≤ grownCap w need old e := by
  simp only [grownCap, Question.cut]
  exact Nat.le_add_right _ _
attribute [local irreducible] grownCap
theorem sizeAt_alloc (w : World) (c : Array Value) (t : TypeId) (fr : Nat × Nat) : sizeAt (w.alloc (.cells c t fr)).heap w.heap.size = c.size := by
  unfold sizeAt
  show (match (w.heap.push _)[w.heap.size]? with | some (.cells c _ _) => c.size | _ => 0) = _
  simp
/-- The new row of an append that grows. -/
theorem grow_row (fz : Nat) (hs : RelS w.heap F σ H) (a d : Nat) {es : List PV} {n : Nat} {vs : List Value} (rest : Array Value) (e : TypeId) (hn : ∀ x ∈ es, x.cells.length = n ∧ x.cells.all PV.one = true) (hr : RepL w.heap F σ H vs (es.flatMap PV.cells)) :
    Go_ w F σ H (w.drew.alloc (.cells (vs.toArray ++ rest) e)) F (σ.upd a d (w.heap.size, 0, n)) (H.set a d ⟨(H.get a d).ver + 1, fz, .arr es⟩) := by
  have h0 : Go_ w F σ H w.drew F σ H := Go_.drew hs _
  have hcut := Cut.flat hn
  refine h0.trans (new_row_fz (w := w.drew) fz h0.rel a d es n (vs.toArray ++ rest) e hn ?_ fun i x hx j p hp => ?_)
  · have := hr.1; rw [hcut.2.1] at this; simp; omega
  · obtain ⟨u, hu, hrr⟩ := RowAt.of_cut hn hr i x hx j p hp
    refine ⟨u, ?_, hrr⟩
    have hlt := (List.getElem?_eq_some_iff.1 hu).1
    rw [Array.getElem?_append_left (by simpa using hlt)]
    simpa using hu

theorem appendP_run (hs : RelS w.heap F σ H) {t tx ty : TypeId} {a d : Nat} {x y : Value} {p q r : PV} {H' : Heap} (hx : Rep w.heap F σ H x p) (hy : Rep w.heap F σ H y q) (h : appendP P t tx a d H p q = some (r, H')) :
    ∃ v w' σ', (Builtin.append_ #[t, tx] ty #[x, y]).run P w = .ok v w' ∧ Rep w'.heap F σ' H' v r ∧ Go_ w F σ H w' F σ' H' := by
  unfold appendP at h
  split at h
  · rename_i e hk
    have ht := kind_slice hk
    split at h
    · rename_i hks
      simp only [Option.bind_eq_some_iff] at h
      obtain ⟨s, hsz, h⟩ := h
      split at h
      · cases h
      · rename_i hok
        simp only [not_or] at hok
        obtain ⟨hs0, hby, hzn⟩ := hok
        simp only [Option.bind_eq_some_iff] at h
        obtain ⟨ys, hys, h⟩ := h
        obtain ⟨i, dd, hi, _, _, hsize⟩ := tyInfo_spec hsz
        obtain ⟨zv, hzv, hzl⟩ : ∃ zv, i.zero = some zv ∧ zv.cells.size = s.2 := by
          unfold zeroOk at hzn
          split at hzn
          · rename_i z hz
            obtain ⟨i', zv, hi2, hzv, hzc⟩ := tyZero_spec hz
            rw [hi, Option.some.injEq] at hi2; subst hi2
            have hr := ofConst_rep (F := F) (σ := σ) (H := H) (hp := w.heap) zv z hzc
            simp only [Bool.not_eq_false, Bool.and_eq_true, beq_iff_eq] at hzn
            have := (hr.cells hzn.1).1.1
            exact ⟨zv, hzv, by simp only [Array.length_toList] at this; omega⟩
          · simp at hzn
        have hbytes : i.bytes ≤ 1024 := by
          unfold tyBytes at hby; rw [hi] at hby; simpa using hby
        obtain ⟨g, n⟩ := s
        simp only at hsize hs0 h hys
        subst hsize
        unfold appendTo at h
        split at h
        · rename_i es
          split at h
          · rename_i hemp
            simp only [Option.some.injEq, Prod.mk.injEq] at h
            obtain ⟨rfl, rfl⟩ := h
            have hys0 : ys = [] := by simpa using hemp
            subst hys0
            obtain ⟨news, hsrc, hrep, _⟩ := src_rep hs hks hy hys rfl
            obtain rfl : news = [] := by have := hrep.1; simpa using this
            obtain ⟨ao, cap, rfl, hle, _⟩ := elems_rows hs (es := es) hx rfl
            exact ⟨_, w, σ, run_append_zero ht hi hsrc ao _ cap hle, hx, .refl hs⟩
          · rename_i hne
            split at h
            · rename_i hcond
              obtain ⟨hmax, hyc, hec⟩ := hcond
              simp only [Option.some.injEq, Prod.mk.injEq] at h
              obtain ⟨rfl, rfl⟩ := h
              have hne' : 0 < ys.length := by
                rcases ys with _ | ⟨y0, ys⟩
                · simp at hne
                · simp
              obtain ⟨news, hsrc, hrep, hyn⟩ := src_rep hs hks hy hys hyc
              obtain ⟨ao, cap, hxe, hle, hrow⟩ := elems_rows hs (es := es) hx rfl
              have hcap : cap = es.length := by
                cases hx with
                | empty a' c' f hf => cases hxe; simpa using hf rfl
                | slice b off m c' f es g hF hne hcap hf hn ho hc hr => cases hxe; exact hf rfl
              subst hxe
              have hen : ∀ x ∈ es, x.cells.length = i.size ∧ x.cells.all PV.one = true := by
                intro x hxm
                have h1 := List.all_eq_true.1 hec x hxm
                obtain ⟨_, _, _, _, h2, _⟩ := hrow (List.ne_nil_of_mem hxm)
                exact ⟨by simpa using h1, (h2 x hxm).2⟩
              obtain ⟨olds, hold, hfc⟩ : ∃ olds, RepL w.heap F σ H olds (es.flatMap PV.cells) ∧ (Builtin.firstCells i.size es.length (.slice ao es.length cap)).run P w.drew = .ok olds.toArray w.drew := by
                rcases es with _ | ⟨e0, es'⟩
                · refine ⟨[], RepL.nil, ?_⟩
                  cases ao <;> simp [Builtin.firstCells, loadCells, loadCellsFrom]
                · obtain ⟨b, o, m, rfl, h2, h3⟩ := hrow (by simp)
                  obtain rfl : m = i.size := by rw [← (h2 e0 (by simp)).1]; exact (hen e0 (by simp)).1
                  obtain ⟨vs, h4, h5, h6⟩ := rows_vals h2 h3
                  exact ⟨vs, h4, run_firstCells_some w.drew _ _ _ _ cap vs h5 fun j u hj => by simpa using h6 j u hj⟩
              have hcapfit := cap_fits (n := es.length + ys.length) (c := cap) (by omega) hmax hbytes
              have hrun := run_append_grow_src w t tx ty e i zv ht hi hzv ao es.length cap olds hfc y ys.length news hsrc (by omega) (row_63 hmax) hcapfit
              have hall : ∀ x ∈ es ++ ys, x.cells.length = i.size ∧ x.cells.all PV.one = true := fun x hx => (List.mem_append.1 hx).elim (hen x) (hyn x)
              have hgo := grow_row 0 hs a d (es := es ++ ys) (n := i.size) (vs := olds ++ news) (Builtin.zeroCells zv.cells (grownCap w (es.length + ys.length) cap e - (es.length + ys.length))) e hall (by rw [List.flatMap_append]; exact hold.append hrep)
              refine ⟨_, _, _, hrun, ?_, hgo⟩
              have := Rep.sref (hp := (w.drew.alloc (.cells ((olds ++ news).toArray ++ Builtin.zeroCells zv.cells (grownCap w (es.length + ys.length) cap e - (es.length + ys.length))) e)).heap) (F := F) (σ := σ.upd a d (w.heap.size, 0, i.size)) (H := H.newArr a d (es ++ ys)) a d 0 (es.length + ys.length) w.heap.size 0 i.size
                (grownCap w (es.length + ys.length) cap e) ⟨w.heap.size, 0, none⟩ (SMap.upd_same ..) ?_ (.inr (by simp)) ?_
              · simpa [Heap.newArr, Heap.get_set_same] using this
              · exact grownCap_ge w _ cap e
              · show _ ≤ sizeAt (w.drew.alloc _).heap w.drew.heap.size
                rw [sizeAt_alloc]
                have hl := (hold.append hrep).1
                rw [← List.flatMap_append, (Cut.flat hall).2.1] at hl
                simp only [List.length_append] at hl
                simp only [Array.size_append, List.size_toArray, List.length_append, Builtin.zeroCells, Array.size_map, Array.size_range, hzl]
                rw [Nat.zero_add, Nat.zero_add, hl, ← Nat.add_mul]
                have := grownCap_ge w (es.length + ys.length) cap e
                rw [show es.length + ys.length + (grownCap w (es.length + ys.length) cap e - (es.length + ys.length)) = grownCap w (es.length + ys.length) cap e by omega]
                exact Nat.le_refl _
            · cases h
        · rename_i a' d' ver m off len
          simp only [Option.bind_eq_some_iff] at h
          obtain ⟨es, hes, h⟩ := h
          split at h
          · rename_i hcond
            obtain ⟨rfl, hmax, hfz, hyc⟩ := hcond
            simp only [Option.some.injEq, Prod.mk.injEq] at h
            obtain ⟨rfl, rfl⟩ := h
            obtain ⟨news, hsrc, hrep, hyn⟩ := src_rep hs hks hy hys hyc
            unfold Heap.rows at hes
            simp only [Option.bind_eq_some_iff] at hes
            obtain ⟨all, hall, hes⟩ := hes
            split at hes
            · rename_i hle
              simp only [Option.some.injEq] at hes
              obtain ⟨rfl, hal, hb, b, base, n, c, tt, lo, hi', h1, h2, h3, h4, h5, h6, h7⟩ := hs.arr hall
              have hesl : es.length = len := by rw [← hes]; simp; omega
              cases hx with
              | srefOld x cap a d ver n off len hcp hlt => omega
              | sref _ _ _ _ b' base' n' cap x hs' hcap hx hz =>
                rw [h1] at hs'
                simp only [Option.some.injEq, Prod.mk.injEq] at hs'
                obtain ⟨rfl, rfl, rfl⟩ := hs'
                have hen : ∀ x ∈ es, x.cells.length = i.size ∧ x.cells.all PV.one = true := fun x hx => h5 x (by rw [← hes] at hx; exact List.drop_subset _ _ (List.take_subset _ _ hx))
                have hrow : ∀ (k : Nat) x, es[k]? = some x → RowAt w.heap F σ H b (base + off * i.size + k * i.size) x.cells := by
                  intro k x hk
                  have hk' : all[off + k]? = some x := by
                    rw [← hes, List.getElem?_take] at hk
                    split at hk
                    · rw [List.getElem?_drop] at hk; exact hk
                    · cases hk
                  have := h6 (off + k) x hk'
                  rw [show base + off * i.size + k * i.size = base + (off + k) * i.size by rw [Nat.add_mul]; omega]
                  exact this
                have hsz2 : sizeAt w.heap b = c.size := by unfold sizeAt; rw [h2]
                have hfz2 : ∀ o, base + off * i.size + ((H.get a' d').fz - off) * i.size ≤ o → ¬ (lo ≤ o ∧ o < hi') := fun o ho => h7 o (by
                  have : (H.get a' d').fz * i.size ≤ off * i.size + ((H.get a' d').fz - off) * i.size := by rw [← Nat.add_mul]; exact Nat.mul_le_mul_right _ (by omega)
                  omega)
                by_cases hroom : len + ys.length ≤ cap
                · -- there is room
                  have hcapz : base + off * i.size + cap * i.size ≤ c.size := by rw [← hsz2, Nat.add_assoc, ← Nat.add_mul]; exact hz
                  rcases Nat.eq_zero_or_pos ys.length with h0 | h0
                  · have hys0 : ys = [] := List.length_eq_zero_iff.1 h0
                    subst hys0
                    obtain rfl : news = [] := by have := hrep.1; simpa using this
                    have hrun := run_append_zero (ty := ty) ht hi hsrc (some x) len cap hcap
                    have hmv := move_row hs (a0 := a') (d0 := d') a d (es' := es) (base := base + off * i.size) (n := i.size) (fz := (H.get a' d').fz - off) hb h1 (OneBlock.same h2) hen (by
                      rw [hesl]
                      have : len * i.size ≤ cap * i.size := Nat.mul_le_mul_right _ hcap
                      omega) (fun k x hk j p hp => by
                        obtain ⟨u, hu, hr⟩ := hrow k x hk j p hp
                        exact ⟨u, by unfold cellOf at hu; rw [h2] at hu; exact hu, hr⟩) hfz2
                    refine ⟨_, w, _, hrun, ?_, by rw [List.append_nil]; exact hmv⟩
                    have := Rep.sref (hp := w.heap) (F := F) (σ := σ.upd a d (b, base + off * i.size, i.size)) (H := (H.kill a' d').set a d ⟨((H.kill a' d').get a d).ver + 1, (H.get a' d').fz - off, .arr es⟩) a d 0 len b (base + off * i.size) i.size
                      cap x (SMap.upd_same ..) hcap (hx.imp id fun h => by rw [h, Nat.zero_mul, Nat.add_zero]) (by rw [hsz2, Nat.zero_add]; exact hcapz)
                    simp only [Heap.get_set_same] at this
                    rw [List.append_nil]
                    exact this
                  · have hx' : x = ⟨b, base + off * i.size, none⟩ := hx.resolve_left (by omega)
                    subst hx'
                    have hnl : news.length = ys.length * i.size := hsrc.newsLen
                    have hroomz : base + off * i.size + len * i.size + news.length ≤ c.size := by
                      have : (len + ys.length) * i.size ≤ cap * i.size := Nat.mul_le_mul_right _ hroom
                      rw [Nat.add_mul] at this
                      omega
                    have hrun := run_append_room_src w t tx ty e i ht hi b (base + off * i.size) len cap y ys.length news hsrc hroom (fun j hj => by
                      rw [cell_eq]; unfold cellOf; rw [h2]
                      have : base + off * i.size + len * i.size + j < c.size := by omega
                      simp [this]) (fun j hj => by
                      have := h7 (base + off * i.size + len * i.size + j) (by
                        have : (H.get a' d').fz * i.size ≤ (off + len) * i.size := Nat.mul_le_mul_right _ hfz
                        rw [Nat.add_mul] at this
                        omega)
                      simp only [World.frozen?, h2, Bool.and_eq_false_iff, decide_eq_false_iff_not]
                      omega)
                    obtain ⟨c', hob, hc1, hc2⟩ := setCells_oneBlock b tt (lo, hi') news (base + off * i.size + len * i.size) w c h2
                    have hmv := move_row hs (a0 := a') (d0 := d') a d (es' := es ++ ys) (base := base + off * i.size) (n := i.size) (fz := (H.get a' d').fz - off) hb h1 hob (fun x hx => (List.mem_append.1 hx).elim (hen x) (hyn x)) (by
                      rw [List.length_append, hesl, Nat.add_mul, hob.sz]; omega) (fun k x hk j p hp => by
                        have hjn : j < i.size := by
                          have h8 := (List.getElem?_eq_some_iff.1 hp).1
                          have h9 := ((List.mem_append.1 (List.mem_of_getElem? hk)).elim (hen x) (hyn x)).1
                          omega
                        rw [List.getElem?_append] at hk
                        split at hk
                        · rename_i hkl
                          obtain ⟨u, hu, hr⟩ := hrow k x hk j p hp
                          refine ⟨u, ?_, hr⟩
                          have hlt := mul_lt_of (n := i.size) hkl hjn
                          rw [hesl] at hlt
                          rw [hc1 _ (.inl (by omega))]
                          unfold cellOf at hu; rw [h2] at hu; exact hu
                        · rename_i hkl
                          obtain ⟨u, hu, hr⟩ := RowAt.of_cut hyn hrep (k - es.length) x hk j p hp
                          refine ⟨u, ?_, hr⟩
                          have hul := (List.getElem?_eq_some_iff.1 hu).1
                          have hke : k * i.size = len * i.size + (k - es.length) * i.size := by rw [← Nat.add_mul]; congr 1; omega
                          rw [show base + off * i.size + k * i.size + j = base + off * i.size + len * i.size + ((k - es.length) * i.size + j) by omega, hc2 _ hul (by omega)]
                          exact hu) hfz2
                    refine ⟨_, _, _, hrun, ?_, hmv⟩
                    have := Rep.sref (hp := (w.setCells b (base + off * i.size + len * i.size) news).heap) (F := F) (σ := σ.upd a d (b, base + off * i.size, i.size)) (H := (H.kill a' d').set a d ⟨((H.kill a' d').get a d).ver + 1, (H.get a' d').fz - off, .arr (es ++ ys)⟩) a d 0 (len + ys.length) b (base + off * i.size) i.size
                      cap ⟨b, base + off * i.size, none⟩ (SMap.upd_same ..) hroom (.inr (by rw [Nat.zero_mul, Nat.add_zero])) (by rw [hob.sizeAt, hsz2, Nat.zero_add]; exact hcapz)
                    simpa only [Heap.get_set_same] using this
                · -- there is none
                  obtain ⟨olds, hold, hfc⟩ : ∃ olds, RepL w.heap F σ H olds (es.flatMap PV.cells) ∧ (Builtin.firstCells i.size len (.slice (some x) len cap)).run P w.drew = .ok olds.toArray w.drew := by
                    rcases Nat.eq_zero_or_pos len with h0 | h0
                    · have : es = [] := List.length_eq_zero_iff.1 (by omega)
                      subst this
                      subst h0
                      exact ⟨[], RepL.nil, by simp [Builtin.firstCells, loadCells, loadCellsFrom]⟩
                    · have hx' : x = ⟨b, base + off * i.size, none⟩ := hx.resolve_left (by omega)
                      subst hx'
                      obtain ⟨vs, h8, h9, h10⟩ := rows_vals hen hrow
                      exact ⟨vs, h8, run_firstCells_some w.drew _ _ _ _ cap vs (by rw [h9, hesl]) fun j u hj => by simpa using h10 j u hj⟩
                  have hcapfit := cap_fits (n := len + ys.length) (c := cap) (by omega) hmax hbytes
                  have hrun := run_append_grow_src w t tx ty e i zv ht hi hzv (some x) len cap olds hfc y ys.length news hsrc (by omega) (row_63 hmax) hcapfit
                  have hall2 : ∀ x ∈ es ++ ys, x.cells.length = i.size ∧ x.cells.all PV.one = true := fun x hx => (List.mem_append.1 hx).elim (hen x) (hyn x)
                  have hkill := kill_row hs a' d'
                  have hgo := grow_row ((H.get a' d').fz - off) hkill.rel a d (es := es ++ ys) (n := i.size) (vs := olds ++ news) (Builtin.zeroCells zv.cells (grownCap w (len + ys.length) cap e - (len + ys.length))) e hall2 (by
                    rw [List.flatMap_append]; exact (hold.ext hkill.ext).append (hrep.ext hkill.ext))
                  refine ⟨_, _, _, hrun, ?_, hkill.trans hgo⟩
                  have := Rep.sref (hp := (w.drew.alloc (.cells ((olds ++ news).toArray ++ Builtin.zeroCells zv.cells (grownCap w (len + ys.length) cap e - (len + ys.length))) e)).heap) (F := F) (σ := σ.upd a d (w.heap.size, 0, i.size))
                    (H := (H.kill a' d').set a d ⟨((H.kill a' d').get a d).ver + 1, (H.get a' d').fz - off, .arr (es ++ ys)⟩) a d 0 (len + ys.length) w.heap.size 0 i.size
                    (grownCap w (len + ys.length) cap e) ⟨w.heap.size, 0, none⟩ (SMap.upd_same ..) ?_ (.inr (by simp)) ?_
                  · simpa only [Heap.get_set_same] using this
                  · exact grownCap_ge w _ cap e
                  · show _ ≤ sizeAt (w.drew.alloc _).heap w.drew.heap.size
                    rw [sizeAt_alloc]
                    have hl := (hold.append hrep).1
                    rw [← List.flatMap_append, (Cut.flat hall2).2.1] at hl
                    simp only [List.length_append] at hl
                    simp only [Array.size_append, List.size_toArray, List.length_append, Builtin.zeroCells, Array.size_map, Array.size_range, hzl]
                    rw [Nat.zero_add, Nat.zero_add, hl, ← Nat.add_mul, hesl]
                    have := grownCap_ge w (len + ys.length) cap e
                    rw [show len + ys.length + (grownCap w (len + ys.length) cap e - (len + ys.length)) = grownCap w (len + ys.length) cap e by omega]
                    exact Nat.le_refl _
            · cases hes
          · cases h
        · cases h
    · cases h
  · cases h
end
end Go.V
