/- Making, indexing and fields of V are carried out by the machine. No condition. -/
import Derived.Test.YtdlkndnlpgmdaaaGreatVOps4
import Derived.Laws.BytesString
import Derived.Lib.Strings
/-! The simulation: the other operations, and the whole. -/
namespace Go.V
open Go Go.RowKit
set_option linter.unusedSimpArgs false
set_option linter.unusedVariables false

section
variable {P : Program} {w : World} {F : Nat → Prop} {σ : SMap} {H : Heap}

theorem makeSlice_run (hs : RelS w.heap F σ H) {t e : TypeId} {a d l c : Nat} {s : Bool × Nat} {z : PV} {kl kc : IntKind} (hk : tyKind P t = .slice e) (hsz : tyInfo P e = some s) (hz : tyZero P e = some z)
    (hlc : l ≤ c) (hc : c ≤ maxRow) (hv : z.isVal = true) (hzl : z.cells.length = s.2) (h0 : 0 < s.2) (hby : tyBytes P e ≤ 1024) :
    ∃ v w' σ', (Instr.makeSlice t (.int kl (l : Int)) (.int kc (c : Int))).run P w = .ok v w' ∧ Rep w'.heap F σ' (H.newArr a d (List.replicate l z)) v (.sref a d ((H.get a d).ver + 1) s.2 0 l) ∧ Go_ w F σ H w' F σ' (H.newArr a d (List.replicate l z)) := by
  obtain ⟨i, dd, hi, _, _, hsize⟩ := tyInfo_spec hsz
  obtain ⟨i', zv, hi2, hzv, hzc⟩ := tyZero_spec hz
  rw [hi, Option.some.injEq] at hi2; subst hi2
  have hr := ofConst_rep (F := F) (σ := σ) (H := H) (hp := w.heap) zv z hzc
  obtain ⟨hcl, hone⟩ := hr.cells hv
  have hbytes : i.bytes ≤ 1024 := by unfold tyBytes at hby; rw [hi] at hby; simpa using hby
  have hfit : (i.bytes : Int) * (c : Int) ≤ 281474976710656 := by
    have h1 : c ≤ 68719476736 := hc
    have h2 : i.bytes * c ≤ 1024 * 68719476736 := Nat.mul_le_mul hbytes h1
    have h3 : i.bytes * c ≤ 281474976710656 := Nat.le_trans h2 (by decide)
    rw [← Int.natCast_mul]
    exact Int.ofNat_le.2 h3
  have hrun := run_make (P := P) w t e i zv (kind_slice hk) hi hzv kl kc (l : Int) (c : Int) (by omega) (by omega) hfit (row_63 hc)
  simp only [Int.toNat_natCast] at hrun
  have hzr := zeros_rep hr hv c s.2 hzl h0
  have hsz2 : (madeCells zv.cells (c * i.size)).size = c * s.2 := by rw [size_madeCells, hsize]
  have hn : ∀ x ∈ List.replicate l z, x.cells.length = s.2 ∧ x.cells.all PV.one = true := fun x hx => by rw [List.eq_of_mem_replicate hx]; exact ⟨hzl, hone⟩
  have hgo := new_row hs a d (List.replicate l z) s.2 (madeCells zv.cells (c * i.size)) e hn (by rw [hsz2, List.length_replicate]; exact Nat.mul_le_mul_right _ hlc) (fun k x hk j p hp => by
    have hkl : k < l := by have := (List.getElem?_eq_some_iff.1 hk).1; simpa using this
    have hxz : x = z := List.eq_of_mem_replicate (List.mem_of_getElem? hk)
    subst hxz
    have hn2 : ∀ y ∈ List.replicate c x, y.cells.length = s.2 ∧ y.cells.all PV.one = true := fun y hy => by rw [List.eq_of_mem_replicate hy]; exact ⟨hzl, hone⟩
    obtain ⟨u, hu, hrr⟩ := RowAt.of_cut hn2 hzr k x (by simp [List.getElem?_replicate]; omega) j p hp
    refine ⟨u, ?_, hrr⟩
    rw [← hu]
    unfold madeCells
    rw [hsize, ← Array.getElem?_toList, Array.toList_map, Array.toList_range])
  refine ⟨_, _, _, hrun, ?_, hgo⟩
  have := Rep.sref (hp := (w.alloc (.cells (madeCells zv.cells (c * i.size)) e)).heap) (F := F) (σ := σ.upd a d (w.heap.size, 0, s.2)) (H := H.newArr a d (List.replicate l z)) a d 0 l w.heap.size 0 s.2 c ⟨w.heap.size, 0, none⟩ (SMap.upd_same ..) hlc (.inr (by simp))
    (by rw [sizeAt_alloc, hsz2]; simp)
  simpa [Heap.newArr, Heap.get_set_same] using this

theorem addr_add (b o k : Nat) : (⟨b, o, none⟩ : Addr).add k = ⟨b, o + k, none⟩ := by unfold Addr.add; split <;> simp_all

theorem indexAddrP_run {t : TypeId} {x y : Value} {p q r : PV} (hx : Rep w.heap F σ H x p) (hy : Rep w.heap F σ H y q) (h : indexAddrP P t p q = some r) :
    ∃ v, (Instr.indexAt t x y).run P w = .ok v w ∧ Rep w.heap F σ H v r := by
  unfold indexAddrP at h
  simp only [Option.bind_eq_some_iff] at h
  obtain ⟨i, hi, h⟩ := h
  obtain ⟨k, rfl⟩ := asNat_spec hy hi
  split at h
  · rename_i e f es hk
    simp only [Option.bind_eq_some_iff] at h
    obtain ⟨el, hel, s, hs, h⟩ := h
    split at h
    · rename_i hlen
      simp only [Option.some.injEq] at h; subst h
      have hil : i < es.length := (List.getElem?_eq_some_iff.1 hel).1
      cases hx with
      | empty => simp at hel
      | slice b off n cap f es g hF hne hcap hf hn ho hc hr =>
        have hnn : n = s.2 := by rw [← hn el (List.mem_of_getElem? hel), hlen]
        subst hnn
        refine ⟨.pointer (some ⟨b, off + i * s.2, none⟩), ?_, ?_⟩
        · simp [Instr.indexAt, asIntOf, run_underlying (kind_slice hk), hil, run_sizeOf' hs, addr_add]
        · have := Rep.cptr (hp := w.heap) (F := F) (σ := σ) (H := H) b (off + i * s.2) 0 el.cells (g i) hF (ho el (List.mem_of_getElem? hel)) (fun j hj => hc i el hel j (by omega)) (hr i el hel)
          exact this
    · cases h
  · rename_i e a d ver n off len hk
    split at h
    · rename_i hil
      simp only [Option.bind_eq_some_iff] at h
      obtain ⟨s, hs, h⟩ := h
      split at h
      · rename_i hn
        subst hn
        simp only [Option.some.injEq] at h; subst h
        cases hx with
        | srefOld x cap a d ver n off len hcp hlt =>
          refine ⟨.pointer (some (x.add (i * s.2))), ?_, .ptrOld _ a d ver _ _ hlt⟩
          simp [Instr.indexAt, asIntOf, run_underlying (kind_slice hk), hil, run_sizeOf' hs]
        | sref a d off len b base n cap x hσ hcap hx hz =>
          have hx' : x = ⟨b, base + off * s.2, none⟩ := hx.resolve_left (by omega)
          subst hx'
          refine ⟨.pointer (some ⟨b, base + (off + i) * s.2 + 0, none⟩), ?_, .ptr a d (off + i) 0 b base s.2 hσ⟩
          simp [Instr.indexAt, asIntOf, run_underlying (kind_slice hk), hil, run_sizeOf' hs, addr_add, Nat.add_mul, Nat.add_assoc]
      · cases h
    · cases h
  · rename_i n e a d ver idx off hk
    split at h
    · rename_i hil
      simp only [Option.map_eq_some_iff] at h
      obtain ⟨s, hs, rfl⟩ := h
      cases hx with
      | ptrOld x a d ver idx off hlt =>
        refine ⟨.pointer (some (x.add (i * s.2))), ?_, .ptrOld _ a d ver idx _ hlt⟩
        simp [Instr.indexAt, Instr.sureAddr, asIntOf, run_underlying (kind_array hk), hil, run_sizeOf' hs]
      | ptr a d idx off b base m hσ =>
        refine ⟨.pointer (some ⟨b, base + idx * m + (off + i * s.2), none⟩), ?_, .ptr a d idx (off + i * s.2) b base m hσ⟩
        simp [Instr.indexAt, Instr.sureAddr, asIntOf, run_underlying (kind_array hk), hil, run_sizeOf' hs, addr_add, Nat.add_assoc]
    · cases h
  · rename_i n e cs off hk
    split at h
    · rename_i hil
      simp only [Option.map_eq_some_iff] at h
      obtain ⟨s, hs, rfl⟩ := h
      cases hx with
      | cptr b o off cs g hF ho hc hr =>
        refine ⟨.pointer (some ⟨b, o + (off + i * s.2), none⟩), ?_, .cptr b o (off + i * s.2) cs g hF ho hc hr⟩
        simp [Instr.indexAt, Instr.sureAddr, asIntOf, run_underlying (kind_array hk), hil, run_sizeOf' hs, addr_add, Nat.add_assoc]
    · cases h
  · cases h

theorem fieldAddrP_run {t : TypeId} {f : Nat} {x : Value} {p r : PV} (hx : Rep w.heap F σ H x p) (h : fieldAddrP P t p f = some r) : ∃ v, (Instr.fieldAt t x f).run P w = .ok v w ∧ Rep w.heap F σ H v r := by
  unfold fieldAddrP at h
  simp only [Option.bind_eq_some_iff] at h
  obtain ⟨i, hi, h⟩ := h
  split at h
  · cases h
  · rename_i h0
    obtain ⟨fs, fd, hu, hf, ho, hinf⟩ := tyField_spec hi
    have hplace : ∀ a : Addr, (fieldPlace a fd).run P w = .ok (a.add i.1) w := fun a => by
      unfold fieldPlace
      simp only [Sem.run_bind, run_sizeOf' hinf, Result.andThen, h0, if_false, Sem.run_pure, ho]
    split at h
    · rename_i a d ver idx off
      simp only [Option.some.injEq] at h; subst h
      cases hx with
      | ptrOld x _ _ _ _ _ hlt =>
        exact ⟨.pointer (some (x.add i.1)), by simp only [Instr.fieldAt, Sem.run_bind, run_underlying hu, Result.andThen, hf, Instr.sureAddr, Sem.run_pure, hplace], .ptrOld _ a d ver idx _ hlt⟩
      | ptr _ _ _ _ b base n hσ =>
        refine ⟨.pointer (some ⟨b, base + idx * n + (off + i.1), none⟩), ?_, .ptr a d idx (off + i.1) b base n hσ⟩
        simp only [Instr.fieldAt, Sem.run_bind, run_underlying hu, Result.andThen, hf, Instr.sureAddr, Sem.run_pure, hplace, addr_add, Nat.add_assoc]
    · rename_i cs off
      simp only [Option.some.injEq] at h; subst h
      cases hx with
      | cptr b o _ _ g hF ho2 hc hr =>
        refine ⟨.pointer (some ⟨b, o + (off + i.1), none⟩), ?_, .cptr b o (off + i.1) cs g hF ho2 hc hr⟩
        simp only [Instr.fieldAt, Sem.run_bind, run_underlying hu, Result.andThen, hf, Instr.sureAddr, Sem.run_pure, hplace, addr_add, Nat.add_assoc]
    · cases h
theorem part_run {t : TypeId} {i : Bool × Nat} (ht : tyInfo P t = some i) {vs : List Value} {ps : List PV} {off : Nat} {p : PV} (h : RepL w.heap F σ H vs ps) (ho : ps.all PV.one = true) (hp : cellsPart i.1 i.2 ps off = some p) :
    ∃ v, (part t ⟨vs⟩ off).run P w = .ok v w ∧ Rep w.heap F σ H v p := by
  unfold cellsPart at hp
  split at hp
  · rename_i hg
    split at hp
    · rename_i hn
      simp only [Option.some.injEq] at hp; subst hp
      refine ⟨.agg ((⟨vs⟩ : Array Value).extract off (off + i.2)), ?_, ?_⟩
      · unfold part
        simp only [Sem.run_bind, run_isAgg' ht, Result.andThen, hg, if_true, run_sizeOf' ht, Sem.run_pure]
      · have e : ((⟨vs⟩ : Array Value).extract off (off + i.2)) = ⟨(vs.drop off).take i.2⟩ := by
          apply Array.ext'
          simp [List.extract_eq_take_drop]
        rw [e]
        refine .agg _ _ (by simp [h.1]) (by
          rw [List.all_eq_true] at ho ⊢
          exact fun x hx => ho x (List.drop_subset _ _ (List.take_subset _ _ hx))) fun k v q hv hq => ?_
        rw [List.getElem?_take] at hv hq
        split at hv
        · rename_i hk
          rw [if_pos hk] at hq
          rw [List.getElem?_drop] at hv hq
          exact h.2 _ v q hv hq
        · cases hv
    · cases hp
  · rename_i hg
    have hlt : off < vs.length := by rw [h.1]; exact (List.getElem?_eq_some_iff.1 hp).1
    refine ⟨vs[off], ?_, h.2 off _ p (List.getElem?_eq_getElem hlt) hp⟩
    unfold part
    simp only [Sem.run_bind, run_isAgg' ht, Result.andThen, hg, Bool.false_eq_true, if_false]
    simp [hlt]
theorem fieldP_run {t : TypeId} {f : Nat} {x : Value} {p r : PV} (hx : Rep w.heap F σ H x p) (h : fieldP P t p f = some r) : ∃ v, (Instr.field t x f).run P w = .ok v w ∧ Rep w.heap F σ H v r := by
  unfold fieldP at h
  simp only [Option.bind_eq_some_iff] at h
  obtain ⟨i, hi, h⟩ := h
  obtain ⟨fs, fd, hu, hf, ho, hinf⟩ := tyField_spec hi
  split at h
  · cases hx with
    | agg vs ps hl hone hr =>
      obtain ⟨v, h1, h2⟩ := part_run hinf ⟨hl, hr⟩ hone h
      exact ⟨v, by simp only [Instr.field, Sem.run_bind, run_underlying hu, Result.andThen, hf, asAgg, Sem.run_pure, ho]; exact h1, h2⟩
  · cases h
theorem indexP_run {t : TypeId} {x y : Value} {p q r : PV} (hx : Rep w.heap F σ H x p) (hy : Rep w.heap F σ H y q) (h : indexP P t p q = some r) : ∃ v, (Instr.index t x y).run P w = .ok v w ∧ Rep w.heap F σ H v r := by
  unfold indexP at h
  simp only [Option.bind_eq_some_iff] at h
  obtain ⟨i, hi, h⟩ := h
  obtain ⟨k, rfl⟩ := asNat_spec hy hi
  split at h
  · rename_i s hk
    simp only [Option.map_eq_some_iff] at h
    obtain ⟨b, hb, rfl⟩ := h
    have hxs := hx.str_inv
    subst hxs
    refine ⟨_, ?_, .int _ _⟩
    have hlt := (List.getElem?_eq_some_iff.1 hb).1
    have hget : (⟨⟨s⟩⟩ : ByteArray)[i]? = some b := by
      rw [getElem?_pos (⟨⟨s⟩⟩ : ByteArray) i hlt]
      exact congrArg some (List.getElem?_eq_some_iff.1 hb).2
    simp only [Instr.index, asIntOf, Sem.run_bind, Sem.run_pure, Result.andThen, run_underlying (kind_str hk)]
    rw [if_pos (by omega)]
    simp only [Int.toNat_natCast, hget, Sem.run_pure]
  · rename_i n e cs hk
    split at h
    · rename_i hil
      simp only [Option.bind_eq_some_iff] at h
      obtain ⟨s, hs, h⟩ := h
      cases hx with
      | agg vs ps hl hone hr =>
        obtain ⟨v, h1, h2⟩ := part_run hs ⟨hl, hr⟩ hone h
        refine ⟨v, ?_, h2⟩
        simp only [Instr.index, asIntOf, Sem.run_bind, Sem.run_pure, Result.andThen, run_underlying (kind_array hk)]
        rw [if_pos (by omega)]
        simp only [Sem.run_bind, run_sizeOf' hs, Result.andThen, Int.toNat_natCast]
        exact h1
    · cases h
  · cases h

/-! ### Slicing -/
def RepO (hp : Array Go.Obj) (F : Nat → Prop) (σ : SMap) (H : Heap) : Option Value → Option PV → Prop
  | none, none => True
  | some v, some p => Rep hp F σ H v p
  | _, _ => False
theorem sliceBound_run {v : Value} {p : PV} {i y : Nat} (hr : Rep w.heap F σ H v p) (h : asNat? p = some i) (hy : i ≤ y) (code : BoundsCode) : (Instr.sliceBound v y code).run P w = .ok i w := by
  obtain ⟨k, rfl⟩ := asNat_spec hr h
  simp only [Instr.sliceBound, asIntOf, Sem.run_bind, Sem.run_pure, Result.andThen]
  rw [if_pos (by omega)]
  simp
theorem sliceBounds_run {lo hi : Option Value} {pl ph : Option PV} {l h len cap : Nat} (hl : RepO w.heap F σ H lo pl) (hh : RepO w.heap F σ H hi ph) (bl : bound? pl 0 = some l) (bh : bound? ph len = some h) (h1 : l ≤ h) (h2 : h ≤ cap) (b : Bool) :
    (Instr.sliceBounds b len cap lo hi none).run P w = .ok (l, h, cap) w := by
  unfold Instr.sliceBounds
  cases hi with
  | none =>
    cases ph with
    | some p => exact hh.elim
    | none =>
      simp only [bound?, Option.some.injEq] at bh; subst bh
      cases lo with
      | none =>
        cases pl with
        | some p => exact hl.elim
        | none => simp only [bound?, Option.some.injEq] at bl; subst bl; simp
      | some v =>
        cases pl with
        | none => exact hl.elim
        | some p => simp [sliceBound_run hl bl h1]
  | some u =>
    cases ph with
    | none => exact hh.elim
    | some q =>
      cases lo with
      | none =>
        cases pl with
        | some p => exact hl.elim
        | none => simp only [bound?, Option.some.injEq] at bl; subst bl; simp [sliceBound_run hh bh h2]
      | some v =>
        cases pl with
        | none => exact hl.elim
        | some p => simp [sliceBound_run hh bh h2, sliceBound_run hl bl h1]
theorem sliceBounds_run3 {lo : Option Value} {u m : Value} {pl : Option PV} {q qm : PV} {l h mm len cap : Nat} (hl : RepO w.heap F σ H lo pl) (hh : Rep w.heap F σ H u q) (hm : Rep w.heap F σ H m qm) (bl : bound? pl 0 = some l) (bh : asNat? q = some h) (bm : asNat? qm = some mm)
    (h1 : l ≤ h) (h2 : h ≤ mm) (h3 : mm ≤ cap) (b : Bool) : (Instr.sliceBounds b len cap lo (some u) (some m)).run P w = .ok (l, h, mm) w := by
  unfold Instr.sliceBounds
  cases lo with
  | none =>
    cases pl with
    | some p => exact hl.elim
    | none => simp only [bound?, Option.some.injEq] at bl; subst bl; simp [sliceBound_run hm bm h3, sliceBound_run hh bh h2]
  | some v =>
    cases pl with
    | none => exact hl.elim
    | some p => simp [sliceBound_run hm bm h3, sliceBound_run hh bh h2, sliceBound_run hl bl h1]

theorem slice_part {a : Option Addr} {f : Bool} {es : List PV} {cap l h n : Nat} (hx : Rep w.heap F σ H (.slice a es.length cap) (.slice f es)) (hn : allCells n es = true) (h1 : l ≤ h) (h2 : h ≤ es.length) (m : Nat) (hm : h ≤ m) (g : Bool) (hg : g = true → m = h) (hmc : m ≤ cap) :
    Rep w.heap F σ H (.slice (if m = l then a else a.map (·.add (l * n))) (h - l) (m - l)) (.slice g ((es.drop l).take (h - l))) := by
  have hlen : ((es.drop l).take (h - l)).length = h - l := by simp; omega
  rcases Nat.eq_or_lt_of_le h1 with h0 | h0
  · subst h0
    simp only [Nat.sub_self, List.take_zero]
    exact .empty _ _ g fun hgt => by have := hg hgt; omega
  · generalize hel : es.length = el at hx
    cases hx with
    | empty => simp at h2; omega
    | slice b off k cap f es gg hF hne hcap hf hnn ho hc hr =>
      have hk : k = n := by
        rcases es with _ | ⟨e, es'⟩
        · exact absurd rfl hne
        · have h3 := List.all_eq_true.1 hn e (by simp)
          have h4 := hnn e (by simp)
          simp only [beq_iff_eq] at h3
          omega
      subst hk
      rw [if_neg (by omega)]
      simp only [Option.map_some, addr_add]
      have hsub : ∀ (i : Nat) e, ((es.drop l).take (h - l))[i]? = some e → es[l + i]? = some e := fun i e he => by
        rw [List.getElem?_take] at he
        split at he
        · rw [List.getElem?_drop] at he; exact he
        · cases he
      have := Rep.slice (hp := w.heap) (F := F) (σ := σ) (H := H) b (off + l * k) k (m - l) g ((es.drop l).take (h - l)) (fun i j => gg (l + i) j) hF (by intro he; rw [he] at hlen; simp at hlen; omega) (by omega) (fun hgt => by have := hg hgt; omega)
        (fun e he => hnn e (List.drop_subset _ _ (List.take_subset _ _ he))) (fun e he => ho e (List.drop_subset _ _ (List.take_subset _ _ he)))
        (fun i e he j hj => by
          have := hc (l + i) e (hsub i e he) j hj
          rw [show off + l * k + i * k + j = off + (l + i) * k + j by rw [Nat.add_mul]; omega]
          exact this) (fun i e he j p hp => hr (l + i) e (hsub i e he) j p hp)
      rw [hlen] at this
      exact this
end
end Go.V
