/- What a row reads of an argument is a V value of the type. No condition. -/
import Derived.Test.YtdlkndnlpgmdaaaGreatVSound4
import Derived.ChangeArms
import Derived.DataReads
import Derived.WideShapes
import Derived.ChangeShapes
/-! From a row's reading of an argument to a V value. -/
namespace Go.V
open Go Go.WideShapes
set_option linter.unusedSimpArgs false
set_option linter.unusedVariables false

/-- The fields' cells lie one behind the other. -/
def tiled (P : Program) : Nat → List Field → Nat → Bool
  | o, [], n => o == n
  | o, f :: fs, n => f.offset == o && tiled P (o + P.cellsOf f.type) fs n
/-- A type of whole numbers, bools, strings, slices and structs over types of a list. -/
def plain1 (P : Program) (S : List TypeId) (t : TypeId) : Bool :=
  match P.underlying t with
  | some .bool | some (.int _) | some .string => P.cellsOf t == 1
  | some (.slice e) => P.cellsOf t == 1 && decide (0 < P.cellsOf e) && S.contains e
  | some (.struct fs) => tiled P 0 fs.toList (P.cellsOf t) && fs.toList.all fun f => S.contains f.type
  | _ => false
/-- Types of whole numbers, bools, strings, slices and structs: all that it is made of lies in the list. -/
def plainTy (P : Program) (S : List TypeId) (t : TypeId) : Bool := S.contains t && S.all (plain1 P S)
theorem plainTy_in {P : Program} {S : List TypeId} {t u : TypeId} (h : plainTy P S t = true) (hu : S.contains u = true) : plainTy P S u = true := by
  unfold plainTy at *
  simp only [Bool.and_eq_true] at *
  exact ⟨hu, h.2⟩
theorem plainTy_one {P : Program} {S : List TypeId} {t : TypeId} (h : plainTy P S t = true) : plain1 P S t = true := by
  unfold plainTy at h
  simp only [Bool.and_eq_true, List.all_eq_true] at h
  exact h.2 t (by simpa using h.1)
def isStruct (P : Program) (t : TypeId) : Bool := match P.underlying t with | some (.struct _) => true | _ => false
/-- The value of a type, out of its cells. -/
def valOf (P : Program) (t : TypeId) (qs : List PV) (p : PV) : Prop := if isStruct P t then p = .agg qs else qs = [p]

/-- The cells of a value of a type. -/
inductive HasCs (P : Program) : TypeId → List PV → Prop
  | bool {t : TypeId} (hu : P.underlying t = some .bool) (b : Bool) : HasCs P t [.bool b]
  | int {t : TypeId} {k : IntKind} (hu : P.underlying t = some (.int k)) (n : Int) (h1 : k.min ≤ n) (h2 : n ≤ k.max) : HasCs P t [.int k n]
  | str {t : TypeId} (hu : P.underlying t = some .string) (s : List UInt8) (h : s.length ≤ maxLen) : HasCs P t [.str s]
  | slice {t e : TypeId} (hu : P.underlying t = some (.slice e)) (es : List PV) (h : es.length ≤ maxLen) (hv : ∀ x ∈ es, x.cells.length = P.cellsOf e ∧ (isStruct P e = true → ∃ cs, x = .agg cs) ∧ (isStruct P e = false → x.one = true))
      (hc : ∀ x ∈ es, HasCs P e x.cells) : HasCs P t [.slice false es]
  | struct {t : TypeId} {fs : Array Field} (hu : P.underlying t = some (.struct fs)) (qs : List PV) (css : List (List PV)) (hl : css.length = fs.toList.length) (hq : qs = css.flatten)
      (hc : ∀ (i : Nat) f cs, fs.toList[i]? = some f → css[i]? = some cs → HasCs P f.type cs) : HasCs P t qs

section
variable {H : Type} {enc : TypeId × Value → H} {P : Program} {w : World} {base : Nat} {spare : Nat → Bool} {held : Bool}

theorem list_choose {α β : Type} {R : Nat → α → β → Prop} : ∀ (l : List α), (∀ (i : Nat) a, l[i]? = some a → ∃ b, R i a b) → ∃ bs : List β, bs.length = l.length ∧ ∀ (i : Nat) a b, l[i]? = some a → bs[i]? = some b → R i a b
  | [], _ => ⟨[], rfl, fun i a b h => by simp at h⟩
  | a :: l, h => by
    obtain ⟨b, hb⟩ := h 0 a rfl
    obtain ⟨bs, h1, h2⟩ := list_choose (R := fun i => R (i + 1)) l fun i a hi => h (i + 1) a (by simpa using hi)
    refine ⟨b :: bs, by simp [h1], fun i x y hx hy => ?_⟩
    cases i with
    | zero => simp at hx hy; subst hx hy; exact hb
    | succ i => simp at hx hy; exact h2 i x y hx hy

theorem tiled_cut {hp : Array Go.Obj} {F : Nat → Prop} : ∀ (fs : List Field) (css : List (List PV)) (o n : Nat) (cs : List Value), tiled P o fs n = true → css.length = fs.length → cs.length = n - o → o ≤ n →
    (∀ (i : Nat) f ps, fs[i]? = some f → css[i]? = some ps → ps.length = P.cellsOf f.type ∧ RepL hp F nosig Heap.empty ((cs.drop (f.offset - o)).take (P.cellsOf f.type)) ps) → RepL hp F nosig Heap.empty cs css.flatten
  | [], css, o, n, cs, ht, hl, hc, ho, h => by
    simp [tiled] at ht
    have : css = [] := List.length_eq_zero_iff.1 (by simpa using hl)
    subst this
    have : cs = [] := List.length_eq_zero_iff.1 (by omega)
    subst this
    exact ⟨rfl, fun i v p hv => by simp at hv⟩
  | f :: fs, [], o, n, cs, ht, hl, hc, ho, h => by simp at hl
  | f :: fs, ps :: css, o, n, cs, ht, hl, hc, ho, h => by
    simp only [tiled, Bool.and_eq_true, beq_iff_eq] at ht
    obtain ⟨h1, h2⟩ := h 0 f ps rfl rfl
    rw [ht.1, Nat.sub_self, List.drop_zero] at h2
    have hle : P.cellsOf f.type ≤ cs.length := by
      have := h2.1
      rw [h1, List.length_take] at this
      omega
    have hrest := tiled_cut fs css (o + P.cellsOf f.type) n (cs.drop (P.cellsOf f.type)) ht.2 (by simpa using hl) (by simp; omega) (by omega) fun i g qs hi hq => by
      have := h (i + 1) g qs (by simpa using hi) (by simpa using hq)
      refine ⟨this.1, ?_⟩
      have hge : ∀ (fs : List Field) (o : Nat), tiled P o fs n = true → ∀ (i : Nat) g, fs[i]? = some g → o ≤ g.offset := by
        intro fs
        induction fs with
        | nil => intro o _ i g hi; simp at hi
        | cons f fs ih =>
          intro o ht i g hi
          simp only [tiled, Bool.and_eq_true, beq_iff_eq] at ht
          cases i with
          | zero => simp at hi; subst hi; omega
          | succ i => have := ih _ ht.2 i g (by simpa using hi); omega
      have hg := hge fs _ ht.2 i g hi
      rw [List.drop_drop, show P.cellsOf f.type + (g.offset - (o + P.cellsOf f.type)) = g.offset - o by omega]
      exact this.2
    rw [List.flatten_cons, show cs = cs.take (P.cellsOf f.type) ++ cs.drop (P.cellsOf f.type) by simp]
    exact h2.append hrest

theorem trod_rep {S : List TypeId} : ∀ (fuel : Nat) (t : TypeId) (cs : List Value) (x : DataW H × List MemPlace), plainTy P S t = true → DataW.trod enc P w base spare held fuel t cs = some x →
    ∃ qs, RepL w.heap (fun b => b < w.heap.size) nosig Heap.empty cs qs ∧ qs.all PV.one = true ∧ HasCs P t qs ∧ qs.length = P.cellsOf t ∧ (isStruct P t = false → qs.length = 1)
  | 0, t, cs, x, hp, h => by simp [DataW.trod] at h
  | fuel + 1, t, cs, x, hpt, h => by
    have hp := plainTy_one hpt
    have single : ∀ {v : Value} {p : PV}, Rep w.heap (fun b => b < w.heap.size) nosig Heap.empty v p → RepL w.heap (fun b => b < w.heap.size) nosig Heap.empty [v] [p] := fun {v p} hr => ⟨rfl, fun i u q hu hq => by
      cases i with
      | zero => simp at hu hq; subst hu hq; exact hr
      | succ i => simp at hu⟩
    unfold plain1 at hp
    split at hp
    · rename_i hu
      obtain ⟨b, rfl, _⟩ := DataW.trod_bool hu h
      exact ⟨[.bool b], single (.bool b), rfl, .bool hu b, by simpa using (beq_iff_eq.1 hp).symm, fun _ => rfl⟩
    · rename_i ik hu
      obtain ⟨n, rfl, _, hw⟩ := DataW.trod_int hu h
      simp only [Lit.wf, Bool.and_eq_true, decide_eq_true_eq] at hw
      exact ⟨[.int ik n], single (.int ik n), rfl, .int hu n hw.1 hw.2, by simpa using (beq_iff_eq.1 hp).symm, fun _ => rfl⟩
    · rename_i hu
      obtain ⟨⟨⟨s⟩⟩, rfl, _, hs⟩ := DataW.trod_string hu h
      exact ⟨[.str s], single (.str s), rfl, .str hu s hs, by simpa using (beq_iff_eq.1 hp).symm, fun _ => rfl⟩
    · rename_i e hu
      simp only [Bool.and_eq_true, beq_iff_eq, decide_eq_true_eq] at hp
      obtain ⟨⟨h1, h0⟩, hpe⟩ := hp
      rcases DataW.trod_slice hu h with ⟨rfl, _⟩ | ⟨a, len, cap, elems, rest, n, hfu, rfl, _, hb, hl, hm, hlen, hel, _, _⟩
      · exact ⟨[.slice false []], single (.empty none 0 false fun h => by cases h), rfl, .slice hu [] (Nat.zero_le _) (fun x hx => by cases hx) (fun x hx => by cases hx), by simpa using h1.symm, fun _ => rfl⟩
      · have hone : ∀ (i : Nat) y, elems[i]? = some y → ∃ es : List PV, ∃ vs, w.cells? base (a.add (i * P.cellsOf e)) (P.cellsOf e) = some vs ∧ RepL w.heap (fun b => b < w.heap.size) nosig Heap.empty vs es ∧ es.all PV.one = true ∧ HasCs P e es ∧ es.length = P.cellsOf e ∧ (isStruct P e = false → es.length = 1) := by
          intro i y hy
          have hi : i < len := by rw [← hlen]; exact (List.getElem?_eq_some_iff.1 hy).1
          have := hel i hi
          rw [hy] at this
          simp only [Option.bind_eq_some_iff] at this
          obtain ⟨vs, hvs, ht⟩ := this
          obtain rfl : n = fuel := by omega
          obtain ⟨es, h2, h3, h4, h5, h6⟩ := trod_rep n e vs y (plainTy_in hpt hpe) ht
          exact ⟨es, vs, hvs, h2, h3, h4, h5, h6⟩
        obtain ⟨ess, hesl, hes⟩ := list_choose elems hone
        -- the elements as values
        let mk : List PV → PV := fun qs => if isStruct P e then .agg qs else qs.headD .void
        have hmk : ∀ qs : List PV, qs.all PV.one = true → (isStruct P e = false → qs.length = 1) → (mk qs).cells = qs ∧ (isStruct P e = true → ∃ cs, mk qs = .agg cs) ∧ (isStruct P e = false → (mk qs).one = true) := by
          intro qs ho h1
          cases hst : isStruct P e with
          | true => simp only [mk, hst, if_true]; exact ⟨rfl, fun _ => ⟨qs, rfl⟩, fun h => by cases h⟩
          | false =>
            have hl1 := h1 hst
            match qs, hl1 with
            | [q], _ =>
              have hq : q.one = true := by simpa using ho
              simp only [mk, hst, Bool.false_eq_true, if_false, List.headD_cons]
              exact ⟨PV.cells_one hq, (fun h => by cases h), fun _ => hq⟩
        have hess : ∀ (i : Nat) es, ess[i]? = some es → ∃ vs, w.cells? base (a.add (i * P.cellsOf e)) (P.cellsOf e) = some vs ∧ RepL w.heap (fun b => b < w.heap.size) nosig Heap.empty vs es ∧ es.all PV.one = true ∧ HasCs P e es ∧ es.length = P.cellsOf e ∧ (isStruct P e = false → es.length = 1) := by
          intro i es hi
          have hlt : i < elems.length := by rw [← hesl]; exact (List.getElem?_eq_some_iff.1 hi).1
          exact hes i _ es (List.getElem?_eq_getElem hlt) hi
        have hlen2 : (ess.map mk).length = len := by simp [hesl, hlen]
        have hmem : ∀ x ∈ ess.map mk, ∃ (i : Nat) (es : List PV), ess[i]? = some es ∧ x = mk es := fun x hx => by
          obtain ⟨es, he, rfl⟩ := List.mem_map.1 hx
          obtain ⟨i, hi⟩ := List.mem_iff_getElem?.1 he
          exact ⟨i, es, hi, rfl⟩
        have hcells : ∀ x ∈ ess.map mk, x.cells.length = P.cellsOf e ∧ x.cells.all PV.one = true ∧ HasCs P e x.cells ∧ (isStruct P e = true → ∃ cs, x = .agg cs) ∧ (isStruct P e = false → x.one = true) := fun x hx => by
          obtain ⟨i, es, hi, rfl⟩ := hmem x hx
          obtain ⟨vs, _, _, h3, h4, h5, h6⟩ := hess i es hi
          obtain ⟨h7, h8, h9⟩ := hmk es h3 h6
          rw [h7]
          exact ⟨h5, h3, h4, h8, h9⟩
        refine ⟨[.slice false (ess.map mk)], single ?_, rfl, .slice hu _ (by rw [hlen2]; omega) (fun x hx => ⟨(hcells x hx).1, (hcells x hx).2.2.2⟩) (fun x hx => (hcells x hx).2.2.1), by simpa using h1.symm, fun _ => rfl⟩
        rcases Nat.eq_zero_or_pos len with hz | hz
        · subst hz
          have : ess.map mk = [] := List.length_eq_zero_iff.1 hlen2
          rw [this]
          exact .empty (some a) cap false fun h => by cases h
        · -- the first cell tells that the address is plain
          obtain ⟨b, o, spot⟩ := a
          have hsp : spot = none ∧ b < w.heap.size := by
            have hlt : 0 < ess.length := by rw [hesl, hlen]; exact hz
            obtain ⟨vs, hvs, hrl, _, _, h5, _⟩ := hess 0 _ (List.getElem?_eq_getElem hlt)
            obtain ⟨_, hvl, hc⟩ := World.cells?_some hvs
            have := hc 0 h0
            simp only [Nat.zero_mul, Addr.add, if_true] at this
            rw [List.getElem?_eq_getElem (by omega)] at this
            unfold World.cell? at this
            split at this
            · rename_i c _ _ hb'
              refine ⟨?_, (Array.getElem?_eq_some_iff.1 hb').1⟩
              cases spot with
              | none => rfl
              | some s => simp at this
            · cases this
          obtain ⟨rfl, hbl⟩ := hsp
          conv => arg 5; rw [← hlen2]
          have hrow : ∀ (i : Nat) x, (ess.map mk)[i]? = some x → RowAt w.heap (fun b => b < w.heap.size) nosig Heap.empty b (o + i * P.cellsOf e) x.cells := fun i x hx j p hj => by
            rw [List.getElem?_map, Option.map_eq_some_iff] at hx
            obtain ⟨es, he, rfl⟩ := hx
            obtain ⟨vs, hvs, hrl, h3, _, h5, h6⟩ := hess i es he
            rw [(hmk es h3 h6).1] at hj
            obtain ⟨_, hvl, hc⟩ := World.cells?_some hvs
            have hjl : j < P.cellsOf e := by rw [← h5]; exact (List.getElem?_eq_some_iff.1 hj).1
            have hjv : j < vs.length := by omega
            refine ⟨vs[j], ?_, hrl.2 j _ p (List.getElem?_eq_getElem hjv) hj⟩
            have := hc j hjl
            rw [addr_add, addr_add, cell_eq, List.getElem?_eq_getElem hjv] at this
            exact this
          refine .slice b o (P.cellsOf e) cap false _ (fun i j => (cellOf w.heap b (o + i * P.cellsOf e + j)).getD undef) hbl (fun h => by rw [h] at hlen2; simp at hlen2; omega) (by rw [hlen2]; exact hl) (fun h => by cases h)
            (fun x hx => (hcells x hx).1) (fun x hx => (hcells x hx).2.1) ?_ ?_
          · intro i x hx j hj
            have hlt : j < x.cells.length := by rw [(hcells x (List.mem_of_getElem? hx)).1]; exact hj
            obtain ⟨u, hu, _⟩ := hrow i x hx j _ (List.getElem?_eq_getElem hlt)
            rw [hu]; rfl
          · intro i x hx j p hp'
            obtain ⟨u, hu, hr⟩ := hrow i x hx j p hp'
            rw [hu]
            exact hr
    · rename_i fs hu
      simp only [Bool.and_eq_true, List.all_eq_true] at hp
      obtain ⟨xs, n, hfu, _, hl, hxl, hx⟩ := DataW.trod_struct hu h
      have hone : ∀ (i : Nat) f, fs.toList[i]? = some f → ∃ qs : List PV, RepL w.heap (fun b => b < w.heap.size) nosig Heap.empty ((cs.drop f.offset).take (P.cellsOf f.type)) qs ∧ qs.all PV.one = true ∧ HasCs P f.type qs ∧ qs.length = P.cellsOf f.type := by
        intro i f hi
        have hlt : i < xs.length := by rw [hxl]; simpa using (List.getElem?_eq_some_iff.1 hi).1
        have := hx i f (by simpa using hi)
        rw [List.getElem?_eq_getElem hlt] at this
        obtain rfl : n = fuel := by omega
        obtain ⟨qs, h2, h3, h4, h5, _⟩ := trod_rep n f.type _ _ (plainTy_in hpt (hp.2 f (List.mem_of_getElem? hi))) this
        exact ⟨qs, h2, h3, h4, h5⟩
      obtain ⟨css, h1, h2⟩ := list_choose fs.toList hone
      have hr := tiled_cut (hp := w.heap) (F := fun b => b < w.heap.size) fs.toList css 0 (P.cellsOf t) cs hp.1 h1 (by simpa using hl) (Nat.zero_le _) fun i f ps hi hq => ⟨(h2 i f ps hi hq).2.2.2, by simpa using (h2 i f ps hi hq).1⟩
      refine ⟨css.flatten, hr, ?_, .struct hu _ css h1 rfl fun i f qs hi hq => (h2 i f qs hi hq).2.2.1, by rw [← hr.1, hl], fun h => by simp [isStruct, hu] at h⟩
      rw [List.all_eq_true]
      intro p hp'
      obtain ⟨qs, hq, hpq⟩ := List.mem_flatten.1 hp'
      obtain ⟨i, hi⟩ := List.mem_iff_getElem?.1 hq
      have hlt : i < fs.toList.length := by rw [← h1]; exact (List.getElem?_eq_some_iff.1 hi).1
      have := (h2 i _ qs (List.getElem?_eq_getElem hlt) hi).2.1
      rw [List.all_eq_true] at this
      exact this p hpq
    · cases hp

/-- A value of a type. -/
def HasTy (P : Program) (t : TypeId) (p : PV) : Prop := HasCs P t p.cells ∧ (isStruct P t = true → ∃ cs, p = .agg cs) ∧ (isStruct P t = false → p.one = true)

/-- **An argument that a row reads is a V value.** -/
theorem read_arg {S : List TypeId} {t : TypeId} {v : Value} {d : DataW H} {ps : List MemPlace} {r : Reach} {b0 : Nat} (hp : plainTy P S t = true) (hval : Value.okWide P w r b0 t v) (h : DataW.Trod enc P w base spare held t v d ps) :
    ∃ p, Rep w.heap (fun b => b < w.heap.size) nosig Heap.empty v p ∧ HasTy P t p := by
  obtain ⟨fuel, h⟩ := h
  obtain ⟨qs, h1, h2, h3, h4, h5⟩ := trod_rep fuel t _ _ hp h
  cases hst : isStruct P t with
  | true =>
    have hv : ∃ cs, v = .agg cs := by
      unfold isStruct at hst
      unfold Value.okWide at hval
      split at hst
      · rename_i fs hu
        rw [hu] at hval
        obtain ⟨cs, rfl, _⟩ := hval
        exact ⟨cs, rfl⟩
      · cases hst
    obtain ⟨⟨cs⟩, rfl⟩ := hv
    exact ⟨.agg qs, .agg cs qs h1.1 h2 h1.2, h3, fun _ => ⟨qs, rfl⟩, fun h => by rw [hst] at h; cases h⟩
  | false =>
    have hl := h5 hst
    match qs, hl with
    | [q], _ =>
      have hone : q.one = true := by simpa using h2
      refine ⟨q, ?_, by rw [PV.cells_one hone]; exact h3, (fun h => by rw [hst] at h; cases h), fun _ => hone⟩
      have hvc : v.cells.toList = [v] := by
        have hns : ∀ cs, v ≠ .agg cs := by
          rintro cs rfl
          have hp := plainTy_one hp
          unfold plain1 at hp
          · unfold Value.okWide at hval
            unfold isStruct at hst
            skip
            split at hp <;> first
              | (cases hp; done)
              | (rename_i hu; rw [hu] at hval hst; first | (simp [Cell.okWide, hu, Cell.ok] at hval; done) | (simp at hst; done))
        cases v <;> first | rfl | exact absurd rfl (hns _)
      rw [hvc] at h1
      exact h1.2 0 v q rfl rfl
end
end Go.V
