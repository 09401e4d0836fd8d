/- How a V value lies in memory: the relation and how it is carried from state to state. No condition. -/
import Derived.Test.YtdlkndnlpgmdaaaGreatVCore
import Derived.Below
/-! How a V value lies in the model's memory. -/
namespace Go.V
open Go

/-- The blocks of the V heap: of each name the block, the first cell, the cells of an element. -/
abbrev SMap := Nat → Nat → Option (Nat × Nat × Nat)

def cellOf (hp : Array Go.Obj) (b o : Nat) : Option Value := match hp[b]? with | some (.cells c _ _) => c[o]? | _ => none
def sizeAt (hp : Array Go.Obj) (b : Nat) : Nat := match hp[b]? with | some (.cells c _ _) => c.size | _ => 0

theorem cell_eq (w : World) (b o : Nat) : w.cell? ⟨b, o, none⟩ = cellOf w.heap b o := by
  unfold World.cell? cellOf
  cases w.heap[b]? with
  | none => rfl
  | some x => cases x <;> simp

theorem PV.cells_one {p : PV} (h : p.one = true) : p.cells = [p] := by cases p <;> first | rfl | cases h

/-- `v` is the V value `p`: rows that nobody writes lie in blocks of `F`. -/
inductive Rep (hp : Array Go.Obj) (F : Nat → Prop) (σ : SMap) (H : Heap) : Value → PV → Prop
  | bool (b : Bool) : Rep hp F σ H (.bool b) (.bool b)
  | int (k : IntKind) (n : Int) : Rep hp F σ H (.int k n) (.int k n)
  | str (s : List UInt8) : Rep hp F σ H (.string ⟨⟨s⟩⟩) (.str s)
  | agg (vs : List Value) (ps : List PV) (hl : vs.length = ps.length) (ho : ps.all PV.one = true) (hr : ∀ (i : Nat) v p, vs[i]? = some v → ps[i]? = some p → Rep hp F σ H v p) : Rep hp F σ H (.agg ⟨vs⟩) (.agg ps)
  | tuple (vs : List Value) (ps : List PV) (hl : vs.length = ps.length) (hr : ∀ (i : Nat) v p, vs[i]? = some v → ps[i]? = some p → Rep hp F σ H v p) : Rep hp F σ H (.tuple ⟨vs⟩) (.tuple ps)
  | empty (a : Option Addr) (cap : Nat) (f : Bool) (hf : f = true → cap = 0) : Rep hp F σ H (.slice a 0 cap) (.slice f [])
  | slice (b off n cap : Nat) (f : Bool) (es : List PV) (g : Nat → Nat → Value) (hF : F b) (hne : es ≠ []) (hcap : es.length ≤ cap) (hf : f = true → cap = es.length)
      (hn : ∀ e ∈ es, e.cells.length = n) (ho : ∀ e ∈ es, e.cells.all PV.one = true)
      (hc : ∀ (i : Nat) e, es[i]? = some e → ∀ j, j < n → cellOf hp b (off + i * n + j) = some (g i j))
      (hr : ∀ (i : Nat) e, es[i]? = some e → ∀ (j : Nat) p, e.cells[j]? = some p → Rep hp F σ H (g i j) p) :
      Rep hp F σ H (.slice (some ⟨b, off, none⟩) es.length cap) (.slice f es)
  | srefOld (x : Addr) (cap a d ver n off len : Nat) (hcap : len ≤ cap) (h : ver < (H.get a d).ver) : Rep hp F σ H (.slice (some x) len cap) (.sref a d ver n off len)
  | sref (a d off len b base n cap : Nat) (x : Addr) (hs : σ a d = some (b, base, n)) (hcap : len ≤ cap) (hx : cap = 0 ∨ x = ⟨b, base + off * n, none⟩)
      (hz : base + (off + cap) * n ≤ sizeAt hp b) : Rep hp F σ H (.slice (some x) len cap) (.sref a d (H.get a d).ver n off len)
  | cptr (b o off : Nat) (cs : List PV) (g : Nat → Value) (hF : F b) (ho : cs.all PV.one = true) (hc : ∀ j, j < cs.length → cellOf hp b (o + j) = some (g j))
      (hr : ∀ (j : Nat) p, cs[j]? = some p → Rep hp F σ H (g j) p) : Rep hp F σ H (.pointer (some ⟨b, o + off, none⟩)) (.cptr cs off)
  | ptrOld (x : Addr) (a d ver idx off : Nat) (h : ver < (H.get a d).ver) : Rep hp F σ H (.pointer (some x)) (.ptr a d ver idx off)
  | ptr (a d idx off b base n : Nat) (hs : σ a d = some (b, base, n)) : Rep hp F σ H (.pointer (some ⟨b, base + idx * n + off, none⟩)) (.ptr a d (H.get a d).ver idx off)
  | mrefOld (x : Addr) (a d ver : Nat) (h : ver < (H.get a d).ver) : Rep hp F σ H (.pointer (some x)) (.mref a d ver)
  | mref (a d b base n : Nat) (hs : σ a d = some (b, base, n)) : Rep hp F σ H (.pointer (some ⟨b, 0, none⟩)) (.mref a d (H.get a d).ver)
  | nilptr : Rep hp F σ H (.pointer none) .nilptr
  | func (fn : Fn) (vs us : List Value) (ps qs : List PV) (hl : vs.length = ps.length) (hm : us.length = qs.length)
      (hr : ∀ (i : Nat) v p, vs[i]? = some v → ps[i]? = some p → Rep hp F σ H v p) (hq : ∀ (i : Nat) v p, us[i]? = some v → qs[i]? = some p → Rep hp F σ H v p) :
      Rep hp F σ H (.func fn ⟨vs⟩ ⟨us⟩) (.func fn ps qs)
  | nilfunc : Rep hp F σ H .nilFunc .nilfunc
  | nilmap : Rep hp F σ H (.map none) .nilmap
  | iface (t : TypeId) (v : Value) (p : PV) (h : Rep hp F σ H v p) : Rep hp F σ H (.iface t v) (.iface t p)
  | niliface : Rep hp F σ H .nilIface .niliface

/-- Lists, member by member. -/
def RepL (hp : Array Go.Obj) (F : Nat → Prop) (σ : SMap) (H : Heap) (vs : List Value) (ps : List PV) : Prop :=
  vs.length = ps.length ∧ ∀ (i : Nat) v p, vs[i]? = some v → ps[i]? = some p → Rep hp F σ H v p

/-- From one state to a later one every value stays what it is. -/
structure Ext (hp : Array Go.Obj) (F : Nat → Prop) (σ : SMap) (H : Heap) (hp' : Array Go.Obj) (F' : Nat → Prop) (σ' : SMap) (H' : Heap) : Prop where
  fro : ∀ b, F b → F' b
  cell : ∀ b, F b → hp'[b]? = hp[b]?
  heap : ∀ a d, (H.get a d).ver < (H'.get a d).ver ∨ ((H.get a d).ver = (H'.get a d).ver ∧ ∀ b base n, σ a d = some (b, base, n) → σ' a d = some (b, base, n) ∧ sizeAt hp b ≤ sizeAt hp' b)

theorem cellOf_congr {hp hp' : Array Go.Obj} {b : Nat} (h : hp'[b]? = hp[b]?) (o : Nat) : cellOf hp' b o = cellOf hp b o := by unfold cellOf; rw [h]

theorem Rep.ext {hp hp' : Array Go.Obj} {F F' : Nat → Prop} {σ σ' : SMap} {H H' : Heap} (x : Ext hp F σ H hp' F' σ' H') {v : Value} {p : PV} (h : Rep hp F σ H v p) : Rep hp' F' σ' H' v p := by
  induction h with
  | bool b => exact .bool b
  | int k n => exact .int k n
  | str s => exact .str s
  | agg vs ps hl ho _ ih => exact .agg vs ps hl ho ih
  | tuple vs ps hl _ ih => exact .tuple vs ps hl ih
  | empty a cap f hf => exact .empty a cap f hf
  | slice b off n cap f es g hF hne hcap hf hn ho hc _ ih =>
    exact .slice b off n cap f es g (x.fro b hF) hne hcap hf hn ho (fun i e he j hj => by rw [cellOf_congr (x.cell b hF)]; exact hc i e he j hj) ih
  | srefOld x' cap a d ver n off len hcap h =>
    refine .srefOld x' cap a d ver n off len hcap ?_
    rcases x.heap a d with h1 | ⟨h1, _⟩ <;> omega
  | sref a d off len b base n cap y hs hcap hx hz =>
    rcases x.heap a d with h1 | ⟨h1, h2⟩
    · exact .srefOld _ _ a d _ n off len hcap h1
    · obtain ⟨h3, h4⟩ := h2 b base n hs
      rw [h1]
      exact .sref a d off len b base n cap y h3 hcap hx (by omega)
  | cptr b o off cs g hF ho hc _ ih => exact .cptr b o off cs g (x.fro b hF) ho (fun j hj => by rw [cellOf_congr (x.cell b hF)]; exact hc j hj) ih
  | ptrOld x' a d ver idx off h =>
    refine .ptrOld x' a d ver idx off ?_
    rcases x.heap a d with h1 | ⟨h1, _⟩ <;> omega
  | ptr a d idx off b base n hs =>
    rcases x.heap a d with h1 | ⟨h1, h2⟩
    · exact .ptrOld _ a d _ idx off h1
    · rw [h1]
      exact .ptr a d idx off b base n (h2 b base n hs).1
  | mrefOld x' a d ver h =>
    refine .mrefOld x' a d ver ?_
    rcases x.heap a d with h1 | ⟨h1, _⟩ <;> omega
  | mref a d b base n hs =>
    rcases x.heap a d with h1 | ⟨h1, h2⟩
    · exact .mrefOld _ a d _ h1
    · rw [h1]
      exact .mref a d b base n (h2 b base n hs).1
  | nilptr => exact .nilptr
  | func fn vs us ps qs hl hm _ _ ih ih2 => exact .func fn vs us ps qs hl hm ih ih2
  | nilfunc => exact .nilfunc
  | nilmap => exact .nilmap
  | iface t v p _ ih => exact .iface t v p ih
  | niliface => exact .niliface

theorem RepL.ext {hp hp' : Array Go.Obj} {F F' : Nat → Prop} {σ σ' : SMap} {H H' : Heap} (x : Ext hp F σ H hp' F' σ' H') {vs : List Value} {ps : List PV} (h : RepL hp F σ H vs ps) : RepL hp' F' σ' H' vs ps :=
  ⟨h.1, fun i v p hv hp => (h.2 i v p hv hp).ext x⟩

theorem Ext.refl (hp : Array Go.Obj) (F : Nat → Prop) (σ : SMap) (H : Heap) : Ext hp F σ H hp F σ H :=
  ⟨fun _ h => h, fun _ _ => rfl, fun _ _ => .inr ⟨rfl, fun _ _ _ h => ⟨h, Nat.le_refl _⟩⟩⟩
theorem Ext.trans {hp hp' hp2 : Array Go.Obj} {F F' F2 : Nat → Prop} {σ σ' σ2 : SMap} {H H' H2 : Heap} (x : Ext hp F σ H hp' F' σ' H') (y : Ext hp' F' σ' H' hp2 F2 σ2 H2) : Ext hp F σ H hp2 F2 σ2 H2 := by
  refine ⟨fun b h => y.fro b (x.fro b h), fun b h => (y.cell b (x.fro b h)).trans (x.cell b h), fun a d => ?_⟩
  rcases x.heap a d with h1 | ⟨h1, h2⟩ <;> rcases y.heap a d with h3 | ⟨h3, h4⟩
  · exact .inl (by omega)
  · exact .inl (by omega)
  · exact .inl (by omega)
  · refine .inr ⟨by omega, fun b base n hs => ?_⟩
    obtain ⟨h5, h6⟩ := h2 b base n hs
    obtain ⟨h7, h8⟩ := h4 b base n h5
    exact ⟨h7, by omega⟩

section
variable {hp : Array Go.Obj} {F : Nat → Prop} {σ : SMap} {H : Heap}

theorem Rep.one {v : Value} {p : PV} (h : Rep hp F σ H v p) (ho : p.one = true) : v.oneCell' = true := by
  cases h <;> first | rfl | assumption | cases ho
/-- The cells of a value. -/
theorem Rep.cells {v : Value} {p : PV} (h : Rep hp F σ H v p) (hv : p.isVal = true) : RepL hp F σ H v.cells.toList p.cells ∧ p.cells.all PV.one = true := by
  have single : ∀ {v : Value} {p : PV}, Rep hp F σ H v p → p.one = true → RepL hp F σ H [v] [p] ∧ [p].all PV.one = true := by
    intro v p h ho
    refine ⟨⟨rfl, fun i u q hu hq => ?_⟩, by simp [ho]⟩
    cases i with
    | zero => simp at hu hq; subst hu hq; exact h
    | succ i => simp at hu
  cases h with
  | agg vs ps hl ho hr => exact ⟨⟨hl, hr⟩, ho⟩
  | tuple => cases hv
  | srefOld x cap a d ver n off len hcap h => exact single (Rep.srefOld x cap a d ver n off len hcap h) rfl
  | ptrOld x a d ver idx off h => exact single (Rep.ptrOld x a d ver idx off h) rfl
  | mrefOld x a d ver h => exact single (Rep.mrefOld x a d ver h) rfl
  | mref a d b base n hs => exact single (.mref a d b base n hs) rfl
  | bool b => exact single (.bool b) rfl
  | int k n => exact single (.int k n) rfl
  | str s => exact single (.str s) rfl
  | empty a cap f hf => exact single (.empty a cap f hf) rfl
  | slice b off n cap f es g hF hne hcap hf hn ho hc hr => exact single (.slice b off n cap f es g hF hne hcap hf hn ho hc hr) rfl
  | sref a d off len b base n cap x hs hcap hx hz => exact single (.sref a d off len b base n cap x hs hcap hx hz) rfl
  | cptr b o off cs g hF ho hc hr => exact single (.cptr b o off cs g hF ho hc hr) rfl
  | ptr a d idx off b base n hs => exact single (.ptr a d idx off b base n hs) rfl
  | nilptr => exact single .nilptr rfl
  | func fn vs us ps qs hl hm hr hq => exact single (.func fn vs us ps qs hl hm hr hq) rfl
  | nilfunc => exact single .nilfunc rfl
  | nilmap => exact single .nilmap rfl
  | iface t v p h => exact single (.iface t v p h) rfl
  | niliface => exact single .niliface rfl
end

theorem noRefs_get {l : List PV} (h : noRefs l = true) : ∀ (i : Nat) p, l[i]? = some p → p.noRef = true := by
  induction l with
  | nil => intro i p hp; simp at hp
  | cons q r ih =>
    simp only [noRefs, Bool.and_eq_true] at h
    intro i p hp
    cases i with
    | zero => simp at hp; subst hp; exact h.1
    | succ i => exact ih h.2 i p (by simpa using hp)
theorem noRef_cells {e : PV} (h : e.noRef = true) : noRefs e.cells = true := by
  cases e <;> simp_all [PV.cells, PV.noRef, noRefs]
/-- A value without references hangs on no V heap. -/
theorem Rep.free {hp : Array Go.Obj} {F : Nat → Prop} {σ : SMap} {H : Heap} {v : Value} {p : PV} (h : Rep hp F σ H v p) (hn : p.noRef = true) (σ' : SMap) (H' : Heap) : Rep hp F σ' H' v p := by
  induction h with
  | bool b => exact .bool b
  | int k n => exact .int k n
  | str s => exact .str s
  | agg vs ps hl ho _ ih => exact .agg vs ps hl ho fun i v p hv hp => ih i v p hv hp (noRefs_get (by simpa [PV.noRef] using hn) i p hp)
  | tuple vs ps hl _ ih => exact .tuple vs ps hl fun i v p hv hp => ih i v p hv hp (noRefs_get (by simpa [PV.noRef] using hn) i p hp)
  | empty a cap f hf => exact .empty a cap f hf
  | slice b off n cap f es g hF hne hcap hf hnn ho hc _ ih =>
    exact .slice b off n cap f es g hF hne hcap hf hnn ho hc fun i e he j p hp => ih i e he j p hp (noRefs_get (noRef_cells (noRefs_get (by simpa [PV.noRef] using hn) i e he)) j p hp)
  | srefOld => simp [PV.noRef] at hn
  | sref => simp [PV.noRef] at hn
  | cptr b o off cs g hF ho hc _ ih => exact .cptr b o off cs g hF ho hc fun j p hp => ih j p hp (noRefs_get (by simpa [PV.noRef] using hn) j p hp)
  | ptrOld => simp [PV.noRef] at hn
  | ptr => simp [PV.noRef] at hn
  | mrefOld => simp [PV.noRef] at hn
  | mref => simp [PV.noRef] at hn
  | nilptr => exact .nilptr
  | func fn vs us ps qs hl hm _ _ ih ih2 =>
    simp only [PV.noRef, Bool.and_eq_true] at hn
    exact .func fn vs us ps qs hl hm (fun i v p hv hp => ih i v p hv hp (noRefs_get hn.1 i p hp)) fun i v p hv hp => ih2 i v p hv hp (noRefs_get hn.2 i p hp)
  | nilfunc => exact .nilfunc
  | nilmap => exact .nilmap
  | iface t v p _ ih => exact .iface t v p (ih (by simpa [PV.noRef] using hn))
  | niliface => exact .niliface

/-- An object of the V heap and its block. -/
def RelObj (hp : Array Go.Obj) (F : Nat → Prop) (σ : SMap) (H : Heap) (a d : Nat) : Prop :=
  match (H.get a d).body with
  | .dead => True
  | .arr es => ∃ b base n c t lo hi, σ a d = some (b, base, n) ∧ hp[b]? = some (.cells c t (lo, hi)) ∧ ¬ F b ∧ base + es.length * n ≤ c.size ∧
      (∀ e ∈ es, e.cells.length = n ∧ e.cells.all PV.one = true) ∧
      (∀ (i : Nat) e, es[i]? = some e → ∀ (j : Nat) p, e.cells[j]? = some p → ∃ u, c[base + i * n + j]? = some u ∧ Rep hp F σ H u p) ∧
      (∀ o, base + (H.get a d).fz * n ≤ o → ¬ (lo ≤ o ∧ o < hi))
  | .iter s pos => ∃ b base n, σ a d = some (b, base, n) ∧ hp[b]? = some (.stringIter ⟨⟨s⟩⟩ pos) ∧ ¬ F b
  | _ => False
def Body.live : Body → Bool
  | .arr _ | .iter _ _ => true
  | _ => false
/-- A name that bears an object. -/
def alive (H : Heap) (a d : Nat) : Prop := (H.get a d).body.live = true
theorem alive_of {H : Heap} {a d : Nat} {es : List PV} (h : (H.get a d).body = .arr es) : alive H a d := by unfold alive; rw [h]; rfl

structure RelS (hp : Array Go.Obj) (F : Nat → Prop) (σ : SMap) (H : Heap) : Prop where
  obj : ∀ a d, RelObj hp F σ H a d
  inj : ∀ a d a' d' b base n base' n', alive H a d → alive H a' d' → σ a d = some (b, base, n) → σ a' d' = some (b, base', n') → a = a' ∧ d = d'
  lt : ∀ b, F b → b < hp.size

/-- The blocks that may be written. -/
def Wr (σ : SMap) (H : Heap) (b : Nat) : Prop := ∃ a d base n, alive H a d ∧ σ a d = some (b, base, n)

/-- What a step keeps: nothing outside the writable blocks has turned; what is writable or read-only now was so, or is new. -/
structure Keep (w : World) (F : Nat → Prop) (σ : SMap) (H : Heap) (w' : World) (F' : Nat → Prop) (σ' : SMap) (H' : Heap) : Prop where
  os : w'.os = w.os
  tape : w'.tape = w.tape
  output : w'.output = w.output
  size : w.heap.size ≤ w'.heap.size
  block : ∀ b, b < w.heap.size → ¬ Wr σ H b → w'.heap[b]? = w.heap[b]?
  newF : ∀ b, F' b → F b ∨ w.heap.size ≤ b
  newW : ∀ b, Wr σ' H' b → Wr σ H b ∨ w.heap.size ≤ b

theorem Keep.refl (w : World) (F : Nat → Prop) (σ : SMap) (H : Heap) : Keep w F σ H w F σ H := ⟨rfl, rfl, rfl, Nat.le_refl _, fun _ _ _ => rfl, fun _ h => .inl h, fun _ h => .inl h⟩
theorem Keep.trans {w w' w2 : World} {F F' F2 : Nat → Prop} {σ σ' σ2 : SMap} {H H' H2 : Heap} (x : Keep w F σ H w' F' σ' H') (y : Keep w' F' σ' H' w2 F2 σ2 H2) : Keep w F σ H w2 F2 σ2 H2 where
  os := y.os.trans x.os
  tape := y.tape.trans x.tape
  output := y.output.trans x.output
  size := Nat.le_trans x.size y.size
  block b hb hw := (y.block b (Nat.lt_of_lt_of_le hb x.size) fun h => (x.newW b h).elim hw (by omega)).trans (x.block b hb hw)
  newF b h := (y.newF b h).elim (fun h => x.newF b h) fun h => .inr (Nat.le_trans x.size h)
  newW b h := (y.newW b h).elim (fun h => x.newW b h) fun h => .inr (Nat.le_trans x.size h)

/-- From a state to a later one. -/
structure Go_ (w : World) (F : Nat → Prop) (σ : SMap) (H : Heap) (w' : World) (F' : Nat → Prop) (σ' : SMap) (H' : Heap) : Prop where
  ext : Ext w.heap F σ H w'.heap F' σ' H'
  keep : Keep w F σ H w' F' σ' H'
  rel : RelS w'.heap F' σ' H'

theorem Go_.refl {w : World} {F : Nat → Prop} {σ : SMap} {H : Heap} (h : RelS w.heap F σ H) : Go_ w F σ H w F σ H := ⟨.refl _ _ _ _, .refl _ _ _ _, h⟩
theorem Go_.trans {w w' w2 : World} {F F' F2 : Nat → Prop} {σ σ' σ2 : SMap} {H H' H2 : Heap} (x : Go_ w F σ H w' F' σ' H') (y : Go_ w' F' σ' H' w2 F2 σ2 H2) : Go_ w F σ H w2 F2 σ2 H2 :=
  ⟨x.ext.trans y.ext, x.keep.trans y.keep, y.rel⟩

/-- A draw changes nothing of this. -/
theorem Go_.drew {w : World} {F : Nat → Prop} {σ : SMap} {H : Heap} (h : RelS w.heap F σ H) (n : Nat) : Go_ w F σ H { w with drawn := n } F σ H :=
  ⟨.refl _ _ _ _, ⟨rfl, rfl, rfl, Nat.le_refl _, fun _ _ _ => rfl, fun _ h => .inl h, fun _ h => .inl h⟩, h⟩

/-- The temporaries. -/
def RelT (hp : Array Go.Obj) (F : Nat → Prop) (σ : SMap) (H : Heap) (tmps : Array Value) (env : Env) : Prop := ∀ i, Rep hp F σ H (tmps.getD i undef) (env i)
theorem RelT.ext {hp hp' : Array Go.Obj} {F F' : Nat → Prop} {σ σ' : SMap} {H H' : Heap} (x : Ext hp F σ H hp' F' σ' H') {t : Array Value} {e : Env} (h : RelT hp F σ H t e) : RelT hp' F' σ' H' t e := fun i => (h i).ext x
end Go.V
