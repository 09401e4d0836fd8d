/- A law whose V run is true returns true and leaves memory as it was. No condition. -/
import Derived.Test.YtdlkndnlpgmdaaaGreatVRead
import Derived.Below
/-! What a row asks, out of V. -/
namespace Go.V
open Go Go.RowKit
set_option linter.unusedSimpArgs false
set_option linter.unusedVariables false

section
variable {P : Program} {t : TypeId} {qs : List PV} {p : PV}
theorem HasCs.bool_inv (hu : P.underlying t = some .bool) (h : HasCs P t qs) : ∃ b, qs = [.bool b] := by
  cases h with
  | bool _ b => exact ⟨b, rfl⟩
  | int h' => rw [hu] at h'; cases h'
  | str h' => rw [hu] at h'; cases h'
  | slice h' => rw [hu] at h'; cases h'
  | struct h' => rw [hu] at h'; cases h'
theorem HasCs.int_inv {k : IntKind} (hu : P.underlying t = some (.int k)) (h : HasCs P t qs) : ∃ n, qs = [.int k n] ∧ k.min ≤ n ∧ n ≤ k.max := by
  cases h with
  | bool h' => rw [hu] at h'; cases h'
  | int h' n h1 h2 => rw [hu] at h'; cases h'; exact ⟨n, rfl, h1, h2⟩
  | str h' => rw [hu] at h'; cases h'
  | slice h' => rw [hu] at h'; cases h'
  | struct h' => rw [hu] at h'; cases h'
theorem HasCs.str_inv (hu : P.underlying t = some .string) (h : HasCs P t qs) : ∃ s, qs = [.str s] ∧ s.length ≤ maxLen := by
  cases h with
  | bool h' => rw [hu] at h'; cases h'
  | int h' => rw [hu] at h'; cases h'
  | str _ s hs => exact ⟨s, rfl, hs⟩
  | slice h' => rw [hu] at h'; cases h'
  | struct h' => rw [hu] at h'; cases h'
theorem HasCs.slice_inv {e : TypeId} (hu : P.underlying t = some (.slice e)) (h : HasCs P t qs) : ∃ es, qs = [.slice false es] ∧ es.length ≤ maxLen ∧ ∀ x ∈ es, HasTy P e x := by
  cases h with
  | bool h' => rw [hu] at h'; cases h'
  | int h' => rw [hu] at h'; cases h'
  | str h' => rw [hu] at h'; cases h'
  | slice h' es hl hv hc => rw [hu] at h'; cases h'; exact ⟨es, rfl, hl, fun x hx => ⟨hc x hx, (hv x hx).2⟩⟩
  | struct h' => rw [hu] at h'; cases h'
theorem HasCs.struct_inv {fs : Array Field} (hu : P.underlying t = some (.struct fs)) (h : HasCs P t qs) : ∃ css : List (List PV), css.length = fs.toList.length ∧ qs = css.flatten ∧ ∀ (i : Nat) f cs, fs.toList[i]? = some f → css[i]? = some cs → HasCs P f.type cs := by
  cases h with
  | bool h' => rw [hu] at h'; cases h'
  | int h' => rw [hu] at h'; cases h'
  | str h' => rw [hu] at h'; cases h'
  | slice h' => rw [hu] at h'; cases h'
  | struct h' _ css hl hq hc => rw [hu] at h'; cases h'; exact ⟨css, hl, hq, hc⟩

theorem HasTy.bool_inv (hu : P.underlying t = some .bool) (h : HasTy P t p) : ∃ b, p = .bool b := by
  have hs : isStruct P t = false := by simp [isStruct, hu]
  have h1 := h.1
  rw [PV.cells_one (h.2.2 hs)] at h1
  obtain ⟨b, hb⟩ := h1.bool_inv hu
  exact ⟨b, by simpa using hb⟩
theorem HasTy.int_inv {k : IntKind} (hu : P.underlying t = some (.int k)) (h : HasTy P t p) : ∃ n, p = .int k n ∧ k.min ≤ n ∧ n ≤ k.max := by
  have hs : isStruct P t = false := by simp [isStruct, hu]
  have h1 := h.1
  rw [PV.cells_one (h.2.2 hs)] at h1
  obtain ⟨n, hb, h2⟩ := h1.int_inv hu
  exact ⟨n, by simpa using hb, h2⟩
theorem HasTy.str_inv (hu : P.underlying t = some .string) (h : HasTy P t p) : ∃ s, p = .str s ∧ s.length ≤ maxLen := by
  have hs : isStruct P t = false := by simp [isStruct, hu]
  have h1 := h.1
  rw [PV.cells_one (h.2.2 hs)] at h1
  obtain ⟨s, hb, h2⟩ := h1.str_inv hu
  exact ⟨s, by simpa using hb, h2⟩
theorem HasTy.slice_inv {e : TypeId} (hu : P.underlying t = some (.slice e)) (h : HasTy P t p) : ∃ es, p = .slice false es ∧ es.length ≤ maxLen ∧ ∀ x ∈ es, HasTy P e x := by
  have hs : isStruct P t = false := by simp [isStruct, hu]
  have h1 := h.1
  rw [PV.cells_one (h.2.2 hs)] at h1
  obtain ⟨es, hb, h2⟩ := h1.slice_inv hu
  exact ⟨es, by simpa using hb, h2⟩
theorem HasTy.struct_inv {fs : Array Field} (hu : P.underlying t = some (.struct fs)) (h : HasTy P t p) : ∃ css : List (List PV), p = .agg css.flatten ∧ css.length = fs.toList.length ∧ ∀ (i : Nat) f cs, fs.toList[i]? = some f → css[i]? = some cs → HasCs P f.type cs := by
  have hs : isStruct P t = true := by simp [isStruct, hu]
  obtain ⟨cs, rfl⟩ := h.2.1 hs
  obtain ⟨css, h1, h2, h3⟩ := h.1.struct_inv hu
  exact ⟨css, by rw [← h2]; rfl, h1, h3⟩
/-- A list, member by member, of a type that Lean knows. -/
theorem list_of {α : Type} {enc : α → PV} {R : α → Prop} {Q : PV → Prop} (h : ∀ x, Q x → ∃ a, x = enc a ∧ R a) : ∀ {es : List PV}, (∀ x ∈ es, Q x) → ∃ as : List α, es = as.map enc ∧ ∀ a ∈ as, R a
  | [], _ => ⟨[], rfl, fun a ha => by cases ha⟩
  | x :: es, he => by
    obtain ⟨a, rfl, ha⟩ := h x (he x (by simp))
    obtain ⟨as, rfl, has⟩ := list_of (es := es) h fun y hy => he y (List.mem_cons_of_mem _ hy)
    exact ⟨a :: as, rfl, fun b hb => by
      rcases List.mem_cons.1 hb with rfl | hb
      · exact ha
      · exact has b hb⟩
theorem HasTy.strs_inv {e : TypeId} (hu : P.underlying t = some (.slice e)) (he : P.underlying e = some .string) (h : HasTy P t p) : ∃ xs : List (List UInt8), p = .slice false (xs.map .str) ∧ xs.length ≤ maxLen ∧ ∀ x ∈ xs, x.length ≤ maxLen := by
  obtain ⟨es, rfl, hl, hc⟩ := h.slice_inv hu
  obtain ⟨xs, rfl, hx⟩ := list_of (enc := PV.str) (R := fun s => s.length ≤ maxLen) (fun x hx => hx.str_inv he) hc
  exact ⟨xs, rfl, by simpa using hl, hx⟩
end

/-- **A law whose V run is `true` returns true, and leaves what was there.** -/
theorem law_calls {C : Cfg} (pk : ProgOk C) (hg : ∀ g, C.glob g = none) {f : FuncId} (hx : C.ext f = none) {ps : List PV} (h : dPure C f ps = some (.bool true)) {w : World} {vs : List Value}
    (hr : RepL w.heap (fun b => b < w.heap.size) nosig Heap.empty vs ps) : Calls C.P f ⟨vs⟩ w fun e w' => e = .returned (.bool true) ∧ Below w.heap.size w w' := by
  refine (dPure_calls pk hx h (F := fun b => b < w.heap.size) (fun g p hgp => by rw [hg g] at hgp; cases hgp) (fun b h => h) hr).mono ?_
  rintro e w' ⟨v, rfl, F', hv, hp⟩
  rw [hv.bool_inv]
  exact ⟨rfl, hp.os, hp.tape, hp.output, hp.size, hp.block⟩
/-- One check for all the functions of a list. -/
theorem ok_of {C : Cfg} {l : List Nat} (h : l.all (fun f => match C.P.funcs[f]? with | some fn => fnOk C fn | none => false) = true) {f : FuncId} {fn : Func} (hb : (!l.contains f) = false) (hf : C.P.funcs[f]? = some fn) : fnOk C fn = true := by
  have hm : f ∈ l := by
    rw [Bool.not_eq_false'] at hb
    exact List.contains_iff_mem.1 hb
  have := List.all_eq_true.1 h f hm
  rw [hf] at this
  exact this
/-- A call that comes back at once. -/
theorem CallF.of_value {P : Program} {f : FuncId} {args : Array Value} {w w' : World} {v : Value} {R : Value → World → Prop} (h : (callFunc f args).run P w = .ok (.value v) w') (hR : R v w') : CallF P f args w R := by
  unfold CallF
  rw [h]
  exact hR
theorem PureStep.refl {w : World} {F : Nat → Prop} (h : ∀ b, F b → b < w.heap.size) : PureStep w F w F := ⟨rfl, rfl, rfl, Nat.le_refl _, fun _ _ => rfl, fun _ h => h, fun _ h => .inl h, h⟩
theorem repl_nil {hp : Array Go.Obj} {F : Nat → Prop} : RepL hp F nosig Heap.empty [] [] := ⟨rfl, fun i v p hv => by simp at hv⟩
theorem repl_cons {hp : Array Go.Obj} {F : Nat → Prop} {v : Value} {p : PV} {vs : List Value} {ps : List PV} (h : Rep hp F nosig Heap.empty v p) (hs : RepL hp F nosig Heap.empty vs ps) : RepL hp F nosig Heap.empty (v :: vs) (p :: ps) := by
  refine ⟨by simp [hs.1], fun i u q hu hq => ?_⟩
  cases i with
  | zero => simp at hu hq; subst hu hq; exact h
  | succ i => simp at hu hq; exact hs.2 i u q hu hq
end Go.V
