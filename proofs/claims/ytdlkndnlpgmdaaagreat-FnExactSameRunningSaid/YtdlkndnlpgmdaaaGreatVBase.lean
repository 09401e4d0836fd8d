/- Small facts that the texts of a seat share: sums, wraps, rows that are being filled, what stays as it is. No condition. -/
import Derived.Test.YtdlkndnlpgmdaaaGreatVConf
import Derived.Test.YtdlkndnlpgmdaaaGreatVLoops
namespace Go.Proofs.YtdlkndnlpgmdaaaGreat.V
open Go Go.V Go.Proofs
set_option linter.unusedSimpArgs false
set_option linter.unusedVariables false

theorem wrap64 {n : Int} (h1 : -9223372036854775808 ≤ n) (h2 : n ≤ 9223372036854775807) : IntKind.i64.wrap n = n := by
  unfold IntKind.wrap
  simp [IntKind.signed, IntKind.bits]
  omega
theorem wrapS {i : Nat} (h : i < 9223372036854775807) : IntKind.i64.wrap ((i : Int) + 1) = ((i + 1 : Nat) : Int) := by rw [wrap64 (by omega) (by omega)]; simp

/-- What is left of a measure, or -1. -/
def szI (b : Nat) (left : Int) : Int := if (b : Int) ≤ left then left - b else -1
theorem szI_pos {b : Nat} {left : Int} (h : (b : Int) ≤ left) : szI b left = left - b := if_pos h
theorem szI_neg {b : Nat} {left : Int} (h : ¬ (b : Int) ≤ left) : szI b left = -1 := if_neg h
theorem szI_bound {b : Nat} {left : Int} (h : ¬ szI b left < 0) : (b : Int) ≤ left := by
  unfold szI at h
  split at h
  · assumption
  · exact absurd (by decide) h
/-- The measure of a list. -/
def bulkL {α : Type} (f : α → Nat) (l : List α) : Nat := l.length + (l.map f).sum
def sumTo {α : Type} (f : α → Nat) (l : List α) (i : Nat) : Nat := ((l.take i).map f).sum
theorem sumTo_succ {α : Type} (f : α → Nat) (l : List α) (i : Nat) (h : i < l.length) : sumTo f l (i + 1) = sumTo f l i + f l[i] := by
  unfold sumTo
  rw [List.take_succ_eq_append_getElem h]
  simp only [List.map_append, List.sum_append_nat, List.map_cons, List.map_nil, List.sum_cons, List.sum_nil, Nat.add_zero]
theorem sumTo_le {α : Type} (f : α → Nat) (l : List α) (i : Nat) : sumTo f l i ≤ (l.map f).sum := by
  unfold sumTo
  have h : (l.map f).sum = ((l.take i).map f).sum + ((l.drop i).map f).sum := by
    rw [← List.sum_append_nat, ← List.map_append, List.take_append_drop]
  omega
theorem sumTo_all {α : Type} (f : α → Nat) (l : List α) (i : Nat) (h : l.length ≤ i) : sumTo f l i = (l.map f).sum := by
  unfold sumTo
  rw [List.take_of_length_le h]
theorem sum_get {α : Type} (f : α → Nat) (l : List α) (i : Nat) (h : i < l.length) : f l[i] ≤ (l.map f).sum := by
  have h1 := sumTo_succ f l i h
  have h2 := sumTo_le f l (i + 1)
  omega
theorem sum_mem {α : Type} (f : α → Nat) {l : List α} {x : α} (h : x ∈ l) : f x ≤ (l.map f).sum := by
  obtain ⟨i, hi, rfl⟩ := List.mem_iff_getElem.1 h
  exact sum_get f l i hi
theorem sum_zero {α : Type} {f : α → Nat} (h : ∀ x, f x = 0) (l : List α) : (l.map f).sum = 0 := by
  induction l with
  | nil => rfl
  | cons x l ih => simp [h x, ih]

/-- A row that is being filled. -/
def filledP (z : PV) (es : List PV) (i : Nat) : List PV := es.take i ++ List.replicate (es.length - i) z
theorem filledP_length (z : PV) (es : List PV) (i : Nat) (h : i ≤ es.length) : (filledP z es i).length = es.length := by simp [filledP]; omega
theorem filledP_all (z : PV) (es : List PV) : filledP z es es.length = es := by simp [filledP]
theorem filledP_get (z : PV) (es : List PV) (i : Nat) (h : i < es.length) : (filledP z es i)[i]? = some z := by
  unfold filledP
  rw [List.getElem?_append_right (by rw [List.length_take]; omega), List.getElem?_replicate, if_pos (by rw [List.length_take]; omega)]
theorem filledP_set (z : PV) (es : List PV) (i : Nat) (h : i < es.length) : (filledP z es i).set i es[i] = filledP z es (i + 1) := by
  unfold filledP
  rw [List.set_append_right _ _ (by rw [List.length_take]; omega), List.take_succ_eq_append_getElem h]
  have : (es.take i).length = i := by rw [List.length_take]; omega
  rw [this, Nat.sub_self, show es.length - i = (es.length - (i + 1)) + 1 by omega, List.replicate_succ]
  simp only [List.set_cons_zero, List.append_assoc, List.cons_append, List.nil_append]
@[go_sem] theorem take_map_len {α β : Type} (f : α → β) (xs : List α) : (xs.map f).take xs.length = xs.map f := List.take_of_length_le (by simp)

inductive Plains : List PV → Prop
  | nil : Plains []
  | cons {p : PV} {l : List PV} (h : Plain p) (hs : Plains l) : Plains (p :: l)
theorem Plains.all {l : List PV} (h : Plains l) : ∀ p ∈ l, Plain p := by
  induction h with
  | nil => simp
  | cons h hs ih => intro p hp; rcases List.mem_cons.1 hp with rfl | hp; exact h; exact ih p hp
theorem Plain.agg_mk {l : List PV} (h : Plains l) : Plain (.agg l) := Plain.agg h.all
theorem Plain.maps {α : Type} {f : α → PV} {l : List α} (h : ∀ x ∈ l, Plain (f x)) : Plain (.slice false (l.map f)) := Plain.slice (by
  intro p hp
  obtain ⟨x, hx, rfl⟩ := List.mem_map.1 hp
  exact h x hx)
theorem noRefs_cons_mk {p : PV} {l : List PV} (h : p.noRef = true) (hs : noRefs l = true) : noRefs (p :: l) = true := by simp [noRefs, h, hs]
theorem noRef_agg_mk {l : List PV} (h : noRefs l = true) : (PV.agg l).noRef = true := by simpa [PV.noRef] using h
theorem noRefs_map {α : Type} {f : α → PV} {l : List α} (h : ∀ x ∈ l, (f x).noRef = true) : Go.V.noRefs (l.map f) = true := by
  induction l with
  | nil => rfl
  | cons x l ih => simp [Go.V.noRefs, h x (by simp), ih fun y hy => h y (by simp [hy])]
theorem noRef_maps {α : Type} {f : α → PV} {l : List α} (h : ∀ x ∈ l, (f x).noRef = true) : (PV.slice false (l.map f)).noRef = true := by simpa [PV.noRef] using noRefs_map h
@[go_sem] theorem resL_ints (H : Heap) (k : IntKind) (xs : List Int) : resL H (xs.map (PV.int k)) = some (xs.map (PV.int k)) := Plain.map (plain_int k) xs H
@[go_sem] theorem resL_bools (H : Heap) (xs : List Bool) : resL H (xs.map PV.bool) = some (xs.map PV.bool) := Plain.map plain_bool xs H
@[go_sem] theorem noRefs_ints (k : IntKind) (xs : List Int) : Go.V.noRefs (xs.map (PV.int k)) = true := noRefs_map fun _ _ => rfl
@[go_sem] theorem noRefs_bools (xs : List Bool) : Go.V.noRefs (xs.map PV.bool) = true := noRefs_map fun _ _ => rfl
theorem i64_max : IntKind.i64.max = 9223372036854775807 := by decide
theorem ite_big {α : Type} {n : Int} (h : n ≤ 9223372036854775807) (x : Option α) : (if 9223372036854775807 < n then none else x) = x := if_neg (by omega)
theorem not_mem_take {α : Type} {xs : List α} {x : α} {i : Nat} (h : i < xs.length) (h1 : x ∉ xs.take i) (h2 : xs[i] ≠ x) : x ∉ xs.take (i + 1) := by
  rw [List.take_succ_eq_append_getElem h]
  simp only [List.mem_append, List.mem_singleton, not_or]
  exact ⟨h1, fun e => h2 e.symm⟩
end Go.Proofs.YtdlkndnlpgmdaaaGreat.V
