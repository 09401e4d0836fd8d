/- Values of the V heap that are owned whole: what they read as, that they outlast changes elsewhere, and what a call that makes one gives. No condition. -/
import Derived.Test.YtdlkndnlpgmdaaaGreatVLoop
/-! Owned values of the V heap. -/
namespace Go.V
open Go
set_option linter.unusedVariables false
set_option linter.unusedSimpArgs false

/-- What the activations below `n` had is as it was. -/
def Kept (n : Nat) (H H' : Heap) : Prop := ∀ a d, a < n → H'.get a d = H.get a d
theorem Kept.refl (n : Nat) (H : Heap) : Kept n H H := fun _ _ _ => rfl
theorem Kept.trans {n m : Nat} {H H' H2 : Heap} (h : Kept n H H') (k : Kept m H' H2) (hm : n ≤ m) : Kept n H H2 := fun a d ha => by rw [k a d (by omega), h a d ha]
theorem Kept.mono {n m : Nat} {H H' : Heap} (h : Kept m H H') (hm : n ≤ m) : Kept n H H' := fun a d ha => h a d (by omega)
theorem Kept.set {n a d : Nat} {H : Heap} {o : Obj} (h : n ≤ a) : Kept n H (H.set a d o) := fun a' d' ha => by
  rw [get_set, if_neg (by omega)]

abbrev Names := List (Nat × Nat)
mutual
/-- A value of the heap that owns what it reads as: the names are those of its rows. -/
inductive Own (H : Heap) : Names → PV → PV → Prop
  | bool (b : Bool) : Own H [] (.bool b) (.bool b)
  | int (k : IntKind) (n : Int) : Own H [] (.int k n) (.int k n)
  | str (s : List UInt8) : Own H [] (.str s) (.str s)
  | agg {l : Names} {vs ps : List PV} (h : Owns H l vs ps) : Own H l (.agg vs) (.agg ps)
  | empty (f : Bool) : Own H [] (.slice f []) (.slice false [])
  | row {a d ver fz n off len : Nat} {es ps : List PV} {l : Names} (hg : H.get a d = ⟨ver, fz, .arr es⟩) (hz : fz ≤ off) (hl : off + len ≤ es.length) (h : Owns H l ((es.drop off).take len) ps) : Own H ((a, d) :: l) (.sref a d ver n off len) (.slice false ps)
inductive Owns (H : Heap) : Names → List PV → List PV → Prop
  | nil : Owns H [] [] []
  | cons {l m : Names} {v p : PV} {vs ps : List PV} (h : Own H l v p) (hs : Owns H m vs ps) : Owns H (l ++ m) (v :: vs) (p :: ps)
end

theorem get_frame {H H' : Heap} {a d ver fz : Nat} {es : List PV} (h : H.get a d = ⟨ver, fz, .arr es⟩) (k : H'.get a d = H.get a d) : H'.get a d = ⟨ver, fz, .arr es⟩ := by rw [k, h]
mutual
theorem Own.frame {H H' : Heap} : ∀ {l : Names} {v p : PV}, Own H l v p → (∀ n ∈ l, H'.get n.1 n.2 = H.get n.1 n.2) → Own H' l v p
  | _, _, _, .bool b, _ => .bool b
  | _, _, _, .int k n, _ => .int k n
  | _, _, _, .str s, _ => .str s
  | _, _, _, .agg h, k => .agg (h.frame k)
  | _, _, _, .empty f, _ => .empty f
  | _, _, _, .row hg hz hl h, k => .row (get_frame hg (k _ (List.mem_cons_self ..))) hz hl (h.frame fun n hn => k n (List.mem_cons_of_mem _ hn))
theorem Owns.frame {H H' : Heap} : ∀ {l : Names} {vs ps : List PV}, Owns H l vs ps → (∀ n ∈ l, H'.get n.1 n.2 = H.get n.1 n.2) → Owns H' l vs ps
  | _, _, _, .nil, _ => .nil
  | _, _, _, .cons h hs, k => .cons (h.frame fun n hn => k n (List.mem_append_left _ hn)) (hs.frame fun n hn => k n (List.mem_append_right _ hn))
end
theorem Owns.length {H : Heap} {l : Names} {vs ps : List PV} : Owns H l vs ps → vs.length = ps.length := by
  induction vs generalizing l ps with
  | nil => intro h; cases h; rfl
  | cons v vs ih => intro h; cases h with | cons h hs => simp [ih hs]
mutual
/-- What an owned value reads as. -/
theorem Own.res {H : Heap} : ∀ {l : Names} {v p : PV}, Own H l v p → Go.V.res H v = some p
  | _, _, _, .bool b => res_bool H b
  | _, _, _, .int k n => res_int H k n
  | _, _, _, .str s => res_str H s
  | _, _, _, .agg h => by rw [res_agg, h.res]; rfl
  | _, _, _, .empty f => by rw [res_slice, resL_nil]; rfl
  | _, _, _, .row hg hz hl h => by
    rw [res_sref]
    simp only [Heap.rows, Heap.arr?, hg, if_true, Option.bind_some]
    rw [if_pos hl, Option.bind_some, res_slice, h.res]; rfl
theorem Owns.res {H : Heap} : ∀ {l : Names} {vs ps : List PV}, Owns H l vs ps → resL H vs = some ps
  | _, _, _, .nil => resL_nil H
  | _, _, _, .cons h hs => by rw [resL_cons, h.res, Option.bind_some, hs.res]; rfl
end

/-- A call that hands back a new owned value, and leaves what was there. -/
def Made (H : Heap) (r : Option (PV × Heap)) (p : PV) : Prop :=
  ∃ v H' l, r = some (v, H') ∧ Own H' l v p ∧ l.Nodup ∧ (∀ n ∈ l, H.acts ≤ n.1 ∧ n.1 < H'.acts) ∧ Kept H.acts H H' ∧ H.acts ≤ H'.acts

theorem Owns.append {H : Heap} {l m : Names} {vs ps us qs : List PV} (h : Owns H l vs ps) (k : Owns H m us qs) : Owns H (l ++ m) (vs ++ us) (ps ++ qs) := by
  induction vs generalizing l ps with
  | nil => cases h; exact k
  | cons v vs ih => cases h with | cons h hs => rw [List.append_assoc]; exact .cons h (ih hs)
theorem Owns.one {H : Heap} {l : Names} {v p : PV} (h : Own H l v p) : Owns H l [v] [p] := by
  have := Owns.cons h .nil
  rwa [List.append_nil] at this
/-- Member by member. -/
theorem Owns.get {H : Heap} {l : Names} {vs ps : List PV} (h : Owns H l vs ps) {i : Nat} {p : PV} (hp : ps[i]? = some p) : ∃ v l1 m l2, vs[i]? = some v ∧ l = l1 ++ m ++ l2 ∧ Own H m v p ∧ Owns H l1 (vs.take i) (ps.take i) ∧ Owns H l2 (vs.drop (i + 1)) (ps.drop (i + 1)) := by
  induction i generalizing l vs ps with
  | zero =>
    cases h with
    | nil => simp at hp
    | cons h hs => simp at hp; subst hp; exact ⟨_, [], _, _, rfl, by simp, h, .nil, hs⟩
  | succ i ih =>
    cases h with
    | nil => simp at hp
    | cons h hs =>
      simp at hp
      obtain ⟨v, l1, m, l2, h1, rfl, h2, h3, h4⟩ := ih hs hp
      exact ⟨v, _ ++ l1, m, l2, by simpa using h1, by simp, h2, .cons h h3, h4⟩

theorem own_bool {H : Heap} {l : Names} {v : PV} {b : Bool} (h : Own H l v (.bool b)) : v = .bool b ∧ l = [] := by cases h; exact ⟨rfl, rfl⟩
theorem own_int {H : Heap} {l : Names} {v : PV} {k : IntKind} {n : Int} (h : Own H l v (.int k n)) : v = .int k n ∧ l = [] := by cases h; exact ⟨rfl, rfl⟩
theorem own_str {H : Heap} {l : Names} {v : PV} {s : List UInt8} (h : Own H l v (.str s)) : v = .str s ∧ l = [] := by cases h; exact ⟨rfl, rfl⟩
theorem own_agg {H : Heap} {l : Names} {v : PV} {ps : List PV} (h : Own H l v (.agg ps)) : ∃ vs, v = .agg vs ∧ Owns H l vs ps := by cases h with | agg h => exact ⟨_, rfl, h⟩
theorem owns_nil {H : Heap} {l : Names} {vs : List PV} (h : Owns H l vs []) : vs = [] ∧ l = [] := by cases h; exact ⟨rfl, rfl⟩
theorem owns_cons {H : Heap} {l : Names} {vs ps : List PV} {p : PV} (h : Owns H l vs (p :: ps)) : ∃ v us l1 l2, vs = v :: us ∧ l = l1 ++ l2 ∧ Own H l1 v p ∧ Owns H l2 us ps := by cases h with | cons h hs => exact ⟨_, _, _, _, rfl, rfl, h, hs⟩

mutual
/-- Nothing in it has a row. -/
def flat : PV → Bool
  | .bool _ | .int .. | .str _ => true
  | .agg cs => flats cs
  | _ => false
def flats : List PV → Bool
  | [] => true
  | p :: r => flat p && flats r
end
mutual
theorem own_flat {H : Heap} : ∀ {l : Names} {v p : PV}, Own H l v p → flat p = true → v = p ∧ l = []
  | _, _, _, .bool b, _ => ⟨rfl, rfl⟩
  | _, _, _, .int k n, _ => ⟨rfl, rfl⟩
  | _, _, _, .str s, _ => ⟨rfl, rfl⟩
  | _, _, _, .agg h, k => by obtain ⟨rfl, rfl⟩ := owns_flat h (by simpa [flat] using k); exact ⟨rfl, rfl⟩
  | _, _, _, .empty f, k => by simp [flat] at k
  | _, _, _, .row .., k => by simp [flat] at k
theorem owns_flat {H : Heap} : ∀ {l : Names} {vs ps : List PV}, Owns H l vs ps → flats ps = true → vs = ps ∧ l = []
  | _, _, _, .nil, _ => ⟨rfl, rfl⟩
  | _, _, _, .cons h hs, k => by
    simp only [flats, Bool.and_eq_true] at k
    obtain ⟨rfl, rfl⟩ := own_flat h k.1
    obtain ⟨rfl, rfl⟩ := owns_flat hs k.2
    exact ⟨rfl, rfl⟩
end
mutual
theorem flat_own {H : Heap} : ∀ {p : PV}, flat p = true → Own H [] p p
  | .bool b, _ => .bool b
  | .int k n, _ => .int k n
  | .str s, _ => .str s
  | .agg cs, h => .agg (flats_owns (by simpa [flat] using h))
  | .tuple _, h | .slice .., h | .sref .., h | .cptr .., h | .ptr .., h | .nilptr, h | .func .., h | .nilfunc, h | .mref .., h | .nilmap, h | .iface .., h | .niliface, h => by simp [flat] at h
theorem flats_owns {H : Heap} : ∀ {ps : List PV}, flats ps = true → Owns H [] ps ps
  | [], _ => .nil
  | p :: r, h => by
    simp only [flats, Bool.and_eq_true] at h
    have := Owns.cons (flat_own (H := H) h.1) (flats_owns (H := H) h.2)
    simpa using this
end
/-- An owned list is empty or a row. -/
theorem own_slice {H : Heap} {l : Names} {v : PV} {ps : List PV} (h : Own H l v (.slice false ps)) : (ps = [] ∧ l = [] ∧ ∃ f, v = .slice f []) ∨
    ∃ a d ver fz n off len es m, v = .sref a d ver n off len ∧ l = (a, d) :: m ∧ H.get a d = ⟨ver, fz, .arr es⟩ ∧ fz ≤ off ∧ off + len ≤ es.length ∧ Owns H m ((es.drop off).take len) ps := by
  cases h with
  | empty f => exact .inl ⟨rfl, rfl, f, rfl⟩
  | row hg hz hl h => exact .inr ⟨_, _, _, _, _, _, _, _, _, rfl, rfl, hg, hz, hl, h⟩
end Go.V
