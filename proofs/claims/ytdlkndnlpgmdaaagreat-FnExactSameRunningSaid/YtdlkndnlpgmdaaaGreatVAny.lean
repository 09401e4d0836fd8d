/- In a region that passes the check every order gives what the text order gives. No condition. -/
import Derived.Test.YtdlkndnlpgmdaaaGreatVDraw
/-! V's textual walk of a region serves every order: the argument over V's own states. -/
namespace Go.V
open Go
set_option linter.unusedSimpArgs false
set_option linter.unusedVariables false

section
variable {C : Cfg} {ops : Array Oper} {n a : Nat}

/-- What operation `o` leaves, its guard looked at. -/
def stepV (C : Cfg) (ops : Array Oper) (n a : Nat) (o : Oper) (env : Env) (H : Heap) : Option (PV × Heap) :=
  (wantedP ops.toList env o).bind fun b => if b then evOp C n a env H o else some (.void, H)
def aStep (C : Cfg) (ops : Array Oper) (n a : Nat) (i : Nat) (env : Env) (H : Heap) : Option (Env × Heap) :=
  match ops[i]? with
  | none => some (env, H)
  | some o => (stepV C ops n a o env H).map fun x => (env.put o.dst x.1, x.2)
def AnyA (C : Cfg) (ops : Array Oper) (n a : Nat) (Q : Env → Heap → Prop) : Nat → Array Bool → Env → Heap → Prop
  | 0, listed, env, H => Region.ready .any ops listed = [] ∧ Q env H
  | fuel + 1, listed, env, H => (Region.ready .any ops listed = [] → Q env H) ∧
    ∀ i ∈ Region.ready .any ops listed, ∃ env' H', aStep C ops n a i env H = some (env', H') ∧ AnyA C ops n a Q fuel (listed.setIfInBounds i true) env' H'

theorem wantedP_congr {env env' : Env} (o : Oper) (h : ∀ d, d ∈ o.looksAt ops → env d = env' d) : wantedP ops.toList env o = wantedP ops.toList env' o := by
  unfold wantedP
  cases hg : o.guard with
  | none => rfl
  | some x =>
    obtain ⟨j, want⟩ := x
    cases hd : (ops.toList[j]?).bind (·.dst) with
    | none => simp only [hd, Option.map_none]
    | some d =>
      have : d ∈ o.looksAt ops := by
        unfold Oper.looksAt
        rw [hg]
        refine List.mem_append_right _ ?_
        have hd' : (ops[j]?).bind (·.dst) = some d := by simpa using hd
        simp [hd']
      simp only [hd, Option.map_some, h d this]
theorem stepV_congr {env env' : Env} {H : Heap} (o : Oper) (h : ∀ d, d ∈ o.looksAt ops → env d = env' d) : stepV C ops n a o env H = stepV C ops n a o env' H := by
  unfold stepV
  rw [wantedP_congr o h]
  congr 1; funext b
  cases b
  · rfl
  · simp only [if_true]
    refine evOp_congr o fun x hx t ht => h t ?_
    unfold Oper.looksAt
    refine List.mem_append_left _ (List.mem_filterMap.2 ⟨x, by simpa using hx, by rw [ht]⟩)
theorem stepV_put {env : Env} {H : Heap} {x y : Oper} (hap : x.apart ops y = true) (v : PV) : stepV C ops n a y (env.put x.dst v) H = stepV C ops n a y env H := by
  obtain ⟨h1, h2, h3⟩ := Oper.apart_spec hap
  exact stepV_congr y fun d hd => put_other env x.dst v d fun e he hde => h1 e he (hde ▸ hd)

/-- The properties by kind. -/
theorem stepV0 {env : Env} {H H' : Heap} {o : Oper} {v : PV} (hk : kOf C o = 0) (h : stepV C ops n a o env H = some (v, H')) : H' = H ∧ ∀ H2, stepV C ops n a o env H2 = some (v, H2) := by
  unfold stepV at *
  simp only [Option.bind_eq_some_iff] at *
  obtain ⟨b, hb, h⟩ := h
  cases b
  · simp only [Bool.false_eq_true, if_false, Option.some.injEq, Prod.mk.injEq] at h
    obtain ⟨rfl, rfl⟩ := h
    exact ⟨rfl, fun H2 => ⟨false, hb, rfl⟩⟩
  · simp only [if_true] at h
    obtain ⟨h1, h2⟩ := kind0 hk h
    exact ⟨h1, fun H2 => ⟨true, hb, by simp only [if_true]; exact h2 H2⟩⟩
theorem stepV1 {env : Env} {H H' : Heap} {o : Oper} {v : PV} (hk : kOf C o = 1) (h : stepV C ops n a o env H = some (v, H')) : H' = H ∧ ∀ H2, H.le H2 → stepV C ops n a o env H2 = some (v, H2) := by
  unfold stepV at *
  simp only [Option.bind_eq_some_iff] at *
  obtain ⟨b, hb, h⟩ := h
  cases b
  · simp only [Bool.false_eq_true, if_false, Option.some.injEq, Prod.mk.injEq] at h
    obtain ⟨rfl, rfl⟩ := h
    exact ⟨rfl, fun H2 _ => ⟨false, hb, rfl⟩⟩
  · simp only [if_true] at h
    obtain ⟨h1, h2⟩ := kind1 hk h
    exact ⟨h1, fun H2 hle => ⟨true, hb, by simp only [if_true]; exact h2 H2 hle⟩⟩
theorem stepV2 {env : Env} {H H' : Heap} {o : Oper} {v : PV} (hk : kOf C o = 2) (h : stepV C ops n a o env H = some (v, H')) :
    (H' = H ∧ ∀ H2, stepV C ops n a o env H2 = some (v, H2)) ∨ ∃ d es, o.dst = some d ∧ H' = H.newArr a d es ∧ ∀ H2 : Heap, H2.get a d = H.get a d → stepV C ops n a o env H2 = some (v, H2.newArr a d es) := by
  unfold stepV at *
  simp only [Option.bind_eq_some_iff] at *
  obtain ⟨b, hb, h⟩ := h
  cases b
  · simp only [Bool.false_eq_true, if_false, Option.some.injEq, Prod.mk.injEq] at h
    obtain ⟨rfl, rfl⟩ := h
    exact .inl ⟨rfl, fun H2 => ⟨false, hb, rfl⟩⟩
  · simp only [if_true] at h
    obtain ⟨d, es, hd, h1, h2⟩ := kind2 hk h
    exact .inr ⟨d, es, hd, h1, fun H2 he => ⟨true, hb, by simp only [if_true]; exact h2 H2 he⟩⟩

/-- The objects that the region is yet to make do not live. -/
def Dead (C : Cfg) (ops : Array Oper) (a : Nat) (listed : Array Bool) (H : Heap) : Prop :=
  ∀ (j : Nat) o, ops[j]? = some o → kOf C o = 2 → listed.getD j false = false → ∀ d, o.dst = some d → (H.get a d).body = .dead

theorem newArr_le {H : Heap} {d : Nat} {es : List PV} (h : (H.get a d).body = .dead) : H.le (H.newArr a d es) := by
  intro a' d' ver l hl
  unfold Heap.arr? at *
  by_cases he : a' = a ∧ d' = d
  · obtain ⟨rfl, rfl⟩ := he
    rw [h] at hl
    split at hl <;> cases hl
  · have : (H.newArr a d es).get a' d' = H.get a' d' := by simp [Heap.newArr, Heap.set, he]
    rw [this]; exact hl
theorem newArr_comm {H : Heap} {d e : Nat} {xs ys : List PV} (h : d ≠ e) : (H.newArr a d xs).newArr a e ys = (H.newArr a e ys).newArr a d xs := by
  have h1 : (H.newArr a d xs).get a e = H.get a e := by simp [Heap.newArr, Heap.set, Ne.symm h]
  have h2 : (H.newArr a e ys).get a d = H.get a d := by simp [Heap.newArr, Heap.set, h]
  unfold Heap.newArr at h1 h2 ⊢
  rw [h1, h2]
  unfold Heap.set
  congr 1
  funext a' d'
  by_cases e1 : a' = a ∧ d' = e <;> by_cases e2 : a' = a ∧ d' = d <;> simp [e1, e2] <;> omega

theorem set_newArr {H : Heap} {d e : Nat} {o : Obj} {ys : List PV} (h : d ≠ e) : (H.set a d o).newArr a e ys = (H.newArr a e ys).set a d o := by
  have h1 : (H.set a d o).get a e = H.get a e := by simp [Heap.set, Ne.symm h]
  unfold Heap.newArr
  rw [h1]
  unfold Heap.set
  congr 1
  funext a' d'
  by_cases e1 : a' = a ∧ d' = e <;> by_cases e2 : a' = a ∧ d' = d <;> simp [e1, e2] <;> omega
theorem set_set {H : Heap} {d e : Nat} {o o' : Obj} (h : d ≠ e) : (H.set a d o).set a e o' = (H.set a e o').set a d o := by
  unfold Heap.set
  congr 1
  funext a' d'
  by_cases e1 : a' = a ∧ d' = e <;> by_cases e2 : a' = a ∧ d' = d <;> simp [e1, e2] <;> omega

/-! ### Stores into what the region itself makes -/
theorem ownOf_spec {o : Oper} {d k : Nat} (h : ownOf ops o = some (d, k)) : (∃ t v, o.op = .store t (.tmp d) v) ∧ ∃ ok, ops[k]? = some ok ∧ isNew d ok = true := by
  unfold ownOf at h
  split at h
  · rename_i t d' v hop
    simp only [Option.map_eq_some_iff, Prod.mk.injEq] at h
    obtain ⟨k', hk, rfl, rfl⟩ := h
    have := List.find?_some hk
    refine ⟨⟨t, v, hop⟩, ?_⟩
    split at this
    · rename_i ok hok; exact ⟨ok, hok, this⟩
    · cases this
  · cases h
theorem isNew_spec {d : Nat} {o : Oper} (h : isNew d o = true) : o.dst = some d ∧ o.guard = none ∧ kOf C o = 2 := by
  unfold isNew at h
  simp only [Bool.and_eq_true, beq_iff_eq, Option.isNone_iff_eq_none] at h
  refine ⟨h.1.1, h.1.2, ?_⟩
  have h2 := h.2
  unfold kOf
  split at h2
  · rename_i hop; simp [hop]
  · rename_i hop; simp [hop]
  · cases h2
/-- What the region has made lies under its name. -/
def PtrInv (ops : Array Oper) (a : Nat) (listed : Array Bool) (env : Env) : Prop :=
  ∀ (k : Nat) ok d, ops[k]? = some ok → isNew d ok = true → listed.getD k false = true → ∃ ver idx off, env d = .ptr a d ver idx off
theorem stepV5 {env : Env} {H H' : Heap} {o : Oper} {v : PV} {d k : Nat} (hk : ownOf ops o = some (d, k)) (hp : ∃ ver idx off, env d = .ptr a d ver idx off) (h : stepV C ops n a o env H = some (v, H')) :
    (H' = H ∧ ∀ H2, stepV C ops n a o env H2 = some (v, H2)) ∨ ∃ o', H' = H.set a d o' ∧ ∀ H2 : Heap, H2.get a d = H.get a d → stepV C ops n a o env H2 = some (v, H2.set a d o') := by
  obtain ⟨⟨t, x, hop⟩, _⟩ := ownOf_spec hk
  obtain ⟨ver, idx, off, hp⟩ := hp
  unfold stepV at *
  simp only [Option.bind_eq_some_iff] at *
  obtain ⟨b, hb, h⟩ := h
  cases b
  · simp only [Bool.false_eq_true, if_false, Option.some.injEq, Prod.mk.injEq] at h
    obtain ⟨rfl, rfl⟩ := h
    exact .inl ⟨rfl, fun H2 => ⟨false, hb, rfl⟩⟩
  · right
    simp only [if_true] at h
    cases n with
    | zero => simp [evOp] at h
    | succ n =>
      obtain ⟨dst, op, ty, pos, aft, g⟩ := o
      simp only at hop
      subst hop
      simp only [evOp, opP, evalO, Option.bind_some, Option.bind_eq_some_iff, Option.map_eq_some_iff, Prod.mk.injEq, hp] at h
      obtain ⟨q, hq, H2, hH, rfl, rfl⟩ := h
      unfold storeP at hH
      simp only [Option.bind_eq_some_iff] at hH
      obtain ⟨es, hes, e, he, hH⟩ := hH
      split at hH
      · rename_i hfz
        simp only [Option.bind_eq_some_iff, Option.map_eq_some_iff] at hH
        obtain ⟨i, hi, cs, hcs, e', he', rfl⟩ := hH
        refine ⟨_, rfl, fun H3 hg => ⟨true, hb, ?_⟩⟩
        simp only [if_true, evOp, opP, evalO, Option.bind_some, Option.bind_eq_some_iff, Option.map_eq_some_iff, Prod.mk.injEq, hp]
        refine ⟨q, hq, _, ?_, by trivial⟩
        unfold storeP
        have hes3 : H3.arr? a d ver = some es := by unfold Heap.arr? at *; rw [hg]; exact hes
        simp only [hes3, Option.bind_some, he, hg, if_pos hfz, hi, hcs, he', Option.map_some]
      · cases hH

/-- The heap without some names. -/
def drop (a : Nat) (D : List Nat) (H : Heap) : Heap := ⟨H.acts, fun a' d' => if a' = a ∧ d' ∈ D then ⟨(H.get a' d').ver, 0, .dead⟩ else H.get a' d'⟩
theorem le_refl' (H : Heap) : H.le H := fun _ _ _ _ h => h
theorem le_trans' {H H2 H3 : Heap} (h : H.le H2) (k : H2.le H3) : H.le H3 := fun a d ver es he => k a d ver es (h a d ver es he)
theorem drop_arr {D : List Nat} {H : Heap} {a' d' ver : Nat} {es : List PV} (h : (drop a D H).arr? a' d' ver = some es) : ¬ (a' = a ∧ d' ∈ D) ∧ H.arr? a' d' ver = some es := by
  by_cases hd : a' = a ∧ d' ∈ D
  · exfalso
    unfold Heap.arr? drop at h
    simp only [if_pos hd] at h
    split at h <;> cases h
  · refine ⟨hd, ?_⟩
    unfold Heap.arr? drop at h
    simp only [if_neg hd] at h
    exact h
theorem drop_le (a : Nat) (D : List Nat) (H : Heap) : (drop a D H).le H := fun a' d' ver es h => (drop_arr h).2
theorem arr_drop {D : List Nat} {H : Heap} {a' d' ver : Nat} {es : List PV} (hd : ¬ (a' = a ∧ d' ∈ D)) (h : H.arr? a' d' ver = some es) : (drop a D H).arr? a' d' ver = some es := by
  unfold Heap.arr? drop
  simp only [if_neg hd]
  exact h
theorem le_drop {D : List Nat} {H : Heap} (h : ∀ d ∈ D, (H.get a d).body = .dead) : H.le (drop a D H) := fun a' d' ver es he => by
  refine arr_drop (fun hd => ?_) he
  obtain ⟨rfl, hd⟩ := hd
  unfold Heap.arr? at he
  rw [h d' hd] at he
  split at he <;> cases he
theorem drop_set {D : List Nat} {H : Heap} {d : Nat} {o : Obj} (h : d ∈ D) : (drop a D H).le (drop a D (H.set a d o)) := fun a' d' ver es he => by
  obtain ⟨hd, h1⟩ := drop_arr he
  refine arr_drop hd ?_
  have : ¬ (a' = a ∧ d' = d) := fun e => hd ⟨e.1, e.2 ▸ h⟩
  unfold Heap.arr? at *
  simpa [Heap.set, this] using h1
theorem drop_set' {D : List Nat} {H : Heap} {d : Nat} {o : Obj} (h : d ∈ D) : (drop a D H).le (H.set a d o) := le_trans' (drop_set h) (drop_le a D _)
theorem drop_newArr {D : List Nat} {H : Heap} {d : Nat} {es : List PV} (h : (H.get a d).body = .dead) : (drop a D H).le (drop a D (H.newArr a d es)) := fun a' d' ver l he => by
  obtain ⟨hd, h1⟩ := drop_arr he
  exact arr_drop hd (newArr_le h a' d' ver l h1)

/-- The names that an operation that reads must not meet. -/
def avoid (ops : Array Oper) (i : Nat) : List Nat := (List.range ops.size).filterMap fun j => if i < j ∧ anc ops j i = false then (match ops[j]? with | some oj => (ownOf ops oj).map (·.1) | none => none) else none
theorem mem_avoid {i j d k : Nat} {oj : Oper} (hj : ops[j]? = some oj) (hij : i < j) (hanc : anc ops j i = false) (ho : ownOf ops oj = some (d, k)) : d ∈ avoid ops i := by
  unfold avoid
  refine List.mem_filterMap.2 ⟨j, List.mem_range.2 (Array.getElem?_eq_some_iff.1 hj).1, ?_⟩
  rw [if_pos ⟨hij, hanc⟩, hj]
  show (ownOf ops oj).map (·.1) = some d
  rw [ho]
  rfl
theorem avoid_spec {i d : Nat} (h : d ∈ avoid ops i) : ∃ j oj k, ops[j]? = some oj ∧ i < j ∧ anc ops j i = false ∧ ownOf ops oj = some (d, k) := by
  unfold avoid at h
  obtain ⟨j, _, hj⟩ := List.mem_filterMap.1 h
  split at hj
  · rename_i hc
    split at hj
    · rename_i oj ho
      simp only [Option.map_eq_some_iff] at hj
      obtain ⟨⟨d', k⟩, h1, rfl⟩ := hj
      exact ⟨j, oj, k, ho, hc.1, hc.2, h1⟩
    · cases hj
  · cases hj
/-- An operation that reads does so without the names that it must not meet. -/
def Safe (C : Cfg) (ops : Array Oper) (n a i : Nat) (o : Oper) (env : Env) (H : Heap) : Prop := kOf C o = 1 → ∃ r, stepV C ops n a o env (drop a (avoid ops i) H) = some r

/-- Two operations that need not wait for each other: the second may come first. -/
theorem comm_step {x y : Oper} {i j : Nat} {env : Env} {H H1 H2 : Heap} {v u : PV} (hj : ops[j]? = some y) (hij : i < j) (hanc : anc ops j i = false) (hap : x.apart ops y = true) (hap2 : y.apart ops x = true)
    (hp : pairOk (kOf C x) (kOf C y) = true ∨ pairOwn C ops i x j y = true)
    (hdead : kOf C y = 2 → ∀ d, y.dst = some d → (H.get a d).body = .dead) (hsafe : Safe C ops n a i x env H)
    (hpx : ∀ d k, ownOf ops x = some (d, k) → anc ops i k = true → ∃ ver idx off, env d = .ptr a d ver idx off) (hpy : ∀ d k, ownOf ops y = some (d, k) → anc ops j k = true → ∃ ver idx off, env d = .ptr a d ver idx off)
    (h1 : stepV C ops n a x env H = some (v, H1)) (h2 : stepV C ops n a y (env.put x.dst v) H1 = some (u, H2)) :
    ∃ H3, stepV C ops n a y env H = some (u, H3) ∧ stepV C ops n a x (env.put y.dst u) H3 = some (v, H2) := by
  rw [stepV_put hap] at h2
  have hx : ∀ K, stepV C ops n a x (env.put y.dst u) K = stepV C ops n a x env K := fun K => stepV_put hap2 u
  simp only [hx]
  rcases hp with hp | hp
  · unfold pairOk at hp
    by_cases k0 : kOf C x = 0
    · obtain ⟨rfl, h3⟩ := stepV0 k0 h1
      exact ⟨H2, h2, h3 H2⟩
    by_cases k0' : kOf C y = 0
    · obtain ⟨rfl, h3⟩ := stepV0 k0' h2
      exact ⟨H, h3 H, h1⟩
    simp only [Bool.or_eq_true, beq_iff_eq, k0, k0', false_or, Bool.and_eq_true] at hp
    rcases hp with ⟨kx, ky | ky⟩ | ⟨kx, ky⟩
    · obtain ⟨rfl, h3⟩ := stepV1 kx h1
      obtain ⟨rfl, h4⟩ := stepV1 ky h2
      exact ⟨_, h2, h1⟩
    · obtain ⟨rfl, h3⟩ := stepV1 kx h1
      rcases stepV2 ky h2 with ⟨rfl, h4⟩ | ⟨d, es, hd, rfl, h4⟩
      · exact ⟨_, h2, h1⟩
      · exact ⟨_, h2, h3 _ (newArr_le (hdead ky d hd))⟩
    · rcases stepV2 kx h1 with ⟨rfl, h3⟩ | ⟨d, es, hd, rfl, h3⟩
      · exact ⟨H2, h2, h3 H2⟩
      · rcases stepV2 ky h2 with ⟨rfl, h4⟩ | ⟨e, ys, he, rfl, h4⟩
        · exact ⟨H, h4 H, h3 H rfl⟩
        · have hde : d ≠ e := fun h => (Oper.apart_spec hap).2.1 d hd (by rw [he, h])
          refine ⟨H.newArr a e ys, h4 H ?_, ?_⟩
          · simp [Heap.newArr, Heap.set, Ne.symm hde]
          · rw [h3 (H.newArr a e ys) (by simp [Heap.newArr, Heap.set, hde]), newArr_comm hde]
  · unfold pairOwn at hp
    split at hp
    · rename_i d k d' k' ho ho'
      simp only [Bool.and_eq_true, bne_iff_ne, ne_eq] at hp
      obtain ⟨⟨hne, hk⟩, hk'⟩ := hp
      rcases stepV5 ho (hpx d k ho hk) h1 with ⟨rfl, h3⟩ | ⟨o', rfl, h3⟩
      · exact ⟨H2, h2, h3 H2⟩
      · rcases stepV5 ho' (hpy d' k' ho' hk') h2 with ⟨rfl, h4⟩ | ⟨o2, rfl, h4⟩
        · exact ⟨H, h4 H, h3 H rfl⟩
        · refine ⟨H.set a d' o2, h4 H (by simp [Heap.set, Ne.symm hne]), ?_⟩
          rw [h3 (H.set a d' o2) (by simp [Heap.set, hne]), set_set hne]
    · rename_i d k ho ho'
      simp only [Bool.and_eq_true, Bool.or_eq_true, beq_iff_eq, bne_iff_ne, ne_eq, decide_eq_true_eq] at hp
      obtain ⟨hk, hp⟩ := hp
      rcases hp with ⟨kx, hne⟩ | ⟨kx, hlt⟩
      · rcases stepV2 kx h1 with ⟨rfl, h3⟩ | ⟨e, es, hd, rfl, h3⟩
        · exact ⟨H2, h2, h3 H2⟩
        · have hde : d ≠ e := fun h => hne (by rw [hd, h])
          rcases stepV5 ho' (hpy d k ho' hk) h2 with ⟨rfl, h4⟩ | ⟨o2, rfl, h4⟩
          · exact ⟨H, h4 H, h3 H rfl⟩
          · refine ⟨H.set a d o2, h4 H (by simp [Heap.newArr, Heap.set, hde]), ?_⟩
            rw [h3 (H.set a d o2) (by simp [Heap.set, Ne.symm hde]), set_newArr hde]
      · obtain ⟨rfl, h3⟩ := stepV1 kx h1
        rcases stepV5 ho' (hpy d k ho' hk) h2 with ⟨rfl, h4⟩ | ⟨o2, rfl, h4⟩
        · exact ⟨_, h2, h1⟩
        · refine ⟨_, h2, ?_⟩
          obtain ⟨⟨v', K⟩, hs⟩ := hsafe kx
          obtain ⟨rfl, hs2⟩ := stepV1 kx hs
          have e1 := hs2 _ (drop_le a (avoid ops i) _)
          rw [h1] at e1
          simp only [Option.some.injEq, Prod.mk.injEq] at e1
          rw [e1.1]
          exact hs2 _ (drop_set' (mem_avoid hj hij hanc ho'))
    · rename_i d k ho ho'
      simp only [Bool.and_eq_true, beq_iff_eq, bne_iff_ne, ne_eq] at hp
      obtain ⟨⟨hk, ky⟩, hne⟩ := hp
      rcases stepV5 ho (hpx d k ho hk) h1 with ⟨rfl, h3⟩ | ⟨o', rfl, h3⟩
      · exact ⟨H2, h2, h3 H2⟩
      · rcases stepV2 ky h2 with ⟨rfl, h4⟩ | ⟨e, ys, he, rfl, h4⟩
        · exact ⟨H, h4 H, h3 H rfl⟩
        · have hde : d ≠ e := fun h => hne (by rw [he, h])
          refine ⟨H.newArr a e ys, h4 H (by simp [Heap.set, Ne.symm hde]), ?_⟩
          rw [h3 (H.newArr a e ys) (by simp [Heap.newArr, Heap.set, hde]), set_newArr hde]
    · cases hp

theorem builtinP_append {ts : List TypeId} {a : Nat} {d : Option Nat} {H : Heap} {ps : List PV} {r : PV × Heap} (h : builtinP C .append ts a d H ps = some r) :
    ∃ t u s x d', d = some d' ∧ appendP C.P t u a d' H s x = some r := by
  unfold builtinP at h
  split at h
  · rename_i heq; cases heq
  · simp only [Option.bind_eq_some_iff] at h
    obtain ⟨d', hd', h⟩ := h
    exact ⟨_, _, _, _, d', hd', h⟩
  · rename_i heq; cases heq
  · rename_i heq; cases heq
  · cases h
/-- What a store or an append leaves dead. -/
theorem dead_keep {o : Oper} {env : Env} {H H' : Heap} {v : PV} (hk : kOf C o ≠ 4) (h : stepV C ops n a o env H = some (v, H')) {d : Nat} (hd : o.dst ≠ some d) (hdead : (H.get a d).body = .dead) : (H'.get a d).body = .dead := by
  have hcases : kOf C o = 0 ∨ kOf C o = 1 ∨ kOf C o = 2 ∨ kOf C o = 3 := by
    unfold kOf at hk ⊢
    split <;> simp_all
  rcases hcases with k | k | k | k
  · obtain ⟨rfl, _⟩ := stepV0 k h; exact hdead
  · obtain ⟨rfl, _⟩ := stepV1 k h; exact hdead
  · rcases stepV2 k h with ⟨rfl, _⟩ | ⟨e, es, he, rfl, _⟩
    · exact hdead
    · have hne : d ≠ e := fun h => hd (by rw [he, h])
      simpa [Heap.newArr, Heap.set, hne] using hdead
  · unfold stepV at h
    simp only [Option.bind_eq_some_iff] at h
    obtain ⟨b, hb, h⟩ := h
    cases b
    · simp only [Bool.false_eq_true, if_false, Option.some.injEq, Prod.mk.injEq] at h
      obtain ⟨rfl, rfl⟩ := h
      exact hdead
    · simp only [if_true] at h
      cases n with
      | zero => simp [evOp] at h
      | succ n =>
        obtain ⟨dst, op, ty, pos, aft, g⟩ := o
        cases op <;> simp only [kOf] at k <;> (try (simp at k; done))
        case store t x y =>
          simp only [evOp, opP, Option.bind_eq_some_iff, Option.map_eq_some_iff, Prod.mk.injEq] at h
          obtain ⟨p, hp, q, hq, H2, hH, _, rfl⟩ := h
          unfold storeP at hH
          split at hH
          · rename_i a' d' ver idx off
            simp only [Option.bind_eq_some_iff] at hH
            obtain ⟨es, hes, e, he, hH⟩ := hH
            split at hH
            · simp only [Option.bind_eq_some_iff, Option.map_eq_some_iff] at hH
              obtain ⟨i, hi, cs, hcs, e', he', rfl⟩ := hH
              by_cases hee : a = a' ∧ d = d'
              · obtain ⟨rfl, rfl⟩ := hee
                unfold Heap.arr? at hes
                rw [hdead] at hes
                split at hes <;> cases hes
              · simpa [Heap.set, hee] using hdead
            · cases hH
          · cases hH
        case call c =>
          obtain ⟨callee, args, ts⟩ := c
          cases callee
          case value f => cases f <;> simp at k <;> (split at k <;> simp at k)
          case invoke => simp at k
          case builtin b =>
            cases b <;> simp at k
            simp only [evOp, opP, Option.bind_eq_some_iff] at h
            obtain ⟨ps, hps, h⟩ := h
            obtain ⟨t, u, s, x, d', hd', h⟩ := builtinP_append h
            have hne : d ≠ d' := fun e => hd (by rw [e]; exact hd')
            unfold appendP at h
            split at h
            · split at h
              · simp only [Option.bind_eq_some_iff] at h
                obtain ⟨si, hsi, h⟩ := h
                split at h
                · cases h
                · simp only [Option.bind_eq_some_iff] at h
                  obtain ⟨ys, hys, h⟩ := h
                  unfold appendTo at h
                  split at h
                  · split at h
                    · simp only [Option.some.injEq, Prod.mk.injEq] at h
                      obtain ⟨_, rfl⟩ := h; exact hdead
                    · split at h
                      · simp only [Option.some.injEq, Prod.mk.injEq] at h
                        obtain ⟨_, rfl⟩ := h
                        simpa [Heap.newArr, Heap.set, hne] using hdead
                      · cases h
                  · rename_i a0 d0 ver m off len
                    simp only [Option.bind_eq_some_iff] at h
                    obtain ⟨es, hes, h⟩ := h
                    split at h
                    · simp only [Option.some.injEq, Prod.mk.injEq] at h
                      obtain ⟨_, rfl⟩ := h
                      by_cases hee : a = a0 ∧ d = d0
                      · obtain ⟨rfl, rfl⟩ := hee
                        simp [Heap.kill, Heap.set, hne]
                      · simpa [Heap.kill, Heap.set, hne, hee] using hdead
                    · cases h
                  · cases h
              · cases h
            · cases h

/-! ### Every order -/
/-- What comes before a listed operation is listed. -/
def Inv (ops : Array Oper) (listed : Array Bool) : Prop := ∀ k, k < ops.size → listed.getD k false = true → ∀ i, anc ops k i = true → listed.getD i false = true
structure DrawOk (C : Cfg) (ops : Array Oper) : Prop where
  before : ∀ (j : Nat) oj, ops[j]? = some oj → ∀ e ∈ oj.after, Region.binds .any e = true → e.on < j
  closed : ∀ (j : Nat) oj, ops[j]? = some oj → ∀ i, anc ops j i = true → ∃ e ∈ oj.after, Region.binds .any e = true ∧ (e.on = i ∨ anc ops e.on i = true)
  pair : ∀ (j : Nat) oj, ops[j]? = some oj → ∀ (i : Nat) oi, i < j → ops[i]? = some oi → anc ops j i = false → oi.apart ops oj = true ∧ oj.apart ops oi = true ∧ (pairOk (kOf C oi) (kOf C oj) = true ∨ pairOwn C ops i oi j oj = true)
  fresh : ∀ (j : Nat) oj, ops[j]? = some oj → kOf C oj = 2 → ∀ (i : Nat) oi, i ≠ j → ops[i]? = some oi → oi.dst ≠ oj.dst ∧ kOf C oi ≠ 4

theorem Inv.ready {listed : Array Bool} (hd : DrawOk C ops) (hi : Inv ops listed) {j : Nat} (hr : j ∈ Region.ready .any ops listed) : ∀ i, anc ops j i = true → listed.getD i false = true := by
  intro i hji
  obtain ⟨h0, oj, hoj, hall⟩ := mem_ready.1 hr
  obtain ⟨e, he, hb, h⟩ := hd.closed j oj hoj i hji
  have hl := hall e he hb
  rcases h with h | h
  · rw [← h]; exact hl
  · have hlt := hd.before j oj hoj e he hb
    have hj : j < ops.size := (Array.getElem?_eq_some_iff.1 hoj).1
    exact hi e.on (by omega) hl i h
theorem Inv.set {listed : Array Bool} (hd : DrawOk C ops) (hi : Inv ops listed) {j : Nat} (hr : j ∈ Region.ready .any ops listed) : Inv ops (listed.setIfInBounds j true) := by
  intro k hk hlk i hki
  by_cases hkj : k = j
  · subst hkj
    exact getD_set_true (hi.ready hd hr i hki)
  · rw [getD_set_ne false (Ne.symm hkj)] at hlk
    exact getD_set_true (hi k hk hlk i hki)
theorem Dead.step {listed : Array Bool} {env env' : Env} {H H' : Heap} (hd : DrawOk C ops) (hsz : listed.size = ops.size) (h : Dead C ops a listed H) {j : Nat} (hs : aStep C ops n a j env H = some (env', H')) : Dead C ops a (listed.setIfInBounds j true) H' := by
  intro k ok hk hkk hl d hdst
  have hne : k ≠ j := by
    intro e
    subst e
    have hlt : k < listed.size := by rw [hsz]; exact (Array.getElem?_eq_some_iff.1 hk).1
    simp [hlt] at hl
  rw [getD_set_ne false (Ne.symm hne)] at hl
  have h0 := h k ok hk hkk hl d hdst
  unfold aStep at hs
  cases hj : ops[j]? with
  | none => rw [hj] at hs; simp only [Option.some.injEq, Prod.mk.injEq] at hs; rw [← hs.2]; exact h0
  | some oj =>
    rw [hj] at hs
    simp only [Option.map_eq_some_iff, Prod.mk.injEq] at hs
    obtain ⟨⟨v, H2⟩, hv, _, rfl⟩ := hs
    obtain ⟨h1, h2⟩ := hd.fresh k ok hk hkk j oj (Ne.symm hne) hj
    exact dead_keep h2 hv (by rw [← hdst]; exact h1) h0

theorem PtrInv.step {listed : Array Bool} {env env' : Env} {H H' : Heap} (hd : DrawOk C ops) (h : PtrInv ops a listed env) {j : Nat} (hs : aStep C ops n a j env H = some (env', H')) : PtrInv ops a (listed.setIfInBounds j true) env' := by
  intro k ok d hk hnew hl
  obtain ⟨hdst, hgd, hk2⟩ := isNew_spec (C := C) hnew
  unfold aStep at hs
  by_cases hkj : k = j
  · subst hkj
    rw [hk] at hs
    simp only [Option.map_eq_some_iff, Prod.mk.injEq] at hs
    obtain ⟨⟨v, H2⟩, hv, rfl, rfl⟩ := hs
    have hv2 : ∃ ver, v = .ptr a d ver 0 0 := by
      unfold stepV at hv
      simp only [Option.bind_eq_some_iff] at hv
      obtain ⟨b, hb, hv⟩ := hv
      have hbt : b = true := by
        unfold wantedP at hb
        rw [hgd] at hb
        simpa using hb.symm
      subst hbt
      simp only [if_true] at hv
      cases n with
      | zero => simp [evOp] at hv
      | succ n =>
        obtain ⟨dst, op, ty, pos, aft, g⟩ := ok
        simp only at hdst
        subst hdst
        unfold isNew at hnew
        simp only [Bool.and_eq_true] at hnew
        have hop := hnew.2
        split at hop
        · simp only [evOp, opP, Option.bind_some, Option.bind_eq_some_iff] at hv
          obtain ⟨z, hz, hv⟩ := hv
          split at hv
          · simp only [Option.some.injEq, Prod.mk.injEq] at hv
            exact ⟨_, hv.1.symm⟩
          · cases hv
        · simp only [evOp, opP, Option.bind_some, Option.bind_eq_some_iff] at hv
          obtain ⟨z, hz, hv⟩ := hv
          split at hv
          · simp only [Option.some.injEq, Prod.mk.injEq] at hv
            exact ⟨_, hv.1.symm⟩
          · cases hv
        · cases hop
    obtain ⟨ver, rfl⟩ := hv2
    rw [hdst]
    exact ⟨ver, 0, 0, by show (if d = d then _ else _) = _; rw [if_pos rfl]⟩
  · rw [getD_set_ne false (Ne.symm hkj)] at hl
    obtain ⟨ver, idx, off, he⟩ := h k ok d hk hnew hl
    cases hj : ops[j]? with
    | none => rw [hj] at hs; simp only [Option.some.injEq, Prod.mk.injEq] at hs; rw [← hs.1]; exact ⟨ver, idx, off, he⟩
    | some oj =>
      rw [hj] at hs
      simp only [Option.map_eq_some_iff, Prod.mk.injEq] at hs
      obtain ⟨⟨v, H2⟩, hv, rfl, rfl⟩ := hs
      have hne := (hd.fresh k ok hk hk2 j oj (Ne.symm hkj) hj).1
      refine ⟨ver, idx, off, ?_⟩
      rw [put_other env oj.dst v d fun e hoe hde => hne (by rw [hoe, hdst, hde])]
      exact he

/-- **The operation that comes first in the text may be taken first.** -/
theorem anyA_first {Q : Env → Heap → Prop} (hd : DrawOk C ops) {i : Nat} {oi : Oper} (hi : ops[i]? = some oi) : ∀ (fuel : Nat) (listed : Array Bool) (env env1 : Env) (H H1 : Heap), listed.size = ops.size → Inv ops listed → Dead C ops a listed H → PtrInv ops a listed env → Safe C ops n a i oi env H →
    (∀ j, j < i → listed.getD j false = true) → i ∈ Region.ready .any ops listed → aStep C ops n a i env H = some (env1, H1) →
    AnyA C ops n a Q fuel (listed.setIfInBounds i true) env1 H1 → AnyA C ops n a Q (fuel + 1) listed env H := by
  intro fuel
  induction fuel with
  | zero =>
    intro listed env env1 H H1 hsz hinv hdead hptr hsafe hbef hr hst hA
    refine ⟨(fun h => by rw [h] at hr; cases hr), fun j hj => ?_⟩
    by_cases hji : j = i
    · subst hji; exact ⟨env1, H1, hst, hA⟩
    · have := ready_mono hj hji
      rw [hA.1] at this
      cases this
  | succ fuel ih =>
    intro listed env env1 H H1 hsz hinv hdead hptr hsafe hbef hr hst hA
    refine ⟨(fun h => by rw [h] at hr; cases hr), fun j hj => ?_⟩
    by_cases hji : j = i
    · subst hji; exact ⟨env1, H1, hst, hA⟩
    · obtain ⟨env2, H2, hst2, hA2⟩ := hA.2 j (ready_mono hj hji)
      obtain ⟨hjun, oj, hoj, hall⟩ := mem_ready.1 hj
      have hiun := (mem_ready.1 hr).1
      have hisz : i < listed.size := by rw [hsz]; exact (Array.getElem?_eq_some_iff.1 hi).1
      have hjsz : j < listed.size := by rw [hsz]; exact (Array.getElem?_eq_some_iff.1 hoj).1
      have hij : i < j := by
        rcases Nat.lt_or_ge i j with h | h
        · exact h
        · have := hbef j (by omega)
          simp [hjsz] at this hjun
          rw [this] at hjun; cases hjun
      have hanc : anc ops j i = false := by
        cases h : anc ops j i with
        | false => rfl
        | true =>
          have := hinv.ready hd hj i h
          simp [hisz] at this hiun
          rw [this] at hiun; cases hiun
      obtain ⟨hap, hap2, hp⟩ := hd.pair j oj hoj i oi hij hi hanc
      unfold aStep at hst hst2
      rw [hi] at hst
      rw [hoj] at hst2
      simp only [Option.map_eq_some_iff, Prod.mk.injEq] at hst hst2
      obtain ⟨⟨v, H1'⟩, hv, rfl, rfl⟩ := hst
      obtain ⟨⟨u, H2'⟩, hu, rfl, rfl⟩ := hst2
      have hown : ∀ {x : Nat} {ox : Oper} {d k : Nat}, ops[x]? = some ox → x ∈ Region.ready .any ops listed → ownOf ops ox = some (d, k) → anc ops x k = true → ∃ ver idx off, env d = .ptr a d ver idx off := fun hx hrx ho hk => by
        obtain ⟨_, ok, hok, hnew⟩ := ownOf_spec ho
        exact hptr _ ok _ hok hnew (hinv.ready hd hrx _ hk)
      have hyd : kOf C oj = 2 → ∀ d, oj.dst = some d → (H.get a d).body = .dead := fun hk d hdst => hdead j oj hoj hk (by simp [hjsz] at hjun ⊢; exact hjun) d hdst
      obtain ⟨H3, h3, h4⟩ := comm_step hoj hij hanc hap hap2 hp hyd hsafe (fun d k ho hk => hown hi hr ho hk) (fun d k ho hk => hown hoj hj ho hk) hv hu
      have hsj : aStep C ops n a j env H = some (env.put oj.dst u, H3) := by
        unfold aStep; rw [hoj]; simp only [h3, Option.map_some]
      refine ⟨env.put oj.dst u, H3, hsj, ?_⟩
      have hsafe2 : Safe C ops n a i oi (env.put oj.dst u) H3 := fun kx => by
        obtain ⟨⟨v', K⟩, hs⟩ := hsafe kx
        rw [stepV_put hap2]
        obtain ⟨rfl, hs2⟩ := stepV1 kx hs
        have hcases : (drop a (avoid ops i) H).le (drop a (avoid ops i) H3) := by
          rcases hp with hp | hp
          · unfold pairOk at hp
            simp only [kx, Bool.or_eq_true, beq_iff_eq, Bool.and_eq_true] at hp
            by_cases k0 : kOf C oj = 0
            · obtain ⟨rfl, _⟩ := stepV0 k0 h3; exact le_refl' _
            by_cases k1 : kOf C oj = 1
            · obtain ⟨rfl, _⟩ := stepV1 k1 h3; exact le_refl' _
            have k2 : kOf C oj = 2 := by
              rcases hp with ((h | h) | ⟨_, h | h⟩) | ⟨h, _⟩
              · cases h
              · exact absurd h k0
              · exact absurd h k1
              · exact h
              · cases h
            rcases stepV2 k2 h3 with ⟨rfl, _⟩ | ⟨d, es, hdd, rfl, _⟩
            · exact le_refl' _
            · exact drop_newArr (hyd k2 d hdd)
          · unfold pairOwn at hp
            have hstore : ∀ {x : Oper} {d k : Nat}, ownOf ops x = some (d, k) → kOf C x = 3 := fun ho => by
              obtain ⟨⟨t, w, hop⟩, _⟩ := ownOf_spec ho
              unfold kOf; rw [hop]
            split at hp
            · rename_i d k d' k' ho ho'
              have := hstore ho; omega
            · rename_i d k ho ho'
              simp only [Bool.and_eq_true] at hp
              rcases stepV5 ho' (hown hoj hj ho' hp.1) h3 with ⟨rfl, _⟩ | ⟨o2, rfl, _⟩
              · exact le_refl' _
              · exact drop_set (mem_avoid hoj hij hanc ho')
            · rename_i d k ho ho'
              have := hstore ho; omega
            · cases hp
        exact ⟨_, hs2 _ hcases⟩
      refine ih (listed.setIfInBounds j true) (env.put oj.dst u) _ H3 _ (by simpa using hsz) (hinv.set hd hj) (hdead.step hd hsz hsj) (hptr.step hd hsj) hsafe2 (fun k hk => getD_set_true (hbef k hk)) (ready_mono hr (Ne.symm hji)) (by
        unfold aStep; rw [hi]; simp only [h4, Option.map_some]; rfl) ?_
      have hpc := put_comm env oi.dst oj.dst v u fun x hx => (Oper.apart_spec hap).2.1 x hx
      rw [Array.setIfInBounds_comm _ _ hji, ← hpc]
      exact hA2

/-- The textual walk. -/
def lexed (m k : Nat) : Array Bool := ((List.range m).map fun i => decide (i < k)).toArray
theorem lexed_size (m k : Nat) : (lexed m k).size = m := by simp [lexed]
theorem lexed_get {m k i : Nat} (h : i < m) (d : Bool) : (lexed m k).getD i d = decide (i < k) := by
  simp [lexed, h]
theorem lexed_set {m k : Nat} : (lexed m k).setIfInBounds k true = lexed m (k + 1) := by
  apply Array.ext
  · simp [lexed]
  · intro i h1 h2
    have hm : i < m := by simpa [lexed] using h2
    by_cases hik : i = k
    · subst hik; simp [lexed]
    · simp [lexed, Array.getElem_setIfInBounds, Ne.symm hik]; omega
theorem lexed_zero (m : Nat) : lexed m 0 = Array.replicate m false := by
  apply Array.ext
  · simp [lexed]
  · intro i h1 h2; simp [lexed]
theorem inv_lexed (hd : DrawOk C ops) (k : Nat) : Inv ops (lexed ops.size k) := by
  intro j hj hl i hji
  rw [lexed_get hj] at hl
  have hlt : ∀ j i, j < ops.size → anc ops j i = true → i < j := by
    intro j
    induction j using Nat.strongRecOn with
    | _ j ih =>
      intro i hj hji
      obtain ⟨e, he, hb, h⟩ := hd.closed j _ (Array.getElem?_eq_getElem hj) i hji
      have h1 := hd.before j _ (Array.getElem?_eq_getElem hj) e he hb
      rcases h with h | h
      · omega
      · have := ih e.on h1 i (by omega) h; omega
  have := hlt j i hj hji
  rw [lexed_get (by omega)]
  simp at hl ⊢; omega
theorem ready_lexed (hd : DrawOk C ops) {k : Nat} (hk : k < ops.size) : k ∈ Region.ready .any ops (lexed ops.size k) := by
  rw [mem_ready]
  refine ⟨by rw [lexed_get hk]; simp, ops[k], Array.getElem?_eq_getElem hk, fun e he hb => ?_⟩
  have := hd.before k _ (Array.getElem?_eq_getElem hk) e he hb
  rw [lexed_get (by omega)]; simpa using this
theorem ready_all (ops : Array Oper) : Region.ready .any ops (lexed ops.size ops.size) = [] := by
  rw [List.eq_nil_iff_forall_not_mem]
  intro k hk
  obtain ⟨h0, o, ho, _⟩ := mem_ready.1 hk
  have := (Array.getElem?_eq_some_iff.1 ho).1
  rw [lexed_get this] at h0
  simp at h0; omega

theorem evOps_any {Q : Env → Heap → Prop} (hd : DrawOk C ops) : ∀ (l : List Oper) (m k : Nat) (env env' : Env) (H H' : Heap), m ≤ n → k + l.length = ops.size → (∀ j : Nat, l[j]? = ops[k + j]?) → Dead C ops a (lexed ops.size k) H → PtrInv ops a (lexed ops.size k) env →
    evOps C m a ops.toList l env H = some (env', H') → Q env' H' → AnyA C ops n a Q l.length (lexed ops.size k) env H
  | [], m, k, env, env', H, H', hm, hl, hlk, hdead, hptr, h, hQ => by
    cases m with
    | zero => simp [evOps] at h
    | succ m =>
      simp only [evOps, Option.some.injEq, Prod.mk.injEq] at h
      obtain ⟨rfl, rfl⟩ := h
      simp only [List.length_nil, Nat.add_zero] at hl
      subst hl
      exact ⟨ready_all ops, hQ⟩
  | o :: l, m, k, env, env', H, H', hm, hl, hlk, hdead, hptr, h, hQ => by
    cases m with
    | zero => simp [evOps] at h
    | succ m =>
      simp only [List.length_cons] at hl
      have hk : k < ops.size := by omega
      have ho : ops[k]? = some o := by simpa using (hlk 0).symm
      have hstep : ∃ env1 H1, aStep C ops n a k env H = some (env1, H1) ∧ evOps C m a ops.toList l env1 H1 = some (env', H') := by
        simp only [evOps, Option.bind_eq_some_iff] at h
        obtain ⟨b, hb, h⟩ := h
        unfold aStep stepV
        rw [ho]
        simp only [hb, Option.bind_some]
        cases b
        · exact ⟨_, _, rfl, h⟩
        · simp only [Option.bind_eq_some_iff] at h
          obtain ⟨⟨v, H1⟩, hv, h⟩ := h
          have hv' : evOp C n a env H o = some (v, H1) := (mOp C a env H o).le (by omega) hv
          exact ⟨_, _, by simp only [if_true, hv', Option.map_some], h⟩
      obtain ⟨env1, H1, hst, hrest⟩ := hstep
      have hA := evOps_any hd l m (k + 1) env1 env' H1 H' (by omega) (by omega) (fun j => by have := hlk (j + 1); simpa [Nat.add_assoc, Nat.add_comm 1 j] using this) (by
        have := hdead.step hd (lexed_size _ _) hst
        rwa [lexed_set] at this) (by
        have := hptr.step hd hst
        rwa [lexed_set] at this) hrest hQ
      have hsafe : Safe C ops n a k o env H := fun kx => by
        unfold aStep at hst
        rw [ho] at hst
        simp only [Option.map_eq_some_iff] at hst
        obtain ⟨⟨v, H2⟩, hv, _⟩ := hst
        refine ⟨_, (stepV1 kx hv).2 _ (le_drop fun d hdm => ?_)⟩
        obtain ⟨j, oj, k', hj, hkj, hanc, hown⟩ := avoid_spec hdm
        obtain ⟨_, ok, hok, hnew⟩ := ownOf_spec hown
        obtain ⟨hdst, _, hk2⟩ := isNew_spec (C := C) hnew
        have hlt : k < k' := by
          rcases (hd.pair j oj hj k o hkj ho hanc).2.2 with hp | hp
          · exfalso
            obtain ⟨⟨t, w, hop⟩, _⟩ := ownOf_spec hown
            have h3 : kOf C oj = 3 := by unfold kOf; rw [hop]
            rw [kx, h3] at hp
            cases hp
          · unfold pairOwn at hp
            rw [hown] at hp
            split at hp
            · rename_i d1 k1 d2 k2 ho1 _
              exfalso
              obtain ⟨⟨t, w, hop⟩, _⟩ := ownOf_spec ho1
              have h3 : kOf C o = 3 := by unfold kOf; rw [hop]
              omega
            · rename_i d2 k2 _ heq
              simp only [Option.some.injEq, Prod.mk.injEq] at heq
              obtain ⟨rfl, rfl⟩ := heq
              simp only [Bool.and_eq_true, Bool.or_eq_true, beq_iff_eq, decide_eq_true_eq] at hp
              rcases hp.2 with h | h
              · have := h.1; omega
              · exact h.2
            · rename_i heq; cases heq
            · cases hp
        exact hdead k' ok hok hk2 (by rw [lexed_get (Array.getElem?_eq_some_iff.1 hok).1]; simp; omega) d hdst
      exact anyA_first hd ho l.length (lexed ops.size k) env env1 H H1 (lexed_size _ _) (inv_lexed hd k) hdead hptr hsafe (fun j hj => by rw [lexed_get (by omega)]; simpa using hj) (ready_lexed hd hk) hst (by rw [lexed_set]; exact hA)
end
end Go.V
