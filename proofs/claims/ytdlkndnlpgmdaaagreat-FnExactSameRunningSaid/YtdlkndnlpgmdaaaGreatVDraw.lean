/- What an operation of V hangs on: the static check of a region that draws its order. No condition. -/
import Derived.Test.YtdlkndnlpgmdaaaGreatVLim
import Derived.Orders
/-! A region that draws its order: V's textual walk serves every order. -/
namespace Go.V
open Go
set_option linter.unusedSimpArgs false
set_option linter.unusedVariables false

/-- The kind of an operation: 0: its value hangs on its operands alone; 1: it reads the V heap; 2: it makes an object under its own name; 3: a store or an append; 4: whatever else. -/
def kOf (C : Cfg) (o : Oper) : Nat :=
  match o.op with
  | .move _ | .assign _ | .pick .. | .build .. | .buildSlice .. | .nilCheck _ | .binOp .. | .unOp .. | .makeFunc .. | .slice .. | .fieldAddr .. | .field .. | .indexAddr .. | .index .. | .extract .. => 0
  | .load .. | .convert .. => 1
  | .alloc _ | .box .. | .makeSlice .. => 2
  | .store .. => 3
  | .call { callee := .builtin .append, .. } => 3
  | .call { callee := .builtin .len, .. } | .call { callee := .builtin .min, .. } | .call { callee := .builtin .max, .. } => 0
  | .call { callee := .value (.func f), .. } => if C.live f then 4 else 1
  | _ => 4
def pairOk (ki kj : Nat) : Bool := ki == 0 || kj == 0 || (ki == 1 && (kj == 1 || kj == 2)) || (ki == 2 && kj == 2)
/-- `i` comes before `j` whatever the order. -/
def anc (ops : Array Oper) (j i : Nat) : Bool := decide (i < j) && ((Region.before ops).getD j 0).testBit i
/-- A store into an object that an operation of the same region makes: its name, and where it is made. -/
def isNew (d : Nat) (o : Oper) : Bool := o.dst == some d && o.guard.isNone && (match o.op with | .alloc _ | .box .. => true | _ => false)
def ownOf (ops : Array Oper) (o : Oper) : Option (Nat × Nat) :=
  match o.op with
  | .store _ (.tmp d) _ => ((List.range ops.size).find? fun k => match ops[k]? with | some ok => isNew d ok | none => false).map fun k => (d, k)
  | _ => none
/-- A pair with such a store in it that need not wait for each other. -/
def pairOwn (C : Cfg) (ops : Array Oper) (i : Nat) (oi : Oper) (j : Nat) (oj : Oper) : Bool :=
  match ownOf ops oi, ownOf ops oj with
  | some (d, k), some (d', k') => d != d' && anc ops i k && anc ops j k'
  | none, some (d, k) => anc ops j k && ((kOf C oi == 2 && oi.dst != some d) || (kOf C oi == 1 && decide (i < k)))
  | some (d, k), none => anc ops i k && kOf C oj == 2 && oj.dst != some d
  | none, none => false
def drawOk (C : Cfg) (ops : Array Oper) : Bool :=
  Region.noSelect ops &&
  (List.range ops.size).all (fun j => match ops[j]? with
    | none => true
    | some oj => oj.after.all (fun e => !Region.binds .any e || decide (e.on < j)) &&
      (List.range ops.size).all (fun i => !anc ops j i || oj.after.any fun e => Region.binds .any e && (e.on == i || anc ops e.on i)) &&
      (List.range j).all (fun i => anc ops j i || match ops[i]? with
        | some oi => oi.apart ops oj && oj.apart ops oi && (pairOk (kOf C oi) (kOf C oj) || pairOwn C ops i oi j oj)
        | none => true) &&
      (kOf C oj != 2 || (List.range ops.size).all fun i => i == j || match ops[i]? with | some oi => oi.dst != oj.dst && kOf C oi != 4 | none => true))

/-! ### What an operation's result hangs on -/
def looks (o : Oper) : List Tmp := o.op.operands.toList.filterMap fun | .tmp t => some t | _ => none
theorem put_other (env : Env) (d : Option Nat) (v : PV) (t : Nat) (h : ∀ e, d = some e → t ≠ e) : (env.put d v) t = env t := by
  cases d with
  | none => rfl
  | some e => show (if t = e then v else env t) = env t; rw [if_neg (h e rfl)]
theorem put_comm (env : Env) (d e : Option Nat) (v u : PV) (h : ∀ x, d = some x → e ≠ some x) : (env.put d v).put e u = (env.put e u).put d v := by
  cases d with
  | none => rfl
  | some x =>
    cases e with
    | none => rfl
    | some y =>
      have hxy : x ≠ y := fun he => h x rfl (by rw [he])
      funext i
      show (if i = y then u else if i = x then v else env i) = (if i = x then v else if i = y then u else env i)
      by_cases h1 : i = y <;> by_cases h2 : i = x <;> simp [h1, h2] <;> omega

section
variable {C : Cfg}
theorem evalO_congr {env env' : Env} (x : Operand) (h : ∀ t, x = .tmp t → env t = env' t) : evalO C env x = evalO C env' x := by
  cases x with
  | tmp t => simp [evalO, h t rfl]
  | _ => rfl
theorem evalOs_congr {env env' : Env} : ∀ (l : List Operand), (∀ x ∈ l, ∀ t, x = .tmp t → env t = env' t) → evalOs C env l = evalOs C env' l
  | [], _ => rfl
  | x :: l, h => by
    simp only [evalOs]
    rw [evalO_congr x (h x (by simp)), evalOs_congr l fun y hy => h y (by simp [hy])]
theorem evalParts_congr {env env' : Env} : ∀ (l : List (Nat × Operand)), (∀ x ∈ l, ∀ t, x.2 = .tmp t → env t = env' t) → evalParts C env l = evalParts C env' l
  | [], _ => rfl
  | (i, x) :: l, h => by
    simp only [evalParts]
    rw [evalO_congr x (h (i, x) (by simp)), evalParts_congr l fun y hy => h y (by simp [hy])]
theorem evalOpt_congr {env env' : Env} (x : Option Operand) (h : ∀ y ∈ x, ∀ t, y = .tmp t → env t = env' t) : evalOpt C env x = evalOpt C env' x := by
  cases x with
  | none => rfl
  | some y => simp only [evalOpt]; rw [evalO_congr y (h y rfl)]

/-- An operation looks at its operands alone. -/
theorem opP_congr {a : Nat} {env env' : Env} {H : Heap} (o : Oper) (h : ∀ x ∈ o.op.operands, ∀ t, x = .tmp t → env t = env' t) : opP C a env H o = opP C a env' H o := by
  obtain ⟨dst, op, ty, pos, aft, g⟩ := o
  unfold opP
  cases op <;> simp only [Op.operands] at h <;> dsimp only
  case move x => rw [evalO_congr x (h x (by simp))]
  case assign x => rw [evalO_congr x (h x (by simp))]
  case pick c x y =>
    rw [evalO_congr c (h c (by simp))]
    congr 1; funext p; cases p <;> first | rfl | skip
    rename_i b; cases b
    · simp only [Bool.false_eq_true, if_false]; rw [evalO_congr y (h y (by simp))]
    · simp only [if_true]; rw [evalO_congr x (h x (by simp))]
  case box t x => rw [evalO_congr x (h x (by simp))]
  case build t ps => rw [evalParts_congr ps.toList fun x hx => h x.2 (by simp; exact ⟨x.1, by simpa using hx⟩)]
  case buildSlice t n ps => rw [evalParts_congr ps.toList fun x hx => h x.2 (by simp; exact ⟨x.1, by simpa using hx⟩)]
  case load t x => rw [evalO_congr x (h x (by simp))]
  case store t x y => rw [evalO_congr x (h x (by simp)), evalO_congr y (h y (by simp))]
  case nilCheck x => rw [evalO_congr x (h x (by simp))]
  case binOp op t x y u => rw [evalO_congr x (h x (by simp)), evalO_congr y (h y (by simp))]
  case unOp op t x => rw [evalO_congr x (h x (by simp))]
  case convert s t x => rw [evalO_congr x (h x (by simp))]
  case makeFunc fn first captured =>
    rw [evalOs_congr first.toList fun x hx => h x (by simp at hx ⊢; exact .inl hx), evalOs_congr captured.toList fun x hx => h x (by simp at hx ⊢; exact .inr hx)]
  case range t x => rw [evalO_congr x (h x (by simp))]
  case next x b => rw [evalO_congr x (h x (by simp))]
  case makeSlice t l c => rw [evalO_congr l (h l (by simp)), evalO_congr c (h c (by simp))]
  case slice t x lo hi mx =>
    rw [evalO_congr x (h x (by simp)), evalOpt_congr lo fun y hy => h y (by simp at hy; simp [hy]), evalOpt_congr hi fun y hy => h y (by simp at hy; simp [hy]), evalOpt_congr mx fun y hy => h y (by simp at hy; simp [hy])]
  case fieldAddr t x f => rw [evalO_congr x (h x (by simp))]
  case field t x f => rw [evalO_congr x (h x (by simp))]
  case indexAddr t x i => rw [evalO_congr x (h x (by simp)), evalO_congr i (h i (by simp))]
  case index t x i => rw [evalO_congr x (h x (by simp)), evalO_congr i (h i (by simp))]
  case extract x i => rw [evalO_congr x (h x (by simp))]
  case call c =>
    obtain ⟨callee, args, ts⟩ := c
    cases callee <;> dsimp only
    rw [evalOs_congr args.toList fun x hx => h x (by simp [Call.operands] at hx ⊢; exact hx)]
theorem evOp_congr {n a : Nat} {env env' : Env} {H : Heap} (o : Oper) (h : ∀ x ∈ o.op.operands, ∀ t, x = .tmp t → env t = env' t) : evOp C n a env H o = evOp C n a env' H o := by
  cases n with
  | zero => simp [evOp]
  | succ n =>
    unfold evOp
    split
    · rename_i f args ts heq
      have h1 : ∀ x ∈ #[f] ++ args, ∀ t, x = .tmp t → env t = env' t := fun x hx => h x (by rw [heq]; simpa [Op.operands, Call.operands] using hx)
      rw [evalO_congr f (h1 f (by simp)), evalOs_congr args.toList fun x hx => h1 x (by simp at hx ⊢; exact .inr hx)]
    · exact opP_congr o h

/-! ### The three quiet kinds -/
/-- The one heap shows all that the other shows. -/
def Heap.le (H H' : Heap) : Prop := ∀ a d ver es, H.arr? a d ver = some es → H'.arr? a d ver = some es
theorem rows_mono {H H' : Heap} (hle : H.le H') {a d ver off len : Nat} {es : List PV} (h : H.rows a d ver off len = some es) : H'.rows a d ver off len = some es := by
  unfold Heap.rows at *
  simp only [Option.bind_eq_some_iff] at *
  obtain ⟨all, h1, h2⟩ := h
  exact ⟨all, hle _ _ _ _ h1, h2⟩
theorem resolve_mono {H H' : Heap} (hle : H.le H') : ∀ n p q, resolve n H p = some q → resolve n H' p = some q
  | 0, p, q, h => h
  | n + 1, p, q, h => by
    unfold resolve at *
    refine deep_mono (fun p q hp => ?_) p q h
    unfold lookWith at *
    split at hp
    · simp only [Option.bind_eq_some_iff] at *
      obtain ⟨es, h1, h2⟩ := hp
      exact ⟨es, rows_mono hle h1, resolve_mono hle n _ _ h2⟩
    · simp only [Option.bind_eq_some_iff] at *
      obtain ⟨es, h1, e, h2, t, h3, h4⟩ := hp
      exact ⟨es, hle _ _ _ _ h1, e, h2, t, resolve_mono hle n _ _ h3, h4⟩
    · exact hp
theorem resolves_mono {H H' : Heap} (hle : H.le H') {n : Nat} {l m : List PV} (h : resolves n H l = some m) : resolves n H' l = some m := by
  unfold resolves at *
  split at h
  · rename_i l' hl
    simp only [Option.some.injEq] at h; subst h
    rw [resolve_mono hle n _ _ hl]
  · cases h
theorem elems_mono {H H' : Heap} (hle : H.le H') {p : PV} {es : List PV} (h : elems H p = some es) : elems H' p = some es := by
  unfold elems at *
  split at h
  · exact h
  · exact rows_mono hle h
  · cases h

theorem opP_kind0 {a : Nat} {env : Env} {o : Oper} (hk : kOf C o = 0) (H : Heap) : opP C a env H o = ((opP C a env Heap.empty o).map (·.1)).map (·, H) := by
  obtain ⟨dst, op, ty, pos, aft, g⟩ := o
  cases op <;> simp only [kOf] at hk <;> (try (simp at hk; done)) <;> simp only [opP, Option.map_bind, Option.map_map, Function.comp_def]
  case pick c x y =>
    congr 1; funext p
    cases p <;> simp [Function.comp_def]
  case nilCheck x =>
    congr 1; funext p
    cases p <;> first | rfl | skip
    rename_i fn _ _; cases fn <;> rfl
  case extract x i =>
    congr 1; funext p
    cases p <;> simp [Function.comp_def]
  case call c =>
    obtain ⟨callee, args, ts⟩ := c
    cases callee
    case value f => cases f <;> simp at hk <;> (split at hk <;> simp at hk)
    case invoke => simp at hk
    case builtin b =>
      simp only [Option.map_bind, Option.map_map, Function.comp_def]
      congr 1; funext ps
      unfold builtinP
      split <;> first
        | (simp at hk; done)
        | (simp [Function.comp_def]; done)
        | (split <;> simp)
theorem kind0 {n a : Nat} {env : Env} {H H' : Heap} {o : Oper} {v : PV} (hk : kOf C o = 0) (h : evOp C n a env H o = some (v, H')) : H' = H ∧ ∀ H2, evOp C n a env H2 o = some (v, H2) := by
  cases n with
  | zero => simp [evOp] at h
  | succ n =>
    have hop : ∀ H, evOp C (n + 1) a env H o = opP C a env H o := fun H => by
      unfold evOp
      split
      · rename_i f args ts heq
        unfold kOf at hk
        rw [heq] at hk
        cases f <;> simp at hk
        split at hk <;> simp at hk
      · rfl
    rw [hop, opP_kind0 hk] at h
    simp only [Option.map_eq_some_iff, Prod.mk.injEq] at h
    obtain ⟨u, ⟨x, hx, rfl⟩, rfl, rfl⟩ := h
    refine ⟨rfl, fun H2 => ?_⟩
    rw [hop, opP_kind0 hk, hx]
    rfl
theorem kind1 {n a : Nat} {env : Env} {H H' : Heap} {o : Oper} {v : PV} (hk : kOf C o = 1) (h : evOp C n a env H o = some (v, H')) : H' = H ∧ ∀ H2, H.le H2 → evOp C n a env H2 o = some (v, H2) := by
  cases n with
  | zero => simp [evOp] at h
  | succ n =>
    obtain ⟨dst, op, ty, pos, aft, g⟩ := o
    cases op <;> simp only [kOf] at hk <;> (try (simp at hk; done))
    case load t x =>
      simp only [evOp, opP, Option.bind_eq_some_iff, Option.map_eq_some_iff, Prod.mk.injEq] at h ⊢
      obtain ⟨p, hp, q, hq, rfl, rfl⟩ := h
      refine ⟨rfl, fun H2 hle => ⟨p, hp, q, ?_, by simp⟩⟩
      unfold loadP at hq ⊢
      split at hq
      · exact hq
      · simp only [Option.bind_eq_some_iff] at hq ⊢
        obtain ⟨es, h1, h2⟩ := hq
        exact ⟨es, hle _ _ _ _ h1, h2⟩
      · cases hq
    case convert s t x =>
      simp only [evOp, opP, Option.bind_eq_some_iff, Option.map_eq_some_iff, Prod.mk.injEq] at h ⊢
      obtain ⟨p, hp, q, hq, rfl, rfl⟩ := h
      refine ⟨rfl, fun H2 hle => ⟨p, hp, q, ?_, by simp⟩⟩
      unfold convertP at hq ⊢
      split at hq
      · exact hq
      · exact hq
      · split at hq
        · rename_i hh
          rw [if_pos hh]
          simp only [Option.bind_eq_some_iff] at hq ⊢
          obtain ⟨es, h1, h2⟩ := hq
          exact ⟨es, elems_mono hle h1, h2⟩
        · cases hq
      · cases hq
    case call c =>
      obtain ⟨callee, args, ts⟩ := c
      cases callee
      case builtin b => cases b <;> simp at hk
      case invoke => simp at hk
      case value f =>
        cases f with
        | func f =>
          simp only at hk
          split at hk
          · simp at hk
          · rename_i hlive
            simp only [evOp, evalO, Option.bind_some, Option.bind_eq_some_iff] at h ⊢
            obtain ⟨ps, hps, h⟩ := h
            cases n with
            | zero => simp [evCall] at h
            | succ n =>
              simp only [evCall] at h ⊢
              rw [if_neg hlive] at h
              simp only [Option.bind_eq_some_iff] at h
              obtain ⟨as, has, r, hr, h⟩ := h
              split at h
              · rename_i hh
                simp only [Option.some.injEq, Prod.mk.injEq] at h
                obtain ⟨rfl, rfl⟩ := h
                refine ⟨rfl, fun H2 hle => ⟨ps, hps, ?_⟩⟩
                rw [if_neg hlive, resolves_mono hle has]
                simp only [Option.bind_some, hr]
                rw [if_pos hh]
              · cases h
        | _ => simp at hk
/-- The object that an operation of kind 2 makes. -/
theorem kind2 {n a : Nat} {env : Env} {H H' : Heap} {o : Oper} {v : PV} (hk : kOf C o = 2) (h : evOp C n a env H o = some (v, H')) :
    ∃ d es, o.dst = some d ∧ H' = H.newArr a d es ∧ ∀ H2 : Heap, H2.get a d = H.get a d → evOp C n a env H2 o = some (v, H2.newArr a d es) := by
  cases n with
  | zero => simp [evOp] at h
  | succ n =>
    obtain ⟨dst, op, ty, pos, aft, g⟩ := o
    cases op <;> simp only [kOf] at hk <;> (try (simp at hk; done))
    case alloc t =>
      simp only [evOp, opP, Option.bind_eq_some_iff] at h ⊢
      obtain ⟨d, hd, z, hz, h⟩ := h
      split at h
      · rename_i hv
        simp only [Option.some.injEq, Prod.mk.injEq] at h
        obtain ⟨rfl, rfl⟩ := h
        refine ⟨d, [z], hd, rfl, fun H2 he => ⟨d, hd, z, hz, ?_⟩⟩
        rw [if_pos hv, he]
      · cases h
    case box t x =>
      simp only [evOp, opP, Option.bind_eq_some_iff] at h ⊢
      obtain ⟨d, hd, z, hz, h⟩ := h
      split at h
      · rename_i hv
        simp only [Option.some.injEq, Prod.mk.injEq] at h
        obtain ⟨rfl, rfl⟩ := h
        refine ⟨d, [z], hd, rfl, fun H2 he => ⟨d, hd, z, hz, ?_⟩⟩
        rw [if_pos hv, he]
      · cases h
    case makeSlice t l c =>
      simp only [evOp, opP, Option.bind_eq_some_iff] at h ⊢
      obtain ⟨q, hq, q2, hq2, l', hl, c', hc, d, hd, h⟩ := h
      split at h
      · rename_i e hke
        simp only [Option.bind_eq_some_iff] at h
        obtain ⟨s, hs, z, hz, h⟩ := h
        split at h
        · rename_i hv
          simp only [Option.some.injEq, Prod.mk.injEq] at h
          obtain ⟨rfl, rfl⟩ := h
          refine ⟨d, List.replicate l' z, hd, rfl, fun H2 he => ⟨q, hq, q2, hq2, l', hl, c', hc, d, hd, ?_⟩⟩
          simp only [hs, hz, Option.bind_some]
          rw [if_pos hv, he]
        · cases h
      · cases h
    case call c =>
      obtain ⟨callee, args, ts⟩ := c
      cases callee
      case builtin b => cases b <;> simp at hk
      case invoke => simp at hk
      case value f =>
        cases f <;> simp at hk
        split at hk <;> simp at hk
end
end Go.V
