/- What V computes does not hang on the fuel: limits and their equations. No condition. -/
import Derived.Test.YtdlkndnlpgmdaaaGreatVCore
/-! V without fuel: the limits, and their equations. -/
namespace Go.V
open Go

/-- More rounds tell the same. -/
structure Mono {α : Type} (f : Nat → Option α) : Prop where
  up : ∀ n a, f n = some a → f (n + 1) = some a
theorem Mono.le {α : Type} {f : Nat → Option α} (h : Mono f) {n m : Nat} (hn : n ≤ m) {a : α} (ha : f n = some a) : f m = some a := by
  induction hn with
  | refl => exact ha
  | step _ ih => exact h.up _ _ ih
open Classical in
noncomputable def lim {α : Type} (f : Nat → Option α) : Option α := if h : ∃ n a, f n = some a then f h.choose else none
theorem lim_some {α : Type} {f : Nat → Option α} (hf : Mono f) {n : Nat} {a : α} (h : f n = some a) : lim f = some a := by
  have hx : ∃ n a, f n = some a := ⟨n, a, h⟩
  unfold lim
  rw [dif_pos hx]
  obtain ⟨b, hb⟩ := hx.choose_spec
  have h1 := hf.le (Nat.le_max_left hx.choose n) hb
  have h2 := hf.le (Nat.le_max_right hx.choose n) h
  rw [h1] at h2
  rw [hb, h2]
theorem lim_spec {α : Type} {f : Nat → Option α} {a : α} (h : lim f = some a) : ∃ n, f n = some a := by
  unfold lim at h
  split at h
  · exact ⟨_, h⟩
  · cases h
theorem lim_eq {α : Type} {f : Nat → Option α} (hf : Mono f) {a : α} : lim f = some a ↔ ∃ n, f n = some a :=
  ⟨lim_spec, fun ⟨_, h⟩ => lim_some hf h⟩
theorem opt_ext {α : Type} {x y : Option α} (h : ∀ a, x = some a ↔ y = some a) : x = y := by
  cases x with
  | none => cases y with
    | none => rfl
    | some b => exact ((h b).2 rfl)
  | some a => exact ((h a).1 rfl).symm
theorem Mono.const {α : Type} (x : Option α) : Mono (fun _ => x) := ⟨fun _ _ h => h⟩
theorem lim_const {α : Type} (x : Option α) : lim (fun _ => x) = x := opt_ext fun a => by rw [lim_eq (.const x)]; exact ⟨fun ⟨_, h⟩ => h, fun h => ⟨0, h⟩⟩
theorem Mono.bind {α β : Type} {f : Nat → Option α} {g : Nat → α → Option β} (hf : Mono f) (hg : ∀ a, Mono (fun n => g n a)) : Mono (fun n => (f n).bind (g n)) := by
  refine ⟨fun n b h => ?_⟩
  simp only [Option.bind_eq_some_iff] at h ⊢
  obtain ⟨a, h1, h2⟩ := h
  exact ⟨a, hf.up _ _ h1, (hg a).up _ _ h2⟩
theorem Mono.map {α β : Type} {f : Nat → Option α} (g : α → β) (hf : Mono f) : Mono (fun n => (f n).map g) := by
  refine ⟨fun n b h => ?_⟩
  simp only [Option.map_eq_some_iff] at h ⊢
  obtain ⟨a, h1, h2⟩ := h
  exact ⟨a, hf.up _ _ h1, h2⟩
theorem lim_bind {α β : Type} {f : Nat → Option α} {g : Nat → α → Option β} (hf : Mono f) (hg : ∀ a, Mono (fun n => g n a)) :
    lim (fun n => (f n).bind (g n)) = (lim f).bind fun a => lim (fun n => g n a) := opt_ext fun b => by
  rw [lim_eq (hf.bind hg)]
  simp only [Option.bind_eq_some_iff]
  constructor
  · rintro ⟨n, a, h1, h2⟩
    exact ⟨a, lim_some hf h1, lim_some (hg a) h2⟩
  · rintro ⟨a, h1, h2⟩
    obtain ⟨n, h1⟩ := lim_spec h1
    obtain ⟨m, h2⟩ := lim_spec h2
    exact ⟨max n m, a, hf.le (Nat.le_max_left n m) h1, (hg a).le (Nat.le_max_right n m) h2⟩
theorem lim_map {α β : Type} {f : Nat → Option α} (g : α → β) (hf : Mono f) : lim (fun n => (f n).map g) = (lim f).map g := opt_ext fun b => by
  rw [lim_eq (hf.map g)]
  simp only [Option.map_eq_some_iff]
  constructor
  · rintro ⟨n, a, h1, h2⟩; exact ⟨a, lim_some hf h1, h2⟩
  · rintro ⟨a, h1, h2⟩
    obtain ⟨n, h1⟩ := lim_spec h1
    exact ⟨n, a, h1, h2⟩
theorem lim_succ {α : Type} {f : Nat → Option α} (hf : Mono f) : lim f = lim (fun n => f (n + 1)) := opt_ext fun a => by
  rw [lim_eq hf, lim_eq (f := fun n => f (n + 1)) ⟨fun n a h => hf.up _ _ h⟩]
  exact ⟨fun ⟨n, h⟩ => ⟨n, hf.up _ _ h⟩, fun ⟨n, h⟩ => ⟨n + 1, h⟩⟩

structure MonoAt (C : Cfg) (n : Nat) : Prop where
  code : ∀ a c env H r, evCode C n a c env H = some r → evCode C (n + 1) a c env H = some r
  ops : ∀ a all l env H r, evOps C n a all l env H = some r → evOps C (n + 1) a all l env H = some r
  op : ∀ a env H o r, evOp C n a env H o = some r → evOp C (n + 1) a env H o = some r
  call : ∀ f args H r, evCall C n f args H = some r → evCall C (n + 1) f args H = some r
  pure : ∀ f args r, evPure C n f args = some r → evPure C (n + 1) f args = some r
  body : ∀ a f args H r, evBody C n a f args H = some r → evBody C (n + 1) a f args H = some r

theorem bind_imp {α β : Type} {x y : Option α} {f g : α → Option β} {b : β} (h : x.bind f = some b) (h1 : ∀ a, x = some a → y = some a) (h2 : ∀ a b, f a = some b → g a = some b) : y.bind g = some b := by
  simp only [Option.bind_eq_some_iff] at h ⊢
  obtain ⟨a, h3, h4⟩ := h
  exact ⟨a, h1 _ h3, h2 _ _ h4⟩
theorem map_imp {α β : Type} {x y : Option α} {f : α → β} {b : β} (h : x.map f = some b) (h1 : ∀ a, x = some a → y = some a) : y.map f = some b := by
  simp only [Option.map_eq_some_iff] at h ⊢
  obtain ⟨a, h3, h4⟩ := h
  exact ⟨a, h1 _ h3, h4⟩

mutual
theorem deep_mono {f g : PV → Option PV} (hfg : ∀ p q, f p = some q → g p = some q) : ∀ (p q : PV), deep f p = some q → deep g p = some q
  | .agg cs, q, h => by
    simp only [deep, Option.map_eq_some_iff] at *
    obtain ⟨l, h1, h2⟩ := h
    exact ⟨l, deeps_mono hfg cs l h1, h2⟩
  | .tuple cs, q, h => by
    simp only [deep, Option.map_eq_some_iff] at *
    obtain ⟨l, h1, h2⟩ := h
    exact ⟨l, deeps_mono hfg cs l h1, h2⟩
  | .slice b es, q, h => by
    simp only [deep, Option.map_eq_some_iff] at *
    obtain ⟨l, h1, h2⟩ := h
    exact ⟨l, deeps_mono hfg es l h1, h2⟩
  | .cptr cs off, q, h => by
    simp only [deep, Option.map_eq_some_iff] at *
    obtain ⟨l, h1, h2⟩ := h
    exact ⟨l, deeps_mono hfg cs l h1, h2⟩
  | .func fn fs cs, q, h => by
    simp only [deep, Option.map_eq_some_iff, Option.bind_eq_some_iff] at *
    obtain ⟨l, h1, m, h2, h3⟩ := h
    exact ⟨l, deeps_mono hfg fs l h1, m, deeps_mono hfg cs m h2, h3⟩
  | .iface t p, q, h => by
    simp only [deep, Option.map_eq_some_iff] at *
    obtain ⟨l, h1, h2⟩ := h
    exact ⟨l, deep_mono hfg p l h1, h2⟩
  | .sref .., q, h => by simp only [deep] at *; exact hfg _ _ h
  | .ptr .., q, h => by simp only [deep] at *; exact hfg _ _ h
  | .mref .., q, h => by simp [deep] at h
  | .bool _, q, h => by simpa [deep] using h
  | .int _ _, q, h => by simpa [deep] using h
  | .str _, q, h => by simpa [deep] using h
  | .nilptr, q, h => by simpa [deep] using h
  | .nilfunc, q, h => by simpa [deep] using h
  | .nilmap, q, h => by simpa [deep] using h
  | .niliface, q, h => by simpa [deep] using h
theorem deeps_mono {f g : PV → Option PV} (hfg : ∀ p q, f p = some q → g p = some q) : ∀ (ps qs : List PV), deeps f ps = some qs → deeps g ps = some qs
  | [], qs, h => by simpa [deeps] using h
  | p :: ps, qs, h => by
    simp only [deeps, Option.bind_eq_some_iff, Option.map_eq_some_iff] at *
    obtain ⟨q, h1, l, h2, h3⟩ := h
    exact ⟨q, deep_mono hfg p q h1, l, deeps_mono hfg ps l h2, h3⟩
end
theorem resolve_up : ∀ (n : Nat) (H : Heap) (p q : PV), resolve n H p = some q → resolve (n + 1) H p = some q
  | 0, H, p, q, h => by
    unfold resolve at *
    exact deep_mono (fun p q hp => by cases hp) p q h
  | n + 1, H, p, q, h => by
    rw [resolve] at *
    refine deep_mono (fun p q hp => ?_) p q h
    unfold lookWith at *
    split at hp
    · simp only [Option.bind_eq_some_iff] at *
      obtain ⟨es, h1, h2⟩ := hp
      exact ⟨es, h1, resolve_up n H _ _ h2⟩
    · simp only [Option.bind_eq_some_iff] at *
      obtain ⟨es, h1, e, h2, t, h3, h4⟩ := hp
      exact ⟨es, h1, e, h2, t, resolve_up n H _ _ h3, h4⟩
    · exact hp
theorem resolves_up (n : Nat) (H : Heap) (l m : List PV) (h : resolves n H l = some m) : resolves (n + 1) H l = some m := by
  unfold resolves at *
  split at h
  · rename_i l' hl
    simp only [Option.some.injEq] at h; subst h
    rw [resolve_up n H _ _ hl]
  · cases h

theorem monoAt (C : Cfg) : ∀ n, MonoAt C n
  | 0 => by constructor <;> intros <;> simp_all [evCode, evOps, evOp, evCall, evPure, evBody]
  | n + 1 => by
    have ih := monoAt C n
    constructor
    · intro a c env H r h
      unfold evCode at h ⊢
      cases c <;> first
        | exact h
        | (dsimp only at h ⊢; exact map_imp h fun _ => ih.ops _ _ _ _ _ _)
        | (dsimp only at h ⊢; exact map_imp h fun _ => ih.code _ _ _ _ _)
        | (dsimp only at h ⊢; exact ih.code _ _ _ _ _ h)
        | skip
      case seq x y =>
        dsimp only at h ⊢
        refine bind_imp h (fun _ => ih.code _ _ _ _ _) ?_
        rintro ⟨o, env, H⟩ b h
        cases o <;> first | exact ih.code _ _ _ _ _ h | exact h
      case cond c x y =>
        dsimp only at h ⊢
        refine bind_imp h (fun _ h => h) ?_
        rintro p b h
        cases p <;> first | exact ih.code _ _ _ _ _ h | exact h
      case loop x =>
        dsimp only at h ⊢
        refine bind_imp h (fun _ => ih.code _ _ _ _ _) ?_
        rintro ⟨o, env, H⟩ b h
        cases o <;> first | exact ih.code _ _ _ _ _ h | exact h
    · intro a all l env H r h
      unfold evOps at h ⊢
      cases l with
      | nil => exact h
      | cons o l =>
        dsimp only at h ⊢
        refine bind_imp h (fun _ h => h) ?_
        rintro b r h
        cases b
        · exact ih.ops _ _ _ _ _ _ h
        · exact bind_imp h (fun _ => ih.op _ _ _ _ _) fun _ _ => ih.ops _ _ _ _ _ _
    · intro a env H o r h
      unfold evOp at h ⊢
      split at h
      · refine bind_imp h (fun _ h => h) ?_
        rintro p r h
        split at h
        · exact bind_imp h (fun _ h => h) fun _ _ => ih.call _ _ _ _
        · cases h
      · exact h
    · intro f args H r h
      unfold evCall at h ⊢
      split at h
      · rename_i hl
        rw [if_pos hl]
        exact ih.body _ _ _ _ _ h
      · rename_i hl
        rw [if_neg hl]
        exact bind_imp h (fun _ => resolves_up _ _ _ _) fun _ _ h => bind_imp h (fun _ => ih.pure _ _ _) fun _ _ h => h
    · intro f args r h
      unfold evPure at h ⊢
      split at h
      · exact h
      · exact bind_imp h (fun _ => ih.body _ _ _ _ _) fun _ _ => resolve_up _ _ _ _
    · intro a f args H r h
      unfold evBody at h ⊢
      split at h
      · cases h
      rename_i hbad
      rw [if_neg hbad]
      split at h
      · rename_i fn hfn
        split at h
        · rename_i c hc
          refine bind_imp h (fun _ => ih.code _ _ _ _ _) fun _ _ h => h
        · cases h
      · cases h

/-! ### The limits -/
section
variable (C : Cfg)
noncomputable def dCode (a : Nat) (c : Code) (env : Env) (H : Heap) : Option (Out × Env × Heap) := lim fun n => evCode C n a c env H
noncomputable def dOps (a : Nat) (all l : List Oper) (env : Env) (H : Heap) : Option (Env × Heap) := lim fun n => evOps C n a all l env H
noncomputable def dOp (a : Nat) (env : Env) (H : Heap) (o : Oper) : Option (PV × Heap) := lim fun n => evOp C n a env H o
noncomputable def dCall (f : FuncId) (args : List PV) (H : Heap) : Option (PV × Heap) := lim fun n => evCall C n f args H
noncomputable def dPure (f : FuncId) (args : List PV) : Option PV := lim fun n => evPure C n f args
noncomputable def dBody (a : Nat) (f : FuncId) (args : List PV) (H : Heap) : Option (PV × Heap) := lim fun n => evBody C n a f args H

noncomputable def res (H : Heap) (p : PV) : Option PV := lim fun n => resolve n H p
noncomputable def rls (H : Heap) (l : List PV) : Option (List PV) := lim fun n => resolves n H l
theorem mRes (H p) : Mono fun n => resolve n H p := ⟨fun n _ h => resolve_up n H p _ h⟩
theorem mRls (H l) : Mono fun n => resolves n H l := ⟨fun n _ h => resolves_up n H l _ h⟩
theorem mCode (a c env H) : Mono fun n => evCode C n a c env H := ⟨fun n _ h => (monoAt C n).code _ _ _ _ _ h⟩
theorem mOps (a all l env H) : Mono fun n => evOps C n a all l env H := ⟨fun n _ h => (monoAt C n).ops _ _ _ _ _ _ h⟩
theorem mOp (a env H o) : Mono fun n => evOp C n a env H o := ⟨fun n _ h => (monoAt C n).op _ _ _ _ _ h⟩
theorem mCall (f args H) : Mono fun n => evCall C n f args H := ⟨fun n _ h => (monoAt C n).call _ _ _ _ h⟩
theorem mPure (f args) : Mono fun n => evPure C n f args := ⟨fun n _ h => (monoAt C n).pure _ _ _ h⟩
theorem mBody (a f args H) : Mono fun n => evBody C n a f args H := ⟨fun n _ h => (monoAt C n).body _ _ _ _ _ h⟩
end

section
variable {C : Cfg} {a : Nat} {env : Env} {H : Heap}
theorem dCode_skip : dCode C a .skip env H = some (.norm, env, H) := by
  unfold dCode; rw [lim_succ (mCode ..)]; simp only [evCode]; rw [lim_const]
theorem dCode_ret : dCode C a .ret env H = some (.ret, env, H) := by
  unfold dCode; rw [lim_succ (mCode ..)]; simp only [evCode]; rw [lim_const]
theorem dCode_exit (id : Nat) : dCode C a (.exit id) env H = some (.exit id, env, H) := by
  unfold dCode; rw [lim_succ (mCode ..)]; simp only [evCode]; rw [lim_const]
theorem dCode_label (id : Nat) : dCode C a (.label id) env H = some (.norm, env, H) := by
  unfold dCode; rw [lim_succ (mCode ..)]; simp only [evCode]; rw [lim_const]
theorem dCode_region (id : Nat) (ops : Array Oper) : dCode C a (.region id ops false) env H = (dOps C a ops.toList ops.toList env H).map fun x => (.norm, x.1, x.2) := by
  unfold dCode dOps; rw [lim_succ (mCode ..)]; simp only [evCode, Bool.false_eq_true, if_false]; rw [lim_map _ (mOps ..)]
theorem dCode_draw (id : Nat) (ops : Array Oper) : dCode C a (.region id ops true) env H = (dOps C a ops.toList ops.toList env (killAll a (nDsts ops.toList) H)).map fun x => (.norm, x.1, x.2) := by
  unfold dCode dOps; rw [lim_succ (mCode ..)]; simp only [evCode, if_true]; rw [lim_map _ (mOps ..)]
theorem dCode_scope (x : Code) : dCode C a (.scope x) env H = dCode C a x env H := by
  unfold dCode; rw [lim_succ (mCode ..)]; simp only [evCode]
theorem dCode_block (id : Nat) (x : Code) : dCode C a (.block id x) env H = (dCode C a x env H).map fun r => ((if r.1 = .exit id then .norm else r.1), r.2.1, r.2.2) := by
  unfold dCode; rw [lim_succ (mCode ..)]; simp only [evCode]; rw [lim_map _ (mCode ..)]
/-- What follows a piece of code. -/
noncomputable def dThen (C : Cfg) (a : Nat) (y : Code) : Out × Env × Heap → Option (Out × Env × Heap)
  | (.norm, env, H) => dCode C a y env H
  | r => some r
theorem dThen_norm (y : Code) : dThen C a y (.norm, env, H) = dCode C a y env H := rfl
theorem dThen_ret (y : Code) : dThen C a y (.ret, env, H) = some (.ret, env, H) := rfl
theorem dThen_exit (y : Code) (id : Nat) : dThen C a y (.exit id, env, H) = some (.exit id, env, H) := rfl
theorem dCode_seq (x y : Code) : dCode C a (.seq x y) env H = (dCode C a x env H).bind (dThen C a y) := by
  unfold dCode; rw [lim_succ (mCode ..)]; simp only [evCode]
  rw [lim_bind (mCode ..)]
  · congr 1; funext ⟨o, env, H⟩
    cases o
    · rfl
    · exact lim_const _
    · exact lim_const _
  · rintro ⟨o, env, H⟩
    cases o
    · exact mCode ..
    · exact .const _
    · exact .const _
theorem dCode_loop (x : Code) : dCode C a (.loop x) env H = (dCode C a x env H).bind (dThen C a (.loop x)) := by
  conv => lhs; unfold dCode
  rw [lim_succ (mCode ..)]; simp only [evCode]
  rw [lim_bind (mCode ..)]
  · congr 1; funext ⟨o, env, H⟩
    cases o
    · rfl
    · exact lim_const _
    · exact lim_const _
  · rintro ⟨o, env, H⟩
    cases o
    · exact mCode ..
    · exact .const _
    · exact .const _
noncomputable def dIf (C : Cfg) (a : Nat) (x y : Code) (env : Env) (H : Heap) : PV → Option (Out × Env × Heap)
  | .bool b => if b = true then dCode C a x env H else dCode C a y env H
  | _ => none
theorem dIf_bool (x y : Code) (b : Bool) : dIf C a x y env H (.bool b) = if b = true then dCode C a x env H else dCode C a y env H := rfl
theorem dCode_cond (c : Operand) (x y : Code) : dCode C a (.cond c x y) env H = (evalO C env c).bind (dIf C a x y env H) := by
  unfold dCode; rw [lim_succ (mCode ..)]; simp only [evCode]
  rw [lim_bind (.const _), lim_const]
  · congr 1; funext p
    cases p <;> first
      | exact lim_const _
      | (rename_i b; cases b <;> rfl)
  · intro p
    cases p <;> first
      | exact .const _
      | (rename_i b; cases b <;> exact mCode ..)

theorem dOps_nil (all : List Oper) : dOps C a all [] env H = some (env, H) := by
  unfold dOps; rw [lim_succ (mOps ..)]; simp only [evOps]; rw [lim_const]
noncomputable def dGo (C : Cfg) (a : Nat) (all : List Oper) (o : Oper) (r : List Oper) (env : Env) (H : Heap) (b : Bool) : Option (Env × Heap) :=
  if b = true then (dOp C a env H o).bind fun x => dOps C a all r (env.put o.dst x.1) x.2 else dOps C a all r (env.put o.dst .void) H
theorem dOps_cons (all : List Oper) (o : Oper) (r : List Oper) : dOps C a all (o :: r) env H = (wantedP all env o).bind (dGo C a all o r env H) := by
  unfold dOps; rw [lim_succ (mOps ..)]; simp only [evOps]
  rw [lim_bind (.const _), lim_const]
  · congr 1; funext b
    cases b
    · rfl
    · simp only [dGo, if_true]; unfold dOp; rw [lim_bind (mOp ..)]
      · rfl
      · intro x; exact mOps ..
  · intro b
    cases b
    · exact mOps ..
    · exact (mOp ..).bind fun x => mOps ..
def isCall (o : Oper) : Bool := match o.op with | .call { callee := .value _, .. } => true | _ => false
theorem dOp_op (o : Oper) (h : isCall o = false) : dOp C a env H o = opP C a env H o := by
  unfold dOp; rw [lim_succ (mOp ..)]
  unfold evOp
  split
  · rename_i hh; simp [isCall, hh] at h
  · exact lim_const _
noncomputable def dApply (C : Cfg) (env : Env) (H : Heap) (args : List Operand) : PV → Option (PV × Heap)
  | .func (.func f) fs cs => (evalOs C env args).bind fun ps => dCall C f (fs ++ ps ++ cs) H
  | _ => none
theorem dApply_func (args : List Operand) (f : FuncId) (fs cs : List PV) : dApply C env H args (.func (.func f) fs cs) = (evalOs C env args).bind fun ps => dCall C f (fs ++ ps ++ cs) H := rfl
theorem dOp_call (dst : Option Tmp) (f : Operand) (args : Array Operand) (ts : Array TypeId) (ty : TypeId) (pos : String) (after : Array Edge) (g : Option (Nat × Bool)) :
    dOp C a env H ⟨dst, .call ⟨.value f, args, ts⟩, ty, pos, after, g⟩ = (evalO C env f).bind (dApply C env H args.toList) := by
  unfold dOp; rw [lim_succ (mOp ..)]; simp only [evOp]
  rw [lim_bind (.const _), lim_const]
  · congr 1; funext p
    split
    · rw [lim_bind (.const _), lim_const]
      · rfl
      · intro ps; exact mCall ..
    · rename_i hn
      rw [lim_const]
      unfold dApply
      split
      · exact absurd rfl (hn _ _ _)
      · rfl
  · intro p
    split
    · exact Mono.bind (.const _) fun ps => mCall ..
    · exact .const _
theorem dCall_live (f : FuncId) (args : List PV) (h : C.live f = true) : dCall C f args H = dBody C H.acts f args ⟨H.acts + 1, H.get⟩ := by
  unfold dCall; rw [lim_succ (mCall ..)]; simp only [evCall, h, if_true]; rfl
theorem dCall_pure (f : FuncId) (args : List PV) (h : C.live f = false) :
    dCall C f args H = (rls H args).bind fun args' => (dPure C f args').bind fun r => if noRefs args || r.scalar then some (r, H) else none := by
  unfold dCall; rw [lim_succ (mCall ..)]; simp only [evCall, h, Bool.false_eq_true, if_false]
  rw [lim_bind (mRls ..)]
  · congr 1; funext args'
    rw [lim_bind (mPure ..)]
    · congr 1; funext r; exact lim_const _
    · intro r; exact .const _
  · intro args'; exact Mono.bind (mPure ..) fun r => .const _
theorem dPure_ext (f : FuncId) (args : List PV) {g : List PV → Option PV} (h : C.ext f = some g) : dPure C f args = g args := by
  unfold dPure; rw [lim_succ (mPure ..)]; simp only [evPure, h]; exact lim_const _
theorem dPure_body (f : FuncId) (args : List PV) (h : C.ext f = none) : dPure C f args = (dBody C 0 f args Heap.empty).bind fun x => res x.2 x.1 := by
  unfold dPure; rw [lim_succ (mPure ..)]; simp only [evPure, h]
  rw [lim_bind (mBody ..)]
  · congr 1
  · intro r; exact mRes ..
/-- What a body that has come to its end gives. -/
def dEnd (C : Cfg) (rs : List ResultVar) : Out × Env × Heap → Option (PV × Heap)
  | (.exit _, _, _) => none
  | (_, env, H) => (resultP C H env rs).map fun rs => (packP rs, H)
theorem dEnd_norm (rs : List ResultVar) : dEnd C rs (.norm, env, H) = (resultP C H env rs).map fun rs => (packP rs, H) := rfl
theorem dEnd_ret (rs : List ResultVar) : dEnd C rs (.ret, env, H) = (resultP C H env rs).map fun rs => (packP rs, H) := rfl
theorem dBody_eq {f : FuncId} {fn : Func} {c : Code} (args : List PV) (hbad : C.bad f = false) (hf : C.P.funcs[f]? = some fn) (hc : fn.body = some c) :
    dBody C a f args H = (dCode C a c (Env.ofList args) H).bind (dEnd C fn.results.toList) := by
  unfold dBody; rw [lim_succ (mBody ..)]; simp only [evBody, hbad, Bool.false_eq_true, if_false, hf, hc]
  rw [lim_bind (mCode ..)]
  · congr 1; funext ⟨o, env, H⟩
    cases o <;> exact lim_const _
  · rintro ⟨o, env, H⟩
    cases o <;> exact .const _
/-- A pure function, out of its body. -/
theorem dPure_eq {f : FuncId} {fn : Func} {c : Code} (args : List PV) (hx : C.ext f = none) (hbad : C.bad f = false) (hf : C.P.funcs[f]? = some fn) (hc : fn.body = some c) :
    dPure C f args = ((dCode C 0 c (Env.ofList args) Heap.empty).bind (dEnd C fn.results.toList)).bind fun x => res x.2 x.1 := by
  rw [dPure_body f args hx, dBody_eq args hbad hf hc]
end
end Go.V
