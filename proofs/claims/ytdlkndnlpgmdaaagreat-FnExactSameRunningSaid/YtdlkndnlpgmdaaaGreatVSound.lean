/- Operations and regions of V are sound for the machine. No condition. -/
import Derived.Test.YtdlkndnlpgmdaaaGreatVOp
import Derived.Test.YtdlkndnlpgmdaaaGreatVAny
import Derived.Tactics
/-! V is sound: what it computes, the model's machine comes to. -/
namespace Go.V
open Go Go.RowKit
set_option linter.unusedSimpArgs false
set_option linter.unusedVariables false

/-! ### What is asked of a program, by a look at its text -/
def regionOk (C : Cfg) (m : Nat) (ops : Array Oper) (b : Bool) : Bool := ops.toList.all (fun o => match o.dst with | some d => decide (d < m) | none => true) && (!b || drawOk C ops)
def codeOk (C : Cfg) (m : Nat) : Code → Bool
  | .region _ ops b => regionOk C m ops b
  | .seq x y => codeOk C m x && codeOk C m y
  | .cond _ x y => codeOk C m x && codeOk C m y
  | .block _ x => codeOk C m x
  | .loop x => codeOk C m x
  | .scope x => codeOk C m x
  | _ => true
def fnOk (C : Cfg) (fn : Func) : Bool := fn.name != "runtime.NumGoroutine" && match fn.body with | none => true | some c => codeOk C fn.ntmps c && decide (fn.params.size + fn.nfree ≤ fn.ntmps)

theorem drawOk_spec {C : Cfg} {ops : Array Oper} (h : drawOk C ops = true) : DrawOk C ops ∧ Region.noSelect ops = true := by
  unfold drawOk at h
  simp only [Bool.and_eq_true, List.all_eq_true, List.mem_range] at h
  obtain ⟨hsel, hall⟩ := h
  have hj : ∀ (j : Nat) oj, ops[j]? = some oj → _ := fun j oj ho => by
    have := hall j (Array.getElem?_eq_some_iff.1 ho).1
    rw [ho] at this
    exact this
  refine ⟨⟨fun j oj ho e he hb => ?_, fun j oj ho i hji => ?_, fun j oj ho i oi hij hi hanc => ?_, fun j oj ho hk i oi hne hi => ?_⟩, hsel⟩
  · have := hj j oj ho
    simp only [Bool.and_eq_true, Array.all_eq_true_iff_forall_mem, Bool.or_eq_true, Bool.not_eq_true', decide_eq_true_eq] at this
    have := this.1.1.1 e he
    rcases this with h | h
    · rw [h] at hb; cases hb
    · exact h
  · have := hj j oj ho
    simp only [Bool.and_eq_true, List.all_eq_true, List.mem_range, Bool.or_eq_true, Bool.not_eq_true', Array.any_eq_true', beq_iff_eq] at this
    have hij : i < j := by simp [anc] at hji; exact hji.1
    have hjs := (Array.getElem?_eq_some_iff.1 ho).1
    rcases this.1.1.2 i (by omega) with h | ⟨e, he, hb, h⟩
    · rw [hji] at h; cases h
    · exact ⟨e, he, hb, h⟩
  · have := hj j oj ho
    simp only [Bool.and_eq_true, List.all_eq_true, List.mem_range, Bool.or_eq_true] at this
    have := this.1.2 i hij
    rw [hi, hanc] at this
    simp only [Bool.false_eq_true, false_or, Bool.and_eq_true] at this
    exact ⟨this.1.1, this.1.2, by simpa [Bool.or_eq_true] using this.2⟩
  · have := hj j oj ho
    simp only [Bool.and_eq_true, List.all_eq_true, List.mem_range, Bool.or_eq_true, bne_iff_ne, ne_eq, hk, not_true_eq_false, false_or, beq_iff_eq] at this
    have := this.2 i (Array.getElem?_eq_some_iff.1 hi).1
    rw [hi] at this
    simp only [hne, false_or, Bool.and_eq_true, bne_iff_ne, ne_eq] at this
    exact this

section
variable {C : Cfg} {w : World} {F : Nat → Prop} {σ : SMap} {H : Heap} {tm : Array Value} {env : Env}

/-- A call by name, whether the function has a body or not. -/
def CallF (P : Program) (f : FuncId) (args : Array Value) (w : World) (R : Value → World → Prop) : Prop :=
  match (callFunc f args).run P w with
  | .ok (.value v) w' => R v w'
  | .ok (.enter g as) w' => w' = w ∧ Calls P g as w fun e w'' => ∃ v, e = .returned v ∧ R v w''
  | _ => False
theorem CallF.mono {P : Program} {f : FuncId} {args : Array Value} {w : World} {R R' : Value → World → Prop} (h : CallF P f args w R) (hr : ∀ v w', R v w' → R' v w') : CallF P f args w R' := by
  unfold CallF at *
  split at h
  · exact hr _ _ h
  · exact ⟨h.1, h.2.mono fun e w'' ⟨v, he, hR⟩ => ⟨v, he, hr _ _ hR⟩⟩
  · exact h.elim
theorem CallF.of_calls {P : Program} {f : FuncId} {fn : Func} {args : Array Value} {w : World} {R : Value → World → Prop} (hf : P.funcs[f]? = some fn) (hb : fn.body.isSome = true) (hn : fn.name ≠ "runtime.NumGoroutine")
    (h : Calls P f args w fun e w'' => ∃ v, e = .returned v ∧ R v w'') : CallF P f args w R := by
  have hrun : (callFunc f args).run P w = .ok (.enter f args) w := by
    unfold callFunc
    obtain ⟨c, hc⟩ := Option.isSome_iff_exists.1 hb
    simp [hf, hn, hc]
  unfold CallF
  rw [hrun]
  exact ⟨rfl, h⟩

/-- The temporaries behind one more result. -/
theorem RelT.put (h : RelT w.heap F σ H tm env) {d : Option Nat} {v : Value} {p : PV} (hr : Rep w.heap F σ H v p) (hd : ∀ x, d = some x → x < tm.size) (df : List Deferred) : RelT w.heap F σ H ((⟨tm, df⟩ : Act).put d v).tmps (env.put d p) := by
  intro i
  cases d with
  | none => exact h i
  | some d =>
    have hlt := hd d rfl
    show Rep _ _ _ _ ((tm.setIfInBounds d v).getD i undef) (if i = d then p else env i)
    by_cases hid : i = d
    · subst hid
      simp [hlt, hr]
    · rw [if_neg hid]
      have := h i
      simpa [Array.getElem?_setIfInBounds_ne (Ne.symm hid)] using this
theorem put_size (tm : Array Value) (df : List Deferred) (d : Option Nat) (v : Value) : ((⟨tm, df⟩ : Act).put d v).tmps.size = tm.size := by cases d <;> simp [Act.put]
theorem put_def (tm : Array Value) (df : List Deferred) (d : Option Nat) (v : Value) : (⟨tm, df⟩ : Act).put d v = ⟨((⟨tm, df⟩ : Act).put d v).tmps, df⟩ := by cases d <;> rfl
theorem rep_void (hp : Array Go.Obj) (F : Nat → Prop) (σ : SMap) (H : Heap) : Rep hp F σ H undef .void := .tuple [] [] rfl fun i v p hv => by simp at hv

theorem wanted_rep {ops : Array Oper} (ht : RelT w.heap F σ H tm env) {o : Oper} {b : Bool} (h : wantedP ops.toList env o = some b) : Region.wanted o (yielded ops tm) = b := by
  unfold wantedP at h
  unfold Region.wanted
  cases hg : o.guard with
  | none => rw [hg] at h; simpa using h
  | some x =>
    obtain ⟨j, want⟩ := x
    rw [hg] at h
    simp only at h ⊢
    unfold yielded
    have hl : (ops.toList[j]?).bind (·.dst) = (ops[j]?).bind (·.dst) := by simp
    rw [hl] at h
    cases hd : (ops[j]?).bind (·.dst) with
    | none => rw [hd] at h; simp at h
    | some d =>
      rw [hd] at h
      simp only [Option.map_some, Option.bind_some] at h ⊢
      have hr := ht d
      have hget : tm.getD d undef = (tm[d]?).getD undef := by simp
      rw [hget] at hr
      split at h
      · rename_i b' heq
        simp only [Option.some.injEq] at heq h
        rw [heq] at hr
        have hv := hr.bool_inv
        cases htd : tm[d]? with
        | none => rw [htd] at hv; simp [undef] at hv
        | some u =>
          rw [htd] at hv
          simp only [Option.getD_some] at hv
          subst hv
          simpa using h
      · rename_i heq
        simp only [Option.some.injEq] at heq h
        rw [heq] at hr
        cases htd : tm[d]? with
        | none => simpa using h
        | some u =>
          rw [htd] at hr
          simp only [Option.getD_some] at hr
          cases hr
          simpa using h
      · cases h

/-- What follows an operation. -/
def After (w0 : World) (F0 : Nat → Prop) (σ0 : SMap) (H0 : Heap) (m : Nat) (env' : Env) (H' : Heap) (K : Act → World → Prop) : Prop :=
  ∀ tm' w' F' σ', tm'.size = m → RelT w'.heap F' σ' H' tm' env' → Go_ w0 F0 σ0 H0 w' F' σ' H' → K ⟨tm', []⟩ w'

theorem OpSim.wp {o : Oper} {p : PV} {H' : Heap} {K : Act → World → Prop} {Q : Exit → Act → World → Prop} (ht : RelT w.heap F σ H tm env) (hd : ∀ x, o.dst = some x → x < tm.size)
    (h : OpSim C.P o (⟨tm, []⟩ : Act).eval w F σ H p H') (hK : After w F σ H tm.size (env.put o.dst p) H' K) : o.wp C.P ⟨tm, []⟩ w K Q := by
  obtain ⟨nx, v, w', F', σ', h1, h2, h3, h4⟩ := h
  unfold Oper.wp
  rw [h1]
  rcases h2 with rfl | ⟨rfl, rfl⟩
  · rw [Oper.upon_value, put_def]
    exact hK _ w' F' σ' (put_size ..) ((ht.ext h4.ext).put h3 hd []) h4
  · rw [Oper.upon_skip, put_def]
    exact hK _ w' F' σ' (put_size ..) ((ht.ext h4.ext).put h3 hd []) h4

/-! ### The theorem, fuel by fuel -/
/-- A pure call changes nothing that was there. -/
structure PureStep (w : World) (F : Nat → Prop) (w' : World) (F' : Nat → Prop) : Prop where
  os : w'.os = w.os
  tape : w'.tape = w.tape
  output : w'.output = w.output
  size : w.heap.size ≤ w'.heap.size
  block : ∀ b, b < w.heap.size → w'.heap[b]? = w.heap[b]?
  fro : ∀ b, F b → F' b
  newF : ∀ b, F' b → F b ∨ w.heap.size ≤ b
  lt : ∀ b, F' b → b < w'.heap.size
abbrev nosig : SMap := fun _ _ => none

structure ProgOk (C : Cfg) : Prop where
  mixed : C.P.follows .mixedOrders = true
  fns : ∀ f fn, C.bad f = false → C.P.funcs[f]? = some fn → fnOk C fn = true
  ext : ∀ f g args r, C.ext f = some g → g args = some r → ∀ (w : World) (F : Nat → Prop) vs, (∀ b, F b → b < w.heap.size) → RepL w.heap F nosig Heap.empty vs args →
    CallF C.P f ⟨vs⟩ w fun v w' => ∃ F', r.noRef = true ∧ Rep w'.heap F' nosig Heap.empty v r ∧ PureStep w F w' F'

structure SoundAt (C : Cfg) (n : Nat) : Prop where
  code : ∀ a c env H o env' H', evCode C n a c env H = some (o, env', H') → ∀ (w : World) F σ tm, codeOk C tm.size c = true → RelG C w.heap F → RelS w.heap F σ H → RelT w.heap F σ H tm env → ∀ Q : Exit → Act → World → Prop,
    After w F σ H tm.size env' H' (Q (match o with | .norm => .normal | .exit id => .exit id | .ret => .ret)) → c.wp C.P Q ⟨tm, []⟩ w
  op : ∀ a env H o p H', evOp C n a env H o = some (p, H') → ∀ (w : World) F σ tm, (∀ x, o.dst = some x → x < tm.size) → RelG C w.heap F → RelS w.heap F σ H → RelT w.heap F σ H tm env → ∀ (K : Act → World → Prop) (Q : Exit → Act → World → Prop),
    After w F σ H tm.size (env.put o.dst p) H' K → o.wp C.P ⟨tm, []⟩ w K Q
  call : ∀ f args H r H', evCall C n f args H = some (r, H') → ∀ (w : World) F σ vs, RelG C w.heap F → RelS w.heap F σ H → RepL w.heap F σ H vs args → CallF C.P f ⟨vs⟩ w fun v w' => ∃ F' σ', Rep w'.heap F' σ' H' v r ∧ Go_ w F σ H w' F' σ' H'
  pure : ∀ f args r, evPure C n f args = some r → ∀ (w : World) F vs, RelG C w.heap F → (∀ b, F b → b < w.heap.size) → RepL w.heap F nosig Heap.empty vs args → CallF C.P f ⟨vs⟩ w fun v w' => ∃ F', r.noRef = true ∧ Rep w'.heap F' nosig Heap.empty v r ∧ PureStep w F w' F'
  body : ∀ a f args H r H', evBody C n a f args H = some (r, H') → ∀ (w : World) F σ vs, RelG C w.heap F → RelS w.heap F σ H → RepL w.heap F σ H vs args →
    ∃ fn, C.P.funcs[f]? = some fn ∧ fn.body.isSome = true ∧ fn.name ≠ "runtime.NumGoroutine" ∧ Calls C.P f ⟨vs⟩ w fun e w' => ∃ v, e = .returned v ∧ ∃ F' σ', Rep w'.heap F' σ' H' v r ∧ Go_ w F σ H w' F' σ' H'

theorem After.trans {w w1 : World} {F F1 : Nat → Prop} {σ σ1 : SMap} {H H1 : Heap} {m : Nat} {env' : Env} {H' : Heap} {K : Act → World → Prop} (h : After w F σ H m env' H' K) (g : Go_ w F σ H w1 F1 σ1 H1) : After w1 F1 σ1 H1 m env' H' K :=
  fun tm' w' F' σ' hs ht hg => h tm' w' F' σ' hs ht (g.trans hg)
theorem RelG.go {w w1 : World} {F F1 : Nat → Prop} {σ σ1 : SMap} {H H1 : Heap} (h : RelG C w.heap F) (g : Go_ w F σ H w1 F1 σ1 H1) : RelG C w1.heap F1 := h.ext g.ext.fro g.ext.cell

theorem empty_rel {hp : Array Go.Obj} {F : Nat → Prop} (h : ∀ b, F b → b < hp.size) : RelS hp F nosig Heap.empty :=
  ⟨fun a d => trivial, fun a d a' d' b base n base' n' h => (by cases h), h⟩

/-- One operation, a call among them. -/
theorem op_step {n : Nat} (ih : SoundAt C n) : ∀ a env H o p H', evOp C (n + 1) a env H o = some (p, H') → ∀ (w : World) F σ tm, (∀ x, o.dst = some x → x < tm.size) → RelG C w.heap F → RelS w.heap F σ H → RelT w.heap F σ H tm env → ∀ (K : Act → World → Prop) (Q : Exit → Act → World → Prop),
    After w F σ H tm.size (env.put o.dst p) H' K → o.wp C.P ⟨tm, []⟩ w K Q := by
  intro a env H o p H' h w F σ tm hd hg hs ht K Q hK
  unfold evOp at h
  split at h
  · rename_i f args ts heq
    simp only [Option.bind_eq_some_iff] at h
    obtain ⟨q, hq, h⟩ := h
    have hf := evalO_rep (df := []) hg ht f q hq
    split at h
    · rename_i g fs cs
      simp only [Option.bind_eq_some_iff] at h
      obtain ⟨ps, hps, h⟩ := h
      have has := evalOs_rep (df := []) hg ht _ _ hps
      generalize hev : (⟨tm, []⟩ : Act).eval f = v at hf
      cases hf with
      | func fn vs us ps' qs hl hm h1 h2 =>
        have hargs : RepL w.heap F σ H (vs ++ args.toList.map (⟨tm, []⟩ : Act).eval ++ us) (fs ++ ps ++ cs) := (RepL.append ⟨hl, h1⟩ has).append ⟨hm, h2⟩
        have hcall := ih.call g _ H p H' h w F σ _ hg hs hargs
        unfold Oper.wp
        have hrun : (execOp (⟨tm, []⟩ : Act).eval o).run C.P w = (callFunc g ⟨vs ++ args.toList.map (⟨tm, []⟩ : Act).eval ++ us⟩).run C.P w := by
          obtain ⟨dst, op, ty, pos, aft, gd⟩ := o
          simp only at heq
          subst heq
          show (do let d ← Go.resolve (⟨tm, []⟩ : Act).eval ⟨.value f, args, ts⟩ ty; invoke d.target d.args).run C.P w = _
          simp only [Go.resolve, hev, Deferred.ofValue, Sem.run_bind, Sem.run_pure, Result.andThen, invoke]
          congr 2
          apply Array.ext'
          simp
        rw [hrun]
        unfold CallF at hcall
        split at hcall
        · rename_i v w' hr
          rw [hr, Oper.upon_value, put_def]
          obtain ⟨F', σ', h3, h4⟩ := hcall
          exact hK _ w' F' σ' (put_size ..) ((ht.ext h4.ext).put h3 hd []) h4
        · rename_i g' as' w' hr
          rw [hr, Oper.upon_enter]
          obtain ⟨rfl, hc⟩ := hcall
          refine hc.mono fun e w'' ⟨v, he, F', σ', h3, h4⟩ => ?_
          subst he
          show K ((⟨tm, []⟩ : Act).put o.dst v) w''
          rw [put_def]
          exact hK _ w'' F' σ' (put_size ..) ((ht.ext h4.ext).put h3 hd []) h4
        · exact hcall.elim
    · cases h
  · exact OpSim.wp ht hd (opP_sound hg ht hs h) hK

/-- A region in its text's order. -/
theorem ops_list {n : Nat} (ih : ∀ m, m ≤ n → SoundAt C m) {a : Nat} {ops : Array Oper} {Q : Exit → Act → World → Prop} : ∀ (l : List Oper) (m : Nat) (env env' : Env) (H H' : Heap), m ≤ n + 1 → evOps C m a ops.toList l env H = some (env', H') →
    ∀ (w : World) F σ tm, (∀ o ∈ l, ∀ x, o.dst = some x → x < tm.size) → RelG C w.heap F → RelS w.heap F σ H → RelT w.heap F σ H tm env → After w F σ H tm.size env' H' (Q .normal) → wpList C.P ops Q l ⟨tm, []⟩ w
  | [], m, env, env', H, H', hm, h, w, F, σ, tm, hd, hg, hs, ht, hK => by
    cases m with
    | zero => simp [evOps] at h
    | succ m =>
      simp only [evOps, Option.some.injEq, Prod.mk.injEq] at h
      obtain ⟨rfl, rfl⟩ := h
      exact hK tm w F σ rfl ht (.refl hs)
  | o :: l, m, env, env', H, H', hm, h, w, F, σ, tm, hd, hg, hs, ht, hK => by
    cases m with
    | zero => simp [evOps] at h
    | succ m =>
      simp only [evOps, Option.bind_eq_some_iff] at h
      obtain ⟨b, hb, h⟩ := h
      have hw := wanted_rep ht hb
      unfold wpList
      cases b
      · rw [if_neg (by simp [hw]), put_def]
        refine ops_list ih l m _ env' H H' (by omega) h w F σ _ (fun x hx y hy => by rw [put_size]; exact hd x (by simp [hx]) y hy) hg hs (ht.put (rep_void ..) (hd o (by simp)) []) ?_
        rw [put_size]; exact hK
      · rw [if_pos (by simp [hw])]
        simp only [Option.bind_eq_some_iff] at h
        obtain ⟨⟨v, H1⟩, hv, h⟩ := h
        left
        refine (ih m (by omega)).op a env H o v H1 hv w F σ tm (hd o (by simp)) hg hs ht _ Q fun tm' w' F' σ' hsz ht' hgo => ?_
        refine ops_list ih l m _ env' H1 H' (by omega) h w' F' σ' tm' (fun x hx y hy => by rw [hsz]; exact hd x (by simp [hx]) y hy) (hg.go hgo) hgo.rel ht' ?_
        rw [hsz]; exact hK.trans hgo

/-- A region in whatever order. -/
theorem ops_any {n : Nat} (ih : SoundAt C n) {a : Nat} {ops : Array Oper} {Q : Exit → Act → World → Prop} {Qa : Env → Heap → Prop} {w0 : World} {F0 : Nat → Prop} {σ0 : SMap} {H0 : Heap} {m : Nat} (hd : ∀ o ∈ ops.toList, ∀ x, o.dst = some x → x < m)
    (hQ : ∀ env' H', Qa env' H' → After w0 F0 σ0 H0 m env' H' (Q .normal)) : ∀ (fuel : Nat) (listed : Array Bool) (env : Env) (H : Heap), AnyA C ops n a Qa fuel listed env H →
    ∀ (w : World) F σ tm, tm.size = m → RelG C w.heap F → Go_ w0 F0 σ0 H0 w F σ H → RelT w.heap F σ H tm env → wpAny C.P .any ops Q fuel listed ⟨tm, []⟩ w
  | 0, listed, env, H, h, w, F, σ, tm, hsz, hg, hgo, ht => ⟨h.1, hQ env H h.2 tm w F σ hsz ht hgo⟩
  | fuel + 1, listed, env, H, h, w, F, σ, tm, hsz, hg, hgo, ht => by
    refine ⟨fun h0 => hQ env H (h.1 h0) tm w F σ hsz ht hgo, fun i hi => ?_⟩
    obtain ⟨env1, H1, hst, hA⟩ := h.2 i hi
    unfold aStep at hst
    unfold wpOp
    cases ho : ops[i]? with
    | none =>
      rw [ho] at hst
      simp only [Option.some.injEq, Prod.mk.injEq] at hst
      obtain ⟨rfl, rfl⟩ := hst
      exact ops_any ih hd hQ fuel _ env H hA w F σ tm hsz hg hgo ht
    | some o =>
      rw [ho] at hst
      simp only [Option.map_eq_some_iff, Prod.mk.injEq] at hst
      obtain ⟨⟨v, H2⟩, hv, rfl, rfl⟩ := hst
      unfold stepV at hv
      simp only [Option.bind_eq_some_iff] at hv
      obtain ⟨b, hb, hv⟩ := hv
      have hw := wanted_rep ht hb
      have hdo : ∀ x, o.dst = some x → x < tm.size := fun x hx => by rw [hsz]; exact hd o (by simpa using Array.mem_of_getElem? ho) x hx
      simp only
      cases b
      · simp only [Bool.false_eq_true, if_false, Option.some.injEq, Prod.mk.injEq] at hv
        obtain ⟨rfl, rfl⟩ := hv
        rw [if_neg (by simp [hw]), put_def]
        exact ops_any ih hd hQ fuel _ _ H hA w F σ _ (by rw [put_size]; exact hsz) hg hgo (ht.put (rep_void ..) hdo [])
      · simp only [if_true] at hv
        rw [if_pos (by simp [hw])]
        left
        exact ih.op a env H o v H2 hv w F σ tm hdo hg hgo.rel ht _ Q fun tm' w' F' σ' hsz' ht' hgo' => ops_any ih hd hQ fuel _ _ H2 hA w' F' σ' tm' (hsz'.trans hsz) (hg.go hgo') (hgo.trans hgo') ht'
end
end Go.V
