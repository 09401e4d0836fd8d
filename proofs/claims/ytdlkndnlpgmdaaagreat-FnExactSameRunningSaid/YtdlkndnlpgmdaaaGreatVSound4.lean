/- What V computes of a function, a call on the machine comes to. No condition. -/
import Derived.Test.YtdlkndnlpgmdaaaGreatVSound3
/-! V is sound: bodies, calls, and the whole. -/
namespace Go.V
open Go Go.RowKit
set_option linter.unusedSimpArgs false
set_option linter.unusedVariables false

section
variable {C : Cfg} {w : World} {F : Nat → Prop} {σ : SMap} {H : Heap} {tm : Array Value} {env : Env}

theorem asAddr_of_load {P : Program} {t : TypeId} {x v : Value} (h : (Instr.loadAt t x).run P w = .ok v w) : (do loadVar t (← asAddr x)).run P w = .ok v w := by
  cases x <;> first
    | (simp [Instr.loadAt, Instr.sureAddr] at h; done)
    | skip
  rename_i a
  cases a with
  | none => simp [Instr.loadAt, Instr.sureAddr] at h
  | some a => exact h

def rv (tm : Array Value) : ResultVar → Sem Value
  | .tmp t => pure (tm.getD t undef)
  | .cell a t => do loadVar t (← asAddr (tm.getD a undef))
theorem results_rv (fn : Func) (tm : Array Value) : results fn tm = (do let vs ← fn.results.mapM (rv tm); pure (if h : vs.size = 1 then vs[0] else .tuple vs)) := by
  unfold results
  congr 2

theorem results_list (hs : RelS w.heap F σ H) (ht : RelT w.heap F σ H tm env) : ∀ (l : List ResultVar) (ps : List PV), resultP C H env l = some ps →
    ∃ vs, (l.mapM (rv tm)).run C.P w = .ok vs w ∧ RepL w.heap F σ H vs ps
  | [], ps, h => by
    simp only [resultP, Option.some.injEq] at h; subst h
    exact ⟨[], rfl, rfl, fun i v p hv => by simp at hv⟩
  | .tmp t :: l, ps, h => by
    simp only [resultP, Option.map_eq_some_iff] at h
    obtain ⟨qs, hqs, rfl⟩ := h
    obtain ⟨vs, h1, h2⟩ := results_list hs ht l qs hqs
    refine ⟨tm.getD t undef :: vs, ?_, by simp [h2.1], fun i v p hv hp => ?_⟩
    · simp only [List.mapM_cons, rv, Sem.run_bind, Sem.run_pure, Result.andThen, h1]
    · cases i with
      | zero => simp only [List.getElem?_cons_zero, Option.some.injEq] at hv hp; subst hv hp; exact ht t
      | succ i => simp only [List.getElem?_cons_succ] at hv hp; exact h2.2 i v p hv hp
  | .cell a t :: l, ps, h => by
    simp only [resultP, Option.bind_eq_some_iff, Option.map_eq_some_iff] at h
    obtain ⟨p0, hp0, qs, hqs, rfl⟩ := h
    obtain ⟨vs, h1, h2⟩ := results_list hs ht l qs hqs
    obtain ⟨v0, h3, h4⟩ := loadP_run hs (ht a) hp0
    refine ⟨v0 :: vs, ?_, by simp [h2.1], fun i v p hv hp => ?_⟩
    · have := asAddr_of_load h3
      rw [List.mapM_cons, Sem.run_bind, show (rv tm (.cell a t)).run C.P w = .ok v0 w from this]
      simp only [Result.andThen, Sem.run_bind, Sem.run_pure, h1]
    · cases i with
      | zero => simp only [List.getElem?_cons_zero, Option.some.injEq] at hv hp; subst hv hp; exact h4
      | succ i => simp only [List.getElem?_cons_succ] at hv hp; exact h2.2 i v p hv hp

theorem results_run {fn : Func} (hs : RelS w.heap F σ H) (ht : RelT w.heap F σ H tm env) {ps : List PV} (h : resultP C H env fn.results.toList = some ps) :
    ∃ v, (results fn tm).run C.P w = .ok v w ∧ Rep w.heap F σ H v (packP ps) := by
  obtain ⟨vs, h1, h2⟩ := results_list hs ht _ _ h
  have hm : (fn.results.mapM (rv tm)).run C.P w = .ok vs.toArray w := by
    have e : fn.results = fn.results.toList.toArray := by simp
    rw [e, List.mapM_toArray]
    simp only [map_eq_pure_bind, Sem.run_bind, h1, Result.andThen, Sem.run_pure]
  rw [results_rv, Sem.run_bind]
  rw [hm]
  simp only [Result.andThen, Sem.run_pure]
  refine ⟨_, rfl, ?_⟩
  obtain ⟨hl, hr⟩ := h2
  match vs, ps, hl with
  | [], [], _ => exact .tuple [] [] rfl fun i v p hv => by simp at hv
  | [v], [p], _ => exact hr 0 v p rfl rfl
  | v :: v' :: vs, p :: p' :: ps, hl => exact .tuple _ _ hl hr

theorem tmps_rel {vs : List Value} {args : List PV} (h : RepL w.heap F σ H vs args) (k : Nat) : RelT w.heap F σ H ((⟨vs⟩ : Array Value) ++ Array.replicate k undef) (Env.ofList args) := by
  intro i
  unfold Env.ofList
  have hget : ((⟨vs⟩ : Array Value) ++ Array.replicate k undef).getD i undef = vs.getD i undef := by
    simp only [Array.getD_eq_getD_getElem?, Array.getElem?_append, List.getD_eq_getElem?_getD]
    split
    · simp
    · rename_i hlt
      rw [List.getElem?_eq_none (by simpa using hlt)]
      simp only [Array.getElem?_replicate, Option.getD_none]
      split <;> rfl
  rw [hget, List.getD_eq_getElem?_getD, List.getD_eq_getElem?_getD]
  by_cases hi : i < vs.length
  · have hi' : i < args.length := by rw [← h.1]; exact hi
    rw [List.getElem?_eq_getElem hi, List.getElem?_eq_getElem hi']
    exact h.2 i _ _ (List.getElem?_eq_getElem hi) (List.getElem?_eq_getElem hi')
  · rw [List.getElem?_eq_none (by omega), List.getElem?_eq_none (by have := h.1; omega)]
    exact rep_void ..

theorem body_step (pk : ProgOk C) {n : Nat} (ih : SoundAt C n) : ∀ a f args H r H', evBody C (n + 1) a f args H = some (r, H') → ∀ (w : World) F σ vs, RelG C w.heap F → RelS w.heap F σ H → RepL w.heap F σ H vs args →
    ∃ fn, C.P.funcs[f]? = some fn ∧ fn.body.isSome = true ∧ fn.name ≠ "runtime.NumGoroutine" ∧ Calls C.P f ⟨vs⟩ w fun e w' => ∃ v, e = .returned v ∧ ∃ F' σ', Rep w'.heap F' σ' H' v r ∧ Go_ w F σ H w' F' σ' H' := by
  intro a f args H r H' h w F σ vs hg hs hargs
  unfold evBody at h
  split at h
  · cases h
  rename_i hbad
  split at h
  · rename_i fn hfn
    split at h
    · rename_i c hc
      simp only [Option.bind_eq_some_iff] at h
      obtain ⟨⟨o, env1, H1⟩, h1, h⟩ := h
      have hfo := pk.fns f fn (by simpa using hbad) hfn
      unfold fnOk at hfo
      rw [hc] at hfo
      simp only [Bool.and_eq_true, bne_iff_ne, ne_eq] at hfo
      refine ⟨fn, hfn, by rw [hc]; rfl, hfo.1, calls_of_wp hfn hc ?_⟩
      refine ih.code a c (Env.ofList args) H o env1 H1 h1 w F σ _ (codeOk_mono ?_ hfo.2.1) hg hs (tmps_rel hargs _) _ ?_
      · simp; omega
      · have key : ∀ (rs : List PV), resultP C H1 env1 fn.results.toList = some rs → packP rs = r ∧ H1 = H' → After w F σ H ((⟨vs⟩ : Array Value) ++ Array.replicate (fn.ntmps - (⟨vs⟩ : Array Value).size) undef).size env1 H1
            (fun a w' => a.defers = [] ∧ ∃ v, (results fn a.tmps).run C.P w' = .ok v w' ∧ ∃ v', Ending.returned v = .returned v' ∧ ∃ F' σ', Rep w'.heap F' σ' H' v' r ∧ Go_ w F σ H w' F' σ' H') := by
          rintro rs hrs ⟨rfl, rfl⟩ tm' w' F' σ' hsz ht' hgo
          obtain ⟨v, hv, hr⟩ := results_run hgo.rel ht' hrs
          exact ⟨rfl, v, hv, v, rfl, F', σ', hr, hgo⟩
        cases o
        · simp only [Option.map_eq_some_iff, Prod.mk.injEq] at h
          obtain ⟨rs, hrs, h2⟩ := h
          exact key rs hrs h2
        · cases h
        · simp only [Option.map_eq_some_iff, Prod.mk.injEq] at h
          obtain ⟨rs, hrs, h2⟩ := h
          exact key rs hrs h2
    · cases h
  · cases h

theorem no_wr {b : Nat} : ¬ Wr nosig Heap.empty b := fun ⟨_, _, _, _, _, h⟩ => by cases h

theorem pure_step (pk : ProgOk C) {n : Nat} (ih : SoundAt C n) : ∀ f args r, evPure C (n + 1) f args = some r → ∀ (w : World) F vs, RelG C w.heap F → (∀ b, F b → b < w.heap.size) → RepL w.heap F nosig Heap.empty vs args →
    CallF C.P f ⟨vs⟩ w fun v w' => ∃ F', r.noRef = true ∧ Rep w'.heap F' nosig Heap.empty v r ∧ PureStep w F w' F' := by
  intro f args r h w F vs hg hlt hargs
  unfold evPure at h
  split at h
  · rename_i g hx
    exact pk.ext f g args r hx h w F vs hlt hargs
  · simp only [Option.bind_eq_some_iff] at h
    obtain ⟨⟨r0, H1⟩, h1, h⟩ := h
    obtain ⟨fn, hfn, hb, hn, hc⟩ := ih.body 0 f args Heap.empty r0 H1 h1 w F nosig vs hg (empty_rel hlt) hargs
    refine CallF.of_calls hfn hb hn (hc.mono ?_)
    rintro e w' ⟨v, rfl, F', σ', hr, hgo⟩
    refine ⟨v, rfl, fun b => F' b ∨ Wr σ' H1 b, ?_⟩
    have hx : Ext w'.heap F' σ' H1 w'.heap (fun b => F' b ∨ Wr σ' H1 b) σ' H1 := ⟨fun _ h => .inl h, fun _ _ => rfl, fun _ _ => .inr ⟨rfl, fun _ _ _ h => ⟨h, Nat.le_refl _⟩⟩⟩
    obtain ⟨h2, h3⟩ := resolve_rep (G := fun b => F' b ∨ Wr σ' H1 b) true hgo.rel (fun b h => .inl h) (fun _ b h => .inr h) _ v r0 r (hr.ext hx) (fun h => by cases h) h
    refine ⟨h2, h3, ⟨hgo.keep.os, hgo.keep.tape, hgo.keep.output, hgo.keep.size, fun b hb => hgo.keep.block b hb no_wr, fun b h => .inl (hgo.ext.fro b h), fun b h => ?_, fun b h => ?_⟩⟩
    · rcases h with h | h
      · exact hgo.keep.newF b h
      · exact (hgo.keep.newW b h).elim (fun h => absurd h no_wr) .inr
    · rcases h with h | h
      · exact hgo.rel.lt b h
      · exact (hgo.rel.block_lt h).1

theorem scalars_get {l : List PV} (h : scalars l = true) : ∀ (i : Nat) p, l[i]? = some p → p.scalar = true := by
  induction l with
  | nil => intro i p hp; simp at hp
  | cons q r ih =>
    simp only [scalars, Bool.and_eq_true] at h
    intro i p hp
    cases i with
    | zero => simp at hp; subst hp; exact h.1
    | succ i => exact ih h.2 i p (by simpa using hp)
theorem Rep.scalar {hp : Array Go.Obj} {v : Value} {p : PV} (h : Rep hp F σ H v p) (hn : p.scalar = true) (hp' : Array Go.Obj) (F' : Nat → Prop) (σ' : SMap) (H' : Heap) : Rep hp' F' σ' H' v p := by
  induction h with
  | bool b => exact .bool b
  | int k n => exact .int k n
  | str s => exact .str s
  | agg vs ps hl ho _ ih => exact .agg vs ps hl ho fun i v p hv hp => ih i v p hv hp (scalars_get (by simpa [PV.scalar] using hn) i p hp)
  | tuple vs ps hl _ ih => exact .tuple vs ps hl fun i v p hv hp => ih i v p hv hp (scalars_get (by simpa [PV.scalar] using hn) i p hp)
  | nilptr => exact .nilptr
  | nilfunc => exact .nilfunc
  | nilmap => exact .nilmap
  | niliface => exact .niliface
  | empty => simp [PV.scalar] at hn
  | slice => simp [PV.scalar] at hn
  | srefOld => simp [PV.scalar] at hn
  | sref => simp [PV.scalar] at hn
  | cptr => simp [PV.scalar] at hn
  | ptrOld => simp [PV.scalar] at hn
  | ptr => simp [PV.scalar] at hn
  | mrefOld => simp [PV.scalar] at hn
  | mref => simp [PV.scalar] at hn
  | func => simp [PV.scalar] at hn
  | iface => simp [PV.scalar] at hn

/-- What a pure step of more readable blocks is for the state it was made from. -/
theorem PureStep.go {G : Nat → Prop} {w' : World} {F1 F' : Nat → Prop} (hs : RelS w.heap F σ H) (h : PureStep w G w' F1) (h1 : ∀ b, F b → F' b) (h2 : ∀ b, F' b → F b ∨ w.heap.size ≤ b) (h3 : ∀ b, F' b → b < w'.heap.size) : Go_ w F σ H w' F' σ H := by
  have hx : Ext w.heap F σ H w'.heap F' σ H := ⟨h1, fun b hb => h.block b (hs.lt b hb), fun a d => .inr ⟨rfl, fun b base n hσ => ⟨hσ, by
    unfold sizeAt
    by_cases hb : b < w.heap.size
    · rw [h.block b hb]; exact Nat.le_refl _
    · rw [Array.getElem?_eq_none (by omega)]; exact Nat.zero_le _⟩⟩⟩
  refine ⟨hx, ⟨h.os, h.tape, h.output, h.size, fun b hb _ => h.block b hb, h2, fun b h => .inl h⟩, ⟨fun a d => RelObj.ext' hx (hs.obj a d) rfl rfl fun b base n ha hσ => ?_, hs.inj, h3⟩⟩
  have := hs.block_lt ⟨a, d, base, n, ha, hσ⟩
  exact ⟨h.block b this.1, fun hF => (h2 b hF).elim this.2 (by omega)⟩

theorem resolves_spec {k : Nat} {H : Heap} {l l' : List PV} (h : resolves k H l = some l') : resolve k H (.tuple l) = some (.tuple l') := by
  unfold resolves at h
  split at h
  · rename_i l2 heq
    simp only [Option.some.injEq] at h; subst h; exact heq
  · cases h
theorem Rep.tuple_inv {hp : Array Go.Obj} {vs : List Value} {ps : List PV} (h : Rep hp F σ H (.tuple ⟨vs⟩) (.tuple ps)) : RepL hp F σ H vs ps := by
  cases h with
  | tuple vs ps hl hr => exact ⟨hl, hr⟩

/-- The number of activations is no part of the state. -/
theorem acts_go (hs : RelS w.heap F σ H) (k : Nat) : Go_ w F σ H w F σ ⟨k, H.get⟩ := by
  have hx : Ext w.heap F σ H w.heap F σ ⟨k, H.get⟩ := ⟨fun _ h => h, fun _ _ => rfl, fun _ _ => .inr ⟨rfl, fun _ _ _ h => ⟨h, Nat.le_refl _⟩⟩⟩
  exact ⟨hx, ⟨rfl, rfl, rfl, Nat.le_refl _, fun _ _ _ => rfl, fun _ h => .inl h, fun _ h => .inl h⟩, ⟨fun a d => RelObj.ext' hx (hs.obj a d) rfl rfl fun b base n ha hσ => ⟨rfl, (hs.block_lt ⟨a, d, base, n, ha, hσ⟩).2⟩, hs.inj, hs.lt⟩⟩

theorem call_step (pk : ProgOk C) {n : Nat} (ih : SoundAt C n) : ∀ f args H r H', evCall C (n + 1) f args H = some (r, H') → ∀ (w : World) F σ vs, RelG C w.heap F → RelS w.heap F σ H → RepL w.heap F σ H vs args →
    CallF C.P f ⟨vs⟩ w fun v w' => ∃ F' σ', Rep w'.heap F' σ' H' v r ∧ Go_ w F σ H w' F' σ' H' := by
  intro f args H r H' h w F σ vs hg hs hargs
  unfold evCall at h
  split at h
  · have hgo := acts_go hs (H.acts + 1)
    obtain ⟨fn, hfn, hb, hn, hc⟩ := ih.body H.acts f args _ r H' h w F σ vs (hg.go hgo) hgo.rel (hargs.ext hgo.ext)
    refine CallF.of_calls hfn hb hn (hc.mono ?_)
    rintro e w' ⟨v, rfl, F', σ', hr, hgo'⟩
    exact ⟨v, rfl, F', σ', hr, hgo.trans hgo'⟩
  · simp only [Option.bind_eq_some_iff] at h
    obtain ⟨args', hres, r', hr', h⟩ := h
    have hres' := resolves_spec hres
    split at h
    · rename_i hcond
      simp only [Option.some.injEq, Prod.mk.injEq] at h
      obtain ⟨rfl, rfl⟩ := h
      cases hnr : noRefs args
      · -- scalar result
        rw [hnr, Bool.false_or] at hcond
        have hx : Ext w.heap F σ H w.heap (fun b => F b ∨ Wr σ H b) σ H := ⟨fun _ h => .inl h, fun _ _ => rfl, fun _ _ => .inr ⟨rfl, fun _ _ _ h => ⟨h, Nat.le_refl _⟩⟩⟩
        obtain ⟨_, h3⟩ := resolve_rep (G := fun b => F b ∨ Wr σ H b) true hs (fun b h => .inl h) (fun _ b h => .inr h) _ (.tuple ⟨vs⟩) _ _ (.tuple _ _ hargs.1 fun i v p hv hp => (hargs.2 i v p hv hp).ext hx) (fun h => by cases h) hres'
        refine (ih.pure f args' r' hr' w _ vs (hg.ext (fun b h => .inl h) fun _ _ => rfl) (fun b h => h.elim (hs.lt b) fun h => (hs.block_lt h).1) h3.tuple_inv).mono ?_
        rintro v w' ⟨F1, hn1, hr1, hps⟩
        exact ⟨F, σ, hr1.scalar hcond _ _ _ _, hps.go hs (fun _ h => h) (fun _ h => .inl h) fun b h => Nat.lt_of_lt_of_le (hs.lt b h) hps.size⟩
      · obtain ⟨_, h3⟩ := resolve_rep (G := F) false hs (fun b h => h) (fun h => by cases h) _ (.tuple ⟨vs⟩) _ _ (.tuple _ _ hargs.1 hargs.2) (fun _ => by simpa [PV.noRef] using hnr) hres'
        refine (ih.pure f args' r' hr' w F vs hg hs.lt h3.tuple_inv).mono ?_
        rintro v w' ⟨F1, hn1, hr1, hps⟩
        exact ⟨F1, σ, hr1.free hn1 _ _, hps.go hs hps.fro hps.newF hps.lt⟩
    · cases h

theorem sound_zero : SoundAt C 0 := by
  constructor <;> intros <;> simp_all [evCode, evOps, evOp, evCall, evPure, evBody]
/-- **V is sound.** -/
theorem sound (pk : ProgOk C) : ∀ n m, m ≤ n → SoundAt C m
  | 0, m, h => by
    have : m = 0 := by omega
    subst this; exact sound_zero
  | n + 1, m, h => by
    rcases Nat.lt_or_ge m (n + 1) with h1 | h1
    · exact sound pk n m (by omega)
    · have : m = n + 1 := by omega
      subst this
      have ih := sound pk n
      have ihn := ih n (Nat.le_refl n)
      exact ⟨code_step pk ih, op_step ihn, call_step pk ihn, pure_step pk ihn, body_step pk ihn⟩

theorem lim_spec' {α : Type} {f : Nat → Option α} {a : α} (h : lim f = some a) : ∃ n, f n = some a := lim_spec h

/-- A pure function of a body, out of the limit. -/
theorem dPure_calls (pk : ProgOk C) {f : FuncId} {args : List PV} {r : PV} (hx : C.ext f = none) (h : dPure C f args = some r) {vs : List Value} (hg : RelG C w.heap F) (hlt : ∀ b, F b → b < w.heap.size) (hargs : RepL w.heap F nosig Heap.empty vs args) :
    Calls C.P f ⟨vs⟩ w fun e w' => ∃ v, e = .returned v ∧ ∃ F', Rep w'.heap F' nosig Heap.empty v r ∧ PureStep w F w' F' := by
  obtain ⟨n, hn⟩ := lim_spec h
  have hcall := (sound pk n n (Nat.le_refl n)).pure f args r hn w F vs hg hlt hargs
  have hbody : ∃ fn, C.P.funcs[f]? = some fn ∧ fn.body.isSome = true ∧ fn.name ≠ "runtime.NumGoroutine" := by
    cases n with
    | zero => simp [evPure] at hn
    | succ n =>
      unfold evPure at hn
      rw [hx] at hn
      simp only [Option.bind_eq_some_iff] at hn
      obtain ⟨⟨r0, H1⟩, h1, _⟩ := hn
      cases n with
      | zero => simp [evBody] at h1
      | succ n =>
        unfold evBody at h1
        split at h1
        · cases h1
        rename_i hbad
        split at h1
        · rename_i fn hfn
          split at h1
          · rename_i c hc
            have hfo := pk.fns f fn (by simpa using hbad) hfn
            unfold fnOk at hfo
            simp only [Bool.and_eq_true, bne_iff_ne, ne_eq] at hfo
            exact ⟨fn, hfn, by rw [hc]; rfl, hfo.1⟩
          · cases h1
        · cases h1
  obtain ⟨fn, hfn, hb, hnm⟩ := hbody
  have hrun : (callFunc f ⟨vs⟩).run C.P w = .ok (.enter f ⟨vs⟩) w := by
    unfold callFunc
    obtain ⟨c, hc⟩ := Option.isSome_iff_exists.1 hb
    simp [hfn, hnm, hc]
  unfold CallF at hcall
  rw [hrun] at hcall
  refine hcall.2.mono ?_
  rintro e w' ⟨v, rfl, F', _, hr, hps⟩
  exact ⟨v, rfl, F', hr, hps⟩
end
end Go.V
