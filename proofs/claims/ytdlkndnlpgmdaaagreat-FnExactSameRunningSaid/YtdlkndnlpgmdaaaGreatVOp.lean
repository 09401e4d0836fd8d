/- Every operation without a call that V carries out is carried out by the machine. No condition. -/
import Derived.Test.YtdlkndnlpgmdaaaGreatVOps6
/-! One operation that calls nothing: the simulation. -/
namespace Go.V
open Go Go.RowKit
set_option linter.unusedSimpArgs false
set_option linter.unusedVariables false

section
variable {C : Cfg} {w : World} {F : Nat → Prop} {σ : SMap} {H : Heap} {tm : Array Value} {env : Env} {df : List Deferred}

theorem evalOpt_rep (hg : RelG C w.heap F) (ht : RelT w.heap F σ H tm env) {x : Option Operand} {p : Option PV} (h : evalOpt C env x = some p) : RepO w.heap F σ H (x.map (⟨tm, df⟩ : Act).eval) p := by
  cases x with
  | none => simp [evalOpt] at h; subst h; trivial
  | some x =>
    simp only [evalOpt, Option.map_eq_some_iff] at h
    obtain ⟨q, hq, rfl⟩ := h
    exact evalO_rep hg ht x q hq

theorem range_run (hs : RelS w.heap F σ H) {t : TypeId} {a d : Nat} {x : Value} {p r : PV} {H' : Heap} (hx : Rep w.heap F σ H x p) (h : rangeP C.P t a d H p = some (r, H')) :
    ∃ v w' σ', (Instr.range t x).run C.P w = .ok v w' ∧ Rep w'.heap F σ' H' v r ∧ Go_ w F σ H w' F σ' H' := by
  unfold rangeP at h
  split at h
  · rename_i s hk
    simp only [Option.some.injEq, Prod.mk.injEq] at h
    obtain ⟨rfl, rfl⟩ := h
    have e := hx.str_inv
    subst e
    refine ⟨.pointer (some ⟨w.heap.size, 0, none⟩), w.alloc (.stringIter ⟨⟨s⟩⟩ 0), σ.upd a d (w.heap.size, 0, 0), ?_, ?_, new_iter hs a d s 0⟩
    · unfold Instr.range
      simp only [Sem.run_bind, run_underlying (kind_str hk), Result.andThen, Sem.run_pure]
      rfl
    · have hr := Rep.mref (hp := (w.alloc (.stringIter ⟨⟨s⟩⟩ 0)).heap) (F := F) (σ := σ.upd a d (w.heap.size, 0, 0)) (H := H.new a d (.iter s 0)) a d w.heap.size 0 0 (SMap.upd_same ..)
      rw [show ((H.new a d (.iter s 0)).get a d).ver = (H.get a d).ver + 1 by simp [Heap.new, Heap.get_set_same]] at hr
      exact hr
  · cases h

theorem next_run (hs : RelS w.heap F σ H) {b : Bool} {ty : TypeId} {x : Value} {p r : PV} {H' : Heap} (hx : Rep w.heap F σ H x p) (h : nextP H b p = some (r, H')) :
    ∃ v w', (Instr.next x b ty).run C.P w = .ok v w' ∧ Rep w'.heap F σ H' v r ∧ Go_ w F σ H w' F σ H' := by
  unfold nextP at h
  split at h
  · rename_i a d ver
    split at h
    · rename_i hver
      split at h
      · rename_i s pos hb
        have ho := hs.obj a d
        unfold RelObj at ho
        rw [hb] at ho
        obtain ⟨bl, base, n, h1, h2, h3⟩ := ho
        cases hx with
        | mrefOld x a d ver hlt => omega
        | mref a d b' base' n' hs' =>
          rw [h1] at hs'
          simp only [Option.some.injEq, Prod.mk.injEq] at hs'
          obtain ⟨rfl, rfl, rfl⟩ := hs'
          have hget : (getObj bl).run C.P w = .ok (.stringIter ⟨⟨s⟩⟩ pos) w := by simp [getObj, Sem.run, h2]
          simp only [Option.some.injEq] at h
          unfold iterNext at h
          by_cases hp : pos < s.length
          · rw [if_pos hp] at h
            simp only [Prod.mk.injEq] at h
            obtain ⟨rfl, rfl⟩ := h
            have hset : (setObj bl (.stringIter ⟨⟨s⟩⟩ (pos + (Utf8.decode ⟨⟨s⟩⟩ pos).2))).run C.P w = .ok () { w with heap := w.heap.setIfInBounds bl (.stringIter ⟨⟨s⟩⟩ (pos + (Utf8.decode ⟨⟨s⟩⟩ pos).2)) } := by simp [setObj, Sem.run, h2]
            have hgo := step_iter hs (pos + (Utf8.decode ⟨⟨s⟩⟩ pos).2) (w' := { w with heap := w.heap.setIfInBounds bl (.stringIter ⟨⟨s⟩⟩ (pos + (Utf8.decode ⟨⟨s⟩⟩ pos).2)) }) hb h1 rfl rfl rfl rfl
            refine ⟨.tuple #[.bool true, goInt pos, .int .i32 ((Utf8.decode ⟨⟨s⟩⟩ pos).1 : Nat)], _, ?_, ?_, hgo⟩
            · unfold Instr.next
              simp only [Sem.run_bind, hget, Result.andThen]
              have hsz : pos < (⟨⟨s⟩⟩ : ByteArray).size := hp
              simp only [hsz, if_true, Sem.run_bind, hset, Result.andThen, Sem.run_pure]
            · refine .tuple _ _ rfl fun i v p hv hp => ?_
              match i, hv, hp with
              | 0, hv, hp => simp at hv hp; subst hv hp; exact .bool true
              | 1, hv, hp => simp at hv hp; subst hv hp; exact .int _ _
              | 2, hv, hp => simp at hv hp; subst hv hp; exact .int _ _
              | i + 3, hv, hp => simp at hv
          · rw [if_neg hp] at h
            simp only [Prod.mk.injEq] at h
            obtain ⟨rfl, rfl⟩ := h
            refine ⟨.tuple #[.bool false], w, ?_, ?_, .refl hs⟩
            · unfold Instr.next
              simp only [Sem.run_bind, hget, Result.andThen]
              have hsz : ¬ pos < (⟨⟨s⟩⟩ : ByteArray).size := hp
              simp only [hsz, if_false, Sem.run_pure]
            · refine .tuple _ _ rfl fun i v p hv hp => ?_
              match i, hv, hp with
              | 0, hv, hp => simp at hv hp; subst hv hp; exact .bool false
              | i + 1, hv, hp => simp at hv
      · cases h
    · cases h
  · cases h

theorem builtinP_run (hs : RelS w.heap F σ H) {b : Builtin} {ts : List TypeId} {ty : TypeId} {consts : Array Bool} {a : Nat} {d : Option Nat} {vs : List Value} {ps : List PV} {r : PV} {H' : Heap} (hv : RepL w.heap F σ H vs ps) (h : builtinP C b ts a d H ps = some (r, H')) :
    ∃ v w' σ', (builtin b ⟨ts⟩ ty consts ⟨vs⟩).run C.P w = .ok (.value v) w' ∧ Rep w'.heap F σ' H' v r ∧ Go_ w F σ H w' F σ' H' := by
  unfold builtinP at h
  split at h
  · rename_i t x
    obtain ⟨v, rfl⟩ : ∃ v, vs = [v] := by have := hv.1; rcases vs with _ | ⟨v, _ | ⟨u, vs⟩⟩ <;> simp at this; exact ⟨v, rfl⟩
    simp only [Option.map_eq_some_iff, Prod.mk.injEq] at h
    obtain ⟨q, hq, rfl, rfl⟩ := h
    obtain ⟨u, h1, h2⟩ := lenP_run (ty := ty) (hv.2 0 v x rfl rfl) hq
    refine ⟨u, w, σ, ?_, h2, .refl hs⟩
    simp only [builtin, Sem.run_bind]
    rw [show (Builtin.len_ ⟨[t]⟩ ty ⟨[v]⟩).run C.P w = .ok u w from h1]
    rfl
  · rename_i t u s x
    obtain ⟨v1, v2, rfl⟩ : ∃ v1 v2, vs = [v1, v2] := by have := hv.1; rcases vs with _ | ⟨v, _ | ⟨u, _ | ⟨x, vs⟩⟩⟩ <;> simp at this; exact ⟨v, u, rfl⟩
    simp only [Option.bind_eq_some_iff] at h
    obtain ⟨d', rfl, h⟩ := h
    obtain ⟨v, w', σ', h1, h2, h3⟩ := appendP_run (ty := ty) hs (hv.2 0 v1 s rfl rfl) (hv.2 1 v2 x rfl rfl) h
    refine ⟨v, w', σ', ?_, h2, h3⟩
    simp only [builtin, Sem.run_bind]
    rw [show (Builtin.append_ ⟨[t, u]⟩ ty ⟨[v1, v2]⟩).run C.P w = .ok v w' from h1]
    rfl
  · rename_i k x k' y
    obtain ⟨v1, v2, rfl⟩ : ∃ v1 v2, vs = [v1, v2] := by have := hv.1; rcases vs with _ | ⟨v, _ | ⟨u, _ | ⟨x, vs⟩⟩⟩ <;> simp at this; exact ⟨v, u, rfl⟩
    have e1 := (hv.2 0 v1 _ rfl rfl).int_inv
    have e2 := (hv.2 1 v2 _ rfl rfl).int_inv
    subst e1 e2
    split at h
    · rename_i hk; subst hk
      simp only [Option.some.injEq, Prod.mk.injEq] at h
      obtain ⟨rfl, rfl⟩ := h
      exact ⟨_, w, σ, by simp [builtin, Builtin.min_, Builtin.min2], .int _ _, .refl hs⟩
    · cases h
  · rename_i k x k' y
    obtain ⟨v1, v2, rfl⟩ : ∃ v1 v2, vs = [v1, v2] := by have := hv.1; rcases vs with _ | ⟨v, _ | ⟨u, _ | ⟨x, vs⟩⟩⟩ <;> simp at this; exact ⟨v, u, rfl⟩
    have e1 := (hv.2 0 v1 _ rfl rfl).int_inv
    have e2 := (hv.2 1 v2 _ rfl rfl).int_inv
    subst e1 e2
    split at h
    · rename_i hk; subst hk
      simp only [Option.some.injEq, Prod.mk.injEq] at h
      obtain ⟨rfl, rfl⟩ := h
      exact ⟨_, w, σ, by simp [builtin, Builtin.max_, Builtin.max2], .int _ _, .refl hs⟩
    · cases h
  · cases h

theorem op_value {o : Oper} {ρ : Operand → Value} {s : Sem Value} (he : execOp ρ o = (do pure (.value (← s)))) {v : Value} {w' : World} (h : s.run C.P w = .ok v w') : (execOp ρ o).run C.P w = .ok (.value v) w' := by
  rw [he]; simp only [Sem.run_bind, h, Result.andThen, Sem.run_pure]

theorem opP_sound (hg : RelG C w.heap F) (ht : RelT w.heap F σ H tm env) (hs : RelS w.heap F σ H) {a : Nat} {o : Oper} {p : PV} {H' : Heap} (h : opP C a env H o = some (p, H')) :
    OpSim C.P o (⟨tm, df⟩ : Act).eval w F σ H p H' := by
  obtain ⟨dst, op, type, pos, after, guard⟩ := o
  unfold opP at h
  cases op <;> dsimp only at h
  case move x =>
    simp only [Option.map_eq_some_iff, Prod.mk.injEq] at h
    obtain ⟨q, hq, rfl, rfl⟩ := h
    exact QSim.op hs ⟨_, rfl, evalO_rep hg ht x q hq⟩
  case assign x =>
    simp only [Option.map_eq_some_iff, Prod.mk.injEq] at h
    obtain ⟨q, hq, rfl, rfl⟩ := h
    exact QSim.op hs ⟨_, rfl, evalO_rep hg ht x q hq⟩
  case pick c x y =>
    simp only [Option.bind_eq_some_iff] at h
    obtain ⟨q, hq, h⟩ := h
    have hc := evalO_rep (df := df) hg ht c q hq
    split at h
    · rename_i b
      simp only [Option.map_eq_some_iff, Prod.mk.injEq] at h
      obtain ⟨r, hr, rfl, rfl⟩ := h
      have hcv := hc.bool_inv
      refine QSim.op hs ⟨_, ?_, evalO_rep (df := df) hg ht _ r hr⟩
      show (do pure (Next.value (if ← asBool ((⟨tm, df⟩ : Act).eval c) then (⟨tm, df⟩ : Act).eval x else (⟨tm, df⟩ : Act).eval y))).run C.P w = _
      rw [hcv]
      simp only [asBool, Sem.run_bind, Sem.run_pure, Result.andThen]
      cases b <;> rfl
    · cases h
  case alloc t =>
    simp only [Option.bind_eq_some_iff] at h
    obtain ⟨d, hd, z, hz, h⟩ := h
    split at h
    · rename_i hv
      simp only [Option.some.injEq, Prod.mk.injEq] at h
      obtain ⟨rfl, rfl⟩ := h
      obtain ⟨i, v, h1, h2, h3⟩ := tyZero_spec hz
      have hr := ofConst_rep (F := F) (σ := σ) (H := H) (hp := w.heap) v z h3
      obtain ⟨h4, h5⟩ := new_var hs a d t hr hv
      refine ⟨_, _, _, F, _, op_value (s := Instr.alloc t true (.tuple #[])) rfl ?_, .inl rfl, h5, h4⟩
      simp only [Instr.alloc, Sem.run_bind, run_zeroValue' h1 h2, Result.andThen, run_newVar, Sem.run_pure]
    · cases h
  case box t x =>
    simp only [Option.bind_eq_some_iff] at h
    obtain ⟨d, hd, z, hz, h⟩ := h
    split at h
    · rename_i hv
      simp only [Option.some.injEq, Prod.mk.injEq] at h
      obtain ⟨rfl, rfl⟩ := h
      have hr := evalO_rep (df := df) hg ht x z hz
      obtain ⟨h4, h5⟩ := new_var hs a d t hr hv
      exact ⟨_, _, _, F, _, op_value (s := Instr.box t _) rfl (by simp only [Instr.box, Sem.run_bind, Result.andThen, run_newVar, Sem.run_pure]), .inl rfl, h5, h4⟩
    · cases h
  case build t parts =>
    simp only [Option.bind_eq_some_iff, Option.map_eq_some_iff, Prod.mk.injEq] at h
    obtain ⟨ps, hps, r, hr, rfl, rfl⟩ := h
    obtain ⟨hl, hx⟩ := evalParts_rep (df := df) hg ht _ _ hps
    obtain ⟨v, h1, h2⟩ := buildP_run (w := w) (F := F) (σ := σ) (H := H) (parts.map fun (i, x) => (i, (⟨tm, df⟩ : Act).eval x)) ps (by simpa using hl) (fun i x q hi hq => by
      simp only [Array.toList_map, List.getElem?_map, Option.map_eq_some_iff] at hi
      obtain ⟨y, hy, rfl⟩ := hi
      exact hx i y q hy hq) hr
    exact QSim.op hs ⟨v, op_value rfl h1, h2⟩
  case buildSlice t len parts =>
    simp only [Option.bind_eq_some_iff, Option.map_eq_some_iff, Prod.mk.injEq] at h
    obtain ⟨ps, hps, r, hr, rfl, rfl⟩ := h
    obtain ⟨hl, hx⟩ := evalParts_rep (df := df) hg ht _ _ hps
    obtain ⟨v, c, e, F', h1, h2, h3⟩ := buildSliceP_run hs (parts.map fun (i, x) => (i, (⟨tm, df⟩ : Act).eval x)) ps (by simpa using hl) (fun i x q hi hq => by
      simp only [Array.toList_map, List.getElem?_map, Option.map_eq_some_iff] at hi
      obtain ⟨y, hy, rfl⟩ := hi
      exact hx i y q hy hq) hr
    exact ⟨_, v, _, F', σ, op_value rfl h1, .inl rfl, h2, h3⟩
  case load t x =>
    simp only [Option.bind_eq_some_iff, Option.map_eq_some_iff, Prod.mk.injEq] at h
    obtain ⟨q, hq, r, hr, rfl, rfl⟩ := h
    obtain ⟨v, h1, h2⟩ := loadP_run hs (evalO_rep (df := df) hg ht x q hq) hr
    exact QSim.op hs ⟨v, op_value rfl h1, h2⟩
  case store t x y =>
    simp only [Option.bind_eq_some_iff, Option.map_eq_some_iff, Prod.mk.injEq] at h
    obtain ⟨q, hq, v, hv, H2, hH, rfl, rfl⟩ := h
    obtain ⟨w', h1, h2⟩ := storeP_run hs (evalO_rep (df := df) hg ht x q hq) (evalO_rep (df := df) hg ht y v hv) hH
    refine ⟨.skip, undef, w', F, σ, ?_, .inr ⟨rfl, rfl⟩, .tuple [] [] rfl fun i v p hv => by simp at hv, h2⟩
    show (do Instr.storeAt t _ _; pure Next.skip).run C.P w = _
    simp only [Sem.run_bind, h1, Result.andThen, Sem.run_pure]
  case nilCheck x =>
    simp only [Option.bind_eq_some_iff] at h
    obtain ⟨q, hq, h⟩ := h
    have hr := evalO_rep (df := df) hg ht x q hq
    have hrun : ∀ v, (⟨tm, df⟩ : Act).eval x = v → (∀ name fs cs, v ≠ .func (.method name) fs cs) → v ≠ .pointer none → v ≠ .nilIface → v ≠ .nilFunc → (execOp (⟨tm, df⟩ : Act).eval ⟨dst, .nilCheck x, type, pos, after, guard⟩).run C.P w = .ok (.value v) w := by
      intro v hv h1 h2 h3 h4
      unfold execOp
      simp only [hv]
      first | rfl | (split <;> first | exact absurd rfl h2 | exact absurd rfl h3 | exact absurd rfl h4 | exact absurd rfl (h1 _ _ _) | rfl)
    unfold nilCheckP at h
    split at h
    · simp only [Option.some.injEq, Prod.mk.injEq] at h
      obtain ⟨rfl, rfl⟩ := h
      obtain ⟨y, hy⟩ := hr.ptr_some
      exact QSim.op hs ⟨_, hrun _ hy (by simp) (by simp) (by simp) (by simp), hy ▸ hr⟩
    · simp only [Option.some.injEq, Prod.mk.injEq] at h
      obtain ⟨rfl, rfl⟩ := h
      generalize hev : (⟨tm, df⟩ : Act).eval x = v at hr
      refine QSim.op hs ⟨v, hrun _ hev ?_ ?_ ?_ ?_, hr⟩ <;> cases hr <;> simp
    · simp only [Option.some.injEq, Prod.mk.injEq] at h
      obtain ⟨rfl, rfl⟩ := h
      generalize hev : (⟨tm, df⟩ : Act).eval x = v at hr
      refine QSim.op hs ⟨v, hrun _ hev ?_ ?_ ?_ ?_, hr⟩ <;> cases hr <;> simp
    · cases h
  case binOp op t x y u =>
    simp only [Option.bind_eq_some_iff, Option.map_eq_some_iff, Prod.mk.injEq] at h
    obtain ⟨q, hq, q2, hq2, r, hr, rfl, rfl⟩ := h
    have hx := evalO_rep (df := df) hg ht x q hq
    have hy := evalO_rep (df := df) hg ht y q2 hq2
    obtain ⟨v, h1, h2⟩ := binP_run hx hy hr
    refine QSim.op hs ⟨v, op_value (s := do eqGuard op t x y _ _; binOp op t _ _) rfl ?_, h2⟩
    simp only [Sem.run_bind, eqGuard_run hx hy hr, Result.andThen]
    exact h1
  case unOp op t x =>
    simp only [Option.bind_eq_some_iff, Option.map_eq_some_iff, Prod.mk.injEq] at h
    obtain ⟨q, hq, r, hr, rfl, rfl⟩ := h
    obtain ⟨v, h1, h2⟩ := unP_run (P := C.P) (evalO_rep (df := df) hg ht x q hq) hr
    exact QSim.op hs ⟨v, op_value rfl h1, h2⟩
  case convert s t x =>
    simp only [Option.bind_eq_some_iff, Option.map_eq_some_iff, Prod.mk.injEq] at h
    obtain ⟨q, hq, r, hr, rfl, rfl⟩ := h
    obtain ⟨v, h1, h2⟩ := convertP_run hs (evalO_rep (df := df) hg ht x q hq) hr
    exact QSim.op hs ⟨v, op_value rfl h1, h2⟩
  case makeFunc fn first captured =>
    simp only [Option.bind_eq_some_iff, Option.map_eq_some_iff, Prod.mk.injEq] at h
    obtain ⟨fs, hfs, cs, hcs, rfl, rfl⟩ := h
    have h1 := evalOs_rep (df := df) hg ht _ _ hfs
    have h2 := evalOs_rep (df := df) hg ht _ _ hcs
    refine QSim.op hs ⟨.func fn (first.map _) (captured.map _), op_value (s := Instr.makeFunc fn _ _) rfl rfl, ?_⟩
    have e1 : first.map (⟨tm, df⟩ : Act).eval = ⟨first.toList.map (⟨tm, df⟩ : Act).eval⟩ := by apply Array.ext'; simp
    have e2 : captured.map (⟨tm, df⟩ : Act).eval = ⟨captured.toList.map (⟨tm, df⟩ : Act).eval⟩ := by apply Array.ext'; simp
    rw [e1, e2]
    exact .func fn _ _ _ _ h1.1 h2.1 h1.2 h2.2
  case makeSlice t l c =>
    simp only [Option.bind_eq_some_iff] at h
    obtain ⟨q, hq, q2, hq2, n, hn, m, hm, d, hd, h⟩ := h
    obtain ⟨kl, hl⟩ := asNat_spec (evalO_rep (df := df) hg ht l q hq) hn
    obtain ⟨kc, hc⟩ := asNat_spec (evalO_rep (df := df) hg ht c q2 hq2) hm
    split at h
    · rename_i e hk
      simp only [Option.bind_eq_some_iff] at h
      obtain ⟨s, hsz, z, hz, h⟩ := h
      split at h
      · rename_i hcnd
        obtain ⟨c1, c2, c3, c4, c5, c6⟩ := hcnd
        simp only [Option.some.injEq, Prod.mk.injEq] at h
        obtain ⟨rfl, rfl⟩ := h
        obtain ⟨v, w', σ', h1, h2, h3⟩ := makeSlice_run (a := a) (d := d) (kl := kl) (kc := kc) hs hk hsz hz c1 c2 c3 c4 c5 c6
        refine ⟨_, v, w', F, σ', op_value (s := Instr.makeSlice t _ _) rfl ?_, .inl rfl, h2, h3⟩
        rw [hl, hc]; exact h1
      · cases h
    · cases h
  case slice t x lo hi mx =>
    simp only [Option.bind_eq_some_iff, Option.map_eq_some_iff, Prod.mk.injEq] at h
    obtain ⟨q, hq, l, hl, h', hh, m, hm, r, hr, rfl, rfl⟩ := h
    obtain ⟨v, h1, h2⟩ := sliceP_run (P := C.P) (evalO_rep (df := df) hg ht x q hq) (evalOpt_rep (df := df) hg ht hl) (evalOpt_rep (df := df) hg ht hh) (evalOpt_rep (df := df) hg ht hm) hr
    exact QSim.op hs ⟨v, op_value rfl h1, h2⟩
  case range t x =>
    simp only [Option.bind_eq_some_iff] at h
    obtain ⟨d, hd, q, hq, h⟩ := h
    obtain ⟨v, w', σ', h1, h2, h3⟩ := range_run hs (evalO_rep (df := df) hg ht x q hq) h
    exact ⟨_, v, w', F, σ', op_value (s := Instr.range t _) rfl h1, .inl rfl, h2, h3⟩
  case next x b =>
    simp only [Option.bind_eq_some_iff] at h
    obtain ⟨q, hq, h⟩ := h
    obtain ⟨v, w', h1, h2, h3⟩ := next_run hs (evalO_rep (df := df) hg ht x q hq) h
    exact ⟨_, v, w', F, σ, op_value (s := Instr.next _ b _) rfl h1, .inl rfl, h2, h3⟩
  case fieldAddr t x f =>
    simp only [Option.bind_eq_some_iff, Option.map_eq_some_iff, Prod.mk.injEq] at h
    obtain ⟨q, hq, r, hr, rfl, rfl⟩ := h
    obtain ⟨v, h1, h2⟩ := fieldAddrP_run (evalO_rep (df := df) hg ht x q hq) hr
    exact QSim.op hs ⟨v, op_value rfl h1, h2⟩
  case field t x f =>
    simp only [Option.bind_eq_some_iff, Option.map_eq_some_iff, Prod.mk.injEq] at h
    obtain ⟨q, hq, r, hr, rfl, rfl⟩ := h
    obtain ⟨v, h1, h2⟩ := fieldP_run (evalO_rep (df := df) hg ht x q hq) hr
    exact QSim.op hs ⟨v, op_value rfl h1, h2⟩
  case indexAddr t x y =>
    simp only [Option.bind_eq_some_iff, Option.map_eq_some_iff, Prod.mk.injEq] at h
    obtain ⟨q, hq, q2, hq2, r, hr, rfl, rfl⟩ := h
    obtain ⟨v, h1, h2⟩ := indexAddrP_run (evalO_rep (df := df) hg ht x q hq) (evalO_rep (df := df) hg ht y q2 hq2) hr
    exact QSim.op hs ⟨v, op_value rfl h1, h2⟩
  case index t x y =>
    simp only [Option.bind_eq_some_iff, Option.map_eq_some_iff, Prod.mk.injEq] at h
    obtain ⟨q, hq, q2, hq2, r, hr, rfl, rfl⟩ := h
    obtain ⟨v, h1, h2⟩ := indexP_run (evalO_rep (df := df) hg ht x q hq) (evalO_rep (df := df) hg ht y q2 hq2) hr
    exact QSim.op hs ⟨v, op_value rfl h1, h2⟩
  case extract x i =>
    simp only [Option.bind_eq_some_iff] at h
    obtain ⟨q, hq, h⟩ := h
    have hr := evalO_rep (df := df) hg ht x q hq
    split at h
    · rename_i vs
      simp only [Option.map_eq_some_iff, Prod.mk.injEq] at h
      obtain ⟨r, hri, rfl, rfl⟩ := h
      generalize hev : (⟨tm, df⟩ : Act).eval x = v at hr
      cases hr with
      | tuple us ps hl hrep =>
        have hlt : i < us.length := by rw [hl]; exact (List.getElem?_eq_some_iff.1 hri).1
        refine QSim.op hs ⟨us[i], op_value (s := Instr.extract ((⟨tm, df⟩ : Act).eval x) i) rfl ?_, hrep i _ r (List.getElem?_eq_getElem hlt) hri⟩
        rw [hev]
        simp [Instr.extract, hlt]
    · cases h
  case call c =>
    obtain ⟨callee, args, ts⟩ := c
    cases callee <;> dsimp only at h
    case builtin b =>
      simp only [Option.bind_eq_some_iff] at h
      obtain ⟨ps, hps, h⟩ := h
      have hv := evalOs_rep (df := df) hg ht _ _ hps
      obtain ⟨v, w', σ', h1, h2, h3⟩ := builtinP_run (ty := type) (consts := args.map fun | .const _ => true | _ => false) hs hv h
      refine ⟨_, v, w', F, σ', ?_, .inl rfl, h2, h3⟩
      show (do let d ← Go.resolve (⟨tm, df⟩ : Act).eval ⟨.builtin b, args, ts⟩ type; invoke d.target d.args).run C.P w = _
      have e : args.map (⟨tm, df⟩ : Act).eval = ⟨args.toList.map (⟨tm, df⟩ : Act).eval⟩ := by apply Array.ext'; simp
      simp only [Go.resolve, Sem.run_bind, Sem.run_pure, Result.andThen, invoke, e]
      exact h1
    all_goals cases h
  all_goals cases h
end
end Go.V
