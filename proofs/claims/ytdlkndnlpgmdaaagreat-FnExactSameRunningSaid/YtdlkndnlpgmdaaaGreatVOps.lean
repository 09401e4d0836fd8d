/- Arithmetic and comparison of V are carried out by the machine. No condition. -/
import Derived.Test.YtdlkndnlpgmdaaaGreatVHeap
import Derived.Laws.Strings
import Derived.Laws.StructEq
import Derived.ChangeKeysEq
/-! The simulation, operation by operation. -/
namespace Go.V
open Go Go.RowKit
set_option linter.unusedSimpArgs false
set_option linter.unusedVariables false

/-- What an operation's run gives. -/
def OpSim (P : Program) (o : Oper) (ρ : Operand → Value) (w : World) (F : Nat → Prop) (σ : SMap) (H : Heap) (p : PV) (H' : Heap) : Prop :=
  ∃ nx v w' F' σ', (execOp ρ o).run P w = .ok nx w' ∧ (nx = .value v ∨ nx = .skip ∧ v = undef) ∧ Rep w'.heap F' σ' H' v p ∧ Go_ w F σ H w' F' σ' H'
/-- An operation that leaves the world alone. -/
def QSim (P : Program) (o : Oper) (ρ : Operand → Value) (w : World) (F : Nat → Prop) (σ : SMap) (H : Heap) (p : PV) : Prop :=
  ∃ v, (execOp ρ o).run P w = .ok (.value v) w ∧ Rep w.heap F σ H v p

section
variable {P : Program} {w : World} {F : Nat → Prop} {σ : SMap} {H : Heap} {ρ : Operand → Value}
theorem QSim.op {o : Oper} {p : PV} (hs : RelS w.heap F σ H) (h : QSim P o ρ w F σ H p) : OpSim P o ρ w F σ H p H :=
  let ⟨v, h1, h2⟩ := h
  ⟨.value v, v, w, F, σ, h1, .inl rfl, h2, .refl hs⟩
/-- From the run of the value's computation. -/
theorem QSim.of {o : Oper} {p : PV} (s : Sem Value) (he : execOp ρ o = (do pure (.value (← s)))) (h : ∃ v, s.run P w = .ok v w ∧ Rep w.heap F σ H v p) : QSim P o ρ w F σ H p := by
  obtain ⟨v, h1, h2⟩ := h
  exact ⟨v, by rw [he]; simp only [Sem.run_bind, h1, Result.andThen, Sem.run_pure], h2⟩

theorem Rep.int_inv {v : Value} {k : IntKind} {n : Int} (h : Rep w.heap F σ H v (.int k n)) : v = .int k n := by cases h; rfl
theorem Rep.bool_inv {v : Value} {b : Bool} (h : Rep w.heap F σ H v (.bool b)) : v = .bool b := by cases h; rfl
theorem Rep.str_inv {v : Value} {s : List UInt8} (h : Rep w.heap F σ H v (.str s)) : v = .string ⟨⟨s⟩⟩ := by cases h; rfl

theorem asNat_spec {v : Value} {p : PV} {n : Nat} (hr : Rep w.heap F σ H v p) (h : asNat? p = some n) : ∃ k, v = .int k (n : Int) := by
  unfold asNat? at h
  split at h
  · rename_i k m
    split at h
    · simp only [Option.some.injEq] at h
      subst h
      exact ⟨k, by rw [hr.int_inv]; congr 1; omega⟩
    · cases h
  · cases h

theorem binInt_run {op : BinOp} {k : IntKind} {x y : Int} {p : PV} (h : binInt op k x y = some p) (t : TypeId) :
    ∃ v, (binOp op t (.int k x) (.int k y)).run P w = .ok v w ∧ Rep w.heap F σ H v p := by
  cases op <;> simp only [binInt] at h <;> first
    | (cases h; done)
    | (simp only [Option.some.injEq] at h; subst h; refine ⟨_, ?_, .int _ _⟩; simp [binOp, Op.intArith, Op.intBits]; done)
    | (simp only [Option.some.injEq] at h; subst h; refine ⟨_, ?_, .bool _⟩; simp [binOp, Op.intCmp, bne, BEq.beq]; done)
    | (split at h
       · cases h
       · rename_i hy
         simp only [Option.some.injEq] at h; subst h
         refine ⟨_, ?_, .int _ _⟩
         simp [binOp, Op.intDiv, hy])
theorem shiftInt_run {op : BinOp} {k k' : IntKind} {x y : Int} {p : PV} (h : shiftInt op k x y = some p) (t : TypeId) :
    ∃ v, (binOp op t (.int k x) (.int k' y)).run P w = .ok v w ∧ Rep w.heap F σ H v p := by
  unfold shiftInt at h
  split at h
  · cases h
  · rename_i hy
    split at h
    · simp only [Option.some.injEq] at h; subst h
      refine ⟨_, ?_, .int _ _⟩; simp [binOp, Op.shift, hy]
    · simp only [Option.some.injEq] at h; subst h
      refine ⟨_, ?_, .int _ _⟩; simp [binOp, Op.shift, hy]
    · cases h
theorem mk_append (x y : List UInt8) : (⟨⟨x⟩⟩ : ByteArray) ++ ⟨⟨y⟩⟩ = ⟨⟨x ++ y⟩⟩ := by
  apply ByteArray.ext
  rw [ByteArray.data_append]
  simp
theorem mk_toList (z : List UInt8) : (⟨⟨z⟩⟩ : ByteArray).toList = z := Go.ByteArray.toList_eq _
theorem mk_size (z : List UInt8) : (⟨⟨z⟩⟩ : ByteArray).size = z.length := rfl
theorem list_beq (x y : List UInt8) : (x == y) = decide (x = y) := by rw [Bool.eq_iff_iff]; simp
theorem binStr_run {op : BinOp} {x y : List UInt8} {p : PV} (h : binStr op x y = some p) (t : TypeId) :
    ∃ v, (binOp op t (.string ⟨⟨x⟩⟩) (.string ⟨⟨y⟩⟩)).run P w = .ok v w ∧ Rep w.heap F σ H v p := by
  cases op <;> simp only [binStr] at h <;> first
    | (cases h; done)
    | (simp only [Option.some.injEq] at h; subst h; refine ⟨_, ?_, .bool _⟩; simp only [binOp, Op.stringOp, mk_toList, list_beq]; rfl)
    | (split at h
       · cases h
       · rename_i hy
         simp only [Option.some.injEq] at h; subst h
         refine ⟨_, ?_, .str _⟩
         simp only [binOp, Op.stringOp, mk_size, mk_append]
         rw [if_neg hy]; rfl)
theorem kind_ptr {t e : TypeId} (h : tyKind P t = .ptr e) : P.underlying t = some (.pointer e) := by
  unfold tyKind at h; split at h <;> first | (cases h; assumption) | cases h
theorem kind_iface {t : TypeId} (h : tyKind P t = .iface) : ∃ ms, P.underlying t = some (.interface ms) := by
  unfold tyKind at h; split at h <;> first | (rename_i ms hu; exact ⟨ms, hu⟩) | cases h
theorem Rep.ptr_some {v : Value} {a d ver idx off : Nat} (h : Rep w.heap F σ H v (.ptr a d ver idx off)) : ∃ x, v = .pointer (some x) := by cases h <;> exact ⟨_, rfl⟩
theorem equal_open (t : TypeId) (x y : Value) : Op.equal t x y = Op.equalIn (9999 + 1) t x y := rfl
theorem eqP_run {t : TypeId} {x y : Value} {p q : PV} {b : Bool} (hx : Rep w.heap F σ H x p) (hy : Rep w.heap F σ H y q) (h : eqP (tyKind P t) p q = some b) :
    (Op.equal t x y).run P w = .ok b w := by
  rw [equal_open]
  generalize 9999 = dd
  unfold eqP at h
  split at h <;> (try simp only [Option.some.injEq] at h) <;> (try subst h) <;> rename_i hk
  · rw [hx.bool_inv, hy.bool_inv]
    simp only [Op.equalIn, Sem.run_bind, run_underlying (kind_bool hk), Result.andThen, Sem.run_pure]
  · cases hx; cases hy
    simp only [Op.equalIn, Sem.run_bind, run_underlying (kind_ptr hk), Result.andThen, Sem.run_pure, Option.isNone]
  · cases hx; obtain ⟨a, rfl⟩ := hy.ptr_some
    simp only [Op.equalIn, Sem.run_bind, run_underlying (kind_ptr hk), Result.andThen, Sem.run_pure, Option.isNone]
  · cases hx; cases hy
    simp only [Op.equalIn, Sem.run_bind, run_underlying (kind_ptr hk), Result.andThen, Sem.run_pure, Option.isNone]
  · cases hy; obtain ⟨a, rfl⟩ := hx.ptr_some
    simp only [Op.equalIn, Sem.run_bind, run_underlying (kind_ptr hk), Result.andThen, Sem.run_pure, Option.isNone]
  · cases hx; cases hy
    simp only [Op.equalIn, Sem.run_bind, run_underlying (kind_ptr hk), Result.andThen, Sem.run_pure, Option.isNone]
  · obtain ⟨ms, hm⟩ := kind_iface hk
    cases hx; cases hy
    simp only [Op.equalIn, Sem.run_bind, run_underlying hm, Result.andThen, Sem.run_pure]
  · obtain ⟨ms, hm⟩ := kind_iface hk
    cases hx; cases hy
    simp only [Op.equalIn, Sem.run_bind, run_underlying hm, Result.andThen, Sem.run_pure]
  · cases h
theorem Rep.agg_inv {v : Value} {ps : List PV} (h : Rep w.heap F σ H v (.agg ps)) : ∃ vs, v = .agg ⟨vs⟩ ∧ RepL w.heap F σ H vs ps := by
  cases h with | agg vs ps hl ho hr => exact ⟨vs, rfl, hl, hr⟩
theorem plain_cell {k : TyKind} {p q : PV} {b : Bool} (h : eqK k p q = some b) : p.one = true ∧ q.one = true := by
  unfold eqK at h
  split at h <;> first | exact ⟨rfl, rfl⟩ | cases h
theorem eqK_run {t : TypeId} {x y : Value} {p q : PV} {b : Bool} {d : Nat} (hx : Rep w.heap F σ H x p) (hy : Rep w.heap F σ H y q) (h : eqK (tyKind P t) p q = some b) :
    (Op.equalIn (d + 1) t x y).run P w = .ok b w := by
  unfold eqK at h
  split at h
  · rename_i k' k a k2 b' hk
    split at h
    · rename_i e; subst e
      simp only [Option.some.injEq] at h; subst h
      rw [hx.int_inv, hy.int_inv, run_equalIn_int w d t _ _ _ _ (kind_int hk)]
      congr 1
    · cases h
  · rename_i a b' hk
    simp only [Option.some.injEq] at h; subst h
    rw [hx.str_inv, hy.str_inv, run_equalIn_string w d t _ _ (kind_str hk), mk_toList, mk_toList, list_beq]
  · rename_i a b' hk
    simp only [Option.some.injEq] at h; subst h
    rw [hx.bool_inv, hy.bool_inv, run_equalIn_bool' w d t _ _ (kind_bool hk)]
  · cases h
theorem part_cell {t : TypeId} (hp : plainKind (tyKind P t) = true) {vs : List Value} {off : Nat} {v : Value} (hv : vs[off]? = some v) : (part t ⟨vs⟩ off).run P w = .ok v w := by
  have hu : ∃ d, P.underlying t = some d ∧ descAgg d = false := by
    unfold tyKind at hp
    split at hp <;> first | (rename_i h; exact ⟨_, h, rfl⟩) | (rename_i h; exact ⟨_, h, by simp [plainKind] at hp⟩) | simp [plainKind] at hp
  obtain ⟨d, hu, hd⟩ := hu
  obtain ⟨i, hi⟩ := info_of_underlying hu
  have ht : tyInfo P t = some (false, i.size) := by simp [tyInfo, hi, hu, hd]
  unfold part
  simp only [Sem.run_bind, run_isAgg' ht, Result.andThen]
  simp [hv]
theorem eqKs_run {d : Nat} : ∀ (fs : List Field) (i : Nat) (vs us : List Value) (ps qs : List PV) (b : Bool), flatFields P i fs = true → RepL w.heap F σ H vs ps → RepL w.heap F σ H us qs →
    eqKs (fs.map fun f => tyKind P f.type) (ps.drop i) (qs.drop i) = some b → (Op.eqFields (d + 1) ⟨vs⟩ ⟨us⟩ fs).run P w = .ok b w
  | [], i, vs, us, ps, qs, b, hf, hv, hu, h => by
    simp only [List.map_nil] at h
    have : b = true := by
      unfold eqKs at h
      split at h <;> simp_all
    subst this
    simp [Op.eqFields]
  | f :: fs, i, vs, us, ps, qs, b, hf, hv, hu, h => by
    simp only [flatFields, Bool.and_eq_true, bne_iff_ne, ne_eq, beq_iff_eq] at hf
    obtain ⟨⟨⟨hn, ho⟩, hk⟩, hf⟩ := hf
    rw [List.map_cons] at h
    by_cases hi : i < ps.length
    · by_cases hj : i < qs.length
      · rw [List.drop_eq_getElem_cons hi, List.drop_eq_getElem_cons hj] at h
        simp only [eqKs, Option.bind_eq_some_iff, Option.map_eq_some_iff] at h
        obtain ⟨r, h1, r2, h2, rfl⟩ := h
        have e1 : vs[i]? = some (vs[i]'(by rw [hv.1]; exact hi)) := List.getElem?_eq_getElem _
        have e2 : us[i]? = some (us[i]'(by rw [hu.1]; exact hj)) := List.getElem?_eq_getElem _
        have r1 := hv.2 i _ ps[i] e1 (List.getElem?_eq_getElem hi)
        have r3 := hu.2 i _ qs[i] e2 (List.getElem?_eq_getElem hj)
        simp only [Op.eqFields, ne_eq, hn, not_false_eq_true, if_true, Sem.run_bind, ho, part_cell hk e1, part_cell hk e2, Result.andThen, eqK_run r1 r3 h1]
        cases r
        · simp
        · simp only [Bool.not_true, Bool.false_eq_true, if_false, Bool.true_and]
          exact eqKs_run fs (i + 1) vs us ps qs r2 hf hv hu h2
      · rw [List.drop_eq_nil_of_le (by omega : qs.length ≤ i)] at h
        simp [eqKs] at h
    · rw [List.drop_eq_nil_of_le (by omega : ps.length ≤ i)] at h
      simp [eqKs] at h
theorem tyEq_spec {t : TypeId} {ks : List TyKind} (h : tyEq P t = some ks) : ∃ fs, P.underlying t = some (.struct fs) ∧ P.stoodInHeld t = false ∧ P.eqGuardType P.depth t = false ∧ flatFields P 0 fs.toList = true ∧ ks = fs.toList.map fun f => tyKind P f.type := by
  unfold tyEq at h
  split at h
  · rename_i fs hu
    split at h
    · rename_i hc
      simp only [Bool.and_eq_true, Bool.not_eq_true'] at hc
      simp only [Option.some.injEq] at h
      exact ⟨fs, hu, hc.1.1, hc.1.2, hc.2, h.symm⟩
    · cases h
  · cases h
theorem aggEq_run {t : TypeId} {vs us : List Value} {ps qs : List PV} {ks : List TyKind} {b : Bool} (ht : tyEq P t = some ks) (hv : RepL w.heap F σ H vs ps) (hu : RepL w.heap F σ H us qs) (h : eqKs ks ps qs = some b) :
    (Op.equalIn 10000 t (.agg ⟨vs⟩) (.agg ⟨us⟩)).run P w = .ok b w := by
  obtain ⟨fs, h1, h2, h3, h4, rfl⟩ := tyEq_spec ht
  have hfs : P.fieldsOf t = fs := by simp [Program.fieldsOf, h1]
  rw [show (10000 : Nat) = 9999 + 1 from rfl, run_equalIn_struct w 9999 t _ _ (by rw [hfs]; exact h1) h2, hfs]
  exact eqKs_run (d := 9998) fs.toList 0 vs us ps qs b h4 hv hu (by simpa using h)
theorem eqGuard_ok {op : BinOp} {t : TypeId} {X Y : Operand} {x y : Value} (h1 : x = .nilIface → y ≠ .nilIface) (h2 : ∀ cs ds, x = .agg cs → y ≠ .agg ds) : (eqGuard op t X Y x y).run P w = .ok () w := by
  unfold eqGuard
  cases op <;> first
    | rfl
    | (cases x <;> cases y <;> first
        | rfl
        | exact absurd rfl (h1 rfl)
        | exact absurd rfl (h2 _ _ rfl))
/-- The guard ahead of '==' lets these through. -/
theorem eqGuard_run {op : BinOp} {t : TypeId} {X Y : Operand} {x y : Value} {p q r : PV} (hx : Rep w.heap F σ H x p) (hy : Rep w.heap F σ H y q) (h : binP P op t p q = some r) :
    (eqGuard op t X Y x y).run P w = .ok () w := by
  by_cases hagg : ∃ cs ds, x = .agg cs ∧ y = .agg ds
  · obtain ⟨cs, ds, rfl, rfl⟩ := hagg
    have hm : P.eqGuardType P.depth t = false := by
      cases hx; cases hy
      cases op <;> simp only [binP] at h <;> first
        | (cases h; done)
        | (simp only [Option.bind_eq_some_iff] at h
           obtain ⟨ks, h, _⟩ := h
           obtain ⟨_, _, _, h3, _⟩ := tyEq_spec h
           exact h3)
    exact run_eqGuard_agg w op t X Y cs ds hm
  refine eqGuard_ok (fun e1 e2 => ?_) fun cs ds e1 e2 => hagg ⟨cs, ds, e1, e2⟩
  subst e1 e2; cases hx; cases hy
  cases op <;> simp [binP, eqP] at h
theorem binP_run {op : BinOp} {t : TypeId} {x y : Value} {p q r : PV} (hx : Rep w.heap F σ H x p) (hy : Rep w.heap F σ H y q) (h : binP P op t p q = some r) :
    ∃ v, (binOp op t x y).run P w = .ok v w ∧ Rep w.heap F σ H v r := by
  unfold binP at h
  split at h
  · rw [hx.int_inv, hy.int_inv]
    split at h
    · exact shiftInt_run h t
    · exact shiftInt_run h t
    · split at h
      · rename_i hk; subst hk; exact binInt_run h t
      · cases h
  · rw [hx.str_inv, hy.str_inv]
    exact binStr_run h t
  · obtain ⟨vs, rfl, hv⟩ := hx.agg_inv
    obtain ⟨us, rfl, hu⟩ := hy.agg_inv
    split at h
    · simp only [Option.bind_eq_some_iff, Option.map_eq_some_iff] at h
      obtain ⟨ks, h1, b, h2, rfl⟩ := h
      refine ⟨.bool b, ?_, .bool b⟩
      rw [run_eql_struct, aggEq_run h1 hv hu h2]; rfl
    · simp only [Option.bind_eq_some_iff, Option.map_eq_some_iff] at h
      obtain ⟨ks, h1, b, h2, rfl⟩ := h
      refine ⟨.bool !b, ?_, .bool _⟩
      rw [run_neq_struct, aggEq_run h1 hv hu h2]; rfl
    · cases h
  · split at h
    · simp only [Option.map_eq_some_iff] at h
      obtain ⟨b, hb, rfl⟩ := h
      refine ⟨.bool b, ?_, .bool b⟩
      have he := eqP_run hx hy hb
      unfold eqP at hb
      split at hb <;> (try cases hb) <;> cases hx <;> cases hy <;> simp [binOp, he]
    · simp only [Option.map_eq_some_iff] at h
      obtain ⟨b, hb, rfl⟩ := h
      refine ⟨.bool !b, ?_, .bool _⟩
      have he := eqP_run hx hy hb
      unfold eqP at hb
      split at hb <;> (try cases hb) <;> cases hx <;> cases hy <;> simp [binOp, he]
    · cases h
theorem unP_run {op : UnOp} {x : Value} {p r : PV} (hx : Rep w.heap F σ H x p) (h : unP op p = some r) : ∃ v, (Op.unary op x).run P w = .ok v w ∧ Rep w.heap F σ H v r := by
  unfold unP at h
  split at h
  · rw [hx.int_inv]; simp only [binInt, Option.some.injEq] at h; subst h
    refine ⟨_, ?_, .int _ _⟩; simp [Op.unary, Op.intArith]
  · rw [hx.int_inv]; simp only [binInt, Option.some.injEq] at h; subst h
    refine ⟨_, ?_, .int _ _⟩; simp [Op.unary, Op.intBits]
  · rw [hx.bool_inv]; simp only [Option.some.injEq] at h; subst h
    refine ⟨_, ?_, .bool _⟩; simp [Op.unary]
  · cases h
end
end Go.V
