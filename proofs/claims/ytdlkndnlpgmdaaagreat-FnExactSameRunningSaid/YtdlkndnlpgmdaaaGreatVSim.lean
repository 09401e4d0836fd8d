/- Operands, constants and reads of V are what the machine reads. No condition. -/
import Derived.Test.YtdlkndnlpgmdaaaGreatVRep
import Derived.Test.YtdlkndnlpgmdaaaGreatVLim
import Derived.Deep.AppendSrc
import Derived.Laws.IdiomCopy
/-! Each V operation is carried out by the model's. -/
namespace Go.V
open Go
set_option linter.unusedSimpArgs false
set_option linter.unusedVariables false

section
variable {P : Program} {w : World} {F : Nat → Prop} {σ : SMap} {H : Heap}

theorem tyInfo_spec {t : TypeId} {i : Bool × Nat} (h : tyInfo P t = some i) : ∃ x d, P.info? t = some x ∧ P.underlying t = some d ∧ descAgg d = i.1 ∧ x.size = i.2 := by
  unfold tyInfo at h
  simp only [Option.bind_eq_some_iff, Option.map_eq_some_iff] at h
  obtain ⟨x, hx, d, hd, rfl⟩ := h
  exact ⟨x, d, hx, hd, rfl, rfl⟩
theorem run_isAgg' {t : TypeId} {i : Bool × Nat} (h : tyInfo P t = some i) (w : World) : (isAgg t).run P w = .ok i.1 w := by
  obtain ⟨x, d, _, hd, hg, _⟩ := tyInfo_spec h
  rw [← hg]
  unfold isAgg
  cases d <;> simp [run_underlying hd, descAgg]
theorem run_sizeOf' {t : TypeId} {i : Bool × Nat} (h : tyInfo P t = some i) (w : World) : (sizeOf t).run P w = .ok i.2 w := by
  obtain ⟨x, d, hx, _, _, hs⟩ := tyInfo_spec h
  rw [← hs]
  unfold sizeOf typeInfo
  simp [hx]
theorem kind_slice {t e : TypeId} (h : tyKind P t = .slice e) : P.underlying t = some (.slice e) := by
  unfold tyKind at h; split at h <;> first | (cases h; assumption) | cases h
theorem kind_str {t : TypeId} (h : tyKind P t = .str) : P.underlying t = some .string := by
  unfold tyKind at h; split at h <;> first | (cases h; assumption) | cases h
theorem kind_int {t : TypeId} {k : IntKind} (h : tyKind P t = .int k) : P.underlying t = some (.int k) := by
  unfold tyKind at h; split at h <;> first | (cases h; assumption) | cases h
theorem kind_bool {t : TypeId} (h : tyKind P t = .bool) : P.underlying t = some .bool := by
  unfold tyKind at h; split at h <;> first | (cases h; assumption) | cases h
theorem kind_array {t e : TypeId} {n : Nat} (h : tyKind P t = .array n e) : P.underlying t = some (.array n e) := by
  unfold tyKind at h; split at h <;> first | (cases h; assumption) | cases h
theorem kind_struct {t : TypeId} (h : tyKind P t = .struct) : ∃ fs, P.underlying t = some (.struct fs) := by
  unfold tyKind at h; split at h <;> first | (rename_i fs hu; exact ⟨fs, hu⟩) | cases h
theorem tyField_spec {t : TypeId} {f : Nat} {i : Nat × Bool × Nat} (h : tyField P t f = some i) :
    ∃ fs x, P.underlying t = some (.struct fs) ∧ fs[f]? = some x ∧ x.offset = i.1 ∧ tyInfo P x.type = some i.2 := by
  unfold tyField at h
  split at h
  · rename_i fs hu
    simp only [Option.bind_eq_some_iff, Option.map_eq_some_iff] at h
    obtain ⟨x, hx, j, hj, rfl⟩ := h
    exact ⟨fs, x, hu, hx, rfl, hj⟩
  · cases h

/-! ### Constants -/
mutual
theorem ofConst_rep {hp : Array Go.Obj} : ∀ (v : Value) (p : PV), ofConst v = some p → Rep hp F σ H v p
  | .bool b, p, h => by simp [ofConst] at h; subst h; exact .bool b
  | .int k n, p, h => by simp [ofConst] at h; subst h; exact .int k n
  | .string ⟨⟨s⟩⟩, p, h => by simp [ofConst] at h; subst h; exact .str s
  | .pointer none, p, h => by simp [ofConst] at h; subst h; exact .nilptr
  | .pointer (some _), p, h => by simp [ofConst] at h
  | .slice none 0 0, p, h => by simp [ofConst] at h; subst h; exact .empty none 0 true fun _ => rfl
  | .slice none 0 (c + 1), p, h => by simp [ofConst] at h
  | .slice none (l + 1) c, p, h => by simp [ofConst] at h
  | .slice (some _) l c, p, h => by simp [ofConst] at h
  | .map none, p, h => by simp [ofConst] at h; subst h; exact .nilmap
  | .map (some _), p, h => by simp [ofConst] at h
  | .nilFunc, p, h => by simp [ofConst] at h; subst h; exact .nilfunc
  | .nilIface, p, h => by simp [ofConst] at h; subst h; exact .niliface
  | .agg ⟨cs⟩, p, h => by
    simp only [ofConst, Option.bind_eq_some_iff] at h
    obtain ⟨ps, h1, h2⟩ := h
    split at h2
    · rename_i ho
      simp only [Option.some.injEq] at h2; subst h2
      have := ofConsts_rep (hp := hp) cs ps h1
      exact .agg cs ps this.1 ho this.2
    · cases h2
  | .tuple ⟨[]⟩, p, h => by simp [ofConst] at h; subst h; exact .tuple [] [] rfl fun i v p hv => by simp at hv
  | .tuple ⟨_ :: _⟩, p, h => by simp [ofConst] at h
  | .float _ _, p, h => by simp [ofConst] at h
  | .complex _ _ _, p, h => by simp [ofConst] at h
  | .chan _, p, h => by simp [ofConst] at h
  | .func _ _ _, p, h => by simp [ofConst] at h
  | .iface _ _, p, h => by simp [ofConst] at h
theorem ofConsts_rep {hp : Array Go.Obj} : ∀ (vs : List Value) (ps : List PV), ofConsts vs = some ps → RepL hp F σ H vs ps
  | [], ps, h => by simp [ofConsts] at h; subst h; exact ⟨rfl, fun i v p hv => by simp at hv⟩
  | v :: vs, ps, h => by
    simp only [ofConsts, Option.bind_eq_some_iff, Option.map_eq_some_iff] at h
    obtain ⟨p, h1, qs, h2, rfl⟩ := h
    have hr := ofConst_rep (hp := hp) v p h1
    have hrs := ofConsts_rep (hp := hp) vs qs h2
    refine ⟨by simp [hrs.1], fun i u q hu hq => ?_⟩
    cases i with
    | zero => simp at hu hq; subst hu hq; exact hr
    | succ i => simp at hu hq; exact hrs.2 i u q hu hq
end

/-- Package-level variables that V knows. -/
def RelG (C : Cfg) (hp : Array Go.Obj) (F : Nat → Prop) : Prop := ∀ g p, C.glob g = some p → p.noRef = true ∧ Rep hp F (fun _ _ => none) Heap.empty (.pointer (some ⟨g, 0, none⟩)) p
theorem RelG.ext {C : Cfg} {hp hp' : Array Go.Obj} {F F' : Nat → Prop} (h : RelG C hp F) (hF : ∀ b, F b → F' b) (hc : ∀ b, F b → hp'[b]? = hp[b]?) : RelG C hp' F' :=
  fun g p hg => ⟨(h g p hg).1, (h g p hg).2.ext ⟨hF, hc, fun _ _ => .inr ⟨rfl, fun _ _ _ h => by cases h⟩⟩⟩

variable {C : Cfg} {tm : Array Value} {env : Env}
theorem evalO_rep {df : List Deferred} (hg : RelG C w.heap F) (ht : RelT w.heap F σ H tm env) (x : Operand) (p : PV) (h : evalO C env x = some p) : Rep w.heap F σ H ((⟨tm, df⟩ : Act).eval x) p := by
  cases x with
  | tmp t => simp [evalO] at h; subst h; exact ht t
  | const v => exact ofConst_rep v p h
  | global g => exact (hg g p h).2.free (hg g p h).1 σ H
  | func f => simp [evalO] at h; subst h; exact .func _ [] [] [] [] rfl rfl (fun i v p hv => by simp at hv) fun i v p hv => by simp at hv
theorem evalOs_rep {df : List Deferred} (hg : RelG C w.heap F) (ht : RelT w.heap F σ H tm env) : ∀ (xs : List Operand) (ps : List PV), evalOs C env xs = some ps → RepL w.heap F σ H (xs.map (⟨tm, df⟩ : Act).eval) ps
  | [], ps, h => by simp [evalOs] at h; subst h; exact ⟨rfl, fun i v p hv => by simp at hv⟩
  | x :: xs, ps, h => by
    simp only [evalOs, Option.bind_eq_some_iff, Option.map_eq_some_iff] at h
    obtain ⟨p, h1, qs, h2, rfl⟩ := h
    have hr := evalO_rep (df := df) hg ht x p h1
    have hrs := evalOs_rep (df := df) hg ht xs qs h2
    refine ⟨by simp [hrs.1], fun i u q hu hq => ?_⟩
    cases i with
    | zero => simp at hu hq; subst hu hq; exact hr
    | succ i => simp only [List.map_cons, List.getElem?_cons_succ] at hu hq; exact hrs.2 i u q hu hq
theorem evalParts_rep {df : List Deferred} (hg : RelG C w.heap F) (ht : RelT w.heap F σ H tm env) : ∀ (xs : List (Nat × Operand)) (ps : List (Nat × PV)), evalParts C env xs = some ps →
    ps.length = xs.length ∧ ∀ (i : Nat) x p, xs[i]? = some x → ps[i]? = some p → x.1 = p.1 ∧ Rep w.heap F σ H ((⟨tm, df⟩ : Act).eval x.2) p.2
  | [], ps, h => by simp [evalParts] at h; subst h; exact ⟨rfl, fun i v p hv => by simp at hv⟩
  | (k, x) :: xs, ps, h => by
    simp only [evalParts, Option.bind_eq_some_iff, Option.map_eq_some_iff] at h
    obtain ⟨p, h1, qs, h2, rfl⟩ := h
    have hr := evalO_rep (df := df) hg ht x p h1
    have hrs := evalParts_rep (df := df) hg ht xs qs h2
    refine ⟨by simp [hrs.1], fun i u q hu hq => ?_⟩
    cases i with
    | zero => simp at hu hq; subst hu hq; exact ⟨rfl, hr⟩
    | succ i => simp at hu hq; exact hrs.2 i u q hu hq

/-! ### Reading -/
/-- A row of cells. -/
def RowAt (hp : Array Go.Obj) (F : Nat → Prop) (σ : SMap) (H : Heap) (b o : Nat) (cs : List PV) : Prop := ∀ (j : Nat) c, cs[j]? = some c → ∃ u, cellOf hp b (o + j) = some u ∧ Rep hp F σ H u c
theorem RowAt.vals {hp : Array Go.Obj} {b o : Nat} {cs : List PV} (h : RowAt hp F σ H b o cs) (off n : Nat) (hn : off + n ≤ cs.length) :
    ∃ f : Nat → Value, (∀ j, j < n → cellOf hp b (o + off + j) = some (f j)) ∧ RepL hp F σ H ((List.range n).map f) ((cs.drop off).take n) := by
  refine ⟨fun j => (cellOf hp b (o + off + j)).getD undef, fun j hj => ?_, ?_⟩
  · obtain ⟨u, hu, _⟩ := h (off + j) cs[off + j] (by simp)
    simp [show o + off + j = o + (off + j) by omega, hu]
  · refine ⟨by simp; omega, fun i v p hv hp => ?_⟩
    simp only [List.getElem?_map, Option.map_eq_some_iff] at hv
    obtain ⟨j, hj, rfl⟩ := hv
    have hi : i < n := by simpa using (List.getElem?_eq_some_iff.1 hj).1
    obtain rfl : j = i := by rw [List.getElem?_range hi] at hj; simpa using hj.symm
    have hp' : cs[off + j]? = some p := by
      rw [List.getElem?_take, if_pos hi, List.getElem?_drop] at hp; exact hp
    obtain ⟨u, hu, hr⟩ := h (off + j) p hp'
    rw [show o + off + j = o + (off + j) by omega, hu]
    exact hr
theorem cellsPart_run {t : TypeId} {i : Bool × Nat} (ht : tyInfo P t = some i) {b o off : Nat} {cs : List PV} {p : PV} (h : RowAt w.heap F σ H b o cs) (ho : cs.all PV.one = true)
    (hp : cellsPart i.1 i.2 cs off = some p) : ∃ v, (loadVar t ⟨b, o + off, none⟩).run P w = .ok v w ∧ Rep w.heap F σ H v p := by
  unfold cellsPart at hp
  split at hp
  · rename_i hg
    split at hp
    · rename_i hn
      simp only [Option.some.injEq] at hp; subst hp
      obtain ⟨f, h1, h2⟩ := h.vals off i.2 hn
      refine ⟨.agg ((List.range i.2).map f).toArray, ?_, ?_⟩
      · have hl : (loadCells ⟨b, o + off, none⟩ i.2).run P w = .ok ((List.range i.2).map f).toArray w := run_loadCells w _ _ f fun j hj => by
          have : (⟨b, o + off, none⟩ : Addr).add j = ⟨b, o + off + j, none⟩ := by unfold Addr.add; split <;> simp_all
          rw [this, cell_eq]; exact h1 j hj
        unfold loadVar
        simp only [Sem.run_bind, run_isAgg' ht, Result.andThen, hg, if_true, run_sizeOf' ht, hl, Sem.run_pure]
      · exact .agg _ _ h2.1 (by
          rw [List.all_eq_true] at ho ⊢
          exact fun x hx => ho x (List.drop_subset _ _ (List.take_subset _ _ hx))) h2.2
    · cases hp
  · rename_i hg
    obtain ⟨u, hu, hr⟩ := h off p hp
    refine ⟨u, ?_, hr⟩
    have hc : w.cell? ⟨b, o + off, none⟩ = some u := by rw [cell_eq]; exact hu
    unfold loadVar
    simp only [Sem.run_bind, run_isAgg' ht, Result.andThen, hg, Bool.false_eq_true, if_false, run_load, hc]
theorem cellsPart_val {i : Bool × Nat} {cs : List PV} {p : PV} {off : Nat} (hp : cellsPart i.1 i.2 cs off = some p) (ho : cs.all PV.one = true) : p.isVal = true := by
  unfold cellsPart at hp
  split at hp
  · split at hp
    · simp at hp; subst hp; rfl
    · cases hp
  · have := List.all_eq_true.1 ho p (List.mem_of_getElem? hp)
    cases p <;> first | rfl | cases this

/-- An object that lives: its block. -/
theorem RelS.arr (hs : RelS w.heap F σ H) {a d ver : Nat} {es : List PV} (h : H.arr? a d ver = some es) :
    ver = (H.get a d).ver ∧ alive H a d ∧ (H.get a d).body = .arr es ∧ ∃ b base n c t lo hi, σ a d = some (b, base, n) ∧ w.heap[b]? = some (.cells c t (lo, hi)) ∧ ¬ F b ∧ base + es.length * n ≤ c.size ∧
      (∀ e ∈ es, e.cells.length = n ∧ e.cells.all PV.one = true) ∧
      (∀ (i : Nat) e, es[i]? = some e → RowAt w.heap F σ H b (base + i * n) e.cells) ∧
      (∀ o, base + (H.get a d).fz * n ≤ o → ¬ (lo ≤ o ∧ o < hi)) := by
  unfold Heap.arr? at h
  split at h
  · rename_i hv
    split at h
    · rename_i es' hb
      simp only [Option.some.injEq] at h; subst h
      have ho := hs.obj a d
      unfold RelObj at ho
      rw [hb] at ho
      obtain ⟨b, base, n, c, t, lo, hi, h1, h2, h3, h4, h5, h6, h7⟩ := ho
      refine ⟨hv.symm, alive_of hb, hb, b, base, n, c, t, lo, hi, h1, h2, h3, h4, h5, fun i e he j p hp => ?_, h7⟩
      obtain ⟨u, hu, hr⟩ := h6 i e he j p hp
      exact ⟨u, by unfold cellOf; rw [h2]; exact hu, hr⟩
    · cases h
  · cases h

theorem loadP_run (hs : RelS w.heap F σ H) {t : TypeId} {x : Value} {p q : PV} (hx : Rep w.heap F σ H x p) (h : loadP P t H p = some q) :
    ∃ v, (Instr.loadAt t x).run P w = .ok v w ∧ Rep w.heap F σ H v q := by
  unfold loadP at h
  split at h
  · simp only [Option.bind_eq_some_iff] at h
    obtain ⟨i, hi, hq⟩ := h
    cases hx with
    | cptr b o off cs g hF ho hc hr =>
      obtain ⟨v, h1, h2⟩ := cellsPart_run hi (b := b) (o := o) (fun j c hj => ⟨g j, hc j (List.getElem?_eq_some_iff.1 hj).1, hr j c hj⟩) ho hq
      exact ⟨v, by simp only [Instr.loadAt, Instr.sureAddr, Sem.run_bind, Sem.run_pure, Result.andThen]; exact h1, h2⟩
  · simp only [Option.bind_eq_some_iff] at h
    obtain ⟨es, hes, e, he, i, hi, hq⟩ := h
    obtain ⟨hver, hal, hb, b, base, n, c, ty, lo, hii, h1, h2, h3, h4, h5, h6, h7⟩ := hs.arr hes
    cases hx with
    | ptrOld x a d ver idx off hlt => omega
    | ptr a d idx2 off b' base' n' hs' =>
      rw [h1] at hs'
      simp only [Option.some.injEq, Prod.mk.injEq] at hs'
      obtain ⟨rfl, rfl, rfl⟩ := hs'
      obtain ⟨v, h8, h9⟩ := cellsPart_run hi (h6 _ e he) (h5 e (List.mem_of_getElem? he)).2 hq
      exact ⟨v, by simp only [Instr.loadAt, Instr.sureAddr, Sem.run_bind, Sem.run_pure, Result.andThen]; exact h8, h9⟩
  · cases h
end
end Go.V
