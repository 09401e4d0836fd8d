/- Slicing, conversions and lengths of V are carried out by the machine. No condition. -/
import Derived.Test.YtdlkndnlpgmdaaaGreatVOps5
/-! The simulation: slicing, conversions, builtins; one operation. -/
namespace Go.V
open Go Go.RowKit
set_option linter.unusedSimpArgs false
set_option linter.unusedVariables false

section
variable {P : Program} {w : World} {F : Nat → Prop} {σ : SMap} {H : Heap}

theorem sliceAt_slice {t : TypeId} {x : Value} {lo hi mx : Option Value} (h : ∀ n e, P.underlying t ≠ some (.array n e)) (d : TypeDesc) (hd : P.underlying t = some d) :
    (Instr.sliceAt t x lo hi mx).run P w = (Instr.slice t x lo hi mx).run P w := by
  unfold Instr.sliceAt
  simp only [Sem.run_bind, run_underlying hd, Result.andThen]
  cases d <;> first | rfl | exact absurd hd (h _ _)

theorem sliceP_run {t : TypeId} {x : Value} {p r : PV} {lo hi mx : Option Value} {pl ph pm : Option PV} (hx : Rep w.heap F σ H x p) (hl : RepO w.heap F σ H lo pl) (hh : RepO w.heap F σ H hi ph) (hm : RepO w.heap F σ H mx pm)
    (h : sliceP P t p pl ph pm = some r) : ∃ v, (Instr.sliceAt t x lo hi mx).run P w = .ok v w ∧ Rep w.heap F σ H v r := by
  unfold sliceP at h
  split at h
  · rename_i s hk
    have hmx : mx = none := by cases mx with | none => rfl | some _ => exact hm.elim
    subst hmx
    simp only [Option.bind_eq_some_iff] at h
    obtain ⟨hh', bh, l, bl, h⟩ := h
    split at h
    · rename_i hc
      simp only [Option.some.injEq] at h; subst h
      have hxs := hx.str_inv
      subst hxs
      refine ⟨.string ((⟨⟨s⟩⟩ : ByteArray).extract l hh'), ?_, ?_⟩
      · rw [sliceAt_slice (by rw [kind_str hk]; simp) _ (kind_str hk)]
        simp only [Instr.slice, Sem.run_bind, run_underlying (kind_str hk), Result.andThen, Option.isSome_none, Bool.false_eq_true, if_false, mk_size]
        rw [sliceBounds_run hl hh bl bh hc.1 hc.2]
        rfl
      · have e : (⟨⟨s⟩⟩ : ByteArray).extract l hh' = ⟨⟨(s.drop l).take (hh' - l)⟩⟩ := by
          apply ByteArray.ext
          apply Array.ext'
          exact Lib.extract_data ⟨⟨s⟩⟩ l hh'
        rw [e]
        exact .str _
    · cases h
  · rename_i e f es hk
    have hmx : mx = none := by cases mx with | none => rfl | some _ => exact hm.elim
    subst hmx
    simp only [Option.bind_eq_some_iff] at h
    obtain ⟨hh', bh, l, bl, s, hs, h⟩ := h
    split at h
    · rename_i hc
      simp only [Option.some.injEq] at h; subst h
      obtain ⟨a, cap, hxe, hcap⟩ : ∃ a cap, x = .slice a es.length cap ∧ es.length ≤ cap := by
        cases hx with
        | empty a cap f hf => exact ⟨a, cap, rfl, by simp⟩
        | slice b off n cap f es g hF hne hcap hf hn ho hc hr => exact ⟨_, cap, rfl, hcap⟩
      subst hxe
      refine ⟨_, ?_, slice_part hx hc.2.2 hc.1 hc.2.1 cap (by omega) (f && decide (hh' = es.length)) (fun hg => ?_) (Nat.le_refl _)⟩
      · rw [sliceAt_slice (by rw [kind_slice hk]; simp) _ (kind_slice hk)]
        simp only [Instr.slice, Sem.run_bind, run_underlying (kind_slice hk), Result.andThen]
        rw [sliceBounds_run hl hh bl bh hc.1 (by omega)]
        simp only [Result.andThen, Sem.run_bind, run_sizeOf' hs, Sem.run_pure]
      · simp only [Bool.and_eq_true, decide_eq_true_eq] at hg
        generalize hel : es.length = el at hx hg
        cases hx with
        | empty a' cap' f' hf => have := hf hg.1; omega
        | slice b off n cap' f' es' g hF hne hcap hf hn ho hc' hr => have := hf hg.1; omega
    · cases h
  · rename_i e f es m hk
    simp only [Option.bind_eq_some_iff] at h
    obtain ⟨mm, bm, hh', bh, l, bl, s, hs, h⟩ := h
    split at h
    · rename_i hc
      obtain ⟨c1, c2, c3, c4, c5⟩ := hc
      simp only [Option.some.injEq] at h; subst h
      subst c2
      obtain ⟨a, cap, hxe, hcap⟩ : ∃ a cap, x = .slice a es.length cap ∧ es.length ≤ cap := by
        cases hx with
        | empty a cap f hf => exact ⟨a, cap, rfl, by simp⟩
        | slice b off n cap f es g hF hne hcap hf hn ho hc hr => exact ⟨_, cap, rfl, hcap⟩
      subst hxe
      cases mx with
      | none => exact hm.elim
      | some um =>
        cases hi with
        | none => cases ph with | none => simp at c5 | some _ => exact hh.elim
        | some u =>
          cases ph with
          | none => exact hh.elim
          | some q =>
            refine ⟨_, ?_, slice_part hx c4 c1 c3 hh' (Nat.le_refl _) true (fun _ => rfl) (by omega)⟩
            rw [sliceAt_slice (by rw [kind_slice hk]; simp) _ (kind_slice hk)]
            simp only [Instr.slice, Sem.run_bind, run_underlying (kind_slice hk), Result.andThen]
            rw [sliceBounds_run3 hl hh hm bl bh bm c1 (Nat.le_refl _) (by omega)]
            simp only [Result.andThen, Sem.run_bind, run_sizeOf' hs, Sem.run_pure]
    · cases h
  · rename_i e a d ver n off len hk
    have hmx : mx = none := by cases mx with | none => rfl | some _ => exact hm.elim
    subst hmx
    simp only [Option.bind_eq_some_iff] at h
    obtain ⟨hh', bh, l, bl, s, hs, h⟩ := h
    split at h
    · rename_i hc
      obtain ⟨c1, c2, rfl⟩ := hc
      simp only [Option.some.injEq] at h; subst h
      cases hx with
      | srefOld x cap _ _ _ _ _ _ hcap hlt =>
        refine ⟨.slice (some (if cap = l then x else x.add (l * s.2))) (hh' - l) (cap - l), ?_, .srefOld _ _ a d ver _ _ _ (by omega) hlt⟩
        rw [sliceAt_slice (by rw [kind_slice hk]; simp) _ (kind_slice hk)]
        simp only [Instr.slice, Sem.run_bind, run_underlying (kind_slice hk), Result.andThen]
        rw [sliceBounds_run hl hh bl bh c1 (by omega)]
        simp only [Result.andThen, Sem.run_bind, run_sizeOf' hs, Sem.run_pure]
        congr 2
        split <;> rfl
      | sref _ _ _ _ b base n cap x hσ hcap hx hz =>
        refine ⟨.slice (some (if cap = l then x else x.add (l * s.2))) (hh' - l) (cap - l), ?_, .sref a d (off + l) (hh' - l) b base s.2 (cap - l) _ hσ (by omega) ?_ ?_⟩
        · rw [sliceAt_slice (by rw [kind_slice hk]; simp) _ (kind_slice hk)]
          simp only [Instr.slice, Sem.run_bind, run_underlying (kind_slice hk), Result.andThen]
          rw [sliceBounds_run hl hh bl bh c1 (by omega)]
          simp only [Result.andThen, Sem.run_bind, run_sizeOf' hs, Sem.run_pure]
          congr 2
          split <;> rfl
        · by_cases hcl : cap = l
          · left; omega
          · right
            rw [if_neg hcl, hx.resolve_left (by omega), addr_add]
            congr 1
            rw [Nat.add_mul]; omega
        · rw [show off + l + (cap - l) = off + cap by omega]; exact hz
    · cases h
  · cases h

/-! ### Conversions and builtins -/
theorem push_all : ∀ (ns : List Int) (s : ByteArray), ns.foldl (fun r n => r.push (UInt8.ofNat n.toNat)) s = ⟨⟨s.data.toList ++ ns.map fun n => UInt8.ofNat n.toNat⟩⟩
  | [], s => by simp
  | n :: ns, s => by
    rw [List.foldl_cons, push_all ns]
    apply ByteArray.ext
    apply Array.ext'
    simp [ByteArray.push]
theorem bytesOf_ints : ∀ {es : List PV} {s : List UInt8}, bytesOf es = some s → ∃ ns : List Int, es = ns.map (PV.int .u8) ∧ s = ns.map fun n => UInt8.ofNat n.toNat
  | [], s, h => by simp [bytesOf] at h; subst h; exact ⟨[], rfl, rfl⟩
  | p :: es, s, h => by
    unfold bytesOf at h
    split at h
    · rename_i heq; cases heq
    · rename_i n r heq
      cases heq
      simp only [Option.map_eq_some_iff] at h
      obtain ⟨s', h1, rfl⟩ := h
      obtain ⟨ns, rfl, rfl⟩ := bytesOf_ints h1
      exact ⟨n :: ns, rfl, rfl⟩
    · cases h
theorem ints_flat : ∀ ns : List Int, (ns.map (PV.int .u8)).flatMap PV.cells = ns.map (PV.int .u8)
  | [] => rfl
  | n :: ns => by
    have ih := ints_flat ns
    simp only [List.map_cons, List.flatMap_cons, PV.cells, List.singleton_append] at ih ⊢
    rw [ih]
theorem convertP_run (hs : RelS w.heap F σ H) {src dst : TypeId} {x : Value} {p r : PV} (hx : Rep w.heap F σ H x p) (h : convertP P src dst H p = some r) : ∃ v, (convert src dst x).run P w = .ok v w ∧ Rep w.heap F σ H v r := by
  unfold convertP at h
  split at h
  · rename_i k' k k2 n h1 h2
    simp only [Option.some.injEq] at h; subst h
    rw [hx.int_inv]
    refine ⟨_, ?_, .int _ _⟩
    simp [convert, run_underlying (kind_int h1), run_underlying (kind_int h2), Conv.intToInt]
  · rename_i s h1 h2
    simp only [Option.some.injEq] at h; subst h
    rw [hx.str_inv]
    refine ⟨_, ?_, .str _⟩
    simp [convert, run_underlying (kind_str h1), run_underlying (kind_str h2)]
  · rename_i y e h1 h2
    split at h
    · rename_i hu8
      simp only [Option.bind_eq_some_iff, Option.map_eq_some_iff] at h
      obtain ⟨es, hes, s, hbs, rfl⟩ := h
      obtain ⟨ns, rfl, rfl⟩ := bytesOf_ints hbs
      obtain ⟨a, cap, rfl, hle, hrow⟩ := elems_rows hs hx hes
      rw [run_convert_bytes_string w src dst e a _ cap (kind_slice h1) (kind_int hu8) (kind_str h2)]
      refine ⟨.string ⟨⟨ns.map fun n => UInt8.ofNat n.toNat⟩⟩, ?_, .str _⟩
      cases a with
      | none =>
        rcases ns with _ | ⟨n, ns⟩
        · simp [Conv.bytesToString]; rfl
        · obtain ⟨_, _, _, hcon, _⟩ := hrow (by simp); cases hcon
      | some a =>
        have hload : (loadCells a (ns.map (PV.int .u8)).length).run P w = .ok (ns.map (Value.int .u8)).toArray w := by
          rcases ns with _ | ⟨n0, ns'⟩
          · simp [loadCells, loadCellsFrom]
          · generalize hns : n0 :: ns' = ns at *
            obtain ⟨b, o, m, hab, h3, h4⟩ := hrow (by rw [← hns]; simp)
            simp only [Option.some.injEq] at hab; subst hab
            obtain ⟨vs, h5, h6, h7⟩ := rows_vals h3 h4
            rw [ints_flat] at h5
            have hvs : vs = ns.map (Value.int .u8) := by
              apply List.ext_getElem?
              intro k
              by_cases hk : k < vs.length
              · have hk2 : k < ns.length := by have := h5.1; simp at this; omega
                have hr := h5.2 k vs[k] (.int .u8 ns[k]) (List.getElem?_eq_getElem hk) (by simp [hk2])
                rw [List.getElem?_eq_getElem hk, hr.int_inv]
                simp [hk2]
              · have hk2 : ¬ k < ns.length := by have := h5.1; simp at this; omega
                rw [List.getElem?_eq_none (by omega), List.getElem?_eq_none (by simp; omega)]
            have hl := run_loadCells_list (P := P) w ⟨b, o, none⟩ vs h7
            have hlen := h5.1
            rw [hlen, hvs] at hl
            exact hl
        rw [run_bytesToString w a _ cap ns hload, push_all]
        rfl
    · cases h
  · cases h
theorem lenP_run {t ty : TypeId} {x : Value} {p r : PV} (hx : Rep w.heap F σ H x p) (h : lenP (tyKind P t) p = some r) : ∃ v, (Builtin.len_ #[t] ty #[x]).run P w = .ok v w ∧ Rep w.heap F σ H v r := by
  unfold lenP at h
  split at h <;> rename_i hk
  · simp only [Option.some.injEq] at h; subst h
    rw [hx.str_inv]
    refine ⟨_, ?_, .int _ _⟩
    simp [Builtin.len_, run_underlying (kind_str hk), goInt, mk_size]
  · simp only [Option.some.injEq] at h; subst h
    refine ⟨_, ?_, .int _ _⟩
    cases hx <;> simp [Builtin.len_, run_underlying (kind_slice hk), goInt]
  · simp only [Option.some.injEq] at h; subst h
    refine ⟨_, ?_, .int _ _⟩
    cases hx <;> simp [Builtin.len_, run_underlying (kind_slice hk), goInt]
  · simp only [Option.some.injEq] at h; subst h
    refine ⟨_, ?_, .int _ _⟩
    cases hx
    have hu : ∃ a b, P.underlying t = some (.map a b) := by
      unfold tyKind at hk; split at hk <;> first | (rename_i a b hu; exact ⟨a, b, hu⟩) | cases hk
    obtain ⟨a, b, hu⟩ := hu
    simp [Builtin.len_, run_underlying hu, goInt]
  · cases h
end
end Go.V
