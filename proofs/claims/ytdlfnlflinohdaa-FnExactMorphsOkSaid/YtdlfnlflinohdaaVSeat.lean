/- What the functions that the law FnExactWithin reaches compute in V, for lists no longer than a row may be. -/
import Derived.Test.YtdlfnlflinohdaaVLoop
import Derived.Test.YtdlfnlflinohdaaVTypes
import Derived.Test.YtdlfnlflinohdaaVRow
import Derived.Lib.Bytealg
import Derived.KernelRfl
/-! The seat's configuration for V. -/
namespace Go.Proofs.Ytdlfnlflinohdaa.V
set_option linter.unusedSimpArgs false
set_option linter.unusedVariables false
open Go Go.V Go.Proofs
/-- The functions whose text V reads. -/
def okFns : List Nat := [3, 4, 5, 6, 7, 8, 9, 10, 11, 12, 13, 14, 15, 16, 17, 18, 19, 20, 21, 22, 23, 24, 25, 26, 27, 28, 29, 30, 31, 32, 33, 34, 35, 36, 37, 38, 39, 40, 41, 42, 43, 44, 45, 46, 47, 48, 49, 50, 51, 53]
/-- What the library's door internal/bytealg.IndexByteString hands back. -/
def extIndexByte : List PV → Option PV
  | [.str s, .int .u8 c] => some (.int .i64 (Lib.indexByte s c.toNat.toUInt8))
  | _ => none
noncomputable def CC : Cfg := ⟨Try.prog, fun _ => false, fun f => !okFns.contains f, fun f => if f = 52 then some extIndexByte else none, fun _ => none⟩
@[go_sem] theorem CC_P : CC.P = Try.prog := rfl
theorem fns_ok : okFns.all (fun f => match Try.prog.funcs[f]? with | some fn => fnOk CC fn | none => false) = true := by kernel_rfl
theorem prog_ok : ProgOk CC where
  mixed := by kernel_rfl
  fns := fun f fn hb hf => by
    have hm : f ∈ okFns := by
      have : (!okFns.contains f) = false := hb
      simpa using this
    have := List.all_eq_true.1 fns_ok f hm
    rw [show Try.prog.funcs[f]? = some fn from hf] at this
    exact this
  ext := fun f g args r hx hg w F vs hlt hr => by
    have hx' : (if f = 52 then some extIndexByte else none) = some g := hx
    by_cases hf : f = 52
    · subst hf
      rw [if_pos rfl] at hx'
      simp only [Option.some.injEq] at hx'
      subst hx'
      unfold extIndexByte at hg
      split at hg
      · rename_i s c
        simp only [Option.some.injEq] at hg
        subst hg
        obtain ⟨hl, hv⟩ := hr
        obtain ⟨v1, v2, rfl⟩ : ∃ v1 v2, vs = [v1, v2] := by rcases vs with _ | ⟨v, _ | ⟨u, _ | ⟨x, vs⟩⟩⟩ <;> simp at hl; exact ⟨v, u, rfl⟩
        have e1 := (hv 0 v1 _ rfl rfl).str_inv
        have e2 := (hv 1 v2 _ rfl rfl).int_inv
        subst e1 e2
        refine CallF.of_value (w' := w) (v := .int .i64 (Lib.indexByte s c.toNat.toUInt8)) ?_ ⟨F, rfl, .int _ _, PureStep.refl hlt⟩
        rw [CC_P, run_callFunc_extern Try.func52 (by kernel_rfl) (by kernel_rfl) (by kernel_rfl) (e := Extern.BytealgIndexByte.indexByte) (by kernel_rfl), Lib.run_indexByteString]
        rfl
      · cases hg
    · rw [if_neg hf] at hx'; cases hx'
theorem CC_call (f : FuncId) (args : List PV) (H : Heap) : dCall CC f args H = (resL 8 H args).bind fun args' => (dPure CC f args').bind fun r => if (noRefs args || r.scalar) = true then some (r, H) else none := by
  rw [dCall_pure f args rfl]
  simp [go_sem]
@[go_sem] theorem CC_live (f : Nat) : CC.live f = false := rfl

def szList : List (List UInt8) → Int → Int
  | [], left => left
  | x :: xs, left => if left - x.length < 0 then -1 else szList xs (left - x.length)
def szStringS (xs : List (List UInt8)) (left : Int) : Int := if left - xs.length < 0 then -1 else szList xs (left - xs.length)

theorem wrap64 {n : Int} (h1 : -9223372036854775808 ≤ n) (h2 : n ≤ 9223372036854775807) : IntKind.i64.wrap n = n := by
  unfold IntKind.wrap
  simp [IntKind.signed, IntKind.bits]
  omega

theorem szList_drop (xs : List (List UInt8)) (i : Nat) (h : i < xs.length) (l : Int) : szList (xs.drop i) l = if l - xs[i].length < 0 then -1 else szList (xs.drop (i + 1)) (l - xs[i].length) := by
  rw [List.drop_eq_getElem_cons h]; rfl

theorem f7_eq (xs : List (List UInt8)) (left : Int) (h0 : 0 ≤ left) (h1 : left ≤ 1048576) (hx : xs.length ≤ 9223372036854775807) (hs : ∀ x ∈ xs, x.length ≤ 9223372036854775807) :
    dPure CC 7 [PV.slice false (xs.map .str), .int .i64 left] = some (.int .i64 (szStringS xs left)) := by
  have hw : IntKind.i64.wrap (left - (xs.length : Int)) = left - xs.length := wrap64 (by omega) (by omega)
  rw [dPure_eq (C := CC) _ rfl rfl Try.func7 rfl]
  unfold szStringS
  by_cases hlt : left - (xs.length : Int) < 0
  · simp [Try.f7, go_sem, hw, hlt]
  simp [Try.f7, go_sem, hw, hlt]
  generalize hc : dCode CC 0 (Code.loop _) _ _ = r
  have hL : Runs r fun o env' H' => H' = Heap.empty ∧ ((o = .exit 0 ∧ env' 1 = .int .i64 (szList xs (left - xs.length))) ∨ (o = .ret ∧ env' 4 = .int .i64 (-1) ∧ szList xs (left - xs.length) = -1)) := by
    rw [← hc]
    refine loop_rule (fun k env H => H = Heap.empty ∧ ∃ (i : Nat) (l : Int), k + i = xs.length ∧ env 0 = .slice false (xs.map .str) ∧ env 5 = .int .i64 i ∧ env 1 = .int .i64 l ∧ 0 ≤ l ∧ l ≤ 1048576 ∧ szList xs (left - xs.length) = szList (xs.drop i) l) _ ?_ xs.length _ _
      ⟨rfl, 0, left - xs.length, by simp, by simp [go_sem], by simp [go_sem], by simp [go_sem], by omega, by omega, rfl⟩
    clear hc
    rintro k env H ⟨rfl, i, l, hk, e0, e5, e1, hl0, hl1, hsz⟩
    by_cases hi : i < xs.length
    · have hxi : xs[i].length ≤ 9223372036854775807 := hs _ (by simp)
      have hw1 : IntKind.i64.wrap (l - (xs[i].length : Int)) = l - xs[i].length := wrap64 (by omega) (by omega)
      have hw2 : IntKind.i64.wrap ((i : Int) + 1) = ((i + 1 : Nat) : Int) := by rw [wrap64 (by omega) (by omega)]; simp
      have hd := szList_drop xs i hi l
      by_cases hneg : l - (xs[i].length : Int) < 0
      · rw [if_pos hneg] at hd
        simp [go_sem, e0, e5, e1, hi, hw1, hw2, hneg]
        rw [hsz, hd]
      · rw [if_neg hneg] at hd
        simp [go_sem, e0, e5, e1, hi, hw1, hw2, hneg]
        exact ⟨k - 1, by omega, i + 1, by omega, rfl, by omega, by omega, by rw [hsz, hd]⟩
    · have hd : xs.drop i = [] := List.drop_eq_nil_of_le (by omega)
      simp [go_sem, e0, e5, e1, hi]
      rw [hsz, hd]
      rfl
  obtain ⟨o, env', H', rfl, rfl, h⟩ := hL
  rcases h with ⟨rfl, h1⟩ | ⟨rfl, h1, h2⟩
  · simp [go_sem, h1]
  · simp [go_sem, h1, h2]

theorem wrapS {i : Nat} (h : i < 9223372036854775807) : IntKind.i64.wrap ((i : Int) + 1) = ((i + 1 : Nat) : Int) := by rw [wrap64 (by omega) (by omega)]; simp

/-- A row that is being filled. -/
def filled {α : Type} (z : α) (xs : List α) (i : Nat) : List α := xs.take i ++ List.replicate (xs.length - i) z
theorem filled_zero {α : Type} (z : α) (xs : List α) : filled z xs 0 = List.replicate xs.length z := by simp [filled]
theorem filled_all {α : Type} (z : α) (xs : List α) : filled z xs xs.length = xs := by simp [filled]
theorem filled_length {α : Type} (z : α) (xs : List α) (i : Nat) (h : i ≤ xs.length) : (filled z xs i).length = xs.length := by simp [filled]; omega
theorem filled_get {α : Type} (z : α) (xs : List α) (i : Nat) (h : i < xs.length) : (filled z xs i)[i]? = some z := by
  unfold filled
  rw [List.getElem?_append_right (by rw [List.length_take]; omega), List.getElem?_replicate, if_pos (by rw [List.length_take]; omega)]
@[go_sem] theorem take_map_len {α β : Type} (f : α → β) (xs : List α) : (xs.map f).take xs.length = xs.map f := List.take_of_length_le (by simp)
theorem filled_set {α : Type} (z : α) (xs : List α) (i : Nat) (h : i < xs.length) : (filled z xs i).set i xs[i] = filled z xs (i + 1) := by
  unfold filled
  rw [List.set_append_right _ _ (by rw [List.length_take]; omega), List.take_succ_eq_append_getElem h]
  have : (xs.take i).length = i := by rw [List.length_take]; omega
  rw [this, Nat.sub_self, show xs.length - i = (xs.length - (i + 1)) + 1 by omega, List.replicate_succ]
  simp only [List.set_cons_zero, List.append_assoc, List.cons_append, List.nil_append]
theorem not_mem_take {α : Type} {xs : List α} {x : α} {i : Nat} (h : i < xs.length) (h1 : x ∉ xs.take i) (h2 : xs[i] ≠ x) : x ∉ xs.take (i + 1) := by
  rw [List.take_succ_eq_append_getElem h]
  simp only [List.mem_append, List.mem_singleton, not_or]
  exact ⟨h1, fun e => h2 e.symm⟩

theorem f9_eq (xs : List (List UInt8)) (hx : xs.length ≤ maxRow) : dPure CC 9 [PV.slice false (xs.map .str)] = some (PV.slice false (xs.map .str)) := by
  have hx' : xs.length ≤ 68719476736 := hx
  rw [dPure_eq (C := CC) _ rfl rfl Try.func9 rfl]
  simp [Try.f9, go_sem, hx]
  generalize hc : dCode CC 0 (Code.loop _) _ _ = r
  have hL : Runs r fun o env' H' => o = .exit 0 ∧ env' 3 = .sref 0 7 1 1 0 xs.length ∧ H'.get 0 7 = ⟨1, 0, .arr (xs.map .str)⟩ := by
    rw [← hc]
    refine loop_rule (fun k env H => ∃ (i : Nat), k + i = xs.length ∧ env 0 = .slice false (xs.map .str) ∧ env 4 = .int .i64 i ∧ env 3 = .sref 0 7 1 1 0 xs.length ∧ H.get 0 7 = ⟨1, 0, .arr ((filled [] xs i).map .str)⟩) _ ?_ xs.length _ _
      ⟨0, by simp, by simp [go_sem], by simp [go_sem], by simp [go_sem], by simp [go_sem, filled_zero]⟩
    clear hc
    rintro k env H ⟨i, hk, e0, e4, e3, hH⟩
    by_cases hi : i < xs.length
    · have hw2 := wrapS (i := i) (by omega)
      have hg := filled_get [] xs i hi
      have hs := filled_set [] xs i hi
      simp [go_sem, e0, e4, e3, hi, hw2, hH, hg]
      refine ⟨k - 1, by omega, i + 1, by omega, rfl, ?_⟩
      rw [← hs]
      simp
    · have hd : i = xs.length := by omega
      subst hd
      simp [go_sem, e0, e4, e3, hi, hH, filled_all]
  obtain ⟨o, env', H', rfl, rfl, h1, h2⟩ := hL
  simp [go_sem, h1, h2]

theorem f23_eq (xs : List (List UInt8)) (x : List UInt8) (hx : xs.length ≤ maxRow) : dPure CC 23 [PV.slice false (xs.map .str), .str x] = some (.bool (decide (x ∈ xs))) := by
  have hx' : xs.length ≤ 68719476736 := hx
  rw [dPure_eq (C := CC) _ rfl rfl Try.func23 rfl]
  simp [Try.f23, go_sem]
  generalize hc : dCode CC 0 (Code.loop _) _ _ = r
  have hL : Runs r fun o env' H' => (o = .exit 0 ∧ x ∉ xs) ∨ (o = .ret ∧ env' 4 = .bool true ∧ x ∈ xs) := by
    rw [← hc]
    refine loop_rule (fun k env H => ∃ (i : Nat), k + i = xs.length ∧ env 0 = .slice false (xs.map .str) ∧ env 1 = .str x ∧ env 5 = .int .i64 i ∧ (x ∉ xs.take i)) _ ?_ xs.length _ _
      ⟨0, by simp, by simp [go_sem], by simp [go_sem], by simp [go_sem], by simp⟩
    clear hc
    rintro k env H ⟨i, hk, e0, e1, e5, hn⟩
    by_cases hi : i < xs.length
    · have hw2 := wrapS (i := i) (by omega)
      by_cases he : xs[i] = x
      · simp [go_sem, e0, e1, e5, hi, hw2, he]
        rw [← he]
        simp
      · simp [go_sem, e0, e1, e5, hi, hw2, he]
        exact ⟨k - 1, by omega, i + 1, by omega, rfl, not_mem_take hi hn he⟩
    · rw [List.take_of_length_le (by omega)] at hn
      simp [go_sem, e0, e1, e5, hi, hn]
  obtain ⟨o, env', H', rfl, h⟩ := hL
  rcases h with ⟨rfl, h1⟩ | ⟨rfl, h1, h2⟩
  · simp [go_sem, h1]
  · simp [go_sem, h1, h2]

theorem f8_eq (xs ys : List (List UInt8)) (hx : xs.length ≤ maxRow) (hy : ys.length ≤ maxRow) : dPure CC 8 [.slice false (xs.map .str), .slice false (ys.map .str)] = some (.bool (decide (∀ x ∈ xs, x ∈ ys))) := by
  have hx' : xs.length ≤ 68719476736 := hx
  rw [dPure_eq (C := CC) _ rfl rfl Try.func8 rfl]
  simp [Try.f8, CC_call, go_sem]
  generalize hc : dCode CC 0 (Code.loop _) _ _ = r
  have hL : Runs r fun o env' H' => (o = .exit 0 ∧ (∀ x ∈ xs, x ∈ ys)) ∨ (o = .ret ∧ env' 4 = .bool false ∧ ¬ ∀ x ∈ xs, x ∈ ys) := by
    rw [← hc]
    refine loop_rule (fun k env H => ∃ (i : Nat), k + i = xs.length ∧ env 0 = .slice false (xs.map .str) ∧ env 1 = .slice false (ys.map .str) ∧ env 5 = .int .i64 i ∧ (∀ x ∈ xs.take i, x ∈ ys)) _ ?_ xs.length _ _
      ⟨0, by simp, by simp [CC_call, go_sem], by simp [CC_call, go_sem], by simp [CC_call, go_sem], by simp⟩
    clear hc
    rintro k env H ⟨i, hk, e0, e1, e5, hn⟩
    by_cases hi : i < xs.length
    · have hw2 := wrapS (i := i) (by omega)
      have hf := f23_eq ys xs[i] hy
      by_cases he : xs[i] ∈ ys
      · simp [CC_call, go_sem, e0, e1, e5, hi, hw2, hf, he]
        refine ⟨k - 1, by omega, i + 1, by omega, rfl, fun x hx => ?_⟩
        rw [List.take_succ_eq_append_getElem hi] at hx
        rcases List.mem_append.1 hx with h | h
        · exact hn x h
        · rw [List.mem_singleton.1 h]; exact he
      · simp [CC_call, go_sem, e0, e1, e5, hi, hw2, hf, he]
        exact ⟨xs[i], by simp, he⟩
    · rw [List.take_of_length_le (by omega)] at hn
      simp [CC_call, go_sem, e0, e1, e5, hi]
      exact hn
  obtain ⟨o, env', H', rfl, h⟩ := hL
  rcases h with ⟨rfl, h1⟩ | ⟨rfl, h1, h2⟩
  · simp [CC_call, go_sem, h1]
    exact h1
  · simp [CC_call, go_sem, h1, h2]

theorem f11_eq (xs ys : List (List UInt8)) (hx : xs.length ≤ maxRow) (hy : ys.length ≤ maxRow) : dPure CC 11 [.slice false (xs.map .str), .slice false (ys.map .str)] = some (.bool (decide (xs = ys))) := by
  have hx' : xs.length ≤ 68719476736 := hx
  rw [dPure_eq (C := CC) _ rfl rfl Try.func11 rfl]
  by_cases hl : xs.length = ys.length
  · simp [Try.f11, go_sem, hl]
    generalize hc : dCode CC 0 (Code.loop _) _ _ = r
    have hL : Runs r fun o env' H' => (o = .exit 0 ∧ xs = ys) ∨ (o = .ret ∧ env' 4 = .bool false ∧ xs ≠ ys) := by
      rw [← hc]
      refine loop_rule (fun k env H => ∃ (i : Nat), k + i = xs.length ∧ env 0 = .slice false (xs.map .str) ∧ env 1 = .slice false (ys.map .str) ∧ env 5 = .int .i64 i ∧ (xs.take i = ys.take i)) _ ?_ xs.length _ _
        ⟨0, by simp, by simp [go_sem], by simp [go_sem], by simp [go_sem], by simp⟩
      clear hc
      rintro k env H ⟨i, hk, e0, e1, e5, hn⟩
      by_cases hi : i < xs.length
      · have hw2 := wrapS (i := i) (by omega)
        have hi2 : i < ys.length := by omega
        by_cases he : xs[i] = ys[i]
        · simp [go_sem, e0, e1, e5, hi, hi2, hw2, he]
          refine ⟨k - 1, by omega, i + 1, by omega, rfl, ?_⟩
          rw [List.take_succ_eq_append_getElem hi, List.take_succ_eq_append_getElem hi2, hn, he]
        · simp [go_sem, e0, e1, e5, hi, hi2, hw2, he]
          intro h
          subst h
          exact he rfl
      · rw [List.take_of_length_le (by omega), List.take_of_length_le (by omega)] at hn
        have hi2 : ¬ i < ys.length := by omega
        simp [go_sem, e0, e1, e5, hi, hi2, hn]
    obtain ⟨o, env', H', rfl, h⟩ := hL
    rcases h with ⟨rfl, h1⟩ | ⟨rfl, h1, h2⟩
    · simp [go_sem, h1]
    · simp [go_sem, h1, h2]
  · have hne : xs ≠ ys := fun h => hl (by rw [h])
    have hl' : ¬ ((xs.length : Int) = ys.length) := by omega
    simp [Try.f11, go_sem, hl, hl', hne]

theorem f39_eq (xs : List (List UInt8)) (x : List UInt8) (hx : xs.length ≤ maxRow) : ∃ n : Int, dPure CC 39 [.slice false (xs.map .str), .str x] = some (.int .i64 n) ∧ (0 ≤ n ↔ x ∈ xs) := by
  have hx' : xs.length ≤ 68719476736 := hx
  rw [dPure_eq (C := CC) _ rfl rfl Try.func39 rfl]
  simp [Try.f39, go_sem]
  generalize hc : dCode CC 0 (Code.loop _) _ _ = r
  have hL : Runs r fun o env' H' => (o = .exit 0 ∧ x ∉ xs) ∨ (o = .ret ∧ x ∈ xs ∧ ∃ i : Nat, env' 4 = .int .i64 i) := by
    rw [← hc]
    refine loop_rule (fun k env H => ∃ (i : Nat), k + i = xs.length ∧ env 0 = .slice false (xs.map .str) ∧ env 1 = .str x ∧ env 7 = .int .i64 xs.length ∧ env 8 = .int .i64 i ∧ (x ∉ xs.take i)) _ ?_ xs.length _ _
      ⟨0, by simp, by simp [go_sem], by simp [go_sem], by simp [go_sem], by simp [go_sem], by simp⟩
    clear hc
    rintro k env H ⟨i, hk, e0, e1, e7, e8, hn⟩
    by_cases hi : i < xs.length
    · have hw2 := wrapS (i := i) (by omega)
      by_cases he : xs[i] = x
      · have he' : x = xs[i] := he.symm
        subst he'
        simp [go_sem, e0, e1, e7, e8, hi, hw2]
        exact ⟨i, rfl⟩
      · have he' : ¬ x = xs[i] := fun h => he h.symm
        simp [go_sem, e0, e1, e7, e8, hi, hw2, he']
        exact ⟨k - 1, by omega, i + 1, by omega, rfl, not_mem_take hi hn he⟩
    · rw [List.take_of_length_le (by omega)] at hn
      simp [go_sem, e0, e1, e7, e8, hi, hn]
  obtain ⟨o, env', H', rfl, h⟩ := hL
  rcases h with ⟨rfl, h1⟩ | ⟨rfl, h1, i, h2⟩
  · simp [go_sem, h1]
  · simp [go_sem, h1, h2]

theorem f26_eq (xs : List (List UInt8)) (x : List UInt8) (hx : xs.length ≤ maxRow) : dPure CC 26 [.slice false (xs.map .str), .str x] = some (.bool (decide (x ∈ xs))) := by
  obtain ⟨n, hn, h⟩ := f39_eq xs x hx
  rw [dPure_eq (C := CC) _ rfl rfl Try.func26 rfl]
  simp [Try.f26, CC_call, go_sem, hn]
  rw [← h]

/-- `slices.IndexFunc` over strings. -/
theorem f38_eq (xs : List (List UInt8)) (f : FuncId) (fs cs : List PV) (p : List UInt8 → Bool) (hx : xs.length ≤ maxRow) (hfs : ∀ q ∈ fs, Plain q) (hcs : ∀ q ∈ cs, Plain q) (hf : ∀ x ∈ xs, ∀ H, dCall CC f (fs ++ [.str x] ++ cs) H = some (.bool (p x), H)) :
    ∃ n : Int, dPure CC 38 [.slice false (xs.map .str), .func (.func f) fs cs] = some (.int .i64 n) ∧ (0 ≤ n ↔ ∃ x ∈ xs, p x = true) := by
  have hx' : xs.length ≤ 68719476736 := hx
  rw [dPure_eq (C := CC) _ rfl rfl Try.func38 rfl]
  simp [Try.f38, go_sem]
  generalize hc : dCode CC 0 (Code.loop _) _ _ = r
  have hL : Runs r fun o env' H' => (o = .exit 0 ∧ ¬ ∃ x ∈ xs, p x = true) ∨ (o = .ret ∧ (∃ x ∈ xs, p x = true) ∧ ∃ i : Nat, env' 4 = .int .i64 i) := by
    rw [← hc]
    refine loop_rule (fun k env H => ∃ (i : Nat), k + i = xs.length ∧ env 0 = .slice false (xs.map .str) ∧ env 1 = .func (.func f) fs cs ∧ env 7 = .int .i64 xs.length ∧ env 8 = .int .i64 i ∧ (∀ x ∈ xs.take i, p x = false)) _ ?_ xs.length _ _
      ⟨0, by simp, by simp [go_sem], by simp [go_sem], by simp [go_sem], by simp [go_sem], by simp⟩
    clear hc
    rintro k env H ⟨i, hk, e0, e1, e7, e8, hn⟩
    by_cases hi : i < xs.length
    · have hw2 := wrapS (i := i) (by omega)
      have hfi := hf xs[i] (by simp)
      simp only [List.append_assoc, List.cons_append, List.nil_append] at hfi
      cases he : p xs[i] with
      | true =>
        simp [go_sem, e0, e1, e7, e8, hi, hw2, hfi, he]
        exact ⟨⟨xs[i], by simp, he⟩, i, rfl⟩
      | false =>
        simp [go_sem, e0, e1, e7, e8, hi, hw2, hfi, he]
        refine ⟨k - 1, by omega, i + 1, by omega, rfl, fun x hx => ?_⟩
        rw [List.take_succ_eq_append_getElem hi] at hx
        rcases List.mem_append.1 hx with h | h
        · exact hn x h
        · rw [List.mem_singleton.1 h]; exact he
    · rw [List.take_of_length_le (by omega)] at hn
      simp [go_sem, e0, e1, e7, e8, hi]
      exact hn
  obtain ⟨o, env', H', rfl, h⟩ := hL
  rcases h with ⟨rfl, h1⟩ | ⟨rfl, h1, i, h2⟩
  · refine ⟨-1, by simp [go_sem], ?_⟩
    simpa using h1
  · refine ⟨i, by simp [go_sem, h2], ?_⟩
    simpa using h1

theorem f24_eq (xs : List (List UInt8)) (f : FuncId) (fs cs : List PV) (p : List UInt8 → Bool) (hx : xs.length ≤ maxRow) (hfs : ∀ q ∈ fs, Plain q) (hcs : ∀ q ∈ cs, Plain q) (hf : ∀ x ∈ xs, ∀ H, dCall CC f (fs ++ [.str x] ++ cs) H = some (.bool (p x), H)) :
    dPure CC 24 [.slice false (xs.map .str), .func (.func f) fs cs] = some (.bool (xs.any p)) := by
  obtain ⟨n, hn, h⟩ := f38_eq xs f fs cs p hx hfs hcs hf
  rw [dPure_eq (C := CC) _ rfl rfl Try.func24 rfl]
  simp [Try.f24, CC_call, go_sem, Plain.list hfs, Plain.list hcs, hn]
  rw [Bool.eq_iff_iff]
  simp [h]

theorem f25_eq (ys : List (List UInt8)) (x : List UInt8) (hy : ys.length ≤ maxRow) : dPure CC 25 [.str x, .cptr [.slice false (ys.map .str)] 0] = some (.bool (!decide (x ∈ ys))) := by
  rw [dPure_eq (C := CC) _ rfl rfl Try.func25 rfl]
  simp [Try.f25, CC_call, go_sem, f26_eq ys x hy]

theorem plain_strs (ys : List (List UInt8)) : Plain (.slice false (ys.map .str)) := Plain.slice (by simp; exact fun y _ => plain_str y)
theorem Plain.cptr {cs : List PV} {off : Nat} (h : ∀ q ∈ cs, Plain q) : Plain (.cptr cs off) := fun n H => by rw [resolve_cptr, Plain.list h]; rfl

theorem f10_eq (xs ys : List (List UInt8)) (hx : xs.length ≤ maxRow) (hy : ys.length ≤ maxRow) : dPure CC 10 [.slice false (xs.map .str), .slice false (ys.map .str)] = some (.bool (decide (∀ x ∈ xs, x ∈ ys))) := by
  have h := f24_eq xs 25 [] [.cptr [.slice false (ys.map .str)] 0] (fun x => !decide (x ∈ ys)) hx (by simp) (by
    intro q hq
    rw [List.mem_singleton.1 hq]
    exact Plain.cptr (by simpa using plain_strs ys)) fun x hx' H => by
      simp [CC_call, go_sem, f25_eq ys x hy]
  rw [dPure_eq (C := CC) _ rfl rfl Try.func10 rfl]
  simp [Try.f10, CC_call, go_sem, h]
  rw [Bool.eq_iff_iff]
  simp
end Go.Proofs.Ytdlfnlflinohdaa.V
