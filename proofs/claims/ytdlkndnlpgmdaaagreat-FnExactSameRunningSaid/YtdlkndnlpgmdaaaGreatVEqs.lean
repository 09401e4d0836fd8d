/- The equations of V, one for each kind of operation. No condition. -/
import Derived.Test.YtdlkndnlpgmdaaaGreatVLim
import Derived.Attr
/-! The equations of V, one for each kind of operation, for a walk by simp. -/
namespace Go.V
open Go
section
variable {C : Cfg} {a : Nat} {env : Env} {H : Heap} {all r : List Oper} {d : Nat} {ty : TypeId} {pos : String} {aft : Array Edge}

@[go_sem] theorem upd_apply (e : Env) (d i : Nat) (v : PV) : (e.upd d v) i = if i = d then v else e i := rfl
@[go_sem] theorem put_some (e : Env) (d : Nat) (v : PV) : e.put (some d) v = e.upd d v := rfl
@[go_sem] theorem put_none (e : Env) (v : PV) : e.put none v = e := rfl
@[go_sem] theorem ofList_apply (l : List PV) (i : Nat) : Env.ofList l i = l.getD i .void := rfl

@[go_sem] theorem evalO_tmp (t : Nat) : evalO C env (.tmp t) = some (env t) := rfl
@[go_sem] theorem evalO_const (v : Value) : evalO C env (.const v) = ofConst v := rfl
@[go_sem] theorem evalO_func (f : Nat) : evalO C env (.func f) = some (.func (.func f) [] []) := rfl
@[go_sem] theorem evalOs_nil : evalOs C env [] = some [] := rfl
@[go_sem] theorem evalOs_cons (x : Operand) (l : List Operand) : evalOs C env (x :: l) = (evalO C env x).bind fun p => (evalOs C env l).map (p :: ·) := rfl
@[go_sem] theorem evalParts_nil : evalParts C env [] = some [] := rfl
@[go_sem] theorem evalParts_cons (i : Nat) (x : Operand) (l : List (Nat × Operand)) : evalParts C env ((i, x) :: l) = (evalO C env x).bind fun p => (evalParts C env l).map ((i, p) :: ·) := rfl
@[go_sem] theorem evalOpt_none : evalOpt C env none = some none := rfl
@[go_sem] theorem evalOpt_some (x : Operand) : evalOpt C env (some x) = (evalO C env x).map some := rfl
@[go_sem] theorem ofConst_bool (b : Bool) : ofConst (.bool b) = some (.bool b) := by simp [ofConst]
@[go_sem] theorem ofConst_int (k : IntKind) (n : Int) : ofConst (.int k n) = some (.int k n) := by simp [ofConst]
@[go_sem] theorem ofConst_string (s : ByteArray) : ofConst (.string s) = some (.str s.data.toList) := by simp [ofConst]
@[go_sem] theorem ofConst_nilptr : ofConst (.pointer none) = some .nilptr := by simp [ofConst]
@[go_sem] theorem ofConst_nil : ofConst (.slice none 0 0) = some (.slice true []) := by simp [ofConst]
@[go_sem] theorem ofConst_nilmap : ofConst (.map none) = some .nilmap := by simp [ofConst]
@[go_sem] theorem ofConst_nilfunc : ofConst .nilFunc = some .nilfunc := by simp [ofConst]
@[go_sem] theorem ofConst_niliface : ofConst .nilIface = some .niliface := by simp [ofConst]
@[go_sem] theorem ofConst_agg (cs : List Value) : ofConst (.agg ⟨cs⟩) = (ofConsts cs).bind fun ps => if ps.all PV.one then some (.agg ps) else none := by simp [ofConst]
@[go_sem] theorem ofConst_void : ofConst (.tuple ⟨[]⟩) = some .void := by simp [ofConst]
@[go_sem] theorem ofConsts_nil : ofConsts [] = some [] := by simp [ofConsts]
@[go_sem] theorem ofConsts_cons (v : Value) (l : List Value) : ofConsts (v :: l) = (ofConst v).bind fun p => (ofConsts l).map (p :: ·) := by simp [ofConsts]

/-- An operation without a guard. -/
theorem dOps_one (o : Oper) (h : o.guard = none) : dOps C a all (o :: r) env H = (dOp C a env H o).bind fun x => dOps C a all r (env.put o.dst x.1) x.2 := by
  rw [dOps_cons]; simp [wantedP, h, dGo]
/-- The guard: what the operation that it looks at has yielded. -/
def guardP (want : Bool) : Option PV → Option Bool
  | some (.bool b) => some (b == want)
  | some (.tuple []) => some false
  | _ => none
@[go_sem] theorem guardP_bool (want b : Bool) : guardP want (some (.bool b)) = some (b == want) := rfl
@[go_sem] theorem guardP_void (want : Bool) : guardP want (some (.tuple [])) = some false := rfl
theorem wantedP_some (o : Oper) (j : Nat) (want : Bool) (h : o.guard = some (j, want)) : wantedP all env o = guardP want (((all[j]?).bind (·.dst)).map env) := by
  unfold wantedP guardP; rw [h]; rfl
/-- An operation under a guard. -/
theorem dOps_if (o : Oper) (j : Nat) (want : Bool) (h : o.guard = some (j, want)) :
    dOps C a all (o :: r) env H = (guardP want (((all[j]?).bind (·.dst)).map env)).bind (dGo C a all o r env H) := by
  rw [dOps_cons, wantedP_some o j want h]
@[go_sem] theorem dGo_true (o : Oper) : dGo C a all o r env H true = (dOp C a env H o).bind fun x => dOps C a all r (env.put o.dst x.1) x.2 := rfl
@[go_sem] theorem dGo_false (o : Oper) : dGo C a all o r env H false = dOps C a all r (env.put o.dst .void) H := rfl
@[go_sem] theorem dOps_plain (dst : Option Tmp) (op : Op) : dOps C a all (⟨dst, op, ty, pos, aft, none⟩ :: r) env H = (dOp C a env H ⟨dst, op, ty, pos, aft, none⟩).bind fun x => dOps C a all r (env.put dst x.1) x.2 := dOps_one _ rfl
@[go_sem] theorem dOps_guard (dst : Option Tmp) (op : Op) (j : Nat) (want : Bool) : dOps C a all (⟨dst, op, ty, pos, aft, some (j, want)⟩ :: r) env H =
    (guardP want (((all[j]?).bind (·.dst)).map env)).bind (dGo C a all ⟨dst, op, ty, pos, aft, some (j, want)⟩ r env H) := dOps_if _ _ _ rfl
@[go_sem] theorem nDsts_nil : nDsts [] = [] := rfl
@[go_sem] theorem nDsts_cons (o : Oper) (l : List Oper) : nDsts (o :: l) = (nDst o).toList ++ nDsts l := by
  unfold nDsts
  rw [List.filterMap_cons]
  cases nDst o <;> rfl
attribute [go_sem] Option.toList_none Option.toList_some List.nil_append List.cons_append
attribute [go_sem] dOps_nil dCode_skip dCode_ret dCode_exit dCode_label dCode_region dCode_draw nDst killAll dCode_scope dCode_block dThen_norm dThen_ret dThen_exit dCode_seq dIf_bool dCode_cond dEnd_norm dEnd_ret dApply_func

variable {dst : Option Tmp} {g : Option (Nat × Bool)}
@[go_sem] theorem dOp_move (x : Operand) : dOp C a env H ⟨dst, .move x, ty, pos, aft, g⟩ = (evalO C env x).map (·, H) := dOp_op _ rfl
@[go_sem] theorem dOp_assign (x : Operand) : dOp C a env H ⟨dst, .assign x, ty, pos, aft, g⟩ = (evalO C env x).map (·, H) := dOp_op _ rfl
def pickP (C : Cfg) (env : Env) (H : Heap) (x y : Operand) : PV → Option (PV × Heap)
  | .bool b => (if b = true then evalO C env x else evalO C env y).map (·, H)
  | _ => none
@[go_sem] theorem pickP_bool (x y : Operand) (b : Bool) : pickP C env H x y (.bool b) = (if b = true then evalO C env x else evalO C env y).map (·, H) := rfl
@[go_sem] theorem dOp_pick (c x y : Operand) : dOp C a env H ⟨dst, .pick c x y, ty, pos, aft, g⟩ = (evalO C env c).bind (pickP C env H x y) := by
  rw [dOp_op _ rfl]; simp only [opP]; congr 1; funext p; cases p <;> first | rfl | (rename_i b; cases b <;> rfl)
@[go_sem] theorem dOp_alloc (t : TypeId) (d : Nat) : dOp C a env H ⟨some d, .alloc t, ty, pos, aft, g⟩ = (tyZero C.P t).bind fun z => if z.isVal then some (.ptr a d ((H.get a d).ver + 1) 0 0, H.newArr a d [z]) else none := dOp_op _ rfl
@[go_sem] theorem dOp_box (t : TypeId) (x : Operand) (d : Nat) : dOp C a env H ⟨some d, .box t x, ty, pos, aft, g⟩ = (evalO C env x).bind fun v => if v.isVal then some (.ptr a d ((H.get a d).ver + 1) 0 0, H.newArr a d [v]) else none := dOp_op _ rfl
@[go_sem] theorem dOp_build (t : TypeId) (l : List (Nat × Operand)) : dOp C a env H ⟨dst, .build t ⟨l⟩, ty, pos, aft, g⟩ = (evalParts C env l).bind fun ps => (buildP C.P t ps).map (·, H) := dOp_op _ rfl
@[go_sem] theorem dOp_buildSlice (t : TypeId) (n : Nat) (l : List (Nat × Operand)) : dOp C a env H ⟨dst, .buildSlice t n ⟨l⟩, ty, pos, aft, g⟩ = (evalParts C env l).bind fun ps => (buildSliceP C.P t n ps).map (·, H) := dOp_op _ rfl
@[go_sem] theorem dOp_load (t : TypeId) (x : Operand) : dOp C a env H ⟨dst, .load t x, ty, pos, aft, g⟩ = (evalO C env x).bind fun p => (loadP C.P t H p).map (·, H) := dOp_op _ rfl
@[go_sem] theorem dOp_store (t : TypeId) (x v : Operand) : dOp C a env H ⟨dst, .store t x v, ty, pos, aft, g⟩ = (evalO C env x).bind fun p => (evalO C env v).bind fun v => (storeP C.P t H p v).map (.void, ·) := dOp_op _ rfl
@[go_sem] theorem nilCheckP_ptr (a d ver idx off : Nat) : nilCheckP H (.ptr a d ver idx off) = some (.ptr a d ver idx off, H) := rfl
@[go_sem] theorem nilCheckP_cptr (cs : List PV) (off : Nat) : nilCheckP H (.cptr cs off) = some (.cptr cs off, H) := rfl
@[go_sem] theorem nilCheckP_func (f : Nat) (fs cs : List PV) : nilCheckP H (.func (.func f) fs cs) = some (.func (.func f) fs cs, H) := rfl
@[go_sem] theorem dOp_nilCheck (x : Operand) : dOp C a env H ⟨dst, .nilCheck x, ty, pos, aft, g⟩ = (evalO C env x).bind (nilCheckP H) := dOp_op _ rfl
@[go_sem] theorem dOp_binOp (op : BinOp) (t u : TypeId) (x y : Operand) : dOp C a env H ⟨dst, .binOp op t x y u, ty, pos, aft, g⟩ = (evalO C env x).bind fun p => (evalO C env y).bind fun q => (binP C.P op t p q).map (·, H) := dOp_op _ rfl
@[go_sem] theorem dOp_unOp (op : UnOp) (t : TypeId) (x : Operand) : dOp C a env H ⟨dst, .unOp op t x, ty, pos, aft, g⟩ = (evalO C env x).bind fun p => (unP op p).map (·, H) := dOp_op _ rfl
@[go_sem] theorem dOp_convert (s t : TypeId) (x : Operand) : dOp C a env H ⟨dst, .convert s t x, ty, pos, aft, g⟩ = (evalO C env x).bind fun p => (convertP C.P s t H p).map (·, H) := dOp_op _ rfl
@[go_sem] theorem dOp_makeFunc (fn : Fn) (first captured : List Operand) : dOp C a env H ⟨dst, .makeFunc fn ⟨first⟩ ⟨captured⟩, ty, pos, aft, g⟩ = (evalOs C env first).bind fun fs => (evalOs C env captured).map fun cs => (.func fn fs cs, H) := dOp_op _ rfl
def makeSliceP (P : Program) (t : TypeId) (a d : Nat) (H : Heap) (l c : Nat) : Option (PV × Heap) :=
  match tyKind P t with
       | .slice e => (tyInfo P e).bind fun s => (tyZero P e).bind fun z =>
         if l ≤ c ∧ c ≤ maxRow ∧ z.isVal ∧ z.cells.length = s.2 ∧ 0 < s.2 ∧ tyBytes P e ≤ 1024 then some (.sref a d ((H.get a d).ver + 1) s.2 0 l, H.newArr a d (List.replicate l z)) else none
       | _ => none
@[go_sem] theorem dOp_makeSlice (t : TypeId) (l c : Operand) (d : Nat) : dOp C a env H ⟨some d, .makeSlice t l c, ty, pos, aft, g⟩ =
    (evalO C env l).bind fun l => (evalO C env c).bind fun c => (asNat? l).bind fun l => (asNat? c).bind fun c => makeSliceP C.P t a d H l c := dOp_op _ rfl
@[go_sem] theorem dOp_slice (t : TypeId) (x : Operand) (lo hi mx : Option Operand) : dOp C a env H ⟨dst, .slice t x lo hi mx, ty, pos, aft, g⟩ =
    (evalO C env x).bind fun p => (evalOpt C env lo).bind fun lo => (evalOpt C env hi).bind fun hi => (evalOpt C env mx).bind fun mx => (sliceP C.P t p lo hi mx).map (·, H) := dOp_op _ rfl
@[go_sem] theorem dOp_fieldAddr (t : TypeId) (x : Operand) (f : Nat) : dOp C a env H ⟨dst, .fieldAddr t x f, ty, pos, aft, g⟩ = (evalO C env x).bind fun p => (fieldAddrP C.P t p f).map (·, H) := dOp_op _ rfl
@[go_sem] theorem dOp_field (t : TypeId) (x : Operand) (f : Nat) : dOp C a env H ⟨dst, .field t x f, ty, pos, aft, g⟩ = (evalO C env x).bind fun p => (fieldP C.P t p f).map (·, H) := dOp_op _ rfl
@[go_sem] theorem dOp_indexAddr (t : TypeId) (x i : Operand) : dOp C a env H ⟨dst, .indexAddr t x i, ty, pos, aft, g⟩ = (evalO C env x).bind fun p => (evalO C env i).bind fun i => (indexAddrP C.P t p i).map (·, H) := dOp_op _ rfl
@[go_sem] theorem dOp_index (t : TypeId) (x i : Operand) : dOp C a env H ⟨dst, .index t x i, ty, pos, aft, g⟩ = (evalO C env x).bind fun p => (evalO C env i).bind fun i => (indexP C.P t p i).map (·, H) := dOp_op _ rfl
@[go_sem] theorem dOp_range (t : TypeId) (x : Operand) (d : Nat) : dOp C a env H ⟨some d, .range t x, ty, pos, aft, g⟩ = (evalO C env x).bind (rangeP C.P t a d H) := dOp_op _ rfl
@[go_sem] theorem dOp_next (x : Operand) (b : Bool) : dOp C a env H ⟨dst, .next x b, ty, pos, aft, g⟩ = (evalO C env x).bind (nextP H b) := dOp_op _ rfl
def extractP (H : Heap) (i : Nat) : PV → Option (PV × Heap)
  | .tuple vs => (vs[i]?).map (·, H)
  | _ => none
@[go_sem] theorem extractP_tuple (i : Nat) (vs : List PV) : extractP H i (.tuple vs) = (vs[i]?).map (·, H) := rfl
@[go_sem] theorem dOp_extract (x : Operand) (i : Nat) : dOp C a env H ⟨dst, .extract x i, ty, pos, aft, g⟩ = (evalO C env x).bind (extractP H i) := by
  rw [dOp_op _ rfl]; simp only [opP]; congr 1
@[go_sem] theorem dOp_builtin (b : Builtin) (args : List Operand) (ts : List TypeId) : dOp C a env H ⟨dst, .call ⟨.builtin b, ⟨args⟩, ⟨ts⟩⟩, ty, pos, aft, g⟩ = (evalOs C env args).bind fun ps => builtinP C b ts a dst H ps := dOp_op _ rfl
@[go_sem] theorem dOp_callv (f : Operand) (args : List Operand) (ts : Array TypeId) : dOp C a env H ⟨dst, .call ⟨.value f, ⟨args⟩, ts⟩, ty, pos, aft, g⟩ = (evalO C env f).bind (dApply C env H args) := dOp_call ..

/-! ### Values -/
@[go_sem] theorem binP_int (P : Program) (op : BinOp) (t : TypeId) (k : IntKind) (x y : Int) (h1 : op ≠ .shl) (h2 : op ≠ .shr) : binP P op t (.int k x) (.int k y) = binInt op k x y := by
  cases op <;> first | contradiction | (simp [binP])
@[go_sem] theorem binP_shl (P : Program) (t : TypeId) (k k' : IntKind) (x y : Int) : binP P .shl t (.int k x) (.int k' y) = shiftInt .shl k x y := rfl
@[go_sem] theorem binP_shr (P : Program) (t : TypeId) (k k' : IntKind) (x y : Int) : binP P .shr t (.int k x) (.int k' y) = shiftInt .shr k x y := rfl
@[go_sem] theorem binP_str (P : Program) (op : BinOp) (t : TypeId) (x y : List UInt8) : binP P op t (.str x) (.str y) = binStr op x y := rfl
@[go_sem] theorem binP_bool_eql (P : Program) (t : TypeId) (x y : Bool) : binP P .eql t (.bool x) (.bool y) = (eqP (tyKind P t) (.bool x) (.bool y)).map .bool := rfl
@[go_sem] theorem binP_bool_neq (P : Program) (t : TypeId) (x y : Bool) : binP P .neq t (.bool x) (.bool y) = (eqP (tyKind P t) (.bool x) (.bool y)).map fun b => .bool (!b) := rfl
@[go_sem] theorem binP_agg_eql (P : Program) (t : TypeId) (x y : List PV) : binP P .eql t (.agg x) (.agg y) = (tyEq P t).bind fun ks => (eqKs ks x y).map .bool := rfl
@[go_sem] theorem binP_agg_neq (P : Program) (t : TypeId) (x y : List PV) : binP P .neq t (.agg x) (.agg y) = (tyEq P t).bind fun ks => (eqKs ks x y).map fun r => .bool (!r) := rfl
attribute [go_sem] eqK eqKs
attribute [go_sem] binInt shiftInt binStr unP lenP builtinP appended elems kindSrc
@[go_sem] theorem cells_agg (cs : List PV) : (PV.agg cs).cells = cs := rfl
@[go_sem] theorem cells_int (k : IntKind) (n : Int) : (PV.int k n).cells = [.int k n] := rfl
@[go_sem] theorem cells_str (s : List UInt8) : (PV.str s).cells = [.str s] := rfl
@[go_sem] theorem cells_bool (b : Bool) : (PV.bool b).cells = [.bool b] := rfl
@[go_sem] theorem cells_slice (f : Bool) (es : List PV) : (PV.slice f es).cells = [.slice f es] := rfl
@[go_sem] theorem cells_sref (a d ver n off len : Nat) : (PV.sref a d ver n off len).cells = [.sref a d ver n off len] := rfl
@[go_sem] theorem cells_ptr (a d ver off len : Nat) : (PV.ptr a d ver off len).cells = [.ptr a d ver off len] := rfl
@[go_sem] theorem cells_cptr (cs : List PV) (off : Nat) : (PV.cptr cs off).cells = [.cptr cs off] := rfl
@[go_sem] theorem asNat_nat (k : IntKind) (n : Nat) : asNat? (.int k (n : Int)) = some n := by simp [asNat?]
theorem asNat_int (k : IntKind) (n : Int) : asNat? (.int k n) = if 0 ≤ n then some n.toNat else none := rfl
attribute [go_sem 500] asNat_int
@[go_sem] theorem bound_none (d : Nat) : bound? none d = some d := rfl
@[go_sem] theorem bound_some (v : PV) (d : Nat) : bound? (some v) d = asNat? v := rfl
@[go_sem] theorem loadP_cptr (P : Program) (t : TypeId) (cs : List PV) (off : Nat) : loadP P t H (.cptr cs off) = (tyInfo P t).bind fun i => cellsPart i.1 i.2 cs off := rfl
@[go_sem] theorem loadP_ptr (P : Program) (t : TypeId) (a d ver idx off : Nat) : loadP P t H (.ptr a d ver idx off) = (H.arr? a d ver).bind fun es => (es[idx]?).bind fun e => (tyInfo P t).bind fun i => cellsPart i.1 i.2 e.cells off := rfl
@[go_sem] theorem cellsPart_one (n : Nat) (cs : List PV) (off : Nat) : cellsPart false n cs off = cs[off]? := rfl
@[go_sem] theorem cellsPart_agg (n : Nat) (cs : List PV) (off : Nat) : cellsPart true n cs off = if off + n ≤ cs.length then some (.agg ((cs.drop off).take n)) else none := rfl
end
attribute [go_sem] Option.bind_some Option.map_some Option.bind_none Option.map_none List.getD_cons_zero List.getD_cons_succ List.getElem?_cons_zero List.getElem?_cons_succ if_true if_false
end Go.V
