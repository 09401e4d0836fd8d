/- Loops, results and resolving in V: equations. No condition. -/
import Derived.Test.YtdlkndnlpgmdaaaGreatVEqs
/-! Loops in V; results; resolving. -/
namespace Go.V
open Go
/-- A run comes to an end of which `Q` holds. -/
def Runs (r : Option (Out × Env × Heap)) (Q : Out → Env → Heap → Prop) : Prop := ∃ o e h, r = some (o, e, h) ∧ Q o e h
@[go_sem] theorem runs_some (o : Out) (e : Env) (h : Heap) (Q : Out → Env → Heap → Prop) : Runs (some (o, e, h)) Q = Q o e h := by
  apply propext
  constructor
  · rintro ⟨o', e', h', h1, h2⟩
    simp only [Option.some.injEq, Prod.mk.injEq] at h1
    obtain ⟨rfl, rfl, rfl⟩ := h1
    exact h2
  · intro h1; exact ⟨o, e, h, rfl, h1⟩
theorem Runs.intro {r : Option (Out × Env × Heap)} {Q : Out → Env → Heap → Prop} (h : Runs r Q) : ∃ o e h, r = some (o, e, h) ∧ Q o e h := h
/-- What a round hands on. -/
def Round (I : Nat → Env → Heap → Prop) (Post : Out → Env → Heap → Prop) (k : Nat) (o : Out) (e : Env) (h : Heap) : Prop := match o with | .norm => ∃ k', k' < k ∧ I k' e h | o => Post o e h
@[go_sem] theorem round_norm (I : Nat → Env → Heap → Prop) (Post : Out → Env → Heap → Prop) (k : Nat) (e : Env) (h : Heap) : Round I Post k .norm e h = ∃ k', k' < k ∧ I k' e h := rfl
@[go_sem] theorem round_exit (I : Nat → Env → Heap → Prop) (Post : Out → Env → Heap → Prop) (k : Nat) (id : Nat) (e : Env) (h : Heap) : Round I Post k (.exit id) e h = Post (.exit id) e h := rfl
@[go_sem] theorem round_ret (I : Nat → Env → Heap → Prop) (Post : Out → Env → Heap → Prop) (k : Nat) (e : Env) (h : Heap) : Round I Post k .ret e h = Post .ret e h := rfl

section
variable {C : Cfg} {a : Nat}

/-- A loop: an invariant that bears a number which every round lowers. -/
theorem loop_rule {body : Code} (I : Nat → Env → Heap → Prop) (Post : Out → Env → Heap → Prop)
    (round : ∀ k env H, I k env H → Runs (dCode C a body env H) (Round I Post k)) :
    ∀ (k : Nat) (env : Env) (H : Heap), I k env H → Runs (dCode C a (.loop body) env H) Post := by
  intro k
  induction k using Nat.strongRecOn with
  | _ k ih =>
    intro env H hI
    obtain ⟨o, env', H', h1, h2⟩ := round k env H hI
    rw [dCode_loop, h1]
    simp only [Option.bind_some]
    cases o with
    | norm =>
      obtain ⟨k', hk, hI'⟩ := h2
      exact ih k' hk env' H' hI'
    | exit id => exact ⟨_, _, _, rfl, h2⟩
    | ret => exact ⟨_, _, _, rfl, h2⟩

@[go_sem] theorem resultP_nil (H : Heap) (env : Env) : resultP C H env [] = some [] := rfl
@[go_sem] theorem resultP_tmp (H : Heap) (env : Env) (t : Nat) (r : List ResultVar) : resultP C H env (.tmp t :: r) = (resultP C H env r).map (env t :: ·) := rfl
@[go_sem] theorem resultP_cell (H : Heap) (env : Env) (x : Nat) (t : TypeId) (r : List ResultVar) : resultP C H env (.cell x t :: r) = (loadP C.P t H (env x)).bind fun p => (resultP C H env r).map (p :: ·) := rfl
@[go_sem] theorem packP_one (p : PV) : packP [p] = p := rfl
@[go_sem] theorem packP_nil : packP [] = .tuple [] := rfl
@[go_sem] theorem packP_two (p q : PV) (r : List PV) : packP (p :: q :: r) = .tuple (p :: q :: r) := rfl
end

/-! ### Resolving -/
theorem resolve_open (n : Nat) (H : Heap) : resolve (n + 1) H = deep (lookWith H (resolve n H)) := rfl
theorem resolve_bool (n : Nat) (H : Heap) (b : Bool) : resolve n H (.bool b) = some (.bool b) := by cases n <;> simp [resolve, deep]
theorem resolve_int (n : Nat) (H : Heap) (k : IntKind) (i : Int) : resolve n H (.int k i) = some (.int k i) := by cases n <;> simp [resolve, deep]
theorem resolve_str (n : Nat) (H : Heap) (s : List UInt8) : resolve n H (.str s) = some (.str s) := by cases n <;> simp [resolve, deep]
theorem resolve_nilptr (n : Nat) (H : Heap) : resolve n H .nilptr = some .nilptr := by cases n <;> simp [resolve, deep]
theorem resolve_nilfunc (n : Nat) (H : Heap) : resolve n H .nilfunc = some .nilfunc := by cases n <;> simp [resolve, deep]
theorem resolve_nilmap (n : Nat) (H : Heap) : resolve n H .nilmap = some .nilmap := by cases n <;> simp [resolve, deep]
theorem resolve_niliface (n : Nat) (H : Heap) : resolve n H .niliface = some .niliface := by cases n <;> simp [resolve, deep]
/-- Lists, member by member. -/
def resLn (n : Nat) (H : Heap) : List PV → Option (List PV)
  | [] => some []
  | p :: r => (resolve n H p).bind fun p => (resLn n H r).map (p :: ·)
theorem resLn_deeps (n : Nat) (H : Heap) : ∀ l, resLn n H l = deeps (match n with | 0 => fun _ => none | n + 1 => lookWith H (resolve n H)) l
  | [] => by simp [resLn, deeps]
  | p :: l => by
    simp only [resLn, deeps]
    rw [resLn_deeps n H l]
    cases n <;> rfl
theorem mResLn (H : Heap) : ∀ l, Mono fun n => resLn n H l
  | [] => .const _
  | p :: r => Mono.bind (mRes H p) fun _ => Mono.map _ (mResLn H r)
theorem resolve_agg (n : Nat) (H : Heap) (cs : List PV) : resolve n H (.agg cs) = (resLn n H cs).map .agg := by rw [resLn_deeps]; cases n <;> simp [resolve, deep]
theorem resolve_tuple (n : Nat) (H : Heap) (cs : List PV) : resolve n H (.tuple cs) = (resLn n H cs).map .tuple := by rw [resLn_deeps]; cases n <;> simp [resolve, deep]
theorem resolve_slice (n : Nat) (H : Heap) (f : Bool) (cs : List PV) : resolve n H (.slice f cs) = (resLn n H cs).map (.slice false) := by rw [resLn_deeps]; cases n <;> simp [resolve, deep]
theorem resolve_cptr (n : Nat) (H : Heap) (cs : List PV) (off : Nat) : resolve n H (.cptr cs off) = (resLn n H cs).map (.cptr · off) := by rw [resLn_deeps]; cases n <;> simp [resolve, deep]
theorem resolve_func (n : Nat) (H : Heap) (fn : Fn) (fs cs : List PV) : resolve n H (.func fn fs cs) = (resLn n H fs).bind fun fs => (resLn n H cs).map (.func fn fs ·) := by rw [resLn_deeps, resLn_deeps]; cases n <;> simp [resolve, deep]
theorem resolve_sref (n : Nat) (H : Heap) (a d ver m off len : Nat) : resolve (n + 1) H (.sref a d ver m off len) = (H.rows a d ver off len).bind fun es => resolve n H (.slice false es) := by simp [resolve, deep, lookWith]
def asCptr (off : Nat) : PV → Option PV
  | .tuple cs => some (.cptr cs off)
  | _ => none
@[go_sem] theorem asCptr_tuple (off : Nat) (cs : List PV) : asCptr off (.tuple cs) = some (.cptr cs off) := rfl
theorem resolve_ptr (n : Nat) (H : Heap) (a d ver idx off : Nat) : resolve (n + 1) H (.ptr a d ver idx off) = (H.arr? a d ver).bind fun es => (es[idx]?).bind fun e => (resLn n H e.cells).bind fun cs => some (.cptr cs off) := by
  simp only [resolve, deep, lookWith]
  congr 1; funext es; congr 1; funext e
  rw [resolve_tuple]
  cases resLn n H e.cells <;> rfl
theorem resolves_eq (n : Nat) (H : Heap) (l : List PV) : resolves n H l = resLn n H l := by
  unfold resolves
  rw [resolve_tuple]
  cases resLn n H l <;> rfl
section
variable (H : Heap)
noncomputable def resL (l : List PV) : Option (List PV) := lim fun n => resLn n H l
@[go_sem] theorem rls_eq (l : List PV) : rls H l = resL H l := by unfold rls resL; congr 1; funext n; exact resolves_eq n H l
@[go_sem] theorem res_bool (b : Bool) : res H (.bool b) = some (.bool b) := by unfold res; simp only [resolve_bool]; exact lim_const _
@[go_sem] theorem res_int (k : IntKind) (i : Int) : res H (.int k i) = some (.int k i) := by unfold res; simp only [resolve_int]; exact lim_const _
@[go_sem] theorem res_str (s : List UInt8) : res H (.str s) = some (.str s) := by unfold res; simp only [resolve_str]; exact lim_const _
@[go_sem] theorem res_nilptr : res H .nilptr = some .nilptr := by unfold res; simp only [resolve_nilptr]; exact lim_const _
@[go_sem] theorem res_nilfunc : res H .nilfunc = some .nilfunc := by unfold res; simp only [resolve_nilfunc]; exact lim_const _
@[go_sem] theorem res_nilmap : res H .nilmap = some .nilmap := by unfold res; simp only [resolve_nilmap]; exact lim_const _
@[go_sem] theorem res_niliface : res H .niliface = some .niliface := by unfold res; simp only [resolve_niliface]; exact lim_const _
@[go_sem] theorem res_agg (cs : List PV) : res H (.agg cs) = (resL H cs).map .agg := by unfold res resL; simp only [resolve_agg]; exact lim_map _ (mResLn H cs)
@[go_sem] theorem res_tuple (cs : List PV) : res H (.tuple cs) = (resL H cs).map .tuple := by unfold res resL; simp only [resolve_tuple]; exact lim_map _ (mResLn H cs)
@[go_sem] theorem res_slice (f : Bool) (cs : List PV) : res H (.slice f cs) = (resL H cs).map (.slice false) := by unfold res resL; simp only [resolve_slice]; exact lim_map _ (mResLn H cs)
@[go_sem] theorem res_cptr (cs : List PV) (off : Nat) : res H (.cptr cs off) = (resL H cs).map (.cptr · off) := by unfold res resL; simp only [resolve_cptr]; exact lim_map _ (mResLn H cs)
@[go_sem] theorem res_func (fn : Fn) (fs cs : List PV) : res H (.func fn fs cs) = (resL H fs).bind fun fs => (resL H cs).map (.func fn fs ·) := by
  unfold res resL; simp only [resolve_func]
  rw [lim_bind (mResLn H fs) fun a => Mono.map _ (mResLn H cs)]
  congr 1; funext a; exact lim_map _ (mResLn H cs)
@[go_sem] theorem res_sref (a d ver m off len : Nat) : res H (.sref a d ver m off len) = (H.rows a d ver off len).bind fun es => res H (.slice false es) := by
  unfold res; rw [lim_succ (mRes ..)]; simp only [resolve_sref]
  rw [lim_bind (.const _) fun a => mRes ..]; rw [lim_const]
@[go_sem] theorem res_ptr (a d ver idx off : Nat) : res H (.ptr a d ver idx off) = (H.arr? a d ver).bind fun es => (es[idx]?).bind fun e => (resL H e.cells).bind fun cs => some (.cptr cs off) := by
  unfold res resL; rw [lim_succ (mRes ..)]; simp only [resolve_ptr]
  cases H.arr? a d ver with
  | none => exact lim_const _
  | some es =>
    simp only [Option.bind_some]
    cases es[idx]? with
    | none => exact lim_const _
    | some e =>
      simp only [Option.bind_some]
      have k : ∀ x : Option (List PV), (x.bind fun cs => some (PV.cptr cs off)) = x.map (PV.cptr · off) := fun x => by cases x <;> rfl
      simp only [k]
      exact lim_map _ (mResLn H _)
@[go_sem] theorem resL_nil : resL H [] = some [] := lim_const _
@[go_sem] theorem resL_cons (p : PV) (r : List PV) : resL H (p :: r) = (res H p).bind fun p => (resL H r).map (p :: ·) := by
  unfold resL res; simp only [resLn]
  rw [lim_bind (mRes ..) fun a => Mono.map _ (mResLn H r)]
  congr 1; funext a; exact lim_map _ (mResLn H r)
end
/-- What stays as it is. -/
def Plain (p : PV) : Prop := ∀ H, res H p = some p
theorem Plain.list {l : List PV} (h : ∀ p ∈ l, Plain p) (H : Heap) : resL H l = some l := by
  induction l with
  | nil => exact resL_nil H
  | cons p l ih => rw [resL_cons, h p (by simp) H, ih fun q hq => h q (by simp [hq])]; rfl
theorem Plain.slice {l : List PV} (h : ∀ p ∈ l, Plain p) : Plain (.slice false l) := fun H => by rw [res_slice, Plain.list h]; rfl
theorem Plain.agg {l : List PV} (h : ∀ p ∈ l, Plain p) : Plain (.agg l) := fun H => by rw [res_agg, Plain.list h]; rfl
theorem Plain.map {α : Type} {f : α → PV} (h : ∀ x, Plain (f x)) (l : List α) (H : Heap) : resL H (l.map f) = some (l.map f) := Plain.list (by simp; exact fun x _ => h x) H
theorem plain_str (s : List UInt8) : Plain (.str s) := fun H => res_str H s
theorem plain_int (k : IntKind) (i : Int) : Plain (.int k i) := fun H => res_int H k i
theorem plain_bool (b : Bool) : Plain (.bool b) := fun H => res_bool H b
@[go_sem] theorem resL_strs (H : Heap) (xs : List (List UInt8)) : resL H (xs.map .str) = some (xs.map .str) := Plain.map plain_str xs H
@[go_sem] theorem noRefs_nil : noRefs [] = true := rfl
@[go_sem] theorem noRefs_cons (p : PV) (r : List PV) : noRefs (p :: r) = (p.noRef && noRefs r) := rfl
@[go_sem] theorem noRefs_strs (xs : List (List UInt8)) : noRefs (xs.map .str) = true := by induction xs <;> simp_all [noRefs, PV.noRef]
@[go_sem] theorem isVal_bool (b : Bool) : (PV.bool b).isVal = true := rfl
@[go_sem] theorem one_bool (b : Bool) : (PV.bool b).one = true := rfl
@[go_sem] theorem noRef_bool (b : Bool) : (PV.bool b).noRef = true := by simp [PV.noRef]
@[go_sem] theorem scalar_bool (b : Bool) : (PV.bool b).scalar = true := by simp [PV.scalar]
@[go_sem] theorem isVal_int (k : IntKind) (n : Int) : (PV.int k n).isVal = true := rfl
@[go_sem] theorem one_int (k : IntKind) (n : Int) : (PV.int k n).one = true := rfl
@[go_sem] theorem noRef_int (k : IntKind) (n : Int) : (PV.int k n).noRef = true := by simp [PV.noRef]
@[go_sem] theorem scalar_int (k : IntKind) (n : Int) : (PV.int k n).scalar = true := by simp [PV.scalar]
@[go_sem] theorem isVal_str (s : List UInt8) : (PV.str s).isVal = true := rfl
@[go_sem] theorem one_str (s : List UInt8) : (PV.str s).one = true := rfl
@[go_sem] theorem noRef_str (s : List UInt8) : (PV.str s).noRef = true := by simp [PV.noRef]
@[go_sem] theorem scalar_str (s : List UInt8) : (PV.str s).scalar = true := by simp [PV.scalar]
@[go_sem] theorem isVal_slice (f : Bool) (es : List PV) : (PV.slice f es).isVal = true := rfl
@[go_sem] theorem one_slice (f : Bool) (es : List PV) : (PV.slice f es).one = true := rfl
@[go_sem] theorem noRef_slice (f : Bool) (es : List PV) : (PV.slice f es).noRef = Go.V.noRefs es := by simp [PV.noRef]
@[go_sem] theorem scalar_slice (f : Bool) (es : List PV) : (PV.slice f es).scalar = false := by simp [PV.scalar]
@[go_sem] theorem isVal_sref (a d ver n off len : Nat) : (PV.sref a d ver n off len).isVal = true := rfl
@[go_sem] theorem one_sref (a d ver n off len : Nat) : (PV.sref a d ver n off len).one = true := rfl
@[go_sem] theorem noRef_sref (a d ver n off len : Nat) : (PV.sref a d ver n off len).noRef = false := by simp [PV.noRef]
@[go_sem] theorem scalar_sref (a d ver n off len : Nat) : (PV.sref a d ver n off len).scalar = false := by simp [PV.scalar]
@[go_sem] theorem isVal_cptr (cs : List PV) (off : Nat) : (PV.cptr cs off).isVal = true := rfl
@[go_sem] theorem one_cptr (cs : List PV) (off : Nat) : (PV.cptr cs off).one = true := rfl
@[go_sem] theorem noRef_cptr (cs : List PV) (off : Nat) : (PV.cptr cs off).noRef = Go.V.noRefs cs := by simp [PV.noRef]
@[go_sem] theorem scalar_cptr (cs : List PV) (off : Nat) : (PV.cptr cs off).scalar = false := by simp [PV.scalar]
@[go_sem] theorem isVal_ptr (a d ver idx off : Nat) : (PV.ptr a d ver idx off).isVal = true := rfl
@[go_sem] theorem one_ptr (a d ver idx off : Nat) : (PV.ptr a d ver idx off).one = true := rfl
@[go_sem] theorem noRef_ptr (a d ver idx off : Nat) : (PV.ptr a d ver idx off).noRef = false := by simp [PV.noRef]
@[go_sem] theorem scalar_ptr (a d ver idx off : Nat) : (PV.ptr a d ver idx off).scalar = false := by simp [PV.scalar]
@[go_sem] theorem isVal_nilptr  : PV.nilptr.isVal = true := rfl
@[go_sem] theorem one_nilptr  : PV.nilptr.one = true := rfl
@[go_sem] theorem noRef_nilptr  : PV.nilptr.noRef = true := by simp [PV.noRef]
@[go_sem] theorem scalar_nilptr  : PV.nilptr.scalar = true := by simp [PV.scalar]
@[go_sem] theorem isVal_func (fn : Fn) (fs cs : List PV) : (PV.func fn fs cs).isVal = true := rfl
@[go_sem] theorem one_func (fn : Fn) (fs cs : List PV) : (PV.func fn fs cs).one = true := rfl
@[go_sem] theorem noRef_func (fn : Fn) (fs cs : List PV) : (PV.func fn fs cs).noRef = (Go.V.noRefs fs && Go.V.noRefs cs) := by simp [PV.noRef]
@[go_sem] theorem scalar_func (fn : Fn) (fs cs : List PV) : (PV.func fn fs cs).scalar = false := by simp [PV.scalar]
@[go_sem] theorem isVal_nilfunc  : PV.nilfunc.isVal = true := rfl
@[go_sem] theorem one_nilfunc  : PV.nilfunc.one = true := rfl
@[go_sem] theorem noRef_nilfunc  : PV.nilfunc.noRef = true := by simp [PV.noRef]
@[go_sem] theorem scalar_nilfunc  : PV.nilfunc.scalar = true := by simp [PV.scalar]
@[go_sem] theorem isVal_mref (a d ver : Nat) : (PV.mref a d ver).isVal = true := rfl
@[go_sem] theorem one_mref (a d ver : Nat) : (PV.mref a d ver).one = true := rfl
@[go_sem] theorem noRef_mref (a d ver : Nat) : (PV.mref a d ver).noRef = false := by simp [PV.noRef]
@[go_sem] theorem scalar_mref (a d ver : Nat) : (PV.mref a d ver).scalar = false := by simp [PV.scalar]
@[go_sem] theorem isVal_nilmap  : PV.nilmap.isVal = true := rfl
@[go_sem] theorem one_nilmap  : PV.nilmap.one = true := rfl
@[go_sem] theorem noRef_nilmap  : PV.nilmap.noRef = true := by simp [PV.noRef]
@[go_sem] theorem scalar_nilmap  : PV.nilmap.scalar = true := by simp [PV.scalar]
@[go_sem] theorem isVal_iface (t : TypeId) (p : PV) : (PV.iface t p).isVal = true := rfl
@[go_sem] theorem one_iface (t : TypeId) (p : PV) : (PV.iface t p).one = true := rfl
@[go_sem] theorem noRef_iface (t : TypeId) (p : PV) : (PV.iface t p).noRef = p.noRef := by simp [PV.noRef]
@[go_sem] theorem scalar_iface (t : TypeId) (p : PV) : (PV.iface t p).scalar = false := by simp [PV.scalar]
@[go_sem] theorem isVal_niliface  : PV.niliface.isVal = true := rfl
@[go_sem] theorem one_niliface  : PV.niliface.one = true := rfl
@[go_sem] theorem noRef_niliface  : PV.niliface.noRef = true := by simp [PV.noRef]
@[go_sem] theorem scalar_niliface  : PV.niliface.scalar = true := by simp [PV.scalar]
@[go_sem] theorem isVal_agg (cs : List PV) : (PV.agg cs).isVal = true := rfl
@[go_sem] theorem one_agg (cs : List PV) : (PV.agg cs).one = false := rfl
@[go_sem] theorem noRef_agg (cs : List PV) : (PV.agg cs).noRef = Go.V.noRefs cs := by simp [PV.noRef]
@[go_sem] theorem scalar_agg (cs : List PV) : (PV.agg cs).scalar = Go.V.scalars cs := by simp [PV.scalar]
@[go_sem] theorem isVal_tuple (vs : List PV) : (PV.tuple vs).isVal = false := rfl
@[go_sem] theorem one_tuple (vs : List PV) : (PV.tuple vs).one = false := rfl
@[go_sem] theorem noRef_tuple (vs : List PV) : (PV.tuple vs).noRef = Go.V.noRefs vs := by simp [PV.noRef]
@[go_sem] theorem scalar_tuple (vs : List PV) : (PV.tuple vs).scalar = Go.V.scalars vs := by simp [PV.scalar]
attribute [go_sem] scalars Heap.rows Heap.arr?
/-! ### Addresses, fields, slices: by the type's kind -/
section
variable {P : Program}
def indexAddrK (P : Program) (k : TyKind) (x : PV) (i : Nat) : Option PV :=
  match k, x with
  | .slice e, .slice _ es => (es[i]?).bind fun x => (tyInfo P e).bind fun s => if x.cells.length = s.2 then some (.cptr x.cells 0) else none
  | .slice e, .sref a d ver n off len => if i < len then (tyInfo P e).bind fun s => if n = s.2 then some (.ptr a d ver (off + i) 0) else none else none
  | .array n e, .ptr a d ver idx off => if i < n then (tyInfo P e).map fun s => .ptr a d ver idx (off + i * s.2) else none
  | .array n e, .cptr cs off => if i < n then (tyInfo P e).map fun s => .cptr cs (off + i * s.2) else none
  | _, _ => none
@[go_sem] theorem indexAddrP_eq (t : TypeId) (x i : PV) : indexAddrP P t x i = (asNat? i).bind fun i => indexAddrK P (tyKind P t) x i := rfl
@[go_sem] theorem indexAddrK_slice (e : TypeId) (f : Bool) (es : List PV) (i : Nat) : indexAddrK P (.slice e) (.slice f es) i = (es[i]?).bind fun x => (tyInfo P e).bind fun s => if x.cells.length = s.2 then some (.cptr x.cells 0) else none := rfl
@[go_sem] theorem indexAddrK_sref (e : TypeId) (a d ver n off len i : Nat) : indexAddrK P (.slice e) (.sref a d ver n off len) i = if i < len then (tyInfo P e).bind fun s => if n = s.2 then some (.ptr a d ver (off + i) 0) else none else none := rfl
@[go_sem] theorem indexAddrK_arr (n : Nat) (e : TypeId) (a d ver idx off i : Nat) : indexAddrK P (.array n e) (.ptr a d ver idx off) i = if i < n then (tyInfo P e).map fun s => .ptr a d ver idx (off + i * s.2) else none := rfl
@[go_sem] theorem indexAddrK_arrc (n : Nat) (e : TypeId) (cs : List PV) (off i : Nat) : indexAddrK P (.array n e) (.cptr cs off) i = if i < n then (tyInfo P e).map fun s => .cptr cs (off + i * s.2) else none := rfl
def fieldAddrK (i : Nat × Bool × Nat) : PV → Option PV
  | .ptr a d ver idx off => some (.ptr a d ver idx (off + i.1))
  | .cptr cs off => some (.cptr cs (off + i.1))
  | _ => none
@[go_sem] theorem fieldAddrP_eq (t : TypeId) (x : PV) (f : Nat) : fieldAddrP P t x f = (tyField P t f).bind fun i => if i.2.2 = 0 then none else fieldAddrK i x := rfl
@[go_sem] theorem fieldAddrK_ptr (i : Nat × Bool × Nat) (a d ver idx off : Nat) : fieldAddrK i (.ptr a d ver idx off) = some (.ptr a d ver idx (off + i.1)) := rfl
@[go_sem] theorem fieldAddrK_cptr (i : Nat × Bool × Nat) (cs : List PV) (off : Nat) : fieldAddrK i (.cptr cs off) = some (.cptr cs (off + i.1)) := rfl
def fieldK (i : Nat × Bool × Nat) : PV → Option PV
  | .agg cs => cellsPart i.2.1 i.2.2 cs i.1
  | _ => none
@[go_sem] theorem fieldP_eq (t : TypeId) (x : PV) (f : Nat) : fieldP P t x f = (tyField P t f).bind fun i => fieldK i x := rfl
@[go_sem] theorem fieldK_agg (i : Nat × Bool × Nat) (cs : List PV) : fieldK i (.agg cs) = cellsPart i.2.1 i.2.2 cs i.1 := rfl
def indexK (P : Program) (k : TyKind) (x : PV) (i : Nat) : Option PV :=
  match k, x with
  | .str, .str s => (s[i]?).map fun b => .int .u8 b.toNat
  | .array n e, .agg cs => if i < n then (tyInfo P e).bind fun s => cellsPart s.1 s.2 cs (i * s.2) else none
  | _, _ => none
@[go_sem] theorem indexP_eq (t : TypeId) (x i : PV) : indexP P t x i = (asNat? i).bind fun i => indexK P (tyKind P t) x i := rfl
@[go_sem] theorem indexK_str (s : List UInt8) (i : Nat) : indexK P .str (.str s) i = (s[i]?).map fun b => .int .u8 b.toNat := rfl
@[go_sem] theorem indexK_arr (n : Nat) (e : TypeId) (cs : List PV) (i : Nat) : indexK P (.array n e) (.agg cs) i = if i < n then (tyInfo P e).bind fun s => cellsPart s.1 s.2 cs (i * s.2) else none := rfl
def sliceK (P : Program) (k : TyKind) (x : PV) (lo hi mx : Option PV) : Option PV :=
  match k, x, mx with
  | .str, .str s, none =>
    (bound? hi s.length).bind fun h => (bound? lo 0).bind fun l => if l ≤ h ∧ h ≤ s.length then some (.str ((s.drop l).take (h - l))) else none
  | .slice e, .slice f es, none =>
    (bound? hi es.length).bind fun h => (bound? lo 0).bind fun l => (tyInfo P e).bind fun s =>
      if l ≤ h ∧ h ≤ es.length ∧ allCells s.2 es = true then some (.slice (f && decide (h = es.length)) ((es.drop l).take (h - l))) else none
  | .slice e, .slice _ es, some m =>
    (asNat? m).bind fun m => (bound? hi es.length).bind fun h => (bound? lo 0).bind fun l => (tyInfo P e).bind fun s =>
      if l ≤ h ∧ h = m ∧ m ≤ es.length ∧ allCells s.2 es = true ∧ hi.isSome then some (.slice true ((es.drop l).take (h - l))) else none
  | .slice e, .sref a d ver n off len, none =>
    (bound? hi len).bind fun h => (bound? lo 0).bind fun l => (tyInfo P e).bind fun s => if l ≤ h ∧ h ≤ len ∧ n = s.2 then some (.sref a d ver n (off + l) (h - l)) else none
  | _, _, _ => none
@[go_sem] theorem sliceP_eq (t : TypeId) (x : PV) (lo hi mx : Option PV) : sliceP P t x lo hi mx = sliceK P (tyKind P t) x lo hi mx := rfl
@[go_sem] theorem sliceK_str (s : List UInt8) (lo hi : Option PV) : sliceK P .str (.str s) lo hi none = (bound? hi s.length).bind fun h => (bound? lo 0).bind fun l => if l ≤ h ∧ h ≤ s.length then some (.str ((s.drop l).take (h - l))) else none := rfl
@[go_sem] theorem sliceK_slice (e : TypeId) (f : Bool) (es : List PV) (lo hi : Option PV) : sliceK P (.slice e) (.slice f es) lo hi none = (bound? hi es.length).bind fun h => (bound? lo 0).bind fun l => (tyInfo P e).bind fun s =>
      if l ≤ h ∧ h ≤ es.length ∧ allCells s.2 es = true then some (.slice (f && decide (h = es.length)) ((es.drop l).take (h - l))) else none := rfl
@[go_sem] theorem sliceK_sref (e : TypeId) (a d ver n off len : Nat) (lo hi : Option PV) : sliceK P (.slice e) (.sref a d ver n off len) lo hi none = (bound? hi len).bind fun h => (bound? lo 0).bind fun l => (tyInfo P e).bind fun s => if l ≤ h ∧ h ≤ len ∧ n = s.2 then some (.sref a d ver n (off + l) (h - l)) else none := rfl
def convertK (P : Program) (k k' : TyKind) (H : Heap) (x : PV) : Option PV :=
  match k, k', x with
  | .int _, .int k, .int _ n => some (.int k (k.wrap n))
  | .str, .str, .str s => some (.str s)
  | .slice e, .str, x => if tyKind P e = .int .u8 then (elems H x).bind fun es => (bytesOf es).map .str else none
  | _, _, _ => none
@[go_sem] theorem convertP_eq (s t : TypeId) (H : Heap) (x : PV) : convertP P s t H x = convertK P (tyKind P s) (tyKind P t) H x := rfl
@[go_sem] theorem convertK_int (k0 k k1 : IntKind) (n : Int) (H : Heap) : convertK P (.int k0) (.int k) H (.int k1 n) = some (.int k (k.wrap n)) := rfl
@[go_sem] theorem convertK_str (s : List UInt8) (H : Heap) : convertK P .str .str H (.str s) = some (.str s) := rfl
@[go_sem] theorem convertK_bytes (e : TypeId) (x : PV) (H : Heap) : convertK P (.slice e) .str H x = if tyKind P e = .int .u8 then (elems H x).bind fun es => (bytesOf es).map .str else none := rfl
def makeSliceK (P : Program) (k : TyKind) (a d : Nat) (H : Heap) (l c : Nat) : Option (PV × Heap) :=
  match k with
  | .slice e => (tyInfo P e).bind fun s => (tyZero P e).bind fun z =>
    if l ≤ c ∧ c ≤ maxRow ∧ z.isVal ∧ z.cells.length = s.2 ∧ 0 < s.2 ∧ tyBytes P e ≤ 1024 then some (.sref a d ((H.get a d).ver + 1) s.2 0 l, H.newArr a d (List.replicate l z)) else none
  | _ => none
@[go_sem] theorem makeSliceP_eq (t : TypeId) (a d : Nat) (H : Heap) (l c : Nat) : makeSliceP P t a d H l c = makeSliceK P (tyKind P t) a d H l c := by
  unfold makeSliceP makeSliceK; rfl
@[go_sem] theorem makeSliceK_slice (e : TypeId) (a d : Nat) (H : Heap) (l c : Nat) : makeSliceK P (.slice e) a d H l c = (tyInfo P e).bind fun s => (tyZero P e).bind fun z =>
    if l ≤ c ∧ c ≤ maxRow ∧ z.isVal ∧ z.cells.length = s.2 ∧ 0 < s.2 ∧ tyBytes P e ≤ 1024 then some (.sref a d ((H.get a d).ver + 1) s.2 0 l, H.newArr a d (List.replicate l z)) else none := rfl
@[go_sem] theorem storeP_ptr (t : TypeId) (H : Heap) (a d ver idx off : Nat) (v : PV) : storeP P t H (.ptr a d ver idx off) v = (H.arr? a d ver).bind fun es => (es[idx]?).bind fun e =>
      if (H.get a d).fz ≤ idx then
        (tyInfo P t).bind fun i => (cellsPut i.2 e.cells off v).bind fun cs => (e.withCells cs).map fun e' => H.set a d ⟨ver, (H.get a d).fz, .arr (es.set idx e')⟩
      else none := rfl
@[go_sem] theorem get_set (H : Heap) (a d a' d' : Nat) (o : Obj) : (H.set a d o).get a' d' = if a' = a ∧ d' = d then o else H.get a' d' := rfl
@[go_sem] theorem get_newArr (H : Heap) (a d a' d' : Nat) (es : List PV) : (H.newArr a d es).get a' d' = if a' = a ∧ d' = d then ⟨(H.get a d).ver + 1, 0, .arr es⟩ else H.get a' d' := rfl
@[go_sem] theorem get_kill (H : Heap) (a d a' d' : Nat) : (H.kill a d).get a' d' = if a' = a ∧ d' = d then ⟨(H.get a d).ver + 1, 0, .dead⟩ else H.get a' d' := rfl
@[go_sem] theorem get_empty (a d : Nat) : Heap.empty.get a d = ⟨0, 0, .dead⟩ := rfl
@[go_sem] theorem withCells_agg (cs cs' : List PV) : (PV.agg cs).withCells cs' = some (.agg cs') := rfl
@[go_sem] theorem withCells_int (k : IntKind) (n : Int) (c : PV) : (PV.int k n).withCells [c] = some c := rfl
@[go_sem] theorem withCells_str (s : List UInt8) (c : PV) : (PV.str s).withCells [c] = some c := rfl
@[go_sem] theorem withCells_bool (b : Bool) (c : PV) : (PV.bool b).withCells [c] = some c := rfl
@[go_sem] theorem withCells_slice (f : Bool) (es : List PV) (c : PV) : (PV.slice f es).withCells [c] = some c := rfl
@[go_sem] theorem withCells_sref (a d ver n off len : Nat) (c : PV) : (PV.sref a d ver n off len).withCells [c] = some c := rfl
end
def rangeK (k : TyKind) (a d : Nat) (H : Heap) (x : PV) : Option (PV × Heap) :=
  match k, x with
  | .str, .str s => some (.mref a d ((H.get a d).ver + 1), H.new a d (.iter s 0))
  | _, _ => none
@[go_sem] theorem rangeP_eq (P : Program) (t : TypeId) (a d : Nat) (H : Heap) (x : PV) : rangeP P t a d H x = rangeK (tyKind P t) a d H x := rfl
@[go_sem] theorem rangeK_str (a d : Nat) (H : Heap) (s : List UInt8) : rangeK .str a d H (.str s) = some (.mref a d ((H.get a d).ver + 1), H.new a d (.iter s 0)) := rfl
def nextB (a d : Nat) (H : Heap) : Body → Option (PV × Heap)
  | .iter s pos => some (iterNext a d H s pos)
  | _ => none
@[go_sem] theorem nextB_iter (a d : Nat) (H : Heap) (s : List UInt8) (pos : Nat) : nextB a d H (.iter s pos) = some (iterNext a d H s pos) := rfl
@[go_sem] theorem nextP_mref (a d ver : Nat) (H : Heap) : nextP H true (.mref a d ver) = if (H.get a d).ver = ver then nextB a d H (H.get a d).body else none := rfl
@[go_sem] theorem get_new (H : Heap) (a d a' d' : Nat) (b : Body) : (H.new a d b).get a' d' = if a' = a ∧ d' = d then ⟨(H.get a d).ver + 1, 0, b⟩ else H.get a' d' := rfl
attribute [go_sem] cellsPut allCells buildP fillP
@[go_sem] theorem eqP_bool (a b : Bool) : eqP .bool (.bool a) (.bool b) = some (a == b) := rfl
@[go_sem] theorem eqP_nil (e : TypeId) : eqP (.ptr e) .nilptr .nilptr = some true := rfl
@[go_sem] theorem eqP_ptr1 (e : TypeId) (a d ver idx off : Nat) : eqP (.ptr e) .nilptr (.ptr a d ver idx off) = some false := rfl
@[go_sem] theorem eqP_ptr2 (e : TypeId) (a d ver idx off : Nat) : eqP (.ptr e) (.ptr a d ver idx off) .nilptr = some false := rfl
@[go_sem] theorem eqP_ptr3 (e : TypeId) (cs : List PV) (off : Nat) : eqP (.ptr e) .nilptr (.cptr cs off) = some false := rfl
@[go_sem] theorem eqP_ptr4 (e : TypeId) (cs : List PV) (off : Nat) : eqP (.ptr e) (.cptr cs off) .nilptr = some false := rfl
end Go.V
