/- When two values of the data are equal, as both sides compute it. Definitions alone. No condition. -/
import Derived.Test.YtdlkndnlpgmdaaaGreatVSl1
namespace Go.Proofs.YtdlkndnlpgmdaaaGreat.V
open Go Go.V Go.Proofs
set_option linter.unusedSimpArgs false
set_option linter.unusedVariables false

/-- Equality of types no deeper than a bound. -/
def sameT : Nat → GType → GType → Bool
  | 0, _, _ => false
  | n + 1, x, y => decide (x.Kind = y.Kind) && (decide (x.Name = y.Name) && (decide (x.Labels = y.Labels) && all2 (sameT n) x.Kids y.Kids))
def sameType (x y : GType) : Bool := sameT 100 x y
def sameParam (x y : GParam) : Bool := decide (x.Name = y.Name) && sameType x.Ty y.Ty
def sameFT (x y : GFuncType) : Bool := (x.Async == y.Async) && (sameType x.Result y.Result && all2 sameParam x.Params y.Params)
def sameFn (x y : GFunc) : Bool := decide (x.Name = y.Name) && sameFT x.Ty y.Ty
def sameFace (x y : GFace) : Bool := decide (x.Package = y.Package) && (decide (x.Name = y.Name) && (decide (x.Version = y.Version) && (decide (x.Resources = y.Resources) && all2 sameFn x.Funcs y.Funcs)))
def sameCore (x y : GCore) : Bool := decide (x.Name = y.Name) && (decide (x.Params = y.Params) && (decide (x.Locals = y.Locals) && ((x.Result == y.Result) && decide (x.Code = y.Code))))
def sameModule (x y : GModule) : Bool := decide (x.Pages = y.Pages) && (decide (x.Imports = y.Imports) && all2 sameCore x.Cores y.Cores)
def sameComp (x y : GComponent) : Bool := decide (x.Name = y.Name) && (decide (x.Version = y.Version) && (all2 sameFace x.Imports y.Imports && (all2 sameFace x.Exports y.Exports && (decide (x.Encoding = y.Encoding) && (decide (x.Reserve = y.Reserve) &&
  (sameModule x.Module y.Module && (decide (x.Lifts = y.Lifts) && (decide (x.Lowers = y.Lowers) && decide (x.Builtins = y.Builtins)))))))))
def sameInst (x y : GInst) : Bool := decide (x.Comp = y.Comp) && decide (x.Args = y.Args)
def sameGraph (x y : GGraph) : Bool := all2 sameFace x.Host y.Host && (all2 sameComp x.Comps y.Comps && all2 sameInst x.Insts y.Insts)
def sameMem (x y : GMemory) : Bool := decide (x.Bytes = y.Bytes) && decide (x.Free = y.Free)
def sameTable (x y : GTable) : Bool := decide (x.Next = y.Next) && decide (x.Entries = y.Entries)
def sameShelf (x y : GShelf) : Bool := decide (x.Next = y.Next) && (decide (x.Things = y.Things) && all2 sameTable x.Tables y.Tables)
def sameCall (x y : GCall) : Bool := decide (x.Id = y.Id) && (decide (x.Caller = y.Caller) && (decide (x.Callee = y.Callee) && decide (x.Args = y.Args)))
def sameYard (x y : GYard) : Bool := sameShelf x.Shelf y.Shelf && (decide (x.Next = y.Next) && (decide (x.Dead = y.Dead) && all2 sameCall x.Stack y.Stack))
def sameHC (x y : GHostCall) : Bool := decide (x.Inst = y.Inst) && (decide (x.Word = y.Word) && (decide (x.Args = y.Args) && decide (x.Answer = y.Answer)))
def sameRun (x y : GRunning) : Bool := sameGraph x.Graph y.Graph && ((x.Fused == y.Fused) && (all2 sameMem x.Memory y.Memory && (sameYard x.Yard y.Yard && all2 sameHC x.Log y.Log)))
end Go.Proofs.YtdlkndnlpgmdaaaGreat.V
