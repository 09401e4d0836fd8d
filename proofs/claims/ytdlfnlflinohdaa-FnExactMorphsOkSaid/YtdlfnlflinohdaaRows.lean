/-
  No cell of these rows narrows 'for every input' (looked for: loops, veiled, ifaces, maps, wideKeys, modest, calm, conditions, laid).
  DERIVED. THE GIVEN ROWS OF THIS SEAT. 4 by the template 'for every input the law returns true; each argument reads behind the call as it read before'; 0 by the template 'total and deterministic' (their statements: YtdlfnlflinohdaaTotals.lean).
  GIVEN WITH THE SEED: the statements are not yours to turn. If you find one false, say at which input.
  Laid BY PROGRAM, IN A SANDBOX (cutbox-rows.mjs): the forced cells as the released guide's own fill.sh prints them over the translation 163083428a768a2a… (all of the seat's roots in one cut). By AI agents, Wed Nov 11 2026. No macro, syntax, notation, axiom, sorry.
-/
import Derived.Test.YtdlfnlflinohdaaChecked
import GoSem.Claim
import GoSem.ClaimJoined
import GoSem.ClaimMapViews
import Derived.JoinedTies
import Derived.KernelRfl
namespace Go.Proofs.Ytdlfnlflinohdaa
/- THE CELL 'sum', in the pinned program and in every row, IS THE sha256 OF THE DUMP (.gsa) THAT YtdlfnlflinohdaaProg.lean LOADS. Nothing in Lean hashes anything: it is a label: what it is worth is what the hold of that sum in a sandbox is worth. -/
noncomputable def Try.pinned : Pinned := { name := "ytdlfnlflinohdaa", sum := "163083428a768a2ae937ec0210526519e9788994abae414ed41c02fb16a3f1fe", checked := Try.checked }
namespace Rows
def none {H : Type} : Left H := { results := [], args := [] }

/-- 'laws.FnExactWithin': WHATEVER THE INPUT: true; the input reads as it did. -/
def fnExactWithinSpec : ChangeSpec := { name := "fnExactWithin", fn := fun _ => fun
  | [d1, d2] => { results := [.lit (.bool true)], args := [d1, d2] }
  | _ => none }
def fnExactWithinRow : OpenClaim := { program := "ytdlfnlflinohdaa", sum := "163083428a768a2ae937ec0210526519e9788994abae414ed41c02fb16a3f1fe", func := "loop.example/g00901/laws.FnExactWithin", spec := "fnExactWithin", unfollowed := true, recurses := true, apart := false }
def FnExactWithinSaid : Prop := fnExactWithinRow.holds Try.pinned (OpenSpec.ofChange fnExactWithinSpec)

/-- ITS FALSE NEIGHBOUR: 'it returns false'. Refute it at one input. -/
def fnExactWithinWrong : ChangeSpec := { name := "fnExactWithin", fn := fun _ => fun
  | [d1, d2] => { results := [.lit (.bool false)], args := [d1, d2] }
  | _ => none }
def FnExactWithinWrongFalsely : Prop := fnExactWithinRow.holds Try.pinned (OpenSpec.ofChange fnExactWithinWrong)

/-- 'laws.FnExactMorphOk': WHATEVER THE INPUT: true; the input reads as it did. -/
def fnExactMorphOkSpec : ChangeSpec := { name := "fnExactMorphOk", fn := fun _ => fun
  | [d] => { results := [.lit (.bool true)], args := [d] }
  | _ => none }
def fnExactMorphOkRow : OpenClaim := { program := "ytdlfnlflinohdaa", sum := "163083428a768a2ae937ec0210526519e9788994abae414ed41c02fb16a3f1fe", func := "loop.example/g00901/laws.FnExactMorphOk", spec := "fnExactMorphOk", inPlace := ["internal/bytealg.IndexByteString"], unfollowed := true, recurses := true, apart := false }
def FnExactMorphOkSaid : Prop := fnExactMorphOkRow.holds Try.pinned (OpenSpec.ofChange fnExactMorphOkSpec)

/-- ITS FALSE NEIGHBOUR: 'it returns false'. Refute it at one input. -/
def fnExactMorphOkWrong : ChangeSpec := { name := "fnExactMorphOk", fn := fun _ => fun
  | [d] => { results := [.lit (.bool false)], args := [d] }
  | _ => none }
def FnExactMorphOkWrongFalsely : Prop := fnExactMorphOkRow.holds Try.pinned (OpenSpec.ofChange fnExactMorphOkWrong)

/-- 'laws.FnExactMorphText': WHATEVER THE INPUT: true; the input reads as it did. -/
def fnExactMorphTextSpec : ChangeSpec := { name := "fnExactMorphText", fn := fun _ => fun
  | [d] => { results := [.lit (.bool true)], args := [d] }
  | _ => none }
def fnExactMorphTextRow : OpenClaim := { program := "ytdlfnlflinohdaa", sum := "163083428a768a2ae937ec0210526519e9788994abae414ed41c02fb16a3f1fe", func := "loop.example/g00901/laws.FnExactMorphText", spec := "fnExactMorphText", inPlace := ["internal/bytealg.IndexByteString"], unfollowed := true, recurses := true, apart := false }
def FnExactMorphTextSaid : Prop := fnExactMorphTextRow.holds Try.pinned (OpenSpec.ofChange fnExactMorphTextSpec)

/-- ITS FALSE NEIGHBOUR: 'it returns false'. Refute it at one input. -/
def fnExactMorphTextWrong : ChangeSpec := { name := "fnExactMorphText", fn := fun _ => fun
  | [d] => { results := [.lit (.bool false)], args := [d] }
  | _ => none }
def FnExactMorphTextWrongFalsely : Prop := fnExactMorphTextRow.holds Try.pinned (OpenSpec.ofChange fnExactMorphTextWrong)

/-- 'laws.FnExactMorphsOk': WHATEVER THE INPUT: true; the input reads as it did. -/
def fnExactMorphsOkSpec : ChangeSpec := { name := "fnExactMorphsOk", fn := fun _ => fun
  | [d] => { results := [.lit (.bool true)], args := [d] }
  | _ => none }
def fnExactMorphsOkRow : OpenClaim := { program := "ytdlfnlflinohdaa", sum := "163083428a768a2ae937ec0210526519e9788994abae414ed41c02fb16a3f1fe", func := "loop.example/g00901/laws.FnExactMorphsOk", spec := "fnExactMorphsOk", inPlace := ["internal/bytealg.IndexByteString"], unfollowed := true, recurses := true, apart := false }
def FnExactMorphsOkSaid : Prop := fnExactMorphsOkRow.holds Try.pinned (OpenSpec.ofChange fnExactMorphsOkSpec)

/-- ITS FALSE NEIGHBOUR: 'it returns false'. Refute it at one input. -/
def fnExactMorphsOkWrong : ChangeSpec := { name := "fnExactMorphsOk", fn := fun _ => fun
  | [d] => { results := [.lit (.bool false)], args := [d] }
  | _ => none }
def FnExactMorphsOkWrongFalsely : Prop := fnExactMorphsOkRow.holds Try.pinned (OpenSpec.ofChange fnExactMorphsOkWrong)

/- THE SECOND FORM. 'bulk': how many values and letters a reading holds, each counted each time it is reached (what is shared counts as often as it is met; a slice's spare places count too). A statement '..UptoSaid' is the law's where the arguments, and the package variables that the reading takes, are together of bulk at most 1048576: NARROWER than '..Said'. Prove '..Said' where nothing that the law and all that it calls make is longer than what came in: it says more and counts as full. Else prove '..UptoSaid'. A law counts once. -/
mutual
def uptoBulk {H : Type} : DataW H → Nat
  | .lit (.string bytes) => bytes.length + 1
  | .lit _ => 1
  | .nil => 1
  | .ptr d => uptoBulk d + 1
  | .slice elems spare => uptoBulkAll elems + uptoBulkAll spare + 1
  | .agg parts => uptoBulkAll parts + 1
  | .iface _ d => uptoBulk d + 1
  | .map entries => uptoBulkEntries entries + 1
  | .held _ => 1
def uptoBulkAll {H : Type} : List (DataW H) → Nat
  | [] => 0
  | d :: r => uptoBulk d + uptoBulkAll r
def uptoBulkEntries {H : Type} : List (Lit × DataW H) → Nat
  | [] => 0
  | x :: r => uptoBulkEntry x + uptoBulkEntries r
def uptoBulkEntry {H : Type} : Lit × DataW H → Nat
  | (.string bytes, d) => bytes.length + uptoBulk d + 1
  | (_, d) => uptoBulk d + 1
 end
def uptoSmall : (H : Type) → List (DataW H) → Bool := fun _ ds => decide (uptoBulkAll ds ≤ 1048576)
def OpenSpec.upto (s : _root_.Go.ChangeSpec) : _root_.Go.OpenSpec := { _root_.Go.OpenSpec.ofChange s with cond := some uptoSmall }

/-- 'laws.FnExactWithin', WHERE WHAT IT READS IS OF BULK AT MOST 1048576: true; the input reads as it did. -/
def fnExactWithinUptoRow : OpenClaim := { program := "ytdlfnlflinohdaa", sum := "163083428a768a2ae937ec0210526519e9788994abae414ed41c02fb16a3f1fe", func := "loop.example/g00901/laws.FnExactWithin", spec := "fnExactWithin", unfollowed := true, recurses := true, apart := false, narrowed := true }
def FnExactWithinUptoSaid : Prop := fnExactWithinUptoRow.holds Try.pinned (OpenSpec.upto fnExactWithinSpec)

/-- 'laws.FnExactMorphOk', WHERE WHAT IT READS IS OF BULK AT MOST 1048576: true; the input reads as it did. -/
def fnExactMorphOkUptoRow : OpenClaim := { program := "ytdlfnlflinohdaa", sum := "163083428a768a2ae937ec0210526519e9788994abae414ed41c02fb16a3f1fe", func := "loop.example/g00901/laws.FnExactMorphOk", spec := "fnExactMorphOk", inPlace := ["internal/bytealg.IndexByteString"], unfollowed := true, recurses := true, apart := false, narrowed := true }
def FnExactMorphOkUptoSaid : Prop := fnExactMorphOkUptoRow.holds Try.pinned (OpenSpec.upto fnExactMorphOkSpec)

/-- 'laws.FnExactMorphText', WHERE WHAT IT READS IS OF BULK AT MOST 1048576: true; the input reads as it did. -/
def fnExactMorphTextUptoRow : OpenClaim := { program := "ytdlfnlflinohdaa", sum := "163083428a768a2ae937ec0210526519e9788994abae414ed41c02fb16a3f1fe", func := "loop.example/g00901/laws.FnExactMorphText", spec := "fnExactMorphText", inPlace := ["internal/bytealg.IndexByteString"], unfollowed := true, recurses := true, apart := false, narrowed := true }
def FnExactMorphTextUptoSaid : Prop := fnExactMorphTextUptoRow.holds Try.pinned (OpenSpec.upto fnExactMorphTextSpec)

/-- 'laws.FnExactMorphsOk', WHERE WHAT IT READS IS OF BULK AT MOST 1048576: true; the input reads as it did. -/
def fnExactMorphsOkUptoRow : OpenClaim := { program := "ytdlfnlflinohdaa", sum := "163083428a768a2ae937ec0210526519e9788994abae414ed41c02fb16a3f1fe", func := "loop.example/g00901/laws.FnExactMorphsOk", spec := "fnExactMorphsOk", inPlace := ["internal/bytealg.IndexByteString"], unfollowed := true, recurses := true, apart := false, narrowed := true }
def FnExactMorphsOkUptoSaid : Prop := fnExactMorphsOkUptoRow.holds Try.pinned (OpenSpec.upto fnExactMorphsOkSpec)

end Rows
end Go.Proofs.Ytdlfnlflinohdaa
