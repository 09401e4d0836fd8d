/- The configuration of the seat for V: the functions whose text V reads, those that share the caller's heap, and what the library's doors hand back. No condition. -/
import Derived.Test.YtdlkndnlpgmdaaaGreatVLive
import Derived.Test.YtdlkndnlpgmdaaaGreatVTypes
import Derived.Test.YtdlkndnlpgmdaaaGreatVRow
import Derived.Lib.Bytealg
import Derived.KernelRfl
namespace Go.Proofs.YtdlkndnlpgmdaaaGreat.V
set_option linter.unusedSimpArgs false
set_option linter.unusedVariables false
open Go Go.V Go.Proofs
/-- The functions whose text V reads. -/
def okFns : List Nat := [3, 4, 5, 6, 7, 8, 9, 10, 11, 12, 13, 14, 15, 16, 17, 18, 19, 20, 21, 22, 23, 24, 25, 26, 27, 28, 29, 30, 31, 32, 33, 34, 35, 36, 37, 38, 39, 40, 41, 42, 43, 44, 45, 46, 47, 48, 49, 50, 51, 52, 53, 54, 55, 56, 57, 58, 59, 60, 61, 62, 63, 64, 65, 66, 67, 68, 69, 70, 71, 72, 73, 74, 75, 76, 77, 78, 79, 80, 81, 82, 83, 84, 85, 86, 87, 88, 89, 90, 91, 92, 93, 94, 95, 96, 97, 98, 99, 100, 101, 102, 103, 104, 105, 106, 107, 108, 109, 110, 111, 112, 113, 114, 115, 116, 117, 118, 119, 120, 121, 122, 123, 124, 125, 126, 127, 128, 129, 130, 131, 132, 133, 134, 135, 136, 137, 138, 139, 140, 141, 142, 143, 144, 145, 146, 147, 148, 149, 150, 151, 152, 153, 154, 155, 156, 157, 158, 159, 160, 161, 162, 163, 164, 165, 166, 167, 168, 169, 170, 171, 172, 173, 174, 175, 176, 177, 178, 179, 180, 181, 182, 183, 184, 185, 186, 187, 188, 189, 190, 191, 192, 193, 194, 195, 196, 197, 198, 199, 200]
/-- The functions that share the caller's heap. -/
def liveFns : List Nat := []
noncomputable def CC : Cfg := ⟨Tryz.prog, fun f => liveFns.contains f, fun f => !okFns.contains f, fun f => none, fun _ => none⟩
@[go_sem] theorem CC_P : CC.P = Tryz.prog := rfl
theorem fns_ok : okFns.all (fun f => match CC.P.funcs[f]? with | some fn => fnOk CC fn | none => false) = true := by kernel_rfl
set_option maxRecDepth 100000 in
theorem prog_ok : ProgOk CC where
  mixed := by kernel_rfl
  fns := fun f fn hb hf => ok_of fns_ok hb hf
  ext := fun f g args r hx => by cases hx
/-- A call that only reads. -/
noncomputable def pureCall (C : Cfg) (f : FuncId) (args : List PV) (H : Heap) : Option (PV × Heap) := (resL H args).bind fun args' => (dPure C f args').bind fun r => if (noRefs args || r.scalar) = true then some (r, H) else none
theorem CC_callp (f : FuncId) (args : List PV) (H : Heap) (h : CC.live f = false) : dCall CC f args H = pureCall CC f args H := by
  rw [dCall_pure f args h]
  unfold pureCall
  simp [go_sem]
attribute [go_sem] pureCall
theorem live3 : CC.live 3 = false := rfl
@[go_sem] theorem call3 (args : List PV) (H : Heap) : dCall CC 3 args H = pureCall CC 3 args H := CC_callp 3 args H rfl
theorem live4 : CC.live 4 = false := rfl
@[go_sem] theorem call4 (args : List PV) (H : Heap) : dCall CC 4 args H = pureCall CC 4 args H := CC_callp 4 args H rfl
theorem live5 : CC.live 5 = false := rfl
@[go_sem] theorem call5 (args : List PV) (H : Heap) : dCall CC 5 args H = pureCall CC 5 args H := CC_callp 5 args H rfl
theorem live6 : CC.live 6 = false := rfl
@[go_sem] theorem call6 (args : List PV) (H : Heap) : dCall CC 6 args H = pureCall CC 6 args H := CC_callp 6 args H rfl
theorem live7 : CC.live 7 = false := rfl
@[go_sem] theorem call7 (args : List PV) (H : Heap) : dCall CC 7 args H = pureCall CC 7 args H := CC_callp 7 args H rfl
theorem live8 : CC.live 8 = false := rfl
@[go_sem] theorem call8 (args : List PV) (H : Heap) : dCall CC 8 args H = pureCall CC 8 args H := CC_callp 8 args H rfl
theorem live9 : CC.live 9 = false := rfl
@[go_sem] theorem call9 (args : List PV) (H : Heap) : dCall CC 9 args H = pureCall CC 9 args H := CC_callp 9 args H rfl
theorem live10 : CC.live 10 = false := rfl
@[go_sem] theorem call10 (args : List PV) (H : Heap) : dCall CC 10 args H = pureCall CC 10 args H := CC_callp 10 args H rfl
theorem live11 : CC.live 11 = false := rfl
@[go_sem] theorem call11 (args : List PV) (H : Heap) : dCall CC 11 args H = pureCall CC 11 args H := CC_callp 11 args H rfl
theorem live12 : CC.live 12 = false := rfl
@[go_sem] theorem call12 (args : List PV) (H : Heap) : dCall CC 12 args H = pureCall CC 12 args H := CC_callp 12 args H rfl
theorem live13 : CC.live 13 = false := rfl
@[go_sem] theorem call13 (args : List PV) (H : Heap) : dCall CC 13 args H = pureCall CC 13 args H := CC_callp 13 args H rfl
theorem live14 : CC.live 14 = false := rfl
@[go_sem] theorem call14 (args : List PV) (H : Heap) : dCall CC 14 args H = pureCall CC 14 args H := CC_callp 14 args H rfl
theorem live15 : CC.live 15 = false := rfl
@[go_sem] theorem call15 (args : List PV) (H : Heap) : dCall CC 15 args H = pureCall CC 15 args H := CC_callp 15 args H rfl
theorem live16 : CC.live 16 = false := rfl
@[go_sem] theorem call16 (args : List PV) (H : Heap) : dCall CC 16 args H = pureCall CC 16 args H := CC_callp 16 args H rfl
theorem live17 : CC.live 17 = false := rfl
@[go_sem] theorem call17 (args : List PV) (H : Heap) : dCall CC 17 args H = pureCall CC 17 args H := CC_callp 17 args H rfl
theorem live18 : CC.live 18 = false := rfl
@[go_sem] theorem call18 (args : List PV) (H : Heap) : dCall CC 18 args H = pureCall CC 18 args H := CC_callp 18 args H rfl
theorem live19 : CC.live 19 = false := rfl
@[go_sem] theorem call19 (args : List PV) (H : Heap) : dCall CC 19 args H = pureCall CC 19 args H := CC_callp 19 args H rfl
theorem live20 : CC.live 20 = false := rfl
@[go_sem] theorem call20 (args : List PV) (H : Heap) : dCall CC 20 args H = pureCall CC 20 args H := CC_callp 20 args H rfl
theorem live21 : CC.live 21 = false := rfl
@[go_sem] theorem call21 (args : List PV) (H : Heap) : dCall CC 21 args H = pureCall CC 21 args H := CC_callp 21 args H rfl
theorem live22 : CC.live 22 = false := rfl
@[go_sem] theorem call22 (args : List PV) (H : Heap) : dCall CC 22 args H = pureCall CC 22 args H := CC_callp 22 args H rfl
theorem live23 : CC.live 23 = false := rfl
@[go_sem] theorem call23 (args : List PV) (H : Heap) : dCall CC 23 args H = pureCall CC 23 args H := CC_callp 23 args H rfl
theorem live24 : CC.live 24 = false := rfl
@[go_sem] theorem call24 (args : List PV) (H : Heap) : dCall CC 24 args H = pureCall CC 24 args H := CC_callp 24 args H rfl
theorem live25 : CC.live 25 = false := rfl
@[go_sem] theorem call25 (args : List PV) (H : Heap) : dCall CC 25 args H = pureCall CC 25 args H := CC_callp 25 args H rfl
theorem live26 : CC.live 26 = false := rfl
@[go_sem] theorem call26 (args : List PV) (H : Heap) : dCall CC 26 args H = pureCall CC 26 args H := CC_callp 26 args H rfl
theorem live27 : CC.live 27 = false := rfl
@[go_sem] theorem call27 (args : List PV) (H : Heap) : dCall CC 27 args H = pureCall CC 27 args H := CC_callp 27 args H rfl
theorem live28 : CC.live 28 = false := rfl
@[go_sem] theorem call28 (args : List PV) (H : Heap) : dCall CC 28 args H = pureCall CC 28 args H := CC_callp 28 args H rfl
theorem live29 : CC.live 29 = false := rfl
@[go_sem] theorem call29 (args : List PV) (H : Heap) : dCall CC 29 args H = pureCall CC 29 args H := CC_callp 29 args H rfl
theorem live30 : CC.live 30 = false := rfl
@[go_sem] theorem call30 (args : List PV) (H : Heap) : dCall CC 30 args H = pureCall CC 30 args H := CC_callp 30 args H rfl
theorem live31 : CC.live 31 = false := rfl
@[go_sem] theorem call31 (args : List PV) (H : Heap) : dCall CC 31 args H = pureCall CC 31 args H := CC_callp 31 args H rfl
theorem live32 : CC.live 32 = false := rfl
@[go_sem] theorem call32 (args : List PV) (H : Heap) : dCall CC 32 args H = pureCall CC 32 args H := CC_callp 32 args H rfl
theorem live33 : CC.live 33 = false := rfl
@[go_sem] theorem call33 (args : List PV) (H : Heap) : dCall CC 33 args H = pureCall CC 33 args H := CC_callp 33 args H rfl
theorem live34 : CC.live 34 = false := rfl
@[go_sem] theorem call34 (args : List PV) (H : Heap) : dCall CC 34 args H = pureCall CC 34 args H := CC_callp 34 args H rfl
theorem live35 : CC.live 35 = false := rfl
@[go_sem] theorem call35 (args : List PV) (H : Heap) : dCall CC 35 args H = pureCall CC 35 args H := CC_callp 35 args H rfl
theorem live36 : CC.live 36 = false := rfl
@[go_sem] theorem call36 (args : List PV) (H : Heap) : dCall CC 36 args H = pureCall CC 36 args H := CC_callp 36 args H rfl
theorem live37 : CC.live 37 = false := rfl
@[go_sem] theorem call37 (args : List PV) (H : Heap) : dCall CC 37 args H = pureCall CC 37 args H := CC_callp 37 args H rfl
theorem live38 : CC.live 38 = false := rfl
@[go_sem] theorem call38 (args : List PV) (H : Heap) : dCall CC 38 args H = pureCall CC 38 args H := CC_callp 38 args H rfl
theorem live39 : CC.live 39 = false := rfl
@[go_sem] theorem call39 (args : List PV) (H : Heap) : dCall CC 39 args H = pureCall CC 39 args H := CC_callp 39 args H rfl
theorem live40 : CC.live 40 = false := rfl
@[go_sem] theorem call40 (args : List PV) (H : Heap) : dCall CC 40 args H = pureCall CC 40 args H := CC_callp 40 args H rfl
theorem live41 : CC.live 41 = false := rfl
@[go_sem] theorem call41 (args : List PV) (H : Heap) : dCall CC 41 args H = pureCall CC 41 args H := CC_callp 41 args H rfl
theorem live42 : CC.live 42 = false := rfl
@[go_sem] theorem call42 (args : List PV) (H : Heap) : dCall CC 42 args H = pureCall CC 42 args H := CC_callp 42 args H rfl
theorem live43 : CC.live 43 = false := rfl
@[go_sem] theorem call43 (args : List PV) (H : Heap) : dCall CC 43 args H = pureCall CC 43 args H := CC_callp 43 args H rfl
theorem live44 : CC.live 44 = false := rfl
@[go_sem] theorem call44 (args : List PV) (H : Heap) : dCall CC 44 args H = pureCall CC 44 args H := CC_callp 44 args H rfl
theorem live45 : CC.live 45 = false := rfl
@[go_sem] theorem call45 (args : List PV) (H : Heap) : dCall CC 45 args H = pureCall CC 45 args H := CC_callp 45 args H rfl
theorem live46 : CC.live 46 = false := rfl
@[go_sem] theorem call46 (args : List PV) (H : Heap) : dCall CC 46 args H = pureCall CC 46 args H := CC_callp 46 args H rfl
theorem live47 : CC.live 47 = false := rfl
@[go_sem] theorem call47 (args : List PV) (H : Heap) : dCall CC 47 args H = pureCall CC 47 args H := CC_callp 47 args H rfl
theorem live48 : CC.live 48 = false := rfl
@[go_sem] theorem call48 (args : List PV) (H : Heap) : dCall CC 48 args H = pureCall CC 48 args H := CC_callp 48 args H rfl
theorem live49 : CC.live 49 = false := rfl
@[go_sem] theorem call49 (args : List PV) (H : Heap) : dCall CC 49 args H = pureCall CC 49 args H := CC_callp 49 args H rfl
theorem live50 : CC.live 50 = false := rfl
@[go_sem] theorem call50 (args : List PV) (H : Heap) : dCall CC 50 args H = pureCall CC 50 args H := CC_callp 50 args H rfl
theorem live51 : CC.live 51 = false := rfl
@[go_sem] theorem call51 (args : List PV) (H : Heap) : dCall CC 51 args H = pureCall CC 51 args H := CC_callp 51 args H rfl
theorem live52 : CC.live 52 = false := rfl
@[go_sem] theorem call52 (args : List PV) (H : Heap) : dCall CC 52 args H = pureCall CC 52 args H := CC_callp 52 args H rfl
theorem live53 : CC.live 53 = false := rfl
@[go_sem] theorem call53 (args : List PV) (H : Heap) : dCall CC 53 args H = pureCall CC 53 args H := CC_callp 53 args H rfl
theorem live54 : CC.live 54 = false := rfl
@[go_sem] theorem call54 (args : List PV) (H : Heap) : dCall CC 54 args H = pureCall CC 54 args H := CC_callp 54 args H rfl
theorem live55 : CC.live 55 = false := rfl
@[go_sem] theorem call55 (args : List PV) (H : Heap) : dCall CC 55 args H = pureCall CC 55 args H := CC_callp 55 args H rfl
theorem live56 : CC.live 56 = false := rfl
@[go_sem] theorem call56 (args : List PV) (H : Heap) : dCall CC 56 args H = pureCall CC 56 args H := CC_callp 56 args H rfl
theorem live57 : CC.live 57 = false := rfl
@[go_sem] theorem call57 (args : List PV) (H : Heap) : dCall CC 57 args H = pureCall CC 57 args H := CC_callp 57 args H rfl
theorem live58 : CC.live 58 = false := rfl
@[go_sem] theorem call58 (args : List PV) (H : Heap) : dCall CC 58 args H = pureCall CC 58 args H := CC_callp 58 args H rfl
theorem live59 : CC.live 59 = false := rfl
@[go_sem] theorem call59 (args : List PV) (H : Heap) : dCall CC 59 args H = pureCall CC 59 args H := CC_callp 59 args H rfl
theorem live60 : CC.live 60 = false := rfl
@[go_sem] theorem call60 (args : List PV) (H : Heap) : dCall CC 60 args H = pureCall CC 60 args H := CC_callp 60 args H rfl
theorem live61 : CC.live 61 = false := rfl
@[go_sem] theorem call61 (args : List PV) (H : Heap) : dCall CC 61 args H = pureCall CC 61 args H := CC_callp 61 args H rfl
theorem live62 : CC.live 62 = false := rfl
@[go_sem] theorem call62 (args : List PV) (H : Heap) : dCall CC 62 args H = pureCall CC 62 args H := CC_callp 62 args H rfl
theorem live63 : CC.live 63 = false := rfl
@[go_sem] theorem call63 (args : List PV) (H : Heap) : dCall CC 63 args H = pureCall CC 63 args H := CC_callp 63 args H rfl
theorem live64 : CC.live 64 = false := rfl
@[go_sem] theorem call64 (args : List PV) (H : Heap) : dCall CC 64 args H = pureCall CC 64 args H := CC_callp 64 args H rfl
theorem live65 : CC.live 65 = false := rfl
@[go_sem] theorem call65 (args : List PV) (H : Heap) : dCall CC 65 args H = pureCall CC 65 args H := CC_callp 65 args H rfl
theorem live66 : CC.live 66 = false := rfl
@[go_sem] theorem call66 (args : List PV) (H : Heap) : dCall CC 66 args H = pureCall CC 66 args H := CC_callp 66 args H rfl
theorem live67 : CC.live 67 = false := rfl
@[go_sem] theorem call67 (args : List PV) (H : Heap) : dCall CC 67 args H = pureCall CC 67 args H := CC_callp 67 args H rfl
theorem live68 : CC.live 68 = false := rfl
@[go_sem] theorem call68 (args : List PV) (H : Heap) : dCall CC 68 args H = pureCall CC 68 args H := CC_callp 68 args H rfl
theorem live69 : CC.live 69 = false := rfl
@[go_sem] theorem call69 (args : List PV) (H : Heap) : dCall CC 69 args H = pureCall CC 69 args H := CC_callp 69 args H rfl
theorem live70 : CC.live 70 = false := rfl
@[go_sem] theorem call70 (args : List PV) (H : Heap) : dCall CC 70 args H = pureCall CC 70 args H := CC_callp 70 args H rfl
theorem live71 : CC.live 71 = false := rfl
@[go_sem] theorem call71 (args : List PV) (H : Heap) : dCall CC 71 args H = pureCall CC 71 args H := CC_callp 71 args H rfl
theorem live72 : CC.live 72 = false := rfl
@[go_sem] theorem call72 (args : List PV) (H : Heap) : dCall CC 72 args H = pureCall CC 72 args H := CC_callp 72 args H rfl
theorem live73 : CC.live 73 = false := rfl
@[go_sem] theorem call73 (args : List PV) (H : Heap) : dCall CC 73 args H = pureCall CC 73 args H := CC_callp 73 args H rfl
theorem live74 : CC.live 74 = false := rfl
@[go_sem] theorem call74 (args : List PV) (H : Heap) : dCall CC 74 args H = pureCall CC 74 args H := CC_callp 74 args H rfl
theorem live75 : CC.live 75 = false := rfl
@[go_sem] theorem call75 (args : List PV) (H : Heap) : dCall CC 75 args H = pureCall CC 75 args H := CC_callp 75 args H rfl
theorem live76 : CC.live 76 = false := rfl
@[go_sem] theorem call76 (args : List PV) (H : Heap) : dCall CC 76 args H = pureCall CC 76 args H := CC_callp 76 args H rfl
theorem live77 : CC.live 77 = false := rfl
@[go_sem] theorem call77 (args : List PV) (H : Heap) : dCall CC 77 args H = pureCall CC 77 args H := CC_callp 77 args H rfl
theorem live78 : CC.live 78 = false := rfl
@[go_sem] theorem call78 (args : List PV) (H : Heap) : dCall CC 78 args H = pureCall CC 78 args H := CC_callp 78 args H rfl
theorem live79 : CC.live 79 = false := rfl
@[go_sem] theorem call79 (args : List PV) (H : Heap) : dCall CC 79 args H = pureCall CC 79 args H := CC_callp 79 args H rfl
theorem live80 : CC.live 80 = false := rfl
@[go_sem] theorem call80 (args : List PV) (H : Heap) : dCall CC 80 args H = pureCall CC 80 args H := CC_callp 80 args H rfl
theorem live81 : CC.live 81 = false := rfl
@[go_sem] theorem call81 (args : List PV) (H : Heap) : dCall CC 81 args H = pureCall CC 81 args H := CC_callp 81 args H rfl
theorem live82 : CC.live 82 = false := rfl
@[go_sem] theorem call82 (args : List PV) (H : Heap) : dCall CC 82 args H = pureCall CC 82 args H := CC_callp 82 args H rfl
theorem live83 : CC.live 83 = false := rfl
@[go_sem] theorem call83 (args : List PV) (H : Heap) : dCall CC 83 args H = pureCall CC 83 args H := CC_callp 83 args H rfl
theorem live84 : CC.live 84 = false := rfl
@[go_sem] theorem call84 (args : List PV) (H : Heap) : dCall CC 84 args H = pureCall CC 84 args H := CC_callp 84 args H rfl
theorem live85 : CC.live 85 = false := rfl
@[go_sem] theorem call85 (args : List PV) (H : Heap) : dCall CC 85 args H = pureCall CC 85 args H := CC_callp 85 args H rfl
theorem live86 : CC.live 86 = false := rfl
@[go_sem] theorem call86 (args : List PV) (H : Heap) : dCall CC 86 args H = pureCall CC 86 args H := CC_callp 86 args H rfl
theorem live87 : CC.live 87 = false := rfl
@[go_sem] theorem call87 (args : List PV) (H : Heap) : dCall CC 87 args H = pureCall CC 87 args H := CC_callp 87 args H rfl
theorem live88 : CC.live 88 = false := rfl
@[go_sem] theorem call88 (args : List PV) (H : Heap) : dCall CC 88 args H = pureCall CC 88 args H := CC_callp 88 args H rfl
theorem live89 : CC.live 89 = false := rfl
@[go_sem] theorem call89 (args : List PV) (H : Heap) : dCall CC 89 args H = pureCall CC 89 args H := CC_callp 89 args H rfl
theorem live90 : CC.live 90 = false := rfl
@[go_sem] theorem call90 (args : List PV) (H : Heap) : dCall CC 90 args H = pureCall CC 90 args H := CC_callp 90 args H rfl
theorem live91 : CC.live 91 = false := rfl
@[go_sem] theorem call91 (args : List PV) (H : Heap) : dCall CC 91 args H = pureCall CC 91 args H := CC_callp 91 args H rfl
theorem live92 : CC.live 92 = false := rfl
@[go_sem] theorem call92 (args : List PV) (H : Heap) : dCall CC 92 args H = pureCall CC 92 args H := CC_callp 92 args H rfl
theorem live93 : CC.live 93 = false := rfl
@[go_sem] theorem call93 (args : List PV) (H : Heap) : dCall CC 93 args H = pureCall CC 93 args H := CC_callp 93 args H rfl
theorem live94 : CC.live 94 = false := rfl
@[go_sem] theorem call94 (args : List PV) (H : Heap) : dCall CC 94 args H = pureCall CC 94 args H := CC_callp 94 args H rfl
theorem live95 : CC.live 95 = false := rfl
@[go_sem] theorem call95 (args : List PV) (H : Heap) : dCall CC 95 args H = pureCall CC 95 args H := CC_callp 95 args H rfl
theorem live96 : CC.live 96 = false := rfl
@[go_sem] theorem call96 (args : List PV) (H : Heap) : dCall CC 96 args H = pureCall CC 96 args H := CC_callp 96 args H rfl
theorem live97 : CC.live 97 = false := rfl
@[go_sem] theorem call97 (args : List PV) (H : Heap) : dCall CC 97 args H = pureCall CC 97 args H := CC_callp 97 args H rfl
theorem live98 : CC.live 98 = false := rfl
@[go_sem] theorem call98 (args : List PV) (H : Heap) : dCall CC 98 args H = pureCall CC 98 args H := CC_callp 98 args H rfl
theorem live99 : CC.live 99 = false := rfl
@[go_sem] theorem call99 (args : List PV) (H : Heap) : dCall CC 99 args H = pureCall CC 99 args H := CC_callp 99 args H rfl
theorem live100 : CC.live 100 = false := rfl
@[go_sem] theorem call100 (args : List PV) (H : Heap) : dCall CC 100 args H = pureCall CC 100 args H := CC_callp 100 args H rfl
theorem live101 : CC.live 101 = false := rfl
@[go_sem] theorem call101 (args : List PV) (H : Heap) : dCall CC 101 args H = pureCall CC 101 args H := CC_callp 101 args H rfl
theorem live102 : CC.live 102 = false := rfl
@[go_sem] theorem call102 (args : List PV) (H : Heap) : dCall CC 102 args H = pureCall CC 102 args H := CC_callp 102 args H rfl
theorem live103 : CC.live 103 = false := rfl
@[go_sem] theorem call103 (args : List PV) (H : Heap) : dCall CC 103 args H = pureCall CC 103 args H := CC_callp 103 args H rfl
theorem live104 : CC.live 104 = false := rfl
@[go_sem] theorem call104 (args : List PV) (H : Heap) : dCall CC 104 args H = pureCall CC 104 args H := CC_callp 104 args H rfl
theorem live105 : CC.live 105 = false := rfl
@[go_sem] theorem call105 (args : List PV) (H : Heap) : dCall CC 105 args H = pureCall CC 105 args H := CC_callp 105 args H rfl
theorem live106 : CC.live 106 = false := rfl
@[go_sem] theorem call106 (args : List PV) (H : Heap) : dCall CC 106 args H = pureCall CC 106 args H := CC_callp 106 args H rfl
theorem live107 : CC.live 107 = false := rfl
@[go_sem] theorem call107 (args : List PV) (H : Heap) : dCall CC 107 args H = pureCall CC 107 args H := CC_callp 107 args H rfl
theorem live108 : CC.live 108 = false := rfl
@[go_sem] theorem call108 (args : List PV) (H : Heap) : dCall CC 108 args H = pureCall CC 108 args H := CC_callp 108 args H rfl
theorem live109 : CC.live 109 = false := rfl
@[go_sem] theorem call109 (args : List PV) (H : Heap) : dCall CC 109 args H = pureCall CC 109 args H := CC_callp 109 args H rfl
theorem live110 : CC.live 110 = false := rfl
@[go_sem] theorem call110 (args : List PV) (H : Heap) : dCall CC 110 args H = pureCall CC 110 args H := CC_callp 110 args H rfl
theorem live111 : CC.live 111 = false := rfl
@[go_sem] theorem call111 (args : List PV) (H : Heap) : dCall CC 111 args H = pureCall CC 111 args H := CC_callp 111 args H rfl
theorem live112 : CC.live 112 = false := rfl
@[go_sem] theorem call112 (args : List PV) (H : Heap) : dCall CC 112 args H = pureCall CC 112 args H := CC_callp 112 args H rfl
theorem live113 : CC.live 113 = false := rfl
@[go_sem] theorem call113 (args : List PV) (H : Heap) : dCall CC 113 args H = pureCall CC 113 args H := CC_callp 113 args H rfl
theorem live114 : CC.live 114 = false := rfl
@[go_sem] theorem call114 (args : List PV) (H : Heap) : dCall CC 114 args H = pureCall CC 114 args H := CC_callp 114 args H rfl
theorem live115 : CC.live 115 = false := rfl
@[go_sem] theorem call115 (args : List PV) (H : Heap) : dCall CC 115 args H = pureCall CC 115 args H := CC_callp 115 args H rfl
theorem live116 : CC.live 116 = false := rfl
@[go_sem] theorem call116 (args : List PV) (H : Heap) : dCall CC 116 args H = pureCall CC 116 args H := CC_callp 116 args H rfl
theorem live117 : CC.live 117 = false := rfl
@[go_sem] theorem call117 (args : List PV) (H : Heap) : dCall CC 117 args H = pureCall CC 117 args H := CC_callp 117 args H rfl
theorem live118 : CC.live 118 = false := rfl
@[go_sem] theorem call118 (args : List PV) (H : Heap) : dCall CC 118 args H = pureCall CC 118 args H := CC_callp 118 args H rfl
theorem live119 : CC.live 119 = false := rfl
@[go_sem] theorem call119 (args : List PV) (H : Heap) : dCall CC 119 args H = pureCall CC 119 args H := CC_callp 119 args H rfl
theorem live120 : CC.live 120 = false := rfl
@[go_sem] theorem call120 (args : List PV) (H : Heap) : dCall CC 120 args H = pureCall CC 120 args H := CC_callp 120 args H rfl
theorem live121 : CC.live 121 = false := rfl
@[go_sem] theorem call121 (args : List PV) (H : Heap) : dCall CC 121 args H = pureCall CC 121 args H := CC_callp 121 args H rfl
theorem live122 : CC.live 122 = false := rfl
@[go_sem] theorem call122 (args : List PV) (H : Heap) : dCall CC 122 args H = pureCall CC 122 args H := CC_callp 122 args H rfl
theorem live123 : CC.live 123 = false := rfl
@[go_sem] theorem call123 (args : List PV) (H : Heap) : dCall CC 123 args H = pureCall CC 123 args H := CC_callp 123 args H rfl
theorem live124 : CC.live 124 = false := rfl
@[go_sem] theorem call124 (args : List PV) (H : Heap) : dCall CC 124 args H = pureCall CC 124 args H := CC_callp 124 args H rfl
theorem live125 : CC.live 125 = false := rfl
@[go_sem] theorem call125 (args : List PV) (H : Heap) : dCall CC 125 args H = pureCall CC 125 args H := CC_callp 125 args H rfl
theorem live126 : CC.live 126 = false := rfl
@[go_sem] theorem call126 (args : List PV) (H : Heap) : dCall CC 126 args H = pureCall CC 126 args H := CC_callp 126 args H rfl
theorem live127 : CC.live 127 = false := rfl
@[go_sem] theorem call127 (args : List PV) (H : Heap) : dCall CC 127 args H = pureCall CC 127 args H := CC_callp 127 args H rfl
theorem live128 : CC.live 128 = false := rfl
@[go_sem] theorem call128 (args : List PV) (H : Heap) : dCall CC 128 args H = pureCall CC 128 args H := CC_callp 128 args H rfl
theorem live129 : CC.live 129 = false := rfl
@[go_sem] theorem call129 (args : List PV) (H : Heap) : dCall CC 129 args H = pureCall CC 129 args H := CC_callp 129 args H rfl
theorem live130 : CC.live 130 = false := rfl
@[go_sem] theorem call130 (args : List PV) (H : Heap) : dCall CC 130 args H = pureCall CC 130 args H := CC_callp 130 args H rfl
theorem live131 : CC.live 131 = false := rfl
@[go_sem] theorem call131 (args : List PV) (H : Heap) : dCall CC 131 args H = pureCall CC 131 args H := CC_callp 131 args H rfl
theorem live132 : CC.live 132 = false := rfl
@[go_sem] theorem call132 (args : List PV) (H : Heap) : dCall CC 132 args H = pureCall CC 132 args H := CC_callp 132 args H rfl
theorem live133 : CC.live 133 = false := rfl
@[go_sem] theorem call133 (args : List PV) (H : Heap) : dCall CC 133 args H = pureCall CC 133 args H := CC_callp 133 args H rfl
theorem live134 : CC.live 134 = false := rfl
@[go_sem] theorem call134 (args : List PV) (H : Heap) : dCall CC 134 args H = pureCall CC 134 args H := CC_callp 134 args H rfl
theorem live135 : CC.live 135 = false := rfl
@[go_sem] theorem call135 (args : List PV) (H : Heap) : dCall CC 135 args H = pureCall CC 135 args H := CC_callp 135 args H rfl
theorem live136 : CC.live 136 = false := rfl
@[go_sem] theorem call136 (args : List PV) (H : Heap) : dCall CC 136 args H = pureCall CC 136 args H := CC_callp 136 args H rfl
theorem live137 : CC.live 137 = false := rfl
@[go_sem] theorem call137 (args : List PV) (H : Heap) : dCall CC 137 args H = pureCall CC 137 args H := CC_callp 137 args H rfl
theorem live138 : CC.live 138 = false := rfl
@[go_sem] theorem call138 (args : List PV) (H : Heap) : dCall CC 138 args H = pureCall CC 138 args H := CC_callp 138 args H rfl
theorem live139 : CC.live 139 = false := rfl
@[go_sem] theorem call139 (args : List PV) (H : Heap) : dCall CC 139 args H = pureCall CC 139 args H := CC_callp 139 args H rfl
theorem live140 : CC.live 140 = false := rfl
@[go_sem] theorem call140 (args : List PV) (H : Heap) : dCall CC 140 args H = pureCall CC 140 args H := CC_callp 140 args H rfl
theorem live141 : CC.live 141 = false := rfl
@[go_sem] theorem call141 (args : List PV) (H : Heap) : dCall CC 141 args H = pureCall CC 141 args H := CC_callp 141 args H rfl
theorem live142 : CC.live 142 = false := rfl
@[go_sem] theorem call142 (args : List PV) (H : Heap) : dCall CC 142 args H = pureCall CC 142 args H := CC_callp 142 args H rfl
theorem live143 : CC.live 143 = false := rfl
@[go_sem] theorem call143 (args : List PV) (H : Heap) : dCall CC 143 args H = pureCall CC 143 args H := CC_callp 143 args H rfl
theorem live144 : CC.live 144 = false := rfl
@[go_sem] theorem call144 (args : List PV) (H : Heap) : dCall CC 144 args H = pureCall CC 144 args H := CC_callp 144 args H rfl
theorem live145 : CC.live 145 = false := rfl
@[go_sem] theorem call145 (args : List PV) (H : Heap) : dCall CC 145 args H = pureCall CC 145 args H := CC_callp 145 args H rfl
theorem live146 : CC.live 146 = false := rfl
@[go_sem] theorem call146 (args : List PV) (H : Heap) : dCall CC 146 args H = pureCall CC 146 args H := CC_callp 146 args H rfl
theorem live147 : CC.live 147 = false := rfl
@[go_sem] theorem call147 (args : List PV) (H : Heap) : dCall CC 147 args H = pureCall CC 147 args H := CC_callp 147 args H rfl
theorem live148 : CC.live 148 = false := rfl
@[go_sem] theorem call148 (args : List PV) (H : Heap) : dCall CC 148 args H = pureCall CC 148 args H := CC_callp 148 args H rfl
theorem live149 : CC.live 149 = false := rfl
@[go_sem] theorem call149 (args : List PV) (H : Heap) : dCall CC 149 args H = pureCall CC 149 args H := CC_callp 149 args H rfl
theorem live150 : CC.live 150 = false := rfl
@[go_sem] theorem call150 (args : List PV) (H : Heap) : dCall CC 150 args H = pureCall CC 150 args H := CC_callp 150 args H rfl
theorem live151 : CC.live 151 = false := rfl
@[go_sem] theorem call151 (args : List PV) (H : Heap) : dCall CC 151 args H = pureCall CC 151 args H := CC_callp 151 args H rfl
theorem live152 : CC.live 152 = false := rfl
@[go_sem] theorem call152 (args : List PV) (H : Heap) : dCall CC 152 args H = pureCall CC 152 args H := CC_callp 152 args H rfl
theorem live153 : CC.live 153 = false := rfl
@[go_sem] theorem call153 (args : List PV) (H : Heap) : dCall CC 153 args H = pureCall CC 153 args H := CC_callp 153 args H rfl
theorem live154 : CC.live 154 = false := rfl
@[go_sem] theorem call154 (args : List PV) (H : Heap) : dCall CC 154 args H = pureCall CC 154 args H := CC_callp 154 args H rfl
theorem live155 : CC.live 155 = false := rfl
@[go_sem] theorem call155 (args : List PV) (H : Heap) : dCall CC 155 args H = pureCall CC 155 args H := CC_callp 155 args H rfl
theorem live156 : CC.live 156 = false := rfl
@[go_sem] theorem call156 (args : List PV) (H : Heap) : dCall CC 156 args H = pureCall CC 156 args H := CC_callp 156 args H rfl
theorem live157 : CC.live 157 = false := rfl
@[go_sem] theorem call157 (args : List PV) (H : Heap) : dCall CC 157 args H = pureCall CC 157 args H := CC_callp 157 args H rfl
theorem live158 : CC.live 158 = false := rfl
@[go_sem] theorem call158 (args : List PV) (H : Heap) : dCall CC 158 args H = pureCall CC 158 args H := CC_callp 158 args H rfl
theorem live159 : CC.live 159 = false := rfl
@[go_sem] theorem call159 (args : List PV) (H : Heap) : dCall CC 159 args H = pureCall CC 159 args H := CC_callp 159 args H rfl
theorem live160 : CC.live 160 = false := rfl
@[go_sem] theorem call160 (args : List PV) (H : Heap) : dCall CC 160 args H = pureCall CC 160 args H := CC_callp 160 args H rfl
theorem live161 : CC.live 161 = false := rfl
@[go_sem] theorem call161 (args : List PV) (H : Heap) : dCall CC 161 args H = pureCall CC 161 args H := CC_callp 161 args H rfl
theorem live162 : CC.live 162 = false := rfl
@[go_sem] theorem call162 (args : List PV) (H : Heap) : dCall CC 162 args H = pureCall CC 162 args H := CC_callp 162 args H rfl
theorem live163 : CC.live 163 = false := rfl
@[go_sem] theorem call163 (args : List PV) (H : Heap) : dCall CC 163 args H = pureCall CC 163 args H := CC_callp 163 args H rfl
theorem live164 : CC.live 164 = false := rfl
@[go_sem] theorem call164 (args : List PV) (H : Heap) : dCall CC 164 args H = pureCall CC 164 args H := CC_callp 164 args H rfl
theorem live165 : CC.live 165 = false := rfl
@[go_sem] theorem call165 (args : List PV) (H : Heap) : dCall CC 165 args H = pureCall CC 165 args H := CC_callp 165 args H rfl
theorem live166 : CC.live 166 = false := rfl
@[go_sem] theorem call166 (args : List PV) (H : Heap) : dCall CC 166 args H = pureCall CC 166 args H := CC_callp 166 args H rfl
theorem live167 : CC.live 167 = false := rfl
@[go_sem] theorem call167 (args : List PV) (H : Heap) : dCall CC 167 args H = pureCall CC 167 args H := CC_callp 167 args H rfl
theorem live168 : CC.live 168 = false := rfl
@[go_sem] theorem call168 (args : List PV) (H : Heap) : dCall CC 168 args H = pureCall CC 168 args H := CC_callp 168 args H rfl
theorem live169 : CC.live 169 = false := rfl
@[go_sem] theorem call169 (args : List PV) (H : Heap) : dCall CC 169 args H = pureCall CC 169 args H := CC_callp 169 args H rfl
theorem live170 : CC.live 170 = false := rfl
@[go_sem] theorem call170 (args : List PV) (H : Heap) : dCall CC 170 args H = pureCall CC 170 args H := CC_callp 170 args H rfl
theorem live171 : CC.live 171 = false := rfl
@[go_sem] theorem call171 (args : List PV) (H : Heap) : dCall CC 171 args H = pureCall CC 171 args H := CC_callp 171 args H rfl
theorem live172 : CC.live 172 = false := rfl
@[go_sem] theorem call172 (args : List PV) (H : Heap) : dCall CC 172 args H = pureCall CC 172 args H := CC_callp 172 args H rfl
theorem live173 : CC.live 173 = false := rfl
@[go_sem] theorem call173 (args : List PV) (H : Heap) : dCall CC 173 args H = pureCall CC 173 args H := CC_callp 173 args H rfl
theorem live174 : CC.live 174 = false := rfl
@[go_sem] theorem call174 (args : List PV) (H : Heap) : dCall CC 174 args H = pureCall CC 174 args H := CC_callp 174 args H rfl
theorem live175 : CC.live 175 = false := rfl
@[go_sem] theorem call175 (args : List PV) (H : Heap) : dCall CC 175 args H = pureCall CC 175 args H := CC_callp 175 args H rfl
theorem live176 : CC.live 176 = false := rfl
@[go_sem] theorem call176 (args : List PV) (H : Heap) : dCall CC 176 args H = pureCall CC 176 args H := CC_callp 176 args H rfl
theorem live177 : CC.live 177 = false := rfl
@[go_sem] theorem call177 (args : List PV) (H : Heap) : dCall CC 177 args H = pureCall CC 177 args H := CC_callp 177 args H rfl
theorem live178 : CC.live 178 = false := rfl
@[go_sem] theorem call178 (args : List PV) (H : Heap) : dCall CC 178 args H = pureCall CC 178 args H := CC_callp 178 args H rfl
theorem live179 : CC.live 179 = false := rfl
@[go_sem] theorem call179 (args : List PV) (H : Heap) : dCall CC 179 args H = pureCall CC 179 args H := CC_callp 179 args H rfl
theorem live180 : CC.live 180 = false := rfl
@[go_sem] theorem call180 (args : List PV) (H : Heap) : dCall CC 180 args H = pureCall CC 180 args H := CC_callp 180 args H rfl
theorem live181 : CC.live 181 = false := rfl
@[go_sem] theorem call181 (args : List PV) (H : Heap) : dCall CC 181 args H = pureCall CC 181 args H := CC_callp 181 args H rfl
theorem live182 : CC.live 182 = false := rfl
@[go_sem] theorem call182 (args : List PV) (H : Heap) : dCall CC 182 args H = pureCall CC 182 args H := CC_callp 182 args H rfl
theorem live183 : CC.live 183 = false := rfl
@[go_sem] theorem call183 (args : List PV) (H : Heap) : dCall CC 183 args H = pureCall CC 183 args H := CC_callp 183 args H rfl
theorem live184 : CC.live 184 = false := rfl
@[go_sem] theorem call184 (args : List PV) (H : Heap) : dCall CC 184 args H = pureCall CC 184 args H := CC_callp 184 args H rfl
theorem live185 : CC.live 185 = false := rfl
@[go_sem] theorem call185 (args : List PV) (H : Heap) : dCall CC 185 args H = pureCall CC 185 args H := CC_callp 185 args H rfl
theorem live186 : CC.live 186 = false := rfl
@[go_sem] theorem call186 (args : List PV) (H : Heap) : dCall CC 186 args H = pureCall CC 186 args H := CC_callp 186 args H rfl
theorem live187 : CC.live 187 = false := rfl
@[go_sem] theorem call187 (args : List PV) (H : Heap) : dCall CC 187 args H = pureCall CC 187 args H := CC_callp 187 args H rfl
theorem live188 : CC.live 188 = false := rfl
@[go_sem] theorem call188 (args : List PV) (H : Heap) : dCall CC 188 args H = pureCall CC 188 args H := CC_callp 188 args H rfl
theorem live189 : CC.live 189 = false := rfl
@[go_sem] theorem call189 (args : List PV) (H : Heap) : dCall CC 189 args H = pureCall CC 189 args H := CC_callp 189 args H rfl
theorem live190 : CC.live 190 = false := rfl
@[go_sem] theorem call190 (args : List PV) (H : Heap) : dCall CC 190 args H = pureCall CC 190 args H := CC_callp 190 args H rfl
theorem live191 : CC.live 191 = false := rfl
@[go_sem] theorem call191 (args : List PV) (H : Heap) : dCall CC 191 args H = pureCall CC 191 args H := CC_callp 191 args H rfl
theorem live192 : CC.live 192 = false := rfl
@[go_sem] theorem call192 (args : List PV) (H : Heap) : dCall CC 192 args H = pureCall CC 192 args H := CC_callp 192 args H rfl
theorem live193 : CC.live 193 = false := rfl
@[go_sem] theorem call193 (args : List PV) (H : Heap) : dCall CC 193 args H = pureCall CC 193 args H := CC_callp 193 args H rfl
theorem live194 : CC.live 194 = false := rfl
@[go_sem] theorem call194 (args : List PV) (H : Heap) : dCall CC 194 args H = pureCall CC 194 args H := CC_callp 194 args H rfl
theorem live195 : CC.live 195 = false := rfl
@[go_sem] theorem call195 (args : List PV) (H : Heap) : dCall CC 195 args H = pureCall CC 195 args H := CC_callp 195 args H rfl
theorem live196 : CC.live 196 = false := rfl
@[go_sem] theorem call196 (args : List PV) (H : Heap) : dCall CC 196 args H = pureCall CC 196 args H := CC_callp 196 args H rfl
theorem live197 : CC.live 197 = false := rfl
@[go_sem] theorem call197 (args : List PV) (H : Heap) : dCall CC 197 args H = pureCall CC 197 args H := CC_callp 197 args H rfl
theorem live198 : CC.live 198 = false := rfl
@[go_sem] theorem call198 (args : List PV) (H : Heap) : dCall CC 198 args H = pureCall CC 198 args H := CC_callp 198 args H rfl
theorem live199 : CC.live 199 = false := rfl
@[go_sem] theorem call199 (args : List PV) (H : Heap) : dCall CC 199 args H = pureCall CC 199 args H := CC_callp 199 args H rfl
theorem live200 : CC.live 200 = false := rfl
@[go_sem] theorem call200 (args : List PV) (H : Heap) : dCall CC 200 args H = pureCall CC 200 args H := CC_callp 200 args H rfl
end Go.Proofs.YtdlkndnlpgmdaaaGreat.V
