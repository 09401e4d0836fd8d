/- The facts of the types of this seat. No condition. -/
import Derived.Test.YtdlkndnlpgmdaaaGreatVEqs
import Derived.Test.YtdlkndnlpgmdaaaGreatProg
import Derived.KernelRfl
/-! The facts of the types of this seat, as V asks for them. -/
namespace Go.Proofs.YtdlkndnlpgmdaaaGreat.V
open Go Go.V Go.Proofs
@[go_sem] theorem tk2 : tyKind Tryz.prog 2 = (TyKind.int IntKind.i64) := by kernel_rfl
@[go_sem] theorem ti2 : tyInfo Tryz.prog 2 = some (false, 1) := by kernel_rfl
@[go_sem] theorem tb2 : tyBytes Tryz.prog 2 = 8 := by kernel_rfl
@[go_sem] theorem tz2 : tyZero Tryz.prog 2 = some (PV.int IntKind.i64 0) := by kernel_rfl
@[go_sem] theorem tk3 : tyKind Tryz.prog 3 = (TyKind.int IntKind.i64) := by kernel_rfl
@[go_sem] theorem ti3 : tyInfo Tryz.prog 3 = some (false, 1) := by kernel_rfl
@[go_sem] theorem tb3 : tyBytes Tryz.prog 3 = 8 := by kernel_rfl
@[go_sem] theorem tz3 : tyZero Tryz.prog 3 = some (PV.int IntKind.i64 0) := by kernel_rfl
@[go_sem] theorem tk4 : tyKind Tryz.prog 4 = TyKind.bool := by kernel_rfl
@[go_sem] theorem ti4 : tyInfo Tryz.prog 4 = some (false, 1) := by kernel_rfl
@[go_sem] theorem tb4 : tyBytes Tryz.prog 4 = 1 := by kernel_rfl
@[go_sem] theorem tz4 : tyZero Tryz.prog 4 = some (PV.bool false) := by kernel_rfl
@[go_sem] theorem tk5 : tyKind Tryz.prog 5 = (TyKind.int IntKind.u8) := by kernel_rfl
@[go_sem] theorem ti5 : tyInfo Tryz.prog 5 = some (false, 1) := by kernel_rfl
@[go_sem] theorem tb5 : tyBytes Tryz.prog 5 = 1 := by kernel_rfl
@[go_sem] theorem tz5 : tyZero Tryz.prog 5 = some (PV.int IntKind.u8 0) := by kernel_rfl
@[go_sem] theorem tk9 : tyKind Tryz.prog 9 = TyKind.str := by kernel_rfl
@[go_sem] theorem ti9 : tyInfo Tryz.prog 9 = some (false, 1) := by kernel_rfl
@[go_sem] theorem tb9 : tyBytes Tryz.prog 9 = 16 := by kernel_rfl
@[go_sem] theorem tz9 : tyZero Tryz.prog 9 = some (PV.str []) := by kernel_rfl
@[go_sem] theorem tk12 : tyKind Tryz.prog 12 = (TyKind.int IntKind.u64) := by kernel_rfl
@[go_sem] theorem ti12 : tyInfo Tryz.prog 12 = some (false, 1) := by kernel_rfl
@[go_sem] theorem tb12 : tyBytes Tryz.prog 12 = 8 := by kernel_rfl
@[go_sem] theorem tz12 : tyZero Tryz.prog 12 = some (PV.int IntKind.u64 0) := by kernel_rfl
@[go_sem] theorem tk21 : tyKind Tryz.prog 21 = (TyKind.int IntKind.i32) := by kernel_rfl
@[go_sem] theorem ti21 : tyInfo Tryz.prog 21 = some (false, 1) := by kernel_rfl
@[go_sem] theorem tb21 : tyBytes Tryz.prog 21 = 4 := by kernel_rfl
@[go_sem] theorem tz21 : tyZero Tryz.prog 21 = some (PV.int IntKind.i32 0) := by kernel_rfl
@[go_sem] theorem tk22 : tyKind Tryz.prog 22 = (TyKind.slice 119) := by kernel_rfl
@[go_sem] theorem ti22 : tyInfo Tryz.prog 22 = some (false, 1) := by kernel_rfl
@[go_sem] theorem tb22 : tyBytes Tryz.prog 22 = 24 := by kernel_rfl
@[go_sem] theorem tz22 : tyZero Tryz.prog 22 = some (PV.slice true []) := by kernel_rfl
@[go_sem] theorem tk23 : tyKind Tryz.prog 23 = (TyKind.slice 129) := by kernel_rfl
@[go_sem] theorem ti23 : tyInfo Tryz.prog 23 = some (false, 1) := by kernel_rfl
@[go_sem] theorem tb23 : tyBytes Tryz.prog 23 = 24 := by kernel_rfl
@[go_sem] theorem tz23 : tyZero Tryz.prog 23 = some (PV.slice true []) := by kernel_rfl
@[go_sem] theorem tk24 : tyKind Tryz.prog 24 = (TyKind.slice 133) := by kernel_rfl
@[go_sem] theorem ti24 : tyInfo Tryz.prog 24 = some (false, 1) := by kernel_rfl
@[go_sem] theorem tb24 : tyBytes Tryz.prog 24 = 24 := by kernel_rfl
@[go_sem] theorem tz24 : tyZero Tryz.prog 24 = some (PV.slice true []) := by kernel_rfl
@[go_sem] theorem tk26 : tyKind Tryz.prog 26 = TyKind.struct := by kernel_rfl
@[go_sem] theorem ti26 : tyInfo Tryz.prog 26 = some (true, 3) := by kernel_rfl
@[go_sem] theorem tb26 : tyBytes Tryz.prog 26 = 72 := by kernel_rfl
@[go_sem] theorem tz26 : tyZero Tryz.prog 26 = some (PV.agg [(PV.slice true []), (PV.slice true []), (PV.slice true [])]) := by kernel_rfl
@[go_sem] theorem tf26_0 : tyField Tryz.prog 26 0 = some (0, false, 1) := by kernel_rfl
@[go_sem] theorem tf26_1 : tyField Tryz.prog 26 1 = some (1, false, 1) := by kernel_rfl
@[go_sem] theorem tf26_2 : tyField Tryz.prog 26 2 = some (2, false, 1) := by kernel_rfl
@[go_sem] theorem tu26 : tyBuild Tryz.prog 26 = some ([(PV.slice true []), (PV.slice true []), (PV.slice true [])], [(0, 1), (1, 1), (2, 1)]) := by kernel_rfl
@[go_sem] theorem tk29 : tyKind Tryz.prog 29 = (TyKind.slice 89) := by kernel_rfl
@[go_sem] theorem ti29 : tyInfo Tryz.prog 29 = some (false, 1) := by kernel_rfl
@[go_sem] theorem tb29 : tyBytes Tryz.prog 29 = 24 := by kernel_rfl
@[go_sem] theorem tz29 : tyZero Tryz.prog 29 = some (PV.slice true []) := by kernel_rfl
@[go_sem] theorem tk30 : tyKind Tryz.prog 30 = (TyKind.slice 76) := by kernel_rfl
@[go_sem] theorem ti30 : tyInfo Tryz.prog 30 = some (false, 1) := by kernel_rfl
@[go_sem] theorem tb30 : tyBytes Tryz.prog 30 = 24 := by kernel_rfl
@[go_sem] theorem tz30 : tyZero Tryz.prog 30 = some (PV.slice true []) := by kernel_rfl
@[go_sem] theorem tk31 : tyKind Tryz.prog 31 = (TyKind.slice 79) := by kernel_rfl
@[go_sem] theorem ti31 : tyInfo Tryz.prog 31 = some (false, 1) := by kernel_rfl
@[go_sem] theorem tb31 : tyBytes Tryz.prog 31 = 24 := by kernel_rfl
@[go_sem] theorem tz31 : tyZero Tryz.prog 31 = some (PV.slice true []) := by kernel_rfl
@[go_sem] theorem tk33 : tyKind Tryz.prog 33 = TyKind.struct := by kernel_rfl
@[go_sem] theorem ti33 : tyInfo Tryz.prog 33 = some (true, 3) := by kernel_rfl
@[go_sem] theorem tb33 : tyBytes Tryz.prog 33 = 72 := by kernel_rfl
@[go_sem] theorem tz33 : tyZero Tryz.prog 33 = some (PV.agg [(PV.slice true []), (PV.slice true []), (PV.slice true [])]) := by kernel_rfl
@[go_sem] theorem tf33_0 : tyField Tryz.prog 33 0 = some (0, false, 1) := by kernel_rfl
@[go_sem] theorem tf33_1 : tyField Tryz.prog 33 1 = some (1, false, 1) := by kernel_rfl
@[go_sem] theorem tf33_2 : tyField Tryz.prog 33 2 = some (2, false, 1) := by kernel_rfl
@[go_sem] theorem tu33 : tyBuild Tryz.prog 33 = some ([(PV.slice true []), (PV.slice true []), (PV.slice true [])], [(0, 1), (1, 1), (2, 1)]) := by kernel_rfl
@[go_sem] theorem tk36 : tyKind Tryz.prog 36 = (TyKind.slice 161) := by kernel_rfl
@[go_sem] theorem ti36 : tyInfo Tryz.prog 36 = some (false, 1) := by kernel_rfl
@[go_sem] theorem tb36 : tyBytes Tryz.prog 36 = 24 := by kernel_rfl
@[go_sem] theorem tz36 : tyZero Tryz.prog 36 = some (PV.slice true []) := by kernel_rfl
@[go_sem] theorem tk37 : tyKind Tryz.prog 37 = (TyKind.slice 269) := by kernel_rfl
@[go_sem] theorem ti37 : tyInfo Tryz.prog 37 = some (false, 1) := by kernel_rfl
@[go_sem] theorem tb37 : tyBytes Tryz.prog 37 = 24 := by kernel_rfl
@[go_sem] theorem tz37 : tyZero Tryz.prog 37 = some (PV.slice true []) := by kernel_rfl
@[go_sem] theorem tk38 : tyKind Tryz.prog 38 = (TyKind.slice 274) := by kernel_rfl
@[go_sem] theorem ti38 : tyInfo Tryz.prog 38 = some (false, 1) := by kernel_rfl
@[go_sem] theorem tb38 : tyBytes Tryz.prog 38 = 24 := by kernel_rfl
@[go_sem] theorem tz38 : tyZero Tryz.prog 38 = some (PV.slice true []) := by kernel_rfl
@[go_sem] theorem tk40 : tyKind Tryz.prog 40 = TyKind.struct := by kernel_rfl
@[go_sem] theorem ti40 : tyInfo Tryz.prog 40 = some (true, 3) := by kernel_rfl
@[go_sem] theorem tb40 : tyBytes Tryz.prog 40 = 56 := by kernel_rfl
@[go_sem] theorem tz40 : tyZero Tryz.prog 40 = some (PV.agg [(PV.int IntKind.i64 0), (PV.slice true []), (PV.slice true [])]) := by kernel_rfl
@[go_sem] theorem tf40_0 : tyField Tryz.prog 40 0 = some (0, false, 1) := by kernel_rfl
@[go_sem] theorem tf40_1 : tyField Tryz.prog 40 1 = some (1, false, 1) := by kernel_rfl
@[go_sem] theorem tf40_2 : tyField Tryz.prog 40 2 = some (2, false, 1) := by kernel_rfl
@[go_sem] theorem tu40 : tyBuild Tryz.prog 40 = some ([(PV.int IntKind.i64 0), (PV.slice true []), (PV.slice true [])], [(0, 1), (1, 1), (2, 1)]) := by kernel_rfl
@[go_sem] theorem tk41 : tyKind Tryz.prog 41 = (TyKind.slice 214) := by kernel_rfl
@[go_sem] theorem ti41 : tyInfo Tryz.prog 41 = some (false, 1) := by kernel_rfl
@[go_sem] theorem tb41 : tyBytes Tryz.prog 41 = 24 := by kernel_rfl
@[go_sem] theorem tz41 : tyZero Tryz.prog 41 = some (PV.slice true []) := by kernel_rfl
@[go_sem] theorem tk42 : tyKind Tryz.prog 42 = (TyKind.slice 2) := by kernel_rfl
@[go_sem] theorem ti42 : tyInfo Tryz.prog 42 = some (false, 1) := by kernel_rfl
@[go_sem] theorem tb42 : tyBytes Tryz.prog 42 = 24 := by kernel_rfl
@[go_sem] theorem tz42 : tyZero Tryz.prog 42 = some (PV.slice true []) := by kernel_rfl
@[go_sem] theorem tk44 : tyKind Tryz.prog 44 = TyKind.struct := by kernel_rfl
@[go_sem] theorem ti44 : tyInfo Tryz.prog 44 = some (true, 6) := by kernel_rfl
@[go_sem] theorem tb44 : tyBytes Tryz.prog 44 = 112 := by kernel_rfl
@[go_sem] theorem tz44 : tyZero Tryz.prog 44 = some (PV.agg [(PV.int IntKind.i64 0), (PV.slice true []), (PV.slice true []), (PV.slice true []), (PV.int IntKind.i64 0), (PV.slice true [])]) := by kernel_rfl
@[go_sem] theorem tf44_0 : tyField Tryz.prog 44 0 = some (0, true, 3) := by kernel_rfl
@[go_sem] theorem tf44_1 : tyField Tryz.prog 44 1 = some (3, false, 1) := by kernel_rfl
@[go_sem] theorem tf44_2 : tyField Tryz.prog 44 2 = some (4, false, 1) := by kernel_rfl
@[go_sem] theorem tf44_3 : tyField Tryz.prog 44 3 = some (5, false, 1) := by kernel_rfl
@[go_sem] theorem tu44 : tyBuild Tryz.prog 44 = some ([(PV.int IntKind.i64 0), (PV.slice true []), (PV.slice true []), (PV.slice true []), (PV.int IntKind.i64 0), (PV.slice true [])], [(0, 3), (3, 1), (4, 1), (5, 1)]) := by kernel_rfl
@[go_sem] theorem tk45 : tyKind Tryz.prog 45 = (TyKind.slice 166) := by kernel_rfl
@[go_sem] theorem ti45 : tyInfo Tryz.prog 45 = some (false, 1) := by kernel_rfl
@[go_sem] theorem tb45 : tyBytes Tryz.prog 45 = 24 := by kernel_rfl
@[go_sem] theorem tz45 : tyZero Tryz.prog 45 = some (PV.slice true []) := by kernel_rfl
@[go_sem] theorem tk47 : tyKind Tryz.prog 47 = TyKind.struct := by kernel_rfl
@[go_sem] theorem ti47 : tyInfo Tryz.prog 47 = some (true, 12) := by kernel_rfl
@[go_sem] theorem tb47 : tyBytes Tryz.prog 47 = 240 := by kernel_rfl
@[go_sem] theorem tz47 : tyZero Tryz.prog 47 = some (PV.agg [(PV.slice true []), (PV.slice true []), (PV.slice true []), (PV.bool false), (PV.slice true []), (PV.int IntKind.i64 0), (PV.slice true []), (PV.slice true []), (PV.slice true []), (PV.int IntKind.i64 0), (PV.slice true []), (PV.slice true [])]) := by kernel_rfl
@[go_sem] theorem tf47_0 : tyField Tryz.prog 47 0 = some (0, true, 3) := by kernel_rfl
@[go_sem] theorem tf47_1 : tyField Tryz.prog 47 1 = some (3, false, 1) := by kernel_rfl
@[go_sem] theorem tf47_2 : tyField Tryz.prog 47 2 = some (4, false, 1) := by kernel_rfl
@[go_sem] theorem tf47_3 : tyField Tryz.prog 47 3 = some (5, true, 6) := by kernel_rfl
@[go_sem] theorem tf47_4 : tyField Tryz.prog 47 4 = some (11, false, 1) := by kernel_rfl
@[go_sem] theorem tu47 : tyBuild Tryz.prog 47 = some ([(PV.slice true []), (PV.slice true []), (PV.slice true []), (PV.bool false), (PV.slice true []), (PV.int IntKind.i64 0), (PV.slice true []), (PV.slice true []), (PV.slice true []), (PV.int IntKind.i64 0), (PV.slice true []), (PV.slice true [])], [(0, 3), (3, 1), (4, 1), (5, 6), (11, 1)]) := by kernel_rfl
@[go_sem] theorem tk50 : tyKind Tryz.prog 50 = (TyKind.slice 104) := by kernel_rfl
@[go_sem] theorem ti50 : tyInfo Tryz.prog 50 = some (false, 1) := by kernel_rfl
@[go_sem] theorem tb50 : tyBytes Tryz.prog 50 = 24 := by kernel_rfl
@[go_sem] theorem tz50 : tyZero Tryz.prog 50 = some (PV.slice true []) := by kernel_rfl
@[go_sem] theorem tk51 : tyKind Tryz.prog 51 = (TyKind.slice 219) := by kernel_rfl
@[go_sem] theorem ti51 : tyInfo Tryz.prog 51 = some (false, 1) := by kernel_rfl
@[go_sem] theorem tb51 : tyBytes Tryz.prog 51 = 24 := by kernel_rfl
@[go_sem] theorem tz51 : tyZero Tryz.prog 51 = some (PV.slice true []) := by kernel_rfl
@[go_sem] theorem tk52 : tyKind Tryz.prog 52 = (TyKind.slice 216) := by kernel_rfl
@[go_sem] theorem ti52 : tyInfo Tryz.prog 52 = some (false, 1) := by kernel_rfl
@[go_sem] theorem tb52 : tyBytes Tryz.prog 52 = 24 := by kernel_rfl
@[go_sem] theorem tz52 : tyZero Tryz.prog 52 = some (PV.slice true []) := by kernel_rfl
@[go_sem] theorem tk54 : tyKind Tryz.prog 54 = TyKind.struct := by kernel_rfl
@[go_sem] theorem ti54 : tyInfo Tryz.prog 54 = some (true, 3) := by kernel_rfl
@[go_sem] theorem tb54 : tyBytes Tryz.prog 54 = 56 := by kernel_rfl
@[go_sem] theorem tz54 : tyZero Tryz.prog 54 = some (PV.agg [(PV.int IntKind.i64 0), (PV.slice true []), (PV.slice true [])]) := by kernel_rfl
@[go_sem] theorem tf54_0 : tyField Tryz.prog 54 0 = some (0, false, 1) := by kernel_rfl
@[go_sem] theorem tf54_1 : tyField Tryz.prog 54 1 = some (1, false, 1) := by kernel_rfl
@[go_sem] theorem tf54_2 : tyField Tryz.prog 54 2 = some (2, false, 1) := by kernel_rfl
@[go_sem] theorem tu54 : tyBuild Tryz.prog 54 = some ([(PV.int IntKind.i64 0), (PV.slice true []), (PV.slice true [])], [(0, 1), (1, 1), (2, 1)]) := by kernel_rfl
@[go_sem] theorem tk55 : tyKind Tryz.prog 55 = (TyKind.slice 170) := by kernel_rfl
@[go_sem] theorem ti55 : tyInfo Tryz.prog 55 = some (false, 1) := by kernel_rfl
@[go_sem] theorem tb55 : tyBytes Tryz.prog 55 = 24 := by kernel_rfl
@[go_sem] theorem tz55 : tyZero Tryz.prog 55 = some (PV.slice true []) := by kernel_rfl
@[go_sem] theorem tk57 : tyKind Tryz.prog 57 = TyKind.struct := by kernel_rfl
@[go_sem] theorem ti57 : tyInfo Tryz.prog 57 = some (true, 6) := by kernel_rfl
@[go_sem] theorem tb57 : tyBytes Tryz.prog 57 = 112 := by kernel_rfl
@[go_sem] theorem tz57 : tyZero Tryz.prog 57 = some (PV.agg [(PV.int IntKind.i64 0), (PV.slice true []), (PV.slice true []), (PV.slice true []), (PV.int IntKind.i64 0), (PV.slice true [])]) := by kernel_rfl
@[go_sem] theorem tf57_0 : tyField Tryz.prog 57 0 = some (0, true, 3) := by kernel_rfl
@[go_sem] theorem tf57_1 : tyField Tryz.prog 57 1 = some (3, false, 1) := by kernel_rfl
@[go_sem] theorem tf57_2 : tyField Tryz.prog 57 2 = some (4, false, 1) := by kernel_rfl
@[go_sem] theorem tf57_3 : tyField Tryz.prog 57 3 = some (5, false, 1) := by kernel_rfl
@[go_sem] theorem tu57 : tyBuild Tryz.prog 57 = some ([(PV.int IntKind.i64 0), (PV.slice true []), (PV.slice true []), (PV.slice true []), (PV.int IntKind.i64 0), (PV.slice true [])], [(0, 3), (3, 1), (4, 1), (5, 1)]) := by kernel_rfl
@[go_sem] theorem tk58 : tyKind Tryz.prog 58 = (TyKind.slice 106) := by kernel_rfl
@[go_sem] theorem ti58 : tyInfo Tryz.prog 58 = some (false, 1) := by kernel_rfl
@[go_sem] theorem tb58 : tyBytes Tryz.prog 58 = 24 := by kernel_rfl
@[go_sem] theorem tz58 : tyZero Tryz.prog 58 = some (PV.slice true []) := by kernel_rfl
@[go_sem] theorem tk60 : tyKind Tryz.prog 60 = TyKind.struct := by kernel_rfl
@[go_sem] theorem ti60 : tyInfo Tryz.prog 60 = some (true, 12) := by kernel_rfl
@[go_sem] theorem tb60 : tyBytes Tryz.prog 60 = 240 := by kernel_rfl
@[go_sem] theorem tz60 : tyZero Tryz.prog 60 = some (PV.agg [(PV.slice true []), (PV.slice true []), (PV.slice true []), (PV.bool false), (PV.slice true []), (PV.int IntKind.i64 0), (PV.slice true []), (PV.slice true []), (PV.slice true []), (PV.int IntKind.i64 0), (PV.slice true []), (PV.slice true [])]) := by kernel_rfl
@[go_sem] theorem tf60_0 : tyField Tryz.prog 60 0 = some (0, true, 3) := by kernel_rfl
@[go_sem] theorem tf60_1 : tyField Tryz.prog 60 1 = some (3, false, 1) := by kernel_rfl
@[go_sem] theorem tf60_2 : tyField Tryz.prog 60 2 = some (4, false, 1) := by kernel_rfl
@[go_sem] theorem tf60_3 : tyField Tryz.prog 60 3 = some (5, true, 6) := by kernel_rfl
@[go_sem] theorem tf60_4 : tyField Tryz.prog 60 4 = some (11, false, 1) := by kernel_rfl
@[go_sem] theorem tu60 : tyBuild Tryz.prog 60 = some ([(PV.slice true []), (PV.slice true []), (PV.slice true []), (PV.bool false), (PV.slice true []), (PV.int IntKind.i64 0), (PV.slice true []), (PV.slice true []), (PV.slice true []), (PV.int IntKind.i64 0), (PV.slice true []), (PV.slice true [])], [(0, 3), (3, 1), (4, 1), (5, 6), (11, 1)]) := by kernel_rfl
@[go_sem] theorem tk68 : tyKind Tryz.prog 68 = (TyKind.slice 190) := by kernel_rfl
@[go_sem] theorem ti68 : tyInfo Tryz.prog 68 = some (false, 1) := by kernel_rfl
@[go_sem] theorem tb68 : tyBytes Tryz.prog 68 = 24 := by kernel_rfl
@[go_sem] theorem tz68 : tyZero Tryz.prog 68 = some (PV.slice true []) := by kernel_rfl
@[go_sem] theorem tk69 : tyKind Tryz.prog 69 = (TyKind.slice 194) := by kernel_rfl
@[go_sem] theorem ti69 : tyInfo Tryz.prog 69 = some (false, 1) := by kernel_rfl
@[go_sem] theorem tb69 : tyBytes Tryz.prog 69 = 24 := by kernel_rfl
@[go_sem] theorem tz69 : tyZero Tryz.prog 69 = some (PV.slice true []) := by kernel_rfl
@[go_sem] theorem tk71 : tyKind Tryz.prog 71 = TyKind.struct := by kernel_rfl
@[go_sem] theorem ti71 : tyInfo Tryz.prog 71 = some (true, 3) := by kernel_rfl
@[go_sem] theorem tb71 : tyBytes Tryz.prog 71 = 56 := by kernel_rfl
@[go_sem] theorem tz71 : tyZero Tryz.prog 71 = some (PV.agg [(PV.int IntKind.i64 0), (PV.slice true []), (PV.slice true [])]) := by kernel_rfl
@[go_sem] theorem tf71_0 : tyField Tryz.prog 71 0 = some (0, false, 1) := by kernel_rfl
@[go_sem] theorem tf71_1 : tyField Tryz.prog 71 1 = some (1, false, 1) := by kernel_rfl
@[go_sem] theorem tf71_2 : tyField Tryz.prog 71 2 = some (2, false, 1) := by kernel_rfl
@[go_sem] theorem tu71 : tyBuild Tryz.prog 71 = some ([(PV.int IntKind.i64 0), (PV.slice true []), (PV.slice true [])], [(0, 1), (1, 1), (2, 1)]) := by kernel_rfl
@[go_sem] theorem tk72 : tyKind Tryz.prog 72 = (TyKind.slice 136) := by kernel_rfl
@[go_sem] theorem ti72 : tyInfo Tryz.prog 72 = some (false, 1) := by kernel_rfl
@[go_sem] theorem tb72 : tyBytes Tryz.prog 72 = 24 := by kernel_rfl
@[go_sem] theorem tz72 : tyZero Tryz.prog 72 = some (PV.slice true []) := by kernel_rfl
@[go_sem] theorem tk73 : tyKind Tryz.prog 73 = (TyKind.slice 138) := by kernel_rfl
@[go_sem] theorem ti73 : tyInfo Tryz.prog 73 = some (false, 1) := by kernel_rfl
@[go_sem] theorem tb73 : tyBytes Tryz.prog 73 = 24 := by kernel_rfl
@[go_sem] theorem tz73 : tyZero Tryz.prog 73 = some (PV.slice true []) := by kernel_rfl
@[go_sem] theorem tk74 : tyKind Tryz.prog 74 = (TyKind.slice 140) := by kernel_rfl
@[go_sem] theorem ti74 : tyInfo Tryz.prog 74 = some (false, 1) := by kernel_rfl
@[go_sem] theorem tb74 : tyBytes Tryz.prog 74 = 24 := by kernel_rfl
@[go_sem] theorem tz74 : tyZero Tryz.prog 74 = some (PV.slice true []) := by kernel_rfl
@[go_sem] theorem tk76 : tyKind Tryz.prog 76 = TyKind.struct := by kernel_rfl
@[go_sem] theorem ti76 : tyInfo Tryz.prog 76 = some (true, 12) := by kernel_rfl
@[go_sem] theorem tb76 : tyBytes Tryz.prog 76 = 224 := by kernel_rfl
@[go_sem] theorem tz76 : tyZero Tryz.prog 76 = some (PV.agg [(PV.str []), (PV.str []), (PV.slice true []), (PV.slice true []), (PV.int IntKind.i64 0), (PV.int IntKind.i64 0), (PV.int IntKind.i64 0), (PV.slice true []), (PV.slice true []), (PV.slice true []), (PV.slice true []), (PV.slice true [])]) := by kernel_rfl
@[go_sem] theorem tf76_0 : tyField Tryz.prog 76 0 = some (0, false, 1) := by kernel_rfl
@[go_sem] theorem tf76_1 : tyField Tryz.prog 76 1 = some (1, false, 1) := by kernel_rfl
@[go_sem] theorem tf76_2 : tyField Tryz.prog 76 2 = some (2, false, 1) := by kernel_rfl
@[go_sem] theorem tf76_3 : tyField Tryz.prog 76 3 = some (3, false, 1) := by kernel_rfl
@[go_sem] theorem tf76_4 : tyField Tryz.prog 76 4 = some (4, false, 1) := by kernel_rfl
@[go_sem] theorem tf76_5 : tyField Tryz.prog 76 5 = some (5, false, 1) := by kernel_rfl
@[go_sem] theorem tf76_6 : tyField Tryz.prog 76 6 = some (6, true, 3) := by kernel_rfl
@[go_sem] theorem tf76_7 : tyField Tryz.prog 76 7 = some (9, false, 1) := by kernel_rfl
@[go_sem] theorem tf76_8 : tyField Tryz.prog 76 8 = some (10, false, 1) := by kernel_rfl
@[go_sem] theorem tf76_9 : tyField Tryz.prog 76 9 = some (11, false, 1) := by kernel_rfl
@[go_sem] theorem tu76 : tyBuild Tryz.prog 76 = some ([(PV.str []), (PV.str []), (PV.slice true []), (PV.slice true []), (PV.int IntKind.i64 0), (PV.int IntKind.i64 0), (PV.int IntKind.i64 0), (PV.slice true []), (PV.slice true []), (PV.slice true []), (PV.slice true []), (PV.slice true [])], [(0, 1), (1, 1), (2, 1), (3, 1), (4, 1), (5, 1), (6, 3), (9, 1), (10, 1), (11, 1)]) := by kernel_rfl
@[go_sem] theorem tk77 : tyKind Tryz.prog 77 = (TyKind.slice 81) := by kernel_rfl
@[go_sem] theorem ti77 : tyInfo Tryz.prog 77 = some (false, 1) := by kernel_rfl
@[go_sem] theorem tb77 : tyBytes Tryz.prog 77 = 24 := by kernel_rfl
@[go_sem] theorem tz77 : tyZero Tryz.prog 77 = some (PV.slice true []) := by kernel_rfl
@[go_sem] theorem tk79 : tyKind Tryz.prog 79 = TyKind.struct := by kernel_rfl
@[go_sem] theorem ti79 : tyInfo Tryz.prog 79 = some (true, 2) := by kernel_rfl
@[go_sem] theorem tb79 : tyBytes Tryz.prog 79 = 32 := by kernel_rfl
@[go_sem] theorem tz79 : tyZero Tryz.prog 79 = some (PV.agg [(PV.int IntKind.i64 0), (PV.slice true [])]) := by kernel_rfl
@[go_sem] theorem tf79_0 : tyField Tryz.prog 79 0 = some (0, false, 1) := by kernel_rfl
@[go_sem] theorem tf79_1 : tyField Tryz.prog 79 1 = some (1, false, 1) := by kernel_rfl
@[go_sem] theorem tu79 : tyBuild Tryz.prog 79 = some ([(PV.int IntKind.i64 0), (PV.slice true [])], [(0, 1), (1, 1)]) := by kernel_rfl
@[go_sem] theorem tk81 : tyKind Tryz.prog 81 = TyKind.struct := by kernel_rfl
@[go_sem] theorem ti81 : tyInfo Tryz.prog 81 = some (true, 2) := by kernel_rfl
@[go_sem] theorem tb81 : tyBytes Tryz.prog 81 = 24 := by kernel_rfl
@[go_sem] theorem tz81 : tyZero Tryz.prog 81 = some (PV.agg [(PV.str []), (PV.int IntKind.i64 0)]) := by kernel_rfl
@[go_sem] theorem tf81_0 : tyField Tryz.prog 81 0 = some (0, false, 1) := by kernel_rfl
@[go_sem] theorem tf81_1 : tyField Tryz.prog 81 1 = some (1, false, 1) := by kernel_rfl
@[go_sem] theorem tu81 : tyBuild Tryz.prog 81 = some ([(PV.str []), (PV.int IntKind.i64 0)], [(0, 1), (1, 1)]) := by kernel_rfl
@[go_sem] theorem te81 : tyEq Tryz.prog 81 = some [TyKind.str, (TyKind.int IntKind.i64)] := by kernel_rfl
@[go_sem] theorem tk86 : tyKind Tryz.prog 86 = (TyKind.slice 9) := by kernel_rfl
@[go_sem] theorem ti86 : tyInfo Tryz.prog 86 = some (false, 1) := by kernel_rfl
@[go_sem] theorem tb86 : tyBytes Tryz.prog 86 = 24 := by kernel_rfl
@[go_sem] theorem tz86 : tyZero Tryz.prog 86 = some (PV.slice true []) := by kernel_rfl
@[go_sem] theorem tk87 : tyKind Tryz.prog 87 = (TyKind.slice 152) := by kernel_rfl
@[go_sem] theorem ti87 : tyInfo Tryz.prog 87 = some (false, 1) := by kernel_rfl
@[go_sem] theorem tb87 : tyBytes Tryz.prog 87 = 24 := by kernel_rfl
@[go_sem] theorem tz87 : tyZero Tryz.prog 87 = some (PV.slice true []) := by kernel_rfl
@[go_sem] theorem tk89 : tyKind Tryz.prog 89 = TyKind.struct := by kernel_rfl
@[go_sem] theorem ti89 : tyInfo Tryz.prog 89 = some (true, 5) := by kernel_rfl
@[go_sem] theorem tb89 : tyBytes Tryz.prog 89 = 96 := by kernel_rfl
@[go_sem] theorem tz89 : tyZero Tryz.prog 89 = some (PV.agg [(PV.str []), (PV.str []), (PV.str []), (PV.slice true []), (PV.slice true [])]) := by kernel_rfl
@[go_sem] theorem tf89_0 : tyField Tryz.prog 89 0 = some (0, false, 1) := by kernel_rfl
@[go_sem] theorem tf89_1 : tyField Tryz.prog 89 1 = some (1, false, 1) := by kernel_rfl
@[go_sem] theorem tf89_2 : tyField Tryz.prog 89 2 = some (2, false, 1) := by kernel_rfl
@[go_sem] theorem tf89_3 : tyField Tryz.prog 89 3 = some (3, false, 1) := by kernel_rfl
@[go_sem] theorem tf89_4 : tyField Tryz.prog 89 4 = some (4, false, 1) := by kernel_rfl
@[go_sem] theorem tu89 : tyBuild Tryz.prog 89 = some ([(PV.str []), (PV.str []), (PV.str []), (PV.slice true []), (PV.slice true [])], [(0, 1), (1, 1), (2, 1), (3, 1), (4, 1)]) := by kernel_rfl
@[go_sem] theorem tk102 : tyKind Tryz.prog 102 = (TyKind.slice 172) := by kernel_rfl
@[go_sem] theorem ti102 : tyInfo Tryz.prog 102 = some (false, 1) := by kernel_rfl
@[go_sem] theorem tb102 : tyBytes Tryz.prog 102 = 24 := by kernel_rfl
@[go_sem] theorem tz102 : tyZero Tryz.prog 102 = some (PV.slice true []) := by kernel_rfl
@[go_sem] theorem tk104 : tyKind Tryz.prog 104 = TyKind.struct := by kernel_rfl
@[go_sem] theorem ti104 : tyInfo Tryz.prog 104 = some (true, 2) := by kernel_rfl
@[go_sem] theorem tb104 : tyBytes Tryz.prog 104 = 40 := by kernel_rfl
@[go_sem] theorem tz104 : tyZero Tryz.prog 104 = some (PV.agg [(PV.str []), (PV.slice true [])]) := by kernel_rfl
@[go_sem] theorem tf104_0 : tyField Tryz.prog 104 0 = some (0, false, 1) := by kernel_rfl
@[go_sem] theorem tf104_1 : tyField Tryz.prog 104 1 = some (1, false, 1) := by kernel_rfl
@[go_sem] theorem tu104 : tyBuild Tryz.prog 104 = some ([(PV.str []), (PV.slice true [])], [(0, 1), (1, 1)]) := by kernel_rfl
@[go_sem] theorem tk106 : tyKind Tryz.prog 106 = TyKind.struct := by kernel_rfl
@[go_sem] theorem ti106 : tyInfo Tryz.prog 106 = some (true, 4) := by kernel_rfl
@[go_sem] theorem tb106 : tyBytes Tryz.prog 106 = 64 := by kernel_rfl
@[go_sem] theorem tz106 : tyZero Tryz.prog 106 = some (PV.agg [(PV.int IntKind.i64 0), (PV.str []), (PV.slice true []), (PV.str [])]) := by kernel_rfl
@[go_sem] theorem tf106_0 : tyField Tryz.prog 106 0 = some (0, false, 1) := by kernel_rfl
@[go_sem] theorem tf106_1 : tyField Tryz.prog 106 1 = some (1, false, 1) := by kernel_rfl
@[go_sem] theorem tf106_2 : tyField Tryz.prog 106 2 = some (2, false, 1) := by kernel_rfl
@[go_sem] theorem tf106_3 : tyField Tryz.prog 106 3 = some (3, false, 1) := by kernel_rfl
@[go_sem] theorem tu106 : tyBuild Tryz.prog 106 = some ([(PV.int IntKind.i64 0), (PV.str []), (PV.slice true []), (PV.str [])], [(0, 1), (1, 1), (2, 1), (3, 1)]) := by kernel_rfl
@[go_sem] theorem tk117 : tyKind Tryz.prog 117 = (TyKind.slice 239) := by kernel_rfl
@[go_sem] theorem ti117 : tyInfo Tryz.prog 117 = some (false, 1) := by kernel_rfl
@[go_sem] theorem tb117 : tyBytes Tryz.prog 117 = 24 := by kernel_rfl
@[go_sem] theorem tz117 : tyZero Tryz.prog 117 = some (PV.slice true []) := by kernel_rfl
@[go_sem] theorem tk119 : tyKind Tryz.prog 119 = TyKind.struct := by kernel_rfl
@[go_sem] theorem ti119 : tyInfo Tryz.prog 119 = some (true, 5) := by kernel_rfl
@[go_sem] theorem tb119 : tyBytes Tryz.prog 119 = 96 := by kernel_rfl
@[go_sem] theorem tz119 : tyZero Tryz.prog 119 = some (PV.agg [(PV.str []), (PV.str []), (PV.str []), (PV.slice true []), (PV.slice true [])]) := by kernel_rfl
@[go_sem] theorem tf119_0 : tyField Tryz.prog 119 0 = some (0, false, 1) := by kernel_rfl
@[go_sem] theorem tf119_1 : tyField Tryz.prog 119 1 = some (1, false, 1) := by kernel_rfl
@[go_sem] theorem tf119_2 : tyField Tryz.prog 119 2 = some (2, false, 1) := by kernel_rfl
@[go_sem] theorem tf119_3 : tyField Tryz.prog 119 3 = some (3, false, 1) := by kernel_rfl
@[go_sem] theorem tf119_4 : tyField Tryz.prog 119 4 = some (4, false, 1) := by kernel_rfl
@[go_sem] theorem tu119 : tyBuild Tryz.prog 119 = some ([(PV.str []), (PV.str []), (PV.str []), (PV.slice true []), (PV.slice true [])], [(0, 1), (1, 1), (2, 1), (3, 1), (4, 1)]) := by kernel_rfl
@[go_sem] theorem tk121 : tyKind Tryz.prog 121 = (TyKind.slice 279) := by kernel_rfl
@[go_sem] theorem ti121 : tyInfo Tryz.prog 121 = some (false, 1) := by kernel_rfl
@[go_sem] theorem tb121 : tyBytes Tryz.prog 121 = 24 := by kernel_rfl
@[go_sem] theorem tz121 : tyZero Tryz.prog 121 = some (PV.slice true []) := by kernel_rfl
@[go_sem] theorem tk122 : tyKind Tryz.prog 122 = (TyKind.slice 283) := by kernel_rfl
@[go_sem] theorem ti122 : tyInfo Tryz.prog 122 = some (false, 1) := by kernel_rfl
@[go_sem] theorem tb122 : tyBytes Tryz.prog 122 = 24 := by kernel_rfl
@[go_sem] theorem tz122 : tyZero Tryz.prog 122 = some (PV.slice true []) := by kernel_rfl
@[go_sem] theorem tk124 : tyKind Tryz.prog 124 = TyKind.struct := by kernel_rfl
@[go_sem] theorem ti124 : tyInfo Tryz.prog 124 = some (true, 3) := by kernel_rfl
@[go_sem] theorem tb124 : tyBytes Tryz.prog 124 = 56 := by kernel_rfl
@[go_sem] theorem tz124 : tyZero Tryz.prog 124 = some (PV.agg [(PV.int IntKind.i64 0), (PV.slice true []), (PV.slice true [])]) := by kernel_rfl
@[go_sem] theorem tf124_0 : tyField Tryz.prog 124 0 = some (0, false, 1) := by kernel_rfl
@[go_sem] theorem tf124_1 : tyField Tryz.prog 124 1 = some (1, false, 1) := by kernel_rfl
@[go_sem] theorem tf124_2 : tyField Tryz.prog 124 2 = some (2, false, 1) := by kernel_rfl
@[go_sem] theorem tu124 : tyBuild Tryz.prog 124 = some ([(PV.int IntKind.i64 0), (PV.slice true []), (PV.slice true [])], [(0, 1), (1, 1), (2, 1)]) := by kernel_rfl
@[go_sem] theorem tk125 : tyKind Tryz.prog 125 = (TyKind.slice 243) := by kernel_rfl
@[go_sem] theorem ti125 : tyInfo Tryz.prog 125 = some (false, 1) := by kernel_rfl
@[go_sem] theorem tb125 : tyBytes Tryz.prog 125 = 24 := by kernel_rfl
@[go_sem] theorem tz125 : tyZero Tryz.prog 125 = some (PV.slice true []) := by kernel_rfl
@[go_sem] theorem tk126 : tyKind Tryz.prog 126 = (TyKind.slice 245) := by kernel_rfl
@[go_sem] theorem ti126 : tyInfo Tryz.prog 126 = some (false, 1) := by kernel_rfl
@[go_sem] theorem tb126 : tyBytes Tryz.prog 126 = 24 := by kernel_rfl
@[go_sem] theorem tz126 : tyZero Tryz.prog 126 = some (PV.slice true []) := by kernel_rfl
@[go_sem] theorem tk127 : tyKind Tryz.prog 127 = (TyKind.slice 247) := by kernel_rfl
@[go_sem] theorem ti127 : tyInfo Tryz.prog 127 = some (false, 1) := by kernel_rfl
@[go_sem] theorem tb127 : tyBytes Tryz.prog 127 = 24 := by kernel_rfl
@[go_sem] theorem tz127 : tyZero Tryz.prog 127 = some (PV.slice true []) := by kernel_rfl
@[go_sem] theorem tk129 : tyKind Tryz.prog 129 = TyKind.struct := by kernel_rfl
@[go_sem] theorem ti129 : tyInfo Tryz.prog 129 = some (true, 12) := by kernel_rfl
@[go_sem] theorem tb129 : tyBytes Tryz.prog 129 = 224 := by kernel_rfl
@[go_sem] theorem tz129 : tyZero Tryz.prog 129 = some (PV.agg [(PV.str []), (PV.str []), (PV.slice true []), (PV.slice true []), (PV.int IntKind.i64 0), (PV.int IntKind.i64 0), (PV.int IntKind.i64 0), (PV.slice true []), (PV.slice true []), (PV.slice true []), (PV.slice true []), (PV.slice true [])]) := by kernel_rfl
@[go_sem] theorem tf129_0 : tyField Tryz.prog 129 0 = some (0, false, 1) := by kernel_rfl
@[go_sem] theorem tf129_1 : tyField Tryz.prog 129 1 = some (1, false, 1) := by kernel_rfl
@[go_sem] theorem tf129_2 : tyField Tryz.prog 129 2 = some (2, false, 1) := by kernel_rfl
@[go_sem] theorem tf129_3 : tyField Tryz.prog 129 3 = some (3, false, 1) := by kernel_rfl
@[go_sem] theorem tf129_4 : tyField Tryz.prog 129 4 = some (4, false, 1) := by kernel_rfl
@[go_sem] theorem tf129_5 : tyField Tryz.prog 129 5 = some (5, false, 1) := by kernel_rfl
@[go_sem] theorem tf129_6 : tyField Tryz.prog 129 6 = some (6, true, 3) := by kernel_rfl
@[go_sem] theorem tf129_7 : tyField Tryz.prog 129 7 = some (9, false, 1) := by kernel_rfl
@[go_sem] theorem tf129_8 : tyField Tryz.prog 129 8 = some (10, false, 1) := by kernel_rfl
@[go_sem] theorem tf129_9 : tyField Tryz.prog 129 9 = some (11, false, 1) := by kernel_rfl
@[go_sem] theorem tu129 : tyBuild Tryz.prog 129 = some ([(PV.str []), (PV.str []), (PV.slice true []), (PV.slice true []), (PV.int IntKind.i64 0), (PV.int IntKind.i64 0), (PV.int IntKind.i64 0), (PV.slice true []), (PV.slice true []), (PV.slice true []), (PV.slice true []), (PV.slice true [])], [(0, 1), (1, 1), (2, 1), (3, 1), (4, 1), (5, 1), (6, 3), (9, 1), (10, 1), (11, 1)]) := by kernel_rfl
@[go_sem] theorem tk131 : tyKind Tryz.prog 131 = (TyKind.slice 249) := by kernel_rfl
@[go_sem] theorem ti131 : tyInfo Tryz.prog 131 = some (false, 1) := by kernel_rfl
@[go_sem] theorem tb131 : tyBytes Tryz.prog 131 = 24 := by kernel_rfl
@[go_sem] theorem tz131 : tyZero Tryz.prog 131 = some (PV.slice true []) := by kernel_rfl
@[go_sem] theorem tk133 : tyKind Tryz.prog 133 = TyKind.struct := by kernel_rfl
@[go_sem] theorem ti133 : tyInfo Tryz.prog 133 = some (true, 2) := by kernel_rfl
@[go_sem] theorem tb133 : tyBytes Tryz.prog 133 = 32 := by kernel_rfl
@[go_sem] theorem tz133 : tyZero Tryz.prog 133 = some (PV.agg [(PV.int IntKind.i64 0), (PV.slice true [])]) := by kernel_rfl
@[go_sem] theorem tf133_0 : tyField Tryz.prog 133 0 = some (0, false, 1) := by kernel_rfl
@[go_sem] theorem tf133_1 : tyField Tryz.prog 133 1 = some (1, false, 1) := by kernel_rfl
@[go_sem] theorem tu133 : tyBuild Tryz.prog 133 = some ([(PV.int IntKind.i64 0), (PV.slice true [])], [(0, 1), (1, 1)]) := by kernel_rfl
@[go_sem] theorem tk136 : tyKind Tryz.prog 136 = TyKind.struct := by kernel_rfl
@[go_sem] theorem ti136 : tyInfo Tryz.prog 136 = some (true, 3) := by kernel_rfl
@[go_sem] theorem tb136 : tyBytes Tryz.prog 136 = 48 := by kernel_rfl
@[go_sem] theorem tz136 : tyZero Tryz.prog 136 = some (PV.agg [(PV.str []), (PV.str []), (PV.str [])]) := by kernel_rfl
@[go_sem] theorem tf136_0 : tyField Tryz.prog 136 0 = some (0, false, 1) := by kernel_rfl
@[go_sem] theorem tf136_1 : tyField Tryz.prog 136 1 = some (1, false, 1) := by kernel_rfl
@[go_sem] theorem tf136_2 : tyField Tryz.prog 136 2 = some (2, false, 1) := by kernel_rfl
@[go_sem] theorem tu136 : tyBuild Tryz.prog 136 = some ([(PV.str []), (PV.str []), (PV.str [])], [(0, 1), (1, 1), (2, 1)]) := by kernel_rfl
@[go_sem] theorem te136 : tyEq Tryz.prog 136 = some [TyKind.str, TyKind.str, TyKind.str] := by kernel_rfl
@[go_sem] theorem tk138 : tyKind Tryz.prog 138 = TyKind.struct := by kernel_rfl
@[go_sem] theorem ti138 : tyInfo Tryz.prog 138 = some (true, 3) := by kernel_rfl
@[go_sem] theorem tb138 : tyBytes Tryz.prog 138 = 48 := by kernel_rfl
@[go_sem] theorem tz138 : tyZero Tryz.prog 138 = some (PV.agg [(PV.str []), (PV.str []), (PV.str [])]) := by kernel_rfl
@[go_sem] theorem tf138_0 : tyField Tryz.prog 138 0 = some (0, false, 1) := by kernel_rfl
@[go_sem] theorem tf138_1 : tyField Tryz.prog 138 1 = some (1, false, 1) := by kernel_rfl
@[go_sem] theorem tf138_2 : tyField Tryz.prog 138 2 = some (2, false, 1) := by kernel_rfl
@[go_sem] theorem tu138 : tyBuild Tryz.prog 138 = some ([(PV.str []), (PV.str []), (PV.str [])], [(0, 1), (1, 1), (2, 1)]) := by kernel_rfl
@[go_sem] theorem te138 : tyEq Tryz.prog 138 = some [TyKind.str, TyKind.str, TyKind.str] := by kernel_rfl
@[go_sem] theorem tk140 : tyKind Tryz.prog 140 = TyKind.struct := by kernel_rfl
@[go_sem] theorem ti140 : tyInfo Tryz.prog 140 = some (true, 4) := by kernel_rfl
@[go_sem] theorem tb140 : tyBytes Tryz.prog 140 = 56 := by kernel_rfl
@[go_sem] theorem tz140 : tyZero Tryz.prog 140 = some (PV.agg [(PV.int IntKind.i64 0), (PV.str []), (PV.str []), (PV.str [])]) := by kernel_rfl
@[go_sem] theorem tf140_0 : tyField Tryz.prog 140 0 = some (0, false, 1) := by kernel_rfl
@[go_sem] theorem tf140_1 : tyField Tryz.prog 140 1 = some (1, false, 1) := by kernel_rfl
@[go_sem] theorem tf140_2 : tyField Tryz.prog 140 2 = some (2, false, 1) := by kernel_rfl
@[go_sem] theorem tf140_3 : tyField Tryz.prog 140 3 = some (3, false, 1) := by kernel_rfl
@[go_sem] theorem tu140 : tyBuild Tryz.prog 140 = some ([(PV.int IntKind.i64 0), (PV.str []), (PV.str []), (PV.str [])], [(0, 1), (1, 1), (2, 1), (3, 1)]) := by kernel_rfl
@[go_sem] theorem te140 : tyEq Tryz.prog 140 = some [(TyKind.int IntKind.i64), TyKind.str, TyKind.str, TyKind.str] := by kernel_rfl
@[go_sem] theorem tk145 : tyKind Tryz.prog 145 = (TyKind.slice 205) := by kernel_rfl
@[go_sem] theorem ti145 : tyInfo Tryz.prog 145 = some (false, 1) := by kernel_rfl
@[go_sem] theorem tb145 : tyBytes Tryz.prog 145 = 24 := by kernel_rfl
@[go_sem] theorem tz145 : tyZero Tryz.prog 145 = some (PV.slice true []) := by kernel_rfl
@[go_sem] theorem tk146 : tyKind Tryz.prog 146 = (TyKind.slice 148) := by kernel_rfl
@[go_sem] theorem ti146 : tyInfo Tryz.prog 146 = some (false, 1) := by kernel_rfl
@[go_sem] theorem tb146 : tyBytes Tryz.prog 146 = 24 := by kernel_rfl
@[go_sem] theorem tz146 : tyZero Tryz.prog 146 = some (PV.slice true []) := by kernel_rfl
@[go_sem] theorem tk148 : tyKind Tryz.prog 148 = TyKind.struct := by kernel_rfl
@[go_sem] theorem ti148 : tyInfo Tryz.prog 148 = some (true, 4) := by kernel_rfl
@[go_sem] theorem tb148 : tyBytes Tryz.prog 148 = 72 := by kernel_rfl
@[go_sem] theorem tz148 : tyZero Tryz.prog 148 = some (PV.agg [(PV.int IntKind.i64 0), (PV.str []), (PV.slice true []), (PV.slice true [])]) := by kernel_rfl
@[go_sem] theorem tf148_0 : tyField Tryz.prog 148 0 = some (0, false, 1) := by kernel_rfl
@[go_sem] theorem tf148_1 : tyField Tryz.prog 148 1 = some (1, false, 1) := by kernel_rfl
@[go_sem] theorem tf148_2 : tyField Tryz.prog 148 2 = some (2, false, 1) := by kernel_rfl
@[go_sem] theorem tf148_3 : tyField Tryz.prog 148 3 = some (3, false, 1) := by kernel_rfl
@[go_sem] theorem tu148 : tyBuild Tryz.prog 148 = some ([(PV.int IntKind.i64 0), (PV.str []), (PV.slice true []), (PV.slice true [])], [(0, 1), (1, 1), (2, 1), (3, 1)]) := by kernel_rfl
@[go_sem] theorem tk150 : tyKind Tryz.prog 150 = TyKind.struct := by kernel_rfl
@[go_sem] theorem ti150 : tyInfo Tryz.prog 150 = some (true, 6) := by kernel_rfl
@[go_sem] theorem tb150 : tyBytes Tryz.prog 150 = 104 := by kernel_rfl
@[go_sem] theorem tz150 : tyZero Tryz.prog 150 = some (PV.agg [(PV.slice true []), (PV.int IntKind.i64 0), (PV.str []), (PV.slice true []), (PV.slice true []), (PV.bool false)]) := by kernel_rfl
@[go_sem] theorem tf150_0 : tyField Tryz.prog 150 0 = some (0, false, 1) := by kernel_rfl
@[go_sem] theorem tf150_1 : tyField Tryz.prog 150 1 = some (1, true, 4) := by kernel_rfl
@[go_sem] theorem tf150_2 : tyField Tryz.prog 150 2 = some (5, false, 1) := by kernel_rfl
@[go_sem] theorem tu150 : tyBuild Tryz.prog 150 = some ([(PV.slice true []), (PV.int IntKind.i64 0), (PV.str []), (PV.slice true []), (PV.slice true []), (PV.bool false)], [(0, 1), (1, 4), (5, 1)]) := by kernel_rfl
@[go_sem] theorem tk152 : tyKind Tryz.prog 152 = TyKind.struct := by kernel_rfl
@[go_sem] theorem ti152 : tyInfo Tryz.prog 152 = some (true, 7) := by kernel_rfl
@[go_sem] theorem tb152 : tyBytes Tryz.prog 152 = 120 := by kernel_rfl
@[go_sem] theorem tz152 : tyZero Tryz.prog 152 = some (PV.agg [(PV.str []), (PV.slice true []), (PV.int IntKind.i64 0), (PV.str []), (PV.slice true []), (PV.slice true []), (PV.bool false)]) := by kernel_rfl
@[go_sem] theorem tf152_0 : tyField Tryz.prog 152 0 = some (0, false, 1) := by kernel_rfl
@[go_sem] theorem tf152_1 : tyField Tryz.prog 152 1 = some (1, true, 6) := by kernel_rfl
@[go_sem] theorem tu152 : tyBuild Tryz.prog 152 = some ([(PV.str []), (PV.slice true []), (PV.int IntKind.i64 0), (PV.str []), (PV.slice true []), (PV.slice true []), (PV.bool false)], [(0, 1), (1, 6)]) := by kernel_rfl
@[go_sem] theorem tk159 : tyKind Tryz.prog 159 = (TyKind.slice 271) := by kernel_rfl
@[go_sem] theorem ti159 : tyInfo Tryz.prog 159 = some (false, 1) := by kernel_rfl
@[go_sem] theorem tb159 : tyBytes Tryz.prog 159 = 24 := by kernel_rfl
@[go_sem] theorem tz159 : tyZero Tryz.prog 159 = some (PV.slice true []) := by kernel_rfl
@[go_sem] theorem tk161 : tyKind Tryz.prog 161 = TyKind.struct := by kernel_rfl
@[go_sem] theorem ti161 : tyInfo Tryz.prog 161 = some (true, 2) := by kernel_rfl
@[go_sem] theorem tb161 : tyBytes Tryz.prog 161 = 40 := by kernel_rfl
@[go_sem] theorem tz161 : tyZero Tryz.prog 161 = some (PV.agg [(PV.str []), (PV.slice true [])]) := by kernel_rfl
@[go_sem] theorem tf161_0 : tyField Tryz.prog 161 0 = some (0, false, 1) := by kernel_rfl
@[go_sem] theorem tf161_1 : tyField Tryz.prog 161 1 = some (1, false, 1) := by kernel_rfl
@[go_sem] theorem tu161 : tyBuild Tryz.prog 161 = some ([(PV.str []), (PV.slice true [])], [(0, 1), (1, 1)]) := by kernel_rfl
@[go_sem] theorem tk166 : tyKind Tryz.prog 166 = TyKind.struct := by kernel_rfl
@[go_sem] theorem ti166 : tyInfo Tryz.prog 166 = some (true, 4) := by kernel_rfl
@[go_sem] theorem tb166 : tyBytes Tryz.prog 166 = 64 := by kernel_rfl
@[go_sem] theorem tz166 : tyZero Tryz.prog 166 = some (PV.agg [(PV.int IntKind.i64 0), (PV.str []), (PV.slice true []), (PV.str [])]) := by kernel_rfl
@[go_sem] theorem tf166_0 : tyField Tryz.prog 166 0 = some (0, false, 1) := by kernel_rfl
@[go_sem] theorem tf166_1 : tyField Tryz.prog 166 1 = some (1, false, 1) := by kernel_rfl
@[go_sem] theorem tf166_2 : tyField Tryz.prog 166 2 = some (2, false, 1) := by kernel_rfl
@[go_sem] theorem tf166_3 : tyField Tryz.prog 166 3 = some (3, false, 1) := by kernel_rfl
@[go_sem] theorem tu166 : tyBuild Tryz.prog 166 = some ([(PV.int IntKind.i64 0), (PV.str []), (PV.slice true []), (PV.str [])], [(0, 1), (1, 1), (2, 1), (3, 1)]) := by kernel_rfl
@[go_sem] theorem tk170 : tyKind Tryz.prog 170 = TyKind.struct := by kernel_rfl
@[go_sem] theorem ti170 : tyInfo Tryz.prog 170 = some (true, 4) := by kernel_rfl
@[go_sem] theorem tb170 : tyBytes Tryz.prog 170 = 48 := by kernel_rfl
@[go_sem] theorem tz170 : tyZero Tryz.prog 170 = some (PV.agg [(PV.int IntKind.i64 0), (PV.int IntKind.i64 0), (PV.int IntKind.i64 0), (PV.slice true [])]) := by kernel_rfl
@[go_sem] theorem tf170_0 : tyField Tryz.prog 170 0 = some (0, false, 1) := by kernel_rfl
@[go_sem] theorem tf170_1 : tyField Tryz.prog 170 1 = some (1, false, 1) := by kernel_rfl
@[go_sem] theorem tf170_2 : tyField Tryz.prog 170 2 = some (2, false, 1) := by kernel_rfl
@[go_sem] theorem tf170_3 : tyField Tryz.prog 170 3 = some (3, false, 1) := by kernel_rfl
@[go_sem] theorem tu170 : tyBuild Tryz.prog 170 = some ([(PV.int IntKind.i64 0), (PV.int IntKind.i64 0), (PV.int IntKind.i64 0), (PV.slice true [])], [(0, 1), (1, 1), (2, 1), (3, 1)]) := by kernel_rfl
@[go_sem] theorem tk172 : tyKind Tryz.prog 172 = TyKind.struct := by kernel_rfl
@[go_sem] theorem ti172 : tyInfo Tryz.prog 172 = some (true, 2) := by kernel_rfl
@[go_sem] theorem tb172 : tyBytes Tryz.prog 172 = 16 := by kernel_rfl
@[go_sem] theorem tz172 : tyZero Tryz.prog 172 = some (PV.agg [(PV.int IntKind.i64 0), (PV.int IntKind.i64 0)]) := by kernel_rfl
@[go_sem] theorem tf172_0 : tyField Tryz.prog 172 0 = some (0, false, 1) := by kernel_rfl
@[go_sem] theorem tf172_1 : tyField Tryz.prog 172 1 = some (1, false, 1) := by kernel_rfl
@[go_sem] theorem tu172 : tyBuild Tryz.prog 172 = some ([(PV.int IntKind.i64 0), (PV.int IntKind.i64 0)], [(0, 1), (1, 1)]) := by kernel_rfl
@[go_sem] theorem te172 : tyEq Tryz.prog 172 = some [(TyKind.int IntKind.i64), (TyKind.int IntKind.i64)] := by kernel_rfl
@[go_sem] theorem tk190 : tyKind Tryz.prog 190 = TyKind.struct := by kernel_rfl
@[go_sem] theorem ti190 : tyInfo Tryz.prog 190 = some (true, 3) := by kernel_rfl
@[go_sem] theorem tb190 : tyBytes Tryz.prog 190 = 32 := by kernel_rfl
@[go_sem] theorem tz190 : tyZero Tryz.prog 190 = some (PV.agg [(PV.str []), (PV.int IntKind.i64 0), (PV.bool false)]) := by kernel_rfl
@[go_sem] theorem tf190_0 : tyField Tryz.prog 190 0 = some (0, false, 1) := by kernel_rfl
@[go_sem] theorem tf190_1 : tyField Tryz.prog 190 1 = some (1, false, 1) := by kernel_rfl
@[go_sem] theorem tf190_2 : tyField Tryz.prog 190 2 = some (2, false, 1) := by kernel_rfl
@[go_sem] theorem tu190 : tyBuild Tryz.prog 190 = some ([(PV.str []), (PV.int IntKind.i64 0), (PV.bool false)], [(0, 1), (1, 1), (2, 1)]) := by kernel_rfl
@[go_sem] theorem te190 : tyEq Tryz.prog 190 = some [TyKind.str, (TyKind.int IntKind.i64), TyKind.bool] := by kernel_rfl
@[go_sem] theorem tk192 : tyKind Tryz.prog 192 = (TyKind.slice 251) := by kernel_rfl
@[go_sem] theorem ti192 : tyInfo Tryz.prog 192 = some (false, 1) := by kernel_rfl
@[go_sem] theorem tb192 : tyBytes Tryz.prog 192 = 24 := by kernel_rfl
@[go_sem] theorem tz192 : tyZero Tryz.prog 192 = some (PV.slice true []) := by kernel_rfl
@[go_sem] theorem tk194 : tyKind Tryz.prog 194 = TyKind.struct := by kernel_rfl
@[go_sem] theorem ti194 : tyInfo Tryz.prog 194 = some (true, 5) := by kernel_rfl
@[go_sem] theorem tb194 : tyBytes Tryz.prog 194 = 64 := by kernel_rfl
@[go_sem] theorem tz194 : tyZero Tryz.prog 194 = some (PV.agg [(PV.str []), (PV.int IntKind.i64 0), (PV.int IntKind.i64 0), (PV.bool false), (PV.slice true [])]) := by kernel_rfl
@[go_sem] theorem tf194_0 : tyField Tryz.prog 194 0 = some (0, false, 1) := by kernel_rfl
@[go_sem] theorem tf194_1 : tyField Tryz.prog 194 1 = some (1, false, 1) := by kernel_rfl
@[go_sem] theorem tf194_2 : tyField Tryz.prog 194 2 = some (2, false, 1) := by kernel_rfl
@[go_sem] theorem tf194_3 : tyField Tryz.prog 194 3 = some (3, false, 1) := by kernel_rfl
@[go_sem] theorem tf194_4 : tyField Tryz.prog 194 4 = some (4, false, 1) := by kernel_rfl
@[go_sem] theorem tu194 : tyBuild Tryz.prog 194 = some ([(PV.str []), (PV.int IntKind.i64 0), (PV.int IntKind.i64 0), (PV.bool false), (PV.slice true [])], [(0, 1), (1, 1), (2, 1), (3, 1), (4, 1)]) := by kernel_rfl
@[go_sem] theorem tk205 : tyKind Tryz.prog 205 = TyKind.struct := by kernel_rfl
@[go_sem] theorem ti205 : tyInfo Tryz.prog 205 = some (true, 5) := by kernel_rfl
@[go_sem] theorem tb205 : tyBytes Tryz.prog 205 = 88 := by kernel_rfl
@[go_sem] theorem tz205 : tyZero Tryz.prog 205 = some (PV.agg [(PV.str []), (PV.int IntKind.i64 0), (PV.str []), (PV.slice true []), (PV.slice true [])]) := by kernel_rfl
@[go_sem] theorem tf205_0 : tyField Tryz.prog 205 0 = some (0, false, 1) := by kernel_rfl
@[go_sem] theorem tf205_1 : tyField Tryz.prog 205 1 = some (1, true, 4) := by kernel_rfl
@[go_sem] theorem tu205 : tyBuild Tryz.prog 205 = some ([(PV.str []), (PV.int IntKind.i64 0), (PV.str []), (PV.slice true []), (PV.slice true [])], [(0, 1), (1, 4)]) := by kernel_rfl
@[go_sem] theorem tk214 : tyKind Tryz.prog 214 = TyKind.struct := by kernel_rfl
@[go_sem] theorem ti214 : tyInfo Tryz.prog 214 = some (true, 4) := by kernel_rfl
@[go_sem] theorem tb214 : tyBytes Tryz.prog 214 = 48 := by kernel_rfl
@[go_sem] theorem tz214 : tyZero Tryz.prog 214 = some (PV.agg [(PV.int IntKind.i64 0), (PV.int IntKind.i64 0), (PV.int IntKind.i64 0), (PV.slice true [])]) := by kernel_rfl
@[go_sem] theorem tf214_0 : tyField Tryz.prog 214 0 = some (0, false, 1) := by kernel_rfl
@[go_sem] theorem tf214_1 : tyField Tryz.prog 214 1 = some (1, false, 1) := by kernel_rfl
@[go_sem] theorem tf214_2 : tyField Tryz.prog 214 2 = some (2, false, 1) := by kernel_rfl
@[go_sem] theorem tf214_3 : tyField Tryz.prog 214 3 = some (3, false, 1) := by kernel_rfl
@[go_sem] theorem tu214 : tyBuild Tryz.prog 214 = some ([(PV.int IntKind.i64 0), (PV.int IntKind.i64 0), (PV.int IntKind.i64 0), (PV.slice true [])], [(0, 1), (1, 1), (2, 1), (3, 1)]) := by kernel_rfl
@[go_sem] theorem tk216 : tyKind Tryz.prog 216 = TyKind.struct := by kernel_rfl
@[go_sem] theorem ti216 : tyInfo Tryz.prog 216 = some (true, 3) := by kernel_rfl
@[go_sem] theorem tb216 : tyBytes Tryz.prog 216 = 24 := by kernel_rfl
@[go_sem] theorem tz216 : tyZero Tryz.prog 216 = some (PV.agg [(PV.int IntKind.i64 0), (PV.int IntKind.i64 0), (PV.int IntKind.i64 0)]) := by kernel_rfl
@[go_sem] theorem tf216_0 : tyField Tryz.prog 216 0 = some (0, false, 1) := by kernel_rfl
@[go_sem] theorem tf216_1 : tyField Tryz.prog 216 1 = some (1, false, 1) := by kernel_rfl
@[go_sem] theorem tf216_2 : tyField Tryz.prog 216 2 = some (2, false, 1) := by kernel_rfl
@[go_sem] theorem tu216 : tyBuild Tryz.prog 216 = some ([(PV.int IntKind.i64 0), (PV.int IntKind.i64 0), (PV.int IntKind.i64 0)], [(0, 1), (1, 1), (2, 1)]) := by kernel_rfl
@[go_sem] theorem te216 : tyEq Tryz.prog 216 = some [(TyKind.int IntKind.i64), (TyKind.int IntKind.i64), (TyKind.int IntKind.i64)] := by kernel_rfl
@[go_sem] theorem tk217 : tyKind Tryz.prog 217 = (TyKind.slice 221) := by kernel_rfl
@[go_sem] theorem ti217 : tyInfo Tryz.prog 217 = some (false, 1) := by kernel_rfl
@[go_sem] theorem tb217 : tyBytes Tryz.prog 217 = 24 := by kernel_rfl
@[go_sem] theorem tz217 : tyZero Tryz.prog 217 = some (PV.slice true []) := by kernel_rfl
@[go_sem] theorem tk219 : tyKind Tryz.prog 219 = TyKind.struct := by kernel_rfl
@[go_sem] theorem ti219 : tyInfo Tryz.prog 219 = some (true, 2) := by kernel_rfl
@[go_sem] theorem tb219 : tyBytes Tryz.prog 219 = 32 := by kernel_rfl
@[go_sem] theorem tz219 : tyZero Tryz.prog 219 = some (PV.agg [(PV.int IntKind.i64 0), (PV.slice true [])]) := by kernel_rfl
@[go_sem] theorem tf219_0 : tyField Tryz.prog 219 0 = some (0, false, 1) := by kernel_rfl
@[go_sem] theorem tf219_1 : tyField Tryz.prog 219 1 = some (1, false, 1) := by kernel_rfl
@[go_sem] theorem tu219 : tyBuild Tryz.prog 219 = some ([(PV.int IntKind.i64 0), (PV.slice true [])], [(0, 1), (1, 1)]) := by kernel_rfl
@[go_sem] theorem tk221 : tyKind Tryz.prog 221 = TyKind.struct := by kernel_rfl
@[go_sem] theorem ti221 : tyInfo Tryz.prog 221 = some (true, 7) := by kernel_rfl
@[go_sem] theorem tb221 : tyBytes Tryz.prog 221 = 56 := by kernel_rfl
@[go_sem] theorem tz221 : tyZero Tryz.prog 221 = some (PV.agg [(PV.int IntKind.i64 0), (PV.int IntKind.i64 0), (PV.bool false), (PV.int IntKind.i64 0), (PV.int IntKind.i64 0), (PV.int IntKind.i64 0), (PV.int IntKind.i64 0)]) := by kernel_rfl
@[go_sem] theorem tf221_0 : tyField Tryz.prog 221 0 = some (0, false, 1) := by kernel_rfl
@[go_sem] theorem tf221_1 : tyField Tryz.prog 221 1 = some (1, false, 1) := by kernel_rfl
@[go_sem] theorem tf221_2 : tyField Tryz.prog 221 2 = some (2, false, 1) := by kernel_rfl
@[go_sem] theorem tf221_3 : tyField Tryz.prog 221 3 = some (3, false, 1) := by kernel_rfl
@[go_sem] theorem tf221_4 : tyField Tryz.prog 221 4 = some (4, false, 1) := by kernel_rfl
@[go_sem] theorem tf221_5 : tyField Tryz.prog 221 5 = some (5, false, 1) := by kernel_rfl
@[go_sem] theorem tf221_6 : tyField Tryz.prog 221 6 = some (6, false, 1) := by kernel_rfl
@[go_sem] theorem tu221 : tyBuild Tryz.prog 221 = some ([(PV.int IntKind.i64 0), (PV.int IntKind.i64 0), (PV.bool false), (PV.int IntKind.i64 0), (PV.int IntKind.i64 0), (PV.int IntKind.i64 0), (PV.int IntKind.i64 0)], [(0, 1), (1, 1), (2, 1), (3, 1), (4, 1), (5, 1), (6, 1)]) := by kernel_rfl
@[go_sem] theorem te221 : tyEq Tryz.prog 221 = some [(TyKind.int IntKind.i64), (TyKind.int IntKind.i64), TyKind.bool, (TyKind.int IntKind.i64), (TyKind.int IntKind.i64), (TyKind.int IntKind.i64), (TyKind.int IntKind.i64)] := by kernel_rfl
@[go_sem] theorem tk232 : tyKind Tryz.prog 232 = (TyKind.slice 304) := by kernel_rfl
@[go_sem] theorem ti232 : tyInfo Tryz.prog 232 = some (false, 1) := by kernel_rfl
@[go_sem] theorem tb232 : tyBytes Tryz.prog 232 = 24 := by kernel_rfl
@[go_sem] theorem tz232 : tyZero Tryz.prog 232 = some (PV.slice true []) := by kernel_rfl
@[go_sem] theorem tk233 : tyKind Tryz.prog 233 = (TyKind.slice 235) := by kernel_rfl
@[go_sem] theorem ti233 : tyInfo Tryz.prog 233 = some (false, 1) := by kernel_rfl
@[go_sem] theorem tb233 : tyBytes Tryz.prog 233 = 24 := by kernel_rfl
@[go_sem] theorem tz233 : tyZero Tryz.prog 233 = some (PV.slice true []) := by kernel_rfl
@[go_sem] theorem tk235 : tyKind Tryz.prog 235 = TyKind.struct := by kernel_rfl
@[go_sem] theorem ti235 : tyInfo Tryz.prog 235 = some (true, 4) := by kernel_rfl
@[go_sem] theorem tb235 : tyBytes Tryz.prog 235 = 72 := by kernel_rfl
@[go_sem] theorem tz235 : tyZero Tryz.prog 235 = some (PV.agg [(PV.int IntKind.i64 0), (PV.str []), (PV.slice true []), (PV.slice true [])]) := by kernel_rfl
@[go_sem] theorem tf235_0 : tyField Tryz.prog 235 0 = some (0, false, 1) := by kernel_rfl
@[go_sem] theorem tf235_1 : tyField Tryz.prog 235 1 = some (1, false, 1) := by kernel_rfl
@[go_sem] theorem tf235_2 : tyField Tryz.prog 235 2 = some (2, false, 1) := by kernel_rfl
@[go_sem] theorem tf235_3 : tyField Tryz.prog 235 3 = some (3, false, 1) := by kernel_rfl
@[go_sem] theorem tu235 : tyBuild Tryz.prog 235 = some ([(PV.int IntKind.i64 0), (PV.str []), (PV.slice true []), (PV.slice true [])], [(0, 1), (1, 1), (2, 1), (3, 1)]) := by kernel_rfl
@[go_sem] theorem tk237 : tyKind Tryz.prog 237 = TyKind.struct := by kernel_rfl
@[go_sem] theorem ti237 : tyInfo Tryz.prog 237 = some (true, 6) := by kernel_rfl
@[go_sem] theorem tb237 : tyBytes Tryz.prog 237 = 104 := by kernel_rfl
@[go_sem] theorem tz237 : tyZero Tryz.prog 237 = some (PV.agg [(PV.slice true []), (PV.int IntKind.i64 0), (PV.str []), (PV.slice true []), (PV.slice true []), (PV.bool false)]) := by kernel_rfl
@[go_sem] theorem tf237_0 : tyField Tryz.prog 237 0 = some (0, false, 1) := by kernel_rfl
@[go_sem] theorem tf237_1 : tyField Tryz.prog 237 1 = some (1, true, 4) := by kernel_rfl
@[go_sem] theorem tf237_2 : tyField Tryz.prog 237 2 = some (5, false, 1) := by kernel_rfl
@[go_sem] theorem tu237 : tyBuild Tryz.prog 237 = some ([(PV.slice true []), (PV.int IntKind.i64 0), (PV.str []), (PV.slice true []), (PV.slice true []), (PV.bool false)], [(0, 1), (1, 4), (5, 1)]) := by kernel_rfl
@[go_sem] theorem tk239 : tyKind Tryz.prog 239 = TyKind.struct := by kernel_rfl
@[go_sem] theorem ti239 : tyInfo Tryz.prog 239 = some (true, 7) := by kernel_rfl
@[go_sem] theorem tb239 : tyBytes Tryz.prog 239 = 120 := by kernel_rfl
@[go_sem] theorem tz239 : tyZero Tryz.prog 239 = some (PV.agg [(PV.str []), (PV.slice true []), (PV.int IntKind.i64 0), (PV.str []), (PV.slice true []), (PV.slice true []), (PV.bool false)]) := by kernel_rfl
@[go_sem] theorem tf239_0 : tyField Tryz.prog 239 0 = some (0, false, 1) := by kernel_rfl
@[go_sem] theorem tf239_1 : tyField Tryz.prog 239 1 = some (1, true, 6) := by kernel_rfl
@[go_sem] theorem tu239 : tyBuild Tryz.prog 239 = some ([(PV.str []), (PV.slice true []), (PV.int IntKind.i64 0), (PV.str []), (PV.slice true []), (PV.slice true []), (PV.bool false)], [(0, 1), (1, 6)]) := by kernel_rfl
@[go_sem] theorem tk243 : tyKind Tryz.prog 243 = TyKind.struct := by kernel_rfl
@[go_sem] theorem ti243 : tyInfo Tryz.prog 243 = some (true, 3) := by kernel_rfl
@[go_sem] theorem tb243 : tyBytes Tryz.prog 243 = 48 := by kernel_rfl
@[go_sem] theorem tz243 : tyZero Tryz.prog 243 = some (PV.agg [(PV.str []), (PV.str []), (PV.str [])]) := by kernel_rfl
@[go_sem] theorem tf243_0 : tyField Tryz.prog 243 0 = some (0, false, 1) := by kernel_rfl
@[go_sem] theorem tf243_1 : tyField Tryz.prog 243 1 = some (1, false, 1) := by kernel_rfl
@[go_sem] theorem tf243_2 : tyField Tryz.prog 243 2 = some (2, false, 1) := by kernel_rfl
@[go_sem] theorem tu243 : tyBuild Tryz.prog 243 = some ([(PV.str []), (PV.str []), (PV.str [])], [(0, 1), (1, 1), (2, 1)]) := by kernel_rfl
@[go_sem] theorem te243 : tyEq Tryz.prog 243 = some [TyKind.str, TyKind.str, TyKind.str] := by kernel_rfl
@[go_sem] theorem tk245 : tyKind Tryz.prog 245 = TyKind.struct := by kernel_rfl
@[go_sem] theorem ti245 : tyInfo Tryz.prog 245 = some (true, 3) := by kernel_rfl
@[go_sem] theorem tb245 : tyBytes Tryz.prog 245 = 48 := by kernel_rfl
@[go_sem] theorem tz245 : tyZero Tryz.prog 245 = some (PV.agg [(PV.str []), (PV.str []), (PV.str [])]) := by kernel_rfl
@[go_sem] theorem tf245_0 : tyField Tryz.prog 245 0 = some (0, false, 1) := by kernel_rfl
@[go_sem] theorem tf245_1 : tyField Tryz.prog 245 1 = some (1, false, 1) := by kernel_rfl
@[go_sem] theorem tf245_2 : tyField Tryz.prog 245 2 = some (2, false, 1) := by kernel_rfl
@[go_sem] theorem tu245 : tyBuild Tryz.prog 245 = some ([(PV.str []), (PV.str []), (PV.str [])], [(0, 1), (1, 1), (2, 1)]) := by kernel_rfl
@[go_sem] theorem te245 : tyEq Tryz.prog 245 = some [TyKind.str, TyKind.str, TyKind.str] := by kernel_rfl
@[go_sem] theorem tk247 : tyKind Tryz.prog 247 = TyKind.struct := by kernel_rfl
@[go_sem] theorem ti247 : tyInfo Tryz.prog 247 = some (true, 4) := by kernel_rfl
@[go_sem] theorem tb247 : tyBytes Tryz.prog 247 = 56 := by kernel_rfl
@[go_sem] theorem tz247 : tyZero Tryz.prog 247 = some (PV.agg [(PV.int IntKind.i64 0), (PV.str []), (PV.str []), (PV.str [])]) := by kernel_rfl
@[go_sem] theorem tf247_0 : tyField Tryz.prog 247 0 = some (0, false, 1) := by kernel_rfl
@[go_sem] theorem tf247_1 : tyField Tryz.prog 247 1 = some (1, false, 1) := by kernel_rfl
@[go_sem] theorem tf247_2 : tyField Tryz.prog 247 2 = some (2, false, 1) := by kernel_rfl
@[go_sem] theorem tf247_3 : tyField Tryz.prog 247 3 = some (3, false, 1) := by kernel_rfl
@[go_sem] theorem tu247 : tyBuild Tryz.prog 247 = some ([(PV.int IntKind.i64 0), (PV.str []), (PV.str []), (PV.str [])], [(0, 1), (1, 1), (2, 1), (3, 1)]) := by kernel_rfl
@[go_sem] theorem te247 : tyEq Tryz.prog 247 = some [(TyKind.int IntKind.i64), TyKind.str, TyKind.str, TyKind.str] := by kernel_rfl
@[go_sem] theorem tk249 : tyKind Tryz.prog 249 = TyKind.struct := by kernel_rfl
@[go_sem] theorem ti249 : tyInfo Tryz.prog 249 = some (true, 2) := by kernel_rfl
@[go_sem] theorem tb249 : tyBytes Tryz.prog 249 = 24 := by kernel_rfl
@[go_sem] theorem tz249 : tyZero Tryz.prog 249 = some (PV.agg [(PV.str []), (PV.int IntKind.i64 0)]) := by kernel_rfl
@[go_sem] theorem tf249_0 : tyField Tryz.prog 249 0 = some (0, false, 1) := by kernel_rfl
@[go_sem] theorem tf249_1 : tyField Tryz.prog 249 1 = some (1, false, 1) := by kernel_rfl
@[go_sem] theorem tu249 : tyBuild Tryz.prog 249 = some ([(PV.str []), (PV.int IntKind.i64 0)], [(0, 1), (1, 1)]) := by kernel_rfl
@[go_sem] theorem te249 : tyEq Tryz.prog 249 = some [TyKind.str, (TyKind.int IntKind.i64)] := by kernel_rfl
@[go_sem] theorem tk251 : tyKind Tryz.prog 251 = TyKind.struct := by kernel_rfl
@[go_sem] theorem ti251 : tyInfo Tryz.prog 251 = some (true, 2) := by kernel_rfl
@[go_sem] theorem tb251 : tyBytes Tryz.prog 251 = 16 := by kernel_rfl
@[go_sem] theorem tz251 : tyZero Tryz.prog 251 = some (PV.agg [(PV.int IntKind.i64 0), (PV.int IntKind.i64 0)]) := by kernel_rfl
@[go_sem] theorem tf251_0 : tyField Tryz.prog 251 0 = some (0, false, 1) := by kernel_rfl
@[go_sem] theorem tf251_1 : tyField Tryz.prog 251 1 = some (1, false, 1) := by kernel_rfl
@[go_sem] theorem tu251 : tyBuild Tryz.prog 251 = some ([(PV.int IntKind.i64 0), (PV.int IntKind.i64 0)], [(0, 1), (1, 1)]) := by kernel_rfl
@[go_sem] theorem te251 : tyEq Tryz.prog 251 = some [(TyKind.int IntKind.i64), (TyKind.int IntKind.i64)] := by kernel_rfl
@[go_sem] theorem tk267 : tyKind Tryz.prog 267 = (TyKind.slice 300) := by kernel_rfl
@[go_sem] theorem ti267 : tyInfo Tryz.prog 267 = some (false, 1) := by kernel_rfl
@[go_sem] theorem tb267 : tyBytes Tryz.prog 267 = 24 := by kernel_rfl
@[go_sem] theorem tz267 : tyZero Tryz.prog 267 = some (PV.slice true []) := by kernel_rfl
@[go_sem] theorem tk269 : tyKind Tryz.prog 269 = TyKind.struct := by kernel_rfl
@[go_sem] theorem ti269 : tyInfo Tryz.prog 269 = some (true, 2) := by kernel_rfl
@[go_sem] theorem tb269 : tyBytes Tryz.prog 269 = 32 := by kernel_rfl
@[go_sem] theorem tz269 : tyZero Tryz.prog 269 = some (PV.agg [(PV.int IntKind.i64 0), (PV.slice true [])]) := by kernel_rfl
@[go_sem] theorem tf269_0 : tyField Tryz.prog 269 0 = some (0, false, 1) := by kernel_rfl
@[go_sem] theorem tf269_1 : tyField Tryz.prog 269 1 = some (1, false, 1) := by kernel_rfl
@[go_sem] theorem tu269 : tyBuild Tryz.prog 269 = some ([(PV.int IntKind.i64 0), (PV.slice true [])], [(0, 1), (1, 1)]) := by kernel_rfl
@[go_sem] theorem tk271 : tyKind Tryz.prog 271 = TyKind.struct := by kernel_rfl
@[go_sem] theorem ti271 : tyInfo Tryz.prog 271 = some (true, 2) := by kernel_rfl
@[go_sem] theorem tb271 : tyBytes Tryz.prog 271 = 16 := by kernel_rfl
@[go_sem] theorem tz271 : tyZero Tryz.prog 271 = some (PV.agg [(PV.int IntKind.i64 0), (PV.int IntKind.i64 0)]) := by kernel_rfl
@[go_sem] theorem tf271_0 : tyField Tryz.prog 271 0 = some (0, false, 1) := by kernel_rfl
@[go_sem] theorem tf271_1 : tyField Tryz.prog 271 1 = some (1, false, 1) := by kernel_rfl
@[go_sem] theorem tu271 : tyBuild Tryz.prog 271 = some ([(PV.int IntKind.i64 0), (PV.int IntKind.i64 0)], [(0, 1), (1, 1)]) := by kernel_rfl
@[go_sem] theorem te271 : tyEq Tryz.prog 271 = some [(TyKind.int IntKind.i64), (TyKind.int IntKind.i64)] := by kernel_rfl
@[go_sem] theorem tk274 : tyKind Tryz.prog 274 = TyKind.struct := by kernel_rfl
@[go_sem] theorem ti274 : tyInfo Tryz.prog 274 = some (true, 3) := by kernel_rfl
@[go_sem] theorem tb274 : tyBytes Tryz.prog 274 = 24 := by kernel_rfl
@[go_sem] theorem tz274 : tyZero Tryz.prog 274 = some (PV.agg [(PV.int IntKind.i64 0), (PV.int IntKind.i64 0), (PV.int IntKind.i64 0)]) := by kernel_rfl
@[go_sem] theorem tf274_0 : tyField Tryz.prog 274 0 = some (0, false, 1) := by kernel_rfl
@[go_sem] theorem tf274_1 : tyField Tryz.prog 274 1 = some (1, false, 1) := by kernel_rfl
@[go_sem] theorem tf274_2 : tyField Tryz.prog 274 2 = some (2, false, 1) := by kernel_rfl
@[go_sem] theorem tu274 : tyBuild Tryz.prog 274 = some ([(PV.int IntKind.i64 0), (PV.int IntKind.i64 0), (PV.int IntKind.i64 0)], [(0, 1), (1, 1), (2, 1)]) := by kernel_rfl
@[go_sem] theorem te274 : tyEq Tryz.prog 274 = some [(TyKind.int IntKind.i64), (TyKind.int IntKind.i64), (TyKind.int IntKind.i64)] := by kernel_rfl
@[go_sem] theorem tk279 : tyKind Tryz.prog 279 = TyKind.struct := by kernel_rfl
@[go_sem] theorem ti279 : tyInfo Tryz.prog 279 = some (true, 3) := by kernel_rfl
@[go_sem] theorem tb279 : tyBytes Tryz.prog 279 = 32 := by kernel_rfl
@[go_sem] theorem tz279 : tyZero Tryz.prog 279 = some (PV.agg [(PV.str []), (PV.int IntKind.i64 0), (PV.bool false)]) := by kernel_rfl
@[go_sem] theorem tf279_0 : tyField Tryz.prog 279 0 = some (0, false, 1) := by kernel_rfl
@[go_sem] theorem tf279_1 : tyField Tryz.prog 279 1 = some (1, false, 1) := by kernel_rfl
@[go_sem] theorem tf279_2 : tyField Tryz.prog 279 2 = some (2, false, 1) := by kernel_rfl
@[go_sem] theorem tu279 : tyBuild Tryz.prog 279 = some ([(PV.str []), (PV.int IntKind.i64 0), (PV.bool false)], [(0, 1), (1, 1), (2, 1)]) := by kernel_rfl
@[go_sem] theorem te279 : tyEq Tryz.prog 279 = some [TyKind.str, (TyKind.int IntKind.i64), TyKind.bool] := by kernel_rfl
@[go_sem] theorem tk281 : tyKind Tryz.prog 281 = (TyKind.slice 309) := by kernel_rfl
@[go_sem] theorem ti281 : tyInfo Tryz.prog 281 = some (false, 1) := by kernel_rfl
@[go_sem] theorem tb281 : tyBytes Tryz.prog 281 = 24 := by kernel_rfl
@[go_sem] theorem tz281 : tyZero Tryz.prog 281 = some (PV.slice true []) := by kernel_rfl
@[go_sem] theorem tk283 : tyKind Tryz.prog 283 = TyKind.struct := by kernel_rfl
@[go_sem] theorem ti283 : tyInfo Tryz.prog 283 = some (true, 5) := by kernel_rfl
@[go_sem] theorem tb283 : tyBytes Tryz.prog 283 = 64 := by kernel_rfl
@[go_sem] theorem tz283 : tyZero Tryz.prog 283 = some (PV.agg [(PV.str []), (PV.int IntKind.i64 0), (PV.int IntKind.i64 0), (PV.bool false), (PV.slice true [])]) := by kernel_rfl
@[go_sem] theorem tf283_0 : tyField Tryz.prog 283 0 = some (0, false, 1) := by kernel_rfl
@[go_sem] theorem tf283_1 : tyField Tryz.prog 283 1 = some (1, false, 1) := by kernel_rfl
@[go_sem] theorem tf283_2 : tyField Tryz.prog 283 2 = some (2, false, 1) := by kernel_rfl
@[go_sem] theorem tf283_3 : tyField Tryz.prog 283 3 = some (3, false, 1) := by kernel_rfl
@[go_sem] theorem tf283_4 : tyField Tryz.prog 283 4 = some (4, false, 1) := by kernel_rfl
@[go_sem] theorem tu283 : tyBuild Tryz.prog 283 = some ([(PV.str []), (PV.int IntKind.i64 0), (PV.int IntKind.i64 0), (PV.bool false), (PV.slice true [])], [(0, 1), (1, 1), (2, 1), (3, 1), (4, 1)]) := by kernel_rfl
@[go_sem] theorem tk300 : tyKind Tryz.prog 300 = TyKind.struct := by kernel_rfl
@[go_sem] theorem ti300 : tyInfo Tryz.prog 300 = some (true, 7) := by kernel_rfl
@[go_sem] theorem tb300 : tyBytes Tryz.prog 300 = 56 := by kernel_rfl
@[go_sem] theorem tz300 : tyZero Tryz.prog 300 = some (PV.agg [(PV.int IntKind.i64 0), (PV.int IntKind.i64 0), (PV.bool false), (PV.int IntKind.i64 0), (PV.int IntKind.i64 0), (PV.int IntKind.i64 0), (PV.int IntKind.i64 0)]) := by kernel_rfl
@[go_sem] theorem tf300_0 : tyField Tryz.prog 300 0 = some (0, false, 1) := by kernel_rfl
@[go_sem] theorem tf300_1 : tyField Tryz.prog 300 1 = some (1, false, 1) := by kernel_rfl
@[go_sem] theorem tf300_2 : tyField Tryz.prog 300 2 = some (2, false, 1) := by kernel_rfl
@[go_sem] theorem tf300_3 : tyField Tryz.prog 300 3 = some (3, false, 1) := by kernel_rfl
@[go_sem] theorem tf300_4 : tyField Tryz.prog 300 4 = some (4, false, 1) := by kernel_rfl
@[go_sem] theorem tf300_5 : tyField Tryz.prog 300 5 = some (5, false, 1) := by kernel_rfl
@[go_sem] theorem tf300_6 : tyField Tryz.prog 300 6 = some (6, false, 1) := by kernel_rfl
@[go_sem] theorem tu300 : tyBuild Tryz.prog 300 = some ([(PV.int IntKind.i64 0), (PV.int IntKind.i64 0), (PV.bool false), (PV.int IntKind.i64 0), (PV.int IntKind.i64 0), (PV.int IntKind.i64 0), (PV.int IntKind.i64 0)], [(0, 1), (1, 1), (2, 1), (3, 1), (4, 1), (5, 1), (6, 1)]) := by kernel_rfl
@[go_sem] theorem te300 : tyEq Tryz.prog 300 = some [(TyKind.int IntKind.i64), (TyKind.int IntKind.i64), TyKind.bool, (TyKind.int IntKind.i64), (TyKind.int IntKind.i64), (TyKind.int IntKind.i64), (TyKind.int IntKind.i64)] := by kernel_rfl
@[go_sem] theorem tk304 : tyKind Tryz.prog 304 = TyKind.struct := by kernel_rfl
@[go_sem] theorem ti304 : tyInfo Tryz.prog 304 = some (true, 5) := by kernel_rfl
@[go_sem] theorem tb304 : tyBytes Tryz.prog 304 = 88 := by kernel_rfl
@[go_sem] theorem tz304 : tyZero Tryz.prog 304 = some (PV.agg [(PV.str []), (PV.int IntKind.i64 0), (PV.str []), (PV.slice true []), (PV.slice true [])]) := by kernel_rfl
@[go_sem] theorem tf304_0 : tyField Tryz.prog 304 0 = some (0, false, 1) := by kernel_rfl
@[go_sem] theorem tf304_1 : tyField Tryz.prog 304 1 = some (1, true, 4) := by kernel_rfl
@[go_sem] theorem tu304 : tyBuild Tryz.prog 304 = some ([(PV.str []), (PV.int IntKind.i64 0), (PV.str []), (PV.slice true []), (PV.slice true [])], [(0, 1), (1, 4)]) := by kernel_rfl
@[go_sem] theorem tk309 : tyKind Tryz.prog 309 = TyKind.struct := by kernel_rfl
@[go_sem] theorem ti309 : tyInfo Tryz.prog 309 = some (true, 2) := by kernel_rfl
@[go_sem] theorem tb309 : tyBytes Tryz.prog 309 = 16 := by kernel_rfl
@[go_sem] theorem tz309 : tyZero Tryz.prog 309 = some (PV.agg [(PV.int IntKind.i64 0), (PV.int IntKind.i64 0)]) := by kernel_rfl
@[go_sem] theorem tf309_0 : tyField Tryz.prog 309 0 = some (0, false, 1) := by kernel_rfl
@[go_sem] theorem tf309_1 : tyField Tryz.prog 309 1 = some (1, false, 1) := by kernel_rfl
@[go_sem] theorem tu309 : tyBuild Tryz.prog 309 = some ([(PV.int IntKind.i64 0), (PV.int IntKind.i64 0)], [(0, 1), (1, 1)]) := by kernel_rfl
@[go_sem] theorem te309 : tyEq Tryz.prog 309 = some [(TyKind.int IntKind.i64), (TyKind.int IntKind.i64)] := by kernel_rfl
@[go_sem] theorem tk319 : tyKind Tryz.prog 319 = (TyKind.int IntKind.u32) := by kernel_rfl
@[go_sem] theorem ti319 : tyInfo Tryz.prog 319 = some (false, 1) := by kernel_rfl
@[go_sem] theorem tb319 : tyBytes Tryz.prog 319 = 4 := by kernel_rfl
@[go_sem] theorem tz319 : tyZero Tryz.prog 319 = some (PV.int IntKind.u32 0) := by kernel_rfl
@[go_sem] theorem tk323 : tyKind Tryz.prog 323 = (TyKind.ptr 5) := by kernel_rfl
@[go_sem] theorem ti323 : tyInfo Tryz.prog 323 = some (false, 1) := by kernel_rfl
@[go_sem] theorem tb323 : tyBytes Tryz.prog 323 = 8 := by kernel_rfl
@[go_sem] theorem tz323 : tyZero Tryz.prog 323 = some PV.nilptr := by kernel_rfl
end Go.Proofs.YtdlkndnlpgmdaaaGreat.V
