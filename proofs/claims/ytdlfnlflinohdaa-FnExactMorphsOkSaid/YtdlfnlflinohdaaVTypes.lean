/- The facts of the types of this seat. -/
import Derived.Test.YtdlfnlflinohdaaVEqs
import Derived.Test.YtdlfnlflinohdaaProg
/-! The facts of the types of this seat, as V asks for them. -/
namespace Go.Proofs.Ytdlfnlflinohdaa.V
open Go Go.V Go.Proofs
@[go_sem] theorem ti0 : tyInfo Try.prog 0 = some (false, 1) := by rfl
@[go_sem] theorem ti1 : tyInfo Try.prog 1 = some (false, 1) := by rfl
@[go_sem] theorem tk2 : tyKind Try.prog 2 = TyKind.int IntKind.i64 := by rfl
@[go_sem] theorem ti2 : tyInfo Try.prog 2 = some (false, 1) := by rfl
@[go_sem] theorem tb2 : tyBytes Try.prog 2 = 8 := by rfl
@[go_sem] theorem tz2 : tyZero Try.prog 2 = some (PV.int IntKind.i64 0) := by rfl
@[go_sem] theorem tk3 : tyKind Try.prog 3 = TyKind.int IntKind.i64 := by rfl
@[go_sem] theorem ti3 : tyInfo Try.prog 3 = some (false, 1) := by rfl
@[go_sem] theorem tb3 : tyBytes Try.prog 3 = 8 := by rfl
@[go_sem] theorem tz3 : tyZero Try.prog 3 = some (PV.int IntKind.i64 0) := by rfl
@[go_sem] theorem tk4 : tyKind Try.prog 4 = TyKind.bool := by rfl
@[go_sem] theorem ti4 : tyInfo Try.prog 4 = some (false, 1) := by rfl
@[go_sem] theorem tb4 : tyBytes Try.prog 4 = 1 := by rfl
@[go_sem] theorem tz4 : tyZero Try.prog 4 = some (PV.bool false) := by rfl
@[go_sem] theorem tk5 : tyKind Try.prog 5 = TyKind.int IntKind.u8 := by rfl
@[go_sem] theorem ti5 : tyInfo Try.prog 5 = some (false, 1) := by rfl
@[go_sem] theorem tb5 : tyBytes Try.prog 5 = 1 := by rfl
@[go_sem] theorem tz5 : tyZero Try.prog 5 = some (PV.int IntKind.u8 0) := by rfl
@[go_sem] theorem tk6 : tyKind Try.prog 6 = TyKind.int IntKind.u8 := by rfl
@[go_sem] theorem ti6 : tyInfo Try.prog 6 = some (false, 1) := by rfl
@[go_sem] theorem tb6 : tyBytes Try.prog 6 = 1 := by rfl
@[go_sem] theorem tz6 : tyZero Try.prog 6 = some (PV.int IntKind.u8 0) := by rfl
@[go_sem] theorem tk7 : tyKind Try.prog 7 = TyKind.struct := by rfl
@[go_sem] theorem ti7 : tyInfo Try.prog 7 = some (true, 4) := by rfl
@[go_sem] theorem tb7 : tyBytes Try.prog 7 = 24 := by rfl
@[go_sem] theorem tz7 : tyZero Try.prog 7 = some (PV.agg [PV.int IntKind.i64 0, PV.int IntKind.i64 0, PV.bool false, PV.int IntKind.u8 0]) := by rfl
@[go_sem] theorem tk8 : tyKind Try.prog 8 = TyKind.struct := by rfl
@[go_sem] theorem ti8 : tyInfo Try.prog 8 = some (true, 4) := by rfl
@[go_sem] theorem tb8 : tyBytes Try.prog 8 = 24 := by rfl
@[go_sem] theorem tz8 : tyZero Try.prog 8 = some (PV.agg [PV.int IntKind.i64 0, PV.int IntKind.i64 0, PV.bool false, PV.int IntKind.u8 0]) := by rfl
@[go_sem] theorem tk9 : tyKind Try.prog 9 = TyKind.str := by rfl
@[go_sem] theorem ti9 : tyInfo Try.prog 9 = some (false, 1) := by rfl
@[go_sem] theorem tb9 : tyBytes Try.prog 9 = 16 := by rfl
@[go_sem] theorem tz9 : tyZero Try.prog 9 = some (PV.str []) := by rfl
@[go_sem] theorem tk10 : tyKind Try.prog 10 = TyKind.str := by rfl
@[go_sem] theorem ti10 : tyInfo Try.prog 10 = some (false, 1) := by rfl
@[go_sem] theorem tb10 : tyBytes Try.prog 10 = 16 := by rfl
@[go_sem] theorem tz10 : tyZero Try.prog 10 = some (PV.str []) := by rfl
@[go_sem] theorem tk11 : tyKind Try.prog 11 = TyKind.str := by rfl
@[go_sem] theorem ti11 : tyInfo Try.prog 11 = some (false, 1) := by rfl
@[go_sem] theorem tb11 : tyBytes Try.prog 11 = 16 := by rfl
@[go_sem] theorem tz11 : tyZero Try.prog 11 = some (PV.str []) := by rfl
@[go_sem] theorem tk12 : tyKind Try.prog 12 = TyKind.int IntKind.u64 := by rfl
@[go_sem] theorem ti12 : tyInfo Try.prog 12 = some (false, 1) := by rfl
@[go_sem] theorem tb12 : tyBytes Try.prog 12 = 8 := by rfl
@[go_sem] theorem tz12 : tyZero Try.prog 12 = some (PV.int IntKind.u64 0) := by rfl
@[go_sem] theorem tk13 : tyKind Try.prog 13 = TyKind.struct := by rfl
@[go_sem] theorem ti13 : tyInfo Try.prog 13 = some (true, 2) := by rfl
@[go_sem] theorem tb13 : tyBytes Try.prog 13 = 24 := by rfl
@[go_sem] theorem tz13 : tyZero Try.prog 13 = some (PV.agg [PV.str [], PV.int IntKind.u64 0]) := by rfl
@[go_sem] theorem tk14 : tyKind Try.prog 14 = TyKind.struct := by rfl
@[go_sem] theorem ti14 : tyInfo Try.prog 14 = some (true, 2) := by rfl
@[go_sem] theorem tb14 : tyBytes Try.prog 14 = 24 := by rfl
@[go_sem] theorem tz14 : tyZero Try.prog 14 = some (PV.agg [PV.str [], PV.int IntKind.u64 0]) := by rfl
@[go_sem] theorem tk15 : tyKind Try.prog 15 = TyKind.ptr 59 := by rfl
@[go_sem] theorem ti15 : tyInfo Try.prog 15 = some (false, 1) := by rfl
@[go_sem] theorem tb15 : tyBytes Try.prog 15 = 8 := by rfl
@[go_sem] theorem tz15 : tyZero Try.prog 15 = some PV.nilptr := by rfl
@[go_sem] theorem tk16 : tyKind Try.prog 16 = TyKind.ptr 62 := by rfl
@[go_sem] theorem ti16 : tyInfo Try.prog 16 = some (false, 1) := by rfl
@[go_sem] theorem tb16 : tyBytes Try.prog 16 = 8 := by rfl
@[go_sem] theorem tz16 : tyZero Try.prog 16 = some PV.nilptr := by rfl
@[go_sem] theorem tk17 : tyKind Try.prog 17 = TyKind.ptr 72 := by rfl
@[go_sem] theorem ti17 : tyInfo Try.prog 17 = some (false, 1) := by rfl
@[go_sem] theorem tb17 : tyBytes Try.prog 17 = 8 := by rfl
@[go_sem] theorem tz17 : tyZero Try.prog 17 = some PV.nilptr := by rfl
@[go_sem] theorem tk18 : tyKind Try.prog 18 = TyKind.struct := by rfl
@[go_sem] theorem ti18 : tyInfo Try.prog 18 = some (true, 1) := by rfl
@[go_sem] theorem tb18 : tyBytes Try.prog 18 = 8 := by rfl
@[go_sem] theorem tz18 : tyZero Try.prog 18 = some (PV.agg [PV.nilptr]) := by rfl
@[go_sem] theorem tk19 : tyKind Try.prog 19 = TyKind.struct := by rfl
@[go_sem] theorem ti19 : tyInfo Try.prog 19 = some (true, 1) := by rfl
@[go_sem] theorem tb19 : tyBytes Try.prog 19 = 8 := by rfl
@[go_sem] theorem tz19 : tyZero Try.prog 19 = some (PV.agg [PV.nilptr]) := by rfl
@[go_sem] theorem tk20 : tyKind Try.prog 20 = TyKind.iface := by rfl
@[go_sem] theorem ti20 : tyInfo Try.prog 20 = some (false, 1) := by rfl
@[go_sem] theorem tb20 : tyBytes Try.prog 20 = 16 := by rfl
@[go_sem] theorem tz20 : tyZero Try.prog 20 = some PV.niliface := by rfl
@[go_sem] theorem tk21 : tyKind Try.prog 21 = TyKind.int IntKind.i32 := by rfl
@[go_sem] theorem ti21 : tyInfo Try.prog 21 = some (false, 1) := by rfl
@[go_sem] theorem tb21 : tyBytes Try.prog 21 = 4 := by rfl
@[go_sem] theorem tz21 : tyZero Try.prog 21 = some (PV.int IntKind.i32 0) := by rfl
@[go_sem] theorem tk22 : tyKind Try.prog 22 = TyKind.slice 9 := by rfl
@[go_sem] theorem ti22 : tyInfo Try.prog 22 = some (false, 1) := by rfl
@[go_sem] theorem tb22 : tyBytes Try.prog 22 = 24 := by rfl
@[go_sem] theorem tz22 : tyZero Try.prog 22 = some (PV.slice true []) := by rfl
@[go_sem] theorem ti23 : tyInfo Try.prog 23 = some (false, 1) := by rfl
@[go_sem] theorem ti24 : tyInfo Try.prog 24 = some (false, 1) := by rfl
@[go_sem] theorem ti25 : tyInfo Try.prog 25 = some (false, 1) := by rfl
@[go_sem] theorem tk26 : tyKind Try.prog 26 = TyKind.struct := by rfl
@[go_sem] theorem ti26 : tyInfo Try.prog 26 = some (true, 5) := by rfl
@[go_sem] theorem tb26 : tyBytes Try.prog 26 = 72 := by rfl
@[go_sem] theorem tz26 : tyZero Try.prog 26 = some (PV.agg [PV.int IntKind.i64 0, PV.str [], PV.str [], PV.str [], PV.str []]) := by rfl
@[go_sem] theorem tk27 : tyKind Try.prog 27 = TyKind.struct := by rfl
@[go_sem] theorem ti27 : tyInfo Try.prog 27 = some (true, 5) := by rfl
@[go_sem] theorem tb27 : tyBytes Try.prog 27 = 72 := by rfl
@[go_sem] theorem tz27 : tyZero Try.prog 27 = some (PV.agg [PV.int IntKind.i64 0, PV.str [], PV.str [], PV.str [], PV.str []]) := by rfl
@[go_sem] theorem ti28 : tyInfo Try.prog 28 = some (false, 1) := by rfl
@[go_sem] theorem ti29 : tyInfo Try.prog 29 = some (false, 1) := by rfl
@[go_sem] theorem tk30 : tyKind Try.prog 30 = TyKind.struct := by rfl
@[go_sem] theorem ti30 : tyInfo Try.prog 30 = some (true, 5) := by rfl
@[go_sem] theorem tb30 : tyBytes Try.prog 30 = 72 := by rfl
@[go_sem] theorem tz30 : tyZero Try.prog 30 = some (PV.agg [PV.int IntKind.i64 0, PV.str [], PV.str [], PV.str [], PV.str []]) := by rfl
@[go_sem] theorem ti31 : tyInfo Try.prog 31 = some (false, 1) := by rfl
@[go_sem] theorem ti32 : tyInfo Try.prog 32 = some (false, 1) := by rfl
@[go_sem] theorem ti33 : tyInfo Try.prog 33 = some (false, 1) := by rfl
@[go_sem] theorem tk34 : tyKind Try.prog 34 = TyKind.slice 27 := by rfl
@[go_sem] theorem ti34 : tyInfo Try.prog 34 = some (false, 1) := by rfl
@[go_sem] theorem tb34 : tyBytes Try.prog 34 = 24 := by rfl
@[go_sem] theorem tz34 : tyZero Try.prog 34 = some (PV.slice true []) := by rfl
@[go_sem] theorem ti35 : tyInfo Try.prog 35 = some (false, 1) := by rfl
@[go_sem] theorem ti36 : tyInfo Try.prog 36 = some (false, 1) := by rfl
@[go_sem] theorem tk37 : tyKind Try.prog 37 = TyKind.slice 30 := by rfl
@[go_sem] theorem ti37 : tyInfo Try.prog 37 = some (false, 1) := by rfl
@[go_sem] theorem tb37 : tyBytes Try.prog 37 = 24 := by rfl
@[go_sem] theorem tz37 : tyZero Try.prog 37 = some (PV.slice true []) := by rfl
@[go_sem] theorem ti38 : tyInfo Try.prog 38 = some (false, 1) := by rfl
@[go_sem] theorem ti39 : tyInfo Try.prog 39 = some (false, 1) := by rfl
@[go_sem] theorem ti40 : tyInfo Try.prog 40 = some (false, 1) := by rfl
@[go_sem] theorem ti41 : tyInfo Try.prog 41 = some (false, 1) := by rfl
@[go_sem] theorem ti42 : tyInfo Try.prog 42 = some (false, 1) := by rfl
@[go_sem] theorem ti43 : tyInfo Try.prog 43 = some (false, 1) := by rfl
@[go_sem] theorem ti44 : tyInfo Try.prog 44 = some (false, 1) := by rfl
@[go_sem] theorem ti45 : tyInfo Try.prog 45 = some (false, 1) := by rfl
@[go_sem] theorem ti46 : tyInfo Try.prog 46 = some (false, 1) := by rfl
@[go_sem] theorem ti47 : tyInfo Try.prog 47 = some (false, 1) := by rfl
@[go_sem] theorem ti48 : tyInfo Try.prog 48 = some (false, 1) := by rfl
@[go_sem] theorem ti49 : tyInfo Try.prog 49 = some (false, 1) := by rfl
@[go_sem] theorem ti50 : tyInfo Try.prog 50 = some (false, 1) := by rfl
@[go_sem] theorem ti51 : tyInfo Try.prog 51 = some (false, 1) := by rfl
@[go_sem] theorem ti52 : tyInfo Try.prog 52 = some (false, 1) := by rfl
@[go_sem] theorem ti53 : tyInfo Try.prog 53 = some (false, 1) := by rfl
@[go_sem] theorem ti54 : tyInfo Try.prog 54 = some (false, 1) := by rfl
@[go_sem] theorem ti55 : tyInfo Try.prog 55 = some (false, 1) := by rfl
@[go_sem] theorem ti56 : tyInfo Try.prog 56 = some (false, 1) := by rfl
@[go_sem] theorem ti57 : tyInfo Try.prog 57 = some (false, 1) := by rfl
@[go_sem] theorem tk58 : tyKind Try.prog 58 = TyKind.struct := by rfl
@[go_sem] theorem ti58 : tyInfo Try.prog 58 = some (true, 4) := by rfl
@[go_sem] theorem tb58 : tyBytes Try.prog 58 = 40 := by rfl
@[go_sem] theorem tz58 : tyZero Try.prog 58 = some (PV.agg [PV.nilptr, PV.nilptr, PV.nilptr, PV.str []]) := by rfl
@[go_sem] theorem tk59 : tyKind Try.prog 59 = TyKind.struct := by rfl
@[go_sem] theorem ti59 : tyInfo Try.prog 59 = some (true, 4) := by rfl
@[go_sem] theorem tb59 : tyBytes Try.prog 59 = 40 := by rfl
@[go_sem] theorem tz59 : tyZero Try.prog 59 = some (PV.agg [PV.nilptr, PV.nilptr, PV.nilptr, PV.str []]) := by rfl
@[go_sem] theorem tk60 : tyKind Try.prog 60 = TyKind.array 0 16 := by rfl
@[go_sem] theorem ti60 : tyInfo Try.prog 60 = some (true, 0) := by rfl
@[go_sem] theorem tb60 : tyBytes Try.prog 60 = 0 := by rfl
@[go_sem] theorem tz60 : tyZero Try.prog 60 = some (PV.agg []) := by rfl
@[go_sem] theorem tk61 : tyKind Try.prog 61 = TyKind.struct := by rfl
@[go_sem] theorem ti61 : tyInfo Try.prog 61 = some (true, 0) := by rfl
@[go_sem] theorem tb61 : tyBytes Try.prog 61 = 0 := by rfl
@[go_sem] theorem tz61 : tyZero Try.prog 61 = some (PV.agg []) := by rfl
@[go_sem] theorem tk62 : tyKind Try.prog 62 = TyKind.struct := by rfl
@[go_sem] theorem ti62 : tyInfo Try.prog 62 = some (true, 0) := by rfl
@[go_sem] theorem tb62 : tyBytes Try.prog 62 = 0 := by rfl
@[go_sem] theorem tz62 : tyZero Try.prog 62 = some (PV.agg []) := by rfl
@[go_sem] theorem ti63 : tyInfo Try.prog 63 = some (false, 1) := by rfl
@[go_sem] theorem tk64 : tyKind Try.prog 64 = TyKind.int IntKind.u32 := by rfl
@[go_sem] theorem ti64 : tyInfo Try.prog 64 = some (false, 1) := by rfl
@[go_sem] theorem tb64 : tyBytes Try.prog 64 = 4 := by rfl
@[go_sem] theorem tz64 : tyZero Try.prog 64 = some (PV.int IntKind.u32 0) := by rfl
@[go_sem] theorem tk65 : tyKind Try.prog 65 = TyKind.int IntKind.u8 := by rfl
@[go_sem] theorem ti65 : tyInfo Try.prog 65 = some (false, 1) := by rfl
@[go_sem] theorem tb65 : tyBytes Try.prog 65 = 1 := by rfl
@[go_sem] theorem tz65 : tyZero Try.prog 65 = some (PV.int IntKind.u8 0) := by rfl
@[go_sem] theorem tk66 : tyKind Try.prog 66 = TyKind.int IntKind.u8 := by rfl
@[go_sem] theorem ti66 : tyInfo Try.prog 66 = some (false, 1) := by rfl
@[go_sem] theorem tb66 : tyBytes Try.prog 66 = 1 := by rfl
@[go_sem] theorem tz66 : tyZero Try.prog 66 = some (PV.int IntKind.u8 0) := by rfl
@[go_sem] theorem ti67 : tyInfo Try.prog 67 = some (false, 1) := by rfl
@[go_sem] theorem tk68 : tyKind Try.prog 68 = TyKind.ptr 5 := by rfl
@[go_sem] theorem ti68 : tyInfo Try.prog 68 = some (false, 1) := by rfl
@[go_sem] theorem tb68 : tyBytes Try.prog 68 = 8 := by rfl
@[go_sem] theorem tz68 : tyZero Try.prog 68 = some PV.nilptr := by rfl
@[go_sem] theorem tk69 : tyKind Try.prog 69 = TyKind.int IntKind.i32 := by rfl
@[go_sem] theorem ti69 : tyInfo Try.prog 69 = some (false, 1) := by rfl
@[go_sem] theorem tb69 : tyBytes Try.prog 69 = 4 := by rfl
@[go_sem] theorem tz69 : tyZero Try.prog 69 = some (PV.int IntKind.i32 0) := by rfl
@[go_sem] theorem tk70 : tyKind Try.prog 70 = TyKind.int IntKind.i32 := by rfl
@[go_sem] theorem ti70 : tyInfo Try.prog 70 = some (false, 1) := by rfl
@[go_sem] theorem tb70 : tyBytes Try.prog 70 = 4 := by rfl
@[go_sem] theorem tz70 : tyZero Try.prog 70 = some (PV.int IntKind.i32 0) := by rfl
@[go_sem] theorem tk71 : tyKind Try.prog 71 = TyKind.struct := by rfl
@[go_sem] theorem ti71 : tyInfo Try.prog 71 = some (true, 11) := by rfl
@[go_sem] theorem tb71 : tyBytes Try.prog 71 = 48 := by rfl
@[go_sem] theorem tz71 : tyZero Try.prog 71 = some (PV.agg [PV.int IntKind.u64 0, PV.int IntKind.u64 0, PV.int IntKind.u32 0, PV.int IntKind.u8 0, PV.int IntKind.u8 0, PV.int IntKind.u8 0, PV.int IntKind.u8 0, PV.nilfunc, PV.nilptr, PV.int IntKind.i32 0, PV.int IntKind.i32 0]) := by rfl
@[go_sem] theorem tk72 : tyKind Try.prog 72 = TyKind.struct := by rfl
@[go_sem] theorem ti72 : tyInfo Try.prog 72 = some (true, 11) := by rfl
@[go_sem] theorem tb72 : tyBytes Try.prog 72 = 48 := by rfl
@[go_sem] theorem tz72 : tyZero Try.prog 72 = some (PV.agg [PV.int IntKind.u64 0, PV.int IntKind.u64 0, PV.int IntKind.u32 0, PV.int IntKind.u8 0, PV.int IntKind.u8 0, PV.int IntKind.u8 0, PV.int IntKind.u8 0, PV.nilfunc, PV.nilptr, PV.int IntKind.i32 0, PV.int IntKind.i32 0]) := by rfl
@[go_sem] theorem ti73 : tyInfo Try.prog 73 = some (false, 1) := by rfl
@[go_sem] theorem tf7_0 : tyField Try.prog 7 0 = some (0, false, 1) := by rfl
@[go_sem] theorem tf7_1 : tyField Try.prog 7 1 = some (1, false, 1) := by rfl
@[go_sem] theorem tf7_2 : tyField Try.prog 7 2 = some (2, false, 1) := by rfl
@[go_sem] theorem tf7_3 : tyField Try.prog 7 3 = some (3, false, 1) := by rfl
@[go_sem] theorem tf8_0 : tyField Try.prog 8 0 = some (0, false, 1) := by rfl
@[go_sem] theorem tf8_1 : tyField Try.prog 8 1 = some (1, false, 1) := by rfl
@[go_sem] theorem tf8_2 : tyField Try.prog 8 2 = some (2, false, 1) := by rfl
@[go_sem] theorem tf8_3 : tyField Try.prog 8 3 = some (3, false, 1) := by rfl
@[go_sem] theorem tf13_0 : tyField Try.prog 13 0 = some (0, false, 1) := by rfl
@[go_sem] theorem tf13_1 : tyField Try.prog 13 1 = some (1, false, 1) := by rfl
@[go_sem] theorem tf14_0 : tyField Try.prog 14 0 = some (0, false, 1) := by rfl
@[go_sem] theorem tf14_1 : tyField Try.prog 14 1 = some (1, false, 1) := by rfl
@[go_sem] theorem tf18_0 : tyField Try.prog 18 0 = some (0, false, 1) := by rfl
@[go_sem] theorem tf19_0 : tyField Try.prog 19 0 = some (0, false, 1) := by rfl
@[go_sem] theorem tf26_0 : tyField Try.prog 26 0 = some (0, false, 1) := by rfl
@[go_sem] theorem tf26_1 : tyField Try.prog 26 1 = some (1, false, 1) := by rfl
@[go_sem] theorem tf26_2 : tyField Try.prog 26 2 = some (2, false, 1) := by rfl
@[go_sem] theorem tf26_3 : tyField Try.prog 26 3 = some (3, false, 1) := by rfl
@[go_sem] theorem tf26_4 : tyField Try.prog 26 4 = some (4, false, 1) := by rfl
@[go_sem] theorem tf27_0 : tyField Try.prog 27 0 = some (0, false, 1) := by rfl
@[go_sem] theorem tf27_1 : tyField Try.prog 27 1 = some (1, false, 1) := by rfl
@[go_sem] theorem tf27_2 : tyField Try.prog 27 2 = some (2, false, 1) := by rfl
@[go_sem] theorem tf27_3 : tyField Try.prog 27 3 = some (3, false, 1) := by rfl
@[go_sem] theorem tf27_4 : tyField Try.prog 27 4 = some (4, false, 1) := by rfl
@[go_sem] theorem tf30_0 : tyField Try.prog 30 0 = some (0, false, 1) := by rfl
@[go_sem] theorem tf30_1 : tyField Try.prog 30 1 = some (1, false, 1) := by rfl
@[go_sem] theorem tf30_2 : tyField Try.prog 30 2 = some (2, false, 1) := by rfl
@[go_sem] theorem tf30_3 : tyField Try.prog 30 3 = some (3, false, 1) := by rfl
@[go_sem] theorem tf30_4 : tyField Try.prog 30 4 = some (4, false, 1) := by rfl
@[go_sem] theorem tf58_0 : tyField Try.prog 58 0 = some (0, false, 1) := by rfl
@[go_sem] theorem tf58_1 : tyField Try.prog 58 1 = some (1, false, 1) := by rfl
@[go_sem] theorem tf58_2 : tyField Try.prog 58 2 = some (2, false, 1) := by rfl
@[go_sem] theorem tf58_3 : tyField Try.prog 58 3 = some (3, false, 1) := by rfl
@[go_sem] theorem tf59_0 : tyField Try.prog 59 0 = some (0, false, 1) := by rfl
@[go_sem] theorem tf59_1 : tyField Try.prog 59 1 = some (1, false, 1) := by rfl
@[go_sem] theorem tf59_2 : tyField Try.prog 59 2 = some (2, false, 1) := by rfl
@[go_sem] theorem tf59_3 : tyField Try.prog 59 3 = some (3, false, 1) := by rfl
@[go_sem] theorem tf61_0 : tyField Try.prog 61 0 = some (0, true, 0) := by rfl
@[go_sem] theorem tf62_0 : tyField Try.prog 62 0 = some (0, true, 0) := by rfl
@[go_sem] theorem tf71_0 : tyField Try.prog 71 0 = some (0, false, 1) := by rfl
@[go_sem] theorem tf71_1 : tyField Try.prog 71 1 = some (1, false, 1) := by rfl
@[go_sem] theorem tf71_2 : tyField Try.prog 71 2 = some (2, false, 1) := by rfl
@[go_sem] theorem tf71_3 : tyField Try.prog 71 3 = some (3, false, 1) := by rfl
@[go_sem] theorem tf71_4 : tyField Try.prog 71 4 = some (4, false, 1) := by rfl
@[go_sem] theorem tf71_5 : tyField Try.prog 71 5 = some (5, false, 1) := by rfl
@[go_sem] theorem tf71_6 : tyField Try.prog 71 6 = some (6, false, 1) := by rfl
@[go_sem] theorem tf71_7 : tyField Try.prog 71 7 = some (7, false, 1) := by rfl
@[go_sem] theorem tf71_8 : tyField Try.prog 71 8 = some (8, false, 1) := by rfl
@[go_sem] theorem tf71_9 : tyField Try.prog 71 9 = some (9, false, 1) := by rfl
@[go_sem] theorem tf71_10 : tyField Try.prog 71 10 = some (10, false, 1) := by rfl
@[go_sem] theorem tf72_0 : tyField Try.prog 72 0 = some (0, false, 1) := by rfl
@[go_sem] theorem tf72_1 : tyField Try.prog 72 1 = some (1, false, 1) := by rfl
@[go_sem] theorem tf72_2 : tyField Try.prog 72 2 = some (2, false, 1) := by rfl
@[go_sem] theorem tf72_3 : tyField Try.prog 72 3 = some (3, false, 1) := by rfl
@[go_sem] theorem tf72_4 : tyField Try.prog 72 4 = some (4, false, 1) := by rfl
@[go_sem] theorem tf72_5 : tyField Try.prog 72 5 = some (5, false, 1) := by rfl
@[go_sem] theorem tf72_6 : tyField Try.prog 72 6 = some (6, false, 1) := by rfl
@[go_sem] theorem tf72_7 : tyField Try.prog 72 7 = some (7, false, 1) := by rfl
@[go_sem] theorem tf72_8 : tyField Try.prog 72 8 = some (8, false, 1) := by rfl
@[go_sem] theorem tf72_9 : tyField Try.prog 72 9 = some (9, false, 1) := by rfl
@[go_sem] theorem tf72_10 : tyField Try.prog 72 10 = some (10, false, 1) := by rfl
@[go_sem] theorem tu7 : tyBuild Try.prog 7 = some ([PV.int IntKind.i64 0, PV.int IntKind.i64 0, PV.bool false, PV.int IntKind.u8 0], [(0, 1), (1, 1), (2, 1), (3, 1)]) := by rfl
@[go_sem] theorem tu8 : tyBuild Try.prog 8 = some ([PV.int IntKind.i64 0, PV.int IntKind.i64 0, PV.bool false, PV.int IntKind.u8 0], [(0, 1), (1, 1), (2, 1), (3, 1)]) := by rfl
@[go_sem] theorem tu13 : tyBuild Try.prog 13 = some ([PV.str [], PV.int IntKind.u64 0], [(0, 1), (1, 1)]) := by rfl
@[go_sem] theorem tu14 : tyBuild Try.prog 14 = some ([PV.str [], PV.int IntKind.u64 0], [(0, 1), (1, 1)]) := by rfl
@[go_sem] theorem tu18 : tyBuild Try.prog 18 = some ([PV.nilptr], [(0, 1)]) := by rfl
@[go_sem] theorem tu19 : tyBuild Try.prog 19 = some ([PV.nilptr], [(0, 1)]) := by rfl
@[go_sem] theorem tu26 : tyBuild Try.prog 26 = some ([PV.int IntKind.i64 0, PV.str [], PV.str [], PV.str [], PV.str []], [(0, 1), (1, 1), (2, 1), (3, 1), (4, 1)]) := by rfl
@[go_sem] theorem tu27 : tyBuild Try.prog 27 = some ([PV.int IntKind.i64 0, PV.str [], PV.str [], PV.str [], PV.str []], [(0, 1), (1, 1), (2, 1), (3, 1), (4, 1)]) := by rfl
@[go_sem] theorem tu30 : tyBuild Try.prog 30 = some ([PV.int IntKind.i64 0, PV.str [], PV.str [], PV.str [], PV.str []], [(0, 1), (1, 1), (2, 1), (3, 1), (4, 1)]) := by rfl
@[go_sem] theorem tu58 : tyBuild Try.prog 58 = some ([PV.nilptr, PV.nilptr, PV.nilptr, PV.str []], [(0, 1), (1, 1), (2, 1), (3, 1)]) := by rfl
@[go_sem] theorem tu59 : tyBuild Try.prog 59 = some ([PV.nilptr, PV.nilptr, PV.nilptr, PV.str []], [(0, 1), (1, 1), (2, 1), (3, 1)]) := by rfl
@[go_sem] theorem tu61 : tyBuild Try.prog 61 = some ([], [(0, 0)]) := by rfl
@[go_sem] theorem tu62 : tyBuild Try.prog 62 = some ([], [(0, 0)]) := by rfl
@[go_sem] theorem tu71 : tyBuild Try.prog 71 = some ([PV.int IntKind.u64 0, PV.int IntKind.u64 0, PV.int IntKind.u32 0, PV.int IntKind.u8 0, PV.int IntKind.u8 0, PV.int IntKind.u8 0, PV.int IntKind.u8 0, PV.nilfunc, PV.nilptr, PV.int IntKind.i32 0, PV.int IntKind.i32 0], [(0, 1), (1, 1), (2, 1), (3, 1), (4, 1), (5, 1), (6, 1), (7, 1), (8, 1), (9, 1), (10, 1)]) := by rfl
@[go_sem] theorem tu72 : tyBuild Try.prog 72 = some ([PV.int IntKind.u64 0, PV.int IntKind.u64 0, PV.int IntKind.u32 0, PV.int IntKind.u8 0, PV.int IntKind.u8 0, PV.int IntKind.u8 0, PV.int IntKind.u8 0, PV.nilfunc, PV.nilptr, PV.int IntKind.i32 0, PV.int IntKind.i32 0], [(0, 1), (1, 1), (2, 1), (3, 1), (4, 1), (5, 1), (6, 1), (7, 1), (8, 1), (9, 1), (10, 1)]) := by rfl
end Go.Proofs.Ytdlfnlflinohdaa.V
