/- Closed facts on the types and functions of this seat, for a symbolic run. Written by a program (gentab.py). -/
import Derived.Test.YtembgehpgommgaaGreatProg
import Derived.Test.YtembgehpgommgaaGreatC08
set_option linter.unusedVariables false
set_option maxRecDepth 100000
namespace Go.Proofs.YtembgehpgommgaaGreat
theorem mixed : Tryz.prog.follows .mixedOrders = true := by kernel_rfl
theorem allFit : fitAll Tryz.prog = true := by kernel_rfl
theorem enter {W0 : World} {f : FuncId} {fn : Func} {c : Code} {args : List Value} {st : Heap} {R : Ending → Heap → Prop} (hf : Tryz.prog.funcs[f]? = some fn) (hb : fn.body = some c)
    (h : IW Tryz.prog W0 c (RetI Tryz.prog fn.results R) (fun ch st => R (.panicked ch) st) (Env.args args) st) : ICalls Tryz.prog W0 f args.toArray st R := ICalls_of' mixed allFit hf hb h
@[go_sem] theorem ti24 : tyInfo Tryz.prog 24 = some (true, 5) := by kernel_rfl
@[go_sem] theorem co11 : callOK Tryz.prog 11 = true := by kernel_rfl
@[go_sem] theorem fi31_0 : fldInfo Tryz.prog 31 0 = some (0, true, 5) := by kernel_rfl
@[go_sem] theorem ti28 : tyInfo Tryz.prog 28 = some (true, 5) := by kernel_rfl
@[go_sem] theorem co12 : callOK Tryz.prog 12 = true := by kernel_rfl
@[go_sem] theorem co13 : callOK Tryz.prog 13 = true := by kernel_rfl
@[go_sem] theorem ti31 : tyInfo Tryz.prog 31 = some (true, 11) := by kernel_rfl
@[go_sem] theorem co15 : callOK Tryz.prog 15 = true := by kernel_rfl
@[go_sem] theorem co14 : callOK Tryz.prog 14 = true := by kernel_rfl
@[go_sem] theorem co16 : callOK Tryz.prog 16 = true := by kernel_rfl
@[go_sem] theorem ti44 : tyInfo Tryz.prog 44 = some (true, 6) := by kernel_rfl
@[go_sem] theorem co17 : callOK Tryz.prog 17 = true := by kernel_rfl
@[go_sem] theorem co19 : callOK Tryz.prog 19 = true := by kernel_rfl
@[go_sem] theorem co18 : callOK Tryz.prog 18 = true := by kernel_rfl
@[go_sem] theorem co20 : callOK Tryz.prog 20 = true := by kernel_rfl
@[go_sem] theorem co21 : callOK Tryz.prog 21 = true := by kernel_rfl
@[go_sem] theorem si51 : slInfo Tryz.prog 51 = some (67, 8, 112, [(.slice none 0 0), (.int .i64 0), (.slice none 0 0), (.slice none 0 0), (.int .u64 0), (.int .u64 0), (.int .u64 0), (.int .u64 0)]) := by kernel_rfl
@[go_sem] theorem fi31_3 : fldInfo Tryz.prog 31 3 = some (7, false, 1) := by kernel_rfl
@[go_sem] theorem ti3 : tyInfo Tryz.prog 3 = some (false, 1) := by kernel_rfl
@[go_sem] theorem co22 : callOK Tryz.prog 22 = true := by kernel_rfl
@[go_sem] theorem co23 : callOK Tryz.prog 23 = true := by kernel_rfl
@[go_sem] theorem fi31_1 : fldInfo Tryz.prog 31 1 = some (5, false, 1) := by kernel_rfl
@[go_sem] theorem fi31_2 : fldInfo Tryz.prog 31 2 = some (6, false, 1) := by kernel_rfl
@[go_sem] theorem co24 : callOK Tryz.prog 24 = true := by kernel_rfl
@[go_sem] theorem co25 : callOK Tryz.prog 25 = true := by kernel_rfl
@[go_sem] theorem co26 : callOK Tryz.prog 26 = true := by kernel_rfl
@[go_sem] theorem si58 : slInfo Tryz.prog 58 = some (47, 4, 32, [(.int .i64 0), (.bool false), (.int .u64 0), (.int .i64 0)]) := by kernel_rfl
@[go_sem] theorem an58 : arrInfo Tryz.prog 58 = none := by kernel_rfl
@[go_sem] theorem ti47 : tyInfo Tryz.prog 47 = some (true, 4) := by kernel_rfl
@[go_sem] theorem co27 : callOK Tryz.prog 27 = true := by kernel_rfl
@[go_sem] theorem co28 : callOK Tryz.prog 28 = true := by kernel_rfl
@[go_sem] theorem fi31_4 : fldInfo Tryz.prog 31 4 = some (8, false, 1) := by kernel_rfl
@[go_sem] theorem ze31 : zeroOf Tryz.prog 31 = some (.agg #[(.int .i64 0), (.string ⟨#[]⟩), (.string ⟨#[]⟩), (.slice none 0 0), (.slice none 0 0), (.int .i64 0), (.int .i64 0), (.int .i64 0), (.int .i64 0), (.int .u64 0), (.int .u64 0)]) := by kernel_rfl
@[go_sem] theorem fi47_3 : fldInfo Tryz.prog 47 3 = some (3, false, 1) := by kernel_rfl
@[go_sem] theorem ti35 : tyInfo Tryz.prog 35 = some (false, 1) := by kernel_rfl
@[go_sem] theorem fi47_2 : fldInfo Tryz.prog 47 2 = some (2, false, 1) := by kernel_rfl
@[go_sem] theorem ti29 : tyInfo Tryz.prog 29 = some (false, 1) := by kernel_rfl
@[go_sem] theorem fi47_1 : fldInfo Tryz.prog 47 1 = some (1, false, 1) := by kernel_rfl
@[go_sem] theorem ti4 : tyInfo Tryz.prog 4 = some (false, 1) := by kernel_rfl
@[go_sem] theorem fi47_0 : fldInfo Tryz.prog 47 0 = some (0, false, 1) := by kernel_rfl
@[go_sem] theorem si26 : slInfo Tryz.prog 26 = some (28, 5, 88, [(.int .i64 0), (.string ⟨#[]⟩), (.string ⟨#[]⟩), (.slice none 0 0), (.slice none 0 0)]) := by kernel_rfl
@[go_sem] theorem bi28 : bldInfo Tryz.prog 28 = some ([(.int .i64 0), (.string ⟨#[]⟩), (.string ⟨#[]⟩), (.slice none 0 0), (.slice none 0 0)], [(0, 1), (1, 1), (2, 1), (3, 1), (4, 1)]) := by kernel_rfl
@[go_sem] theorem an51 : arrInfo Tryz.prog 51 = none := by kernel_rfl
@[go_sem] theorem fi67_0 : fldInfo Tryz.prog 67 0 = some (0, false, 1) := by kernel_rfl
@[go_sem] theorem ti65 : tyInfo Tryz.prog 65 = some (false, 1) := by kernel_rfl
@[go_sem] theorem si65 : slInfo Tryz.prog 65 = some (111, 2, 32, [(.string ⟨#[]⟩), (.string ⟨#[]⟩)]) := by kernel_rfl
@[go_sem] theorem co29 : callOK Tryz.prog 29 = true := by kernel_rfl
@[go_sem] theorem co30 : callOK Tryz.prog 30 = true := by kernel_rfl
@[go_sem] theorem bi31 : bldInfo Tryz.prog 31 = some ([(.int .i64 0), (.string ⟨#[]⟩), (.string ⟨#[]⟩), (.slice none 0 0), (.slice none 0 0), (.int .i64 0), (.int .i64 0), (.int .i64 0), (.int .i64 0), (.int .u64 0), (.int .u64 0)], [(0, 5), (5, 1), (6, 1), (7, 1), (8, 1), (9, 1), (10, 1)]) := by kernel_rfl
@[go_sem] theorem si40 : slInfo Tryz.prog 40 = some (29, 1, 8, [(.int .u64 0)]) := by kernel_rfl
@[go_sem] theorem co31 : callOK Tryz.prog 31 = true := by kernel_rfl
@[go_sem] theorem bi67 : bldInfo Tryz.prog 67 = some ([(.slice none 0 0), (.int .i64 0), (.slice none 0 0), (.slice none 0 0), (.int .u64 0), (.int .u64 0), (.int .u64 0), (.int .u64 0)], [(0, 1), (1, 1), (2, 6)]) := by kernel_rfl
@[go_sem] theorem ze67 : zeroOf Tryz.prog 67 = some (.agg #[(.slice none 0 0), (.int .i64 0), (.slice none 0 0), (.slice none 0 0), (.int .u64 0), (.int .u64 0), (.int .u64 0), (.int .u64 0)]) := by kernel_rfl
@[go_sem] theorem ti67 : tyInfo Tryz.prog 67 = some (true, 8) := by kernel_rfl
@[go_sem] theorem si70 : slInfo Tryz.prog 70 = some (3, 1, 8, [(.int .i64 0)]) := by kernel_rfl
@[go_sem] theorem an70 : arrInfo Tryz.prog 70 = none := by kernel_rfl
@[go_sem] theorem fi67_1 : fldInfo Tryz.prog 67 1 = some (1, false, 1) := by kernel_rfl
@[go_sem] theorem an40 : arrInfo Tryz.prog 40 = none := by kernel_rfl
@[go_sem] theorem co32 : callOK Tryz.prog 32 = true := by kernel_rfl
@[go_sem] theorem bi42 : bldInfo Tryz.prog 42 = some ([(.int .u64 0), (.int .u64 0), (.int .u64 0), (.int .u64 0)], [(0, 1), (1, 1), (2, 1), (3, 1)]) := by kernel_rfl
@[go_sem] theorem fi67_2 : fldInfo Tryz.prog 67 2 = some (2, true, 6) := by kernel_rfl
@[go_sem] theorem fi44_2 : fldInfo Tryz.prog 44 2 = some (2, true, 4) := by kernel_rfl
@[go_sem] theorem ti42 : tyInfo Tryz.prog 42 = some (true, 4) := by kernel_rfl
@[go_sem] theorem co34 : callOK Tryz.prog 34 = true := by kernel_rfl
@[go_sem] theorem ze47 : zeroOf Tryz.prog 47 = some (.agg #[(.int .i64 0), (.bool false), (.int .u64 0), (.int .i64 0)]) := by kernel_rfl
@[go_sem] theorem fi24_0 : fldInfo Tryz.prog 24 0 = some (0, false, 1) := by kernel_rfl
@[go_sem] theorem fi24_1 : fldInfo Tryz.prog 24 1 = some (1, true, 4) := by kernel_rfl
@[go_sem] theorem ai22 : arrInfo Tryz.prog 22 = some (4, false, 1, [(.int .i64 0), (.int .i64 0), (.int .i64 0), (.int .i64 0)]) := by kernel_rfl
@[go_sem] theorem ze3 : zeroOf Tryz.prog 3 = some (.int .i64 0) := by kernel_rfl
@[go_sem] theorem co35 : callOK Tryz.prog 35 = true := by kernel_rfl
@[go_sem] theorem bi22 : bldInfo Tryz.prog 22 = some ([(.int .i64 0), (.int .i64 0), (.int .i64 0), (.int .i64 0)], [(0, 1), (1, 1), (2, 1), (3, 1)]) := by kernel_rfl
@[go_sem] theorem bi24 : bldInfo Tryz.prog 24 = some ([(.int .i64 0), (.int .i64 0), (.int .i64 0), (.int .i64 0), (.int .i64 0)], [(0, 1), (1, 4)]) := by kernel_rfl
@[go_sem] theorem ze24 : zeroOf Tryz.prog 24 = some (.agg #[(.int .i64 0), (.int .i64 0), (.int .i64 0), (.int .i64 0), (.int .i64 0)]) := by kernel_rfl
@[go_sem] theorem co36 : callOK Tryz.prog 36 = true := by kernel_rfl
@[go_sem] theorem fi31_6 : fldInfo Tryz.prog 31 6 = some (10, false, 1) := by kernel_rfl
@[go_sem] theorem fi31_5 : fldInfo Tryz.prog 31 5 = some (9, false, 1) := by kernel_rfl
@[go_sem] theorem co38 : callOK Tryz.prog 38 = true := by kernel_rfl
@[go_sem] theorem co37 : callOK Tryz.prog 37 = true := by kernel_rfl
@[go_sem] theorem co40 : callOK Tryz.prog 40 = true := by kernel_rfl
@[go_sem] theorem co39 : callOK Tryz.prog 39 = true := by kernel_rfl
@[go_sem] theorem fi44_0 : fldInfo Tryz.prog 44 0 = some (0, false, 1) := by kernel_rfl
@[go_sem] theorem ti39 : tyInfo Tryz.prog 39 = some (false, 1) := by kernel_rfl
@[go_sem] theorem si39 : slInfo Tryz.prog 39 = some (120, 2, 16, [(.int .i64 0), (.int .u64 0)]) := by kernel_rfl
@[go_sem] theorem co41 : callOK Tryz.prog 41 = true := by kernel_rfl
@[go_sem] theorem fi44_1 : fldInfo Tryz.prog 44 1 = some (1, false, 1) := by kernel_rfl
@[go_sem] theorem ti40 : tyInfo Tryz.prog 40 = some (false, 1) := by kernel_rfl
@[go_sem] theorem co42 : callOK Tryz.prog 42 = true := by kernel_rfl
@[go_sem] theorem co43 : callOK Tryz.prog 43 = true := by kernel_rfl
@[go_sem] theorem co44 : callOK Tryz.prog 44 = true := by kernel_rfl
@[go_sem] theorem co45 : callOK Tryz.prog 45 = true := by kernel_rfl
@[go_sem] theorem co46 : callOK Tryz.prog 46 = true := by kernel_rfl
@[go_sem] theorem co47 : callOK Tryz.prog 47 = true := by kernel_rfl
@[go_sem] theorem co48 : callOK Tryz.prog 48 = true := by kernel_rfl
@[go_sem] theorem co49 : callOK Tryz.prog 49 = true := by kernel_rfl
@[go_sem] theorem fi42_0 : fldInfo Tryz.prog 42 0 = some (0, false, 1) := by kernel_rfl
@[go_sem] theorem fi42_2 : fldInfo Tryz.prog 42 2 = some (2, false, 1) := by kernel_rfl
@[go_sem] theorem fi42_3 : fldInfo Tryz.prog 42 3 = some (3, false, 1) := by kernel_rfl
@[go_sem] theorem fi42_1 : fldInfo Tryz.prog 42 1 = some (1, false, 1) := by kernel_rfl
@[go_sem] theorem ze44 : zeroOf Tryz.prog 44 = some (.agg #[(.slice none 0 0), (.slice none 0 0), (.int .u64 0), (.int .u64 0), (.int .u64 0), (.int .u64 0)]) := by kernel_rfl
@[go_sem] theorem co50 : callOK Tryz.prog 50 = true := by kernel_rfl
@[go_sem] theorem co51 : callOK Tryz.prog 51 = true := by kernel_rfl
@[go_sem] theorem bi47 : bldInfo Tryz.prog 47 = some ([(.int .i64 0), (.bool false), (.int .u64 0), (.int .i64 0)], [(0, 1), (1, 1), (2, 1), (3, 1)]) := by kernel_rfl
@[go_sem] theorem co52 : callOK Tryz.prog 52 = true := by kernel_rfl
@[go_sem] theorem co53 : callOK Tryz.prog 53 = true := by kernel_rfl
@[go_sem] theorem co54 : callOK Tryz.prog 54 = true := by kernel_rfl
@[go_sem] theorem bi97 : bldInfo Tryz.prog 97 = some ([(.int .i64 0), (.int .i64 0), (.bool false)], [(0, 1), (1, 1), (2, 1)]) := by kernel_rfl
@[go_sem] theorem co55 : callOK Tryz.prog 55 = true := by kernel_rfl
@[go_sem] theorem fi97_2 : fldInfo Tryz.prog 97 2 = some (2, false, 1) := by kernel_rfl
@[go_sem] theorem co56 : callOK Tryz.prog 56 = true := by kernel_rfl
@[go_sem] theorem co58 : callOK Tryz.prog 58 = true := by kernel_rfl
@[go_sem] theorem co57 : callOK Tryz.prog 57 = true := by kernel_rfl
@[go_sem] theorem ze51 : zeroOf Tryz.prog 51 = some (.slice none 0 0) := by kernel_rfl
@[go_sem] theorem ti51 : tyInfo Tryz.prog 51 = some (false, 1) := by kernel_rfl
@[go_sem] theorem co59 : callOK Tryz.prog 59 = true := by kernel_rfl
@[go_sem] theorem ze58 : zeroOf Tryz.prog 58 = some (.slice none 0 0) := by kernel_rfl
@[go_sem] theorem co62 : callOK Tryz.prog 62 = true := by kernel_rfl
@[go_sem] theorem ti58 : tyInfo Tryz.prog 58 = some (false, 1) := by kernel_rfl
@[go_sem] theorem co63 : callOK Tryz.prog 63 = true := by kernel_rfl
@[go_sem] theorem co64 : callOK Tryz.prog 64 = true := by kernel_rfl
@[go_sem] theorem co65 : callOK Tryz.prog 65 = true := by kernel_rfl
@[go_sem] theorem an65 : arrInfo Tryz.prog 65 = none := by kernel_rfl
@[go_sem] theorem fi111_0 : fldInfo Tryz.prog 111 0 = some (0, false, 1) := by kernel_rfl
@[go_sem] theorem ti9 : tyInfo Tryz.prog 9 = some (false, 1) := by kernel_rfl
@[go_sem] theorem co66 : callOK Tryz.prog 66 = true := by kernel_rfl
@[go_sem] theorem fi111_1 : fldInfo Tryz.prog 111 1 = some (1, false, 1) := by kernel_rfl
@[go_sem] theorem ze28 : zeroOf Tryz.prog 28 = some (.agg #[(.int .i64 0), (.string ⟨#[]⟩), (.string ⟨#[]⟩), (.slice none 0 0), (.slice none 0 0)]) := by kernel_rfl
@[go_sem] theorem co67 : callOK Tryz.prog 67 = true := by kernel_rfl
@[go_sem] theorem bi111 : bldInfo Tryz.prog 111 = some ([(.string ⟨#[]⟩), (.string ⟨#[]⟩)], [(0, 1), (1, 1)]) := by kernel_rfl
@[go_sem] theorem co68 : callOK Tryz.prog 68 = true := by kernel_rfl
@[go_sem] theorem co69 : callOK Tryz.prog 69 = true := by kernel_rfl
@[go_sem] theorem fi28_1 : fldInfo Tryz.prog 28 1 = some (1, false, 1) := by kernel_rfl
@[go_sem] theorem fi28_2 : fldInfo Tryz.prog 28 2 = some (2, false, 1) := by kernel_rfl
@[go_sem] theorem fi28_3 : fldInfo Tryz.prog 28 3 = some (3, false, 1) := by kernel_rfl
@[go_sem] theorem ti25 : tyInfo Tryz.prog 25 = some (false, 1) := by kernel_rfl
@[go_sem] theorem si25 : slInfo Tryz.prog 25 = some (9, 1, 16, [(.string ⟨#[]⟩)]) := by kernel_rfl
@[go_sem] theorem an25 : arrInfo Tryz.prog 25 = none := by kernel_rfl
@[go_sem] theorem fi28_4 : fldInfo Tryz.prog 28 4 = some (4, false, 1) := by kernel_rfl
@[go_sem] theorem ti26 : tyInfo Tryz.prog 26 = some (false, 1) := by kernel_rfl
@[go_sem] theorem an26 : arrInfo Tryz.prog 26 = none := by kernel_rfl
@[go_sem] theorem bi116 : bldInfo Tryz.prog 116 = some ([(.int .i64 0), (.int .i64 0)], [(0, 1), (1, 1)]) := by kernel_rfl
@[go_sem] theorem co70 : callOK Tryz.prog 70 = true := by kernel_rfl
@[go_sem] theorem co71 : callOK Tryz.prog 71 = true := by kernel_rfl
@[go_sem] theorem co72 : callOK Tryz.prog 72 = true := by kernel_rfl
@[go_sem] theorem co73 : callOK Tryz.prog 73 = true := by kernel_rfl
@[go_sem] theorem co74 : callOK Tryz.prog 74 = true := by kernel_rfl
@[go_sem] theorem an39 : arrInfo Tryz.prog 39 = none := by kernel_rfl
@[go_sem] theorem fi120_0 : fldInfo Tryz.prog 120 0 = some (0, false, 1) := by kernel_rfl
@[go_sem] theorem fi120_1 : fldInfo Tryz.prog 120 1 = some (1, false, 1) := by kernel_rfl
@[go_sem] theorem co75 : callOK Tryz.prog 75 = true := by kernel_rfl
@[go_sem] theorem co76 : callOK Tryz.prog 76 = true := by kernel_rfl
@[go_sem] theorem co77 : callOK Tryz.prog 77 = true := by kernel_rfl
@[go_sem] theorem co78 : callOK Tryz.prog 78 = true := by kernel_rfl
@[go_sem] theorem co79 : callOK Tryz.prog 79 = true := by kernel_rfl
@[go_sem] theorem co80 : callOK Tryz.prog 80 = true := by kernel_rfl
@[go_sem] theorem co81 : callOK Tryz.prog 81 = true := by kernel_rfl
@[go_sem] theorem fi130_0 : fldInfo Tryz.prog 130 0 = some (0, true, 7424) := by kernel_rfl
@[go_sem] theorem ti128 : tyInfo Tryz.prog 128 = some (true, 7424) := by kernel_rfl
@[go_sem] theorem ai128 : arrInfo Tryz.prog 128 = some (7424, false, 1, (List.replicate 7424 (.int .u64 0))) := by kernel_rfl
@[go_sem] theorem co82 : callOK Tryz.prog 82 = true := by kernel_rfl
@[go_sem] theorem co83 : callOK Tryz.prog 83 = true := by kernel_rfl
@[go_sem] theorem co84 : callOK Tryz.prog 84 = true := by kernel_rfl
@[go_sem] theorem co85 : callOK Tryz.prog 85 = true := by kernel_rfl
@[go_sem] theorem co86 : callOK Tryz.prog 86 = true := by kernel_rfl
@[go_sem] theorem co87 : callOK Tryz.prog 87 = true := by kernel_rfl
@[go_sem] theorem fi97_0 : fldInfo Tryz.prog 97 0 = some (0, false, 1) := by kernel_rfl
@[go_sem] theorem fi28_0 : fldInfo Tryz.prog 28 0 = some (0, false, 1) := by kernel_rfl
@[go_sem] theorem co88 : callOK Tryz.prog 88 = true := by kernel_rfl
@[go_sem] theorem co89 : callOK Tryz.prog 89 = true := by kernel_rfl
@[go_sem] theorem co90 : callOK Tryz.prog 90 = true := by kernel_rfl
@[go_sem] theorem co91 : callOK Tryz.prog 91 = true := by kernel_rfl
@[go_sem] theorem co92 : callOK Tryz.prog 92 = true := by kernel_rfl
@[go_sem] theorem co93 : callOK Tryz.prog 93 = true := by kernel_rfl
@[go_sem] theorem co94 : callOK Tryz.prog 94 = true := by kernel_rfl
@[go_sem] theorem co60 : callOK Tryz.prog 60 = true := by kernel_rfl
@[go_sem] theorem ti101 : tyInfo Tryz.prog 101 = some (false, 1) := by kernel_rfl
@[go_sem] theorem co61 : callOK Tryz.prog 61 = true := by kernel_rfl
@[go_sem] theorem co95 : callOK Tryz.prog 95 = true := by kernel_rfl
@[go_sem] theorem si141 : slInfo Tryz.prog 141 = some (44, 6, 80, [(.slice none 0 0), (.slice none 0 0), (.int .u64 0), (.int .u64 0), (.int .u64 0), (.int .u64 0)]) := by kernel_rfl
@[go_sem] theorem co96 : callOK Tryz.prog 96 = true := by kernel_rfl
@[go_sem] theorem co97 : callOK Tryz.prog 97 = true := by kernel_rfl
@[go_sem] theorem co98 : callOK Tryz.prog 98 = true := by kernel_rfl
@[go_sem] theorem co99 : callOK Tryz.prog 99 = true := by kernel_rfl
@[go_sem] theorem co100 : callOK Tryz.prog 100 = true := by kernel_rfl
@[go_sem] theorem bi44 : bldInfo Tryz.prog 44 = some ([(.slice none 0 0), (.slice none 0 0), (.int .u64 0), (.int .u64 0), (.int .u64 0), (.int .u64 0)], [(0, 1), (1, 1), (2, 4)]) := by kernel_rfl
@[go_sem] theorem co101 : callOK Tryz.prog 101 = true := by kernel_rfl
@[go_sem] theorem co102 : callOK Tryz.prog 102 = true := by kernel_rfl
@[go_sem] theorem an9 : arrInfo Tryz.prog 9 = none := by kernel_rfl
@[go_sem] theorem fi116_0 : fldInfo Tryz.prog 116 0 = some (0, false, 1) := by kernel_rfl
@[go_sem] theorem co103 : callOK Tryz.prog 103 = true := by kernel_rfl
@[go_sem] theorem fi116_1 : fldInfo Tryz.prog 116 1 = some (1, false, 1) := by kernel_rfl
@[go_sem] theorem ze22 : zeroOf Tryz.prog 22 = some (.agg #[(.int .i64 0), (.int .i64 0), (.int .i64 0), (.int .i64 0)]) := by kernel_rfl
@[go_sem] theorem ti22 : tyInfo Tryz.prog 22 = some (true, 4) := by kernel_rfl
@[go_sem] theorem co104 : callOK Tryz.prog 104 = true := by kernel_rfl
@[go_sem] theorem bi130 : bldInfo Tryz.prog 130 = some ((List.replicate 7424 (.int .u64 0)), [(0, 7424)]) := by kernel_rfl
@[go_sem] theorem co105 : callOK Tryz.prog 105 = true := by kernel_rfl
@[go_sem] theorem ti120 : tyInfo Tryz.prog 120 = some (true, 2) := by kernel_rfl
@[go_sem] theorem ze120 : zeroOf Tryz.prog 120 = some (.agg #[(.int .i64 0), (.int .u64 0)]) := by kernel_rfl
@[go_sem] theorem co106 : callOK Tryz.prog 106 = true := by kernel_rfl
@[go_sem] theorem co107 : callOK Tryz.prog 107 = true := by kernel_rfl
@[go_sem] theorem co108 : callOK Tryz.prog 108 = true := by kernel_rfl
@[go_sem] theorem co110 : callOK Tryz.prog 110 = true := by kernel_rfl
@[go_sem] theorem co109 : callOK Tryz.prog 109 = true := by kernel_rfl
@[go_sem] theorem ze152 : zeroOf Tryz.prog 152 = some (.agg #[(.int .u64 0), (.int .u64 0), (.bool false)]) := by kernel_rfl
@[go_sem] theorem ti152 : tyInfo Tryz.prog 152 = some (true, 3) := by kernel_rfl
@[go_sem] theorem bi152 : bldInfo Tryz.prog 152 = some ([(.int .u64 0), (.int .u64 0), (.bool false)], [(0, 1), (1, 1), (2, 1)]) := by kernel_rfl
@[go_sem] theorem fi152_1 : fldInfo Tryz.prog 152 1 = some (1, false, 1) := by kernel_rfl
@[go_sem] theorem fi152_0 : fldInfo Tryz.prog 152 0 = some (0, false, 1) := by kernel_rfl
@[go_sem] theorem co111 : callOK Tryz.prog 111 = true := by kernel_rfl
@[go_sem] theorem bi154 : bldInfo Tryz.prog 154 = some ([(.int .u64 0), (.int .u64 0)], [(0, 1), (1, 1)]) := by kernel_rfl
@[go_sem] theorem fi152_2 : fldInfo Tryz.prog 152 2 = some (2, false, 1) := by kernel_rfl
@[go_sem] theorem co112 : callOK Tryz.prog 112 = true := by kernel_rfl
@[go_sem] theorem fi97_1 : fldInfo Tryz.prog 97 1 = some (1, false, 1) := by kernel_rfl
@[go_sem] theorem co113 : callOK Tryz.prog 113 = true := by kernel_rfl
@[go_sem] theorem co114 : callOK Tryz.prog 114 = true := by kernel_rfl
@[go_sem] theorem co115 : callOK Tryz.prog 115 = true := by kernel_rfl
@[go_sem] theorem co116 : callOK Tryz.prog 116 = true := by kernel_rfl
@[go_sem] theorem co117 : callOK Tryz.prog 117 = true := by kernel_rfl
@[go_sem] theorem co118 : callOK Tryz.prog 118 = true := by kernel_rfl
@[go_sem] theorem co119 : callOK Tryz.prog 119 = true := by kernel_rfl
@[go_sem] theorem ze42 : zeroOf Tryz.prog 42 = some (.agg #[(.int .u64 0), (.int .u64 0), (.int .u64 0), (.int .u64 0)]) := by kernel_rfl
@[go_sem] theorem an141 : arrInfo Tryz.prog 141 = none := by kernel_rfl
@[go_sem] theorem co120 : callOK Tryz.prog 120 = true := by kernel_rfl
@[go_sem] theorem co121 : callOK Tryz.prog 121 = true := by kernel_rfl
@[go_sem] theorem co122 : callOK Tryz.prog 122 = true := by kernel_rfl
@[go_sem] theorem co123 : callOK Tryz.prog 123 = true := by kernel_rfl
@[go_sem] theorem bi120 : bldInfo Tryz.prog 120 = some ([(.int .i64 0), (.int .u64 0)], [(0, 1), (1, 1)]) := by kernel_rfl
@[go_sem] theorem ti111 : tyInfo Tryz.prog 111 = some (true, 2) := by kernel_rfl
@[go_sem] theorem co124 : callOK Tryz.prog 124 = true := by kernel_rfl
@[go_sem] theorem co125 : callOK Tryz.prog 125 = true := by kernel_rfl
@[go_sem] theorem co127 : callOK Tryz.prog 127 = true := by kernel_rfl
@[go_sem] theorem ai154 : arrInfo Tryz.prog 154 = some (2, false, 1, [(.int .u64 0), (.int .u64 0)]) := by kernel_rfl
@[go_sem] theorem co128 : callOK Tryz.prog 128 = true := by kernel_rfl
@[go_sem] theorem ze154 : zeroOf Tryz.prog 154 = some (.agg #[(.int .u64 0), (.int .u64 0)]) := by kernel_rfl
@[go_sem] theorem co129 : callOK Tryz.prog 129 = true := by kernel_rfl
@[go_sem] theorem ti154 : tyInfo Tryz.prog 154 = some (true, 2) := by kernel_rfl
@[go_sem] theorem ze111 : zeroOf Tryz.prog 111 = some (.agg #[(.string ⟨#[]⟩), (.string ⟨#[]⟩)]) := by kernel_rfl
@[go_sem] theorem co130 : callOK Tryz.prog 130 = true := by kernel_rfl
@[go_sem] theorem co131 : callOK Tryz.prog 131 = true := by kernel_rfl
@[go_sem] theorem bi171 : bldInfo Tryz.prog 171 = some ([(.map none), (.int .u64 0)], [(0, 1), (1, 1)]) := by kernel_rfl
@[go_sem] theorem co132 : callOK Tryz.prog 132 = true := by kernel_rfl
@[go_sem] theorem fi171_0 : fldInfo Tryz.prog 171 0 = some (0, false, 1) := by kernel_rfl
@[go_sem] theorem ti169 : tyInfo Tryz.prog 169 = some (false, 1) := by kernel_rfl
@[go_sem] theorem mi169 : mapInfo Tryz.prog 169 = some (29, .int .u64, (.int .i64 0)) := by kernel_rfl
@[go_sem] theorem im169 : isMapT Tryz.prog 169 = true := by kernel_rfl
@[go_sem] theorem co133 : callOK Tryz.prog 133 = true := by kernel_rfl
@[go_sem] theorem ti175 : tyInfo Tryz.prog 175 = some (false, 1) := by kernel_rfl
@[go_sem] theorem co134 : callOK Tryz.prog 134 = true := by kernel_rfl
@[go_sem] theorem co135 : callOK Tryz.prog 135 = true := by kernel_rfl
@[go_sem] theorem fi171_1 : fldInfo Tryz.prog 171 1 = some (1, false, 1) := by kernel_rfl
@[go_sem] theorem co136 : callOK Tryz.prog 136 = true := by kernel_rfl
@[go_sem] theorem co138 : callOK Tryz.prog 138 = true := by kernel_rfl
@[go_sem] theorem co137 : callOK Tryz.prog 137 = true := by kernel_rfl
@[go_sem] theorem co139 : callOK Tryz.prog 139 = true := by kernel_rfl
@[go_sem] theorem co140 : callOK Tryz.prog 140 = true := by kernel_rfl
@[go_sem] theorem co141 : callOK Tryz.prog 141 = true := by kernel_rfl
@[go_sem] theorem co142 : callOK Tryz.prog 142 = true := by kernel_rfl
@[go_sem] theorem co143 : callOK Tryz.prog 143 = true := by kernel_rfl
@[go_sem] theorem co144 : callOK Tryz.prog 144 = true := by kernel_rfl
@[go_sem] theorem co145 : callOK Tryz.prog 145 = true := by kernel_rfl
@[go_sem] theorem co146 : callOK Tryz.prog 146 = true := by kernel_rfl
@[go_sem] theorem co147 : callOK Tryz.prog 147 = true := by kernel_rfl
@[go_sem] theorem co148 : callOK Tryz.prog 148 = true := by kernel_rfl
@[go_sem] theorem co149 : callOK Tryz.prog 149 = true := by kernel_rfl
@[go_sem] theorem co150 : callOK Tryz.prog 150 = true := by kernel_rfl
@[go_sem] theorem ze189 : zeroOf Tryz.prog 189 = some (.int .u64 0) := by kernel_rfl
@[go_sem] theorem ti189 : tyInfo Tryz.prog 189 = some (false, 1) := by kernel_rfl
@[go_sem] theorem co151 : callOK Tryz.prog 151 = true := by kernel_rfl
@[go_sem] theorem co152 : callOK Tryz.prog 152 = true := by kernel_rfl
@[go_sem] theorem co153 : callOK Tryz.prog 153 = true := by kernel_rfl
@[go_sem] theorem co154 : callOK Tryz.prog 154 = true := by kernel_rfl
@[go_sem] theorem co155 : callOK Tryz.prog 155 = true := by kernel_rfl
@[go_sem] theorem co156 : callOK Tryz.prog 156 = true := by kernel_rfl
attribute [go_sem] Tryz.underlying3 Tryz.underlying4 Tryz.underlying5 Tryz.underlying9 Tryz.underlying22 Tryz.underlying25 Tryz.underlying26 Tryz.underlying29 Tryz.underlying35 Tryz.underlying39 Tryz.underlying40 Tryz.underlying51 Tryz.underlying58 Tryz.underlying65 Tryz.underlying70 Tryz.underlying73 Tryz.underlying79 Tryz.underlying84 Tryz.underlying95 Tryz.underlying114 Tryz.underlying128 Tryz.underlying141 Tryz.underlying150 Tryz.underlying154 Tryz.underlying160 Tryz.underlying169 Tryz.underlying180 Tryz.underlying188 Tryz.underlying189
end Go.Proofs.YtembgehpgommgaaGreat
