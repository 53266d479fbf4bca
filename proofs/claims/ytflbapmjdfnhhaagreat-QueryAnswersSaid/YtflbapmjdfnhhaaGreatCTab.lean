/- Closed facts on the types and functions of this seat, for a symbolic run. Written by a program (gentab.py). -/
import Derived.Test.YtflbapmjdfnhhaaGreatProg
import Derived.Test.YtflbapmjdfnhhaaGreatC08
set_option linter.unusedVariables false
set_option maxRecDepth 100000
namespace Go.Proofs.YtflbapmjdfnhhaaGreat
theorem mixed : Tryz.prog.follows .mixedOrders = true := by kernel_rfl
theorem allFit : fitAll Tryz.prog = true := by kernel_rfl
theorem enter {W0 : World} {f : FuncId} {fn : Func} {c : Code} {args : List Value} {st : Heap} {R : Ending → Heap → Prop} (hf : Tryz.prog.funcs[f]? = some fn) (hb : fn.body = some c)
    (h : IW Tryz.prog W0 c (RetI Tryz.prog fn.results R) (fun ch st => R (.panicked ch) st) (Env.args args) st) : ICalls Tryz.prog W0 f args.toArray st R := ICalls_of' mixed allFit hf hb h
@[go_sem] theorem fi28_0 : fldInfo Tryz.prog 28 0 = some (0, true, 5) := by kernel_rfl
@[go_sem] theorem ti25 : tyInfo Tryz.prog 25 = some (true, 5) := by kernel_rfl
@[go_sem] theorem co8 : callOK Tryz.prog 8 = true := by kernel_rfl
@[go_sem] theorem co9 : callOK Tryz.prog 9 = true := by kernel_rfl
@[go_sem] theorem si29 : slInfo Tryz.prog 29 = some (57, 8, 112, [(.slice none 0 0), (.int .i64 0), (.slice none 0 0), (.slice none 0 0), (.int .u64 0), (.int .u64 0), (.int .u64 0), (.int .u64 0)]) := by kernel_rfl
@[go_sem] theorem co10 : callOK Tryz.prog 10 = true := by kernel_rfl
@[go_sem] theorem fi28_3 : fldInfo Tryz.prog 28 3 = some (7, false, 1) := by kernel_rfl
@[go_sem] theorem ti3 : tyInfo Tryz.prog 3 = some (false, 1) := by kernel_rfl
@[go_sem] theorem co11 : callOK Tryz.prog 11 = true := by kernel_rfl
@[go_sem] theorem ti28 : tyInfo Tryz.prog 28 = some (true, 11) := by kernel_rfl
@[go_sem] theorem co13 : callOK Tryz.prog 13 = true := by kernel_rfl
@[go_sem] theorem co12 : callOK Tryz.prog 12 = true := by kernel_rfl
@[go_sem] theorem fi28_1 : fldInfo Tryz.prog 28 1 = some (5, false, 1) := by kernel_rfl
@[go_sem] theorem fi28_2 : fldInfo Tryz.prog 28 2 = some (6, false, 1) := by kernel_rfl
@[go_sem] theorem co14 : callOK Tryz.prog 14 = true := by kernel_rfl
@[go_sem] theorem co15 : callOK Tryz.prog 15 = true := by kernel_rfl
@[go_sem] theorem co16 : callOK Tryz.prog 16 = true := by kernel_rfl
@[go_sem] theorem si39 : slInfo Tryz.prog 39 = some (43, 4, 32, [(.int .i64 0), (.bool false), (.int .u64 0), (.int .i64 0)]) := by kernel_rfl
@[go_sem] theorem an39 : arrInfo Tryz.prog 39 = none := by kernel_rfl
@[go_sem] theorem ti43 : tyInfo Tryz.prog 43 = some (true, 4) := by kernel_rfl
@[go_sem] theorem co17 : callOK Tryz.prog 17 = true := by kernel_rfl
@[go_sem] theorem co18 : callOK Tryz.prog 18 = true := by kernel_rfl
@[go_sem] theorem fi28_4 : fldInfo Tryz.prog 28 4 = some (8, false, 1) := by kernel_rfl
@[go_sem] theorem ze28 : zeroOf Tryz.prog 28 = some (.agg #[(.int .i64 0), (.string ⟨#[]⟩), (.string ⟨#[]⟩), (.slice none 0 0), (.slice none 0 0), (.int .i64 0), (.int .i64 0), (.int .i64 0), (.int .i64 0), (.int .u64 0), (.int .u64 0)]) := by kernel_rfl
@[go_sem] theorem fi43_3 : fldInfo Tryz.prog 43 3 = some (3, false, 1) := by kernel_rfl
@[go_sem] theorem ti41 : tyInfo Tryz.prog 41 = some (false, 1) := by kernel_rfl
@[go_sem] theorem fi43_2 : fldInfo Tryz.prog 43 2 = some (2, false, 1) := by kernel_rfl
@[go_sem] theorem ti26 : tyInfo Tryz.prog 26 = some (false, 1) := by kernel_rfl
@[go_sem] theorem fi43_1 : fldInfo Tryz.prog 43 1 = some (1, false, 1) := by kernel_rfl
@[go_sem] theorem ti4 : tyInfo Tryz.prog 4 = some (false, 1) := by kernel_rfl
@[go_sem] theorem fi43_0 : fldInfo Tryz.prog 43 0 = some (0, false, 1) := by kernel_rfl
@[go_sem] theorem si23 : slInfo Tryz.prog 23 = some (25, 5, 88, [(.int .i64 0), (.string ⟨#[]⟩), (.string ⟨#[]⟩), (.slice none 0 0), (.slice none 0 0)]) := by kernel_rfl
@[go_sem] theorem bi25 : bldInfo Tryz.prog 25 = some ([(.int .i64 0), (.string ⟨#[]⟩), (.string ⟨#[]⟩), (.slice none 0 0), (.slice none 0 0)], [(0, 1), (1, 1), (2, 1), (3, 1), (4, 1)]) := by kernel_rfl
@[go_sem] theorem an29 : arrInfo Tryz.prog 29 = none := by kernel_rfl
@[go_sem] theorem fi57_0 : fldInfo Tryz.prog 57 0 = some (0, false, 1) := by kernel_rfl
@[go_sem] theorem ti49 : tyInfo Tryz.prog 49 = some (false, 1) := by kernel_rfl
@[go_sem] theorem si49 : slInfo Tryz.prog 49 = some (85, 2, 32, [(.string ⟨#[]⟩), (.string ⟨#[]⟩)]) := by kernel_rfl
@[go_sem] theorem co19 : callOK Tryz.prog 19 = true := by kernel_rfl
@[go_sem] theorem co20 : callOK Tryz.prog 20 = true := by kernel_rfl
@[go_sem] theorem bi28 : bldInfo Tryz.prog 28 = some ([(.int .i64 0), (.string ⟨#[]⟩), (.string ⟨#[]⟩), (.slice none 0 0), (.slice none 0 0), (.int .i64 0), (.int .i64 0), (.int .i64 0), (.int .i64 0), (.int .u64 0), (.int .u64 0)], [(0, 5), (5, 1), (6, 1), (7, 1), (8, 1), (9, 1), (10, 1)]) := by kernel_rfl
@[go_sem] theorem ze3 : zeroOf Tryz.prog 3 = some (.int .i64 0) := by kernel_rfl
@[go_sem] theorem co21 : callOK Tryz.prog 21 = true := by kernel_rfl
@[go_sem] theorem bi65 : bldInfo Tryz.prog 65 = some ([(.int .i64 0), (.int .i64 0), (.bool false)], [(0, 1), (1, 1), (2, 1)]) := by kernel_rfl
@[go_sem] theorem co22 : callOK Tryz.prog 22 = true := by kernel_rfl
@[go_sem] theorem fi65_2 : fldInfo Tryz.prog 65 2 = some (2, false, 1) := by kernel_rfl
@[go_sem] theorem bi67 : bldInfo Tryz.prog 67 = some ([(.int .i64 0), (.int .i64 0), (.int .i64 0), (.int .i64 0)], [(0, 1), (1, 1), (2, 1), (3, 1)]) := by kernel_rfl
@[go_sem] theorem bi69 : bldInfo Tryz.prog 69 = some ([(.int .i64 0), (.int .i64 0), (.int .i64 0), (.int .i64 0), (.int .i64 0)], [(0, 1), (1, 4)]) := by kernel_rfl
@[go_sem] theorem ze69 : zeroOf Tryz.prog 69 = some (.agg #[(.int .i64 0), (.int .i64 0), (.int .i64 0), (.int .i64 0), (.int .i64 0)]) := by kernel_rfl
@[go_sem] theorem ti69 : tyInfo Tryz.prog 69 = some (true, 5) := by kernel_rfl
@[go_sem] theorem co23 : callOK Tryz.prog 23 = true := by kernel_rfl
@[go_sem] theorem ti57 : tyInfo Tryz.prog 57 = some (true, 8) := by kernel_rfl
@[go_sem] theorem co24 : callOK Tryz.prog 24 = true := by kernel_rfl
@[go_sem] theorem co26 : callOK Tryz.prog 26 = true := by kernel_rfl
@[go_sem] theorem co25 : callOK Tryz.prog 25 = true := by kernel_rfl
@[go_sem] theorem ze29 : zeroOf Tryz.prog 29 = some (.slice none 0 0) := by kernel_rfl
@[go_sem] theorem ti29 : tyInfo Tryz.prog 29 = some (false, 1) := by kernel_rfl
@[go_sem] theorem co27 : callOK Tryz.prog 27 = true := by kernel_rfl
@[go_sem] theorem ze39 : zeroOf Tryz.prog 39 = some (.slice none 0 0) := by kernel_rfl
@[go_sem] theorem co30 : callOK Tryz.prog 30 = true := by kernel_rfl
@[go_sem] theorem ti39 : tyInfo Tryz.prog 39 = some (false, 1) := by kernel_rfl
@[go_sem] theorem ze43 : zeroOf Tryz.prog 43 = some (.agg #[(.int .i64 0), (.bool false), (.int .u64 0), (.int .i64 0)]) := by kernel_rfl
@[go_sem] theorem ze55 : zeroOf Tryz.prog 55 = some (.agg #[(.slice none 0 0), (.slice none 0 0), (.int .u64 0), (.int .u64 0), (.int .u64 0), (.int .u64 0)]) := by kernel_rfl
@[go_sem] theorem ze57 : zeroOf Tryz.prog 57 = some (.agg #[(.slice none 0 0), (.int .i64 0), (.slice none 0 0), (.slice none 0 0), (.int .u64 0), (.int .u64 0), (.int .u64 0), (.int .u64 0)]) := by kernel_rfl
@[go_sem] theorem fi57_1 : fldInfo Tryz.prog 57 1 = some (1, false, 1) := by kernel_rfl
@[go_sem] theorem fi57_2 : fldInfo Tryz.prog 57 2 = some (2, true, 6) := by kernel_rfl
@[go_sem] theorem ti55 : tyInfo Tryz.prog 55 = some (true, 6) := by kernel_rfl
@[go_sem] theorem co31 : callOK Tryz.prog 31 = true := by kernel_rfl
@[go_sem] theorem co32 : callOK Tryz.prog 32 = true := by kernel_rfl
@[go_sem] theorem co33 : callOK Tryz.prog 33 = true := by kernel_rfl
@[go_sem] theorem co34 : callOK Tryz.prog 34 = true := by kernel_rfl
@[go_sem] theorem co35 : callOK Tryz.prog 35 = true := by kernel_rfl
@[go_sem] theorem an49 : arrInfo Tryz.prog 49 = none := by kernel_rfl
@[go_sem] theorem fi85_0 : fldInfo Tryz.prog 85 0 = some (0, false, 1) := by kernel_rfl
@[go_sem] theorem ti9 : tyInfo Tryz.prog 9 = some (false, 1) := by kernel_rfl
@[go_sem] theorem co36 : callOK Tryz.prog 36 = true := by kernel_rfl
@[go_sem] theorem fi85_1 : fldInfo Tryz.prog 85 1 = some (1, false, 1) := by kernel_rfl
@[go_sem] theorem ze25 : zeroOf Tryz.prog 25 = some (.agg #[(.int .i64 0), (.string ⟨#[]⟩), (.string ⟨#[]⟩), (.slice none 0 0), (.slice none 0 0)]) := by kernel_rfl
@[go_sem] theorem co37 : callOK Tryz.prog 37 = true := by kernel_rfl
@[go_sem] theorem fi25_1 : fldInfo Tryz.prog 25 1 = some (1, false, 1) := by kernel_rfl
@[go_sem] theorem fi25_2 : fldInfo Tryz.prog 25 2 = some (2, false, 1) := by kernel_rfl
@[go_sem] theorem fi25_3 : fldInfo Tryz.prog 25 3 = some (3, false, 1) := by kernel_rfl
@[go_sem] theorem ti22 : tyInfo Tryz.prog 22 = some (false, 1) := by kernel_rfl
@[go_sem] theorem si22 : slInfo Tryz.prog 22 = some (9, 1, 16, [(.string ⟨#[]⟩)]) := by kernel_rfl
@[go_sem] theorem an22 : arrInfo Tryz.prog 22 = none := by kernel_rfl
@[go_sem] theorem fi25_4 : fldInfo Tryz.prog 25 4 = some (4, false, 1) := by kernel_rfl
@[go_sem] theorem ti23 : tyInfo Tryz.prog 23 = some (false, 1) := by kernel_rfl
@[go_sem] theorem an23 : arrInfo Tryz.prog 23 = none := by kernel_rfl
@[go_sem] theorem fi65_0 : fldInfo Tryz.prog 65 0 = some (0, false, 1) := by kernel_rfl
@[go_sem] theorem fi25_0 : fldInfo Tryz.prog 25 0 = some (0, false, 1) := by kernel_rfl
@[go_sem] theorem co38 : callOK Tryz.prog 38 = true := by kernel_rfl
@[go_sem] theorem co39 : callOK Tryz.prog 39 = true := by kernel_rfl
@[go_sem] theorem co40 : callOK Tryz.prog 40 = true := by kernel_rfl
@[go_sem] theorem co41 : callOK Tryz.prog 41 = true := by kernel_rfl
@[go_sem] theorem fi28_6 : fldInfo Tryz.prog 28 6 = some (10, false, 1) := by kernel_rfl
@[go_sem] theorem fi28_5 : fldInfo Tryz.prog 28 5 = some (9, false, 1) := by kernel_rfl
@[go_sem] theorem co43 : callOK Tryz.prog 43 = true := by kernel_rfl
@[go_sem] theorem co42 : callOK Tryz.prog 42 = true := by kernel_rfl
@[go_sem] theorem co44 : callOK Tryz.prog 44 = true := by kernel_rfl
@[go_sem] theorem co45 : callOK Tryz.prog 45 = true := by kernel_rfl
@[go_sem] theorem co46 : callOK Tryz.prog 46 = true := by kernel_rfl
@[go_sem] theorem co47 : callOK Tryz.prog 47 = true := by kernel_rfl
@[go_sem] theorem co48 : callOK Tryz.prog 48 = true := by kernel_rfl
@[go_sem] theorem co28 : callOK Tryz.prog 28 = true := by kernel_rfl
@[go_sem] theorem ti73 : tyInfo Tryz.prog 73 = some (false, 1) := by kernel_rfl
@[go_sem] theorem co29 : callOK Tryz.prog 29 = true := by kernel_rfl
@[go_sem] theorem co49 : callOK Tryz.prog 49 = true := by kernel_rfl
@[go_sem] theorem si95 : slInfo Tryz.prog 95 = some (55, 6, 80, [(.slice none 0 0), (.slice none 0 0), (.int .u64 0), (.int .u64 0), (.int .u64 0), (.int .u64 0)]) := by kernel_rfl
@[go_sem] theorem co50 : callOK Tryz.prog 50 = true := by kernel_rfl
@[go_sem] theorem co51 : callOK Tryz.prog 51 = true := by kernel_rfl
@[go_sem] theorem fi55_0 : fldInfo Tryz.prog 55 0 = some (0, false, 1) := by kernel_rfl
@[go_sem] theorem ti50 : tyInfo Tryz.prog 50 = some (false, 1) := by kernel_rfl
@[go_sem] theorem si50 : slInfo Tryz.prog 50 = some (119, 2, 16, [(.int .i64 0), (.int .u64 0)]) := by kernel_rfl
@[go_sem] theorem co52 : callOK Tryz.prog 52 = true := by kernel_rfl
@[go_sem] theorem fi55_1 : fldInfo Tryz.prog 55 1 = some (1, false, 1) := by kernel_rfl
@[go_sem] theorem ti51 : tyInfo Tryz.prog 51 = some (false, 1) := by kernel_rfl
@[go_sem] theorem si51 : slInfo Tryz.prog 51 = some (26, 1, 8, [(.int .u64 0)]) := by kernel_rfl
@[go_sem] theorem co53 : callOK Tryz.prog 53 = true := by kernel_rfl
@[go_sem] theorem fi55_2 : fldInfo Tryz.prog 55 2 = some (2, true, 4) := by kernel_rfl
@[go_sem] theorem ti53 : tyInfo Tryz.prog 53 = some (true, 4) := by kernel_rfl
@[go_sem] theorem co54 : callOK Tryz.prog 54 = true := by kernel_rfl
@[go_sem] theorem co55 : callOK Tryz.prog 55 = true := by kernel_rfl
@[go_sem] theorem co56 : callOK Tryz.prog 56 = true := by kernel_rfl
@[go_sem] theorem co57 : callOK Tryz.prog 57 = true := by kernel_rfl
@[go_sem] theorem co58 : callOK Tryz.prog 58 = true := by kernel_rfl
@[go_sem] theorem bi55 : bldInfo Tryz.prog 55 = some ([(.slice none 0 0), (.slice none 0 0), (.int .u64 0), (.int .u64 0), (.int .u64 0), (.int .u64 0)], [(0, 1), (1, 1), (2, 4)]) := by kernel_rfl
@[go_sem] theorem bi43 : bldInfo Tryz.prog 43 = some ([(.int .i64 0), (.bool false), (.int .u64 0), (.int .i64 0)], [(0, 1), (1, 1), (2, 1), (3, 1)]) := by kernel_rfl
@[go_sem] theorem co59 : callOK Tryz.prog 59 = true := by kernel_rfl
@[go_sem] theorem co60 : callOK Tryz.prog 60 = true := by kernel_rfl
@[go_sem] theorem co61 : callOK Tryz.prog 61 = true := by kernel_rfl
@[go_sem] theorem fi53_0 : fldInfo Tryz.prog 53 0 = some (0, false, 1) := by kernel_rfl
@[go_sem] theorem fi53_2 : fldInfo Tryz.prog 53 2 = some (2, false, 1) := by kernel_rfl
@[go_sem] theorem fi53_3 : fldInfo Tryz.prog 53 3 = some (3, false, 1) := by kernel_rfl
@[go_sem] theorem fi53_1 : fldInfo Tryz.prog 53 1 = some (1, false, 1) := by kernel_rfl
@[go_sem] theorem co62 : callOK Tryz.prog 62 = true := by kernel_rfl
@[go_sem] theorem co63 : callOK Tryz.prog 63 = true := by kernel_rfl
@[go_sem] theorem an9 : arrInfo Tryz.prog 9 = none := by kernel_rfl
@[go_sem] theorem fi65_1 : fldInfo Tryz.prog 65 1 = some (1, false, 1) := by kernel_rfl
@[go_sem] theorem bi113 : bldInfo Tryz.prog 113 = some ([(.int .i64 0), (.int .i64 0)], [(0, 1), (1, 1)]) := by kernel_rfl
@[go_sem] theorem co64 : callOK Tryz.prog 64 = true := by kernel_rfl
@[go_sem] theorem co65 : callOK Tryz.prog 65 = true := by kernel_rfl
@[go_sem] theorem fi69_1 : fldInfo Tryz.prog 69 1 = some (1, true, 4) := by kernel_rfl
@[go_sem] theorem ai67 : arrInfo Tryz.prog 67 = some (4, false, 1, [(.int .i64 0), (.int .i64 0), (.int .i64 0), (.int .i64 0)]) := by kernel_rfl
@[go_sem] theorem co66 : callOK Tryz.prog 66 = true := by kernel_rfl
@[go_sem] theorem co67 : callOK Tryz.prog 67 = true := by kernel_rfl
@[go_sem] theorem co68 : callOK Tryz.prog 68 = true := by kernel_rfl
@[go_sem] theorem co69 : callOK Tryz.prog 69 = true := by kernel_rfl
@[go_sem] theorem co70 : callOK Tryz.prog 70 = true := by kernel_rfl
@[go_sem] theorem co71 : callOK Tryz.prog 71 = true := by kernel_rfl
@[go_sem] theorem co72 : callOK Tryz.prog 72 = true := by kernel_rfl
@[go_sem] theorem co73 : callOK Tryz.prog 73 = true := by kernel_rfl
@[go_sem] theorem co74 : callOK Tryz.prog 74 = true := by kernel_rfl
@[go_sem] theorem co75 : callOK Tryz.prog 75 = true := by kernel_rfl
@[go_sem] theorem co76 : callOK Tryz.prog 76 = true := by kernel_rfl
@[go_sem] theorem co77 : callOK Tryz.prog 77 = true := by kernel_rfl
@[go_sem] theorem bi53 : bldInfo Tryz.prog 53 = some ([(.int .u64 0), (.int .u64 0), (.int .u64 0), (.int .u64 0)], [(0, 1), (1, 1), (2, 1), (3, 1)]) := by kernel_rfl
@[go_sem] theorem ze53 : zeroOf Tryz.prog 53 = some (.agg #[(.int .u64 0), (.int .u64 0), (.int .u64 0), (.int .u64 0)]) := by kernel_rfl
@[go_sem] theorem an95 : arrInfo Tryz.prog 95 = none := by kernel_rfl
@[go_sem] theorem co78 : callOK Tryz.prog 78 = true := by kernel_rfl
@[go_sem] theorem co79 : callOK Tryz.prog 79 = true := by kernel_rfl
@[go_sem] theorem co80 : callOK Tryz.prog 80 = true := by kernel_rfl
@[go_sem] theorem co81 : callOK Tryz.prog 81 = true := by kernel_rfl
@[go_sem] theorem co82 : callOK Tryz.prog 82 = true := by kernel_rfl
@[go_sem] theorem co83 : callOK Tryz.prog 83 = true := by kernel_rfl
@[go_sem] theorem co84 : callOK Tryz.prog 84 = true := by kernel_rfl
@[go_sem] theorem co85 : callOK Tryz.prog 85 = true := by kernel_rfl
@[go_sem] theorem co86 : callOK Tryz.prog 86 = true := by kernel_rfl
@[go_sem] theorem co87 : callOK Tryz.prog 87 = true := by kernel_rfl
@[go_sem] theorem co88 : callOK Tryz.prog 88 = true := by kernel_rfl
@[go_sem] theorem an50 : arrInfo Tryz.prog 50 = none := by kernel_rfl
@[go_sem] theorem fi119_0 : fldInfo Tryz.prog 119 0 = some (0, false, 1) := by kernel_rfl
@[go_sem] theorem fi119_1 : fldInfo Tryz.prog 119 1 = some (1, false, 1) := by kernel_rfl
@[go_sem] theorem an51 : arrInfo Tryz.prog 51 = none := by kernel_rfl
@[go_sem] theorem co89 : callOK Tryz.prog 89 = true := by kernel_rfl
@[go_sem] theorem co90 : callOK Tryz.prog 90 = true := by kernel_rfl
@[go_sem] theorem ti119 : tyInfo Tryz.prog 119 = some (true, 2) := by kernel_rfl
@[go_sem] theorem co91 : callOK Tryz.prog 91 = true := by kernel_rfl
@[go_sem] theorem bi119 : bldInfo Tryz.prog 119 = some ([(.int .i64 0), (.int .u64 0)], [(0, 1), (1, 1)]) := by kernel_rfl
@[go_sem] theorem co92 : callOK Tryz.prog 92 = true := by kernel_rfl
@[go_sem] theorem co93 : callOK Tryz.prog 93 = true := by kernel_rfl
@[go_sem] theorem co94 : callOK Tryz.prog 94 = true := by kernel_rfl
@[go_sem] theorem ti85 : tyInfo Tryz.prog 85 = some (true, 2) := by kernel_rfl
@[go_sem] theorem fi113_0 : fldInfo Tryz.prog 113 0 = some (0, false, 1) := by kernel_rfl
@[go_sem] theorem co95 : callOK Tryz.prog 95 = true := by kernel_rfl
@[go_sem] theorem fi113_1 : fldInfo Tryz.prog 113 1 = some (1, false, 1) := by kernel_rfl
@[go_sem] theorem ze67 : zeroOf Tryz.prog 67 = some (.agg #[(.int .i64 0), (.int .i64 0), (.int .i64 0), (.int .i64 0)]) := by kernel_rfl
@[go_sem] theorem ti67 : tyInfo Tryz.prog 67 = some (true, 4) := by kernel_rfl
@[go_sem] theorem ze85 : zeroOf Tryz.prog 85 = some (.agg #[(.string ⟨#[]⟩), (.string ⟨#[]⟩)]) := by kernel_rfl
@[go_sem] theorem co96 : callOK Tryz.prog 96 = true := by kernel_rfl
@[go_sem] theorem co97 : callOK Tryz.prog 97 = true := by kernel_rfl
@[go_sem] theorem co98 : callOK Tryz.prog 98 = true := by kernel_rfl
@[go_sem] theorem co99 : callOK Tryz.prog 99 = true := by kernel_rfl
@[go_sem] theorem bi143 : bldInfo Tryz.prog 143 = some ((List.replicate 7424 (.int .u64 0)), [(0, 7424)]) := by kernel_rfl
@[go_sem] theorem fi143_0 : fldInfo Tryz.prog 143 0 = some (0, true, 7424) := by kernel_rfl
@[go_sem] theorem ai141 : arrInfo Tryz.prog 141 = some (7424, false, 1, (List.replicate 7424 (.int .u64 0))) := by kernel_rfl
@[go_sem] theorem bi146 : bldInfo Tryz.prog 146 = some ([(.map none), (.int .u64 0)], [(0, 1), (1, 1)]) := by kernel_rfl
@[go_sem] theorem ze119 : zeroOf Tryz.prog 119 = some (.agg #[(.int .i64 0), (.int .u64 0)]) := by kernel_rfl
@[go_sem] theorem co100 : callOK Tryz.prog 100 = true := by kernel_rfl
@[go_sem] theorem co101 : callOK Tryz.prog 101 = true := by kernel_rfl
@[go_sem] theorem co102 : callOK Tryz.prog 102 = true := by kernel_rfl
@[go_sem] theorem ti141 : tyInfo Tryz.prog 141 = some (true, 7424) := by kernel_rfl
@[go_sem] theorem fi146_0 : fldInfo Tryz.prog 146 0 = some (0, false, 1) := by kernel_rfl
@[go_sem] theorem ti144 : tyInfo Tryz.prog 144 = some (false, 1) := by kernel_rfl
@[go_sem] theorem mi144 : mapInfo Tryz.prog 144 = some (26, .int .u64, (.int .i64 0)) := by kernel_rfl
@[go_sem] theorem im144 : isMapT Tryz.prog 144 = true := by kernel_rfl
@[go_sem] theorem co103 : callOK Tryz.prog 103 = true := by kernel_rfl
@[go_sem] theorem co104 : callOK Tryz.prog 104 = true := by kernel_rfl
@[go_sem] theorem co105 : callOK Tryz.prog 105 = true := by kernel_rfl
@[go_sem] theorem co106 : callOK Tryz.prog 106 = true := by kernel_rfl
@[go_sem] theorem co107 : callOK Tryz.prog 107 = true := by kernel_rfl
@[go_sem] theorem co108 : callOK Tryz.prog 108 = true := by kernel_rfl
@[go_sem] theorem co109 : callOK Tryz.prog 109 = true := by kernel_rfl
@[go_sem] theorem co110 : callOK Tryz.prog 110 = true := by kernel_rfl
@[go_sem] theorem co111 : callOK Tryz.prog 111 = true := by kernel_rfl
@[go_sem] theorem co112 : callOK Tryz.prog 112 = true := by kernel_rfl
@[go_sem] theorem co113 : callOK Tryz.prog 113 = true := by kernel_rfl
@[go_sem] theorem co114 : callOK Tryz.prog 114 = true := by kernel_rfl
@[go_sem] theorem fi146_1 : fldInfo Tryz.prog 146 1 = some (1, false, 1) := by kernel_rfl
@[go_sem] theorem co116 : callOK Tryz.prog 116 = true := by kernel_rfl
@[go_sem] theorem co117 : callOK Tryz.prog 117 = true := by kernel_rfl
@[go_sem] theorem co118 : callOK Tryz.prog 118 = true := by kernel_rfl
@[go_sem] theorem co120 : callOK Tryz.prog 120 = true := by kernel_rfl
@[go_sem] theorem co119 : callOK Tryz.prog 119 = true := by kernel_rfl
@[go_sem] theorem co121 : callOK Tryz.prog 121 = true := by kernel_rfl
@[go_sem] theorem co124 : callOK Tryz.prog 124 = true := by kernel_rfl
@[go_sem] theorem co123 : callOK Tryz.prog 123 = true := by kernel_rfl
@[go_sem] theorem ze163 : zeroOf Tryz.prog 163 = some (.agg #[(.int .u64 0), (.int .u64 0), (.bool false)]) := by kernel_rfl
@[go_sem] theorem ti163 : tyInfo Tryz.prog 163 = some (true, 3) := by kernel_rfl
@[go_sem] theorem bi163 : bldInfo Tryz.prog 163 = some ([(.int .u64 0), (.int .u64 0), (.bool false)], [(0, 1), (1, 1), (2, 1)]) := by kernel_rfl
@[go_sem] theorem fi163_1 : fldInfo Tryz.prog 163 1 = some (1, false, 1) := by kernel_rfl
@[go_sem] theorem fi163_0 : fldInfo Tryz.prog 163 0 = some (0, false, 1) := by kernel_rfl
@[go_sem] theorem co125 : callOK Tryz.prog 125 = true := by kernel_rfl
@[go_sem] theorem bi165 : bldInfo Tryz.prog 165 = some ([(.int .u64 0), (.int .u64 0)], [(0, 1), (1, 1)]) := by kernel_rfl
@[go_sem] theorem fi163_2 : fldInfo Tryz.prog 163 2 = some (2, false, 1) := by kernel_rfl
@[go_sem] theorem co126 : callOK Tryz.prog 126 = true := by kernel_rfl
@[go_sem] theorem co127 : callOK Tryz.prog 127 = true := by kernel_rfl
@[go_sem] theorem co128 : callOK Tryz.prog 128 = true := by kernel_rfl
@[go_sem] theorem co129 : callOK Tryz.prog 129 = true := by kernel_rfl
@[go_sem] theorem co130 : callOK Tryz.prog 130 = true := by kernel_rfl
@[go_sem] theorem co131 : callOK Tryz.prog 131 = true := by kernel_rfl
@[go_sem] theorem co132 : callOK Tryz.prog 132 = true := by kernel_rfl
@[go_sem] theorem co133 : callOK Tryz.prog 133 = true := by kernel_rfl
@[go_sem] theorem co134 : callOK Tryz.prog 134 = true := by kernel_rfl
@[go_sem] theorem co135 : callOK Tryz.prog 135 = true := by kernel_rfl
@[go_sem] theorem co136 : callOK Tryz.prog 136 = true := by kernel_rfl
@[go_sem] theorem co137 : callOK Tryz.prog 137 = true := by kernel_rfl
@[go_sem] theorem ai165 : arrInfo Tryz.prog 165 = some (2, false, 1, [(.int .u64 0), (.int .u64 0)]) := by kernel_rfl
@[go_sem] theorem co138 : callOK Tryz.prog 138 = true := by kernel_rfl
@[go_sem] theorem ze165 : zeroOf Tryz.prog 165 = some (.agg #[(.int .u64 0), (.int .u64 0)]) := by kernel_rfl
@[go_sem] theorem co139 : callOK Tryz.prog 139 = true := by kernel_rfl
@[go_sem] theorem ti165 : tyInfo Tryz.prog 165 = some (true, 2) := by kernel_rfl
@[go_sem] theorem co140 : callOK Tryz.prog 140 = true := by kernel_rfl
@[go_sem] theorem ze181 : zeroOf Tryz.prog 181 = some (.int .u64 0) := by kernel_rfl
@[go_sem] theorem ti181 : tyInfo Tryz.prog 181 = some (false, 1) := by kernel_rfl
@[go_sem] theorem co141 : callOK Tryz.prog 141 = true := by kernel_rfl
@[go_sem] theorem co142 : callOK Tryz.prog 142 = true := by kernel_rfl
@[go_sem] theorem co143 : callOK Tryz.prog 143 = true := by kernel_rfl
@[go_sem] theorem co144 : callOK Tryz.prog 144 = true := by kernel_rfl
@[go_sem] theorem co145 : callOK Tryz.prog 145 = true := by kernel_rfl
@[go_sem] theorem ti186 : tyInfo Tryz.prog 186 = some (false, 1) := by kernel_rfl
@[go_sem] theorem co146 : callOK Tryz.prog 146 = true := by kernel_rfl
@[go_sem] theorem co147 : callOK Tryz.prog 147 = true := by kernel_rfl
attribute [go_sem] Tryz.underlying3 Tryz.underlying4 Tryz.underlying5 Tryz.underlying9 Tryz.underlying22 Tryz.underlying23 Tryz.underlying26 Tryz.underlying29 Tryz.underlying39 Tryz.underlying41 Tryz.underlying49 Tryz.underlying50 Tryz.underlying51 Tryz.underlying62 Tryz.underlying63 Tryz.underlying67 Tryz.underlying95 Tryz.underlying111 Tryz.underlying120 Tryz.underlying122 Tryz.underlying141 Tryz.underlying144 Tryz.underlying154 Tryz.underlying160 Tryz.underlying165 Tryz.underlying172 Tryz.underlying180 Tryz.underlying181
end Go.Proofs.YtflbapmjdfnhhaaGreat
