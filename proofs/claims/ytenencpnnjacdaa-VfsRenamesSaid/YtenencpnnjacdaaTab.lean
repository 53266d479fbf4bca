/- Closed facts on the types and functions of this seat, for a symbolic run. Written by a program (gentab.py). -/
import Derived.Test.YtenencpnnjacdaaProg
import Derived.Test.YtenencpnnjacdaaSepS
set_option linter.unusedVariables false
set_option maxRecDepth 100000
namespace Go.Proofs.Ytenencpnnjacdaa
theorem mixed : Try.prog.follows .mixedOrders = true := by kernel_rfl
theorem allFit : fitAll Try.prog = true := by kernel_rfl
theorem enter {W0 : World} {f : FuncId} {fn : Func} {c : Code} {args : List Value} {st : Heap} {R : Ending → Heap → Prop} (hf : Try.prog.funcs[f]? = some fn) (hb : fn.body = some c)
    (h : IW Try.prog W0 c (RetI Try.prog fn.results R) (fun ch st => R (.panicked ch) st) (Env.args args) st) : ICalls Try.prog W0 f args.toArray st R := ICalls_of' mixed allFit hf hb h
@[go_sem] theorem ti25 : tyInfo Try.prog 25 = some (true, 6) := by kernel_rfl
@[go_sem] theorem co13 : callOK Try.prog 13 = true := by kernel_rfl
@[go_sem] theorem co14 : callOK Try.prog 14 = true := by kernel_rfl
@[go_sem] theorem co15 : callOK Try.prog 15 = true := by kernel_rfl
@[go_sem] theorem ze25 : zeroOf Try.prog 25 = some (.agg #[(.int .i64 0), (.int .i64 0), (.int .i64 0), (.int .i64 0), (.slice none 0 0), (.slice none 0 0)]) := by kernel_rfl
@[go_sem] theorem co16 : callOK Try.prog 16 = true := by kernel_rfl
@[go_sem] theorem co17 : callOK Try.prog 17 = true := by kernel_rfl
@[go_sem] theorem co18 : callOK Try.prog 18 = true := by kernel_rfl
@[go_sem] theorem co19 : callOK Try.prog 19 = true := by kernel_rfl
@[go_sem] theorem co20 : callOK Try.prog 20 = true := by kernel_rfl
@[go_sem] theorem si29 : slInfo Try.prog 29 = some (5, 1, 1, [(.int .u8 0)]) := by kernel_rfl
@[go_sem] theorem co22 : callOK Try.prog 22 = true := by kernel_rfl
@[go_sem] theorem co21 : callOK Try.prog 21 = true := by kernel_rfl
@[go_sem] theorem co23 : callOK Try.prog 23 = true := by kernel_rfl
@[go_sem] theorem co24 : callOK Try.prog 24 = true := by kernel_rfl
@[go_sem] theorem an29 : arrInfo Try.prog 29 = none := by kernel_rfl
@[go_sem] theorem ti5 : tyInfo Try.prog 5 = some (false, 1) := by kernel_rfl
@[go_sem] theorem fi25_4 : fldInfo Try.prog 25 4 = some (4, false, 1) := by kernel_rfl
@[go_sem] theorem ti22 : tyInfo Try.prog 22 = some (false, 1) := by kernel_rfl
@[go_sem] theorem si22 : slInfo Try.prog 22 = some (41, 7, 56, [(.int .i64 0), (.int .i64 0), (.int .i64 0), (.int .i64 0), (.int .i64 0), (.int .i64 0), (.int .i64 0)]) := by kernel_rfl
@[go_sem] theorem an22 : arrInfo Try.prog 22 = none := by kernel_rfl
@[go_sem] theorem fi41_0 : fldInfo Try.prog 41 0 = some (0, false, 1) := by kernel_rfl
@[go_sem] theorem ti3 : tyInfo Try.prog 3 = some (false, 1) := by kernel_rfl
@[go_sem] theorem co25 : callOK Try.prog 25 = true := by kernel_rfl
@[go_sem] theorem co26 : callOK Try.prog 26 = true := by kernel_rfl
@[go_sem] theorem co27 : callOK Try.prog 27 = true := by kernel_rfl
@[go_sem] theorem co28 : callOK Try.prog 28 = true := by kernel_rfl
@[go_sem] theorem co29 : callOK Try.prog 29 = true := by kernel_rfl
@[go_sem] theorem co30 : callOK Try.prog 30 = true := by kernel_rfl
@[go_sem] theorem co31 : callOK Try.prog 31 = true := by kernel_rfl
@[go_sem] theorem co32 : callOK Try.prog 32 = true := by kernel_rfl
@[go_sem] theorem co33 : callOK Try.prog 33 = true := by kernel_rfl
@[go_sem] theorem si50 : slInfo Try.prog 50 = some (3, 1, 8, [(.int .i64 0)]) := by kernel_rfl
@[go_sem] theorem co35 : callOK Try.prog 35 = true := by kernel_rfl
@[go_sem] theorem co34 : callOK Try.prog 34 = true := by kernel_rfl
@[go_sem] theorem an50 : arrInfo Try.prog 50 = none := by kernel_rfl
@[go_sem] theorem co36 : callOK Try.prog 36 = true := by kernel_rfl
@[go_sem] theorem si54 : slInfo Try.prog 54 = some (9, 1, 16, [(.string ⟨#[]⟩)]) := by kernel_rfl
@[go_sem] theorem si59 : slInfo Try.prog 59 = some (29, 1, 24, [(.slice none 0 0)]) := by kernel_rfl
@[go_sem] theorem co37 : callOK Try.prog 37 = true := by kernel_rfl
@[go_sem] theorem co38 : callOK Try.prog 38 = true := by kernel_rfl
@[go_sem] theorem co39 : callOK Try.prog 39 = true := by kernel_rfl
@[go_sem] theorem si65 : slInfo Try.prog 65 = some (67, 6, 80, [(.int .i64 0), (.int .i64 0), (.int .i64 0), (.int .i64 0), (.slice none 0 0), (.slice none 0 0)]) := by kernel_rfl
@[go_sem] theorem an65 : arrInfo Try.prog 65 = none := by kernel_rfl
@[go_sem] theorem fi67_0 : fldInfo Try.prog 67 0 = some (0, false, 1) := by kernel_rfl
@[go_sem] theorem fi67_4 : fldInfo Try.prog 67 4 = some (4, false, 1) := by kernel_rfl
@[go_sem] theorem ti29 : tyInfo Try.prog 29 = some (false, 1) := by kernel_rfl
@[go_sem] theorem bi75 : bldInfo Try.prog 75 = some ([(.slice none 0 0), (.slice none 0 0), (.slice none 0 0), (.int .i64 0), (.bool false), (.int .i64 0), (.int .i64 0), (.bool false)], [(0, 1), (1, 1), (2, 1), (3, 1), (4, 1), (5, 1), (6, 1), (7, 1)]) := by kernel_rfl
@[go_sem] theorem ti67 : tyInfo Try.prog 67 = some (true, 6) := by kernel_rfl
@[go_sem] theorem co40 : callOK Try.prog 40 = true := by kernel_rfl
@[go_sem] theorem fi67_1 : fldInfo Try.prog 67 1 = some (1, false, 1) := by kernel_rfl
@[go_sem] theorem co41 : callOK Try.prog 41 = true := by kernel_rfl
@[go_sem] theorem co42 : callOK Try.prog 42 = true := by kernel_rfl
@[go_sem] theorem co43 : callOK Try.prog 43 = true := by kernel_rfl
@[go_sem] theorem fi25_5 : fldInfo Try.prog 25 5 = some (5, false, 1) := by kernel_rfl
@[go_sem] theorem ti23 : tyInfo Try.prog 23 = some (false, 1) := by kernel_rfl
@[go_sem] theorem si23 : slInfo Try.prog 23 = some (84, 8, 112, [(.int .i64 0), (.int .i64 0), (.string ⟨#[]⟩), (.string ⟨#[]⟩), (.slice none 0 0), (.slice none 0 0), (.int .i64 0), (.int .i64 0)]) := by kernel_rfl
@[go_sem] theorem an23 : arrInfo Try.prog 23 = none := by kernel_rfl
@[go_sem] theorem fi84_1 : fldInfo Try.prog 84 1 = some (1, true, 5) := by kernel_rfl
@[go_sem] theorem ti82 : tyInfo Try.prog 82 = some (true, 5) := by kernel_rfl
@[go_sem] theorem co44 : callOK Try.prog 44 = true := by kernel_rfl
@[go_sem] theorem co46 : callOK Try.prog 46 = true := by kernel_rfl
@[go_sem] theorem co45 : callOK Try.prog 45 = true := by kernel_rfl
@[go_sem] theorem co47 : callOK Try.prog 47 = true := by kernel_rfl
@[go_sem] theorem fi25_1 : fldInfo Try.prog 25 1 = some (1, false, 1) := by kernel_rfl
@[go_sem] theorem co48 : callOK Try.prog 48 = true := by kernel_rfl
@[go_sem] theorem fi25_0 : fldInfo Try.prog 25 0 = some (0, false, 1) := by kernel_rfl
@[go_sem] theorem fi25_2 : fldInfo Try.prog 25 2 = some (2, false, 1) := by kernel_rfl
@[go_sem] theorem fi25_3 : fldInfo Try.prog 25 3 = some (3, false, 1) := by kernel_rfl
@[go_sem] theorem ai89 : arrInfo Try.prog 89 = some (4, false, 1, [(.int .i64 0), (.int .i64 0), (.int .i64 0), (.int .i64 0)]) := by kernel_rfl
@[go_sem] theorem co49 : callOK Try.prog 49 = true := by kernel_rfl
@[go_sem] theorem co50 : callOK Try.prog 50 = true := by kernel_rfl
@[go_sem] theorem ti41 : tyInfo Try.prog 41 = some (true, 7) := by kernel_rfl
@[go_sem] theorem ze41 : zeroOf Try.prog 41 = some (.agg #[(.int .i64 0), (.int .i64 0), (.int .i64 0), (.int .i64 0), (.int .i64 0), (.int .i64 0), (.int .i64 0)]) := by kernel_rfl
@[go_sem] theorem fi41_1 : fldInfo Try.prog 41 1 = some (1, false, 1) := by kernel_rfl
@[go_sem] theorem fi41_2 : fldInfo Try.prog 41 2 = some (2, false, 1) := by kernel_rfl
@[go_sem] theorem fi41_3 : fldInfo Try.prog 41 3 = some (3, false, 1) := by kernel_rfl
@[go_sem] theorem fi41_4 : fldInfo Try.prog 41 4 = some (4, false, 1) := by kernel_rfl
@[go_sem] theorem fi41_5 : fldInfo Try.prog 41 5 = some (5, false, 1) := by kernel_rfl
@[go_sem] theorem fi41_6 : fldInfo Try.prog 41 6 = some (6, false, 1) := by kernel_rfl
@[go_sem] theorem ai93 : arrInfo Try.prog 93 = some (7, false, 1, [(.int .i64 0), (.int .i64 0), (.int .i64 0), (.int .i64 0), (.int .i64 0), (.int .i64 0), (.int .i64 0)]) := by kernel_rfl
@[go_sem] theorem co52 : callOK Try.prog 52 = true := by kernel_rfl
@[go_sem] theorem co51 : callOK Try.prog 51 = true := by kernel_rfl
@[go_sem] theorem co54 : callOK Try.prog 54 = true := by kernel_rfl
@[go_sem] theorem co53 : callOK Try.prog 53 = true := by kernel_rfl
@[go_sem] theorem co55 : callOK Try.prog 55 = true := by kernel_rfl
@[go_sem] theorem co56 : callOK Try.prog 56 = true := by kernel_rfl
@[go_sem] theorem co57 : callOK Try.prog 57 = true := by kernel_rfl
@[go_sem] theorem ti84 : tyInfo Try.prog 84 = some (true, 8) := by kernel_rfl
@[go_sem] theorem ze84 : zeroOf Try.prog 84 = some (.agg #[(.int .i64 0), (.int .i64 0), (.string ⟨#[]⟩), (.string ⟨#[]⟩), (.slice none 0 0), (.slice none 0 0), (.int .i64 0), (.int .i64 0)]) := by kernel_rfl
@[go_sem] theorem co58 : callOK Try.prog 58 = true := by kernel_rfl
@[go_sem] theorem fi84_0 : fldInfo Try.prog 84 0 = some (0, false, 1) := by kernel_rfl
@[go_sem] theorem co59 : callOK Try.prog 59 = true := by kernel_rfl
@[go_sem] theorem co60 : callOK Try.prog 60 = true := by kernel_rfl
@[go_sem] theorem co61 : callOK Try.prog 61 = true := by kernel_rfl
@[go_sem] theorem fi84_2 : fldInfo Try.prog 84 2 = some (6, false, 1) := by kernel_rfl
@[go_sem] theorem fi84_3 : fldInfo Try.prog 84 3 = some (7, false, 1) := by kernel_rfl
@[go_sem] theorem co62 : callOK Try.prog 62 = true := by kernel_rfl
@[go_sem] theorem co63 : callOK Try.prog 63 = true := by kernel_rfl
@[go_sem] theorem bi25 : bldInfo Try.prog 25 = some ([(.int .i64 0), (.int .i64 0), (.int .i64 0), (.int .i64 0), (.slice none 0 0), (.slice none 0 0)], [(0, 1), (1, 1), (2, 1), (3, 1), (4, 1), (5, 1)]) := by kernel_rfl
@[go_sem] theorem co64 : callOK Try.prog 64 = true := by kernel_rfl
@[go_sem] theorem co65 : callOK Try.prog 65 = true := by kernel_rfl
@[go_sem] theorem co66 : callOK Try.prog 66 = true := by kernel_rfl
@[go_sem] theorem bi108 : bldInfo Try.prog 108 = some ([(.slice none 0 0), (.int .i64 0), (.bool false)], [(0, 1), (1, 1), (2, 1)]) := by kernel_rfl
@[go_sem] theorem co67 : callOK Try.prog 67 = true := by kernel_rfl
@[go_sem] theorem co68 : callOK Try.prog 68 = true := by kernel_rfl
@[go_sem] theorem fi108_2 : fldInfo Try.prog 108 2 = some (2, false, 1) := by kernel_rfl
@[go_sem] theorem ti4 : tyInfo Try.prog 4 = some (false, 1) := by kernel_rfl
@[go_sem] theorem bi41 : bldInfo Try.prog 41 = some ([(.int .i64 0), (.int .i64 0), (.int .i64 0), (.int .i64 0), (.int .i64 0), (.int .i64 0), (.int .i64 0)], [(0, 1), (1, 1), (2, 1), (3, 1), (4, 1), (5, 1), (6, 1)]) := by kernel_rfl
@[go_sem] theorem co69 : callOK Try.prog 69 = true := by kernel_rfl
@[go_sem] theorem fi108_1 : fldInfo Try.prog 108 1 = some (1, false, 1) := by kernel_rfl
@[go_sem] theorem bi114 : bldInfo Try.prog 114 = some ([(.map none), (.map none), (.slice none 0 0), (.int .i64 0), (.int .i64 0), (.bool false), (.int .i64 0), (.int .i64 0), (.bool false)], [(0, 1), (1, 1), (2, 1), (3, 1), (4, 1), (5, 1), (6, 1), (7, 1), (8, 1)]) := by kernel_rfl
@[go_sem] theorem co70 : callOK Try.prog 70 = true := by kernel_rfl
@[go_sem] theorem co71 : callOK Try.prog 71 = true := by kernel_rfl
@[go_sem] theorem fi114_1 : fldInfo Try.prog 114 1 = some (1, false, 1) := by kernel_rfl
@[go_sem] theorem ti111 : tyInfo Try.prog 111 = some (false, 1) := by kernel_rfl
@[go_sem] theorem mi111 : mapInfo Try.prog 111 = some (9, .string, (.pointer none)) := by kernel_rfl
@[go_sem] theorem im111 : isMapT Try.prog 111 = true := by kernel_rfl
@[go_sem] theorem fi114_3 : fldInfo Try.prog 114 3 = some (3, false, 1) := by kernel_rfl
@[go_sem] theorem bi120 : bldInfo Try.prog 120 = some ([(.int .i64 0), (.slice none 0 0), (.slice none 0 0), (.slice none 0 0)], [(0, 1), (1, 1), (2, 1), (3, 1)]) := by kernel_rfl
@[go_sem] theorem bi122 : bldInfo Try.prog 122 = some ([(.int .i64 0), (.string ⟨#[]⟩), (.string ⟨#[]⟩), (.pointer none)], [(0, 1), (1, 1), (2, 1), (3, 1)]) := by kernel_rfl
@[go_sem] theorem co72 : callOK Try.prog 72 = true := by kernel_rfl
@[go_sem] theorem fi114_5 : fldInfo Try.prog 114 5 = some (5, false, 1) := by kernel_rfl
@[go_sem] theorem fi114_6 : fldInfo Try.prog 114 6 = some (6, false, 1) := by kernel_rfl
@[go_sem] theorem ti30 : tyInfo Try.prog 30 = some (false, 1) := by kernel_rfl
@[go_sem] theorem fi114_7 : fldInfo Try.prog 114 7 = some (7, false, 1) := by kernel_rfl
@[go_sem] theorem fi114_8 : fldInfo Try.prog 114 8 = some (8, false, 1) := by kernel_rfl
@[go_sem] theorem co73 : callOK Try.prog 73 = true := by kernel_rfl
@[go_sem] theorem fi120_3 : fldInfo Try.prog 120 3 = some (3, false, 1) := by kernel_rfl
@[go_sem] theorem co74 : callOK Try.prog 74 = true := by kernel_rfl
@[go_sem] theorem fi114_4 : fldInfo Try.prog 114 4 = some (4, false, 1) := by kernel_rfl
@[go_sem] theorem co75 : callOK Try.prog 75 = true := by kernel_rfl
@[go_sem] theorem fi114_2 : fldInfo Try.prog 114 2 = some (2, false, 1) := by kernel_rfl
@[go_sem] theorem ti112 : tyInfo Try.prog 112 = some (false, 1) := by kernel_rfl
@[go_sem] theorem si112 : slInfo Try.prog 112 = some (122, 4, 48, [(.int .i64 0), (.string ⟨#[]⟩), (.string ⟨#[]⟩), (.pointer none)]) := by kernel_rfl
@[go_sem] theorem an112 : arrInfo Try.prog 112 = none := by kernel_rfl
@[go_sem] theorem ti122 : tyInfo Try.prog 122 = some (true, 4) := by kernel_rfl
@[go_sem] theorem ze122 : zeroOf Try.prog 122 = some (.agg #[(.int .i64 0), (.string ⟨#[]⟩), (.string ⟨#[]⟩), (.pointer none)]) := by kernel_rfl
@[go_sem] theorem fi114_0 : fldInfo Try.prog 114 0 = some (0, false, 1) := by kernel_rfl
@[go_sem] theorem co76 : callOK Try.prog 76 = true := by kernel_rfl
@[go_sem] theorem ze111 : zeroOf Try.prog 111 = some (.map none) := by kernel_rfl
@[go_sem] theorem co78 : callOK Try.prog 78 = true := by kernel_rfl
@[go_sem] theorem co77 : callOK Try.prog 77 = true := by kernel_rfl
@[go_sem] theorem an54 : arrInfo Try.prog 54 = none := by kernel_rfl
@[go_sem] theorem ti9 : tyInfo Try.prog 9 = some (false, 1) := by kernel_rfl
@[go_sem] theorem co80 : callOK Try.prog 80 = true := by kernel_rfl
@[go_sem] theorem co79 : callOK Try.prog 79 = true := by kernel_rfl
@[go_sem] theorem co81 : callOK Try.prog 81 = true := by kernel_rfl
@[go_sem] theorem an59 : arrInfo Try.prog 59 = none := by kernel_rfl
@[go_sem] theorem co82 : callOK Try.prog 82 = true := by kernel_rfl
@[go_sem] theorem co83 : callOK Try.prog 83 = true := by kernel_rfl
@[go_sem] theorem co84 : callOK Try.prog 84 = true := by kernel_rfl
@[go_sem] theorem fi67_3 : fldInfo Try.prog 67 3 = some (3, false, 1) := by kernel_rfl
@[go_sem] theorem co85 : callOK Try.prog 85 = true := by kernel_rfl
@[go_sem] theorem co86 : callOK Try.prog 86 = true := by kernel_rfl
@[go_sem] theorem fi67_2 : fldInfo Try.prog 67 2 = some (2, false, 1) := by kernel_rfl
@[go_sem] theorem co87 : callOK Try.prog 87 = true := by kernel_rfl
@[go_sem] theorem co88 : callOK Try.prog 88 = true := by kernel_rfl
@[go_sem] theorem co89 : callOK Try.prog 89 = true := by kernel_rfl
@[go_sem] theorem ai133 : arrInfo Try.prog 133 = some (4, false, 1, [(.int .i64 0), (.int .i64 0), (.int .i64 0), (.int .i64 0)]) := by kernel_rfl
@[go_sem] theorem co90 : callOK Try.prog 90 = true := by kernel_rfl
@[go_sem] theorem fi67_5 : fldInfo Try.prog 67 5 = some (5, false, 1) := by kernel_rfl
@[go_sem] theorem ti50 : tyInfo Try.prog 50 = some (false, 1) := by kernel_rfl
@[go_sem] theorem co91 : callOK Try.prog 91 = true := by kernel_rfl
@[go_sem] theorem ai135 : arrInfo Try.prog 135 = some (8, false, 1, [(.string ⟨#[]⟩), (.string ⟨#[]⟩), (.string ⟨#[]⟩), (.string ⟨#[]⟩), (.string ⟨#[]⟩), (.string ⟨#[]⟩), (.string ⟨#[]⟩), (.string ⟨#[]⟩)]) := by kernel_rfl
@[go_sem] theorem ze3 : zeroOf Try.prog 3 = some (.int .i64 0) := by kernel_rfl
@[go_sem] theorem co92 : callOK Try.prog 92 = true := by kernel_rfl
@[go_sem] theorem ze29 : zeroOf Try.prog 29 = some (.slice none 0 0) := by kernel_rfl
@[go_sem] theorem co93 : callOK Try.prog 93 = true := by kernel_rfl
@[go_sem] theorem co94 : callOK Try.prog 94 = true := by kernel_rfl
@[go_sem] theorem co95 : callOK Try.prog 95 = true := by kernel_rfl
@[go_sem] theorem co96 : callOK Try.prog 96 = true := by kernel_rfl
@[go_sem] theorem ti42 : tyInfo Try.prog 42 = some (false, 1) := by kernel_rfl
@[go_sem] theorem si138 : slInfo Try.prog 138 = some (51, 1, 8, [.nilFunc]) := by kernel_rfl
@[go_sem] theorem an138 : arrInfo Try.prog 138 = none := by kernel_rfl
@[go_sem] theorem ti51 : tyInfo Try.prog 51 = some (false, 1) := by kernel_rfl
@[go_sem] theorem co97 : callOK Try.prog 97 = true := by kernel_rfl
@[go_sem] theorem co99 : callOK Try.prog 99 = true := by kernel_rfl
@[go_sem] theorem co98 : callOK Try.prog 98 = true := by kernel_rfl
@[go_sem] theorem co100 : callOK Try.prog 100 = true := by kernel_rfl
@[go_sem] theorem co101 : callOK Try.prog 101 = true := by kernel_rfl
@[go_sem] theorem co102 : callOK Try.prog 102 = true := by kernel_rfl
@[go_sem] theorem co103 : callOK Try.prog 103 = true := by kernel_rfl
@[go_sem] theorem co104 : callOK Try.prog 104 = true := by kernel_rfl
@[go_sem] theorem co105 : callOK Try.prog 105 = true := by kernel_rfl
@[go_sem] theorem co106 : callOK Try.prog 106 = true := by kernel_rfl
@[go_sem] theorem co107 : callOK Try.prog 107 = true := by kernel_rfl
@[go_sem] theorem co108 : callOK Try.prog 108 = true := by kernel_rfl
@[go_sem] theorem co109 : callOK Try.prog 109 = true := by kernel_rfl
@[go_sem] theorem co110 : callOK Try.prog 110 = true := by kernel_rfl
@[go_sem] theorem co111 : callOK Try.prog 111 = true := by kernel_rfl
@[go_sem] theorem fi82_0 : fldInfo Try.prog 82 0 = some (0, false, 1) := by kernel_rfl
@[go_sem] theorem fi82_1 : fldInfo Try.prog 82 1 = some (1, false, 1) := by kernel_rfl
@[go_sem] theorem fi82_2 : fldInfo Try.prog 82 2 = some (2, false, 1) := by kernel_rfl
@[go_sem] theorem fi82_3 : fldInfo Try.prog 82 3 = some (3, false, 1) := by kernel_rfl
@[go_sem] theorem ti54 : tyInfo Try.prog 54 = some (false, 1) := by kernel_rfl
@[go_sem] theorem fi82_4 : fldInfo Try.prog 82 4 = some (4, false, 1) := by kernel_rfl
@[go_sem] theorem ti80 : tyInfo Try.prog 80 = some (false, 1) := by kernel_rfl
@[go_sem] theorem si80 : slInfo Try.prog 80 = some (82, 5, 88, [(.int .i64 0), (.string ⟨#[]⟩), (.string ⟨#[]⟩), (.slice none 0 0), (.slice none 0 0)]) := by kernel_rfl
@[go_sem] theorem an80 : arrInfo Try.prog 80 = none := by kernel_rfl
@[go_sem] theorem co112 : callOK Try.prog 112 = true := by kernel_rfl
@[go_sem] theorem si194 : slInfo Try.prog 194 = some (137, 1, 8, [(.pointer none)]) := by kernel_rfl
@[go_sem] theorem co113 : callOK Try.prog 113 = true := by kernel_rfl
@[go_sem] theorem co114 : callOK Try.prog 114 = true := by kernel_rfl
@[go_sem] theorem co115 : callOK Try.prog 115 = true := by kernel_rfl
@[go_sem] theorem ze155 : zeroOf Try.prog 155 = some (.agg #[(.int .i64 0), (.slice none 0 0), (.int .i64 0)]) := by kernel_rfl
@[go_sem] theorem ti155 : tyInfo Try.prog 155 = some (true, 3) := by kernel_rfl
@[go_sem] theorem fi155_1 : fldInfo Try.prog 155 1 = some (1, false, 1) := by kernel_rfl
@[go_sem] theorem fi155_2 : fldInfo Try.prog 155 2 = some (2, false, 1) := by kernel_rfl
@[go_sem] theorem co116 : callOK Try.prog 116 = true := by kernel_rfl
@[go_sem] theorem fi108_0 : fldInfo Try.prog 108 0 = some (0, false, 1) := by kernel_rfl
@[go_sem] theorem bi84 : bldInfo Try.prog 84 = some ([(.int .i64 0), (.int .i64 0), (.string ⟨#[]⟩), (.string ⟨#[]⟩), (.slice none 0 0), (.slice none 0 0), (.int .i64 0), (.int .i64 0)], [(0, 1), (1, 5), (6, 1), (7, 1)]) := by kernel_rfl
@[go_sem] theorem co117 : callOK Try.prog 117 = true := by kernel_rfl
@[go_sem] theorem fi120_2 : fldInfo Try.prog 120 2 = some (2, false, 1) := by kernel_rfl
@[go_sem] theorem ti118 : tyInfo Try.prog 118 = some (false, 1) := by kernel_rfl
@[go_sem] theorem bi161 : bldInfo Try.prog 161 = some ([(.bool false), (.int .i64 0), (.slice none 0 0)], [(0, 1), (1, 1), (2, 1)]) := by kernel_rfl
@[go_sem] theorem si118 : slInfo Try.prog 118 = some (161, 3, 40, [(.bool false), (.int .i64 0), (.slice none 0 0)]) := by kernel_rfl
@[go_sem] theorem fi120_1 : fldInfo Try.prog 120 1 = some (1, false, 1) := by kernel_rfl
@[go_sem] theorem fi122_0 : fldInfo Try.prog 122 0 = some (0, false, 1) := by kernel_rfl
@[go_sem] theorem fi122_1 : fldInfo Try.prog 122 1 = some (1, false, 1) := by kernel_rfl
@[go_sem] theorem fi122_3 : fldInfo Try.prog 122 3 = some (3, false, 1) := by kernel_rfl
@[go_sem] theorem ti116 : tyInfo Try.prog 116 = some (false, 1) := by kernel_rfl
@[go_sem] theorem fi122_2 : fldInfo Try.prog 122 2 = some (2, false, 1) := by kernel_rfl
@[go_sem] theorem co119 : callOK Try.prog 119 = true := by kernel_rfl
@[go_sem] theorem co118 : callOK Try.prog 118 = true := by kernel_rfl
@[go_sem] theorem fi120_0 : fldInfo Try.prog 120 0 = some (0, false, 1) := by kernel_rfl
@[go_sem] theorem an118 : arrInfo Try.prog 118 = none := by kernel_rfl
@[go_sem] theorem ti161 : tyInfo Try.prog 161 = some (true, 3) := by kernel_rfl
@[go_sem] theorem ze161 : zeroOf Try.prog 161 = some (.agg #[(.bool false), (.int .i64 0), (.slice none 0 0)]) := by kernel_rfl
@[go_sem] theorem fi161_0 : fldInfo Try.prog 161 0 = some (0, false, 1) := by kernel_rfl
@[go_sem] theorem fi161_1 : fldInfo Try.prog 161 1 = some (1, false, 1) := by kernel_rfl
@[go_sem] theorem fi161_2 : fldInfo Try.prog 161 2 = some (2, false, 1) := by kernel_rfl
@[go_sem] theorem co120 : callOK Try.prog 120 = true := by kernel_rfl
@[go_sem] theorem co121 : callOK Try.prog 121 = true := by kernel_rfl
@[go_sem] theorem co122 : callOK Try.prog 122 = true := by kernel_rfl
@[go_sem] theorem co123 : callOK Try.prog 123 = true := by kernel_rfl
@[go_sem] theorem si72 : slInfo Try.prog 72 = some (182, 2, 24, [(.string ⟨#[]⟩), (.int .i64 0)]) := by kernel_rfl
@[go_sem] theorem co124 : callOK Try.prog 124 = true := by kernel_rfl
@[go_sem] theorem fi75_0 : fldInfo Try.prog 75 0 = some (0, false, 1) := by kernel_rfl
@[go_sem] theorem ti71 : tyInfo Try.prog 71 = some (false, 1) := by kernel_rfl
@[go_sem] theorem bi172 : bldInfo Try.prog 172 = some ([(.slice none 0 0), (.slice none 0 0)], [(0, 1), (1, 1)]) := by kernel_rfl
@[go_sem] theorem si71 : slInfo Try.prog 71 = some (172, 2, 48, [(.slice none 0 0), (.slice none 0 0)]) := by kernel_rfl
@[go_sem] theorem fi75_2 : fldInfo Try.prog 75 2 = some (2, false, 1) := by kernel_rfl
@[go_sem] theorem ti73 : tyInfo Try.prog 73 = some (false, 1) := by kernel_rfl
@[go_sem] theorem bi174 : bldInfo Try.prog 174 = some ([(.int .i64 0), (.string ⟨#[]⟩), (.string ⟨#[]⟩), (.int .i64 0)], [(0, 1), (1, 1), (2, 1), (3, 1)]) := by kernel_rfl
@[go_sem] theorem si73 : slInfo Try.prog 73 = some (174, 4, 48, [(.int .i64 0), (.string ⟨#[]⟩), (.string ⟨#[]⟩), (.int .i64 0)]) := by kernel_rfl
@[go_sem] theorem fi75_7 : fldInfo Try.prog 75 7 = some (7, false, 1) := by kernel_rfl
@[go_sem] theorem co125 : callOK Try.prog 125 = true := by kernel_rfl
@[go_sem] theorem co126 : callOK Try.prog 126 = true := by kernel_rfl
@[go_sem] theorem co127 : callOK Try.prog 127 = true := by kernel_rfl
@[go_sem] theorem an71 : arrInfo Try.prog 71 = none := by kernel_rfl
@[go_sem] theorem fi172_1 : fldInfo Try.prog 172 1 = some (1, false, 1) := by kernel_rfl
@[go_sem] theorem ti170 : tyInfo Try.prog 170 = some (false, 1) := by kernel_rfl
@[go_sem] theorem bi178 : bldInfo Try.prog 178 = some ([(.int .u8 0), (.bool false), (.int .i64 0)], [(0, 1), (1, 1), (2, 1)]) := by kernel_rfl
@[go_sem] theorem si170 : slInfo Try.prog 170 = some (178, 3, 16, [(.int .u8 0), (.bool false), (.int .i64 0)]) := by kernel_rfl
@[go_sem] theorem ti172 : tyInfo Try.prog 172 = some (true, 2) := by kernel_rfl
@[go_sem] theorem co128 : callOK Try.prog 128 = true := by kernel_rfl
@[go_sem] theorem fi75_1 : fldInfo Try.prog 75 1 = some (1, false, 1) := by kernel_rfl
@[go_sem] theorem ti72 : tyInfo Try.prog 72 = some (false, 1) := by kernel_rfl
@[go_sem] theorem fi75_4 : fldInfo Try.prog 75 4 = some (4, false, 1) := by kernel_rfl
@[go_sem] theorem fi75_5 : fldInfo Try.prog 75 5 = some (5, false, 1) := by kernel_rfl
@[go_sem] theorem fi75_6 : fldInfo Try.prog 75 6 = some (6, false, 1) := by kernel_rfl
@[go_sem] theorem co129 : callOK Try.prog 129 = true := by kernel_rfl
@[go_sem] theorem an72 : arrInfo Try.prog 72 = none := by kernel_rfl
@[go_sem] theorem fi182_1 : fldInfo Try.prog 182 1 = some (1, false, 1) := by kernel_rfl
@[go_sem] theorem fi182_0 : fldInfo Try.prog 182 0 = some (0, false, 1) := by kernel_rfl
@[go_sem] theorem bi182 : bldInfo Try.prog 182 = some ([(.string ⟨#[]⟩), (.int .i64 0)], [(0, 1), (1, 1)]) := by kernel_rfl
@[go_sem] theorem co130 : callOK Try.prog 130 = true := by kernel_rfl
@[go_sem] theorem co131 : callOK Try.prog 131 = true := by kernel_rfl
@[go_sem] theorem co132 : callOK Try.prog 132 = true := by kernel_rfl
@[go_sem] theorem co133 : callOK Try.prog 133 = true := by kernel_rfl
@[go_sem] theorem co134 : callOK Try.prog 134 = true := by kernel_rfl
@[go_sem] theorem ze89 : zeroOf Try.prog 89 = some (.agg #[(.int .i64 0), (.int .i64 0), (.int .i64 0), (.int .i64 0)]) := by kernel_rfl
@[go_sem] theorem ti89 : tyInfo Try.prog 89 = some (true, 4) := by kernel_rfl
@[go_sem] theorem bi188 : bldInfo Try.prog 188 = some ([(.int .i64 0), (.int .i64 0)], [(0, 1), (1, 1)]) := by kernel_rfl
@[go_sem] theorem co135 : callOK Try.prog 135 = true := by kernel_rfl
@[go_sem] theorem bi192 : bldInfo Try.prog 192 = some ([(.int .i64 0), (.int .i64 0), (.bool false)], [(0, 1), (1, 1), (2, 1)]) := by kernel_rfl
@[go_sem] theorem co136 : callOK Try.prog 136 = true := by kernel_rfl
@[go_sem] theorem fi192_2 : fldInfo Try.prog 192 2 = some (2, false, 1) := by kernel_rfl
@[go_sem] theorem an194 : arrInfo Try.prog 194 = none := by kernel_rfl
@[go_sem] theorem ti137 : tyInfo Try.prog 137 = some (false, 1) := by kernel_rfl
@[go_sem] theorem co137 : callOK Try.prog 137 = true := by kernel_rfl
@[go_sem] theorem ai197 : arrInfo Try.prog 197 = some (3, false, 1, [(.pointer none), (.pointer none), (.pointer none)]) := by kernel_rfl
@[go_sem] theorem co138 : callOK Try.prog 138 = true := by kernel_rfl
@[go_sem] theorem bi155 : bldInfo Try.prog 155 = some ([(.int .i64 0), (.slice none 0 0), (.int .i64 0)], [(0, 1), (1, 1), (2, 1)]) := by kernel_rfl
@[go_sem] theorem ze82 : zeroOf Try.prog 82 = some (.agg #[(.int .i64 0), (.string ⟨#[]⟩), (.string ⟨#[]⟩), (.slice none 0 0), (.slice none 0 0)]) := by kernel_rfl
@[go_sem] theorem co139 : callOK Try.prog 139 = true := by kernel_rfl
@[go_sem] theorem bi82 : bldInfo Try.prog 82 = some ([(.int .i64 0), (.string ⟨#[]⟩), (.string ⟨#[]⟩), (.slice none 0 0), (.slice none 0 0)], [(0, 1), (1, 1), (2, 1), (3, 1), (4, 1)]) := by kernel_rfl
@[go_sem] theorem co140 : callOK Try.prog 140 = true := by kernel_rfl
@[go_sem] theorem co141 : callOK Try.prog 141 = true := by kernel_rfl
@[go_sem] theorem co142 : callOK Try.prog 142 = true := by kernel_rfl
@[go_sem] theorem co143 : callOK Try.prog 143 = true := by kernel_rfl
@[go_sem] theorem co144 : callOK Try.prog 144 = true := by kernel_rfl
@[go_sem] theorem co145 : callOK Try.prog 145 = true := by kernel_rfl
@[go_sem] theorem co146 : callOK Try.prog 146 = true := by kernel_rfl
@[go_sem] theorem co147 : callOK Try.prog 147 = true := by kernel_rfl
@[go_sem] theorem co148 : callOK Try.prog 148 = true := by kernel_rfl
@[go_sem] theorem co149 : callOK Try.prog 149 = true := by kernel_rfl
@[go_sem] theorem co150 : callOK Try.prog 150 = true := by kernel_rfl
@[go_sem] theorem co151 : callOK Try.prog 151 = true := by kernel_rfl
@[go_sem] theorem co152 : callOK Try.prog 152 = true := by kernel_rfl
@[go_sem] theorem co153 : callOK Try.prog 153 = true := by kernel_rfl
@[go_sem] theorem co154 : callOK Try.prog 154 = true := by kernel_rfl
@[go_sem] theorem co155 : callOK Try.prog 155 = true := by kernel_rfl
@[go_sem] theorem co156 : callOK Try.prog 156 = true := by kernel_rfl
@[go_sem] theorem co157 : callOK Try.prog 157 = true := by kernel_rfl
@[go_sem] theorem co158 : callOK Try.prog 158 = true := by kernel_rfl
@[go_sem] theorem fi75_3 : fldInfo Try.prog 75 3 = some (3, false, 1) := by kernel_rfl
@[go_sem] theorem fi172_0 : fldInfo Try.prog 172 0 = some (0, false, 1) := by kernel_rfl
@[go_sem] theorem an170 : arrInfo Try.prog 170 = none := by kernel_rfl
@[go_sem] theorem fi178_1 : fldInfo Try.prog 178 1 = some (1, false, 1) := by kernel_rfl
@[go_sem] theorem fi178_2 : fldInfo Try.prog 178 2 = some (2, false, 1) := by kernel_rfl
@[go_sem] theorem fi178_0 : fldInfo Try.prog 178 0 = some (0, false, 1) := by kernel_rfl
@[go_sem] theorem an73 : arrInfo Try.prog 73 = none := by kernel_rfl
@[go_sem] theorem ti174 : tyInfo Try.prog 174 = some (true, 4) := by kernel_rfl
@[go_sem] theorem ze174 : zeroOf Try.prog 174 = some (.agg #[(.int .i64 0), (.string ⟨#[]⟩), (.string ⟨#[]⟩), (.int .i64 0)]) := by kernel_rfl
@[go_sem] theorem fi174_0 : fldInfo Try.prog 174 0 = some (0, false, 1) := by kernel_rfl
@[go_sem] theorem fi174_1 : fldInfo Try.prog 174 1 = some (1, false, 1) := by kernel_rfl
@[go_sem] theorem co159 : callOK Try.prog 159 = true := by kernel_rfl
@[go_sem] theorem fi174_3 : fldInfo Try.prog 174 3 = some (3, false, 1) := by kernel_rfl
@[go_sem] theorem fi174_2 : fldInfo Try.prog 174 2 = some (2, false, 1) := by kernel_rfl
@[go_sem] theorem co160 : callOK Try.prog 160 = true := by kernel_rfl
@[go_sem] theorem ze218 : zeroOf Try.prog 218 = some (.agg #[(.int .u32 0), (.int .u32 0), (.int .u32 0), (.int .u32 0), (.int .u32 0), (.int .u32 0), (.int .u32 0), (.int .u32 0), (.int .u32 0), (.int .u32 0), (.int .u32 0), (.int .u32 0), (.int .u32 0), (.int .u32 0), (.int .u32 0), (.int .u32 0)]) := by kernel_rfl
@[go_sem] theorem ti218 : tyInfo Try.prog 218 = some (true, 16) := by kernel_rfl
@[go_sem] theorem ai218 : arrInfo Try.prog 218 = some (16, false, 1, [(.int .u32 0), (.int .u32 0), (.int .u32 0), (.int .u32 0), (.int .u32 0), (.int .u32 0), (.int .u32 0), (.int .u32 0), (.int .u32 0), (.int .u32 0), (.int .u32 0), (.int .u32 0), (.int .u32 0), (.int .u32 0), (.int .u32 0), (.int .u32 0)]) := by kernel_rfl
@[go_sem] theorem ti141 : tyInfo Try.prog 141 = some (false, 1) := by kernel_rfl
@[go_sem] theorem co161 : callOK Try.prog 161 = true := by kernel_rfl
@[go_sem] theorem co162 : callOK Try.prog 162 = true := by kernel_rfl
@[go_sem] theorem fi188_0 : fldInfo Try.prog 188 0 = some (0, false, 1) := by kernel_rfl
@[go_sem] theorem co163 : callOK Try.prog 163 = true := by kernel_rfl
@[go_sem] theorem fi188_1 : fldInfo Try.prog 188 1 = some (1, false, 1) := by kernel_rfl
@[go_sem] theorem fi192_0 : fldInfo Try.prog 192 0 = some (0, false, 1) := by kernel_rfl
@[go_sem] theorem co164 : callOK Try.prog 164 = true := by kernel_rfl
@[go_sem] theorem co165 : callOK Try.prog 165 = true := by kernel_rfl
@[go_sem] theorem co166 : callOK Try.prog 166 = true := by kernel_rfl
@[go_sem] theorem co167 : callOK Try.prog 167 = true := by kernel_rfl
@[go_sem] theorem bi226 : bldInfo Try.prog 226 = some ([(.slice none 0 0), (.int .i64 0), (.int .i64 0)], [(0, 1), (1, 1), (2, 1)]) := by kernel_rfl
@[go_sem] theorem ze224 : zeroOf Try.prog 224 = some (.pointer none) := by kernel_rfl
@[go_sem] theorem ti224 : tyInfo Try.prog 224 = some (false, 1) := by kernel_rfl
@[go_sem] theorem co169 : callOK Try.prog 169 = true := by kernel_rfl
@[go_sem] theorem co168 : callOK Try.prog 168 = true := by kernel_rfl
@[go_sem] theorem fi226_1 : fldInfo Try.prog 226 1 = some (1, false, 1) := by kernel_rfl
@[go_sem] theorem co171 : callOK Try.prog 171 = true := by kernel_rfl
@[go_sem] theorem co172 : callOK Try.prog 172 = true := by kernel_rfl
@[go_sem] theorem ze231 : zeroOf Try.prog 231 = some (.int .u64 0) := by kernel_rfl
@[go_sem] theorem ti231 : tyInfo Try.prog 231 = some (false, 1) := by kernel_rfl
@[go_sem] theorem co173 : callOK Try.prog 173 = true := by kernel_rfl
@[go_sem] theorem co174 : callOK Try.prog 174 = true := by kernel_rfl
@[go_sem] theorem co175 : callOK Try.prog 175 = true := by kernel_rfl
@[go_sem] theorem co176 : callOK Try.prog 176 = true := by kernel_rfl
@[go_sem] theorem an9 : arrInfo Try.prog 9 = none := by kernel_rfl
@[go_sem] theorem co177 : callOK Try.prog 177 = true := by kernel_rfl
@[go_sem] theorem co178 : callOK Try.prog 178 = true := by kernel_rfl
@[go_sem] theorem co179 : callOK Try.prog 179 = true := by kernel_rfl
@[go_sem] theorem co180 : callOK Try.prog 180 = true := by kernel_rfl
@[go_sem] theorem ti182 : tyInfo Try.prog 182 = some (true, 2) := by kernel_rfl
@[go_sem] theorem co181 : callOK Try.prog 181 = true := by kernel_rfl
@[go_sem] theorem co182 : callOK Try.prog 182 = true := by kernel_rfl
@[go_sem] theorem fi192_1 : fldInfo Try.prog 192 1 = some (1, false, 1) := by kernel_rfl
@[go_sem] theorem ze4 : zeroOf Try.prog 4 = some (.bool false) := by kernel_rfl
@[go_sem] theorem co183 : callOK Try.prog 183 = true := by kernel_rfl
@[go_sem] theorem co170 : callOK Try.prog 170 = true := by kernel_rfl
@[go_sem] theorem fi226_2 : fldInfo Try.prog 226 2 = some (2, false, 1) := by kernel_rfl
@[go_sem] theorem bi238 : bldInfo Try.prog 238 = some ([], []) := by kernel_rfl
@[go_sem] theorem ni238 : notIface Try.prog 238 = true := by kernel_rfl
@[go_sem] theorem co184 : callOK Try.prog 184 = true := by kernel_rfl
@[go_sem] theorem co185 : callOK Try.prog 185 = true := by kernel_rfl
@[go_sem] theorem co186 : callOK Try.prog 186 = true := by kernel_rfl
@[go_sem] theorem co187 : callOK Try.prog 187 = true := by kernel_rfl
@[go_sem] theorem ze238 : zeroOf Try.prog 238 = some (.agg #[]) := by kernel_rfl
@[go_sem] theorem ti238 : tyInfo Try.prog 238 = some (true, 0) := by kernel_rfl
@[go_sem] theorem fi226_0 : fldInfo Try.prog 226 0 = some (0, false, 1) := by kernel_rfl
@[go_sem] theorem co188 : callOK Try.prog 188 = true := by kernel_rfl
attribute [go_sem] Try.underlying3 Try.underlying4 Try.underlying5 Try.underlying9 Try.underlying22 Try.underlying23 Try.underlying29 Try.underlying30 Try.underlying42 Try.underlying50 Try.underlying54 Try.underlying59 Try.underlying65 Try.underlying68 Try.underlying71 Try.underlying72 Try.underlying73 Try.underlying80 Try.underlying89 Try.underlying92 Try.underlying93 Try.underlying106 Try.underlying111 Try.underlying112 Try.underlying116 Try.underlying118 Try.underlying133 Try.underlying135 Try.underlying137 Try.underlying138 Try.underlying140 Try.underlying141 Try.underlying170 Try.underlying186 Try.underlying190 Try.underlying194 Try.underlying197 Try.underlying202 Try.underlying218 Try.underlying224 Try.underlying231
end Go.Proofs.Ytenencpnnjacdaa
