/- Closed facts on the types and functions of this seat, for a symbolic run. Written by a program (gentab.py). -/
import Derived.Test.YtadgciaclhjjkaaGreatProg
import Derived.Test.YtadgciaclhjjkaaGreatC07
set_option linter.unusedVariables false
set_option maxRecDepth 100000
namespace Go.Proofs.YtadgciaclhjjkaaGreat
theorem mixed : Tryz.prog.follows .mixedOrders = true := by kernel_rfl
theorem allFit : fitAll Tryz.prog = true := by kernel_rfl
theorem enter {W0 : World} {f : FuncId} {fn : Func} {c : Code} {args : List Value} {st : Heap} {R : Ending → Heap → Prop} (hf : Tryz.prog.funcs[f]? = some fn) (hb : fn.body = some c)
    (h : IW Tryz.prog W0 c (RetI Tryz.prog fn.results R) (fun ch st => R (.panicked ch) st) (Env.args args) st) : ICalls Tryz.prog W0 f args.toArray st R := ICalls_of' mixed allFit hf hb h
@[go_sem] theorem ti39 : tyInfo Tryz.prog 39 = some (true, 18) := by kernel_rfl
@[go_sem] theorem si40 : slInfo Tryz.prog 40 = some (5, 1, 1, [(.int .u8 0)]) := by kernel_rfl
@[go_sem] theorem co12 : callOK Tryz.prog 12 = true := by kernel_rfl
@[go_sem] theorem co14 : callOK Tryz.prog 14 = true := by kernel_rfl
@[go_sem] theorem ze39 : zeroOf Tryz.prog 39 = some (.agg #[(.int .i64 0), (.int .i64 0), (.slice none 0 0), (.int .i64 0), (.slice none 0 0), (.slice none 0 0), (.int .u64 0), (.int .u64 0), (.int .u64 0), (.int .u64 0), (.int .i64 0), (.int .i64 0), (.string ⟨#[]⟩), (.string ⟨#[]⟩), (.slice none 0 0), (.slice none 0 0), (.int .i64 0), (.int .i64 0)]) := by kernel_rfl
@[go_sem] theorem co15 : callOK Tryz.prog 15 = true := by kernel_rfl
@[go_sem] theorem co20 : callOK Tryz.prog 20 = true := by kernel_rfl
@[go_sem] theorem co21 : callOK Tryz.prog 21 = true := by kernel_rfl
@[go_sem] theorem co25 : callOK Tryz.prog 25 = true := by kernel_rfl
@[go_sem] theorem co26 : callOK Tryz.prog 26 = true := by kernel_rfl
@[go_sem] theorem co27 : callOK Tryz.prog 27 = true := by kernel_rfl
@[go_sem] theorem si58 : slInfo Tryz.prog 58 = some (3, 1, 8, [(.int .i64 0)]) := by kernel_rfl
@[go_sem] theorem an58 : arrInfo Tryz.prog 58 = none := by kernel_rfl
@[go_sem] theorem ti3 : tyInfo Tryz.prog 3 = some (false, 1) := by kernel_rfl
@[go_sem] theorem bi62 : bldInfo Tryz.prog 62 = some ([(.slice none 0 0), (.int .i64 0), (.bool false)], [(0, 1), (1, 1), (2, 1)]) := by kernel_rfl
@[go_sem] theorem co28 : callOK Tryz.prog 28 = true := by kernel_rfl
@[go_sem] theorem fi62_1 : fldInfo Tryz.prog 62 1 = some (1, false, 1) := by kernel_rfl
@[go_sem] theorem an40 : arrInfo Tryz.prog 40 = none := by kernel_rfl
@[go_sem] theorem ti5 : tyInfo Tryz.prog 5 = some (false, 1) := by kernel_rfl
@[go_sem] theorem si32 : slInfo Tryz.prog 32 = some (9, 1, 16, [(.string ⟨#[]⟩)]) := by kernel_rfl
@[go_sem] theorem si64 : slInfo Tryz.prog 64 = some (40, 1, 24, [(.slice none 0 0)]) := by kernel_rfl
@[go_sem] theorem co29 : callOK Tryz.prog 29 = true := by kernel_rfl
@[go_sem] theorem co30 : callOK Tryz.prog 30 = true := by kernel_rfl
@[go_sem] theorem si70 : slInfo Tryz.prog 70 = some (39, 18, 240, [(.int .i64 0), (.int .i64 0), (.slice none 0 0), (.int .i64 0), (.slice none 0 0), (.slice none 0 0), (.int .u64 0), (.int .u64 0), (.int .u64 0), (.int .u64 0), (.int .i64 0), (.int .i64 0), (.string ⟨#[]⟩), (.string ⟨#[]⟩), (.slice none 0 0), (.slice none 0 0), (.int .i64 0), (.int .i64 0)]) := by kernel_rfl
@[go_sem] theorem co31 : callOK Tryz.prog 31 = true := by kernel_rfl
@[go_sem] theorem co32 : callOK Tryz.prog 32 = true := by kernel_rfl
@[go_sem] theorem ti4 : tyInfo Tryz.prog 4 = some (false, 1) := by kernel_rfl
@[go_sem] theorem co33 : callOK Tryz.prog 33 = true := by kernel_rfl
@[go_sem] theorem co34 : callOK Tryz.prog 34 = true := by kernel_rfl
@[go_sem] theorem an70 : arrInfo Tryz.prog 70 = none := by kernel_rfl
@[go_sem] theorem fi39_0 : fldInfo Tryz.prog 39 0 = some (0, false, 1) := by kernel_rfl
@[go_sem] theorem fi39_2 : fldInfo Tryz.prog 39 2 = some (2, true, 8) := by kernel_rfl
@[go_sem] theorem fi31_1 : fldInfo Tryz.prog 31 1 = some (1, false, 1) := by kernel_rfl
@[go_sem] theorem fi39_1 : fldInfo Tryz.prog 39 1 = some (1, false, 1) := by kernel_rfl
@[go_sem] theorem an64 : arrInfo Tryz.prog 64 = none := by kernel_rfl
@[go_sem] theorem ti40 : tyInfo Tryz.prog 40 = some (false, 1) := by kernel_rfl
@[go_sem] theorem fi31_2 : fldInfo Tryz.prog 31 2 = some (2, true, 6) := by kernel_rfl
@[go_sem] theorem fi29_1 : fldInfo Tryz.prog 29 1 = some (1, false, 1) := by kernel_rfl
@[go_sem] theorem ti24 : tyInfo Tryz.prog 24 = some (false, 1) := by kernel_rfl
@[go_sem] theorem co45 : callOK Tryz.prog 45 = true := by kernel_rfl
@[go_sem] theorem ti69 : tyInfo Tryz.prog 69 = some (false, 1) := by kernel_rfl
@[go_sem] theorem fi31_0 : fldInfo Tryz.prog 31 0 = some (0, false, 1) := by kernel_rfl
@[go_sem] theorem ti22 : tyInfo Tryz.prog 22 = some (false, 1) := by kernel_rfl
@[go_sem] theorem si22 : slInfo Tryz.prog 22 = some (186, 2, 32, [(.string ⟨#[]⟩), (.string ⟨#[]⟩)]) := by kernel_rfl
@[go_sem] theorem ti29 : tyInfo Tryz.prog 29 = some (true, 6) := by kernel_rfl
@[go_sem] theorem fi39_3 : fldInfo Tryz.prog 39 3 = some (10, true, 8) := by kernel_rfl
@[go_sem] theorem fi37_1 : fldInfo Tryz.prog 37 1 = some (1, true, 5) := by kernel_rfl
@[go_sem] theorem ti35 : tyInfo Tryz.prog 35 = some (true, 5) := by kernel_rfl
@[go_sem] theorem co53 : callOK Tryz.prog 53 = true := by kernel_rfl
@[go_sem] theorem co52 : callOK Tryz.prog 52 = true := by kernel_rfl
@[go_sem] theorem co55 : callOK Tryz.prog 55 = true := by kernel_rfl
@[go_sem] theorem co54 : callOK Tryz.prog 54 = true := by kernel_rfl
@[go_sem] theorem co56 : callOK Tryz.prog 56 = true := by kernel_rfl
@[go_sem] theorem fi37_2 : fldInfo Tryz.prog 37 2 = some (6, false, 1) := by kernel_rfl
@[go_sem] theorem fi37_3 : fldInfo Tryz.prog 37 3 = some (7, false, 1) := by kernel_rfl
@[go_sem] theorem ti31 : tyInfo Tryz.prog 31 = some (true, 8) := by kernel_rfl
@[go_sem] theorem ti37 : tyInfo Tryz.prog 37 = some (true, 8) := by kernel_rfl
@[go_sem] theorem bi39 : bldInfo Tryz.prog 39 = some ([(.int .i64 0), (.int .i64 0), (.slice none 0 0), (.int .i64 0), (.slice none 0 0), (.slice none 0 0), (.int .u64 0), (.int .u64 0), (.int .u64 0), (.int .u64 0), (.int .i64 0), (.int .i64 0), (.string ⟨#[]⟩), (.string ⟨#[]⟩), (.slice none 0 0), (.slice none 0 0), (.int .i64 0), (.int .i64 0)], [(0, 1), (1, 1), (2, 8), (10, 8)]) := by kernel_rfl
@[go_sem] theorem co59 : callOK Tryz.prog 59 = true := by kernel_rfl
@[go_sem] theorem co60 : callOK Tryz.prog 60 = true := by kernel_rfl
@[go_sem] theorem co61 : callOK Tryz.prog 61 = true := by kernel_rfl
@[go_sem] theorem co62 : callOK Tryz.prog 62 = true := by kernel_rfl
@[go_sem] theorem fi37_0 : fldInfo Tryz.prog 37 0 = some (0, false, 1) := by kernel_rfl
@[go_sem] theorem co63 : callOK Tryz.prog 63 = true := by kernel_rfl
@[go_sem] theorem co64 : callOK Tryz.prog 64 = true := by kernel_rfl
@[go_sem] theorem co65 : callOK Tryz.prog 65 = true := by kernel_rfl
@[go_sem] theorem co66 : callOK Tryz.prog 66 = true := by kernel_rfl
@[go_sem] theorem co67 : callOK Tryz.prog 67 = true := by kernel_rfl
@[go_sem] theorem fi62_2 : fldInfo Tryz.prog 62 2 = some (2, false, 1) := by kernel_rfl
@[go_sem] theorem co74 : callOK Tryz.prog 74 = true := by kernel_rfl
@[go_sem] theorem an9 : arrInfo Tryz.prog 9 = none := by kernel_rfl
@[go_sem] theorem co76 : callOK Tryz.prog 76 = true := by kernel_rfl
@[go_sem] theorem bi139 : bldInfo Tryz.prog 139 = some ([(.int .u64 0), (.string ⟨#[]⟩), (.int .u64 0)], [(0, 1), (1, 1), (2, 1)]) := by kernel_rfl
@[go_sem] theorem si140 : slInfo Tryz.prog 140 = some (139, 3, 32, [(.int .u64 0), (.string ⟨#[]⟩), (.int .u64 0)]) := by kernel_rfl
@[go_sem] theorem co77 : callOK Tryz.prog 77 = true := by kernel_rfl
@[go_sem] theorem bi31 : bldInfo Tryz.prog 31 = some ([(.slice none 0 0), (.int .i64 0), (.slice none 0 0), (.slice none 0 0), (.int .u64 0), (.int .u64 0), (.int .u64 0), (.int .u64 0)], [(0, 1), (1, 1), (2, 6)]) := by kernel_rfl
@[go_sem] theorem co78 : callOK Tryz.prog 78 = true := by kernel_rfl
@[go_sem] theorem fi62_0 : fldInfo Tryz.prog 62 0 = some (0, false, 1) := by kernel_rfl
@[go_sem] theorem an32 : arrInfo Tryz.prog 32 = none := by kernel_rfl
@[go_sem] theorem ti9 : tyInfo Tryz.prog 9 = some (false, 1) := by kernel_rfl
@[go_sem] theorem co79 : callOK Tryz.prog 79 = true := by kernel_rfl
@[go_sem] theorem fi149_1 : fldInfo Tryz.prog 149 1 = some (1, false, 1) := by kernel_rfl
@[go_sem] theorem ti146 : tyInfo Tryz.prog 146 = some (false, 1) := by kernel_rfl
@[go_sem] theorem mi146 : mapInfo Tryz.prog 146 = some (9, .string, (.pointer none)) := by kernel_rfl
@[go_sem] theorem co80 : callOK Tryz.prog 80 = true := by kernel_rfl
@[go_sem] theorem co81 : callOK Tryz.prog 81 = true := by kernel_rfl
@[go_sem] theorem co82 : callOK Tryz.prog 82 = true := by kernel_rfl
@[go_sem] theorem ze69 : zeroOf Tryz.prog 69 = some (.pointer none) := by kernel_rfl
@[go_sem] theorem ze70 : zeroOf Tryz.prog 70 = some (.slice none 0 0) := by kernel_rfl
@[go_sem] theorem ze66 : zeroOf Tryz.prog 66 = some (.int .i64 0) := by kernel_rfl
@[go_sem] theorem ti70 : tyInfo Tryz.prog 70 = some (false, 1) := by kernel_rfl
@[go_sem] theorem ti66 : tyInfo Tryz.prog 66 = some (false, 1) := by kernel_rfl
@[go_sem] theorem bi153 : bldInfo Tryz.prog 153 = some ([(.pointer none), (.int .i64 0), (.int .i64 0), (.int .i64 0)], [(0, 1), (1, 1), (2, 1), (3, 1)]) := by kernel_rfl
@[go_sem] theorem fi153_3 : fldInfo Tryz.prog 153 3 = some (3, false, 1) := by kernel_rfl
@[go_sem] theorem co83 : callOK Tryz.prog 83 = true := by kernel_rfl
@[go_sem] theorem co84 : callOK Tryz.prog 84 = true := by kernel_rfl
@[go_sem] theorem fi153_1 : fldInfo Tryz.prog 153 1 = some (1, false, 1) := by kernel_rfl
@[go_sem] theorem fi153_2 : fldInfo Tryz.prog 153 2 = some (2, false, 1) := by kernel_rfl
@[go_sem] theorem bi149 : bldInfo Tryz.prog 149 = some ([(.map none), (.map none), (.slice none 0 0), (.int .i64 0), (.int .i64 0), (.bool false), (.int .i64 0), (.int .i64 0), (.bool false)], [(0, 1), (1, 1), (2, 1), (3, 1), (4, 1), (5, 1), (6, 1), (7, 1), (8, 1)]) := by kernel_rfl
@[go_sem] theorem fi153_0 : fldInfo Tryz.prog 153 0 = some (0, false, 1) := by kernel_rfl
@[go_sem] theorem ti65 : tyInfo Tryz.prog 65 = some (false, 1) := by kernel_rfl
@[go_sem] theorem co85 : callOK Tryz.prog 85 = true := by kernel_rfl
@[go_sem] theorem co86 : callOK Tryz.prog 86 = true := by kernel_rfl
@[go_sem] theorem co87 : callOK Tryz.prog 87 = true := by kernel_rfl
@[go_sem] theorem co88 : callOK Tryz.prog 88 = true := by kernel_rfl
@[go_sem] theorem co89 : callOK Tryz.prog 89 = true := by kernel_rfl
@[go_sem] theorem co90 : callOK Tryz.prog 90 = true := by kernel_rfl
@[go_sem] theorem fi149_4 : fldInfo Tryz.prog 149 4 = some (4, false, 1) := by kernel_rfl
@[go_sem] theorem fi149_5 : fldInfo Tryz.prog 149 5 = some (5, false, 1) := by kernel_rfl
@[go_sem] theorem fi149_6 : fldInfo Tryz.prog 149 6 = some (6, false, 1) := by kernel_rfl
@[go_sem] theorem fi149_7 : fldInfo Tryz.prog 149 7 = some (7, false, 1) := by kernel_rfl
@[go_sem] theorem si24 : slInfo Tryz.prog 24 = some (25, 1, 8, [(.int .u64 0)]) := by kernel_rfl
@[go_sem] theorem fi149_0 : fldInfo Tryz.prog 149 0 = some (0, false, 1) := by kernel_rfl
@[go_sem] theorem fi149_2 : fldInfo Tryz.prog 149 2 = some (2, false, 1) := by kernel_rfl
@[go_sem] theorem ti147 : tyInfo Tryz.prog 147 = some (false, 1) := by kernel_rfl
@[go_sem] theorem si147 : slInfo Tryz.prog 147 = some (176, 4, 48, [(.int .i64 0), (.string ⟨#[]⟩), (.string ⟨#[]⟩), (.pointer none)]) := by kernel_rfl
@[go_sem] theorem an147 : arrInfo Tryz.prog 147 = none := by kernel_rfl
@[go_sem] theorem ti176 : tyInfo Tryz.prog 176 = some (true, 4) := by kernel_rfl
@[go_sem] theorem ze176 : zeroOf Tryz.prog 176 = some (.agg #[(.int .i64 0), (.string ⟨#[]⟩), (.string ⟨#[]⟩), (.pointer none)]) := by kernel_rfl
@[go_sem] theorem co98 : callOK Tryz.prog 98 = true := by kernel_rfl
@[go_sem] theorem fi181_3 : fldInfo Tryz.prog 181 3 = some (3, false, 1) := by kernel_rfl
@[go_sem] theorem fi29_0 : fldInfo Tryz.prog 29 0 = some (0, false, 1) := by kernel_rfl
@[go_sem] theorem ti23 : tyInfo Tryz.prog 23 = some (false, 1) := by kernel_rfl
@[go_sem] theorem si23 : slInfo Tryz.prog 23 = some (252, 2, 16, [(.int .i64 0), (.int .u64 0)]) := by kernel_rfl
@[go_sem] theorem an22 : arrInfo Tryz.prog 22 = none := by kernel_rfl
@[go_sem] theorem fi186_0 : fldInfo Tryz.prog 186 0 = some (0, false, 1) := by kernel_rfl
@[go_sem] theorem fi186_1 : fldInfo Tryz.prog 186 1 = some (1, false, 1) := by kernel_rfl
@[go_sem] theorem co111 : callOK Tryz.prog 111 = true := by kernel_rfl
@[go_sem] theorem fi29_2 : fldInfo Tryz.prog 29 2 = some (2, true, 4) := by kernel_rfl
@[go_sem] theorem ti27 : tyInfo Tryz.prog 27 = some (true, 4) := by kernel_rfl
@[go_sem] theorem ze3 : zeroOf Tryz.prog 3 = some (.int .i64 0) := by kernel_rfl
@[go_sem] theorem co114 : callOK Tryz.prog 114 = true := by kernel_rfl
@[go_sem] theorem co117 : callOK Tryz.prog 117 = true := by kernel_rfl
@[go_sem] theorem co116 : callOK Tryz.prog 116 = true := by kernel_rfl
@[go_sem] theorem co120 : callOK Tryz.prog 120 = true := by kernel_rfl
@[go_sem] theorem co119 : callOK Tryz.prog 119 = true := by kernel_rfl
@[go_sem] theorem co118 : callOK Tryz.prog 118 = true := by kernel_rfl
@[go_sem] theorem ti186 : tyInfo Tryz.prog 186 = some (true, 2) := by kernel_rfl
@[go_sem] theorem ze186 : zeroOf Tryz.prog 186 = some (.agg #[(.string ⟨#[]⟩), (.string ⟨#[]⟩)]) := by kernel_rfl
@[go_sem] theorem co121 : callOK Tryz.prog 121 = true := by kernel_rfl
@[go_sem] theorem co122 : callOK Tryz.prog 122 = true := by kernel_rfl
@[go_sem] theorem co123 : callOK Tryz.prog 123 = true := by kernel_rfl
@[go_sem] theorem ze31 : zeroOf Tryz.prog 31 = some (.agg #[(.slice none 0 0), (.int .i64 0), (.slice none 0 0), (.slice none 0 0), (.int .u64 0), (.int .u64 0), (.int .u64 0), (.int .u64 0)]) := by kernel_rfl
@[go_sem] theorem ze37 : zeroOf Tryz.prog 37 = some (.agg #[(.int .i64 0), (.int .i64 0), (.string ⟨#[]⟩), (.string ⟨#[]⟩), (.slice none 0 0), (.slice none 0 0), (.int .i64 0), (.int .i64 0)]) := by kernel_rfl
@[go_sem] theorem co127 : callOK Tryz.prog 127 = true := by kernel_rfl
@[go_sem] theorem co128 : callOK Tryz.prog 128 = true := by kernel_rfl
@[go_sem] theorem bi37 : bldInfo Tryz.prog 37 = some ([(.int .i64 0), (.int .i64 0), (.string ⟨#[]⟩), (.string ⟨#[]⟩), (.slice none 0 0), (.slice none 0 0), (.int .i64 0), (.int .i64 0)], [(0, 1), (1, 5), (6, 1), (7, 1)]) := by kernel_rfl
@[go_sem] theorem co129 : callOK Tryz.prog 129 = true := by kernel_rfl
@[go_sem] theorem co130 : callOK Tryz.prog 130 = true := by kernel_rfl
@[go_sem] theorem co131 : callOK Tryz.prog 131 = true := by kernel_rfl
@[go_sem] theorem co132 : callOK Tryz.prog 132 = true := by kernel_rfl
@[go_sem] theorem co133 : callOK Tryz.prog 133 = true := by kernel_rfl
@[go_sem] theorem fi35_0 : fldInfo Tryz.prog 35 0 = some (0, false, 1) := by kernel_rfl
@[go_sem] theorem fi35_1 : fldInfo Tryz.prog 35 1 = some (1, false, 1) := by kernel_rfl
@[go_sem] theorem fi35_2 : fldInfo Tryz.prog 35 2 = some (2, false, 1) := by kernel_rfl
@[go_sem] theorem fi35_3 : fldInfo Tryz.prog 35 3 = some (3, false, 1) := by kernel_rfl
@[go_sem] theorem ti32 : tyInfo Tryz.prog 32 = some (false, 1) := by kernel_rfl
@[go_sem] theorem fi35_4 : fldInfo Tryz.prog 35 4 = some (4, false, 1) := by kernel_rfl
@[go_sem] theorem ti33 : tyInfo Tryz.prog 33 = some (false, 1) := by kernel_rfl
@[go_sem] theorem si33 : slInfo Tryz.prog 33 = some (35, 5, 88, [(.int .i64 0), (.string ⟨#[]⟩), (.string ⟨#[]⟩), (.slice none 0 0), (.slice none 0 0)]) := by kernel_rfl
@[go_sem] theorem an33 : arrInfo Tryz.prog 33 = none := by kernel_rfl
@[go_sem] theorem bi186 : bldInfo Tryz.prog 186 = some ([(.string ⟨#[]⟩), (.string ⟨#[]⟩)], [(0, 1), (1, 1)]) := by kernel_rfl
@[go_sem] theorem ze29 : zeroOf Tryz.prog 29 = some (.agg #[(.slice none 0 0), (.slice none 0 0), (.int .u64 0), (.int .u64 0), (.int .u64 0), (.int .u64 0)]) := by kernel_rfl
@[go_sem] theorem bi29 : bldInfo Tryz.prog 29 = some ([(.slice none 0 0), (.slice none 0 0), (.int .u64 0), (.int .u64 0), (.int .u64 0), (.int .u64 0)], [(0, 1), (1, 1), (2, 4)]) := by kernel_rfl
@[go_sem] theorem ze35 : zeroOf Tryz.prog 35 = some (.agg #[(.int .i64 0), (.string ⟨#[]⟩), (.string ⟨#[]⟩), (.slice none 0 0), (.slice none 0 0)]) := by kernel_rfl
@[go_sem] theorem bi35 : bldInfo Tryz.prog 35 = some ([(.int .i64 0), (.string ⟨#[]⟩), (.string ⟨#[]⟩), (.slice none 0 0), (.slice none 0 0)], [(0, 1), (1, 1), (2, 1), (3, 1), (4, 1)]) := by kernel_rfl
@[go_sem] theorem an140 : arrInfo Tryz.prog 140 = none := by kernel_rfl
@[go_sem] theorem fi139_0 : fldInfo Tryz.prog 139 0 = some (0, false, 1) := by kernel_rfl
@[go_sem] theorem ti25 : tyInfo Tryz.prog 25 = some (false, 1) := by kernel_rfl
@[go_sem] theorem co143 : callOK Tryz.prog 143 = true := by kernel_rfl
@[go_sem] theorem co142 : callOK Tryz.prog 142 = true := by kernel_rfl
@[go_sem] theorem fi139_1 : fldInfo Tryz.prog 139 1 = some (1, false, 1) := by kernel_rfl
@[go_sem] theorem co144 : callOK Tryz.prog 144 = true := by kernel_rfl
@[go_sem] theorem fi139_2 : fldInfo Tryz.prog 139 2 = some (2, false, 1) := by kernel_rfl
@[go_sem] theorem co145 : callOK Tryz.prog 145 = true := by kernel_rfl
@[go_sem] theorem co146 : callOK Tryz.prog 146 = true := by kernel_rfl
@[go_sem] theorem fi149_3 : fldInfo Tryz.prog 149 3 = some (3, false, 1) := by kernel_rfl
@[go_sem] theorem bi181 : bldInfo Tryz.prog 181 = some ([(.int .i64 0), (.slice none 0 0), (.slice none 0 0), (.slice none 0 0)], [(0, 1), (1, 1), (2, 1), (3, 1)]) := by kernel_rfl
@[go_sem] theorem fi181_2 : fldInfo Tryz.prog 181 2 = some (2, false, 1) := by kernel_rfl
@[go_sem] theorem ti179 : tyInfo Tryz.prog 179 = some (false, 1) := by kernel_rfl
@[go_sem] theorem bi225 : bldInfo Tryz.prog 225 = some ([(.bool false), (.int .i64 0), (.slice none 0 0)], [(0, 1), (1, 1), (2, 1)]) := by kernel_rfl
@[go_sem] theorem si179 : slInfo Tryz.prog 179 = some (225, 3, 40, [(.bool false), (.int .i64 0), (.slice none 0 0)]) := by kernel_rfl
@[go_sem] theorem fi181_1 : fldInfo Tryz.prog 181 1 = some (1, false, 1) := by kernel_rfl
@[go_sem] theorem co148 : callOK Tryz.prog 148 = true := by kernel_rfl
@[go_sem] theorem co149 : callOK Tryz.prog 149 = true := by kernel_rfl
@[go_sem] theorem bi176 : bldInfo Tryz.prog 176 = some ([(.int .i64 0), (.string ⟨#[]⟩), (.string ⟨#[]⟩), (.pointer none)], [(0, 1), (1, 1), (2, 1), (3, 1)]) := by kernel_rfl
@[go_sem] theorem co150 : callOK Tryz.prog 150 = true := by kernel_rfl
@[go_sem] theorem co151 : callOK Tryz.prog 151 = true := by kernel_rfl
@[go_sem] theorem co152 : callOK Tryz.prog 152 = true := by kernel_rfl
@[go_sem] theorem co153 : callOK Tryz.prog 153 = true := by kernel_rfl
@[go_sem] theorem fi149_8 : fldInfo Tryz.prog 149 8 = some (8, false, 1) := by kernel_rfl
@[go_sem] theorem fi176_0 : fldInfo Tryz.prog 176 0 = some (0, false, 1) := by kernel_rfl
@[go_sem] theorem fi176_1 : fldInfo Tryz.prog 176 1 = some (1, false, 1) := by kernel_rfl
@[go_sem] theorem fi176_3 : fldInfo Tryz.prog 176 3 = some (3, false, 1) := by kernel_rfl
@[go_sem] theorem ti145 : tyInfo Tryz.prog 145 = some (false, 1) := by kernel_rfl
@[go_sem] theorem fi176_2 : fldInfo Tryz.prog 176 2 = some (2, false, 1) := by kernel_rfl
@[go_sem] theorem an23 : arrInfo Tryz.prog 23 = none := by kernel_rfl
@[go_sem] theorem fi252_0 : fldInfo Tryz.prog 252 0 = some (0, false, 1) := by kernel_rfl
@[go_sem] theorem fi252_1 : fldInfo Tryz.prog 252 1 = some (1, false, 1) := by kernel_rfl
@[go_sem] theorem an24 : arrInfo Tryz.prog 24 = none := by kernel_rfl
@[go_sem] theorem fi27_0 : fldInfo Tryz.prog 27 0 = some (0, false, 1) := by kernel_rfl
@[go_sem] theorem fi27_2 : fldInfo Tryz.prog 27 2 = some (2, false, 1) := by kernel_rfl
@[go_sem] theorem fi27_3 : fldInfo Tryz.prog 27 3 = some (3, false, 1) := by kernel_rfl
@[go_sem] theorem co165 : callOK Tryz.prog 165 = true := by kernel_rfl
@[go_sem] theorem fi27_1 : fldInfo Tryz.prog 27 1 = some (1, false, 1) := by kernel_rfl
@[go_sem] theorem co170 : callOK Tryz.prog 170 = true := by kernel_rfl
@[go_sem] theorem bi258 : bldInfo Tryz.prog 258 = some ([(.int .u64 0), (.int .u64 0)], [(0, 1), (1, 1)]) := by kernel_rfl
@[go_sem] theorem ai258 : arrInfo Tryz.prog 258 = some (2, false, 1, [(.int .u64 0), (.int .u64 0)]) := by kernel_rfl
@[go_sem] theorem co171 : callOK Tryz.prog 171 = true := by kernel_rfl
@[go_sem] theorem co172 : callOK Tryz.prog 172 = true := by kernel_rfl
@[go_sem] theorem co173 : callOK Tryz.prog 173 = true := by kernel_rfl
@[go_sem] theorem bi261 : bldInfo Tryz.prog 261 = some ([(.int .i64 0), (.int .i64 0)], [(0, 1), (1, 1)]) := by kernel_rfl
@[go_sem] theorem co174 : callOK Tryz.prog 174 = true := by kernel_rfl
@[go_sem] theorem co178 : callOK Tryz.prog 178 = true := by kernel_rfl
@[go_sem] theorem co179 : callOK Tryz.prog 179 = true := by kernel_rfl
@[go_sem] theorem co180 : callOK Tryz.prog 180 = true := by kernel_rfl
@[go_sem] theorem co181 : callOK Tryz.prog 181 = true := by kernel_rfl
@[go_sem] theorem co182 : callOK Tryz.prog 182 = true := by kernel_rfl
@[go_sem] theorem bi276 : bldInfo Tryz.prog 276 = some ([(.slice none 0 0), (.int .i64 0), (.int .i64 0)], [(0, 1), (1, 1), (2, 1)]) := by kernel_rfl
@[go_sem] theorem ze274 : zeroOf Tryz.prog 274 = some (.pointer none) := by kernel_rfl
@[go_sem] theorem ti274 : tyInfo Tryz.prog 274 = some (false, 1) := by kernel_rfl
@[go_sem] theorem co184 : callOK Tryz.prog 184 = true := by kernel_rfl
@[go_sem] theorem co183 : callOK Tryz.prog 183 = true := by kernel_rfl
@[go_sem] theorem fi276_1 : fldInfo Tryz.prog 276 1 = some (1, false, 1) := by kernel_rfl
@[go_sem] theorem co186 : callOK Tryz.prog 186 = true := by kernel_rfl
@[go_sem] theorem co187 : callOK Tryz.prog 187 = true := by kernel_rfl
@[go_sem] theorem co188 : callOK Tryz.prog 188 = true := by kernel_rfl
@[go_sem] theorem ti252 : tyInfo Tryz.prog 252 = some (true, 2) := by kernel_rfl
@[go_sem] theorem bi252 : bldInfo Tryz.prog 252 = some ([(.int .i64 0), (.int .u64 0)], [(0, 1), (1, 1)]) := by kernel_rfl
@[go_sem] theorem ze27 : zeroOf Tryz.prog 27 = some (.agg #[(.int .u64 0), (.int .u64 0), (.int .u64 0), (.int .u64 0)]) := by kernel_rfl
@[go_sem] theorem bi27 : bldInfo Tryz.prog 27 = some ([(.int .u64 0), (.int .u64 0), (.int .u64 0), (.int .u64 0)], [(0, 1), (1, 1), (2, 1), (3, 1)]) := by kernel_rfl
@[go_sem] theorem co190 : callOK Tryz.prog 190 = true := by kernel_rfl
@[go_sem] theorem co192 : callOK Tryz.prog 192 = true := by kernel_rfl
@[go_sem] theorem co191 : callOK Tryz.prog 191 = true := by kernel_rfl
@[go_sem] theorem co193 : callOK Tryz.prog 193 = true := by kernel_rfl
@[go_sem] theorem co194 : callOK Tryz.prog 194 = true := by kernel_rfl
@[go_sem] theorem co217 : callOK Tryz.prog 217 = true := by kernel_rfl
@[go_sem] theorem co218 : callOK Tryz.prog 218 = true := by kernel_rfl
@[go_sem] theorem ze252 : zeroOf Tryz.prog 252 = some (.agg #[(.int .i64 0), (.int .u64 0)]) := by kernel_rfl
@[go_sem] theorem co220 : callOK Tryz.prog 220 = true := by kernel_rfl
@[go_sem] theorem co221 : callOK Tryz.prog 221 = true := by kernel_rfl
@[go_sem] theorem fi261_0 : fldInfo Tryz.prog 261 0 = some (0, false, 1) := by kernel_rfl
@[go_sem] theorem co222 : callOK Tryz.prog 222 = true := by kernel_rfl
@[go_sem] theorem fi261_1 : fldInfo Tryz.prog 261 1 = some (1, false, 1) := by kernel_rfl
@[go_sem] theorem co223 : callOK Tryz.prog 223 = true := by kernel_rfl
@[go_sem] theorem co224 : callOK Tryz.prog 224 = true := by kernel_rfl
@[go_sem] theorem co225 : callOK Tryz.prog 225 = true := by kernel_rfl
@[go_sem] theorem co226 : callOK Tryz.prog 226 = true := by kernel_rfl
@[go_sem] theorem ze258 : zeroOf Tryz.prog 258 = some (.agg #[(.int .u64 0), (.int .u64 0)]) := by kernel_rfl
@[go_sem] theorem ti258 : tyInfo Tryz.prog 258 = some (true, 2) := by kernel_rfl
@[go_sem] theorem co227 : callOK Tryz.prog 227 = true := by kernel_rfl
@[go_sem] theorem ze4 : zeroOf Tryz.prog 4 = some (.bool false) := by kernel_rfl
@[go_sem] theorem co185 : callOK Tryz.prog 185 = true := by kernel_rfl
@[go_sem] theorem fi276_2 : fldInfo Tryz.prog 276 2 = some (2, false, 1) := by kernel_rfl
@[go_sem] theorem bi308 : bldInfo Tryz.prog 308 = some ([], []) := by kernel_rfl
@[go_sem] theorem ni308 : notIface Tryz.prog 308 = true := by kernel_rfl
@[go_sem] theorem co229 : callOK Tryz.prog 229 = true := by kernel_rfl
@[go_sem] theorem co230 : callOK Tryz.prog 230 = true := by kernel_rfl
@[go_sem] theorem co231 : callOK Tryz.prog 231 = true := by kernel_rfl
@[go_sem] theorem bi311 : bldInfo Tryz.prog 311 = some ([(.int .u32 0), (.int .u32 0), (.int .u32 0), (.int .u32 0), (.int .u32 0), (.int .u32 0), (.int .u32 0), (.int .u32 0), (.int .u32 0), (.int .u32 0), (.int .u32 0), (.int .u32 0), (.int .u32 0), (.int .u32 0), (.int .u32 0), (.int .u32 0)], [(0, 1), (1, 1), (2, 1), (3, 1), (4, 1), (5, 1), (6, 1), (7, 1), (8, 1), (9, 1), (10, 1), (11, 1), (12, 1), (13, 1), (14, 1), (15, 1)]) := by kernel_rfl
@[go_sem] theorem ze311 : zeroOf Tryz.prog 311 = some (.agg #[(.int .u32 0), (.int .u32 0), (.int .u32 0), (.int .u32 0), (.int .u32 0), (.int .u32 0), (.int .u32 0), (.int .u32 0), (.int .u32 0), (.int .u32 0), (.int .u32 0), (.int .u32 0), (.int .u32 0), (.int .u32 0), (.int .u32 0), (.int .u32 0)]) := by kernel_rfl
@[go_sem] theorem ti311 : tyInfo Tryz.prog 311 = some (true, 16) := by kernel_rfl
@[go_sem] theorem ai311 : arrInfo Tryz.prog 311 = some (16, false, 1, [(.int .u32 0), (.int .u32 0), (.int .u32 0), (.int .u32 0), (.int .u32 0), (.int .u32 0), (.int .u32 0), (.int .u32 0), (.int .u32 0), (.int .u32 0), (.int .u32 0), (.int .u32 0), (.int .u32 0), (.int .u32 0), (.int .u32 0), (.int .u32 0)]) := by kernel_rfl
@[go_sem] theorem ti141 : tyInfo Tryz.prog 141 = some (false, 1) := by kernel_rfl
@[go_sem] theorem co241 : callOK Tryz.prog 241 = true := by kernel_rfl
@[go_sem] theorem co242 : callOK Tryz.prog 242 = true := by kernel_rfl
@[go_sem] theorem co243 : callOK Tryz.prog 243 = true := by kernel_rfl
@[go_sem] theorem ze308 : zeroOf Tryz.prog 308 = some (.agg #[]) := by kernel_rfl
@[go_sem] theorem ti308 : tyInfo Tryz.prog 308 = some (true, 0) := by kernel_rfl
@[go_sem] theorem fi276_0 : fldInfo Tryz.prog 276 0 = some (0, false, 1) := by kernel_rfl
@[go_sem] theorem co246 : callOK Tryz.prog 246 = true := by kernel_rfl
@[go_sem] theorem co248 : callOK Tryz.prog 248 = true := by kernel_rfl
@[go_sem] theorem co249 : callOK Tryz.prog 249 = true := by kernel_rfl
@[go_sem] theorem co250 : callOK Tryz.prog 250 = true := by kernel_rfl
attribute [go_sem] Tryz.underlying3 Tryz.underlying4 Tryz.underlying5 Tryz.underlying9 Tryz.underlying22 Tryz.underlying23 Tryz.underlying24 Tryz.underlying25 Tryz.underlying32 Tryz.underlying33 Tryz.underlying40 Tryz.underlying58 Tryz.underlying60 Tryz.underlying64 Tryz.underlying65 Tryz.underlying66 Tryz.underlying69 Tryz.underlying70 Tryz.underlying74 Tryz.underlying81 Tryz.underlying84 Tryz.underlying85 Tryz.underlying98 Tryz.underlying99 Tryz.underlying100 Tryz.underlying101 Tryz.underlying140 Tryz.underlying141 Tryz.underlying143 Tryz.underlying145 Tryz.underlying146 Tryz.underlying147 Tryz.underlying167 Tryz.underlying179 Tryz.underlying184 Tryz.underlying191 Tryz.underlying192 Tryz.underlying235 Tryz.underlying258 Tryz.underlying259 Tryz.underlying274 Tryz.underlying287 Tryz.underlying311 Tryz.underlying312 Tryz.underlying324
end Go.Proofs.YtadgciaclhjjkaaGreat
