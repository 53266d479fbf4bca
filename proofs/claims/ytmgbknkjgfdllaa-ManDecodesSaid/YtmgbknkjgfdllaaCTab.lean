/- Closed facts on the types and functions of this seat, for a symbolic run. Written by a program (gentab.py). -/
import Derived.Test.YtmgbknkjgfdllaaProg
import Derived.Test.YtmgbknkjgfdllaaC08
set_option linter.unusedVariables false
set_option maxRecDepth 100000
namespace Go.Proofs.Ytmgbknkjgfdllaa
theorem mixed : Try.prog.follows .mixedOrders = true := by kernel_rfl
theorem allFit : fitAll Try.prog = true := by kernel_rfl
theorem enter {W0 : World} {f : FuncId} {fn : Func} {c : Code} {args : List Value} {st : Heap} {R : Ending → Heap → Prop} (hf : Try.prog.funcs[f]? = some fn) (hb : fn.body = some c)
    (h : IW Try.prog W0 c (RetI Try.prog fn.results R) (fun ch st => R (.panicked ch) st) (Env.args args) st) : ICalls Try.prog W0 f args.toArray st R := ICalls_of' mixed allFit hf hb h
@[go_sem] theorem ti25 : tyInfo Try.prog 25 = some (true, 6) := by kernel_rfl
@[go_sem] theorem co8 : callOK Try.prog 8 = true := by kernel_rfl
@[go_sem] theorem co9 : callOK Try.prog 9 = true := by kernel_rfl
@[go_sem] theorem co10 : callOK Try.prog 10 = true := by kernel_rfl
@[go_sem] theorem ze25 : zeroOf Try.prog 25 = some (.agg #[(.int .i64 0), (.int .i64 0), (.int .i64 0), (.int .i64 0), (.slice none 0 0), (.slice none 0 0)]) := by kernel_rfl
@[go_sem] theorem co11 : callOK Try.prog 11 = true := by kernel_rfl
@[go_sem] theorem co12 : callOK Try.prog 12 = true := by kernel_rfl
@[go_sem] theorem co13 : callOK Try.prog 13 = true := by kernel_rfl
@[go_sem] theorem co14 : callOK Try.prog 14 = true := by kernel_rfl
@[go_sem] theorem co15 : callOK Try.prog 15 = true := by kernel_rfl
@[go_sem] theorem si29 : slInfo Try.prog 29 = some (5, 1, 1, [(.int .u8 0)]) := by kernel_rfl
@[go_sem] theorem co17 : callOK Try.prog 17 = true := by kernel_rfl
@[go_sem] theorem co16 : callOK Try.prog 16 = true := by kernel_rfl
@[go_sem] theorem co18 : callOK Try.prog 18 = true := by kernel_rfl
@[go_sem] theorem co19 : callOK Try.prog 19 = true := by kernel_rfl
@[go_sem] theorem an29 : arrInfo Try.prog 29 = none := by kernel_rfl
@[go_sem] theorem ti5 : tyInfo Try.prog 5 = some (false, 1) := by kernel_rfl
@[go_sem] theorem fi25_4 : fldInfo Try.prog 25 4 = some (4, false, 1) := by kernel_rfl
@[go_sem] theorem ti22 : tyInfo Try.prog 22 = some (false, 1) := by kernel_rfl
@[go_sem] theorem si22 : slInfo Try.prog 22 = some (41, 7, 56, [(.int .i64 0), (.int .i64 0), (.int .i64 0), (.int .i64 0), (.int .i64 0), (.int .i64 0), (.int .i64 0)]) := by kernel_rfl
@[go_sem] theorem an22 : arrInfo Try.prog 22 = none := by kernel_rfl
@[go_sem] theorem fi41_0 : fldInfo Try.prog 41 0 = some (0, false, 1) := by kernel_rfl
@[go_sem] theorem ti3 : tyInfo Try.prog 3 = some (false, 1) := by kernel_rfl
@[go_sem] theorem co20 : callOK Try.prog 20 = true := by kernel_rfl
@[go_sem] theorem co21 : callOK Try.prog 21 = true := by kernel_rfl
@[go_sem] theorem si42 : slInfo Try.prog 42 = some (47, 6, 80, [(.int .i64 0), (.int .i64 0), (.int .i64 0), (.int .i64 0), (.slice none 0 0), (.slice none 0 0)]) := by kernel_rfl
@[go_sem] theorem an42 : arrInfo Try.prog 42 = none := by kernel_rfl
@[go_sem] theorem fi47_0 : fldInfo Try.prog 47 0 = some (0, false, 1) := by kernel_rfl
@[go_sem] theorem fi47_4 : fldInfo Try.prog 47 4 = some (4, false, 1) := by kernel_rfl
@[go_sem] theorem ti29 : tyInfo Try.prog 29 = some (false, 1) := by kernel_rfl
@[go_sem] theorem bi55 : bldInfo Try.prog 55 = some ([(.slice none 0 0), (.slice none 0 0), (.slice none 0 0), (.int .i64 0), (.bool false), (.int .i64 0), (.int .i64 0), (.bool false)], [(0, 1), (1, 1), (2, 1), (3, 1), (4, 1), (5, 1), (6, 1), (7, 1)]) := by kernel_rfl
@[go_sem] theorem ti47 : tyInfo Try.prog 47 = some (true, 6) := by kernel_rfl
@[go_sem] theorem co22 : callOK Try.prog 22 = true := by kernel_rfl
@[go_sem] theorem co23 : callOK Try.prog 23 = true := by kernel_rfl
@[go_sem] theorem co24 : callOK Try.prog 24 = true := by kernel_rfl
@[go_sem] theorem co25 : callOK Try.prog 25 = true := by kernel_rfl
@[go_sem] theorem co26 : callOK Try.prog 26 = true := by kernel_rfl
@[go_sem] theorem fi47_1 : fldInfo Try.prog 47 1 = some (1, false, 1) := by kernel_rfl
@[go_sem] theorem co28 : callOK Try.prog 28 = true := by kernel_rfl
@[go_sem] theorem co27 : callOK Try.prog 27 = true := by kernel_rfl
@[go_sem] theorem co29 : callOK Try.prog 29 = true := by kernel_rfl
@[go_sem] theorem co30 : callOK Try.prog 30 = true := by kernel_rfl
@[go_sem] theorem si58 : slInfo Try.prog 58 = some (9, 1, 16, [(.string ⟨#[]⟩)]) := by kernel_rfl
@[go_sem] theorem co31 : callOK Try.prog 31 = true := by kernel_rfl
@[go_sem] theorem fi25_5 : fldInfo Try.prog 25 5 = some (5, false, 1) := by kernel_rfl
@[go_sem] theorem ti23 : tyInfo Try.prog 23 = some (false, 1) := by kernel_rfl
@[go_sem] theorem si23 : slInfo Try.prog 23 = some (70, 8, 112, [(.int .i64 0), (.int .i64 0), (.string ⟨#[]⟩), (.string ⟨#[]⟩), (.slice none 0 0), (.slice none 0 0), (.int .i64 0), (.int .i64 0)]) := by kernel_rfl
@[go_sem] theorem an23 : arrInfo Try.prog 23 = none := by kernel_rfl
@[go_sem] theorem fi70_1 : fldInfo Try.prog 70 1 = some (1, true, 5) := by kernel_rfl
@[go_sem] theorem ti68 : tyInfo Try.prog 68 = some (true, 5) := by kernel_rfl
@[go_sem] theorem co32 : callOK Try.prog 32 = true := by kernel_rfl
@[go_sem] theorem co34 : callOK Try.prog 34 = true := by kernel_rfl
@[go_sem] theorem co33 : callOK Try.prog 33 = true := by kernel_rfl
@[go_sem] theorem co35 : callOK Try.prog 35 = true := by kernel_rfl
@[go_sem] theorem co36 : callOK Try.prog 36 = true := by kernel_rfl
@[go_sem] theorem fi25_1 : fldInfo Try.prog 25 1 = some (1, false, 1) := by kernel_rfl
@[go_sem] theorem co37 : callOK Try.prog 37 = true := by kernel_rfl
@[go_sem] theorem fi25_0 : fldInfo Try.prog 25 0 = some (0, false, 1) := by kernel_rfl
@[go_sem] theorem fi25_2 : fldInfo Try.prog 25 2 = some (2, false, 1) := by kernel_rfl
@[go_sem] theorem fi25_3 : fldInfo Try.prog 25 3 = some (3, false, 1) := by kernel_rfl
@[go_sem] theorem bi76 : bldInfo Try.prog 76 = some ([(.int .i64 0), (.int .i64 0), (.int .i64 0), (.int .i64 0)], [(0, 1), (1, 1), (2, 1), (3, 1)]) := by kernel_rfl
@[go_sem] theorem ai76 : arrInfo Try.prog 76 = some (4, false, 1, [(.int .i64 0), (.int .i64 0), (.int .i64 0), (.int .i64 0)]) := by kernel_rfl
@[go_sem] theorem co38 : callOK Try.prog 38 = true := by kernel_rfl
@[go_sem] theorem co39 : callOK Try.prog 39 = true := by kernel_rfl
@[go_sem] theorem ti41 : tyInfo Try.prog 41 = some (true, 7) := by kernel_rfl
@[go_sem] theorem ze41 : zeroOf Try.prog 41 = some (.agg #[(.int .i64 0), (.int .i64 0), (.int .i64 0), (.int .i64 0), (.int .i64 0), (.int .i64 0), (.int .i64 0)]) := by kernel_rfl
@[go_sem] theorem fi41_1 : fldInfo Try.prog 41 1 = some (1, false, 1) := by kernel_rfl
@[go_sem] theorem fi41_2 : fldInfo Try.prog 41 2 = some (2, false, 1) := by kernel_rfl
@[go_sem] theorem fi41_3 : fldInfo Try.prog 41 3 = some (3, false, 1) := by kernel_rfl
@[go_sem] theorem fi41_4 : fldInfo Try.prog 41 4 = some (4, false, 1) := by kernel_rfl
@[go_sem] theorem fi41_5 : fldInfo Try.prog 41 5 = some (5, false, 1) := by kernel_rfl
@[go_sem] theorem fi41_6 : fldInfo Try.prog 41 6 = some (6, false, 1) := by kernel_rfl
@[go_sem] theorem bi80 : bldInfo Try.prog 80 = some ([(.int .i64 0), (.int .i64 0), (.int .i64 0), (.int .i64 0), (.int .i64 0), (.int .i64 0), (.int .i64 0)], [(0, 1), (1, 1), (2, 1), (3, 1), (4, 1), (5, 1), (6, 1)]) := by kernel_rfl
@[go_sem] theorem ai80 : arrInfo Try.prog 80 = some (7, false, 1, [(.int .i64 0), (.int .i64 0), (.int .i64 0), (.int .i64 0), (.int .i64 0), (.int .i64 0), (.int .i64 0)]) := by kernel_rfl
@[go_sem] theorem co41 : callOK Try.prog 41 = true := by kernel_rfl
@[go_sem] theorem co40 : callOK Try.prog 40 = true := by kernel_rfl
@[go_sem] theorem co43 : callOK Try.prog 43 = true := by kernel_rfl
@[go_sem] theorem co42 : callOK Try.prog 42 = true := by kernel_rfl
@[go_sem] theorem co44 : callOK Try.prog 44 = true := by kernel_rfl
@[go_sem] theorem co45 : callOK Try.prog 45 = true := by kernel_rfl
@[go_sem] theorem co46 : callOK Try.prog 46 = true := by kernel_rfl
@[go_sem] theorem ti70 : tyInfo Try.prog 70 = some (true, 8) := by kernel_rfl
@[go_sem] theorem ze70 : zeroOf Try.prog 70 = some (.agg #[(.int .i64 0), (.int .i64 0), (.string ⟨#[]⟩), (.string ⟨#[]⟩), (.slice none 0 0), (.slice none 0 0), (.int .i64 0), (.int .i64 0)]) := by kernel_rfl
@[go_sem] theorem co47 : callOK Try.prog 47 = true := by kernel_rfl
@[go_sem] theorem fi70_0 : fldInfo Try.prog 70 0 = some (0, false, 1) := by kernel_rfl
@[go_sem] theorem co48 : callOK Try.prog 48 = true := by kernel_rfl
@[go_sem] theorem co49 : callOK Try.prog 49 = true := by kernel_rfl
@[go_sem] theorem co50 : callOK Try.prog 50 = true := by kernel_rfl
@[go_sem] theorem fi70_2 : fldInfo Try.prog 70 2 = some (6, false, 1) := by kernel_rfl
@[go_sem] theorem fi70_3 : fldInfo Try.prog 70 3 = some (7, false, 1) := by kernel_rfl
@[go_sem] theorem co51 : callOK Try.prog 51 = true := by kernel_rfl
@[go_sem] theorem co52 : callOK Try.prog 52 = true := by kernel_rfl
@[go_sem] theorem bi25 : bldInfo Try.prog 25 = some ([(.int .i64 0), (.int .i64 0), (.int .i64 0), (.int .i64 0), (.slice none 0 0), (.slice none 0 0)], [(0, 1), (1, 1), (2, 1), (3, 1), (4, 1), (5, 1)]) := by kernel_rfl
@[go_sem] theorem co53 : callOK Try.prog 53 = true := by kernel_rfl
@[go_sem] theorem co54 : callOK Try.prog 54 = true := by kernel_rfl
@[go_sem] theorem co55 : callOK Try.prog 55 = true := by kernel_rfl
@[go_sem] theorem bi95 : bldInfo Try.prog 95 = some ([(.slice none 0 0), (.int .i64 0), (.bool false)], [(0, 1), (1, 1), (2, 1)]) := by kernel_rfl
@[go_sem] theorem co56 : callOK Try.prog 56 = true := by kernel_rfl
@[go_sem] theorem co57 : callOK Try.prog 57 = true := by kernel_rfl
@[go_sem] theorem fi95_2 : fldInfo Try.prog 95 2 = some (2, false, 1) := by kernel_rfl
@[go_sem] theorem ti4 : tyInfo Try.prog 4 = some (false, 1) := by kernel_rfl
@[go_sem] theorem bi41 : bldInfo Try.prog 41 = some ([(.int .i64 0), (.int .i64 0), (.int .i64 0), (.int .i64 0), (.int .i64 0), (.int .i64 0), (.int .i64 0)], [(0, 1), (1, 1), (2, 1), (3, 1), (4, 1), (5, 1), (6, 1)]) := by kernel_rfl
@[go_sem] theorem co58 : callOK Try.prog 58 = true := by kernel_rfl
@[go_sem] theorem fi95_1 : fldInfo Try.prog 95 1 = some (1, false, 1) := by kernel_rfl
@[go_sem] theorem si45 : slInfo Try.prog 45 = some (3, 1, 8, [(.int .i64 0)]) := by kernel_rfl
@[go_sem] theorem co59 : callOK Try.prog 59 = true := by kernel_rfl
@[go_sem] theorem co60 : callOK Try.prog 60 = true := by kernel_rfl
@[go_sem] theorem bi103 : bldInfo Try.prog 103 = some ([(.map none), (.map none), (.slice none 0 0), (.int .i64 0), (.int .i64 0), (.bool false), (.int .i64 0), (.int .i64 0), (.bool false)], [(0, 1), (1, 1), (2, 1), (3, 1), (4, 1), (5, 1), (6, 1), (7, 1), (8, 1)]) := by kernel_rfl
@[go_sem] theorem co61 : callOK Try.prog 61 = true := by kernel_rfl
@[go_sem] theorem co62 : callOK Try.prog 62 = true := by kernel_rfl
@[go_sem] theorem fi47_3 : fldInfo Try.prog 47 3 = some (3, false, 1) := by kernel_rfl
@[go_sem] theorem co63 : callOK Try.prog 63 = true := by kernel_rfl
@[go_sem] theorem co64 : callOK Try.prog 64 = true := by kernel_rfl
@[go_sem] theorem co65 : callOK Try.prog 65 = true := by kernel_rfl
@[go_sem] theorem fi47_2 : fldInfo Try.prog 47 2 = some (2, false, 1) := by kernel_rfl
@[go_sem] theorem co66 : callOK Try.prog 66 = true := by kernel_rfl
@[go_sem] theorem co67 : callOK Try.prog 67 = true := by kernel_rfl
@[go_sem] theorem co68 : callOK Try.prog 68 = true := by kernel_rfl
@[go_sem] theorem co69 : callOK Try.prog 69 = true := by kernel_rfl
@[go_sem] theorem bi106 : bldInfo Try.prog 106 = some ([(.int .i64 0), (.int .i64 0), (.int .i64 0), (.int .i64 0)], [(0, 1), (1, 1), (2, 1), (3, 1)]) := by kernel_rfl
@[go_sem] theorem ai106 : arrInfo Try.prog 106 = some (4, false, 1, [(.int .i64 0), (.int .i64 0), (.int .i64 0), (.int .i64 0)]) := by kernel_rfl
@[go_sem] theorem co70 : callOK Try.prog 70 = true := by kernel_rfl
@[go_sem] theorem fi47_5 : fldInfo Try.prog 47 5 = some (5, false, 1) := by kernel_rfl
@[go_sem] theorem ti45 : tyInfo Try.prog 45 = some (false, 1) := by kernel_rfl
@[go_sem] theorem co71 : callOK Try.prog 71 = true := by kernel_rfl
@[go_sem] theorem co72 : callOK Try.prog 72 = true := by kernel_rfl
@[go_sem] theorem fi103_5 : fldInfo Try.prog 103 5 = some (5, false, 1) := by kernel_rfl
@[go_sem] theorem fi103_6 : fldInfo Try.prog 103 6 = some (6, false, 1) := by kernel_rfl
@[go_sem] theorem ti30 : tyInfo Try.prog 30 = some (false, 1) := by kernel_rfl
@[go_sem] theorem fi103_7 : fldInfo Try.prog 103 7 = some (7, false, 1) := by kernel_rfl
@[go_sem] theorem co73 : callOK Try.prog 73 = true := by kernel_rfl
@[go_sem] theorem fi103_2 : fldInfo Try.prog 103 2 = some (2, false, 1) := by kernel_rfl
@[go_sem] theorem ti101 : tyInfo Try.prog 101 = some (false, 1) := by kernel_rfl
@[go_sem] theorem si101 : slInfo Try.prog 101 = some (111, 4, 48, [(.int .i64 0), (.string ⟨#[]⟩), (.string ⟨#[]⟩), (.pointer none)]) := by kernel_rfl
@[go_sem] theorem an101 : arrInfo Try.prog 101 = none := by kernel_rfl
@[go_sem] theorem ti111 : tyInfo Try.prog 111 = some (true, 4) := by kernel_rfl
@[go_sem] theorem ze111 : zeroOf Try.prog 111 = some (.agg #[(.int .i64 0), (.string ⟨#[]⟩), (.string ⟨#[]⟩), (.pointer none)]) := by kernel_rfl
@[go_sem] theorem fi103_0 : fldInfo Try.prog 103 0 = some (0, false, 1) := by kernel_rfl
@[go_sem] theorem ti100 : tyInfo Try.prog 100 = some (false, 1) := by kernel_rfl
@[go_sem] theorem co74 : callOK Try.prog 74 = true := by kernel_rfl
@[go_sem] theorem fi103_1 : fldInfo Try.prog 103 1 = some (1, false, 1) := by kernel_rfl
@[go_sem] theorem mi100 : mapInfo Try.prog 100 = some (9, .string, (.pointer none)) := by kernel_rfl
@[go_sem] theorem im100 : isMapT Try.prog 100 = true := by kernel_rfl
@[go_sem] theorem co75 : callOK Try.prog 75 = true := by kernel_rfl
@[go_sem] theorem co76 : callOK Try.prog 76 = true := by kernel_rfl
@[go_sem] theorem fi103_3 : fldInfo Try.prog 103 3 = some (3, false, 1) := by kernel_rfl
@[go_sem] theorem bi118 : bldInfo Try.prog 118 = some ([(.int .i64 0), (.slice none 0 0), (.slice none 0 0), (.slice none 0 0)], [(0, 1), (1, 1), (2, 1), (3, 1)]) := by kernel_rfl
@[go_sem] theorem bi111 : bldInfo Try.prog 111 = some ([(.int .i64 0), (.string ⟨#[]⟩), (.string ⟨#[]⟩), (.pointer none)], [(0, 1), (1, 1), (2, 1), (3, 1)]) := by kernel_rfl
@[go_sem] theorem co77 : callOK Try.prog 77 = true := by kernel_rfl
@[go_sem] theorem fi103_8 : fldInfo Try.prog 103 8 = some (8, false, 1) := by kernel_rfl
@[go_sem] theorem co78 : callOK Try.prog 78 = true := by kernel_rfl
@[go_sem] theorem fi118_3 : fldInfo Try.prog 118 3 = some (3, false, 1) := by kernel_rfl
@[go_sem] theorem co79 : callOK Try.prog 79 = true := by kernel_rfl
@[go_sem] theorem bi122 : bldInfo Try.prog 122 = some ([(.string ⟨#[]⟩), (.string ⟨#[]⟩), (.string ⟨#[]⟩), (.string ⟨#[]⟩), (.string ⟨#[]⟩), (.string ⟨#[]⟩), (.string ⟨#[]⟩), (.string ⟨#[]⟩)], [(0, 1), (1, 1), (2, 1), (3, 1), (4, 1), (5, 1), (6, 1), (7, 1)]) := by kernel_rfl
@[go_sem] theorem ai122 : arrInfo Try.prog 122 = some (8, false, 1, [(.string ⟨#[]⟩), (.string ⟨#[]⟩), (.string ⟨#[]⟩), (.string ⟨#[]⟩), (.string ⟨#[]⟩), (.string ⟨#[]⟩), (.string ⟨#[]⟩), (.string ⟨#[]⟩)]) := by kernel_rfl
@[go_sem] theorem co80 : callOK Try.prog 80 = true := by kernel_rfl
@[go_sem] theorem an58 : arrInfo Try.prog 58 = none := by kernel_rfl
@[go_sem] theorem ti9 : tyInfo Try.prog 9 = some (false, 1) := by kernel_rfl
@[go_sem] theorem ze3 : zeroOf Try.prog 3 = some (.int .i64 0) := by kernel_rfl
@[go_sem] theorem co81 : callOK Try.prog 81 = true := by kernel_rfl
@[go_sem] theorem ze29 : zeroOf Try.prog 29 = some (.slice none 0 0) := by kernel_rfl
@[go_sem] theorem co82 : callOK Try.prog 82 = true := by kernel_rfl
@[go_sem] theorem co83 : callOK Try.prog 83 = true := by kernel_rfl
@[go_sem] theorem co84 : callOK Try.prog 84 = true := by kernel_rfl
@[go_sem] theorem co85 : callOK Try.prog 85 = true := by kernel_rfl
@[go_sem] theorem ti43 : tyInfo Try.prog 43 = some (false, 1) := by kernel_rfl
@[go_sem] theorem si125 : slInfo Try.prog 125 = some (57, 1, 8, [.nilFunc]) := by kernel_rfl
@[go_sem] theorem an125 : arrInfo Try.prog 125 = none := by kernel_rfl
@[go_sem] theorem ti57 : tyInfo Try.prog 57 = some (false, 1) := by kernel_rfl
@[go_sem] theorem fi103_4 : fldInfo Try.prog 103 4 = some (4, false, 1) := by kernel_rfl
@[go_sem] theorem co86 : callOK Try.prog 86 = true := by kernel_rfl
@[go_sem] theorem co88 : callOK Try.prog 88 = true := by kernel_rfl
@[go_sem] theorem co87 : callOK Try.prog 87 = true := by kernel_rfl
@[go_sem] theorem co89 : callOK Try.prog 89 = true := by kernel_rfl
@[go_sem] theorem co90 : callOK Try.prog 90 = true := by kernel_rfl
@[go_sem] theorem co91 : callOK Try.prog 91 = true := by kernel_rfl
@[go_sem] theorem co92 : callOK Try.prog 92 = true := by kernel_rfl
@[go_sem] theorem co93 : callOK Try.prog 93 = true := by kernel_rfl
@[go_sem] theorem an45 : arrInfo Try.prog 45 = none := by kernel_rfl
@[go_sem] theorem co94 : callOK Try.prog 94 = true := by kernel_rfl
@[go_sem] theorem co95 : callOK Try.prog 95 = true := by kernel_rfl
@[go_sem] theorem co96 : callOK Try.prog 96 = true := by kernel_rfl
@[go_sem] theorem co97 : callOK Try.prog 97 = true := by kernel_rfl
@[go_sem] theorem co98 : callOK Try.prog 98 = true := by kernel_rfl
@[go_sem] theorem co99 : callOK Try.prog 99 = true := by kernel_rfl
@[go_sem] theorem co100 : callOK Try.prog 100 = true := by kernel_rfl
@[go_sem] theorem fi68_0 : fldInfo Try.prog 68 0 = some (0, false, 1) := by kernel_rfl
@[go_sem] theorem fi68_1 : fldInfo Try.prog 68 1 = some (1, false, 1) := by kernel_rfl
@[go_sem] theorem fi68_2 : fldInfo Try.prog 68 2 = some (2, false, 1) := by kernel_rfl
@[go_sem] theorem fi68_3 : fldInfo Try.prog 68 3 = some (3, false, 1) := by kernel_rfl
@[go_sem] theorem ti58 : tyInfo Try.prog 58 = some (false, 1) := by kernel_rfl
@[go_sem] theorem fi68_4 : fldInfo Try.prog 68 4 = some (4, false, 1) := by kernel_rfl
@[go_sem] theorem ti66 : tyInfo Try.prog 66 = some (false, 1) := by kernel_rfl
@[go_sem] theorem si66 : slInfo Try.prog 66 = some (68, 5, 88, [(.int .i64 0), (.string ⟨#[]⟩), (.string ⟨#[]⟩), (.slice none 0 0), (.slice none 0 0)]) := by kernel_rfl
@[go_sem] theorem an66 : arrInfo Try.prog 66 = none := by kernel_rfl
@[go_sem] theorem co101 : callOK Try.prog 101 = true := by kernel_rfl
@[go_sem] theorem si185 : slInfo Try.prog 185 = some (124, 1, 8, [(.pointer none)]) := by kernel_rfl
@[go_sem] theorem co102 : callOK Try.prog 102 = true := by kernel_rfl
@[go_sem] theorem co103 : callOK Try.prog 103 = true := by kernel_rfl
@[go_sem] theorem co104 : callOK Try.prog 104 = true := by kernel_rfl
@[go_sem] theorem ze143 : zeroOf Try.prog 143 = some (.agg #[(.int .i64 0), (.slice none 0 0), (.int .i64 0)]) := by kernel_rfl
@[go_sem] theorem ti143 : tyInfo Try.prog 143 = some (true, 3) := by kernel_rfl
@[go_sem] theorem fi143_1 : fldInfo Try.prog 143 1 = some (1, false, 1) := by kernel_rfl
@[go_sem] theorem fi143_2 : fldInfo Try.prog 143 2 = some (2, false, 1) := by kernel_rfl
@[go_sem] theorem co105 : callOK Try.prog 105 = true := by kernel_rfl
@[go_sem] theorem fi95_0 : fldInfo Try.prog 95 0 = some (0, false, 1) := by kernel_rfl
@[go_sem] theorem bi70 : bldInfo Try.prog 70 = some ([(.int .i64 0), (.int .i64 0), (.string ⟨#[]⟩), (.string ⟨#[]⟩), (.slice none 0 0), (.slice none 0 0), (.int .i64 0), (.int .i64 0)], [(0, 1), (1, 5), (6, 1), (7, 1)]) := by kernel_rfl
@[go_sem] theorem co106 : callOK Try.prog 106 = true := by kernel_rfl
@[go_sem] theorem ze100 : zeroOf Try.prog 100 = some (.map none) := by kernel_rfl
@[go_sem] theorem co108 : callOK Try.prog 108 = true := by kernel_rfl
@[go_sem] theorem co107 : callOK Try.prog 107 = true := by kernel_rfl
@[go_sem] theorem co110 : callOK Try.prog 110 = true := by kernel_rfl
@[go_sem] theorem co109 : callOK Try.prog 109 = true := by kernel_rfl
@[go_sem] theorem co111 : callOK Try.prog 111 = true := by kernel_rfl
@[go_sem] theorem co112 : callOK Try.prog 112 = true := by kernel_rfl
@[go_sem] theorem co113 : callOK Try.prog 113 = true := by kernel_rfl
@[go_sem] theorem si52 : slInfo Try.prog 52 = some (169, 2, 24, [(.string ⟨#[]⟩), (.int .i64 0)]) := by kernel_rfl
@[go_sem] theorem co114 : callOK Try.prog 114 = true := by kernel_rfl
@[go_sem] theorem fi55_0 : fldInfo Try.prog 55 0 = some (0, false, 1) := by kernel_rfl
@[go_sem] theorem ti51 : tyInfo Try.prog 51 = some (false, 1) := by kernel_rfl
@[go_sem] theorem bi158 : bldInfo Try.prog 158 = some ([(.slice none 0 0), (.slice none 0 0)], [(0, 1), (1, 1)]) := by kernel_rfl
@[go_sem] theorem si51 : slInfo Try.prog 51 = some (158, 2, 48, [(.slice none 0 0), (.slice none 0 0)]) := by kernel_rfl
@[go_sem] theorem fi55_2 : fldInfo Try.prog 55 2 = some (2, false, 1) := by kernel_rfl
@[go_sem] theorem ti53 : tyInfo Try.prog 53 = some (false, 1) := by kernel_rfl
@[go_sem] theorem bi160 : bldInfo Try.prog 160 = some ([(.int .i64 0), (.string ⟨#[]⟩), (.string ⟨#[]⟩), (.int .i64 0)], [(0, 1), (1, 1), (2, 1), (3, 1)]) := by kernel_rfl
@[go_sem] theorem si53 : slInfo Try.prog 53 = some (160, 4, 48, [(.int .i64 0), (.string ⟨#[]⟩), (.string ⟨#[]⟩), (.int .i64 0)]) := by kernel_rfl
@[go_sem] theorem fi55_7 : fldInfo Try.prog 55 7 = some (7, false, 1) := by kernel_rfl
@[go_sem] theorem co115 : callOK Try.prog 115 = true := by kernel_rfl
@[go_sem] theorem co116 : callOK Try.prog 116 = true := by kernel_rfl
@[go_sem] theorem co117 : callOK Try.prog 117 = true := by kernel_rfl
@[go_sem] theorem co118 : callOK Try.prog 118 = true := by kernel_rfl
@[go_sem] theorem an51 : arrInfo Try.prog 51 = none := by kernel_rfl
@[go_sem] theorem fi158_1 : fldInfo Try.prog 158 1 = some (1, false, 1) := by kernel_rfl
@[go_sem] theorem ti156 : tyInfo Try.prog 156 = some (false, 1) := by kernel_rfl
@[go_sem] theorem bi165 : bldInfo Try.prog 165 = some ([(.int .u8 0), (.bool false), (.int .i64 0)], [(0, 1), (1, 1), (2, 1)]) := by kernel_rfl
@[go_sem] theorem si156 : slInfo Try.prog 156 = some (165, 3, 16, [(.int .u8 0), (.bool false), (.int .i64 0)]) := by kernel_rfl
@[go_sem] theorem ti158 : tyInfo Try.prog 158 = some (true, 2) := by kernel_rfl
@[go_sem] theorem co119 : callOK Try.prog 119 = true := by kernel_rfl
@[go_sem] theorem fi55_1 : fldInfo Try.prog 55 1 = some (1, false, 1) := by kernel_rfl
@[go_sem] theorem ti52 : tyInfo Try.prog 52 = some (false, 1) := by kernel_rfl
@[go_sem] theorem fi55_4 : fldInfo Try.prog 55 4 = some (4, false, 1) := by kernel_rfl
@[go_sem] theorem fi55_5 : fldInfo Try.prog 55 5 = some (5, false, 1) := by kernel_rfl
@[go_sem] theorem fi55_6 : fldInfo Try.prog 55 6 = some (6, false, 1) := by kernel_rfl
@[go_sem] theorem co120 : callOK Try.prog 120 = true := by kernel_rfl
@[go_sem] theorem an52 : arrInfo Try.prog 52 = none := by kernel_rfl
@[go_sem] theorem fi169_1 : fldInfo Try.prog 169 1 = some (1, false, 1) := by kernel_rfl
@[go_sem] theorem fi169_0 : fldInfo Try.prog 169 0 = some (0, false, 1) := by kernel_rfl
@[go_sem] theorem bi169 : bldInfo Try.prog 169 = some ([(.string ⟨#[]⟩), (.int .i64 0)], [(0, 1), (1, 1)]) := by kernel_rfl
@[go_sem] theorem fi111_0 : fldInfo Try.prog 111 0 = some (0, false, 1) := by kernel_rfl
@[go_sem] theorem fi111_1 : fldInfo Try.prog 111 1 = some (1, false, 1) := by kernel_rfl
@[go_sem] theorem fi111_3 : fldInfo Try.prog 111 3 = some (3, false, 1) := by kernel_rfl
@[go_sem] theorem ti109 : tyInfo Try.prog 109 = some (false, 1) := by kernel_rfl
@[go_sem] theorem fi111_2 : fldInfo Try.prog 111 2 = some (2, false, 1) := by kernel_rfl
@[go_sem] theorem co122 : callOK Try.prog 122 = true := by kernel_rfl
@[go_sem] theorem co121 : callOK Try.prog 121 = true := by kernel_rfl
@[go_sem] theorem fi118_2 : fldInfo Try.prog 118 2 = some (2, false, 1) := by kernel_rfl
@[go_sem] theorem ti116 : tyInfo Try.prog 116 = some (false, 1) := by kernel_rfl
@[go_sem] theorem bi173 : bldInfo Try.prog 173 = some ([(.bool false), (.int .i64 0), (.slice none 0 0)], [(0, 1), (1, 1), (2, 1)]) := by kernel_rfl
@[go_sem] theorem si116 : slInfo Try.prog 116 = some (173, 3, 40, [(.bool false), (.int .i64 0), (.slice none 0 0)]) := by kernel_rfl
@[go_sem] theorem fi118_1 : fldInfo Try.prog 118 1 = some (1, false, 1) := by kernel_rfl
@[go_sem] theorem co123 : callOK Try.prog 123 = true := by kernel_rfl
@[go_sem] theorem co124 : callOK Try.prog 124 = true := by kernel_rfl
@[go_sem] theorem co125 : callOK Try.prog 125 = true := by kernel_rfl
@[go_sem] theorem co126 : callOK Try.prog 126 = true := by kernel_rfl
@[go_sem] theorem co127 : callOK Try.prog 127 = true := by kernel_rfl
@[go_sem] theorem ze76 : zeroOf Try.prog 76 = some (.agg #[(.int .i64 0), (.int .i64 0), (.int .i64 0), (.int .i64 0)]) := by kernel_rfl
@[go_sem] theorem ti76 : tyInfo Try.prog 76 = some (true, 4) := by kernel_rfl
@[go_sem] theorem bi179 : bldInfo Try.prog 179 = some ([(.int .i64 0), (.int .i64 0)], [(0, 1), (1, 1)]) := by kernel_rfl
@[go_sem] theorem co128 : callOK Try.prog 128 = true := by kernel_rfl
@[go_sem] theorem bi183 : bldInfo Try.prog 183 = some ([(.int .i64 0), (.int .i64 0), (.bool false)], [(0, 1), (1, 1), (2, 1)]) := by kernel_rfl
@[go_sem] theorem co129 : callOK Try.prog 129 = true := by kernel_rfl
@[go_sem] theorem fi183_2 : fldInfo Try.prog 183 2 = some (2, false, 1) := by kernel_rfl
@[go_sem] theorem an185 : arrInfo Try.prog 185 = none := by kernel_rfl
@[go_sem] theorem ti124 : tyInfo Try.prog 124 = some (false, 1) := by kernel_rfl
@[go_sem] theorem co130 : callOK Try.prog 130 = true := by kernel_rfl
@[go_sem] theorem bi188 : bldInfo Try.prog 188 = some ([(.pointer none), (.pointer none), (.pointer none)], [(0, 1), (1, 1), (2, 1)]) := by kernel_rfl
@[go_sem] theorem ai188 : arrInfo Try.prog 188 = some (3, false, 1, [(.pointer none), (.pointer none), (.pointer none)]) := by kernel_rfl
@[go_sem] theorem co131 : callOK Try.prog 131 = true := by kernel_rfl
@[go_sem] theorem bi143 : bldInfo Try.prog 143 = some ([(.int .i64 0), (.slice none 0 0), (.int .i64 0)], [(0, 1), (1, 1), (2, 1)]) := by kernel_rfl
@[go_sem] theorem ze68 : zeroOf Try.prog 68 = some (.agg #[(.int .i64 0), (.string ⟨#[]⟩), (.string ⟨#[]⟩), (.slice none 0 0), (.slice none 0 0)]) := by kernel_rfl
@[go_sem] theorem co132 : callOK Try.prog 132 = true := by kernel_rfl
@[go_sem] theorem bi68 : bldInfo Try.prog 68 = some ([(.int .i64 0), (.string ⟨#[]⟩), (.string ⟨#[]⟩), (.slice none 0 0), (.slice none 0 0)], [(0, 1), (1, 1), (2, 1), (3, 1), (4, 1)]) := by kernel_rfl
@[go_sem] theorem co133 : callOK Try.prog 133 = true := by kernel_rfl
@[go_sem] theorem fi118_0 : fldInfo Try.prog 118 0 = some (0, false, 1) := by kernel_rfl
@[go_sem] theorem an116 : arrInfo Try.prog 116 = none := by kernel_rfl
@[go_sem] theorem ti173 : tyInfo Try.prog 173 = some (true, 3) := by kernel_rfl
@[go_sem] theorem ze173 : zeroOf Try.prog 173 = some (.agg #[(.bool false), (.int .i64 0), (.slice none 0 0)]) := by kernel_rfl
@[go_sem] theorem fi173_0 : fldInfo Try.prog 173 0 = some (0, false, 1) := by kernel_rfl
@[go_sem] theorem fi173_1 : fldInfo Try.prog 173 1 = some (1, false, 1) := by kernel_rfl
@[go_sem] theorem fi173_2 : fldInfo Try.prog 173 2 = some (2, false, 1) := by kernel_rfl
@[go_sem] theorem fi55_3 : fldInfo Try.prog 55 3 = some (3, false, 1) := by kernel_rfl
@[go_sem] theorem fi158_0 : fldInfo Try.prog 158 0 = some (0, false, 1) := by kernel_rfl
@[go_sem] theorem an156 : arrInfo Try.prog 156 = none := by kernel_rfl
@[go_sem] theorem fi165_1 : fldInfo Try.prog 165 1 = some (1, false, 1) := by kernel_rfl
@[go_sem] theorem fi165_2 : fldInfo Try.prog 165 2 = some (2, false, 1) := by kernel_rfl
@[go_sem] theorem fi165_0 : fldInfo Try.prog 165 0 = some (0, false, 1) := by kernel_rfl
@[go_sem] theorem an53 : arrInfo Try.prog 53 = none := by kernel_rfl
@[go_sem] theorem ti160 : tyInfo Try.prog 160 = some (true, 4) := by kernel_rfl
@[go_sem] theorem ze160 : zeroOf Try.prog 160 = some (.agg #[(.int .i64 0), (.string ⟨#[]⟩), (.string ⟨#[]⟩), (.int .i64 0)]) := by kernel_rfl
@[go_sem] theorem fi160_0 : fldInfo Try.prog 160 0 = some (0, false, 1) := by kernel_rfl
@[go_sem] theorem fi160_1 : fldInfo Try.prog 160 1 = some (1, false, 1) := by kernel_rfl
@[go_sem] theorem co134 : callOK Try.prog 134 = true := by kernel_rfl
@[go_sem] theorem fi160_3 : fldInfo Try.prog 160 3 = some (3, false, 1) := by kernel_rfl
@[go_sem] theorem fi160_2 : fldInfo Try.prog 160 2 = some (2, false, 1) := by kernel_rfl
@[go_sem] theorem co135 : callOK Try.prog 135 = true := by kernel_rfl
@[go_sem] theorem co136 : callOK Try.prog 136 = true := by kernel_rfl
@[go_sem] theorem co137 : callOK Try.prog 137 = true := by kernel_rfl
@[go_sem] theorem co138 : callOK Try.prog 138 = true := by kernel_rfl
@[go_sem] theorem co139 : callOK Try.prog 139 = true := by kernel_rfl
@[go_sem] theorem co140 : callOK Try.prog 140 = true := by kernel_rfl
@[go_sem] theorem co141 : callOK Try.prog 141 = true := by kernel_rfl
@[go_sem] theorem co142 : callOK Try.prog 142 = true := by kernel_rfl
@[go_sem] theorem co143 : callOK Try.prog 143 = true := by kernel_rfl
@[go_sem] theorem co144 : callOK Try.prog 144 = true := by kernel_rfl
@[go_sem] theorem co145 : callOK Try.prog 145 = true := by kernel_rfl
@[go_sem] theorem co146 : callOK Try.prog 146 = true := by kernel_rfl
@[go_sem] theorem bi205 : bldInfo Try.prog 205 = some ([(.int .u32 0), (.int .u32 0), (.int .u32 0), (.int .u32 0), (.int .u32 0), (.int .u32 0), (.int .u32 0), (.int .u32 0), (.int .u32 0), (.int .u32 0), (.int .u32 0), (.int .u32 0), (.int .u32 0), (.int .u32 0), (.int .u32 0), (.int .u32 0)], [(0, 1), (1, 1), (2, 1), (3, 1), (4, 1), (5, 1), (6, 1), (7, 1), (8, 1), (9, 1), (10, 1), (11, 1), (12, 1), (13, 1), (14, 1), (15, 1)]) := by kernel_rfl
@[go_sem] theorem ze205 : zeroOf Try.prog 205 = some (.agg #[(.int .u32 0), (.int .u32 0), (.int .u32 0), (.int .u32 0), (.int .u32 0), (.int .u32 0), (.int .u32 0), (.int .u32 0), (.int .u32 0), (.int .u32 0), (.int .u32 0), (.int .u32 0), (.int .u32 0), (.int .u32 0), (.int .u32 0), (.int .u32 0)]) := by kernel_rfl
@[go_sem] theorem ti205 : tyInfo Try.prog 205 = some (true, 16) := by kernel_rfl
@[go_sem] theorem ai205 : arrInfo Try.prog 205 = some (16, false, 1, [(.int .u32 0), (.int .u32 0), (.int .u32 0), (.int .u32 0), (.int .u32 0), (.int .u32 0), (.int .u32 0), (.int .u32 0), (.int .u32 0), (.int .u32 0), (.int .u32 0), (.int .u32 0), (.int .u32 0), (.int .u32 0), (.int .u32 0), (.int .u32 0)]) := by kernel_rfl
@[go_sem] theorem ti128 : tyInfo Try.prog 128 = some (false, 1) := by kernel_rfl
@[go_sem] theorem co147 : callOK Try.prog 147 = true := by kernel_rfl
@[go_sem] theorem co148 : callOK Try.prog 148 = true := by kernel_rfl
@[go_sem] theorem fi179_0 : fldInfo Try.prog 179 0 = some (0, false, 1) := by kernel_rfl
@[go_sem] theorem co149 : callOK Try.prog 149 = true := by kernel_rfl
@[go_sem] theorem fi179_1 : fldInfo Try.prog 179 1 = some (1, false, 1) := by kernel_rfl
@[go_sem] theorem fi183_0 : fldInfo Try.prog 183 0 = some (0, false, 1) := by kernel_rfl
@[go_sem] theorem co150 : callOK Try.prog 150 = true := by kernel_rfl
@[go_sem] theorem co151 : callOK Try.prog 151 = true := by kernel_rfl
@[go_sem] theorem co152 : callOK Try.prog 152 = true := by kernel_rfl
@[go_sem] theorem co153 : callOK Try.prog 153 = true := by kernel_rfl
@[go_sem] theorem bi213 : bldInfo Try.prog 213 = some ([(.slice none 0 0), (.int .i64 0), (.int .i64 0)], [(0, 1), (1, 1), (2, 1)]) := by kernel_rfl
@[go_sem] theorem ze211 : zeroOf Try.prog 211 = some (.pointer none) := by kernel_rfl
@[go_sem] theorem ti211 : tyInfo Try.prog 211 = some (false, 1) := by kernel_rfl
@[go_sem] theorem co155 : callOK Try.prog 155 = true := by kernel_rfl
@[go_sem] theorem co154 : callOK Try.prog 154 = true := by kernel_rfl
@[go_sem] theorem fi213_1 : fldInfo Try.prog 213 1 = some (1, false, 1) := by kernel_rfl
@[go_sem] theorem co157 : callOK Try.prog 157 = true := by kernel_rfl
@[go_sem] theorem co158 : callOK Try.prog 158 = true := by kernel_rfl
@[go_sem] theorem co159 : callOK Try.prog 159 = true := by kernel_rfl
@[go_sem] theorem co160 : callOK Try.prog 160 = true := by kernel_rfl
@[go_sem] theorem co161 : callOK Try.prog 161 = true := by kernel_rfl
@[go_sem] theorem co162 : callOK Try.prog 162 = true := by kernel_rfl
@[go_sem] theorem co163 : callOK Try.prog 163 = true := by kernel_rfl
@[go_sem] theorem co164 : callOK Try.prog 164 = true := by kernel_rfl
@[go_sem] theorem co165 : callOK Try.prog 165 = true := by kernel_rfl
@[go_sem] theorem ti169 : tyInfo Try.prog 169 = some (true, 2) := by kernel_rfl
@[go_sem] theorem co166 : callOK Try.prog 166 = true := by kernel_rfl
@[go_sem] theorem ze223 : zeroOf Try.prog 223 = some (.int .u64 0) := by kernel_rfl
@[go_sem] theorem ti223 : tyInfo Try.prog 223 = some (false, 1) := by kernel_rfl
@[go_sem] theorem co167 : callOK Try.prog 167 = true := by kernel_rfl
@[go_sem] theorem co168 : callOK Try.prog 168 = true := by kernel_rfl
@[go_sem] theorem co169 : callOK Try.prog 169 = true := by kernel_rfl
@[go_sem] theorem co170 : callOK Try.prog 170 = true := by kernel_rfl
@[go_sem] theorem co171 : callOK Try.prog 171 = true := by kernel_rfl
@[go_sem] theorem an9 : arrInfo Try.prog 9 = none := by kernel_rfl
@[go_sem] theorem co172 : callOK Try.prog 172 = true := by kernel_rfl
@[go_sem] theorem co173 : callOK Try.prog 173 = true := by kernel_rfl
@[go_sem] theorem fi183_1 : fldInfo Try.prog 183 1 = some (1, false, 1) := by kernel_rfl
@[go_sem] theorem ze4 : zeroOf Try.prog 4 = some (.bool false) := by kernel_rfl
@[go_sem] theorem co174 : callOK Try.prog 174 = true := by kernel_rfl
@[go_sem] theorem co156 : callOK Try.prog 156 = true := by kernel_rfl
@[go_sem] theorem fi213_2 : fldInfo Try.prog 213 2 = some (2, false, 1) := by kernel_rfl
@[go_sem] theorem bi228 : bldInfo Try.prog 228 = some ([], []) := by kernel_rfl
@[go_sem] theorem ni228 : notIface Try.prog 228 = true := by kernel_rfl
@[go_sem] theorem co175 : callOK Try.prog 175 = true := by kernel_rfl
@[go_sem] theorem co176 : callOK Try.prog 176 = true := by kernel_rfl
@[go_sem] theorem co177 : callOK Try.prog 177 = true := by kernel_rfl
@[go_sem] theorem co178 : callOK Try.prog 178 = true := by kernel_rfl
@[go_sem] theorem co179 : callOK Try.prog 179 = true := by kernel_rfl
@[go_sem] theorem co180 : callOK Try.prog 180 = true := by kernel_rfl
@[go_sem] theorem ze228 : zeroOf Try.prog 228 = some (.agg #[]) := by kernel_rfl
@[go_sem] theorem ti228 : tyInfo Try.prog 228 = some (true, 0) := by kernel_rfl
@[go_sem] theorem fi213_0 : fldInfo Try.prog 213 0 = some (0, false, 1) := by kernel_rfl
@[go_sem] theorem co181 : callOK Try.prog 181 = true := by kernel_rfl
@[go_sem] theorem co182 : callOK Try.prog 182 = true := by kernel_rfl
attribute [go_sem] Try.underlying3 Try.underlying4 Try.underlying5 Try.underlying9 Try.underlying22 Try.underlying23 Try.underlying29 Try.underlying30 Try.underlying42 Try.underlying43 Try.underlying45 Try.underlying48 Try.underlying51 Try.underlying52 Try.underlying53 Try.underlying58 Try.underlying66 Try.underlying76 Try.underlying79 Try.underlying80 Try.underlying93 Try.underlying100 Try.underlying101 Try.underlying106 Try.underlying109 Try.underlying116 Try.underlying122 Try.underlying124 Try.underlying125 Try.underlying127 Try.underlying128 Try.underlying156 Try.underlying177 Try.underlying181 Try.underlying185 Try.underlying188 Try.underlying195 Try.underlying205 Try.underlying211 Try.underlying223
end Go.Proofs.Ytmgbknkjgfdllaa
