/- Closed facts on the types and functions of this seat, for a symbolic run. Written by a program (gentab.py). -/
import Derived.Test.YtahgfnbkkfpcnaaGreatProg
import Derived.Test.YtahgfnbkkfpcnaaGreatC07
set_option linter.unusedVariables false
set_option maxRecDepth 100000
namespace Go.Proofs.YtahgfnbkkfpcnaaGreat
theorem mixed : Tryz.prog.follows .mixedOrders = true := by kernel_rfl
theorem z7z : z4i Tryz.prog = true := by kernel_rfl
theorem enter {W0 : World} {f : FuncId} {fn : Func} {c : Code} {args : List Value} {st : Heap} {R : Ending → Heap → Prop} (hf : Tryz.prog.funcs[f]? = some fn) (hb : fn.body = some c)
    (h : IW Tryz.prog W0 c (RetI Tryz.prog fn.results R) (fun ch st => R (.panicked ch) st) (Env.args args) st) : z00 Tryz.prog W0 f args.toArray st R := zeh mixed z7z hf hb h
@[go_sem] theorem si40 : z0g Tryz.prog 40 = some (5, 1, 1, [(.int .u8 0)]) := by kernel_rfl
@[go_sem] theorem co19 : z01 Tryz.prog 19 = true := by kernel_rfl
@[go_sem] theorem co22 : z01 Tryz.prog 22 = true := by kernel_rfl
@[go_sem] theorem co25 : z01 Tryz.prog 25 = true := by kernel_rfl
@[go_sem] theorem co26 : z01 Tryz.prog 26 = true := by kernel_rfl
@[go_sem] theorem co28 : z01 Tryz.prog 28 = true := by kernel_rfl
@[go_sem] theorem si58 : z0g Tryz.prog 58 = some (3, 1, 8, [(.int .i64 0)]) := by kernel_rfl
@[go_sem] theorem an58 : z0k Tryz.prog 58 = none := by kernel_rfl
@[go_sem] theorem ti3 : z09 Tryz.prog 3 = some (false, 1) := by kernel_rfl
@[go_sem] theorem bi62 : z0t Tryz.prog 62 = some ([(.slice none 0 0), (.int .i64 0), (.bool false)], [(0, 1), (1, 1), (2, 1)]) := by kernel_rfl
@[go_sem] theorem co29 : z01 Tryz.prog 29 = true := by kernel_rfl
@[go_sem] theorem fi62_1 : z05 Tryz.prog 62 1 = some (1, false, 1) := by kernel_rfl
@[go_sem] theorem an40 : z0k Tryz.prog 40 = none := by kernel_rfl
@[go_sem] theorem ti5 : z09 Tryz.prog 5 = some (false, 1) := by kernel_rfl
@[go_sem] theorem si32 : z0g Tryz.prog 32 = some (9, 1, 16, [(.string ⟨#[]⟩)]) := by kernel_rfl
@[go_sem] theorem si64 : z0g Tryz.prog 64 = some (40, 1, 24, [(.slice none 0 0)]) := by kernel_rfl
@[go_sem] theorem co30 : z01 Tryz.prog 30 = true := by kernel_rfl
@[go_sem] theorem ti77 : z09 Tryz.prog 77 = some (true, 6) := by kernel_rfl
@[go_sem] theorem co32 : z01 Tryz.prog 32 = true := by kernel_rfl
@[go_sem] theorem co33 : z01 Tryz.prog 33 = true := by kernel_rfl
@[go_sem] theorem co34 : z01 Tryz.prog 34 = true := by kernel_rfl
@[go_sem] theorem bi82 : z0t Tryz.prog 82 = some ([(.int .i64 0), (.int .i64 0), (.int .i64 0)], [(0, 1), (1, 1), (2, 1)]) := by kernel_rfl
@[go_sem] theorem ai82 : z0k Tryz.prog 82 = some (3, false, 1, [(.int .i64 0), (.int .i64 0), (.int .i64 0)]) := by kernel_rfl
@[go_sem] theorem co35 : z01 Tryz.prog 35 = true := by kernel_rfl
@[go_sem] theorem co36 : z01 Tryz.prog 36 = true := by kernel_rfl
@[go_sem] theorem co38 : z01 Tryz.prog 38 = true := by kernel_rfl
@[go_sem] theorem co37 : z01 Tryz.prog 37 = true := by kernel_rfl
@[go_sem] theorem co39 : z01 Tryz.prog 39 = true := by kernel_rfl
@[go_sem] theorem co40 : z01 Tryz.prog 40 = true := by kernel_rfl
@[go_sem] theorem fi92_3 : z05 Tryz.prog 92 3 = some (3, false, 1) := by kernel_rfl
@[go_sem] theorem co42 : z01 Tryz.prog 42 = true := by kernel_rfl
@[go_sem] theorem co43 : z01 Tryz.prog 43 = true := by kernel_rfl
@[go_sem] theorem co41 : z01 Tryz.prog 41 = true := by kernel_rfl
@[go_sem] theorem an32 : z0k Tryz.prog 32 = none := by kernel_rfl
@[go_sem] theorem ti9 : z09 Tryz.prog 9 = some (false, 1) := by kernel_rfl
@[go_sem] theorem co44 : z01 Tryz.prog 44 = true := by kernel_rfl
@[go_sem] theorem co45 : z01 Tryz.prog 45 = true := by kernel_rfl
@[go_sem] theorem co46 : z01 Tryz.prog 46 = true := by kernel_rfl
@[go_sem] theorem ze77 : z0o Tryz.prog 77 = some (.agg #[(.int .i64 0), (.int .i64 0), (.int .i64 0), (.int .i64 0), (.slice none 0 0), (.slice none 0 0)]) := by kernel_rfl
@[go_sem] theorem co47 : z01 Tryz.prog 47 = true := by kernel_rfl
@[go_sem] theorem co48 : z01 Tryz.prog 48 = true := by kernel_rfl
@[go_sem] theorem co49 : z01 Tryz.prog 49 = true := by kernel_rfl
@[go_sem] theorem ti4 : z09 Tryz.prog 4 = some (false, 1) := by kernel_rfl
@[go_sem] theorem an64 : z0k Tryz.prog 64 = none := by kernel_rfl
@[go_sem] theorem ti40 : z09 Tryz.prog 40 = some (false, 1) := by kernel_rfl
@[go_sem] theorem bi92 : z0t Tryz.prog 92 = some ([(.slice none 0 0), (.slice none 0 0), (.slice none 0 0), (.int .i64 0), (.bool false), (.int .i64 0), (.int .i64 0), (.bool false)], [(0, 1), (1, 1), (2, 1), (3, 1), (4, 1), (5, 1), (6, 1), (7, 1)]) := by kernel_rfl
@[go_sem] theorem fi37_1 : z05 Tryz.prog 37 1 = some (1, true, 5) := by kernel_rfl
@[go_sem] theorem ti35 : z09 Tryz.prog 35 = some (true, 5) := by kernel_rfl
@[go_sem] theorem co63 : z01 Tryz.prog 63 = true := by kernel_rfl
@[go_sem] theorem co64 : z01 Tryz.prog 64 = true := by kernel_rfl
@[go_sem] theorem co66 : z01 Tryz.prog 66 = true := by kernel_rfl
@[go_sem] theorem co65 : z01 Tryz.prog 65 = true := by kernel_rfl
@[go_sem] theorem co69 : z01 Tryz.prog 69 = true := by kernel_rfl
@[go_sem] theorem fi37_2 : z05 Tryz.prog 37 2 = some (6, false, 1) := by kernel_rfl
@[go_sem] theorem fi37_3 : z05 Tryz.prog 37 3 = some (7, false, 1) := by kernel_rfl
@[go_sem] theorem ti37 : z09 Tryz.prog 37 = some (true, 8) := by kernel_rfl
@[go_sem] theorem co71 : z01 Tryz.prog 71 = true := by kernel_rfl
@[go_sem] theorem co72 : z01 Tryz.prog 72 = true := by kernel_rfl
@[go_sem] theorem co73 : z01 Tryz.prog 73 = true := by kernel_rfl
@[go_sem] theorem fi37_0 : z05 Tryz.prog 37 0 = some (0, false, 1) := by kernel_rfl
@[go_sem] theorem co76 : z01 Tryz.prog 76 = true := by kernel_rfl
@[go_sem] theorem co77 : z01 Tryz.prog 77 = true := by kernel_rfl
@[go_sem] theorem co80 : z01 Tryz.prog 80 = true := by kernel_rfl
@[go_sem] theorem co82 : z01 Tryz.prog 82 = true := by kernel_rfl
@[go_sem] theorem co83 : z01 Tryz.prog 83 = true := by kernel_rfl
@[go_sem] theorem fi62_2 : z05 Tryz.prog 62 2 = some (2, false, 1) := by kernel_rfl
@[go_sem] theorem co86 : z01 Tryz.prog 86 = true := by kernel_rfl
@[go_sem] theorem co87 : z01 Tryz.prog 87 = true := by kernel_rfl
@[go_sem] theorem an9 : z0k Tryz.prog 9 = none := by kernel_rfl
@[go_sem] theorem co91 : z01 Tryz.prog 91 = true := by kernel_rfl
@[go_sem] theorem fi62_0 : z05 Tryz.prog 62 0 = some (0, false, 1) := by kernel_rfl
@[go_sem] theorem co92 : z01 Tryz.prog 92 = true := by kernel_rfl
@[go_sem] theorem fi164_1 : z05 Tryz.prog 164 1 = some (1, false, 1) := by kernel_rfl
@[go_sem] theorem ti161 : z09 Tryz.prog 161 = some (false, 1) := by kernel_rfl
@[go_sem] theorem mi161 : z2b Tryz.prog 161 = some (9, .string, (.pointer none)) := by kernel_rfl
@[go_sem] theorem im161 : z7a Tryz.prog 161 = true := by kernel_rfl
@[go_sem] theorem co93 : z01 Tryz.prog 93 = true := by kernel_rfl
@[go_sem] theorem co94 : z01 Tryz.prog 94 = true := by kernel_rfl
@[go_sem] theorem co95 : z01 Tryz.prog 95 = true := by kernel_rfl
@[go_sem] theorem ti66 : z09 Tryz.prog 66 = some (false, 1) := by kernel_rfl
@[go_sem] theorem fi77_5 : z05 Tryz.prog 77 5 = some (5, false, 1) := by kernel_rfl
@[go_sem] theorem ti75 : z09 Tryz.prog 75 = some (false, 1) := by kernel_rfl
@[go_sem] theorem si75 : z0g Tryz.prog 75 = some (37, 8, 112, [(.int .i64 0), (.int .i64 0), (.string ⟨#[]⟩), (.string ⟨#[]⟩), (.slice none 0 0), (.slice none 0 0), (.int .i64 0), (.int .i64 0)]) := by kernel_rfl
@[go_sem] theorem fi77_4 : z05 Tryz.prog 77 4 = some (4, false, 1) := by kernel_rfl
@[go_sem] theorem ti74 : z09 Tryz.prog 74 = some (false, 1) := by kernel_rfl
@[go_sem] theorem si74 : z0g Tryz.prog 74 = some (196, 7, 56, [(.int .i64 0), (.int .i64 0), (.int .i64 0), (.int .i64 0), (.int .i64 0), (.int .i64 0), (.int .i64 0)]) := by kernel_rfl
@[go_sem] theorem an75 : z0k Tryz.prog 75 = none := by kernel_rfl
@[go_sem] theorem co98 : z01 Tryz.prog 98 = true := by kernel_rfl
@[go_sem] theorem fi77_1 : z05 Tryz.prog 77 1 = some (1, false, 1) := by kernel_rfl
@[go_sem] theorem co99 : z01 Tryz.prog 99 = true := by kernel_rfl
@[go_sem] theorem co100 : z01 Tryz.prog 100 = true := by kernel_rfl
@[go_sem] theorem fi92_1 : z05 Tryz.prog 92 1 = some (1, false, 1) := by kernel_rfl
@[go_sem] theorem ti89 : z09 Tryz.prog 89 = some (false, 1) := by kernel_rfl
@[go_sem] theorem si89 : z0g Tryz.prog 89 = some (177, 2, 24, [(.string ⟨#[]⟩), (.int .i64 0)]) := by kernel_rfl
@[go_sem] theorem co101 : z01 Tryz.prog 101 = true := by kernel_rfl
@[go_sem] theorem bi177 : z0t Tryz.prog 177 = some ([(.string ⟨#[]⟩), (.int .i64 0)], [(0, 1), (1, 1)]) := by kernel_rfl
@[go_sem] theorem fi92_0 : z05 Tryz.prog 92 0 = some (0, false, 1) := by kernel_rfl
@[go_sem] theorem ti88 : z09 Tryz.prog 88 = some (false, 1) := by kernel_rfl
@[go_sem] theorem bi180 : z0t Tryz.prog 180 = some ([(.slice none 0 0), (.slice none 0 0)], [(0, 1), (1, 1)]) := by kernel_rfl
@[go_sem] theorem si88 : z0g Tryz.prog 88 = some (180, 2, 48, [(.slice none 0 0), (.slice none 0 0)]) := by kernel_rfl
@[go_sem] theorem fi164_5 : z05 Tryz.prog 164 5 = some (5, false, 1) := by kernel_rfl
@[go_sem] theorem fi164_6 : z05 Tryz.prog 164 6 = some (6, false, 1) := by kernel_rfl
@[go_sem] theorem fi164_7 : z05 Tryz.prog 164 7 = some (7, false, 1) := by kernel_rfl
@[go_sem] theorem fi92_4 : z05 Tryz.prog 92 4 = some (4, false, 1) := by kernel_rfl
@[go_sem] theorem fi92_5 : z05 Tryz.prog 92 5 = some (5, false, 1) := by kernel_rfl
@[go_sem] theorem fi92_6 : z05 Tryz.prog 92 6 = some (6, false, 1) := by kernel_rfl
@[go_sem] theorem co102 : z01 Tryz.prog 102 = true := by kernel_rfl
@[go_sem] theorem ze40 : z0o Tryz.prog 40 = some (.slice none 0 0) := by kernel_rfl
@[go_sem] theorem co103 : z01 Tryz.prog 103 = true := by kernel_rfl
@[go_sem] theorem co105 : z01 Tryz.prog 105 = true := by kernel_rfl
@[go_sem] theorem co107 : z01 Tryz.prog 107 = true := by kernel_rfl
@[go_sem] theorem co109 : z01 Tryz.prog 109 = true := by kernel_rfl
@[go_sem] theorem ti65 : z09 Tryz.prog 65 = some (false, 1) := by kernel_rfl
@[go_sem] theorem co111 : z01 Tryz.prog 111 = true := by kernel_rfl
@[go_sem] theorem si185 : z0g Tryz.prog 185 = some (104, 1, 8, [.nilFunc]) := by kernel_rfl
@[go_sem] theorem an185 : z0k Tryz.prog 185 = none := by kernel_rfl
@[go_sem] theorem ti104 : z09 Tryz.prog 104 = some (false, 1) := by kernel_rfl
@[go_sem] theorem co112 : z01 Tryz.prog 112 = true := by kernel_rfl
@[go_sem] theorem co113 : z01 Tryz.prog 113 = true := by kernel_rfl
@[go_sem] theorem co114 : z01 Tryz.prog 114 = true := by kernel_rfl
@[go_sem] theorem co115 : z01 Tryz.prog 115 = true := by kernel_rfl
@[go_sem] theorem co116 : z01 Tryz.prog 116 = true := by kernel_rfl
@[go_sem] theorem co117 : z01 Tryz.prog 117 = true := by kernel_rfl
@[go_sem] theorem co118 : z01 Tryz.prog 118 = true := by kernel_rfl
@[go_sem] theorem fi164_4 : z05 Tryz.prog 164 4 = some (4, false, 1) := by kernel_rfl
@[go_sem] theorem co119 : z01 Tryz.prog 119 = true := by kernel_rfl
@[go_sem] theorem co120 : z01 Tryz.prog 120 = true := by kernel_rfl
@[go_sem] theorem an89 : z0k Tryz.prog 89 = none := by kernel_rfl
@[go_sem] theorem fi177_0 : z05 Tryz.prog 177 0 = some (0, false, 1) := by kernel_rfl
@[go_sem] theorem fi191_3 : z05 Tryz.prog 191 3 = some (3, false, 1) := by kernel_rfl
@[go_sem] theorem co121 : z01 Tryz.prog 121 = true := by kernel_rfl
@[go_sem] theorem an88 : z0k Tryz.prog 88 = none := by kernel_rfl
@[go_sem] theorem ti180 : z09 Tryz.prog 180 = some (true, 2) := by kernel_rfl
@[go_sem] theorem fi180_1 : z05 Tryz.prog 180 1 = some (1, false, 1) := by kernel_rfl
@[go_sem] theorem ti178 : z09 Tryz.prog 178 = some (false, 1) := by kernel_rfl
@[go_sem] theorem si178 : z0g Tryz.prog 178 = some (271, 3, 16, [(.int .u8 0), (.bool false), (.int .i64 0)]) := by kernel_rfl
@[go_sem] theorem co122 : z01 Tryz.prog 122 = true := by kernel_rfl
@[go_sem] theorem bi77 : z0t Tryz.prog 77 = some ([(.int .i64 0), (.int .i64 0), (.int .i64 0), (.int .i64 0), (.slice none 0 0), (.slice none 0 0)], [(0, 1), (1, 1), (2, 1), (3, 1), (4, 1), (5, 1)]) := by kernel_rfl
@[go_sem] theorem co123 : z01 Tryz.prog 123 = true := by kernel_rfl
@[go_sem] theorem co124 : z01 Tryz.prog 124 = true := by kernel_rfl
@[go_sem] theorem fi77_0 : z05 Tryz.prog 77 0 = some (0, false, 1) := by kernel_rfl
@[go_sem] theorem fi77_2 : z05 Tryz.prog 77 2 = some (2, false, 1) := by kernel_rfl
@[go_sem] theorem fi77_3 : z05 Tryz.prog 77 3 = some (3, false, 1) := by kernel_rfl
@[go_sem] theorem an74 : z0k Tryz.prog 74 = none := by kernel_rfl
@[go_sem] theorem ti196 : z09 Tryz.prog 196 = some (true, 7) := by kernel_rfl
@[go_sem] theorem ze37 : z0o Tryz.prog 37 = some (.agg #[(.int .i64 0), (.int .i64 0), (.string ⟨#[]⟩), (.string ⟨#[]⟩), (.slice none 0 0), (.slice none 0 0), (.int .i64 0), (.int .i64 0)]) := by kernel_rfl
@[go_sem] theorem bi164 : z0t Tryz.prog 164 = some ([(.map none), (.map none), (.slice none 0 0), (.int .i64 0), (.int .i64 0), (.bool false), (.int .i64 0), (.int .i64 0), (.bool false)], [(0, 1), (1, 1), (2, 1), (3, 1), (4, 1), (5, 1), (6, 1), (7, 1), (8, 1)]) := by kernel_rfl
@[go_sem] theorem co104 : z01 Tryz.prog 104 = true := by kernel_rfl
@[go_sem] theorem co108 : z01 Tryz.prog 108 = true := by kernel_rfl
@[go_sem] theorem co126 : z01 Tryz.prog 126 = true := by kernel_rfl
@[go_sem] theorem co106 : z01 Tryz.prog 106 = true := by kernel_rfl
@[go_sem] theorem fi164_0 : z05 Tryz.prog 164 0 = some (0, false, 1) := by kernel_rfl
@[go_sem] theorem fi164_2 : z05 Tryz.prog 164 2 = some (2, false, 1) := by kernel_rfl
@[go_sem] theorem ti162 : z09 Tryz.prog 162 = some (false, 1) := by kernel_rfl
@[go_sem] theorem si162 : z0g Tryz.prog 162 = some (204, 4, 48, [(.int .i64 0), (.string ⟨#[]⟩), (.string ⟨#[]⟩), (.pointer none)]) := by kernel_rfl
@[go_sem] theorem an162 : z0k Tryz.prog 162 = none := by kernel_rfl
@[go_sem] theorem ti204 : z09 Tryz.prog 204 = some (true, 4) := by kernel_rfl
@[go_sem] theorem ze204 : z0o Tryz.prog 204 = some (.agg #[(.int .i64 0), (.string ⟨#[]⟩), (.string ⟨#[]⟩), (.pointer none)]) := by kernel_rfl
@[go_sem] theorem co128 : z01 Tryz.prog 128 = true := by kernel_rfl
@[go_sem] theorem co136 : z01 Tryz.prog 136 = true := by kernel_rfl
@[go_sem] theorem ze3 : z0o Tryz.prog 3 = some (.int .i64 0) := by kernel_rfl
@[go_sem] theorem co140 : z01 Tryz.prog 140 = true := by kernel_rfl
@[go_sem] theorem bi218 : z0t Tryz.prog 218 = some ([(.int .i64 0), (.int .i64 0), (.bool false)], [(0, 1), (1, 1), (2, 1)]) := by kernel_rfl
@[go_sem] theorem co141 : z01 Tryz.prog 141 = true := by kernel_rfl
@[go_sem] theorem fi218_2 : z05 Tryz.prog 218 2 = some (2, false, 1) := by kernel_rfl
@[go_sem] theorem co143 : z01 Tryz.prog 143 = true := by kernel_rfl
@[go_sem] theorem co142 : z01 Tryz.prog 142 = true := by kernel_rfl
@[go_sem] theorem co147 : z01 Tryz.prog 147 = true := by kernel_rfl
@[go_sem] theorem co148 : z01 Tryz.prog 148 = true := by kernel_rfl
@[go_sem] theorem co149 : z01 Tryz.prog 149 = true := by kernel_rfl
@[go_sem] theorem co152 : z01 Tryz.prog 152 = true := by kernel_rfl
@[go_sem] theorem bi37 : z0t Tryz.prog 37 = some ([(.int .i64 0), (.int .i64 0), (.string ⟨#[]⟩), (.string ⟨#[]⟩), (.slice none 0 0), (.slice none 0 0), (.int .i64 0), (.int .i64 0)], [(0, 1), (1, 5), (6, 1), (7, 1)]) := by kernel_rfl
@[go_sem] theorem co155 : z01 Tryz.prog 155 = true := by kernel_rfl
@[go_sem] theorem co156 : z01 Tryz.prog 156 = true := by kernel_rfl
@[go_sem] theorem fi35_0 : z05 Tryz.prog 35 0 = some (0, false, 1) := by kernel_rfl
@[go_sem] theorem fi35_1 : z05 Tryz.prog 35 1 = some (1, false, 1) := by kernel_rfl
@[go_sem] theorem fi35_2 : z05 Tryz.prog 35 2 = some (2, false, 1) := by kernel_rfl
@[go_sem] theorem fi35_3 : z05 Tryz.prog 35 3 = some (3, false, 1) := by kernel_rfl
@[go_sem] theorem ti32 : z09 Tryz.prog 32 = some (false, 1) := by kernel_rfl
@[go_sem] theorem fi35_4 : z05 Tryz.prog 35 4 = some (4, false, 1) := by kernel_rfl
@[go_sem] theorem ti33 : z09 Tryz.prog 33 = some (false, 1) := by kernel_rfl
@[go_sem] theorem si33 : z0g Tryz.prog 33 = some (35, 5, 88, [(.int .i64 0), (.string ⟨#[]⟩), (.string ⟨#[]⟩), (.slice none 0 0), (.slice none 0 0)]) := by kernel_rfl
@[go_sem] theorem an33 : z0k Tryz.prog 33 = none := by kernel_rfl
@[go_sem] theorem co162 : z01 Tryz.prog 162 = true := by kernel_rfl
@[go_sem] theorem co163 : z01 Tryz.prog 163 = true := by kernel_rfl
@[go_sem] theorem ze35 : z0o Tryz.prog 35 = some (.agg #[(.int .i64 0), (.string ⟨#[]⟩), (.string ⟨#[]⟩), (.slice none 0 0), (.slice none 0 0)]) := by kernel_rfl
@[go_sem] theorem co167 : z01 Tryz.prog 167 = true := by kernel_rfl
@[go_sem] theorem bi35 : z0t Tryz.prog 35 = some ([(.int .i64 0), (.string ⟨#[]⟩), (.string ⟨#[]⟩), (.slice none 0 0), (.slice none 0 0)], [(0, 1), (1, 1), (2, 1), (3, 1), (4, 1)]) := by kernel_rfl
@[go_sem] theorem co172 : z01 Tryz.prog 172 = true := by kernel_rfl
@[go_sem] theorem fi164_3 : z05 Tryz.prog 164 3 = some (3, false, 1) := by kernel_rfl
@[go_sem] theorem bi191 : z0t Tryz.prog 191 = some ([(.int .i64 0), (.slice none 0 0), (.slice none 0 0), (.slice none 0 0)], [(0, 1), (1, 1), (2, 1), (3, 1)]) := by kernel_rfl
@[go_sem] theorem fi191_2 : z05 Tryz.prog 191 2 = some (2, false, 1) := by kernel_rfl
@[go_sem] theorem ti189 : z09 Tryz.prog 189 = some (false, 1) := by kernel_rfl
@[go_sem] theorem bi249 : z0t Tryz.prog 249 = some ([(.bool false), (.int .i64 0), (.slice none 0 0)], [(0, 1), (1, 1), (2, 1)]) := by kernel_rfl
@[go_sem] theorem si189 : z0g Tryz.prog 189 = some (249, 3, 40, [(.bool false), (.int .i64 0), (.slice none 0 0)]) := by kernel_rfl
@[go_sem] theorem fi191_1 : z05 Tryz.prog 191 1 = some (1, false, 1) := by kernel_rfl
@[go_sem] theorem co174 : z01 Tryz.prog 174 = true := by kernel_rfl
@[go_sem] theorem co175 : z01 Tryz.prog 175 = true := by kernel_rfl
@[go_sem] theorem ze196 : z0o Tryz.prog 196 = some (.agg #[(.int .i64 0), (.int .i64 0), (.int .i64 0), (.int .i64 0), (.int .i64 0), (.int .i64 0), (.int .i64 0)]) := by kernel_rfl
@[go_sem] theorem co176 : z01 Tryz.prog 176 = true := by kernel_rfl
@[go_sem] theorem fi196_0 : z05 Tryz.prog 196 0 = some (0, false, 1) := by kernel_rfl
@[go_sem] theorem fi196_5 : z05 Tryz.prog 196 5 = some (5, false, 1) := by kernel_rfl
@[go_sem] theorem co177 : z01 Tryz.prog 177 = true := by kernel_rfl
@[go_sem] theorem bi255 : z0t Tryz.prog 255 = some ([(.int .i64 0), (.int .i64 0), (.int .i64 0), (.int .i64 0)], [(0, 1), (1, 1), (2, 1), (3, 1)]) := by kernel_rfl
@[go_sem] theorem ai255 : z0k Tryz.prog 255 = some (4, false, 1, [(.int .i64 0), (.int .i64 0), (.int .i64 0), (.int .i64 0)]) := by kernel_rfl
@[go_sem] theorem fi196_1 : z05 Tryz.prog 196 1 = some (1, false, 1) := by kernel_rfl
@[go_sem] theorem fi196_2 : z05 Tryz.prog 196 2 = some (2, false, 1) := by kernel_rfl
@[go_sem] theorem fi196_3 : z05 Tryz.prog 196 3 = some (3, false, 1) := by kernel_rfl
@[go_sem] theorem fi196_4 : z05 Tryz.prog 196 4 = some (4, false, 1) := by kernel_rfl
@[go_sem] theorem fi196_6 : z05 Tryz.prog 196 6 = some (6, false, 1) := by kernel_rfl
@[go_sem] theorem bi256 : z0t Tryz.prog 256 = some ([(.int .i64 0), (.int .i64 0), (.int .i64 0), (.int .i64 0), (.int .i64 0), (.int .i64 0), (.int .i64 0)], [(0, 1), (1, 1), (2, 1), (3, 1), (4, 1), (5, 1), (6, 1)]) := by kernel_rfl
@[go_sem] theorem ai256 : z0k Tryz.prog 256 = some (7, false, 1, [(.int .i64 0), (.int .i64 0), (.int .i64 0), (.int .i64 0), (.int .i64 0), (.int .i64 0), (.int .i64 0)]) := by kernel_rfl
@[go_sem] theorem co178 : z01 Tryz.prog 178 = true := by kernel_rfl
@[go_sem] theorem co179 : z01 Tryz.prog 179 = true := by kernel_rfl
@[go_sem] theorem bi204 : z0t Tryz.prog 204 = some ([(.int .i64 0), (.string ⟨#[]⟩), (.string ⟨#[]⟩), (.pointer none)], [(0, 1), (1, 1), (2, 1), (3, 1)]) := by kernel_rfl
@[go_sem] theorem co180 : z01 Tryz.prog 180 = true := by kernel_rfl
@[go_sem] theorem fi164_8 : z05 Tryz.prog 164 8 = some (8, false, 1) := by kernel_rfl
@[go_sem] theorem co181 : z01 Tryz.prog 181 = true := by kernel_rfl
@[go_sem] theorem co110 : z01 Tryz.prog 110 = true := by kernel_rfl
@[go_sem] theorem co182 : z01 Tryz.prog 182 = true := by kernel_rfl
@[go_sem] theorem co183 : z01 Tryz.prog 183 = true := by kernel_rfl
@[go_sem] theorem co184 : z01 Tryz.prog 184 = true := by kernel_rfl
@[go_sem] theorem fi92_2 : z05 Tryz.prog 92 2 = some (2, false, 1) := by kernel_rfl
@[go_sem] theorem ti90 : z09 Tryz.prog 90 = some (false, 1) := by kernel_rfl
@[go_sem] theorem bi265 : z0t Tryz.prog 265 = some ([(.int .i64 0), (.string ⟨#[]⟩), (.string ⟨#[]⟩), (.int .i64 0)], [(0, 1), (1, 1), (2, 1), (3, 1)]) := by kernel_rfl
@[go_sem] theorem si90 : z0g Tryz.prog 90 = some (265, 4, 48, [(.int .i64 0), (.string ⟨#[]⟩), (.string ⟨#[]⟩), (.int .i64 0)]) := by kernel_rfl
@[go_sem] theorem fi92_7 : z05 Tryz.prog 92 7 = some (7, false, 1) := by kernel_rfl
@[go_sem] theorem co185 : z01 Tryz.prog 185 = true := by kernel_rfl
@[go_sem] theorem co186 : z01 Tryz.prog 186 = true := by kernel_rfl
@[go_sem] theorem co188 : z01 Tryz.prog 188 = true := by kernel_rfl
@[go_sem] theorem co187 : z01 Tryz.prog 187 = true := by kernel_rfl
@[go_sem] theorem co189 : z01 Tryz.prog 189 = true := by kernel_rfl
@[go_sem] theorem fi177_1 : z05 Tryz.prog 177 1 = some (1, false, 1) := by kernel_rfl
@[go_sem] theorem fi180_0 : z05 Tryz.prog 180 0 = some (0, false, 1) := by kernel_rfl
@[go_sem] theorem an178 : z0k Tryz.prog 178 = none := by kernel_rfl
@[go_sem] theorem fi271_1 : z05 Tryz.prog 271 1 = some (1, false, 1) := by kernel_rfl
@[go_sem] theorem fi271_2 : z05 Tryz.prog 271 2 = some (2, false, 1) := by kernel_rfl
@[go_sem] theorem fi271_0 : z05 Tryz.prog 271 0 = some (0, false, 1) := by kernel_rfl
@[go_sem] theorem co190 : z01 Tryz.prog 190 = true := by kernel_rfl
@[go_sem] theorem co191 : z01 Tryz.prog 191 = true := by kernel_rfl
@[go_sem] theorem co192 : z01 Tryz.prog 192 = true := by kernel_rfl
@[go_sem] theorem bi196 : z0t Tryz.prog 196 = some ([(.int .i64 0), (.int .i64 0), (.int .i64 0), (.int .i64 0), (.int .i64 0), (.int .i64 0), (.int .i64 0)], [(0, 1), (1, 1), (2, 1), (3, 1), (4, 1), (5, 1), (6, 1)]) := by kernel_rfl
@[go_sem] theorem co193 : z01 Tryz.prog 193 = true := by kernel_rfl
@[go_sem] theorem co195 : z01 Tryz.prog 195 = true := by kernel_rfl
@[go_sem] theorem fi281_1 : z05 Tryz.prog 281 1 = some (1, false, 1) := by kernel_rfl
@[go_sem] theorem fi204_0 : z05 Tryz.prog 204 0 = some (0, false, 1) := by kernel_rfl
@[go_sem] theorem fi204_1 : z05 Tryz.prog 204 1 = some (1, false, 1) := by kernel_rfl
@[go_sem] theorem fi204_3 : z05 Tryz.prog 204 3 = some (3, false, 1) := by kernel_rfl
@[go_sem] theorem ti160 : z09 Tryz.prog 160 = some (false, 1) := by kernel_rfl
@[go_sem] theorem fi204_2 : z05 Tryz.prog 204 2 = some (2, false, 1) := by kernel_rfl
@[go_sem] theorem co197 : z01 Tryz.prog 197 = true := by kernel_rfl
@[go_sem] theorem bi271 : z0t Tryz.prog 271 = some ([(.int .u8 0), (.bool false), (.int .i64 0)], [(0, 1), (1, 1), (2, 1)]) := by kernel_rfl
@[go_sem] theorem fi218_0 : z05 Tryz.prog 218 0 = some (0, false, 1) := by kernel_rfl
@[go_sem] theorem co200 : z01 Tryz.prog 200 = true := by kernel_rfl
@[go_sem] theorem co201 : z01 Tryz.prog 201 = true := by kernel_rfl
@[go_sem] theorem co202 : z01 Tryz.prog 202 = true := by kernel_rfl
@[go_sem] theorem bi293 : z0t Tryz.prog 293 = some ([(.int .i64 0), (.int .i64 0)], [(0, 1), (1, 1)]) := by kernel_rfl
@[go_sem] theorem co207 : z01 Tryz.prog 207 = true := by kernel_rfl
@[go_sem] theorem co210 : z01 Tryz.prog 210 = true := by kernel_rfl
@[go_sem] theorem co211 : z01 Tryz.prog 211 = true := by kernel_rfl
@[go_sem] theorem bi308 : z0t Tryz.prog 308 = some ([(.slice none 0 0), (.int .i64 0), (.int .i64 0)], [(0, 1), (1, 1), (2, 1)]) := by kernel_rfl
@[go_sem] theorem ze306 : z0o Tryz.prog 306 = some (.pointer none) := by kernel_rfl
@[go_sem] theorem ti306 : z09 Tryz.prog 306 = some (false, 1) := by kernel_rfl
@[go_sem] theorem co217 : z01 Tryz.prog 217 = true := by kernel_rfl
@[go_sem] theorem co216 : z01 Tryz.prog 216 = true := by kernel_rfl
@[go_sem] theorem fi308_1 : z05 Tryz.prog 308 1 = some (1, false, 1) := by kernel_rfl
@[go_sem] theorem co227 : z01 Tryz.prog 227 = true := by kernel_rfl
@[go_sem] theorem co228 : z01 Tryz.prog 228 = true := by kernel_rfl
@[go_sem] theorem co229 : z01 Tryz.prog 229 = true := by kernel_rfl
@[go_sem] theorem co230 : z01 Tryz.prog 230 = true := by kernel_rfl
@[go_sem] theorem co231 : z01 Tryz.prog 231 = true := by kernel_rfl
@[go_sem] theorem co232 : z01 Tryz.prog 232 = true := by kernel_rfl
@[go_sem] theorem co238 : z01 Tryz.prog 238 = true := by kernel_rfl
@[go_sem] theorem co242 : z01 Tryz.prog 242 = true := by kernel_rfl
@[go_sem] theorem an90 : z0k Tryz.prog 90 = none := by kernel_rfl
@[go_sem] theorem ti265 : z09 Tryz.prog 265 = some (true, 4) := by kernel_rfl
@[go_sem] theorem ze265 : z0o Tryz.prog 265 = some (.agg #[(.int .i64 0), (.string ⟨#[]⟩), (.string ⟨#[]⟩), (.int .i64 0)]) := by kernel_rfl
@[go_sem] theorem fi265_0 : z05 Tryz.prog 265 0 = some (0, false, 1) := by kernel_rfl
@[go_sem] theorem fi265_1 : z05 Tryz.prog 265 1 = some (1, false, 1) := by kernel_rfl
@[go_sem] theorem co243 : z01 Tryz.prog 243 = true := by kernel_rfl
@[go_sem] theorem fi265_3 : z05 Tryz.prog 265 3 = some (3, false, 1) := by kernel_rfl
@[go_sem] theorem fi265_2 : z05 Tryz.prog 265 2 = some (2, false, 1) := by kernel_rfl
@[go_sem] theorem si349 : z0g Tryz.prog 349 = some (215, 1, 8, [(.pointer none)]) := by kernel_rfl
@[go_sem] theorem co244 : z01 Tryz.prog 244 = true := by kernel_rfl
@[go_sem] theorem co245 : z01 Tryz.prog 245 = true := by kernel_rfl
@[go_sem] theorem co246 : z01 Tryz.prog 246 = true := by kernel_rfl
@[go_sem] theorem ze281 : z0o Tryz.prog 281 = some (.agg #[(.int .i64 0), (.slice none 0 0), (.int .i64 0)]) := by kernel_rfl
@[go_sem] theorem ti281 : z09 Tryz.prog 281 = some (true, 3) := by kernel_rfl
@[go_sem] theorem fi281_2 : z05 Tryz.prog 281 2 = some (2, false, 1) := by kernel_rfl
@[go_sem] theorem co247 : z01 Tryz.prog 247 = true := by kernel_rfl
@[go_sem] theorem co248 : z01 Tryz.prog 248 = true := by kernel_rfl
@[go_sem] theorem fi218_1 : z05 Tryz.prog 218 1 = some (1, false, 1) := by kernel_rfl
@[go_sem] theorem fi293_0 : z05 Tryz.prog 293 0 = some (0, false, 1) := by kernel_rfl
@[go_sem] theorem co261 : z01 Tryz.prog 261 = true := by kernel_rfl
@[go_sem] theorem fi293_1 : z05 Tryz.prog 293 1 = some (1, false, 1) := by kernel_rfl
@[go_sem] theorem co262 : z01 Tryz.prog 262 = true := by kernel_rfl
@[go_sem] theorem ze4 : z0o Tryz.prog 4 = some (.bool false) := by kernel_rfl
@[go_sem] theorem co218 : z01 Tryz.prog 218 = true := by kernel_rfl
@[go_sem] theorem fi308_2 : z05 Tryz.prog 308 2 = some (2, false, 1) := by kernel_rfl
@[go_sem] theorem bi342 : z0t Tryz.prog 342 = some ([], []) := by kernel_rfl
@[go_sem] theorem ni342 : z5w Tryz.prog 342 = true := by kernel_rfl
@[go_sem] theorem co267 : z01 Tryz.prog 267 = true := by kernel_rfl
@[go_sem] theorem co268 : z01 Tryz.prog 268 = true := by kernel_rfl
@[go_sem] theorem ze255 : z0o Tryz.prog 255 = some (.agg #[(.int .i64 0), (.int .i64 0), (.int .i64 0), (.int .i64 0)]) := by kernel_rfl
@[go_sem] theorem ti255 : z09 Tryz.prog 255 = some (true, 4) := by kernel_rfl
@[go_sem] theorem co270 : z01 Tryz.prog 270 = true := by kernel_rfl
@[go_sem] theorem co276 : z01 Tryz.prog 276 = true := by kernel_rfl
@[go_sem] theorem ti177 : z09 Tryz.prog 177 = some (true, 2) := by kernel_rfl
@[go_sem] theorem an349 : z0k Tryz.prog 349 = none := by kernel_rfl
@[go_sem] theorem ti215 : z09 Tryz.prog 215 = some (false, 1) := by kernel_rfl
@[go_sem] theorem bi350 : z0t Tryz.prog 350 = some ([(.pointer none), (.pointer none), (.pointer none)], [(0, 1), (1, 1), (2, 1)]) := by kernel_rfl
@[go_sem] theorem ai350 : z0k Tryz.prog 350 = some (3, false, 1, [(.pointer none), (.pointer none), (.pointer none)]) := by kernel_rfl
@[go_sem] theorem bi281 : z0t Tryz.prog 281 = some ([(.int .i64 0), (.slice none 0 0), (.int .i64 0)], [(0, 1), (1, 1), (2, 1)]) := by kernel_rfl
@[go_sem] theorem bi351 : z0t Tryz.prog 351 = some ([(.int .u32 0), (.int .u32 0), (.int .u32 0), (.int .u32 0), (.int .u32 0), (.int .u32 0), (.int .u32 0), (.int .u32 0), (.int .u32 0), (.int .u32 0), (.int .u32 0), (.int .u32 0), (.int .u32 0), (.int .u32 0), (.int .u32 0), (.int .u32 0)], [(0, 1), (1, 1), (2, 1), (3, 1), (4, 1), (5, 1), (6, 1), (7, 1), (8, 1), (9, 1), (10, 1), (11, 1), (12, 1), (13, 1), (14, 1), (15, 1)]) := by kernel_rfl
@[go_sem] theorem ze351 : z0o Tryz.prog 351 = some (.agg #[(.int .u32 0), (.int .u32 0), (.int .u32 0), (.int .u32 0), (.int .u32 0), (.int .u32 0), (.int .u32 0), (.int .u32 0), (.int .u32 0), (.int .u32 0), (.int .u32 0), (.int .u32 0), (.int .u32 0), (.int .u32 0), (.int .u32 0), (.int .u32 0)]) := by kernel_rfl
@[go_sem] theorem ti351 : z09 Tryz.prog 351 = some (true, 16) := by kernel_rfl
@[go_sem] theorem ai351 : z0k Tryz.prog 351 = some (16, false, 1, [(.int .u32 0), (.int .u32 0), (.int .u32 0), (.int .u32 0), (.int .u32 0), (.int .u32 0), (.int .u32 0), (.int .u32 0), (.int .u32 0), (.int .u32 0), (.int .u32 0), (.int .u32 0), (.int .u32 0), (.int .u32 0), (.int .u32 0), (.int .u32 0)]) := by kernel_rfl
@[go_sem] theorem ti156 : z09 Tryz.prog 156 = some (false, 1) := by kernel_rfl
@[go_sem] theorem co280 : z01 Tryz.prog 280 = true := by kernel_rfl
@[go_sem] theorem ze342 : z0o Tryz.prog 342 = some (.agg #[]) := by kernel_rfl
@[go_sem] theorem ti342 : z09 Tryz.prog 342 = some (true, 0) := by kernel_rfl
@[go_sem] theorem fi308_0 : z05 Tryz.prog 308 0 = some (0, false, 1) := by kernel_rfl
attribute [go_sem] Tryz.underlying3 Tryz.underlying4 Tryz.underlying5 Tryz.underlying9 Tryz.underlying22 Tryz.underlying23 Tryz.underlying24 Tryz.underlying25 Tryz.underlying32 Tryz.underlying33 Tryz.underlying40 Tryz.underlying58 Tryz.underlying60 Tryz.underlying64 Tryz.underlying65 Tryz.underlying66 Tryz.underlying69 Tryz.underlying70 Tryz.underlying74 Tryz.underlying75 Tryz.underlying79 Tryz.underlying82 Tryz.underlying88 Tryz.underlying89 Tryz.underlying90 Tryz.underlying102 Tryz.underlying107 Tryz.underlying108 Tryz.underlying118 Tryz.underlying155 Tryz.underlying156 Tryz.underlying158 Tryz.underlying160 Tryz.underlying161 Tryz.underlying162 Tryz.underlying178 Tryz.underlying185 Tryz.underlying189 Tryz.underlying215 Tryz.underlying216 Tryz.underlying255 Tryz.underlying256 Tryz.underlying277 Tryz.underlying290 Tryz.underlying291 Tryz.underlying306 Tryz.underlying320 Tryz.underlying345 Tryz.underlying349 Tryz.underlying350 Tryz.underlying351 Tryz.underlying360
end Go.Proofs.YtahgfnbkkfpcnaaGreat
