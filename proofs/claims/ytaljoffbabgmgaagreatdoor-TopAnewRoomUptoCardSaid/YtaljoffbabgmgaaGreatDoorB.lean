import Derived.Test.YtaljoffbabgmgaaGreatDoorA2
import Derived.Test.YtaljoffbabgmgaaGreatDoorChecked
import Derived.Walk
set_option linter.unusedSectionVars false
set_option linter.unusedVariables false
set_option linter.unusedSimpArgs false
section
namespace Go.Ax
instance : Globs := ⟨[0, 1]⟩
end Go.Ax
namespace Go.Ax.Ir
open Go.Proofs
set_option maxRecDepth 100000
def ir2 : IFun := ⟨1, (.region [⟨some 0, .call (.c (.func 1 [] [])) [], none⟩]), []⟩
theorem c2 : compFun Tryz.prog Tryz.f2 = some ir2 := by kernel_rfl
def ir3 : IFun := ⟨57, (.seq (.region [⟨some 1, .box (.t 0), none⟩,
 ⟨some 2, .mv (.c (.bool false)), none⟩])
 (.seq (.region [⟨some 3, .alloc (.agg [.nilslice, .nilslice]), none⟩,
 ⟨some 4, .alloc (.agg [.nilslice, .nilslice]), none⟩])
 (.seq (.region [⟨some 6, .ld true 12 (.t 1), none⟩,
 ⟨some 7, .call (.c (.func 4 [] [])) [(.t 6), (.t 3)], none⟩])
 (.seq (.region [⟨some 8, .mkfn 6 [] [(.t 1)], none⟩,
 ⟨some 9, .call (.c (.func 5 [] [])) [(.t 8)], none⟩,
 ⟨some 10, .mv (.t 9), none⟩,
 ⟨(some 11), (.mkfn 11 [] [(.t 1)]), (some (10, true))⟩,
 ⟨(some 12), (.call (.c (.func 5 [] [])) [(.t 11)]), (some (10, true))⟩,
 ⟨some 13, .pick (.t 10) (.t 12) (.c (.bool false)), none⟩,
 ⟨some 14, .mv (.t 13), none⟩,
 ⟨(some 15), (.mkfn 14 [] [(.t 1)]), (some (14, true))⟩,
 ⟨(some 16), (.call (.c (.func 5 [] [])) [(.t 15)]), (some (14, true))⟩,
 ⟨some 17, .pick (.t 14) (.t 16) (.c (.bool false)), none⟩,
 ⟨some 18, .mv (.t 17), none⟩,
 ⟨(some 19), (.mkfn 16 [] [(.t 1)]), (some (18, true))⟩,
 ⟨(some 20), (.call (.c (.func 5 [] [])) [(.t 19)]), (some (18, true))⟩,
 ⟨some 21, .pick (.t 18) (.t 20) (.c (.bool false)), none⟩,
 ⟨some 22, .mv (.t 21), none⟩,
 ⟨(some 23), (.mkfn 21 [] [(.t 1)]), (some (22, true))⟩,
 ⟨(some 24), (.call (.c (.func 5 [] [])) [(.t 23)]), (some (22, true))⟩,
 ⟨some 25, .pick (.t 22) (.t 24) (.c (.bool false)), none⟩,
 ⟨some 26, .mv (.t 25), none⟩,
 ⟨(some 27), (.mkfn 23 [] [(.t 1)]), (some (26, true))⟩,
 ⟨(some 28), (.call (.c (.func 5 [] [])) [(.t 27)]), (some (26, true))⟩,
 ⟨some 29, .pick (.t 26) (.t 28) (.c (.bool false)), none⟩,
 ⟨some 30, .mv (.t 29), none⟩,
 ⟨(some 31), (.mkfn 28 [] [(.t 1)]), (some (30, true))⟩,
 ⟨(some 32), (.call (.c (.func 5 [] [])) [(.t 31)]), (some (30, true))⟩,
 ⟨some 33, .pick (.t 30) (.t 32) (.c (.bool false)), none⟩,
 ⟨some 34, .mv (.t 33), none⟩,
 ⟨(some 35), (.mkfn 31 [] [(.t 1)]), (some (34, true))⟩,
 ⟨(some 36), (.call (.c (.func 5 [] [])) [(.t 35)]), (some (34, true))⟩,
 ⟨some 37, .pick (.t 34) (.t 36) (.c (.bool false)), none⟩,
 ⟨some 38, .mv (.t 37), none⟩,
 ⟨(some 39), (.mkfn 34 [] [(.t 1)]), (some (38, true))⟩,
 ⟨(some 40), (.call (.c (.func 5 [] [])) [(.t 39)]), (some (38, true))⟩,
 ⟨some 41, .pick (.t 38) (.t 40) (.c (.bool false)), none⟩,
 ⟨some 42, .mv (.t 41), none⟩,
 ⟨(some 43), (.mkfn 36 [] [(.t 1)]), (some (42, true))⟩,
 ⟨(some 44), (.call (.c (.func 5 [] [])) [(.t 43)]), (some (42, true))⟩,
 ⟨some 45, .pick (.t 42) (.t 44) (.c (.bool false)), none⟩,
 ⟨some 5, .mv (.t 45), none⟩])
 (.seq (.region [⟨some 46, .ld true 12 (.t 1), none⟩,
 ⟨some 47, .call (.c (.func 4 [] [])) [(.t 46), (.t 4)], none⟩])
 (.seq (.region [⟨some 48, .mv (.t 5), none⟩,
 ⟨some 49, .mv (.t 48), none⟩,
 ⟨(some 50), (.ld true 2 (.t 3)), (some (49, true))⟩,
 ⟨(some 51), (.ld true 2 (.t 4)), (some (49, true))⟩,
 ⟨(some 52), (.call (.c (.func 38 [] [])) [(.t 50), (.t 51)]), (some (49, true))⟩,
 ⟨some 53, .pick (.t 49) (.t 52) (.c (.bool false)), none⟩,
 ⟨some 54, .mv (.t 53), none⟩,
 ⟨(some 55), (.call (.c (.func 39 [] [])) []), (some (54, true))⟩,
 ⟨some 56, .pick (.t 54) (.t 55) (.c (.bool false)), none⟩,
 ⟨some 2, .mv (.t 56), none⟩])
 .ret)))))), [.tmp 2]⟩
theorem c3 : compFun Tryz.prog Tryz.f3 = some ir3 := by kernel_rfl
def ir4 : IFun := ⟨24, (.seq (.region [⟨some 2, .box (.t 0), none⟩])
 (.seq (.region [⟨some 4, .mv (.t 1), none⟩,
 ⟨some 5, .fa (.t 2) 0, none⟩,
 ⟨some 6, .ld true 7 (.t 5), none⟩,
 ⟨some 7, .call (.c (.func 40 [] [])) [(.t 4), (.t 6)], none⟩])
 (.seq (.region [⟨some 8, .mv (.t 1), none⟩,
 ⟨some 9, .fa (.t 2) 7, none⟩,
 ⟨some 10, .ld false 1 (.t 9), none⟩,
 ⟨some 11, .call (.c (.func 8 [] [])) [(.t 8), (.t 10)], none⟩])
 (.seq (.region [⟨some 12, .mv (.t 1), none⟩,
 ⟨some 13, .fa (.t 2) 8, none⟩,
 ⟨some 14, .ld false 1 (.t 13), none⟩,
 ⟨some 15, .call (.c (.func 8 [] [])) [(.t 12), (.t 14)], none⟩])
 (.seq (.region [⟨some 16, .mv (.t 1), none⟩,
 ⟨some 17, .fa (.t 2) 9, none⟩,
 ⟨some 18, .ld false 1 (.t 17), none⟩,
 ⟨some 19, .call (.c (.func 8 [] [])) [(.t 16), (.t 18)], none⟩])
 (.region [⟨some 20, .mv (.t 1), none⟩,
 ⟨some 21, .fa (.t 2) 10, none⟩,
 ⟨some 22, .ld true 2 (.t 21), none⟩,
 ⟨some 23, .call (.c (.func 25 [] [])) [(.t 20), (.t 22)], none⟩])))))), []⟩
theorem c4 : compFun Tryz.prog Tryz.f4 = some ir4 := by kernel_rfl
def ir5 : IFun := ⟨15, (.seq (.region [⟨some 2, .mv (.c (.bool false)), none⟩])
 (.seq (.region [⟨some 3, .alloc (.agg [.nilslice, .nilslice]), none⟩,
 ⟨some 4, .alloc (.agg [.nilslice, .nilslice]), none⟩])
 (.seq (.region [⟨some 6, .mv (.t 0), none⟩,
 ⟨some 7, .call (.t 6) [(.t 3)], none⟩,
 ⟨some 5, .mv (.t 7), none⟩])
 (.seq (.region [⟨some 8, .mv (.t 5), none⟩,
 ⟨some 9, .call (.t 8) [], none⟩])
 (.seq (.region [⟨some 10, .mv (.t 0), none⟩,
 ⟨some 11, .call (.t 10) [(.t 4)], none⟩])
 (.seq (.region [⟨some 12, .ld true 2 (.t 3), none⟩,
 ⟨some 13, .ld true 2 (.t 4), none⟩,
 ⟨some 14, .call (.c (.func 38 [] [])) [(.t 12), (.t 13)], none⟩,
 ⟨some 2, .mv (.t 14), none⟩])
 .ret)))))), [.tmp 2]⟩
theorem c5 : compFun Tryz.prog Tryz.f5 = some ir5 := by kernel_rfl
def ir6 : IFun := ⟨23, (.seq (.region [⟨some 3, .mv (.c .nilfunc), none⟩])
 (.seq (.region [⟨some 8, .fa (.t 1) 0, none⟩,
 ⟨some 9, .ld true 7 (.t 8), none⟩,
 ⟨some 10, .call (.c (.func 7 [] [])) [(.t 9)], none⟩,
 ⟨some 7, .mv (.t 10), none⟩,
 ⟨some 11, .ext (.t 7) 0, none⟩,
 ⟨some 12, .ext (.t 7) 1, none⟩,
 ⟨some 13, .ext (.t 7) 2, none⟩,
 ⟨some 4, .mv (.t 11), none⟩,
 ⟨some 5, .mv (.t 12), none⟩,
 ⟨some 6, .mv (.t 13), none⟩])
 (.seq (.region [⟨some 14, .mv (.t 0), none⟩,
 ⟨some 15, .mv (.t 4), none⟩,
 ⟨some 16, .call (.c (.func 8 [] [])) [(.t 14), (.t 15)], none⟩])
 (.seq (.region [⟨some 17, .mv (.t 0), none⟩,
 ⟨some 18, .mv (.t 5), none⟩,
 ⟨some 19, .call (.c (.func 8 [] [])) [(.t 17), (.t 18)], none⟩])
 (.seq (.region [⟨some 20, .mv (.t 0), none⟩,
 ⟨some 21, .mv (.t 6), none⟩,
 ⟨some 22, .call (.c (.func 9 [] [])) [(.t 20), (.t 21)], none⟩])
 (.seq (.region [⟨some 3, .mv (.c (.func 10 [] [])), none⟩])
 .ret)))))), [.tmp 3]⟩
theorem c6 : compFun Tryz.prog Tryz.f6 = some ir6 := by kernel_rfl
def ir7 : IFun := ⟨59, (.seq (.region [⟨some 1, .box (.t 0), none⟩,
 ⟨some 2, .mv (.c (.int .i64 0)), none⟩,
 ⟨some 3, .mv (.c (.int .i64 0)), none⟩,
 ⟨some 4, .mv (.c (.int .i64 0)), none⟩])
 (.seq (.seq (.region [⟨some 5, .fa (.t 1) 0, none⟩,
 ⟨some 6, .ld true 2 (.t 5), none⟩,
 ⟨some 7, .call (.c (.func 41 [] [])) [(.t 6), (.c (.int .i64 (-100))), (.c (.int .i64 100))], none⟩,
 ⟨some 4, .mv (.t 7), none⟩])
 (.seq (.region [⟨some 8, .mv (.t 4), none⟩,
 ⟨some 9, .bin .neq (.t 8) (.c (.int .i64 0)), none⟩])
 (.cond (.t 9)
 (.seq (.region [⟨some 10, .mv (.t 4), none⟩,
 ⟨some 2, .mv (.c (.int .i64 1)), none⟩,
 ⟨some 3, .mv (.c (.int .i64 0)), none⟩,
 ⟨some 4, .mv (.t 10), none⟩])
 .ret)
 .skip)))
 (.seq (.seq (.region [⟨some 11, .fa (.t 1) 2, none⟩,
 ⟨some 12, .ld false 1 (.t 11), none⟩,
 ⟨some 13, .bldS 1 1 [(.int .i64 0)] [(0, 1, (.t 12))], none⟩,
 ⟨some 14, .call (.c (.func 42 [] [])) [(.c (.int .i64 0)), (.c (.int .i64 3)), (.t 13)], none⟩])
 (.cond (.t 14)
 (.seq (.region [⟨some 2, .mv (.c (.int .i64 2)), none⟩,
 ⟨some 3, .mv (.c (.int .i64 0)), none⟩,
 ⟨some 4, .mv (.c (.int .i64 7)), none⟩])
 .ret)
 .skip))
 (.seq (.seq (.draw [⟨⟨some 16, .fa (.t 1) 3, none⟩, false, [], []⟩,
 ⟨⟨some 17, .ld false 1 (.t 16), none⟩, false, [⟨some 17, .ld false 1 (.t 16), none⟩], []⟩,
 ⟨⟨some 18, .call (.c (.func 44 [] [])) [(.c (.int .i64 0)), (.c (.int .i64 2000))], none⟩, true, [⟨some 17, .ld false 1 (.t 16), none⟩], []⟩,
 ⟨⟨some 19, .call (.c (.func 43 [] [])) [(.t 17), (.c (.int .i64 4)), (.t 18)], none⟩, true, [], []⟩,
 ⟨⟨some 15, .mv (.t 19), none⟩, false, [], []⟩,
 ⟨⟨some 20, .ext (.t 15) 0, none⟩, false, [], []⟩,
 ⟨⟨some 21, .ext (.t 15) 1, none⟩, false, [], []⟩,
 ⟨⟨some 3, .mv (.t 20), none⟩, false, [], []⟩,
 ⟨⟨some 4, .mv (.t 21), none⟩, false, [], []⟩])
 (.seq (.region [⟨some 22, .mv (.t 4), none⟩,
 ⟨some 23, .bin .neq (.t 22) (.c (.int .i64 0)), none⟩])
 (.cond (.t 23)
 (.seq (.region [⟨some 24, .mv (.t 3), none⟩,
 ⟨some 25, .mv (.t 4), none⟩,
 ⟨some 2, .mv (.c (.int .i64 3)), none⟩,
 ⟨some 3, .mv (.t 24), none⟩,
 ⟨some 4, .mv (.t 25), none⟩])
 .ret)
 .skip)))
 (.seq (.region [⟨some 27, .fa (.t 1) 4, none⟩,
 ⟨some 28, .ld false 1 (.t 27), none⟩,
 ⟨some 29, .mkfn 46 [] [(.t 1)], none⟩,
 ⟨some 30, .call (.c (.func 45 [] [])) [(.t 28), (.c (.int .i64 5)), (.t 29)], none⟩,
 ⟨some 26, .mv (.t 30), none⟩,
 ⟨some 31, .ext (.t 26) 0, none⟩,
 ⟨some 32, .ext (.t 26) 1, none⟩,
 ⟨some 3, .mv (.t 31), none⟩,
 ⟨some 4, .mv (.t 32), none⟩])
 (.seq (.seq (.region [⟨some 33, .mv (.t 4), none⟩,
 ⟨some 34, .bin .neq (.t 33) (.c (.int .i64 0)), none⟩])
 (.cond (.t 34)
 (.seq (.region [⟨some 35, .mv (.t 3), none⟩,
 ⟨some 36, .mv (.t 4), none⟩,
 ⟨some 2, .mv (.c (.int .i64 4)), none⟩,
 ⟨some 3, .mv (.t 35), none⟩,
 ⟨some 4, .mv (.t 36), none⟩])
 .ret)
 .skip))
 (.seq (.region [⟨some 38, .fa (.t 1) 5, none⟩,
 ⟨some 39, .ld false 1 (.t 38), none⟩,
 ⟨some 40, .mkfn 53 [] [(.t 1)], none⟩,
 ⟨some 41, .call (.c (.func 52 [] [])) [(.t 39), (.c (.int .i64 5)), (.t 40)], none⟩,
 ⟨some 37, .mv (.t 41), none⟩,
 ⟨some 42, .ext (.t 37) 0, none⟩,
 ⟨some 43, .ext (.t 37) 1, none⟩,
 ⟨some 3, .mv (.t 42), none⟩,
 ⟨some 4, .mv (.t 43), none⟩])
 (.seq (.seq (.region [⟨some 44, .mv (.t 4), none⟩,
 ⟨some 45, .bin .neq (.t 44) (.c (.int .i64 0)), none⟩])
 (.cond (.t 45)
 (.seq (.region [⟨some 46, .mv (.t 3), none⟩,
 ⟨some 47, .mv (.t 4), none⟩,
 ⟨some 2, .mv (.c (.int .i64 5)), none⟩,
 ⟨some 3, .mv (.t 46), none⟩,
 ⟨some 4, .mv (.t 47), none⟩])
 .ret)
 .skip))
 (.seq (.seq (.draw [⟨⟨some 49, .fa (.t 1) 6, none⟩, false, [], []⟩,
 ⟨⟨some 50, .ld false 1 (.t 49), none⟩, false, [⟨some 50, .ld false 1 (.t 49), none⟩], []⟩,
 ⟨⟨some 51, .call (.c (.func 44 [] [])) [(.c (.int .i64 0)), (.c (.int .i64 9))], none⟩, true, [⟨some 50, .ld false 1 (.t 49), none⟩], []⟩,
 ⟨⟨some 52, .call (.c (.func 43 [] [])) [(.t 50), (.c (.int .i64 3)), (.t 51)], none⟩, true, [], []⟩,
 ⟨⟨some 48, .mv (.t 52), none⟩, false, [], []⟩,
 ⟨⟨some 53, .ext (.t 48) 0, none⟩, false, [], []⟩,
 ⟨⟨some 54, .ext (.t 48) 1, none⟩, false, [], []⟩,
 ⟨⟨some 3, .mv (.t 53), none⟩, false, [], []⟩,
 ⟨⟨some 4, .mv (.t 54), none⟩, false, [], []⟩])
 (.seq (.region [⟨some 55, .mv (.t 4), none⟩,
 ⟨some 56, .bin .neq (.t 55) (.c (.int .i64 0)), none⟩])
 (.cond (.t 56)
 (.seq (.region [⟨some 57, .mv (.t 3), none⟩,
 ⟨some 58, .mv (.t 4), none⟩,
 ⟨some 2, .mv (.c (.int .i64 6)), none⟩,
 ⟨some 3, .mv (.t 57), none⟩,
 ⟨some 4, .mv (.t 58), none⟩])
 .ret)
 .skip)))
 (.seq (.region [⟨some 2, .mv (.c (.int .i64 0)), none⟩,
 ⟨some 3, .mv (.c (.int .i64 0)), none⟩,
 ⟨some 4, .mv (.c (.int .i64 0)), none⟩])
 .ret)))))))))), [.tmp 2, .tmp 3, .tmp 4]⟩
theorem c7 : compFun Tryz.prog Tryz.f7 = some ir7 := by kernel_rfl
def ir8 : IFun := ⟨14, (.region [⟨some 4, .mv (.t 0), none⟩,
 ⟨some 5, .mv (.t 0), none⟩,
 ⟨some 6, .nilck (.t 5), none⟩,
 ⟨some 7, .fa (.t 6) 0, none⟩,
 ⟨some 8, .ld false 1 (.t 7), none⟩,
 ⟨some 9, .mv (.t 1), none⟩,
 ⟨some 10, .bldS 1 1 [(.int .i64 0)] [(0, 1, (.t 9))], none⟩,
 ⟨some 11, .app 1 8 (.t 8) (.t 10), none⟩,
 ⟨some 12, .nilck (.t 4), none⟩,
 ⟨some 13, .fa (.t 12) 0, none⟩,
 ⟨none, .st 1 (.t 13) (.t 11), none⟩]), []⟩
theorem c8 : compFun Tryz.prog Tryz.f8 = some ir8 := by kernel_rfl
def ir9 : IFun := ⟨14, (.region [⟨some 4, .mv (.t 0), none⟩,
 ⟨some 5, .mv (.t 0), none⟩,
 ⟨some 6, .nilck (.t 5), none⟩,
 ⟨some 7, .fa (.t 6) 0, none⟩,
 ⟨some 8, .ld false 1 (.t 7), none⟩,
 ⟨some 9, .mv (.t 1), none⟩,
 ⟨some 10, .bldS 1 1 [(.int .i64 0)] [(0, 1, (.t 9))], none⟩,
 ⟨some 11, .app 1 8 (.t 8) (.t 10), none⟩,
 ⟨some 12, .nilck (.t 4), none⟩,
 ⟨some 13, .fa (.t 12) 0, none⟩,
 ⟨none, .st 1 (.t 13) (.t 11), none⟩]), []⟩
theorem c9 : compFun Tryz.prog Tryz.f9 = some ir9 := by kernel_rfl
def ir10 : IFun := ⟨0, .skip, []⟩
theorem c10 : compFun Tryz.prog Tryz.f10 = some ir10 := by kernel_rfl
def ir11 : IFun := ⟨22, (.seq (.region [⟨some 3, .mv (.c .nilfunc), none⟩])
 (.seq (.region [⟨some 7, .fa (.t 1) 0, none⟩,
 ⟨some 8, .ld true 7 (.t 7), none⟩,
 ⟨some 9, .fa (.t 1) 8, none⟩,
 ⟨some 10, .ld false 1 (.t 9), none⟩,
 ⟨some 11, .fa (.t 1) 9, none⟩,
 ⟨some 12, .ld false 1 (.t 11), none⟩,
 ⟨some 13, .call (.c (.func 12 [] [])) [(.t 8), (.t 10), (.t 12)], none⟩,
 ⟨some 6, .mv (.t 13), none⟩,
 ⟨some 14, .ext (.t 6) 0, none⟩,
 ⟨some 15, .ext (.t 6) 1, none⟩,
 ⟨some 4, .alloc (.agg [(.int .i64 0), (.int .i64 0)]), none⟩,
 ⟨none, .st 2 (.t 4) (.t 14), none⟩,
 ⟨some 5, .mv (.t 15), none⟩])
 (.seq (.region [⟨some 16, .mv (.t 0), none⟩,
 ⟨some 17, .ld true 2 (.t 4), none⟩,
 ⟨some 18, .call (.c (.func 13 [] [])) [(.t 16), (.t 17)], none⟩])
 (.seq (.region [⟨some 19, .mv (.t 0), none⟩,
 ⟨some 20, .mv (.t 5), none⟩,
 ⟨some 21, .call (.c (.func 9 [] [])) [(.t 19), (.t 20)], none⟩])
 (.seq (.region [⟨some 3, .mv (.c (.func 10 [] [])), none⟩])
 .ret))))), [.tmp 3]⟩
theorem c11 : compFun Tryz.prog Tryz.f11 = some ir11 := by kernel_rfl
def ir12 : IFun := ⟨29, (.seq (.region [⟨some 3, .box (.t 0), none⟩,
 ⟨some 6, .alloc (.agg [(.int .i64 0), (.int .i64 0)]), none⟩,
 ⟨some 7, .mv (.c (.int .i64 0)), none⟩])
 (.seq (.region [⟨some 11, .ld true 7 (.t 3), none⟩,
 ⟨some 12, .call (.c (.func 56 [] [])) [(.t 11)], none⟩,
 ⟨some 10, .mv (.t 12), none⟩,
 ⟨some 13, .ext (.t 10) 0, none⟩,
 ⟨some 14, .ext (.t 10) 1, none⟩,
 ⟨some 8, .mv (.t 13), none⟩,
 ⟨some 9, .mv (.t 14), none⟩])
 (.seq (.seq (.region [⟨some 15, .mv (.t 9), none⟩,
 ⟨some 16, .bin .eql (.t 15) (.c (.int .i64 0)), none⟩])
 (.cond (.t 16)
 (.region [⟨some 17, .mv (.t 8), none⟩,
 ⟨some 18, .mv (.t 1), none⟩,
 ⟨some 19, .mv (.t 2), none⟩,
 ⟨some 20, .call (.c (.func 57 [] [])) [(.t 17), (.t 18), (.t 19)], none⟩,
 ⟨some 9, .mv (.t 20), none⟩])
 .skip))
 (.seq (.seq (.region [⟨some 21, .mv (.t 9), none⟩,
 ⟨some 22, .bin .neq (.t 21) (.c (.int .i64 0)), none⟩])
 (.cond (.t 22)
 (.seq (.region [⟨some 23, .bld [(.int .i64 0), (.int .i64 0)] [], none⟩,
 ⟨some 24, .mv (.t 9), none⟩,
 ⟨none, .st 2 (.t 6) (.t 23), none⟩,
 ⟨some 7, .mv (.t 24), none⟩])
 .ret)
 .skip))
 (.seq (.region [⟨some 25, .mv (.t 8), none⟩,
 ⟨some 26, .mv (.t 1), none⟩,
 ⟨some 27, .mv (.t 2), none⟩,
 ⟨some 28, .call (.c (.func 58 [] [])) [(.t 25), (.t 26), (.t 27)], none⟩,
 ⟨none, .st 2 (.t 6) (.t 28), none⟩,
 ⟨some 7, .mv (.c (.int .i64 0)), none⟩])
 .ret))))), [.cell 6 true 2, .tmp 7]⟩
theorem c12 : compFun Tryz.prog Tryz.f12 = some ir12 := by kernel_rfl
def ir13 : IFun := ⟨12, (.seq (.region [⟨some 3, .box (.t 1), none⟩])
 (.seq (.region [⟨some 4, .mv (.t 0), none⟩,
 ⟨some 5, .fa (.t 3) 0, none⟩,
 ⟨some 6, .ld false 1 (.t 5), none⟩,
 ⟨some 7, .call (.c (.func 8 [] [])) [(.t 4), (.t 6)], none⟩])
 (.region [⟨some 8, .mv (.t 0), none⟩,
 ⟨some 9, .fa (.t 3) 1, none⟩,
 ⟨some 10, .ld false 1 (.t 9), none⟩,
 ⟨some 11, .call (.c (.func 8 [] [])) [(.t 8), (.t 10)], none⟩]))), []⟩
theorem c13 : compFun Tryz.prog Tryz.f13 = some ir13 := by kernel_rfl
def ir14 : IFun := ⟨24, (.seq (.region [⟨some 3, .mv (.c .nilfunc), none⟩])
 (.seq (.region [⟨some 7, .fa (.t 1) 0, none⟩,
 ⟨some 8, .ld true 7 (.t 7), none⟩,
 ⟨some 9, .fa (.t 1) 7, none⟩,
 ⟨some 10, .ld false 1 (.t 9), none⟩,
 ⟨some 11, .fa (.t 1) 8, none⟩,
 ⟨some 12, .ld false 1 (.t 11), none⟩,
 ⟨some 13, .fa (.t 1) 9, none⟩,
 ⟨some 14, .ld false 1 (.t 13), none⟩,
 ⟨some 15, .call (.c (.func 15 [] [])) [(.t 8), (.t 10), (.t 12), (.t 14)], none⟩,
 ⟨some 6, .mv (.t 15), none⟩,
 ⟨some 16, .ext (.t 6) 0, none⟩,
 ⟨some 17, .ext (.t 6) 1, none⟩,
 ⟨some 4, .mv (.t 16), none⟩,
 ⟨some 5, .mv (.t 17), none⟩])
 (.seq (.region [⟨some 18, .mv (.t 0), none⟩,
 ⟨some 19, .mv (.t 4), none⟩,
 ⟨some 20, .call (.c (.func 8 [] [])) [(.t 18), (.t 19)], none⟩])
 (.seq (.region [⟨some 21, .mv (.t 0), none⟩,
 ⟨some 22, .mv (.t 5), none⟩,
 ⟨some 23, .call (.c (.func 9 [] [])) [(.t 21), (.t 22)], none⟩])
 (.seq (.region [⟨some 3, .mv (.c (.func 10 [] [])), none⟩])
 .ret))))), [.tmp 3]⟩
theorem c14 : compFun Tryz.prog Tryz.f14 = some ir14 := by kernel_rfl
def ir15 : IFun := ⟨41, (.seq (.region [⟨some 4, .box (.t 0), none⟩,
 ⟨some 8, .mv (.c (.int .i64 0)), none⟩,
 ⟨some 9, .mv (.c (.int .i64 0)), none⟩])
 (.seq (.region [⟨some 13, .ld true 7 (.t 4), none⟩,
 ⟨some 14, .call (.c (.func 56 [] [])) [(.t 13)], none⟩,
 ⟨some 12, .mv (.t 14), none⟩,
 ⟨some 15, .ext (.t 12) 0, none⟩,
 ⟨some 16, .ext (.t 12) 1, none⟩,
 ⟨some 10, .mv (.t 15), none⟩,
 ⟨some 11, .mv (.t 16), none⟩])
 (.seq (.block 0
 (.seq (.region [⟨some 18, .mv (.t 11), none⟩,
 ⟨some 19, .bin .neq (.t 18) (.c (.int .i64 0)), none⟩,
 ⟨some 17, .mv (.t 19), none⟩])
 (.cond (.t 17)
 (.seq (.region [⟨some 20, .mv (.t 11), none⟩,
 ⟨some 8, .mv (.c (.int .i64 0)), none⟩,
 ⟨some 9, .mv (.t 20), none⟩])
 .ret)
 (.seq (.region [⟨some 22, .fa (.t 4) 5, none⟩,
 ⟨some 23, .ld false 1 (.t 22), none⟩,
 ⟨some 24, .len false (.t 23), none⟩,
 ⟨some 25, .bin .sub (.t 24) (.c (.int .i64 1)), none⟩,
 ⟨some 26, .mv (.t 1), none⟩,
 ⟨some 27, .bldS 1 1 [(.int .i64 0)] [(0, 1, (.t 26))], none⟩,
 ⟨some 28, .call (.c (.func 42 [] [])) [(.c (.int .i64 0)), (.t 25), (.t 27)], none⟩,
 ⟨some 21, .mv (.t 28), none⟩])
 (.cond (.t 21)
 (.seq (.region [⟨some 8, .mv (.c (.int .i64 0)), none⟩,
 ⟨some 9, .mv (.c (.int .i64 4)), none⟩])
 .ret)
 .skip)))))
 (.seq (.seq (.region [⟨some 29, .mv (.t 10), none⟩,
 ⟨some 30, .mv (.t 2), none⟩,
 ⟨some 31, .mv (.t 3), none⟩,
 ⟨some 32, .call (.c (.func 57 [] [])) [(.t 29), (.t 30), (.t 31)], none⟩,
 ⟨some 11, .mv (.t 32), none⟩])
 (.seq (.region [⟨some 33, .mv (.t 11), none⟩,
 ⟨some 34, .bin .neq (.t 33) (.c (.int .i64 0)), none⟩])
 (.cond (.t 34)
 (.seq (.region [⟨some 35, .mv (.t 11), none⟩,
 ⟨some 8, .mv (.c (.int .i64 0)), none⟩,
 ⟨some 9, .mv (.t 35), none⟩])
 .ret)
 .skip)))
 (.seq (.region [⟨some 36, .mv (.t 10), none⟩,
 ⟨some 37, .mv (.t 1), none⟩,
 ⟨some 38, .mv (.t 2), none⟩,
 ⟨some 39, .mv (.t 3), none⟩,
 ⟨some 40, .call (.c (.func 59 [] [])) [(.t 36), (.t 37), (.t 38), (.t 39)], none⟩,
 ⟨some 8, .mv (.t 40), none⟩,
 ⟨some 9, .mv (.c (.int .i64 0)), none⟩])
 .ret))))), [.tmp 8, .tmp 9]⟩
theorem c15 : compFun Tryz.prog Tryz.f15 = some ir15 := by kernel_rfl
def ir16 : IFun := ⟨21, (.seq (.region [⟨some 3, .mv (.c .nilfunc), none⟩])
 (.seq (.region [⟨some 7, .fa (.t 1) 0, none⟩,
 ⟨some 8, .ld true 7 (.t 7), none⟩,
 ⟨some 9, .fa (.t 1) 10, none⟩,
 ⟨some 10, .ld true 2 (.t 9), none⟩,
 ⟨some 11, .call (.c (.func 17 [] [])) [(.t 8), (.t 10)], none⟩,
 ⟨some 6, .mv (.t 11), none⟩,
 ⟨some 12, .ext (.t 6) 0, none⟩,
 ⟨some 13, .ext (.t 6) 1, none⟩,
 ⟨some 4, .alloc .nilslice, none⟩,
 ⟨none, .st 1 (.t 4) (.t 12), none⟩,
 ⟨some 5, .mv (.t 13), none⟩])
 (.seq (.region [⟨some 14, .mv (.t 0), none⟩,
 ⟨some 15, .ld false 1 (.t 4), none⟩,
 ⟨some 16, .call (.c (.func 18 [] [])) [(.t 14), (.t 15)], none⟩])
 (.seq (.region [⟨some 17, .mv (.t 0), none⟩,
 ⟨some 18, .mv (.t 5), none⟩,
 ⟨some 19, .call (.c (.func 9 [] [])) [(.t 17), (.t 18)], none⟩])
 (.seq (.region [⟨some 20, .mkfn 19 [] [(.t 4)], none⟩,
 ⟨some 3, .mv (.t 20), none⟩])
 .ret))))), [.tmp 3]⟩
theorem c16 : compFun Tryz.prog Tryz.f16 = some ir16 := by kernel_rfl
def ir17 : IFun := ⟨29, (.seq (.region [⟨some 2, .box (.t 0), none⟩,
 ⟨some 3, .box (.t 1), none⟩,
 ⟨some 4, .mv (.c .nilslice), none⟩,
 ⟨some 5, .mv (.c (.int .i64 0)), none⟩])
 (.seq (.region [⟨some 11, .ld true 7 (.t 2), none⟩,
 ⟨some 12, .ld true 2 (.t 3), none⟩,
 ⟨some 13, .call (.c (.func 60 [] [])) [(.t 11), (.t 12)], none⟩,
 ⟨some 10, .mv (.t 13), none⟩,
 ⟨some 14, .ext (.t 10) 0, none⟩,
 ⟨some 15, .ext (.t 10) 1, none⟩,
 ⟨some 16, .ext (.t 10) 2, none⟩,
 ⟨some 7, .alloc (.agg [(.int .i64 0), (.int .i64 0), (.int .i64 0), (.int .i64 0), (.int .i64 0), (.int .i64 0)]), none⟩,
 ⟨some 6, .mv (.t 14), none⟩,
 ⟨none, .st 6 (.t 7) (.t 15), none⟩,
 ⟨some 8, .mv (.t 16), none⟩])
 (.seq (.seq (.region [⟨some 17, .mv (.t 8), none⟩,
 ⟨some 18, .bin .neq (.t 17) (.c (.int .i64 0)), none⟩])
 (.cond (.t 18)
 (.seq (.region [⟨some 19, .mv (.t 8), none⟩,
 ⟨some 4, .mv (.c .nilslice), none⟩,
 ⟨some 5, .mv (.t 19), none⟩])
 .ret)
 .skip))
 (.seq (.region [⟨some 20, .mv (.t 6), none⟩,
 ⟨some 21, .fa (.t 7) 1, none⟩,
 ⟨some 22, .ld true 5 (.t 21), none⟩,
 ⟨some 23, .call (.c (.func 61 [] [])) [(.t 20), (.t 22)], none⟩,
 ⟨some 9, .alloc (.agg [(.int .i64 0), (.int .i64 0), (.int .i64 0), (.int .i64 0)]), none⟩,
 ⟨none, .st 4 (.t 9) (.t 23), none⟩])
 (.seq (.region [⟨some 24, .fa (.t 2) 3, none⟩,
 ⟨some 25, .ld false 1 (.t 24), none⟩,
 ⟨some 26, .len false (.t 25), none⟩,
 ⟨some 27, .slca 4 1 (.t 9) none (some (.t 26)) none, none⟩,
 ⟨some 28, .call (.c (.func 62 [] [])) [(.t 27)], none⟩,
 ⟨some 4, .mv (.t 28), none⟩,
 ⟨some 5, .mv (.c (.int .i64 0)), none⟩])
 .ret))))), [.tmp 4, .tmp 5]⟩
theorem c17 : compFun Tryz.prog Tryz.f17 = some ir17 := by kernel_rfl
def ir18 : IFun := ⟨7, (.region [⟨some 4, .mv (.t 0), none⟩,
 ⟨some 5, .mv (.t 1), none⟩,
 ⟨some 6, .call (.c (.func 63 [] [])) [(.t 4), (.t 5), (.c (.func 8 [] []))], none⟩]), []⟩
theorem c18 : compFun Tryz.prog Tryz.f18 = some ir18 := by kernel_rfl
def ir19 : IFun := ⟨2, (.region [⟨some 1, .call (.c (.func 20 [] [])) [(.t 0)], none⟩]), []⟩
theorem c19 : compFun Tryz.prog Tryz.f19 = some ir19 := by kernel_rfl
def ir20 : IFun := ⟨6, (.region [⟨some 2, .mv (.t 0), none⟩,
 ⟨some 3, .nilck (.t 2), none⟩,
 ⟨some 4, .ld false 1 (.t 3), none⟩,
 ⟨some 5, .call (.c (.func 64 [] [])) [(.t 4), (.c (.func 65 [] []))], none⟩]), []⟩
theorem c20 : compFun Tryz.prog Tryz.f20 = some ir20 := by kernel_rfl
def ir21 : IFun := ⟨20, (.seq (.region [⟨some 3, .mv (.c .nilfunc), none⟩])
 (.seq (.region [⟨some 7, .fa (.t 1) 0, none⟩,
 ⟨some 8, .ld true 7 (.t 7), none⟩,
 ⟨some 9, .fa (.t 1) 10, none⟩,
 ⟨some 10, .ld true 2 (.t 9), none⟩,
 ⟨some 11, .call (.c (.func 22 [] [])) [(.t 8), (.t 10)], none⟩,
 ⟨some 6, .mv (.t 11), none⟩,
 ⟨some 12, .ext (.t 6) 0, none⟩,
 ⟨some 13, .ext (.t 6) 1, none⟩,
 ⟨some 4, .mv (.t 12), none⟩,
 ⟨some 5, .mv (.t 13), none⟩])
 (.seq (.region [⟨some 14, .mv (.t 0), none⟩,
 ⟨some 15, .mv (.t 4), none⟩,
 ⟨some 16, .call (.c (.func 8 [] [])) [(.t 14), (.t 15)], none⟩])
 (.seq (.region [⟨some 17, .mv (.t 0), none⟩,
 ⟨some 18, .mv (.t 5), none⟩,
 ⟨some 19, .call (.c (.func 9 [] [])) [(.t 17), (.t 18)], none⟩])
 (.seq (.region [⟨some 3, .mv (.c (.func 10 [] [])), none⟩])
 .ret))))), [.tmp 3]⟩
theorem c21 : compFun Tryz.prog Tryz.f21 = some ir21 := by kernel_rfl
def ir22 : IFun := ⟨23, (.seq (.region [⟨some 2, .box (.t 0), none⟩,
 ⟨some 3, .box (.t 1), none⟩,
 ⟨some 4, .mv (.c (.int .i64 0)), none⟩,
 ⟨some 5, .mv (.c (.int .i64 0)), none⟩])
 (.seq (.region [⟨some 10, .ld true 7 (.t 2), none⟩,
 ⟨some 11, .ld true 2 (.t 3), none⟩,
 ⟨some 12, .call (.c (.func 66 [] [])) [(.t 10), (.t 11)], none⟩,
 ⟨some 9, .mv (.t 12), none⟩,
 ⟨some 13, .ext (.t 9) 0, none⟩,
 ⟨some 14, .ext (.t 9) 1, none⟩,
 ⟨some 15, .ext (.t 9) 2, none⟩,
 ⟨some 7, .alloc (.agg [(.int .i64 0), (.int .i64 0), (.int .i64 0), (.int .i64 0), (.int .i64 0), (.int .i64 0)]), none⟩,
 ⟨some 6, .mv (.t 13), none⟩,
 ⟨none, .st 6 (.t 7) (.t 14), none⟩,
 ⟨some 8, .mv (.t 15), none⟩])
 (.seq (.seq (.region [⟨some 16, .mv (.t 8), none⟩,
 ⟨some 17, .bin .neq (.t 16) (.c (.int .i64 0)), none⟩])
 (.cond (.t 17)
 (.seq (.region [⟨some 18, .mv (.t 8), none⟩,
 ⟨some 4, .mv (.c (.int .i64 0)), none⟩,
 ⟨some 5, .mv (.t 18), none⟩])
 .ret)
 .skip))
 (.seq (.region [⟨some 19, .mv (.t 6), none⟩,
 ⟨some 20, .fa (.t 7) 1, none⟩,
 ⟨some 21, .ld true 5 (.t 20), none⟩,
 ⟨some 22, .call (.c (.func 67 [] [])) [(.t 19), (.t 21)], none⟩,
 ⟨some 4, .mv (.t 22), none⟩,
 ⟨some 5, .mv (.c (.int .i64 0)), none⟩])
 .ret)))), [.tmp 4, .tmp 5]⟩
theorem c22 : compFun Tryz.prog Tryz.f22 = some ir22 := by kernel_rfl
def ir23 : IFun := ⟨24, (.seq (.region [⟨some 3, .mv (.c .nilfunc), none⟩])
 (.seq (.region [⟨some 8, .fa (.t 1) 0, none⟩,
 ⟨some 9, .ld true 7 (.t 8), none⟩,
 ⟨some 10, .call (.c (.func 24 [] [])) [(.t 9)], none⟩,
 ⟨some 7, .mv (.t 10), none⟩,
 ⟨some 11, .ext (.t 7) 0, none⟩,
 ⟨some 12, .ext (.t 7) 1, none⟩,
 ⟨some 13, .ext (.t 7) 2, none⟩,
 ⟨some 4, .alloc (.agg [(.int .i64 0), .nilslice]), none⟩,
 ⟨none, .st 2 (.t 4) (.t 11), none⟩,
 ⟨some 5, .mv (.t 12), none⟩,
 ⟨some 6, .mv (.t 13), none⟩])
 (.seq (.region [⟨some 14, .mv (.t 0), none⟩,
 ⟨some 15, .ld true 2 (.t 4), none⟩,
 ⟨some 16, .call (.c (.func 25 [] [])) [(.t 14), (.t 15)], none⟩])
 (.seq (.region [⟨some 17, .mv (.t 0), none⟩,
 ⟨some 18, .mv (.t 5), none⟩,
 ⟨some 19, .call (.c (.func 8 [] [])) [(.t 17), (.t 18)], none⟩])
 (.seq (.region [⟨some 20, .mv (.t 0), none⟩,
 ⟨some 21, .mv (.t 6), none⟩,
 ⟨some 22, .call (.c (.func 9 [] [])) [(.t 20), (.t 21)], none⟩])
 (.seq (.region [⟨some 23, .mkfn 26 [] [(.t 4)], none⟩,
 ⟨some 3, .mv (.t 23), none⟩])
 .ret)))))), [.tmp 3]⟩
theorem c23 : compFun Tryz.prog Tryz.f23 = some ir23 := by kernel_rfl
def ir24 : IFun := ⟨60, (.seq (.region [⟨some 1, .box (.t 0), none⟩,
 ⟨some 2, .alloc (.agg [(.int .i64 0), .nilslice]), none⟩,
 ⟨some 3, .alloc (.int .i64 0), none⟩,
 ⟨some 4, .mv (.c (.int .i64 0)), none⟩])
 (.seq (.region [⟨some 12, .ld true 7 (.t 1), none⟩,
 ⟨some 13, .call (.c (.func 56 [] [])) [(.t 12)], none⟩,
 ⟨some 11, .mv (.t 13), none⟩,
 ⟨some 14, .ext (.t 11) 0, none⟩,
 ⟨some 15, .ext (.t 11) 1, none⟩,
 ⟨some 5, .alloc .nilptr, none⟩,
 ⟨none, .st 1 (.t 5) (.t 14), none⟩,
 ⟨some 4, .mv (.t 15), none⟩])
 (.seq (.seq (.region [⟨some 16, .mv (.t 4), none⟩,
 ⟨some 17, .bin .neq (.t 16) (.c (.int .i64 0)), none⟩])
 (.cond (.t 17)
 (.seq (.region [⟨some 18, .ld true 2 (.t 2), none⟩,
 ⟨some 19, .mv (.t 4), none⟩,
 ⟨none, .st 2 (.t 2) (.t 18), none⟩,
 ⟨none, .st 1 (.t 3) (.c (.int .i64 0)), none⟩,
 ⟨some 4, .mv (.t 19), none⟩])
 .ret)
 .skip))
 (.seq (.region [⟨none, .st 1 (.t 3) (.c (.int .i64 (-1))), none⟩])
 (.seq (.region [⟨some 6, .alloc (.agg [(.int .i64 0), (.int .i64 0), (.int .i64 0), (.int .i64 0), (.int .i64 0), (.int .i64 0)]), none⟩])
 (.seq (.seq (.region [⟨some 20, .ld false 1 (.t 5), none⟩,
 ⟨some 21, .call (.c (.func 68 [] [])) [(.t 20)], none⟩])
 (.block 0
 (.rangef (.t 21) [22]
 (.region [⟨some 7, .alloc (.agg [(.int .i64 0), (.int .i64 0), (.int .i64 0), (.int .i64 0), (.int .i64 0), (.int .i64 0)]), none⟩,
 ⟨none, .st 6 (.t 7) (.t 22), none⟩])
 (.block 1
 (.seq (.region [⟨some 23, .ld false 1 (.t 5), none⟩,
 ⟨some 24, .fa (.t 7) 1, none⟩,
 ⟨some 25, .ld true 5 (.t 24), none⟩,
 ⟨some 26, .call (.c (.func 67 [] [])) [(.t 23), (.t 25)], none⟩,
 ⟨some 8, .mv (.t 26), none⟩])
 (.seq (.region [⟨some 27, .mv (.t 8), none⟩,
 ⟨some 28, .ld false 1 (.t 3), none⟩,
 ⟨some 29, .bin .gtr (.t 27) (.t 28), none⟩])
 (.cond (.t 29)
 (.region [⟨some 30, .ld true 6 (.t 7), none⟩,
 ⟨some 31, .mv (.t 8), none⟩,
 ⟨none, .st 6 (.t 6) (.t 30), none⟩,
 ⟨none, .st 1 (.t 3) (.t 31), none⟩])
 .skip)))))))
 (.seq (.seq (.region [⟨some 32, .ld false 1 (.t 3), none⟩,
 ⟨some 33, .bin .lss (.t 32) (.c (.int .i64 0)), none⟩])
 (.cond (.t 33)
 (.seq (.region [⟨some 34, .ld true 2 (.t 2), none⟩,
 ⟨none, .st 2 (.t 2) (.t 34), none⟩,
 ⟨none, .st 1 (.t 3) (.c (.int .i64 0)), none⟩,
 ⟨some 4, .mv (.c (.int .i64 9)), none⟩])
 .ret)
 .skip))
 (.seq (.region [⟨some 35, .fa (.t 1) 5, none⟩,
 ⟨some 36, .ld false 1 (.t 35), none⟩,
 ⟨some 37, .len false (.t 36), none⟩,
 ⟨some 38, .mksl 1 8 [(.int .i64 0)] (.t 37) (.t 37), none⟩,
 ⟨some 9, .mv (.t 38), none⟩])
 (.seq (.region [⟨some 39, .mv (.t 9), none⟩,
 ⟨some 40, .fa (.t 6) 1, none⟩,
 ⟨some 41, .slca 5 1 (.t 40) none none none, none⟩,
 ⟨some 42, .cpy 1 (.t 39) (.t 41), none⟩])
 (.seq (.seq (.region [⟨some 43, .mv (.t 9), none⟩,
 ⟨some 44, .len false (.t 43), none⟩,
 ⟨some 45, .mv (.c (.int .i64 0)), none⟩])
 (.block 2
 (.loop
 (.seq (.region [⟨some 46, .bin .lss (.t 45) (.t 44), none⟩])
 (.seq (.cond (.t 46)
 .skip
 (.exit 2))
 (.seq (.block 3
 (.seq (.region [⟨some 47, .mv (.t 45), none⟩,
 ⟨some 10, .mv (.t 47), none⟩])
 (.region [⟨some 48, .mv (.t 9), none⟩,
 ⟨some 49, .mv (.t 10), none⟩,
 ⟨some 50, .ia 1 (.t 48) (.t 49), none⟩,
 ⟨some 51, .ld false 1 (.t 50), none⟩,
 ⟨some 52, .bin .sub (.t 51) (.c (.int .i64 1)), none⟩,
 ⟨some 53, .ia 1 (.t 48) (.t 49), none⟩,
 ⟨none, .st 1 (.t 53) (.t 52), none⟩])))
 (.region [⟨some 54, .bin .add (.t 45) (.c (.int .i64 1)), none⟩,
 ⟨some 45, .mv (.t 54), none⟩])))))))
 (.seq (.draw [⟨⟨some 55, .fa (.t 6) 0, none⟩, false, [], []⟩,
 ⟨⟨some 56, .ld false 1 (.t 55), none⟩, false, [⟨some 56, .ld false 1 (.t 55), none⟩], []⟩,
 ⟨⟨some 57, .mv (.t 9), none⟩, false, [], []⟩,
 ⟨⟨some 58, .bld [(.int .i64 0), .nilslice] [(0, 1, (.t 56)), (1, 1, (.t 57))], none⟩, false, [], []⟩,
 ⟨⟨some 59, .ld false 1 (.t 3), none⟩, false, [⟨some 59, .ld false 1 (.t 3), none⟩], []⟩,
 ⟨⟨none, .st 2 (.t 2) (.t 58), none⟩, true, [⟨some 59, .ld false 1 (.t 3), none⟩], []⟩,
 ⟨⟨none, .st 1 (.t 3) (.t 59), none⟩, true, [], []⟩,
 ⟨⟨some 4, .mv (.c (.int .i64 0)), none⟩, false, [], []⟩])
 .ret))))))))))), [.cell 2 true 2, .cell 3 false 1, .tmp 4]⟩
theorem c24 : compFun Tryz.prog Tryz.f24 = some ir24 := by kernel_rfl
def ir25 : IFun := ⟨12, (.seq (.region [⟨some 3, .box (.t 1), none⟩])
 (.seq (.region [⟨some 4, .mv (.t 0), none⟩,
 ⟨some 5, .fa (.t 3) 0, none⟩,
 ⟨some 6, .ld false 1 (.t 5), none⟩,
 ⟨some 7, .call (.c (.func 8 [] [])) [(.t 4), (.t 6)], none⟩])
 (.region [⟨some 8, .mv (.t 0), none⟩,
 ⟨some 9, .fa (.t 3) 1, none⟩,
 ⟨some 10, .ld false 1 (.t 9), none⟩,
 ⟨some 11, .call (.c (.func 18 [] [])) [(.t 8), (.t 10)], none⟩]))), []⟩
theorem c25 : compFun Tryz.prog Tryz.f25 = some ir25 := by kernel_rfl
def ir26 : IFun := ⟨2, (.region [⟨some 1, .call (.c (.func 27 [] [])) [(.t 0)], none⟩]), []⟩
theorem c26 : compFun Tryz.prog Tryz.f26 = some ir26 := by kernel_rfl
def ir27 : IFun := ⟨10, (.seq (.region [⟨some 2, .mv (.t 0), none⟩,
 ⟨some 3, .nilck (.t 2), none⟩,
 ⟨some 4, .fa (.t 3) 0, none⟩,
 ⟨some 5, .call (.c (.func 65 [] [])) [(.t 4)], none⟩])
 (.region [⟨some 6, .mv (.t 0), none⟩,
 ⟨some 7, .nilck (.t 6), none⟩,
 ⟨some 8, .fa (.t 7) 1, none⟩,
 ⟨some 9, .call (.c (.func 20 [] [])) [(.t 8)], none⟩])), []⟩
theorem c27 : compFun Tryz.prog Tryz.f27 = some ir27 := by kernel_rfl
def ir28 : IFun := ⟨19, (.seq (.region [⟨some 3, .mv (.c .nilfunc), none⟩])
 (.seq (.region [⟨some 7, .fa (.t 1) 0, none⟩,
 ⟨some 8, .ld true 7 (.t 7), none⟩,
 ⟨some 9, .call (.c (.func 29 [] [])) [(.t 8)], none⟩,
 ⟨some 6, .mv (.t 9), none⟩,
 ⟨some 10, .ext (.t 6) 0, none⟩,
 ⟨some 11, .ext (.t 6) 1, none⟩,
 ⟨some 4, .alloc .nilslice, none⟩,
 ⟨none, .st 1 (.t 4) (.t 10), none⟩,
 ⟨some 5, .mv (.t 11), none⟩])
 (.seq (.region [⟨some 12, .mv (.t 0), none⟩,
 ⟨some 13, .ld false 1 (.t 4), none⟩,
 ⟨some 14, .call (.c (.func 18 [] [])) [(.t 12), (.t 13)], none⟩])
 (.seq (.region [⟨some 15, .mv (.t 0), none⟩,
 ⟨some 16, .mv (.t 5), none⟩,
 ⟨some 17, .call (.c (.func 9 [] [])) [(.t 15), (.t 16)], none⟩])
 (.seq (.region [⟨some 18, .mkfn 30 [] [(.t 4)], none⟩,
 ⟨some 3, .mv (.t 18), none⟩])
 .ret))))), [.tmp 3]⟩
theorem c28 : compFun Tryz.prog Tryz.f28 = some ir28 := by kernel_rfl
def ir29 : IFun := ⟨83, (.seq (.region [⟨some 1, .box (.t 0), none⟩,
 ⟨some 2, .mv (.c .nilslice), none⟩,
 ⟨some 3, .mv (.c (.int .i64 0)), none⟩])
 (.seq (.region [⟨some 11, .ld true 7 (.t 1), none⟩,
 ⟨some 12, .call (.c (.func 56 [] [])) [(.t 11)], none⟩,
 ⟨some 10, .mv (.t 12), none⟩,
 ⟨some 13, .ext (.t 10) 0, none⟩,
 ⟨some 14, .ext (.t 10) 1, none⟩,
 ⟨some 4, .mv (.t 13), none⟩,
 ⟨some 3, .mv (.t 14), none⟩])
 (.seq (.seq (.region [⟨some 15, .mv (.t 3), none⟩,
 ⟨some 16, .bin .neq (.t 15) (.c (.int .i64 0)), none⟩])
 (.cond (.t 16)
 (.seq (.region [⟨some 17, .mv (.t 3), none⟩,
 ⟨some 2, .mv (.c .nilslice), none⟩,
 ⟨some 3, .mv (.t 17), none⟩])
 .ret)
 .skip))
 (.seq (.region [⟨some 5, .mv (.c (.bool false)), none⟩])
 (.seq (.seq (.region [⟨some 18, .fa (.t 1) 6, none⟩,
 ⟨some 19, .ld false 1 (.t 18), none⟩,
 ⟨some 20, .len false (.t 19), none⟩,
 ⟨some 21, .bin .shl (.c (.int .i64 1)) (.t 20), none⟩,
 ⟨some 22, .mv (.c (.int .i64 0)), none⟩])
 (.block 0
 (.loop
 (.seq (.region [⟨some 23, .bin .lss (.t 22) (.t 21), none⟩])
 (.seq (.cond (.t 23)
 .skip
 (.exit 0))
 (.seq (.block 1
 (.seq (.region [⟨some 24, .mv (.t 22), none⟩,
 ⟨some 6, .mv (.t 24), none⟩])
 (.seq (.region [⟨some 25, .mv (.t 6), none⟩,
 ⟨some 26, .call (.c (.func 69 [] [])) [(.t 25)], none⟩,
 ⟨some 7, .mv (.t 26), none⟩])
 (.seq (.seq (.region [⟨some 27, .mv (.t 5), none⟩,
 ⟨some 28, .mv (.t 27), none⟩,
 ⟨(some 29), (.mv (.t 7)), (some (28, true))⟩,
 ⟨(some 30), (.len false (.t 29)), (some (28, true))⟩,
 ⟨(some 31), (.mv (.t 2)), (some (28, true))⟩,
 ⟨(some 32), (.len false (.t 31)), (some (28, true))⟩,
 ⟨(some 33), (.bin .gtr (.t 30) (.t 32)), (some (28, true))⟩,
 ⟨(some 34), (.mv (.t 33)), (some (28, true))⟩,
 ⟨(some 35), (.mv (.t 7)), (some (34, false))⟩,
 ⟨(some 36), (.len false (.t 35)), (some (34, false))⟩,
 ⟨(some 37), (.mv (.t 2)), (some (34, false))⟩,
 ⟨(some 38), (.len false (.t 37)), (some (34, false))⟩,
 ⟨(some 39), (.bin .eql (.t 36) (.t 38)), (some (34, false))⟩,
 ⟨(some 40), (.mv (.t 39)), (some (34, false))⟩,
 ⟨(some 41), (.mv (.t 7)), (some (40, true))⟩,
 ⟨(some 42), (.mv (.t 2)), (some (40, true))⟩,
 ⟨(some 43), (.call (.c (.func 70 [] [])) [(.t 41), (.t 42)]), (some (40, true))⟩,
 ⟨(some 44), (.bin .gtr (.t 43) (.c (.int .i64 0))), (some (40, true))⟩,
 ⟨(some 45), (.pick (.t 40) (.t 44) (.c (.bool false))), (some (34, false))⟩,
 ⟨(some 46), (.pick (.t 34) (.c (.bool true)) (.t 45)), (some (28, true))⟩,
 ⟨some 47, .pick (.t 28) (.t 46) (.c (.bool false)), none⟩])
 (.cond (.t 47)
 (.exit 1)
 .skip))
 (.seq (.region [⟨some 48, .mv (.t 4), none⟩,
 ⟨some 49, .nilck (.t 48), none⟩,
 ⟨some 50, .fa (.t 49) 0, none⟩,
 ⟨some 51, .fa (.t 50) 6, none⟩,
 ⟨none, .st 1 (.t 51) (.c .nilslice), none⟩])
 (.seq (.seq (.region [⟨some 52, .fa (.t 1) 6, none⟩,
 ⟨some 53, .ld false 1 (.t 52), none⟩,
 ⟨some 54, .len false (.t 53), none⟩,
 ⟨some 55, .mv (.c (.int .i64 0)), none⟩])
 (.block 2
 (.loop
 (.seq (.region [⟨some 56, .bin .lss (.t 55) (.t 54), none⟩])
 (.seq (.cond (.t 56)
 .skip
 (.exit 2))
 (.seq (.block 3
 (.seq (.region [⟨some 57, .mv (.t 55), none⟩,
 ⟨some 58, .ia 1 (.t 53) (.t 55), none⟩,
 ⟨some 59, .ld false 1 (.t 58), none⟩,
 ⟨some 8, .mv (.t 57), none⟩,
 ⟨some 9, .mv (.t 59), none⟩])
 (.seq (.region [⟨some 60, .mv (.t 6), none⟩,
 ⟨some 61, .mv (.t 8), none⟩,
 ⟨some 62, .bin .shr (.t 60) (.t 61), none⟩,
 ⟨some 63, .bin .and (.t 62) (.c (.int .i64 1)), none⟩,
 ⟨some 64, .bin .eql (.t 63) (.c (.int .i64 0)), none⟩])
 (.cond (.t 64)
 (.region [⟨some 65, .mv (.t 4), none⟩,
 ⟨some 66, .mv (.t 4), none⟩,
 ⟨some 67, .nilck (.t 66), none⟩,
 ⟨some 68, .fa (.t 67) 0, none⟩,
 ⟨some 69, .fa (.t 68) 6, none⟩,
 ⟨some 70, .ld false 1 (.t 69), none⟩,
 ⟨some 71, .mv (.t 9), none⟩,
 ⟨some 72, .bldS 1 1 [(.int .i64 0)] [(0, 1, (.t 71))], none⟩,
 ⟨some 73, .app 1 8 (.t 70) (.t 72), none⟩,
 ⟨some 74, .nilck (.t 65), none⟩,
 ⟨some 75, .fa (.t 74) 0, none⟩,
 ⟨some 76, .fa (.t 75) 6, none⟩,
 ⟨none, .st 1 (.t 76) (.t 73), none⟩])
 .skip))))
 (.region [⟨some 77, .bin .add (.t 55) (.c (.int .i64 1)), none⟩,
 ⟨some 55, .mv (.t 77), none⟩])))))))
 (.seq (.region [⟨some 78, .mv (.t 4), none⟩,
 ⟨some 79, .call (.c (.func 71 [] [])) [(.t 78)], none⟩])
 (.cond (.t 79)
 (.region [⟨some 80, .mv (.t 7), none⟩,
 ⟨some 2, .mv (.t 80), none⟩,
 ⟨some 5, .mv (.c (.bool true)), none⟩])
 .skip))))))))
 (.region [⟨some 81, .bin .add (.t 22) (.c (.int .i64 1)), none⟩,
 ⟨some 22, .mv (.t 81), none⟩])))))))
 (.seq (.region [⟨some 82, .mv (.t 2), none⟩,
 ⟨some 2, .mv (.t 82), none⟩,
 ⟨some 3, .mv (.c (.int .i64 0)), none⟩])
 .ret)))))), [.tmp 2, .tmp 3]⟩
theorem c29 : compFun Tryz.prog Tryz.f29 = some ir29 := by kernel_rfl
def ir30 : IFun := ⟨2, (.region [⟨some 1, .call (.c (.func 20 [] [])) [(.t 0)], none⟩]), []⟩
theorem c30 : compFun Tryz.prog Tryz.f30 = some ir30 := by kernel_rfl
def ir31 : IFun := ⟨19, (.seq (.region [⟨some 3, .mv (.c .nilfunc), none⟩])
 (.seq (.region [⟨some 7, .fa (.t 1) 0, none⟩,
 ⟨some 8, .ld true 7 (.t 7), none⟩,
 ⟨some 9, .call (.c (.func 32 [] [])) [(.t 8)], none⟩,
 ⟨some 6, .mv (.t 9), none⟩,
 ⟨some 10, .ext (.t 6) 0, none⟩,
 ⟨some 11, .ext (.t 6) 1, none⟩,
 ⟨some 4, .alloc .nilslice, none⟩,
 ⟨none, .st 1 (.t 4) (.t 10), none⟩,
 ⟨some 5, .mv (.t 11), none⟩])
 (.seq (.region [⟨some 12, .mv (.t 0), none⟩,
 ⟨some 13, .ld false 1 (.t 4), none⟩,
 ⟨some 14, .call (.c (.func 18 [] [])) [(.t 12), (.t 13)], none⟩])
 (.seq (.region [⟨some 15, .mv (.t 0), none⟩,
 ⟨some 16, .mv (.t 5), none⟩,
 ⟨some 17, .call (.c (.func 9 [] [])) [(.t 15), (.t 16)], none⟩])
 (.seq (.region [⟨some 18, .mkfn 33 [] [(.t 4)], none⟩,
 ⟨some 3, .mv (.t 18), none⟩])
 .ret))))), [.tmp 3]⟩
theorem c31 : compFun Tryz.prog Tryz.f31 = some ir31 := by kernel_rfl
def ir32 : IFun := ⟨56, (.seq (.region [⟨some 1, .box (.t 0), none⟩,
 ⟨some 2, .mv (.c .nilslice), none⟩,
 ⟨some 3, .mv (.c (.int .i64 0)), none⟩])
 (.seq (.region [⟨some 12, .ld true 7 (.t 1), none⟩,
 ⟨some 13, .call (.c (.func 56 [] [])) [(.t 12)], none⟩,
 ⟨some 11, .mv (.t 13), none⟩,
 ⟨some 14, .ext (.t 11) 0, none⟩,
 ⟨some 15, .ext (.t 11) 1, none⟩,
 ⟨some 4, .mv (.t 14), none⟩,
 ⟨some 3, .mv (.t 15), none⟩])
 (.seq (.seq (.region [⟨some 16, .mv (.t 3), none⟩,
 ⟨some 17, .bin .neq (.t 16) (.c (.int .i64 0)), none⟩])
 (.cond (.t 17)
 (.seq (.region [⟨some 18, .mv (.t 3), none⟩,
 ⟨some 2, .mv (.c .nilslice), none⟩,
 ⟨some 3, .mv (.t 18), none⟩])
 .ret)
 .skip))
 (.seq (.region [⟨some 5, .alloc (.int .i64 0), none⟩,
 ⟨none, .st 1 (.t 5) (.c (.int .i64 0)), none⟩])
 (.seq (.region [⟨some 6, .alloc (.agg [(.int .i64 0), (.int .i64 0), (.int .i64 0), (.int .i64 0), (.int .i64 0)]), none⟩])
 (.seq (.seq (.region [⟨some 19, .mv (.t 4), none⟩,
 ⟨some 20, .call (.c (.func 68 [] [])) [(.t 19)], none⟩])
 (.block 0
 (.rangef (.t 20) [21]
 (.region [⟨some 7, .alloc (.agg [(.int .i64 0), (.int .i64 0), (.int .i64 0), (.int .i64 0), (.int .i64 0), (.int .i64 0)]), none⟩,
 ⟨none, .st 6 (.t 7) (.t 21), none⟩])
 (.block 1
 (.seq (.region [⟨some 22, .ld false 1 (.t 5), none⟩,
 ⟨some 23, .bin .add (.t 22) (.c (.int .i64 1)), none⟩,
 ⟨none, .st 1 (.t 5) (.t 23), none⟩])
 (.seq (.region [⟨some 24, .fa (.t 7) 1, none⟩,
 ⟨some 25, .ld true 5 (.t 24), none⟩,
 ⟨some 26, .mv (.c (.int .i64 0)), none⟩])
 (.block 2
 (.loop
 (.seq (.region [⟨some 27, .bin .lss (.t 26) (.c (.int .i64 5)), none⟩])
 (.seq (.cond (.t 27)
 .skip
 (.exit 2))
 (.seq (.block 3
 (.seq (.region [⟨some 28, .mv (.t 26), none⟩,
 ⟨some 29, .ix 5 1 false (.t 25) (.t 26), none⟩,
 ⟨some 8, .mv (.t 28), none⟩,
 ⟨some 9, .mv (.t 29), none⟩])
 (.region [⟨some 30, .mv (.t 8), none⟩,
 ⟨some 31, .mv (.t 8), none⟩,
 ⟨some 32, .iaa 5 1 (.t 6) (.t 31), none⟩,
 ⟨some 33, .ld false 1 (.t 32), none⟩,
 ⟨some 34, .mv (.t 9), none⟩,
 ⟨some 35, .mx (.t 33) [(.t 34)], none⟩,
 ⟨some 36, .iaa 5 1 (.t 6) (.t 30), none⟩,
 ⟨none, .st 1 (.t 36) (.t 35), none⟩])))
 (.region [⟨some 37, .bin .add (.t 26) (.c (.int .i64 1)), none⟩,
 ⟨some 26, .mv (.t 37), none⟩]))))))))))))
 (.seq (.seq (.region [⟨some 38, .ld false 1 (.t 5), none⟩,
 ⟨some 39, .bin .eql (.t 38) (.c (.int .i64 0)), none⟩])
 (.cond (.t 39)
 (.seq (.region [⟨some 2, .mv (.c .nilslice), none⟩,
 ⟨some 3, .mv (.c (.int .i64 9)), none⟩])
 .ret)
 .skip))
 (.seq (.seq (.region [⟨some 40, .fa (.t 1) 5, none⟩,
 ⟨some 41, .ld false 1 (.t 40), none⟩,
 ⟨some 42, .len false (.t 41), none⟩,
 ⟨some 43, .mv (.c (.int .i64 0)), none⟩])
 (.block 4
 (.loop
 (.seq (.region [⟨some 44, .bin .lss (.t 43) (.t 42), none⟩])
 (.seq (.cond (.t 44)
 .skip
 (.exit 4))
 (.seq (.block 5
 (.seq (.region [⟨some 45, .mv (.t 43), none⟩,
 ⟨some 10, .mv (.t 45), none⟩])
 (.seq (.region [⟨some 46, .mv (.t 10), none⟩,
 ⟨some 47, .iaa 5 1 (.t 6) (.t 46), none⟩,
 ⟨some 48, .ld false 1 (.t 47), none⟩,
 ⟨some 49, .bin .eql (.t 48) (.c (.int .i64 0)), none⟩])
 (.cond (.t 49)
 (.region [⟨some 50, .mv (.t 2), none⟩,
 ⟨some 51, .mv (.t 10), none⟩,
 ⟨some 52, .bldS 1 1 [(.int .i64 0)] [(0, 1, (.t 51))], none⟩,
 ⟨some 53, .app 1 8 (.t 50) (.t 52), none⟩,
 ⟨some 2, .mv (.t 53), none⟩])
 .skip))))
 (.region [⟨some 54, .bin .add (.t 43) (.c (.int .i64 1)), none⟩,
 ⟨some 43, .mv (.t 54), none⟩])))))))
 (.seq (.region [⟨some 55, .mv (.t 2), none⟩,
 ⟨some 2, .mv (.t 55), none⟩,
 ⟨some 3, .mv (.c (.int .i64 0)), none⟩])
 .ret))))))))), [.tmp 2, .tmp 3]⟩
theorem c32 : compFun Tryz.prog Tryz.f32 = some ir32 := by kernel_rfl
def ir33 : IFun := ⟨2, (.region [⟨some 1, .call (.c (.func 20 [] [])) [(.t 0)], none⟩]), []⟩
theorem c33 : compFun Tryz.prog Tryz.f33 = some ir33 := by kernel_rfl
def ir34 : IFun := ⟨20, (.seq (.region [⟨some 3, .mv (.c .nilfunc), none⟩])
 (.seq (.region [⟨some 7, .fa (.t 1) 0, none⟩,
 ⟨some 8, .ld true 7 (.t 7), none⟩,
 ⟨some 9, .fa (.t 1) 7, none⟩,
 ⟨some 10, .ld false 1 (.t 9), none⟩,
 ⟨some 11, .call (.c (.func 35 [] [])) [(.t 8), (.t 10)], none⟩,
 ⟨some 6, .mv (.t 11), none⟩,
 ⟨some 12, .ext (.t 6) 0, none⟩,
 ⟨some 13, .ext (.t 6) 1, none⟩,
 ⟨some 4, .mv (.t 12), none⟩,
 ⟨some 5, .mv (.t 13), none⟩])
 (.seq (.region [⟨some 14, .mv (.t 0), none⟩,
 ⟨some 15, .mv (.t 4), none⟩,
 ⟨some 16, .call (.c (.func 8 [] [])) [(.t 14), (.t 15)], none⟩])
 (.seq (.region [⟨some 17, .mv (.t 0), none⟩,
 ⟨some 18, .mv (.t 5), none⟩,
 ⟨some 19, .call (.c (.func 9 [] [])) [(.t 17), (.t 18)], none⟩])
 (.seq (.region [⟨some 3, .mv (.c (.func 10 [] [])), none⟩])
 .ret))))), [.tmp 3]⟩
theorem c34 : compFun Tryz.prog Tryz.f34 = some ir34 := by kernel_rfl
def ir35 : IFun := ⟨63, (.seq (.region [⟨some 2, .box (.t 0), none⟩,
 ⟨some 4, .mv (.c (.int .i64 0)), none⟩,
 ⟨some 5, .mv (.c (.int .i64 0)), none⟩])
 (.seq (.region [⟨some 12, .ld true 7 (.t 2), none⟩,
 ⟨some 13, .call (.c (.func 56 [] [])) [(.t 12)], none⟩,
 ⟨some 11, .mv (.t 13), none⟩,
 ⟨some 14, .ext (.t 11) 0, none⟩,
 ⟨some 15, .ext (.t 11) 1, none⟩,
 ⟨some 6, .mv (.t 14), none⟩,
 ⟨some 7, .mv (.t 15), none⟩])
 (.seq (.block 0
 (.seq (.region [⟨some 17, .mv (.t 7), none⟩,
 ⟨some 18, .bin .neq (.t 17) (.c (.int .i64 0)), none⟩,
 ⟨some 16, .mv (.t 18), none⟩])
 (.cond (.t 16)
 (.seq (.region [⟨some 19, .mv (.t 7), none⟩,
 ⟨some 4, .mv (.c (.int .i64 0)), none⟩,
 ⟨some 5, .mv (.t 19), none⟩])
 .ret)
 (.seq (.region [⟨some 21, .fa (.t 2) 5, none⟩,
 ⟨some 22, .ld false 1 (.t 21), none⟩,
 ⟨some 23, .len false (.t 22), none⟩,
 ⟨some 24, .bin .sub (.t 23) (.c (.int .i64 1)), none⟩,
 ⟨some 25, .mv (.t 1), none⟩,
 ⟨some 26, .bldS 1 1 [(.int .i64 0)] [(0, 1, (.t 25))], none⟩,
 ⟨some 27, .call (.c (.func 42 [] [])) [(.c (.int .i64 0)), (.t 24), (.t 26)], none⟩,
 ⟨some 20, .mv (.t 27), none⟩])
 (.cond (.t 20)
 (.seq (.region [⟨some 4, .mv (.c (.int .i64 0)), none⟩,
 ⟨some 5, .mv (.c (.int .i64 4)), none⟩])
 .ret)
 .skip)))))
 (.seq (.region [⟨some 8, .mv (.c (.int .i64 (-1))), none⟩])
 (.seq (.seq (.region [⟨some 28, .fa (.t 2) 2, none⟩,
 ⟨some 29, .ld false 1 (.t 28), none⟩,
 ⟨some 30, .bin .shl (.c (.int .i64 1)) (.t 29), none⟩,
 ⟨some 31, .mv (.c (.int .i64 0)), none⟩])
 (.block 1
 (.loop
 (.seq (.region [⟨some 32, .bin .lss (.t 31) (.t 30), none⟩])
 (.seq (.cond (.t 32)
 .skip
 (.exit 1))
 (.seq (.block 2
 (.seq (.region [⟨some 33, .mv (.t 31), none⟩,
 ⟨some 9, .mv (.t 33), none⟩])
 (.seq (.seq (.region [⟨some 34, .mv (.t 8), none⟩,
 ⟨some 35, .bin .geq (.t 34) (.c (.int .i64 0)), none⟩,
 ⟨some 36, .mv (.t 35), none⟩,
 ⟨(some 37), (.mv (.t 9)), (some (36, true))⟩,
 ⟨(some 38), (.conv .u64 (.t 37)), (some (36, true))⟩,
 ⟨(some 39), (.call (.c (.func 72 [] [])) [(.t 38)]), (some (36, true))⟩,
 ⟨(some 40), (.mv (.t 8)), (some (36, true))⟩,
 ⟨(some 41), (.conv .u64 (.t 40)), (some (36, true))⟩,
 ⟨(some 42), (.call (.c (.func 72 [] [])) [(.t 41)]), (some (36, true))⟩,
 ⟨(some 43), (.bin .geq (.t 39) (.t 42)), (some (36, true))⟩,
 ⟨some 44, .pick (.t 36) (.t 43) (.c (.bool false)), none⟩])
 (.cond (.t 44)
 (.exit 2)
 .skip))
 (.seq (.region [⟨some 45, .fa (.t 2) 4, none⟩,
 ⟨some 46, .ld false 1 (.t 45), none⟩,
 ⟨some 47, .len false (.t 46), none⟩,
 ⟨some 48, .mv (.c (.int .i64 0)), none⟩])
 (.block 3
 (.loop
 (.seq (.region [⟨some 49, .bin .lss (.t 48) (.t 47), none⟩])
 (.seq (.cond (.t 49)
 .skip
 (.exit 3))
 (.seq (.block 4
 (.seq (.region [⟨some 50, .mv (.t 48), none⟩,
 ⟨some 10, .mv (.t 50), none⟩])
 (.seq (.region [⟨some 51, .mv (.t 6), none⟩,
 ⟨some 52, .mv (.t 1), none⟩,
 ⟨some 53, .mv (.t 10), none⟩,
 ⟨some 54, .mv (.t 9), none⟩,
 ⟨some 55, .call (.c (.func 59 [] [])) [(.t 51), (.t 52), (.t 53), (.t 54)], none⟩,
 ⟨some 56, .bin .eql (.t 55) (.c (.int .i64 1)), none⟩])
 (.cond (.t 56)
 (.region [⟨some 57, .mv (.t 9), none⟩,
 ⟨some 8, .mv (.t 57), none⟩])
 .skip))))
 (.region [⟨some 58, .bin .add (.t 48) (.c (.int .i64 1)), none⟩,
 ⟨some 48, .mv (.t 58), none⟩]))))))))))
 (.region [⟨some 59, .bin .add (.t 31) (.c (.int .i64 1)), none⟩,
 ⟨some 31, .mv (.t 59), none⟩])))))))
 (.seq (.seq (.region [⟨some 60, .mv (.t 8), none⟩,
 ⟨some 61, .bin .lss (.t 60) (.c (.int .i64 0)), none⟩])
 (.cond (.t 61)
 (.seq (.region [⟨some 4, .mv (.c (.int .i64 0)), none⟩,
 ⟨some 5, .mv (.c (.int .i64 9)), none⟩])
 .ret)
 .skip))
 (.seq (.region [⟨some 62, .mv (.t 8), none⟩,
 ⟨some 4, .mv (.t 62), none⟩,
 ⟨some 5, .mv (.c (.int .i64 0)), none⟩])
 .ret))))))), [.tmp 4, .tmp 5]⟩
theorem c35 : compFun Tryz.prog Tryz.f35 = some ir35 := by kernel_rfl
def ir36 : IFun := ⟨25, (.seq (.region [⟨some 3, .mv (.c .nilfunc), none⟩])
 (.seq (.region [⟨some 8, .fa (.t 1) 0, none⟩,
 ⟨some 9, .ld true 7 (.t 8), none⟩,
 ⟨some 10, .fa (.t 1) 10, none⟩,
 ⟨some 11, .ld true 2 (.t 10), none⟩,
 ⟨some 12, .call (.c (.func 37 [] [])) [(.t 9), (.t 11)], none⟩,
 ⟨some 7, .mv (.t 12), none⟩,
 ⟨some 13, .ext (.t 7) 0, none⟩,
 ⟨some 14, .ext (.t 7) 1, none⟩,
 ⟨some 15, .ext (.t 7) 2, none⟩,
 ⟨some 4, .mv (.t 13), none⟩,
 ⟨some 5, .mv (.t 14), none⟩,
 ⟨some 6, .mv (.t 15), none⟩])
 (.seq (.region [⟨some 16, .mv (.t 0), none⟩,
 ⟨some 17, .mv (.t 4), none⟩,
 ⟨some 18, .call (.c (.func 8 [] [])) [(.t 16), (.t 17)], none⟩])
 (.seq (.region [⟨some 19, .mv (.t 0), none⟩,
 ⟨some 20, .mv (.t 5), none⟩,
 ⟨some 21, .call (.c (.func 8 [] [])) [(.t 19), (.t 20)], none⟩])
 (.seq (.region [⟨some 22, .mv (.t 0), none⟩,
 ⟨some 23, .mv (.t 6), none⟩,
 ⟨some 24, .call (.c (.func 9 [] [])) [(.t 22), (.t 23)], none⟩])
 (.seq (.region [⟨some 3, .mv (.c (.func 10 [] [])), none⟩])
 .ret)))))), [.tmp 3]⟩
theorem c36 : compFun Tryz.prog Tryz.f36 = some ir36 := by kernel_rfl
def ir37 : IFun := ⟨71, (.seq (.region [⟨some 2, .box (.t 0), none⟩,
 ⟨some 3, .box (.t 1), none⟩,
 ⟨some 4, .mv (.c (.int .i64 0)), none⟩,
 ⟨some 5, .mv (.c (.int .i64 0)), none⟩,
 ⟨some 6, .mv (.c (.int .i64 0)), none⟩])
 (.seq (.region [⟨some 15, .ld true 7 (.t 2), none⟩,
 ⟨some 16, .ld true 2 (.t 3), none⟩,
 ⟨some 17, .call (.c (.func 66 [] [])) [(.t 15), (.t 16)], none⟩,
 ⟨some 14, .mv (.t 17), none⟩,
 ⟨some 18, .ext (.t 14) 0, none⟩,
 ⟨some 19, .ext (.t 14) 1, none⟩,
 ⟨some 20, .ext (.t 14) 2, none⟩,
 ⟨some 8, .alloc (.agg [(.int .i64 0), (.int .i64 0), (.int .i64 0), (.int .i64 0), (.int .i64 0), (.int .i64 0)]), none⟩,
 ⟨some 7, .mv (.t 18), none⟩,
 ⟨none, .st 6 (.t 8) (.t 19), none⟩,
 ⟨some 6, .mv (.t 20), none⟩])
 (.seq (.seq (.region [⟨some 21, .mv (.t 6), none⟩,
 ⟨some 22, .bin .neq (.t 21) (.c (.int .i64 0)), none⟩])
 (.cond (.t 22)
 (.seq (.region [⟨some 23, .mv (.t 6), none⟩,
 ⟨some 4, .mv (.c (.int .i64 0)), none⟩,
 ⟨some 5, .mv (.c (.int .i64 0)), none⟩,
 ⟨some 6, .mv (.t 23), none⟩])
 .ret)
 .skip))
 (.seq (.region [⟨some 4, .mv (.c (.int .i64 (-1))), none⟩])
 (.seq (.seq (.region [⟨some 24, .fa (.t 8) 1, none⟩,
 ⟨some 25, .ld true 5 (.t 24), none⟩,
 ⟨some 26, .mv (.c (.int .i64 0)), none⟩])
 (.block 0
 (.loop
 (.seq (.region [⟨some 27, .bin .lss (.t 26) (.c (.int .i64 5)), none⟩])
 (.seq (.cond (.t 27)
 .skip
 (.exit 0))
 (.seq (.block 1
 (.seq (.region [⟨some 28, .mv (.t 26), none⟩,
 ⟨some 29, .ix 5 1 false (.t 25) (.t 26), none⟩,
 ⟨some 9, .mv (.t 28), none⟩,
 ⟨some 10, .mv (.t 29), none⟩])
 (.seq (.seq (.region [⟨some 30, .mv (.t 10), none⟩,
 ⟨some 31, .bin .eql (.t 30) (.c (.int .i64 0)), none⟩])
 (.cond (.t 31)
 (.exit 1)
 .skip))
 (.seq (.draw [⟨⟨some 32, .mv (.t 7), none⟩, false, [], []⟩,
 ⟨⟨some 33, .mv (.t 10), none⟩, false, [], []⟩,
 ⟨⟨some 34, .bin .sub (.t 33) (.c (.int .i64 1)), none⟩, false, [], []⟩,
 ⟨⟨some 35, .fa (.t 8) 0, none⟩, false, [], []⟩,
 ⟨⟨some 36, .ld false 1 (.t 35), none⟩, false, [⟨some 36, .ld false 1 (.t 35), none⟩], []⟩,
 ⟨⟨some 37, .call (.c (.func 58 [] [])) [(.t 32), (.t 34), (.t 36)], none⟩, true, [], []⟩,
 ⟨⟨some 38, .mv (.t 7), none⟩, false, [], []⟩,
 ⟨⟨some 39, .nilck (.t 38), none⟩, false, [], []⟩,
 ⟨⟨some 40, .fa (.t 39) 0, none⟩, false, [], []⟩,
 ⟨⟨some 41, .fa (.t 40) 5, none⟩, false, [], []⟩,
 ⟨⟨some 42, .ld false 1 (.t 41), none⟩, false, [⟨some 42, .ld false 1 (.t 41), none⟩], [5]⟩,
 ⟨⟨some 43, .mv (.t 9), none⟩, false, [], []⟩,
 ⟨⟨some 44, .ia 6 (.t 42) (.t 43), none⟩, false, [], []⟩,
 ⟨⟨some 45, .ld true 6 (.t 44), none⟩, false, [⟨some 45, .ld true 6 (.t 44), none⟩], [5]⟩,
 ⟨⟨some 11, .alloc (.agg [(.int .i64 0), (.int .i64 0)]), none⟩, false, [], []⟩,
 ⟨⟨some 12, .alloc (.agg [(.str []), (.int .i64 0), (.int .i64 0), (.int .i64 0), (.int .i64 0), (.int .i64 0)]), none⟩, false, [], []⟩,
 ⟨⟨none, .st 2 (.t 11) (.t 37), none⟩, true, [⟨some 42, .ld false 1 (.t 41), none⟩, ⟨some 45, .ld true 6 (.t 44), none⟩], []⟩,
 ⟨⟨none, .st 6 (.t 12) (.t 45), none⟩, true, [], []⟩])
 (.seq (.region [⟨some 46, .fa (.t 11) 0, none⟩,
 ⟨some 47, .ld false 1 (.t 46), none⟩,
 ⟨some 48, .fa (.t 12) 3, none⟩,
 ⟨some 49, .ld false 1 (.t 48), none⟩,
 ⟨some 50, .bin .sub (.t 47) (.t 49), none⟩,
 ⟨some 51, .fa (.t 12) 4, none⟩,
 ⟨some 52, .ld false 1 (.t 51), none⟩,
 ⟨some 53, .fa (.t 11) 1, none⟩,
 ⟨some 54, .ld false 1 (.t 53), none⟩,
 ⟨some 55, .bin .sub (.t 52) (.t 54), none⟩,
 ⟨some 56, .mn (.t 50) [(.t 55)], none⟩,
 ⟨some 13, .mv (.t 56), none⟩])
 (.seq (.region [⟨some 57, .mv (.t 4), none⟩,
 ⟨some 58, .bin .lss (.t 57) (.c (.int .i64 0)), none⟩,
 ⟨some 59, .mv (.t 58), none⟩,
 ⟨(some 60), (.mv (.t 13)), (some (59, false))⟩,
 ⟨(some 61), (.mv (.t 5)), (some (59, false))⟩,
 ⟨(some 62), (.bin .lss (.t 60) (.t 61)), (some (59, false))⟩,
 ⟨some 63, .pick (.t 59) (.c (.bool true)) (.t 62), none⟩])
 (.cond (.t 63)
 (.region [⟨some 64, .mv (.t 9), none⟩,
 ⟨some 65, .mv (.t 13), none⟩,
 ⟨some 4, .mv (.t 64), none⟩,
 ⟨some 5, .mv (.t 65), none⟩])
 .skip)))))))
 (.region [⟨some 66, .bin .add (.t 26) (.c (.int .i64 1)), none⟩,
 ⟨some 26, .mv (.t 66), none⟩])))))))
 (.seq (.seq (.region [⟨some 67, .mv (.t 4), none⟩,
 ⟨some 68, .bin .lss (.t 67) (.c (.int .i64 0)), none⟩])
 (.cond (.t 68)
 (.seq (.region [⟨some 4, .mv (.c (.int .i64 0)), none⟩,
 ⟨some 5, .mv (.c (.int .i64 0)), none⟩,
 ⟨some 6, .mv (.c (.int .i64 4)), none⟩])
 .ret)
 .skip))
 (.seq (.region [⟨some 69, .mv (.t 4), none⟩,
 ⟨some 70, .mv (.t 5), none⟩,
 ⟨some 4, .mv (.t 69), none⟩,
 ⟨some 5, .mv (.t 70), none⟩,
 ⟨some 6, .mv (.c (.int .i64 0)), none⟩])
 .ret))))))), [.tmp 4, .tmp 5, .tmp 6]⟩
theorem c37 : compFun Tryz.prog Tryz.f37 = some ir37 := by kernel_rfl
def ir38 : IFun := ⟨59, (.seq (.region [⟨some 2, .box (.t 0), none⟩,
 ⟨some 3, .box (.t 1), none⟩,
 ⟨some 4, .mv (.c (.bool false)), none⟩])
 (.seq (.seq (.region [⟨some 7, .fa (.t 2) 0, none⟩,
 ⟨some 8, .ld false 1 (.t 7), none⟩,
 ⟨some 9, .len false (.t 8), none⟩,
 ⟨some 10, .fa (.t 3) 0, none⟩,
 ⟨some 11, .ld false 1 (.t 10), none⟩,
 ⟨some 12, .len false (.t 11), none⟩,
 ⟨some 13, .bin .neq (.t 9) (.t 12), none⟩,
 ⟨some 14, .mv (.t 13), none⟩,
 ⟨(some 15), (.fa (.t 2) 1), (some (14, false))⟩,
 ⟨(some 16), (.ld false 1 (.t 15)), (some (14, false))⟩,
 ⟨(some 17), (.len false (.t 16)), (some (14, false))⟩,
 ⟨(some 18), (.fa (.t 3) 1), (some (14, false))⟩,
 ⟨(some 19), (.ld false 1 (.t 18)), (some (14, false))⟩,
 ⟨(some 20), (.len false (.t 19)), (some (14, false))⟩,
 ⟨(some 21), (.bin .neq (.t 17) (.t 20)), (some (14, false))⟩,
 ⟨some 22, .pick (.t 14) (.c (.bool true)) (.t 21), none⟩])
 (.cond (.t 22)
 (.seq (.region [⟨some 4, .mv (.c (.bool false)), none⟩])
 .ret)
 .skip))
 (.seq (.seq (.region [⟨some 5, .mv (.c (.int .i64 0)), none⟩])
 (.block 0
 (.loop
 (.seq (.seq (.region [⟨some 23, .mv (.t 5), none⟩,
 ⟨some 24, .fa (.t 2) 0, none⟩,
 ⟨some 25, .ld false 1 (.t 24), none⟩,
 ⟨some 26, .len false (.t 25), none⟩,
 ⟨some 27, .bin .lss (.t 23) (.t 26), none⟩])
 (.cond (.t 27)
 .skip
 (.exit 0)))
 (.seq (.block 1
 (.seq (.draw [⟨⟨some 30, .fa (.t 2) 0, none⟩, false, [], []⟩,
 ⟨⟨some 31, .ld false 1 (.t 30), none⟩, false, [⟨some 31, .ld false 1 (.t 30), none⟩], []⟩,
 ⟨⟨some 32, .mv (.t 5), none⟩, false, [], []⟩,
 ⟨⟨some 33, .ia 1 (.t 31) (.t 32), none⟩, false, [], []⟩,
 ⟨⟨some 34, .ld false 1 (.t 33), none⟩, false, [⟨some 34, .ld false 1 (.t 33), none⟩], []⟩,
 ⟨⟨some 35, .fa (.t 3) 0, none⟩, false, [], []⟩,
 ⟨⟨some 36, .ld false 1 (.t 35), none⟩, false, [⟨some 36, .ld false 1 (.t 35), none⟩], []⟩,
 ⟨⟨some 37, .mv (.t 5), none⟩, false, [], []⟩,
 ⟨⟨some 38, .ia 1 (.t 36) (.t 37), none⟩, false, [], []⟩,
 ⟨⟨some 39, .ld false 1 (.t 38), none⟩, false, [⟨some 39, .ld false 1 (.t 38), none⟩], []⟩,
 ⟨⟨some 40, .bin .neq (.t 34) (.t 39), none⟩, false, [], []⟩])
 (.cond (.t 40)
 (.seq (.region [⟨some 4, .mv (.c (.bool false)), none⟩])
 .ret)
 .skip)))
 (.region [⟨some 28, .mv (.t 5), none⟩,
 ⟨some 29, .bin .add (.t 28) (.c (.int .i64 1)), none⟩,
 ⟨some 5, .mv (.t 29), none⟩]))))))
 (.seq (.seq (.region [⟨some 6, .mv (.c (.int .i64 0)), none⟩])
 (.block 2
 (.loop
 (.seq (.seq (.region [⟨some 41, .mv (.t 6), none⟩,
 ⟨some 42, .fa (.t 2) 1, none⟩,
 ⟨some 43, .ld false 1 (.t 42), none⟩,
 ⟨some 44, .len false (.t 43), none⟩,
 ⟨some 45, .bin .lss (.t 41) (.t 44), none⟩])
 (.cond (.t 45)
 .skip
 (.exit 2)))
 (.seq (.block 3
 (.seq (.draw [⟨⟨some 48, .fa (.t 2) 1, none⟩, false, [], []⟩,
 ⟨⟨some 49, .ld false 1 (.t 48), none⟩, false, [⟨some 49, .ld false 1 (.t 48), none⟩], []⟩,
 ⟨⟨some 50, .mv (.t 6), none⟩, false, [], []⟩,
 ⟨⟨some 51, .ia 1 (.t 49) (.t 50), none⟩, false, [], []⟩,
 ⟨⟨some 52, .ld false 1 (.t 51), none⟩, false, [⟨some 52, .ld false 1 (.t 51), none⟩], []⟩,
 ⟨⟨some 53, .fa (.t 3) 1, none⟩, false, [], []⟩,
 ⟨⟨some 54, .ld false 1 (.t 53), none⟩, false, [⟨some 54, .ld false 1 (.t 53), none⟩], []⟩,
 ⟨⟨some 55, .mv (.t 6), none⟩, false, [], []⟩,
 ⟨⟨some 56, .ia 1 (.t 54) (.t 55), none⟩, false, [], []⟩,
 ⟨⟨some 57, .ld false 1 (.t 56), none⟩, false, [⟨some 57, .ld false 1 (.t 56), none⟩], []⟩,
 ⟨⟨some 58, .bin .neq (.t 52) (.t 57), none⟩, false, [], []⟩])
 (.cond (.t 58)
 (.seq (.region [⟨some 4, .mv (.c (.bool false)), none⟩])
 .ret)
 .skip)))
 (.region [⟨some 46, .mv (.t 6), none⟩,
 ⟨some 47, .bin .add (.t 46) (.c (.int .i64 1)), none⟩,
 ⟨some 6, .mv (.t 47), none⟩]))))))
 (.seq (.region [⟨some 4, .mv (.c (.bool true)), none⟩])
 .ret))))), [.tmp 4]⟩
theorem c38 : compFun Tryz.prog Tryz.f38 = some ir38 := by kernel_rfl
def ir39 : IFun := ⟨190, (.seq (.region [⟨some 0, .mv (.c (.bool false)), none⟩])
 (.seq (.region [⟨some 27, .bldS 1 1 [(.int .i64 0)] [(0, 1, (.c (.int .i64 3)))], none⟩,
 ⟨some 28, .call (.c (.func 73 [] [])) [(.t 27)], none⟩,
 ⟨some 29, .call (.c (.func 73 [] [])) [(.c .nilslice)], none⟩,
 ⟨some 1, .alloc (.agg [(.int .i64 0), (.int .i64 0), (.int .i64 0), .nilslice, .nilslice, .nilslice, .nilslice]), none⟩,
 ⟨some 2, .alloc (.agg [(.int .i64 0), (.int .i64 0), (.int .i64 0), .nilslice, .nilslice, .nilslice, .nilslice]), none⟩,
 ⟨none, .st 7 (.t 1) (.t 28), none⟩,
 ⟨none, .st 7 (.t 2) (.t 29), none⟩])
 (.seq (.region [⟨some 31, .ld true 7 (.t 1), none⟩,
 ⟨some 32, .call (.c (.func 12 [] [])) [(.t 31), (.c (.int .i64 1)), (.c (.int .i64 1))], none⟩,
 ⟨some 30, .mv (.t 32), none⟩,
 ⟨some 33, .ext (.t 30) 0, none⟩,
 ⟨some 34, .ext (.t 30) 1, none⟩,
 ⟨some 3, .alloc (.agg [(.int .i64 0), (.int .i64 0)]), none⟩,
 ⟨none, .st 2 (.t 3) (.t 33), none⟩,
 ⟨some 4, .mv (.t 34), none⟩])
 (.seq (.region [⟨some 36, .ld true 7 (.t 1), none⟩,
 ⟨some 37, .call (.c (.func 15 [] [])) [(.t 36), (.c (.int .i64 0)), (.c (.int .i64 1)), (.c (.int .i64 1))], none⟩,
 ⟨some 35, .mv (.t 37), none⟩,
 ⟨some 38, .ext (.t 35) 0, none⟩,
 ⟨some 39, .ext (.t 35) 1, none⟩,
 ⟨some 5, .mv (.t 38), none⟩,
 ⟨some 6, .mv (.t 39), none⟩])
 (.seq (.region [⟨some 41, .ld true 7 (.t 1), none⟩,
 ⟨some 42, .call (.c (.func 15 [] [])) [(.t 41), (.c (.int .i64 2)), (.c (.int .i64 1)), (.c (.int .i64 1))], none⟩,
 ⟨some 40, .mv (.t 42), none⟩,
 ⟨some 43, .ext (.t 40) 0, none⟩,
 ⟨some 44, .ext (.t 40) 1, none⟩,
 ⟨some 7, .mv (.t 43), none⟩,
 ⟨some 8, .mv (.t 44), none⟩])
 (.seq (.region [⟨some 46, .ld true 7 (.t 1), none⟩,
 ⟨some 47, .call (.c (.func 24 [] [])) [(.t 46)], none⟩,
 ⟨some 45, .mv (.t 47), none⟩,
 ⟨some 48, .ext (.t 45) 0, none⟩,
 ⟨some 49, .ext (.t 45) 1, none⟩,
 ⟨some 50, .ext (.t 45) 2, none⟩,
 ⟨some 9, .alloc (.agg [(.int .i64 0), .nilslice]), none⟩,
 ⟨none, .st 2 (.t 9) (.t 48), none⟩,
 ⟨some 10, .mv (.t 49), none⟩,
 ⟨some 11, .mv (.t 50), none⟩])
 (.seq (.draw [⟨⟨some 52, .ld true 7 (.t 1), none⟩, false, [⟨some 52, .ld true 7 (.t 1), none⟩], []⟩,
 ⟨⟨some 53, .bldS 1 3 [(.int .i64 0)] [(0, 1, (.c (.int .i64 1))), (1, 1, (.c (.int .i64 (-1)))), (2, 1, (.c (.int .i64 2)))], none⟩, false, [], []⟩,
 ⟨⟨some 54, .call (.c (.func 74 [] [])) [(.c (.int .i64 1)), (.t 53)], none⟩, true, [⟨some 52, .ld true 7 (.t 1), none⟩], []⟩,
 ⟨⟨some 55, .call (.c (.func 22 [] [])) [(.t 52), (.t 54)], none⟩, true, [], []⟩,
 ⟨⟨some 51, .mv (.t 55), none⟩, false, [], []⟩,
 ⟨⟨some 56, .ext (.t 51) 0, none⟩, false, [], []⟩,
 ⟨⟨some 57, .ext (.t 51) 1, none⟩, false, [], []⟩,
 ⟨⟨some 12, .mv (.t 56), none⟩, false, [], []⟩,
 ⟨⟨some 13, .mv (.t 57), none⟩, false, [], []⟩])
 (.seq (.draw [⟨⟨some 59, .ld true 7 (.t 1), none⟩, false, [⟨some 59, .ld true 7 (.t 1), none⟩], []⟩,
 ⟨⟨some 60, .bldS 1 3 [(.int .i64 0)] [(0, 1, (.c (.int .i64 1))), (1, 1, (.c (.int .i64 0))), (2, 1, (.c (.int .i64 2)))], none⟩, false, [], []⟩,
 ⟨⟨some 61, .call (.c (.func 74 [] [])) [(.c (.int .i64 1)), (.t 60)], none⟩, true, [⟨some 59, .ld true 7 (.t 1), none⟩], []⟩,
 ⟨⟨some 62, .call (.c (.func 17 [] [])) [(.t 59), (.t 61)], none⟩, true, [], []⟩,
 ⟨⟨some 58, .mv (.t 62), none⟩, false, [], []⟩,
 ⟨⟨some 63, .ext (.t 58) 0, none⟩, false, [], []⟩,
 ⟨⟨some 64, .ext (.t 58) 1, none⟩, false, [], []⟩,
 ⟨⟨some 14, .mv (.t 63), none⟩, false, [], []⟩,
 ⟨⟨some 15, .mv (.t 64), none⟩, false, [], []⟩])
 (.seq (.region [⟨some 66, .bldS 1 2 [(.int .i64 0)] [(0, 1, (.c (.int .i64 1))), (1, 1, (.c (.int .i64 3)))], none⟩,
 ⟨some 67, .call (.c (.func 73 [] [])) [(.t 66)], none⟩,
 ⟨some 68, .call (.c (.func 29 [] [])) [(.t 67)], none⟩,
 ⟨some 65, .mv (.t 68), none⟩,
 ⟨some 69, .ext (.t 65) 0, none⟩,
 ⟨some 70, .ext (.t 65) 1, none⟩,
 ⟨some 16, .mv (.t 69), none⟩,
 ⟨some 17, .mv (.t 70), none⟩])
 (.seq (.region [⟨some 72, .ld true 7 (.t 1), none⟩,
 ⟨some 73, .call (.c (.func 32 [] [])) [(.t 72)], none⟩,
 ⟨some 71, .mv (.t 73), none⟩,
 ⟨some 74, .ext (.t 71) 0, none⟩,
 ⟨some 75, .ext (.t 71) 1, none⟩,
 ⟨some 18, .mv (.t 74), none⟩,
 ⟨some 19, .mv (.t 75), none⟩])
 (.seq (.region [⟨some 77, .ld true 7 (.t 2), none⟩,
 ⟨some 78, .call (.c (.func 32 [] [])) [(.t 77)], none⟩,
 ⟨some 76, .mv (.t 78), none⟩,
 ⟨some 79, .ext (.t 76) 0, none⟩,
 ⟨some 80, .ext (.t 76) 1, none⟩,
 ⟨some 20, .mv (.t 79), none⟩,
 ⟨some 21, .mv (.t 80), none⟩])
 (.seq (.region [⟨some 82, .ld true 7 (.t 1), none⟩,
 ⟨some 83, .call (.c (.func 35 [] [])) [(.t 82), (.c (.int .i64 0))], none⟩,
 ⟨some 81, .mv (.t 83), none⟩,
 ⟨some 84, .ext (.t 81) 0, none⟩,
 ⟨some 85, .ext (.t 81) 1, none⟩,
 ⟨some 22, .mv (.t 84), none⟩,
 ⟨some 23, .mv (.t 85), none⟩])
 (.seq (.region [⟨some 87, .ld true 7 (.t 1), none⟩,
 ⟨some 88, .ld true 2 (.t 9), none⟩,
 ⟨some 89, .call (.c (.func 37 [] [])) [(.t 87), (.t 88)], none⟩,
 ⟨some 86, .mv (.t 89), none⟩,
 ⟨some 90, .ext (.t 86) 0, none⟩,
 ⟨some 91, .ext (.t 86) 1, none⟩,
 ⟨some 92, .ext (.t 86) 2, none⟩,
 ⟨some 24, .mv (.t 90), none⟩,
 ⟨some 25, .mv (.t 91), none⟩,
 ⟨some 26, .mv (.t 92), none⟩])
 (.seq (.draw [⟨⟨some 93, .mv (.t 4), none⟩, false, [], []⟩,
 ⟨⟨some 94, .bin .eql (.t 93) (.c (.int .i64 0)), none⟩, false, [], []⟩,
 ⟨⟨some 95, .mv (.t 94), none⟩, false, [], []⟩,
 ⟨⟨(some 96), (.mv (.t 6)), (some (95, true))⟩, false, [], []⟩,
 ⟨⟨(some 97), (.bin .eql (.t 96) (.c (.int .i64 0))), (some (95, true))⟩, false, [], []⟩,
 ⟨⟨some 98, .pick (.t 95) (.t 97) (.c (.bool false)), none⟩, false, [], []⟩,
 ⟨⟨some 99, .mv (.t 98), none⟩, false, [], []⟩,
 ⟨⟨(some 100), (.mv (.t 8)), (some (99, true))⟩, false, [], []⟩,
 ⟨⟨(some 101), (.bin .eql (.t 100) (.c (.int .i64 0))), (some (99, true))⟩, false, [], []⟩,
 ⟨⟨some 102, .pick (.t 99) (.t 101) (.c (.bool false)), none⟩, false, [], []⟩,
 ⟨⟨some 103, .mv (.t 102), none⟩, false, [], []⟩,
 ⟨⟨(some 104), (.mv (.t 11)), (some (103, true))⟩, false, [], []⟩,
 ⟨⟨(some 105), (.bin .eql (.t 104) (.c (.int .i64 0))), (some (103, true))⟩, false, [], []⟩,
 ⟨⟨some 106, .pick (.t 103) (.t 105) (.c (.bool false)), none⟩, false, [], []⟩,
 ⟨⟨some 107, .mv (.t 106), none⟩, false, [], []⟩,
 ⟨⟨(some 108), (.mv (.t 13)), (some (107, true))⟩, false, [], []⟩,
 ⟨⟨(some 109), (.bin .eql (.t 108) (.c (.int .i64 9))), (some (107, true))⟩, false, [], []⟩,
 ⟨⟨some 110, .pick (.t 107) (.t 109) (.c (.bool false)), none⟩, false, [], []⟩,
 ⟨⟨some 111, .mv (.t 110), none⟩, false, [], []⟩,
 ⟨⟨(some 112), (.mv (.t 15)), (some (111, true))⟩, false, [], []⟩,
 ⟨⟨(some 113), (.bin .eql (.t 112) (.c (.int .i64 0))), (some (111, true))⟩, false, [], []⟩,
 ⟨⟨some 114, .pick (.t 111) (.t 113) (.c (.bool false)), none⟩, false, [], []⟩,
 ⟨⟨some 115, .mv (.t 114), none⟩, false, [], []⟩,
 ⟨⟨(some 116), (.mv (.t 17)), (some (115, true))⟩, false, [], []⟩,
 ⟨⟨(some 117), (.bin .eql (.t 116) (.c (.int .i64 0))), (some (115, true))⟩, false, [], []⟩,
 ⟨⟨some 118, .pick (.t 115) (.t 117) (.c (.bool false)), none⟩, false, [], []⟩,
 ⟨⟨some 119, .mv (.t 118), none⟩, false, [], []⟩,
 ⟨⟨(some 120), (.mv (.t 19)), (some (119, true))⟩, false, [], []⟩,
 ⟨⟨(some 121), (.bin .eql (.t 120) (.c (.int .i64 0))), (some (119, true))⟩, false, [], []⟩,
 ⟨⟨some 122, .pick (.t 119) (.t 121) (.c (.bool false)), none⟩, false, [], []⟩,
 ⟨⟨some 123, .mv (.t 122), none⟩, false, [], []⟩,
 ⟨⟨(some 124), (.mv (.t 21)), (some (123, true))⟩, false, [], []⟩,
 ⟨⟨(some 125), (.bin .eql (.t 124) (.c (.int .i64 0))), (some (123, true))⟩, false, [], []⟩,
 ⟨⟨some 126, .pick (.t 123) (.t 125) (.c (.bool false)), none⟩, false, [], []⟩,
 ⟨⟨some 127, .mv (.t 126), none⟩, false, [], []⟩,
 ⟨⟨(some 128), (.mv (.t 23)), (some (127, true))⟩, false, [], []⟩,
 ⟨⟨(some 129), (.bin .eql (.t 128) (.c (.int .i64 0))), (some (127, true))⟩, false, [], []⟩,
 ⟨⟨some 130, .pick (.t 127) (.t 129) (.c (.bool false)), none⟩, false, [], []⟩,
 ⟨⟨some 131, .mv (.t 130), none⟩, false, [], []⟩,
 ⟨⟨(some 132), (.mv (.t 26)), (some (131, true))⟩, false, [], []⟩,
 ⟨⟨(some 133), (.bin .eql (.t 132) (.c (.int .i64 0))), (some (131, true))⟩, false, [], []⟩,
 ⟨⟨some 134, .pick (.t 131) (.t 133) (.c (.bool false)), none⟩, false, [], []⟩,
 ⟨⟨some 135, .mv (.t 134), none⟩, false, [], []⟩,
 ⟨⟨(some 136), (.ld true 2 (.t 3)), (some (135, true))⟩, false, [⟨(some 136), (.ld true 2 (.t 3)), (some (135, true))⟩], []⟩,
 ⟨⟨(some 137), (.call (.c (.func 75 [] [])) [(.c (.int .i64 45)), (.c (.int .i64 70))]), (some (135, true))⟩, true, [⟨(some 136), (.ld true 2 (.t 3)), (some (135, true))⟩], []⟩,
 ⟨⟨(some 138), (.eqv (.ag [.i, .i]) false (.t 136) (.t 137)), (some (135, true))⟩, false, [], []⟩,
 ⟨⟨some 139, .pick (.t 135) (.t 138) (.c (.bool false)), none⟩, false, [], []⟩,
 ⟨⟨some 140, .mv (.t 139), none⟩, false, [], []⟩,
 ⟨⟨(some 141), (.mv (.t 5)), (some (140, true))⟩, false, [], []⟩,
 ⟨⟨(some 142), (.bin .eql (.t 141) (.c (.int .i64 1))), (some (140, true))⟩, false, [], []⟩,
 ⟨⟨some 143, .pick (.t 140) (.t 142) (.c (.bool false)), none⟩, false, [], []⟩,
 ⟨⟨some 144, .mv (.t 143), none⟩, false, [], []⟩,
 ⟨⟨(some 145), (.mv (.t 7)), (some (144, true))⟩, false, [], []⟩,
 ⟨⟨(some 146), (.bin .eql (.t 145) (.c (.int .i64 0))), (some (144, true))⟩, false, [], []⟩,
 ⟨⟨some 147, .pick (.t 144) (.t 146) (.c (.bool false)), none⟩, false, [], []⟩,
 ⟨⟨some 148, .mv (.t 147), none⟩, false, [], []⟩,
 ⟨⟨(some 149), (.ld true 2 (.t 9)), (some (148, true))⟩, false, [⟨(some 149), (.ld true 2 (.t 9)), (some (148, true))⟩], []⟩,
 ⟨⟨(some 150), (.bldS 1 3 [(.int .i64 0)] [(0, 1, (.c (.int .i64 (-1)))), (1, 1, (.c (.int .i64 0))), (2, 1, (.c (.int .i64 2)))]), (some (148, true))⟩, false, [], []⟩,
 ⟨⟨(some 151), (.call (.c (.func 74 [] [])) [(.c (.int .i64 1)), (.t 150)]), (some (148, true))⟩, true, [⟨(some 149), (.ld true 2 (.t 9)), (some (148, true))⟩], []⟩,
 ⟨⟨(some 152), (.call (.c (.func 76 [] [])) [(.t 149), (.t 151)]), (some (148, true))⟩, true, [], []⟩,
 ⟨⟨some 153, .pick (.t 148) (.t 152) (.c (.bool false)), none⟩, false, [], []⟩,
 ⟨⟨some 154, .mv (.t 153), none⟩, false, [], []⟩,
 ⟨⟨(some 155), (.mv (.t 10)), (some (154, true))⟩, false, [], []⟩,
 ⟨⟨(some 156), (.bin .eql (.t 155) (.c (.int .i64 12))), (some (154, true))⟩, false, [], []⟩,
 ⟨⟨some 157, .pick (.t 154) (.t 156) (.c (.bool false)), none⟩, false, [], []⟩,
 ⟨⟨some 158, .mv (.t 157), none⟩, false, [], []⟩,
 ⟨⟨(some 159), (.mv (.t 14)), (some (158, true))⟩, false, [], []⟩,
 ⟨⟨(some 160), (.bldS 1 2 [(.int .i64 0)] [(0, 1, (.c (.int .i64 350))), (1, 1, (.c (.int .i64 320)))]), (some (158, true))⟩, false, [], []⟩,
 ⟨⟨(some 161), (.call (.c (.func 77 [] [])) [(.t 159), (.t 160)]), (some (158, true))⟩, true, [], []⟩,
 ⟨⟨some 162, .pick (.t 158) (.t 161) (.c (.bool false)), none⟩, false, [], []⟩,
 ⟨⟨some 163, .mv (.t 162), none⟩, false, [], []⟩,
 ⟨⟨(some 164), (.mv (.t 16)), (some (163, true))⟩, false, [], []⟩,
 ⟨⟨(some 165), (.bldS 1 1 [(.int .i64 0)] [(0, 1, (.c (.int .i64 0)))]), (some (163, true))⟩, false, [], []⟩,
 ⟨⟨(some 166), (.call (.c (.func 77 [] [])) [(.t 164), (.t 165)]), (some (163, true))⟩, true, [], []⟩,
 ⟨⟨some 167, .pick (.t 163) (.t 166) (.c (.bool false)), none⟩, false, [], []⟩,
 ⟨⟨some 168, .mv (.t 167), none⟩, false, [], []⟩,
 ⟨⟨(some 169), (.mv (.t 18)), (some (168, true))⟩, false, [], []⟩,
 ⟨⟨(some 170), (.bldS 1 1 [(.int .i64 0)] [(0, 1, (.c (.int .i64 0)))]), (some (168, true))⟩, false, [], []⟩,
 ⟨⟨(some 171), (.call (.c (.func 77 [] [])) [(.t 169), (.t 170)]), (some (168, true))⟩, true, [], []⟩,
 ⟨⟨some 172, .pick (.t 168) (.t 171) (.c (.bool false)), none⟩, false, [], []⟩,
 ⟨⟨some 173, .mv (.t 172), none⟩, false, [], []⟩,
 ⟨⟨(some 174), (.mv (.t 20)), (some (173, true))⟩, false, [], []⟩,
 ⟨⟨(some 175), (.len false (.t 174)), (some (173, true))⟩, false, [], []⟩,
 ⟨⟨(some 176), (.bin .eql (.t 175) (.c (.int .i64 0))), (some (173, true))⟩, false, [], []⟩,
 ⟨⟨some 177, .pick (.t 173) (.t 176) (.c (.bool false)), none⟩, false, [], []⟩,
 ⟨⟨some 178, .mv (.t 177), none⟩, false, [], []⟩,
 ⟨⟨(some 179), (.mv (.t 22)), (some (178, true))⟩, false, [], []⟩,
 ⟨⟨(some 180), (.bin .eql (.t 179) (.c (.int .i64 1))), (some (178, true))⟩, false, [], []⟩,
 ⟨⟨some 181, .pick (.t 178) (.t 180) (.c (.bool false)), none⟩, false, [], []⟩,
 ⟨⟨some 182, .mv (.t 181), none⟩, false, [], []⟩,
 ⟨⟨(some 183), (.mv (.t 24)), (some (182, true))⟩, false, [], []⟩,
 ⟨⟨(some 184), (.bin .eql (.t 183) (.c (.int .i64 1))), (some (182, true))⟩, false, [], []⟩,
 ⟨⟨some 185, .pick (.t 182) (.t 184) (.c (.bool false)), none⟩, false, [], []⟩,
 ⟨⟨some 186, .mv (.t 185), none⟩, false, [], []⟩,
 ⟨⟨(some 187), (.mv (.t 25)), (some (186, true))⟩, false, [], []⟩,
 ⟨⟨(some 188), (.bin .eql (.t 187) (.c (.int .i64 0))), (some (186, true))⟩, false, [], []⟩,
 ⟨⟨some 189, .pick (.t 186) (.t 188) (.c (.bool false)), none⟩, false, [], []⟩,
 ⟨⟨some 0, .mv (.t 189), none⟩, false, [], []⟩])
 .ret)))))))))))))), [.tmp 0]⟩
theorem c39 : compFun Tryz.prog Tryz.f39 = some ir39 := by kernel_rfl
def ir40 : IFun := ⟨28, (.seq (.region [⟨some 3, .box (.t 1), none⟩])
 (.seq (.region [⟨some 4, .mv (.t 0), none⟩,
 ⟨some 5, .fa (.t 3) 0, none⟩,
 ⟨some 6, .ld true 2 (.t 5), none⟩,
 ⟨some 7, .call (.c (.func 13 [] [])) [(.t 4), (.t 6)], none⟩])
 (.seq (.region [⟨some 8, .mv (.t 0), none⟩,
 ⟨some 9, .fa (.t 3) 2, none⟩,
 ⟨some 10, .ld false 1 (.t 9), none⟩,
 ⟨some 11, .call (.c (.func 8 [] [])) [(.t 8), (.t 10)], none⟩])
 (.seq (.region [⟨some 12, .mv (.t 0), none⟩,
 ⟨some 13, .fa (.t 3) 3, none⟩,
 ⟨some 14, .ld false 1 (.t 13), none⟩,
 ⟨some 15, .call (.c (.func 18 [] [])) [(.t 12), (.t 14)], none⟩])
 (.seq (.region [⟨some 16, .mv (.t 0), none⟩,
 ⟨some 17, .fa (.t 3) 4, none⟩,
 ⟨some 18, .ld false 1 (.t 17), none⟩,
 ⟨some 19, .call (.c (.func 78 [] [])) [(.t 16), (.t 18)], none⟩])
 (.seq (.region [⟨some 20, .mv (.t 0), none⟩,
 ⟨some 21, .fa (.t 3) 5, none⟩,
 ⟨some 22, .ld false 1 (.t 21), none⟩,
 ⟨some 23, .call (.c (.func 79 [] [])) [(.t 20), (.t 22)], none⟩])
 (.region [⟨some 24, .mv (.t 0), none⟩,
 ⟨some 25, .fa (.t 3) 6, none⟩,
 ⟨some 26, .ld false 1 (.t 25), none⟩,
 ⟨some 27, .call (.c (.func 18 [] [])) [(.t 24), (.t 26)], none⟩]))))))), []⟩
theorem c40 : compFun Tryz.prog Tryz.f40 = some ir40 := by kernel_rfl
def ir41 : IFun := ⟨22, (.seq (.region [⟨some 3, .box (.t 0), none⟩,
 ⟨some 6, .mv (.c (.int .i64 0)), none⟩])
 (.seq (.block 0
 (.seq (.region [⟨some 8, .mv (.t 1), none⟩,
 ⟨some 9, .mv (.t 2), none⟩,
 ⟨some 10, .fa (.t 3) 0, none⟩,
 ⟨some 11, .ld false 1 (.t 10), none⟩,
 ⟨some 12, .fa (.t 3) 1, none⟩,
 ⟨some 13, .ld false 1 (.t 12), none⟩,
 ⟨some 14, .bldS 1 2 [(.int .i64 0)] [(0, 1, (.t 11)), (1, 1, (.t 13))], none⟩,
 ⟨some 15, .call (.c (.func 42 [] [])) [(.t 8), (.t 9), (.t 14)], none⟩,
 ⟨some 7, .mv (.t 15), none⟩])
 (.cond (.t 7)
 (.seq (.region [⟨some 6, .mv (.c (.int .i64 7)), none⟩])
 .ret)
 (.seq (.region [⟨some 17, .fa (.t 3) 0, none⟩,
 ⟨some 18, .ld false 1 (.t 17), none⟩,
 ⟨some 19, .fa (.t 3) 1, none⟩,
 ⟨some 20, .ld false 1 (.t 19), none⟩,
 ⟨some 21, .bin .gtr (.t 18) (.t 20), none⟩,
 ⟨some 16, .mv (.t 21), none⟩])
 (.cond (.t 16)
 (.seq (.region [⟨some 6, .mv (.c (.int .i64 2)), none⟩])
 .ret)
 .skip)))))
 (.seq (.region [⟨some 6, .mv (.c (.int .i64 0)), none⟩])
 .ret))), [.tmp 6]⟩
theorem c41 : compFun Tryz.prog Tryz.f41 = some ir41 := by kernel_rfl
def ir42 : IFun := ⟨10, (.seq (.region [⟨some 3, .box (.t 0), none⟩,
 ⟨some 4, .box (.t 1), none⟩,
 ⟨some 6, .mv (.c (.bool false)), none⟩])
 (.seq (.region [⟨some 7, .mv (.t 2), none⟩,
 ⟨some 8, .mkfn 81 [] [(.t 3), (.t 4)], none⟩,
 ⟨some 9, .call (.c (.func 80 [] [])) [(.t 7), (.t 8)], none⟩,
 ⟨some 6, .mv (.t 9), none⟩])
 .ret)), [.tmp 6]⟩
theorem c42 : compFun Tryz.prog Tryz.f42 = some ir42 := by kernel_rfl
def ir43 : IFun := ⟨31, (.seq (.region [⟨some 6, .mv (.c (.int .i64 0)), none⟩,
 ⟨some 7, .mv (.c (.int .i64 0)), none⟩])
 (.seq (.seq (.region [⟨some 11, .mv (.t 0), none⟩,
 ⟨some 12, .len false (.t 11), none⟩,
 ⟨some 13, .mv (.t 1), none⟩,
 ⟨some 14, .bin .gtr (.t 12) (.t 13), none⟩])
 (.cond (.t 14)
 (.seq (.region [⟨some 6, .mv (.c (.int .i64 0)), none⟩,
 ⟨some 7, .mv (.c (.int .i64 3)), none⟩])
 .ret)
 .skip))
 (.seq (.seq (.region [⟨some 15, .mv (.t 0), none⟩,
 ⟨some 16, .len false (.t 15), none⟩,
 ⟨some 17, .mv (.c (.int .i64 0)), none⟩])
 (.block 0
 (.loop
 (.seq (.region [⟨some 18, .bin .lss (.t 17) (.t 16), none⟩])
 (.seq (.cond (.t 18)
 .skip
 (.exit 0))
 (.seq (.block 1
 (.seq (.region [⟨some 19, .mv (.t 17), none⟩,
 ⟨some 20, .ia 1 (.t 15) (.t 17), none⟩,
 ⟨some 21, .ld false 1 (.t 20), none⟩,
 ⟨some 8, .mv (.t 19), none⟩,
 ⟨some 9, .mv (.t 21), none⟩])
 (.seq (.region [⟨some 22, .mv (.t 2), none⟩,
 ⟨some 23, .mv (.t 8), none⟩,
 ⟨some 24, .mv (.t 9), none⟩,
 ⟨some 25, .call (.t 22) [(.t 23), (.t 24)], none⟩,
 ⟨some 10, .mv (.t 25), none⟩])
 (.seq (.region [⟨some 26, .mv (.t 10), none⟩,
 ⟨some 27, .bin .neq (.t 26) (.c (.int .i64 0)), none⟩])
 (.cond (.t 27)
 (.seq (.region [⟨some 28, .mv (.t 8), none⟩,
 ⟨some 29, .mv (.t 10), none⟩,
 ⟨some 6, .mv (.t 28), none⟩,
 ⟨some 7, .mv (.t 29), none⟩])
 .ret)
 .skip)))))
 (.region [⟨some 30, .bin .add (.t 17) (.c (.int .i64 1)), none⟩,
 ⟨some 17, .mv (.t 30), none⟩])))))))
 (.seq (.region [⟨some 6, .mv (.c (.int .i64 0)), none⟩,
 ⟨some 7, .mv (.c (.int .i64 0)), none⟩])
 .ret)))), [.tmp 6, .tmp 7]⟩
theorem c43 : compFun Tryz.prog Tryz.f43 = some ir43 := by kernel_rfl
def ir44 : IFun := ⟨6, (.seq (.region [⟨some 2, .box (.t 0), none⟩,
 ⟨some 3, .box (.t 1), none⟩,
 ⟨some 4, .mv (.c .nilfunc), none⟩])
 (.seq (.region [⟨some 5, .mkfn 82 [] [(.t 2), (.t 3)], none⟩,
 ⟨some 4, .mv (.t 5), none⟩])
 .ret)), [.tmp 4]⟩
theorem c44 : compFun Tryz.prog Tryz.f44 = some ir44 := by kernel_rfl
def ir45 : IFun := ⟨31, (.seq (.region [⟨some 6, .mv (.c (.int .i64 0)), none⟩,
 ⟨some 7, .mv (.c (.int .i64 0)), none⟩])
 (.seq (.seq (.region [⟨some 11, .mv (.t 0), none⟩,
 ⟨some 12, .len false (.t 11), none⟩,
 ⟨some 13, .mv (.t 1), none⟩,
 ⟨some 14, .bin .gtr (.t 12) (.t 13), none⟩])
 (.cond (.t 14)
 (.seq (.region [⟨some 6, .mv (.c (.int .i64 0)), none⟩,
 ⟨some 7, .mv (.c (.int .i64 3)), none⟩])
 .ret)
 .skip))
 (.seq (.seq (.region [⟨some 15, .mv (.t 0), none⟩,
 ⟨some 16, .len false (.t 15), none⟩,
 ⟨some 17, .mv (.c (.int .i64 0)), none⟩])
 (.block 0
 (.loop
 (.seq (.region [⟨some 18, .bin .lss (.t 17) (.t 16), none⟩])
 (.seq (.cond (.t 18)
 .skip
 (.exit 0))
 (.seq (.block 1
 (.seq (.region [⟨some 19, .mv (.t 17), none⟩,
 ⟨some 20, .ia 4 (.t 15) (.t 17), none⟩,
 ⟨some 21, .ld true 4 (.t 20), none⟩,
 ⟨some 9, .alloc (.agg [(.str []), (.bool false), .nilslice, (.int .i64 0)]), none⟩,
 ⟨some 8, .mv (.t 19), none⟩,
 ⟨none, .st 4 (.t 9) (.t 21), none⟩])
 (.seq (.region [⟨some 22, .mv (.t 2), none⟩,
 ⟨some 23, .mv (.t 8), none⟩,
 ⟨some 24, .ld true 4 (.t 9), none⟩,
 ⟨some 25, .call (.t 22) [(.t 23), (.t 24)], none⟩,
 ⟨some 10, .mv (.t 25), none⟩])
 (.seq (.region [⟨some 26, .mv (.t 10), none⟩,
 ⟨some 27, .bin .neq (.t 26) (.c (.int .i64 0)), none⟩])
 (.cond (.t 27)
 (.seq (.region [⟨some 28, .mv (.t 8), none⟩,
 ⟨some 29, .mv (.t 10), none⟩,
 ⟨some 6, .mv (.t 28), none⟩,
 ⟨some 7, .mv (.t 29), none⟩])
 .ret)
 .skip)))))
 (.region [⟨some 30, .bin .add (.t 17) (.c (.int .i64 1)), none⟩,
 ⟨some 17, .mv (.t 30), none⟩])))))))
 (.seq (.region [⟨some 6, .mv (.c (.int .i64 0)), none⟩,
 ⟨some 7, .mv (.c (.int .i64 0)), none⟩])
 .ret)))), [.tmp 6, .tmp 7]⟩
theorem c45 : compFun Tryz.prog Tryz.f45 = some ir45 := by kernel_rfl
def ir46 : IFun := ⟨47, (.seq (.region [⟨some 4, .box (.t 1), none⟩,
 ⟨some 5, .mv (.c (.int .i64 0)), none⟩])
 (.seq (.block 0
 (.seq (.region [⟨some 9, .fa (.t 4) 0, none⟩,
 ⟨some 10, .ld false 1 (.t 9), none⟩,
 ⟨some 11, .call (.c (.func 47 [] [])) [(.t 10)], none⟩,
 ⟨some 12, .un .not (.t 11), none⟩,
 ⟨some 8, .mv (.t 12), none⟩])
 (.cond (.t 8)
 (.seq (.region [⟨some 5, .mv (.c (.int .i64 6)), none⟩])
 .ret)
 (.seq (.region [⟨some 14, .fa (.t 2) 4, none⟩,
 ⟨some 15, .ld false 1 (.t 14), none⟩,
 ⟨some 16, .mv (.t 0), none⟩,
 ⟨some 17, .slc 4 (.t 15) none (some (.t 16)) none, none⟩,
 ⟨some 18, .mkfn 49 [] [(.t 4)], none⟩,
 ⟨some 19, .call (.c (.func 48 [] [])) [(.t 17), (.t 18)], none⟩,
 ⟨some 13, .mv (.t 19), none⟩])
 (.cond (.t 13)
 (.seq (.region [⟨some 5, .mv (.c (.int .i64 5)), none⟩])
 .ret)
 (.seq (.region [⟨some 21, .fa (.t 4) 2, none⟩,
 ⟨some 22, .ld false 1 (.t 21), none⟩,
 ⟨some 23, .len false (.t 22), none⟩,
 ⟨some 24, .fa (.t 2) 2, none⟩,
 ⟨some 25, .ld false 1 (.t 24), none⟩,
 ⟨some 26, .bin .neq (.t 23) (.t 25), none⟩,
 ⟨some 20, .mv (.t 26), none⟩])
 (.cond (.t 20)
 (.seq (.region [⟨some 5, .mv (.c (.int .i64 3)), none⟩])
 .ret)
 .skip)))))))
 (.seq (.seq (.region [⟨some 28, .fa (.t 4) 2, none⟩,
 ⟨some 29, .ld false 1 (.t 28), none⟩,
 ⟨some 30, .fa (.t 2) 2, none⟩,
 ⟨some 31, .ld false 1 (.t 30), none⟩,
 ⟨some 32, .call (.c (.func 50 [] [])) [(.t 29), (.t 31), (.c (.func 51 [] []))], none⟩,
 ⟨some 27, .mv (.t 32), none⟩,
 ⟨some 33, .ext (.t 27) 0, none⟩,
 ⟨some 34, .ext (.t 27) 1, none⟩,
 ⟨some 6, .mv (.t 33), none⟩,
 ⟨some 7, .mv (.t 34), none⟩])
 (.seq (.region [⟨some 35, .mv (.t 7), none⟩,
 ⟨some 36, .bin .neq (.t 35) (.c (.int .i64 0)), none⟩])
 (.cond (.t 36)
 (.seq (.region [⟨some 37, .mv (.t 7), none⟩,
 ⟨some 5, .mv (.t 37), none⟩])
 .ret)
 .skip)))
 (.seq (.seq (.draw [⟨⟨some 38, .fa (.t 2) 3, none⟩, false, [], []⟩,
 ⟨⟨some 39, .ld false 1 (.t 38), none⟩, false, [⟨some 39, .ld false 1 (.t 38), none⟩], []⟩,
 ⟨⟨some 40, .len false (.t 39), none⟩, false, [], []⟩,
 ⟨⟨some 41, .bin .shl (.c (.int .i64 1)) (.t 40), none⟩, false, [], []⟩,
 ⟨⟨some 42, .bin .sub (.t 41) (.c (.int .i64 1)), none⟩, false, [], []⟩,
 ⟨⟨some 43, .fa (.t 4) 3, none⟩, false, [], []⟩,
 ⟨⟨some 44, .ld false 1 (.t 43), none⟩, false, [⟨some 44, .ld false 1 (.t 43), none⟩], []⟩,
 ⟨⟨some 45, .bldS 1 1 [(.int .i64 0)] [(0, 1, (.t 44))], none⟩, false, [], []⟩,
 ⟨⟨some 46, .call (.c (.func 42 [] [])) [(.c (.int .i64 0)), (.t 42), (.t 45)], none⟩, true, [], []⟩])
 (.cond (.t 46)
 (.seq (.region [⟨some 5, .mv (.c (.int .i64 4)), none⟩])
 .ret)
 .skip))
 (.seq (.region [⟨some 5, .mv (.c (.int .i64 0)), none⟩])
 .ret))))), [.tmp 5]⟩
theorem c46 : compFun Tryz.prog Tryz.f46 = some ir46 := by kernel_rfl
def ir47 : IFun := ⟨43, (.seq (.region [⟨some 2, .mv (.c (.bool false)), none⟩])
 (.seq (.seq (.region [⟨some 6, .mv (.t 0), none⟩,
 ⟨some 7, .rng (.t 6), none⟩])
 (.block 0
 (.loop
 (.seq (.region [⟨some 8, .nxt (.t 7), none⟩,
 ⟨some 9, .ext (.t 8) 0, none⟩])
 (.seq (.cond (.t 9)
 .skip
 (.exit 0))
 (.block 1
 (.seq (.region [⟨some 10, .ext (.t 8) 1, none⟩,
 ⟨some 11, .ext (.t 8) 2, none⟩,
 ⟨some 3, .mv (.t 10), none⟩,
 ⟨some 4, .mv (.t 11), none⟩])
 (.seq (.region [⟨some 12, .mv (.t 4), none⟩,
 ⟨some 13, .bin .leq (.c (.int .i32 97)) (.t 12), none⟩,
 ⟨some 14, .mv (.t 13), none⟩,
 ⟨(some 15), (.mv (.t 4)), (some (14, true))⟩,
 ⟨(some 16), (.bin .leq (.t 15) (.c (.int .i32 122))), (some (14, true))⟩,
 ⟨some 17, .pick (.t 14) (.t 16) (.c (.bool false)), none⟩,
 ⟨some 5, .mv (.t 17), none⟩])
 (.seq (.region [⟨some 18, .mv (.t 5), none⟩,
 ⟨some 19, .un .not (.t 18), none⟩,
 ⟨some 20, .mv (.t 19), none⟩,
 ⟨(some 21), (.mv (.t 3)), (some (20, true))⟩,
 ⟨(some 22), (.bin .eql (.t 21) (.c (.int .i64 0))), (some (20, true))⟩,
 ⟨(some 23), (.mv (.t 22)), (some (20, true))⟩,
 ⟨(some 24), (.mv (.t 4)), (some (23, false))⟩,
 ⟨(some 25), (.bin .neq (.t 24) (.c (.int .i32 46))), (some (23, false))⟩,
 ⟨(some 26), (.mv (.t 25)), (some (23, false))⟩,
 ⟨(some 27), (.mv (.t 4)), (some (26, true))⟩,
 ⟨(some 28), (.bin .lss (.t 27) (.c (.int .i32 48))), (some (26, true))⟩,
 ⟨(some 29), (.mv (.t 28)), (some (26, true))⟩,
 ⟨(some 30), (.mv (.t 4)), (some (29, false))⟩,
 ⟨(some 31), (.bin .gtr (.t 30) (.c (.int .i32 57))), (some (29, false))⟩,
 ⟨(some 32), (.pick (.t 29) (.c (.bool true)) (.t 31)), (some (26, true))⟩,
 ⟨(some 33), (.pick (.t 26) (.t 32) (.c (.bool false))), (some (23, false))⟩,
 ⟨(some 34), (.pick (.t 23) (.c (.bool true)) (.t 33)), (some (20, true))⟩,
 ⟨some 35, .pick (.t 20) (.t 34) (.c (.bool false)), none⟩])
 (.cond (.t 35)
 (.seq (.region [⟨some 2, .mv (.c (.bool false)), none⟩])
 .ret)
 .skip))))))))))
 (.seq (.region [⟨some 36, .mv (.t 0), none⟩,
 ⟨some 37, .bin .neq (.t 36) (.c (.str [])), none⟩,
 ⟨some 38, .mv (.t 37), none⟩,
 ⟨(some 39), (.mv (.t 0)), (some (38, true))⟩,
 ⟨(some 40), (.len true (.t 39)), (some (38, true))⟩,
 ⟨(some 41), (.bin .leq (.t 40) (.c (.int .i64 16))), (some (38, true))⟩,
 ⟨some 42, .pick (.t 38) (.t 41) (.c (.bool false)), none⟩,
 ⟨some 2, .mv (.t 42), none⟩])
 .ret))), [.tmp 2]⟩
theorem c47 : compFun Tryz.prog Tryz.f47 = some ir47 := by kernel_rfl
def ir48 : IFun := ⟨9, (.seq (.region [⟨some 4, .mv (.c (.bool false)), none⟩])
 (.seq (.region [⟨some 5, .mv (.t 0), none⟩,
 ⟨some 6, .mv (.t 1), none⟩,
 ⟨some 7, .call (.c (.func 83 [] [])) [(.t 5), (.t 6)], none⟩,
 ⟨some 8, .bin .geq (.t 7) (.c (.int .i64 0)), none⟩,
 ⟨some 4, .mv (.t 8), none⟩])
 .ret)), [.tmp 4]⟩
theorem c48 : compFun Tryz.prog Tryz.f48 = some ir48 := by kernel_rfl
def ir49 : IFun := ⟨9, (.seq (.region [⟨some 2, .box (.t 0), none⟩,
 ⟨some 3, .mv (.c (.bool false)), none⟩])
 (.seq (.region [⟨some 4, .fa (.t 2) 0, none⟩,
 ⟨some 5, .ld false 1 (.t 4), none⟩,
 ⟨some 6, .fa (.t 1) 0, none⟩,
 ⟨some 7, .ld false 1 (.t 6), none⟩,
 ⟨some 8, .bin .eql (.t 5) (.t 7), none⟩,
 ⟨some 3, .mv (.t 8), none⟩])
 .ret)), [.tmp 3]⟩
theorem c49 : compFun Tryz.prog Tryz.f49 = some ir49 := by kernel_rfl
def ir50 : IFun := ⟨31, (.seq (.region [⟨some 6, .mv (.c (.int .i64 0)), none⟩,
 ⟨some 7, .mv (.c (.int .i64 0)), none⟩])
 (.seq (.seq (.region [⟨some 11, .mv (.t 0), none⟩,
 ⟨some 12, .len false (.t 11), none⟩,
 ⟨some 13, .mv (.t 1), none⟩,
 ⟨some 14, .bin .gtr (.t 12) (.t 13), none⟩])
 (.cond (.t 14)
 (.seq (.region [⟨some 6, .mv (.c (.int .i64 0)), none⟩,
 ⟨some 7, .mv (.c (.int .i64 3)), none⟩])
 .ret)
 .skip))
 (.seq (.seq (.region [⟨some 15, .mv (.t 0), none⟩,
 ⟨some 16, .len false (.t 15), none⟩,
 ⟨some 17, .mv (.c (.int .i64 0)), none⟩])
 (.block 0
 (.loop
 (.seq (.region [⟨some 18, .bin .lss (.t 17) (.t 16), none⟩])
 (.seq (.cond (.t 18)
 .skip
 (.exit 0))
 (.seq (.block 1
 (.seq (.region [⟨some 19, .mv (.t 17), none⟩,
 ⟨some 20, .ia 2 (.t 15) (.t 17), none⟩,
 ⟨some 21, .ld true 2 (.t 20), none⟩,
 ⟨some 9, .alloc (.agg [(.int .i64 0), (.int .i64 0)]), none⟩,
 ⟨some 8, .mv (.t 19), none⟩,
 ⟨none, .st 2 (.t 9) (.t 21), none⟩])
 (.seq (.region [⟨some 22, .mv (.t 2), none⟩,
 ⟨some 23, .mv (.t 8), none⟩,
 ⟨some 24, .ld true 2 (.t 9), none⟩,
 ⟨some 25, .call (.t 22) [(.t 23), (.t 24)], none⟩,
 ⟨some 10, .mv (.t 25), none⟩])
 (.seq (.region [⟨some 26, .mv (.t 10), none⟩,
 ⟨some 27, .bin .neq (.t 26) (.c (.int .i64 0)), none⟩])
 (.cond (.t 27)
 (.seq (.region [⟨some 28, .mv (.t 8), none⟩,
 ⟨some 29, .mv (.t 10), none⟩,
 ⟨some 6, .mv (.t 28), none⟩,
 ⟨some 7, .mv (.t 29), none⟩])
 .ret)
 .skip)))))
 (.region [⟨some 30, .bin .add (.t 17) (.c (.int .i64 1)), none⟩,
 ⟨some 17, .mv (.t 30), none⟩])))))))
 (.seq (.region [⟨some 6, .mv (.c (.int .i64 0)), none⟩,
 ⟨some 7, .mv (.c (.int .i64 0)), none⟩])
 .ret)))), [.tmp 6, .tmp 7]⟩
theorem c50 : compFun Tryz.prog Tryz.f50 = some ir50 := by kernel_rfl
def ir51 : IFun := ⟨7, (.seq (.region [⟨some 3, .box (.t 1), none⟩,
 ⟨some 4, .mv (.c (.int .i64 0)), none⟩])
 (.seq (.region [⟨some 5, .ld true 2 (.t 3), none⟩,
 ⟨some 6, .call (.c (.func 41 [] [])) [(.t 5), (.c (.int .i64 0)), (.c (.int .i64 60))], none⟩,
 ⟨some 4, .mv (.t 6), none⟩])
 .ret)), [.tmp 4]⟩
theorem c51 : compFun Tryz.prog Tryz.f51 = some ir51 := by kernel_rfl
def ir52 : IFun := ⟨31, (.seq (.region [⟨some 6, .mv (.c (.int .i64 0)), none⟩,
 ⟨some 7, .mv (.c (.int .i64 0)), none⟩])
 (.seq (.seq (.region [⟨some 11, .mv (.t 0), none⟩,
 ⟨some 12, .len false (.t 11), none⟩,
 ⟨some 13, .mv (.t 1), none⟩,
 ⟨some 14, .bin .gtr (.t 12) (.t 13), none⟩])
 (.cond (.t 14)
 (.seq (.region [⟨some 6, .mv (.c (.int .i64 0)), none⟩,
 ⟨some 7, .mv (.c (.int .i64 3)), none⟩])
 .ret)
 .skip))
 (.seq (.seq (.region [⟨some 15, .mv (.t 0), none⟩,
 ⟨some 16, .len false (.t 15), none⟩,
 ⟨some 17, .mv (.c (.int .i64 0)), none⟩])
 (.block 0
 (.loop
 (.seq (.region [⟨some 18, .bin .lss (.t 17) (.t 16), none⟩])
 (.seq (.cond (.t 18)
 .skip
 (.exit 0))
 (.seq (.block 1
 (.seq (.region [⟨some 19, .mv (.t 17), none⟩,
 ⟨some 20, .ia 6 (.t 15) (.t 17), none⟩,
 ⟨some 21, .ld true 6 (.t 20), none⟩,
 ⟨some 9, .alloc (.agg [(.str []), (.int .i64 0), (.int .i64 0), (.int .i64 0), (.int .i64 0), (.int .i64 0)]), none⟩,
 ⟨some 8, .mv (.t 19), none⟩,
 ⟨none, .st 6 (.t 9) (.t 21), none⟩])
 (.seq (.region [⟨some 22, .mv (.t 2), none⟩,
 ⟨some 23, .mv (.t 8), none⟩,
 ⟨some 24, .ld true 6 (.t 9), none⟩,
 ⟨some 25, .call (.t 22) [(.t 23), (.t 24)], none⟩,
 ⟨some 10, .mv (.t 25), none⟩])
 (.seq (.region [⟨some 26, .mv (.t 10), none⟩,
 ⟨some 27, .bin .neq (.t 26) (.c (.int .i64 0)), none⟩])
 (.cond (.t 27)
 (.seq (.region [⟨some 28, .mv (.t 8), none⟩,
 ⟨some 29, .mv (.t 10), none⟩,
 ⟨some 6, .mv (.t 28), none⟩,
 ⟨some 7, .mv (.t 29), none⟩])
 .ret)
 .skip)))))
 (.region [⟨some 30, .bin .add (.t 17) (.c (.int .i64 1)), none⟩,
 ⟨some 17, .mv (.t 30), none⟩])))))))
 (.seq (.region [⟨some 6, .mv (.c (.int .i64 0)), none⟩,
 ⟨some 7, .mv (.c (.int .i64 0)), none⟩])
 .ret)))), [.tmp 6, .tmp 7]⟩
theorem c52 : compFun Tryz.prog Tryz.f52 = some ir52 := by kernel_rfl
def ir53 : IFun := ⟨41, (.seq (.region [⟨some 4, .box (.t 1), none⟩,
 ⟨some 5, .mv (.c (.int .i64 0)), none⟩])
 (.seq (.block 0
 (.seq (.region [⟨some 7, .fa (.t 4) 0, none⟩,
 ⟨some 8, .ld false 1 (.t 7), none⟩,
 ⟨some 9, .call (.c (.func 47 [] [])) [(.t 8)], none⟩,
 ⟨some 10, .un .not (.t 9), none⟩,
 ⟨some 6, .mv (.t 10), none⟩])
 (.cond (.t 6)
 (.seq (.region [⟨some 5, .mv (.c (.int .i64 6)), none⟩])
 .ret)
 (.seq (.region [⟨some 12, .fa (.t 2) 5, none⟩,
 ⟨some 13, .ld false 1 (.t 12), none⟩,
 ⟨some 14, .mv (.t 0), none⟩,
 ⟨some 15, .slc 6 (.t 13) none (some (.t 14)) none, none⟩,
 ⟨some 16, .mkfn 55 [] [(.t 4)], none⟩,
 ⟨some 17, .call (.c (.func 54 [] [])) [(.t 15), (.t 16)], none⟩,
 ⟨some 11, .mv (.t 17), none⟩])
 (.cond (.t 11)
 (.seq (.region [⟨some 5, .mv (.c (.int .i64 5)), none⟩])
 .ret)
 (.seq (.region [⟨some 19, .fa (.t 4) 1, none⟩,
 ⟨some 20, .ld false 1 (.t 19), none⟩,
 ⟨some 21, .bldS 1 1 [(.int .i64 0)] [(0, 1, (.t 20))], none⟩,
 ⟨some 22, .call (.c (.func 42 [] [])) [(.c (.int .i64 0)), (.c (.int .i64 9)), (.t 21)], none⟩,
 ⟨some 23, .mv (.t 22), none⟩,
 ⟨(some 24), (.fa (.t 4) 2), (some (23, false))⟩,
 ⟨(some 25), (.ld false 1 (.t 24)), (some (23, false))⟩,
 ⟨(some 26), (.bldS 1 1 [(.int .i64 0)] [(0, 1, (.t 25))]), (some (23, false))⟩,
 ⟨(some 27), (.call (.c (.func 42 [] [])) [(.c (.int .i64 1)), (.c (.int .i64 500)), (.t 26)]), (some (23, false))⟩,
 ⟨some 28, .pick (.t 23) (.c (.bool true)) (.t 27), none⟩,
 ⟨some 29, .mv (.t 28), none⟩,
 ⟨(some 30), (.fa (.t 4) 5), (some (29, false))⟩,
 ⟨(some 31), (.ld false 1 (.t 30)), (some (29, false))⟩,
 ⟨(some 32), (.bldS 1 1 [(.int .i64 0)] [(0, 1, (.t 31))]), (some (29, false))⟩,
 ⟨(some 33), (.call (.c (.func 42 [] [])) [(.c (.int .i64 0)), (.c (.int .i64 100)), (.t 32)]), (some (29, false))⟩,
 ⟨some 34, .pick (.t 29) (.c (.bool true)) (.t 33), none⟩,
 ⟨some 18, .mv (.t 34), none⟩])
 (.cond (.t 18)
 (.seq (.region [⟨some 5, .mv (.c (.int .i64 7)), none⟩])
 .ret)
 .skip)))))))
 (.seq (.region [⟨some 35, .fa (.t 4) 3, none⟩,
 ⟨some 36, .ld false 1 (.t 35), none⟩,
 ⟨some 37, .fa (.t 4) 4, none⟩,
 ⟨some 38, .ld false 1 (.t 37), none⟩,
 ⟨some 39, .bld [(.int .i64 0), (.int .i64 0)] [(0, 1, (.t 36)), (1, 1, (.t 38))], none⟩,
 ⟨some 40, .call (.c (.func 41 [] [])) [(.t 39), (.c (.int .i64 (-100))), (.c (.int .i64 100))], none⟩,
 ⟨some 5, .mv (.t 40), none⟩])
 .ret))), [.tmp 5]⟩
theorem c53 : compFun Tryz.prog Tryz.f53 = some ir53 := by kernel_rfl
def ir54 : IFun := ⟨9, (.seq (.region [⟨some 4, .mv (.c (.bool false)), none⟩])
 (.seq (.region [⟨some 5, .mv (.t 0), none⟩,
 ⟨some 6, .mv (.t 1), none⟩,
 ⟨some 7, .call (.c (.func 84 [] [])) [(.t 5), (.t 6)], none⟩,
 ⟨some 8, .bin .geq (.t 7) (.c (.int .i64 0)), none⟩,
 ⟨some 4, .mv (.t 8), none⟩])
 .ret)), [.tmp 4]⟩
theorem c54 : compFun Tryz.prog Tryz.f54 = some ir54 := by kernel_rfl
def ir55 : IFun := ⟨9, (.seq (.region [⟨some 2, .box (.t 0), none⟩,
 ⟨some 3, .mv (.c (.bool false)), none⟩])
 (.seq (.region [⟨some 4, .fa (.t 2) 0, none⟩,
 ⟨some 5, .ld false 1 (.t 4), none⟩,
 ⟨some 6, .fa (.t 1) 0, none⟩,
 ⟨some 7, .ld false 1 (.t 6), none⟩,
 ⟨some 8, .bin .eql (.t 5) (.t 7), none⟩,
 ⟨some 3, .mv (.t 8), none⟩])
 .ret)), [.tmp 3]⟩
theorem c55 : compFun Tryz.prog Tryz.f55 = some ir55 := by kernel_rfl
def ir56 : IFun := ⟨20, (.seq (.region [⟨some 1, .box (.t 0), none⟩,
 ⟨some 2, .mv (.c .nilptr), none⟩,
 ⟨some 3, .mv (.c (.int .i64 0)), none⟩])
 (.seq (.region [⟨some 8, .ld true 7 (.t 1), none⟩,
 ⟨some 9, .call (.c (.func 7 [] [])) [(.t 8)], none⟩,
 ⟨some 7, .mv (.t 9), none⟩,
 ⟨some 10, .ext (.t 7) 0, none⟩,
 ⟨some 11, .ext (.t 7) 1, none⟩,
 ⟨some 12, .ext (.t 7) 2, none⟩,
 ⟨some 4, .mv (.t 10), none⟩,
 ⟨some 5, .mv (.t 11), none⟩,
 ⟨some 6, .mv (.t 12), none⟩])
 (.seq (.region [⟨some 13, .ld true 7 (.t 1), none⟩,
 ⟨some 14, .bld [(.bool false), .nilfunc] [(0, 1, (.c (.bool false))), (1, 1, (.c (.func 85 [] [])))], none⟩,
 ⟨some 15, .bld [(.bool false), .nilfunc] [(0, 1, (.c (.bool true))), (1, 1, (.c (.func 86 [] [])))], none⟩,
 ⟨some 16, .bldS 2 2 [(.bool false), .nilfunc] [(0, 2, (.t 14)), (2, 2, (.t 15))], none⟩,
 ⟨some 17, .bld [(.int .i64 0), (.int .i64 0), (.int .i64 0), .nilslice, .nilslice, .nilslice, .nilslice, .nilslice] [(0, 7, (.t 13)), (7, 1, (.t 16))], none⟩,
 ⟨some 18, .box (.t 17), none⟩,
 ⟨some 19, .mv (.t 6), none⟩,
 ⟨some 2, .mv (.t 18), none⟩,
 ⟨some 3, .mv (.t 19), none⟩])
 .ret))), [.tmp 2, .tmp 3]⟩
theorem c56 : compFun Tryz.prog Tryz.f56 = some ir56 := by kernel_rfl
def ir57 : IFun := ⟨29, (.seq (.region [⟨some 6, .mv (.c (.int .i64 0)), none⟩])
 (.seq (.block 0
 (.seq (.region [⟨some 8, .mv (.t 0), none⟩,
 ⟨some 9, .nilck (.t 8), none⟩,
 ⟨some 10, .fa (.t 9) 0, none⟩,
 ⟨some 11, .fa (.t 10) 4, none⟩,
 ⟨some 12, .ld false 1 (.t 11), none⟩,
 ⟨some 13, .len false (.t 12), none⟩,
 ⟨some 14, .bin .sub (.t 13) (.c (.int .i64 1)), none⟩,
 ⟨some 15, .mv (.t 1), none⟩,
 ⟨some 16, .bldS 1 1 [(.int .i64 0)] [(0, 1, (.t 15))], none⟩,
 ⟨some 17, .call (.c (.func 42 [] [])) [(.c (.int .i64 0)), (.t 14), (.t 16)], none⟩,
 ⟨some 7, .mv (.t 17), none⟩])
 (.cond (.t 7)
 (.seq (.region [⟨some 6, .mv (.c (.int .i64 4)), none⟩])
 .ret)
 (.seq (.region [⟨some 19, .mv (.t 0), none⟩,
 ⟨some 20, .nilck (.t 19), none⟩,
 ⟨some 21, .fa (.t 20) 0, none⟩,
 ⟨some 22, .fa (.t 21) 2, none⟩,
 ⟨some 23, .ld false 1 (.t 22), none⟩,
 ⟨some 24, .bin .shl (.c (.int .i64 1)) (.t 23), none⟩,
 ⟨some 25, .bin .sub (.t 24) (.c (.int .i64 1)), none⟩,
 ⟨some 26, .mv (.t 2), none⟩,
 ⟨some 27, .bldS 1 1 [(.int .i64 0)] [(0, 1, (.t 26))], none⟩,
 ⟨some 28, .call (.c (.func 42 [] [])) [(.c (.int .i64 0)), (.t 25), (.t 27)], none⟩,
 ⟨some 18, .mv (.t 28), none⟩])
 (.cond (.t 18)
 (.seq (.region [⟨some 6, .mv (.c (.int .i64 7)), none⟩])
 .ret)
 .skip)))))
 (.seq (.region [⟨some 6, .mv (.c (.int .i64 0)), none⟩])
 .ret))), [.tmp 6]⟩
theorem c57 : compFun Tryz.prog Tryz.f57 = some ir57 := by kernel_rfl
def ir58 : IFun := ⟨49, (.seq (.region [⟨some 6, .alloc (.agg [(.int .i64 0), (.int .i64 0)]), none⟩])
 (.seq (.region [⟨some 10, .mv (.t 0), none⟩,
 ⟨some 11, .nilck (.t 10), none⟩,
 ⟨some 12, .fa (.t 11) 0, none⟩,
 ⟨some 13, .fa (.t 12) 0, none⟩,
 ⟨some 14, .ld true 2 (.t 13), none⟩,
 ⟨some 7, .alloc (.agg [(.int .i64 0), (.int .i64 0)]), none⟩,
 ⟨none, .st 2 (.t 7) (.t 14), none⟩])
 (.seq (.seq (.region [⟨some 15, .mv (.t 0), none⟩,
 ⟨some 16, .nilck (.t 15), none⟩,
 ⟨some 17, .fa (.t 16) 0, none⟩,
 ⟨some 18, .fa (.t 17) 4, none⟩,
 ⟨some 19, .ld false 1 (.t 18), none⟩,
 ⟨some 20, .mv (.t 1), none⟩,
 ⟨some 21, .ia 4 (.t 19) (.t 20), none⟩,
 ⟨some 22, .fa (.t 21) 2, none⟩,
 ⟨some 23, .ld false 1 (.t 22), none⟩,
 ⟨some 24, .len false (.t 23), none⟩,
 ⟨some 25, .mv (.c (.int .i64 0)), none⟩])
 (.block 0
 (.loop
 (.seq (.region [⟨some 26, .bin .lss (.t 25) (.t 24), none⟩])
 (.seq (.cond (.t 26)
 .skip
 (.exit 0))
 (.seq (.block 1
 (.seq (.region [⟨some 27, .mv (.t 25), none⟩,
 ⟨some 28, .ia 2 (.t 23) (.t 25), none⟩,
 ⟨some 29, .ld true 2 (.t 28), none⟩,
 ⟨some 9, .alloc (.agg [(.int .i64 0), (.int .i64 0)]), none⟩,
 ⟨some 8, .mv (.t 27), none⟩,
 ⟨none, .st 2 (.t 9) (.t 29), none⟩])
 (.seq (.region [⟨some 30, .mv (.t 2), none⟩,
 ⟨some 31, .mv (.t 8), none⟩,
 ⟨some 32, .bin .shr (.t 30) (.t 31), none⟩,
 ⟨some 33, .bin .and (.t 32) (.c (.int .i64 1)), none⟩,
 ⟨some 34, .bin .eql (.t 33) (.c (.int .i64 1)), none⟩])
 (.cond (.t 34)
 (.seq (.region [⟨some 35, .fa (.t 7) 0, none⟩,
 ⟨some 36, .ld false 1 (.t 35), none⟩,
 ⟨some 37, .fa (.t 9) 0, none⟩,
 ⟨some 38, .ld false 1 (.t 37), none⟩,
 ⟨some 39, .bin .add (.t 36) (.t 38), none⟩,
 ⟨some 40, .fa (.t 7) 0, none⟩,
 ⟨none, .st 1 (.t 40) (.t 39), none⟩])
 (.region [⟨some 41, .fa (.t 7) 1, none⟩,
 ⟨some 42, .ld false 1 (.t 41), none⟩,
 ⟨some 43, .fa (.t 9) 1, none⟩,
 ⟨some 44, .ld false 1 (.t 43), none⟩,
 ⟨some 45, .bin .add (.t 42) (.t 44), none⟩,
 ⟨some 46, .fa (.t 7) 1, none⟩,
 ⟨none, .st 1 (.t 46) (.t 45), none⟩]))
 .skip))))
 (.region [⟨some 47, .bin .add (.t 25) (.c (.int .i64 1)), none⟩,
 ⟨some 25, .mv (.t 47), none⟩])))))))
 (.seq (.region [⟨some 48, .ld true 2 (.t 7), none⟩,
 ⟨none, .st 2 (.t 6) (.t 48), none⟩])
 .ret)))), [.cell 6 true 2]⟩
theorem c58 : compFun Tryz.prog Tryz.f58 = some ir58 := by kernel_rfl
def ir59 : IFun := ⟨45, (.seq (.region [⟨some 8, .mv (.c (.int .i64 0)), none⟩])
 (.seq (.draw [⟨⟨some 12, .mv (.t 0), none⟩, false, [], []⟩,
 ⟨⟨some 13, .mv (.t 2), none⟩, false, [], []⟩,
 ⟨⟨some 14, .mv (.t 3), none⟩, false, [], []⟩,
 ⟨⟨some 15, .call (.c (.func 58 [] [])) [(.t 12), (.t 13), (.t 14)], none⟩, true, [], []⟩,
 ⟨⟨some 16, .mv (.t 0), none⟩, false, [], []⟩,
 ⟨⟨some 17, .nilck (.t 16), none⟩, false, [], []⟩,
 ⟨⟨some 18, .fa (.t 17) 0, none⟩, false, [], []⟩,
 ⟨⟨some 19, .fa (.t 18) 5, none⟩, false, [], []⟩,
 ⟨⟨some 20, .ld false 1 (.t 19), none⟩, false, [⟨some 20, .ld false 1 (.t 19), none⟩], [3]⟩,
 ⟨⟨some 21, .mv (.t 1), none⟩, false, [], []⟩,
 ⟨⟨some 22, .ia 6 (.t 20) (.t 21), none⟩, false, [], []⟩,
 ⟨⟨some 23, .ld true 6 (.t 22), none⟩, false, [⟨some 23, .ld true 6 (.t 22), none⟩], [3]⟩,
 ⟨⟨some 9, .alloc (.agg [(.int .i64 0), (.int .i64 0)]), none⟩, false, [], []⟩,
 ⟨⟨some 10, .alloc (.agg [(.str []), (.int .i64 0), (.int .i64 0), (.int .i64 0), (.int .i64 0), (.int .i64 0)]), none⟩, false, [], []⟩,
 ⟨⟨none, .st 2 (.t 9) (.t 15), none⟩, true, [⟨some 20, .ld false 1 (.t 19), none⟩, ⟨some 23, .ld true 6 (.t 22), none⟩], []⟩,
 ⟨⟨none, .st 6 (.t 10) (.t 23), none⟩, true, [], []⟩])
 (.seq (.region [⟨some 24, .fa (.t 9) 0, none⟩,
 ⟨some 25, .ld false 1 (.t 24), none⟩,
 ⟨some 26, .fa (.t 10) 3, none⟩,
 ⟨some 27, .ld false 1 (.t 26), none⟩,
 ⟨some 28, .mx (.t 25) [(.t 27)], none⟩,
 ⟨some 29, .fa (.t 9) 1, none⟩,
 ⟨some 30, .ld false 1 (.t 29), none⟩,
 ⟨some 31, .fa (.t 10) 4, none⟩,
 ⟨some 32, .ld false 1 (.t 31), none⟩,
 ⟨some 33, .mn (.t 30) [(.t 32)], none⟩,
 ⟨some 34, .bld [(.int .i64 0), (.int .i64 0)] [(0, 1, (.t 28)), (1, 1, (.t 33))], none⟩,
 ⟨some 11, .alloc (.agg [(.int .i64 0), (.int .i64 0)]), none⟩,
 ⟨none, .st 2 (.t 11) (.t 34), none⟩])
 (.seq (.block 0
 (.seq (.region [⟨some 36, .ld true 2 (.t 11), none⟩,
 ⟨some 37, .ld true 2 (.t 9), none⟩,
 ⟨some 38, .eqv (.ag [.i, .i]) false (.t 36) (.t 37), none⟩,
 ⟨some 35, .mv (.t 38), none⟩])
 (.cond (.t 35)
 (.seq (.region [⟨some 8, .mv (.c (.int .i64 1)), none⟩])
 .ret)
 (.seq (.region [⟨some 40, .fa (.t 11) 0, none⟩,
 ⟨some 41, .ld false 1 (.t 40), none⟩,
 ⟨some 42, .fa (.t 11) 1, none⟩,
 ⟨some 43, .ld false 1 (.t 42), none⟩,
 ⟨some 44, .bin .gtr (.t 41) (.t 43), none⟩,
 ⟨some 39, .mv (.t 44), none⟩])
 (.cond (.t 39)
 (.seq (.region [⟨some 8, .mv (.c (.int .i64 2)), none⟩])
 .ret)
 .skip)))))
 (.seq (.region [⟨some 8, .mv (.c (.int .i64 0)), none⟩])
 .ret))))), [.tmp 8]⟩
theorem c59 : compFun Tryz.prog Tryz.f59 = some ir59 := by kernel_rfl
def ir60 : IFun := ⟨77, (.seq (.region [⟨some 2, .box (.t 0), none⟩,
 ⟨some 3, .box (.t 1), none⟩,
 ⟨some 4, .mv (.c .nilptr), none⟩,
 ⟨some 5, .alloc (.agg [(.int .i64 0), (.int .i64 0), (.int .i64 0), (.int .i64 0), (.int .i64 0), (.int .i64 0)]), none⟩,
 ⟨some 6, .mv (.c (.int .i64 0)), none⟩])
 (.seq (.region [⟨some 10, .ld true 7 (.t 2), none⟩,
 ⟨some 11, .call (.c (.func 56 [] [])) [(.t 10)], none⟩,
 ⟨some 9, .mv (.t 11), none⟩,
 ⟨some 12, .ext (.t 9) 0, none⟩,
 ⟨some 13, .ext (.t 9) 1, none⟩,
 ⟨some 4, .mv (.t 12), none⟩,
 ⟨some 6, .mv (.t 13), none⟩])
 (.seq (.block 0
 (.seq (.region [⟨some 15, .mv (.t 6), none⟩,
 ⟨some 16, .bin .neq (.t 15) (.c (.int .i64 0)), none⟩,
 ⟨some 14, .mv (.t 16), none⟩])
 (.cond (.t 14)
 (.seq (.draw [⟨⟨some 17, .ld true 6 (.t 5), none⟩, false, [⟨some 17, .ld true 6 (.t 5), none⟩], []⟩,
 ⟨⟨some 18, .mv (.t 6), none⟩, false, [], []⟩,
 ⟨⟨some 4, .mv (.c .nilptr), none⟩, false, [], []⟩,
 ⟨⟨none, .st 6 (.t 5) (.t 17), none⟩, true, [], []⟩,
 ⟨⟨some 6, .mv (.t 18), none⟩, false, [], []⟩])
 .ret)
 (.seq (.draw [⟨⟨some 20, .fa (.t 2) 2, none⟩, false, [], []⟩,
 ⟨⟨some 21, .ld false 1 (.t 20), none⟩, false, [⟨some 21, .ld false 1 (.t 20), none⟩], []⟩,
 ⟨⟨some 22, .bin .shl (.c (.int .i64 1)) (.t 21), none⟩, false, [], []⟩,
 ⟨⟨some 23, .bin .sub (.t 22) (.c (.int .i64 1)), none⟩, false, [], []⟩,
 ⟨⟨some 24, .fa (.t 3) 0, none⟩, false, [], []⟩,
 ⟨⟨some 25, .ld false 1 (.t 24), none⟩, false, [⟨some 25, .ld false 1 (.t 24), none⟩], []⟩,
 ⟨⟨some 26, .bldS 1 1 [(.int .i64 0)] [(0, 1, (.t 25))], none⟩, false, [], []⟩,
 ⟨⟨some 27, .call (.c (.func 42 [] [])) [(.c (.int .i64 0)), (.t 23), (.t 26)], none⟩, true, [], []⟩,
 ⟨⟨some 19, .mv (.t 27), none⟩, false, [], []⟩])
 (.cond (.t 19)
 (.seq (.draw [⟨⟨some 28, .ld true 6 (.t 5), none⟩, false, [⟨some 28, .ld true 6 (.t 5), none⟩], []⟩,
 ⟨⟨some 4, .mv (.c .nilptr), none⟩, false, [], []⟩,
 ⟨⟨none, .st 6 (.t 5) (.t 28), none⟩, true, [], []⟩,
 ⟨⟨some 6, .mv (.c (.int .i64 7)), none⟩, false, [], []⟩])
 .ret)
 (.seq (.region [⟨some 30, .fa (.t 3) 1, none⟩,
 ⟨some 31, .ld false 1 (.t 30), none⟩,
 ⟨some 32, .len false (.t 31), none⟩,
 ⟨some 33, .fa (.t 2) 5, none⟩,
 ⟨some 34, .ld false 1 (.t 33), none⟩,
 ⟨some 35, .len false (.t 34), none⟩,
 ⟨some 36, .bin .neq (.t 32) (.t 35), none⟩,
 ⟨some 29, .mv (.t 36), none⟩])
 (.cond (.t 29)
 (.seq (.draw [⟨⟨some 37, .ld true 6 (.t 5), none⟩, false, [⟨some 37, .ld true 6 (.t 5), none⟩], []⟩,
 ⟨⟨some 4, .mv (.c .nilptr), none⟩, false, [], []⟩,
 ⟨⟨none, .st 6 (.t 5) (.t 37), none⟩, true, [], []⟩,
 ⟨⟨some 6, .mv (.c (.int .i64 3)), none⟩, false, [], []⟩])
 .ret)
 (.seq (.region [⟨some 39, .fa (.t 2) 4, none⟩,
 ⟨some 40, .ld false 1 (.t 39), none⟩,
 ⟨some 41, .len false (.t 40), none⟩,
 ⟨some 42, .bin .sub (.t 41) (.c (.int .i64 1)), none⟩,
 ⟨some 43, .fa (.t 3) 1, none⟩,
 ⟨some 44, .ld false 1 (.t 43), none⟩,
 ⟨some 45, .call (.c (.func 42 [] [])) [(.c (.int .i64 (-1))), (.t 42), (.t 44)], none⟩,
 ⟨some 38, .mv (.t 45), none⟩])
 (.cond (.t 38)
 (.seq (.draw [⟨⟨some 46, .ld true 6 (.t 5), none⟩, false, [⟨some 46, .ld true 6 (.t 5), none⟩], []⟩,
 ⟨⟨some 4, .mv (.c .nilptr), none⟩, false, [], []⟩,
 ⟨⟨none, .st 6 (.t 5) (.t 46), none⟩, true, [], []⟩,
 ⟨⟨some 6, .mv (.c (.int .i64 4)), none⟩, false, [], []⟩])
 .ret)
 .skip)))))))))
 (.seq (.region [⟨some 47, .fa (.t 3) 0, none⟩,
 ⟨some 48, .ld false 1 (.t 47), none⟩,
 ⟨some 49, .fa (.t 5) 0, none⟩,
 ⟨none, .st 1 (.t 49) (.t 48), none⟩])
 (.seq (.seq (.region [⟨some 50, .fa (.t 3) 1, none⟩,
 ⟨some 51, .ld false 1 (.t 50), none⟩,
 ⟨some 52, .len false (.t 51), none⟩,
 ⟨some 53, .mv (.c (.int .i64 0)), none⟩])
 (.block 1
 (.loop
 (.seq (.region [⟨some 54, .bin .lss (.t 53) (.t 52), none⟩])
 (.seq (.cond (.t 54)
 .skip
 (.exit 1))
 (.seq (.block 2
 (.seq (.region [⟨some 55, .mv (.t 53), none⟩,
 ⟨some 56, .ia 1 (.t 51) (.t 53), none⟩,
 ⟨some 57, .ld false 1 (.t 56), none⟩,
 ⟨some 7, .mv (.t 55), none⟩,
 ⟨some 8, .mv (.t 57), none⟩])
 (.seq (.seq (.region [⟨some 58, .mv (.t 8), none⟩,
 ⟨some 59, .bin .neq (.t 58) (.c (.int .i64 (-1))), none⟩,
 ⟨some 60, .mv (.t 59), none⟩,
 ⟨(some 61), (.fa (.t 3) 1), (some (60, true))⟩,
 ⟨(some 62), (.ld false 1 (.t 61)), (some (60, true))⟩,
 ⟨(some 63), (.mv (.t 7)), (some (60, true))⟩,
 ⟨(some 64), (.slc 1 (.t 62) none (some (.t 63)) none), (some (60, true))⟩,
 ⟨(some 65), (.mv (.t 8)), (some (60, true))⟩,
 ⟨(some 66), (.call (.c (.func 87 [] [])) [(.t 64), (.t 65)]), (some (60, true))⟩,
 ⟨some 67, .pick (.t 60) (.t 66) (.c (.bool false)), none⟩])
 (.cond (.t 67)
 (.seq (.region [⟨some 68, .bld [(.int .i64 0), (.int .i64 0), (.int .i64 0), (.int .i64 0), (.int .i64 0), (.int .i64 0)] [], none⟩,
 ⟨some 4, .mv (.c .nilptr), none⟩,
 ⟨none, .st 6 (.t 5) (.t 68), none⟩,
 ⟨some 6, .mv (.c (.int .i64 5)), none⟩])
 .ret)
 .skip))
 (.region [⟨some 69, .mv (.t 7), none⟩,
 ⟨some 70, .mv (.t 8), none⟩,
 ⟨some 71, .bin .add (.t 70) (.c (.int .i64 1)), none⟩,
 ⟨some 72, .fa (.t 5) 1, none⟩,
 ⟨some 73, .iaa 5 1 (.t 72) (.t 69), none⟩,
 ⟨none, .st 1 (.t 73) (.t 71), none⟩]))))
 (.region [⟨some 74, .bin .add (.t 53) (.c (.int .i64 1)), none⟩,
 ⟨some 53, .mv (.t 74), none⟩])))))))
 (.seq (.draw [⟨⟨some 75, .mv (.t 4), none⟩, false, [], []⟩,
 ⟨⟨some 76, .ld true 6 (.t 5), none⟩, false, [⟨some 76, .ld true 6 (.t 5), none⟩], []⟩,
 ⟨⟨some 4, .mv (.t 75), none⟩, false, [], []⟩,
 ⟨⟨none, .st 6 (.t 5) (.t 76), none⟩, true, [], []⟩,
 ⟨⟨some 6, .mv (.c (.int .i64 0)), none⟩, false, [], []⟩])
 .ret)))))), [.tmp 4, .cell 5 true 6, .tmp 6]⟩
theorem c60 : compFun Tryz.prog Tryz.f60 = some ir60 := by kernel_rfl
def ir61 : IFun := ⟨55, (.seq (.region [⟨some 3, .box (.t 1), none⟩,
 ⟨some 4, .alloc (.agg [(.int .i64 0), (.int .i64 0), (.int .i64 0), (.int .i64 0)]), none⟩])
 (.seq (.seq (.region [⟨some 8, .ld true 5 (.t 3), none⟩,
 ⟨some 9, .mv (.c (.int .i64 0)), none⟩])
 (.block 0
 (.loop
 (.seq (.region [⟨some 10, .bin .lss (.t 9) (.c (.int .i64 5)), none⟩])
 (.seq (.cond (.t 10)
 .skip
 (.exit 0))
 (.seq (.block 1
 (.seq (.region [⟨some 11, .mv (.t 9), none⟩,
 ⟨some 12, .ix 5 1 false (.t 8) (.t 9), none⟩,
 ⟨some 5, .mv (.t 11), none⟩,
 ⟨some 6, .mv (.t 12), none⟩])
 (.seq (.seq (.region [⟨some 13, .mv (.t 6), none⟩,
 ⟨some 14, .bin .eql (.t 13) (.c (.int .i64 0)), none⟩])
 (.cond (.t 14)
 (.exit 1)
 .skip))
 (.seq (.region [⟨some 15, .mv (.t 0), none⟩,
 ⟨some 16, .nilck (.t 15), none⟩,
 ⟨some 17, .fa (.t 16) 0, none⟩,
 ⟨some 18, .fa (.t 17) 3, none⟩,
 ⟨some 19, .ld false 1 (.t 18), none⟩,
 ⟨some 20, .len false (.t 19), none⟩,
 ⟨some 21, .mv (.c (.int .i64 0)), none⟩])
 (.block 2
 (.loop
 (.seq (.region [⟨some 22, .bin .lss (.t 21) (.t 20), none⟩])
 (.seq (.cond (.t 22)
 .skip
 (.exit 2))
 (.seq (.block 3
 (.seq (.region [⟨some 23, .mv (.t 21), none⟩,
 ⟨some 7, .mv (.t 23), none⟩])
 (.seq (.region [⟨some 24, .mv (.t 0), none⟩,
 ⟨some 25, .nilck (.t 24), none⟩,
 ⟨some 26, .fa (.t 25) 0, none⟩,
 ⟨some 27, .fa (.t 26) 4, none⟩,
 ⟨some 28, .ld false 1 (.t 27), none⟩,
 ⟨some 29, .mv (.t 6), none⟩,
 ⟨some 30, .bin .sub (.t 29) (.c (.int .i64 1)), none⟩,
 ⟨some 31, .ia 4 (.t 28) (.t 30), none⟩,
 ⟨some 32, .fa (.t 31) 3, none⟩,
 ⟨some 33, .ld false 1 (.t 32), none⟩,
 ⟨some 34, .mv (.t 7), none⟩,
 ⟨some 35, .bin .shr (.t 33) (.t 34), none⟩,
 ⟨some 36, .bin .and (.t 35) (.c (.int .i64 1)), none⟩,
 ⟨some 37, .bin .eql (.t 36) (.c (.int .i64 1)), none⟩])
 (.cond (.t 37)
 (.draw [⟨⟨some 38, .mv (.t 7), none⟩, false, [], []⟩,
 ⟨⟨some 39, .iaa 4 1 (.t 4) (.t 38), none⟩, false, [], []⟩,
 ⟨⟨some 40, .ld false 1 (.t 39), none⟩, false, [⟨some 40, .ld false 1 (.t 39), none⟩], []⟩,
 ⟨⟨some 41, .mv (.t 0), none⟩, false, [], []⟩,
 ⟨⟨some 42, .nilck (.t 41), none⟩, false, [], []⟩,
 ⟨⟨some 43, .fa (.t 42) 0, none⟩, false, [], []⟩,
 ⟨⟨some 44, .fa (.t 43) 5, none⟩, false, [], []⟩,
 ⟨⟨some 45, .ld false 1 (.t 44), none⟩, false, [⟨some 45, .ld false 1 (.t 44), none⟩], []⟩,
 ⟨⟨some 46, .mv (.t 5), none⟩, false, [], []⟩,
 ⟨⟨some 47, .ia 6 (.t 45) (.t 46), none⟩, false, [], []⟩,
 ⟨⟨some 48, .fa (.t 47) 2, none⟩, false, [], []⟩,
 ⟨⟨some 49, .ld false 1 (.t 48), none⟩, false, [⟨some 49, .ld false 1 (.t 48), none⟩], []⟩,
 ⟨⟨some 50, .bin .add (.t 40) (.t 49), none⟩, false, [], []⟩,
 ⟨⟨some 51, .iaa 4 1 (.t 4) (.t 38), none⟩, false, [], []⟩,
 ⟨⟨none, .st 1 (.t 51) (.t 50), none⟩, true, [], []⟩])
 .skip))))
 (.region [⟨some 52, .bin .add (.t 21) (.c (.int .i64 1)), none⟩,
 ⟨some 21, .mv (.t 52), none⟩]))))))))))
 (.region [⟨some 53, .bin .add (.t 9) (.c (.int .i64 1)), none⟩,
 ⟨some 9, .mv (.t 53), none⟩])))))))
 (.seq (.region [⟨some 54, .ld true 4 (.t 4), none⟩,
 ⟨none, .st 4 (.t 4) (.t 54), none⟩])
 .ret))), [.cell 4 true 4]⟩
theorem c61 : compFun Tryz.prog Tryz.f61 = some ir61 := by kernel_rfl
def ir62 : IFun := ⟨8, (.seq (.region [⟨some 2, .mv (.c .nilslice), none⟩])
 (.seq (.seq (.region [⟨some 3, .mv (.t 0), none⟩,
 ⟨some 4, .eqv .sl false (.t 3) (.c .nilslice), none⟩])
 (.cond (.t 4)
 (.seq (.region [⟨some 2, .mv (.c .nilslice), none⟩])
 .ret)
 .skip))
 (.seq (.region [⟨some 5, .bldS 1 0 [(.int .i64 0)] [], none⟩,
 ⟨some 6, .mv (.t 0), none⟩,
 ⟨some 7, .app 1 8 (.t 5) (.t 6), none⟩,
 ⟨some 2, .mv (.t 7), none⟩])
 .ret))), [.tmp 2]⟩
theorem c62 : compFun Tryz.prog Tryz.f62 = some ir62 := by kernel_rfl
def ir63 : IFun := ⟨31, (.seq (.region [⟨some 7, .mv (.t 0), none⟩,
 ⟨some 8, .mv (.t 0), none⟩,
 ⟨some 9, .nilck (.t 8), none⟩,
 ⟨some 10, .fa (.t 9) 0, none⟩,
 ⟨some 11, .ld false 1 (.t 10), none⟩,
 ⟨some 12, .mv (.t 1), none⟩,
 ⟨some 13, .len false (.t 12), none⟩,
 ⟨some 14, .bldS 1 1 [(.int .i64 0)] [(0, 1, (.t 13))], none⟩,
 ⟨some 15, .app 1 8 (.t 11) (.t 14), none⟩,
 ⟨some 16, .nilck (.t 7), none⟩,
 ⟨some 17, .fa (.t 16) 0, none⟩,
 ⟨none, .st 1 (.t 17) (.t 15), none⟩])
 (.seq (.region [⟨some 6, .mv (.c (.int .i64 0)), none⟩])
 (.block 0
 (.loop
 (.seq (.seq (.region [⟨some 18, .mv (.t 6), none⟩,
 ⟨some 19, .mv (.t 1), none⟩,
 ⟨some 20, .len false (.t 19), none⟩,
 ⟨some 21, .bin .lss (.t 18) (.t 20), none⟩])
 (.cond (.t 21)
 .skip
 (.exit 0)))
 (.seq (.block 1
 (.region [⟨some 24, .mv (.t 2), none⟩,
 ⟨some 25, .mv (.t 0), none⟩,
 ⟨some 26, .mv (.t 1), none⟩,
 ⟨some 27, .mv (.t 6), none⟩,
 ⟨some 28, .ia 1 (.t 26) (.t 27), none⟩,
 ⟨some 29, .ld false 1 (.t 28), none⟩,
 ⟨some 30, .call (.t 24) [(.t 25), (.t 29)], none⟩]))
 (.region [⟨some 22, .mv (.t 6), none⟩,
 ⟨some 23, .bin .add (.t 22) (.c (.int .i64 1)), none⟩,
 ⟨some 6, .mv (.t 23), none⟩]))))))), []⟩
theorem c63 : compFun Tryz.prog Tryz.f63 = some ir63 := by kernel_rfl
def ir64 : IFun := ⟨16, (.seq (.region [⟨some 4, .mv (.c (.int .i64 0)), none⟩])
 (.block 0
 (.loop
 (.seq (.seq (.region [⟨some 5, .mv (.t 4), none⟩,
 ⟨some 6, .mv (.t 0), none⟩,
 ⟨some 7, .len false (.t 6), none⟩,
 ⟨some 8, .bin .lss (.t 5) (.t 7), none⟩])
 (.cond (.t 8)
 .skip
 (.exit 0)))
 (.seq (.block 1
 (.region [⟨some 11, .mv (.t 1), none⟩,
 ⟨some 12, .mv (.t 0), none⟩,
 ⟨some 13, .mv (.t 4), none⟩,
 ⟨some 14, .ia 1 (.t 12) (.t 13), none⟩,
 ⟨some 15, .call (.t 11) [(.t 14)], none⟩]))
 (.region [⟨some 9, .mv (.t 4), none⟩,
 ⟨some 10, .bin .add (.t 9) (.c (.int .i64 1)), none⟩,
 ⟨some 4, .mv (.t 10), none⟩])))))), []⟩
theorem c64 : compFun Tryz.prog Tryz.f64 = some ir64 := by kernel_rfl
def ir65 : IFun := ⟨4, (.region [⟨some 2, .mv (.t 0), none⟩,
 ⟨some 3, .nilck (.t 2), none⟩,
 ⟨none, .st 1 (.t 3) (.c (.int .i64 (-77))), none⟩]), []⟩
theorem c65 : compFun Tryz.prog Tryz.f65 = some ir65 := by kernel_rfl
def ir66 : IFun := ⟨51, (.seq (.region [⟨some 2, .box (.t 0), none⟩,
 ⟨some 3, .box (.t 1), none⟩,
 ⟨some 4, .mv (.c .nilptr), none⟩,
 ⟨some 5, .alloc (.agg [(.int .i64 0), (.int .i64 0), (.int .i64 0), (.int .i64 0), (.int .i64 0), (.int .i64 0)]), none⟩,
 ⟨some 6, .mv (.c (.int .i64 0)), none⟩])
 (.seq (.region [⟨some 13, .ld true 7 (.t 2), none⟩,
 ⟨some 14, .ld true 2 (.t 3), none⟩,
 ⟨some 15, .call (.c (.func 60 [] [])) [(.t 13), (.t 14)], none⟩,
 ⟨some 12, .mv (.t 15), none⟩,
 ⟨some 16, .ext (.t 12) 0, none⟩,
 ⟨some 17, .ext (.t 12) 1, none⟩,
 ⟨some 18, .ext (.t 12) 2, none⟩,
 ⟨some 8, .alloc (.agg [(.int .i64 0), (.int .i64 0), (.int .i64 0), (.int .i64 0), (.int .i64 0), (.int .i64 0)]), none⟩,
 ⟨some 7, .mv (.t 16), none⟩,
 ⟨none, .st 6 (.t 8) (.t 17), none⟩,
 ⟨some 9, .mv (.t 18), none⟩])
 (.seq (.seq (.region [⟨some 19, .mv (.t 9), none⟩,
 ⟨some 20, .bin .neq (.t 19) (.c (.int .i64 0)), none⟩])
 (.cond (.t 20)
 (.seq (.draw [⟨⟨some 21, .ld true 6 (.t 8), none⟩, false, [⟨some 21, .ld true 6 (.t 8), none⟩], []⟩,
 ⟨⟨some 22, .mv (.t 9), none⟩, false, [], []⟩,
 ⟨⟨some 4, .mv (.c .nilptr), none⟩, false, [], []⟩,
 ⟨⟨none, .st 6 (.t 5) (.t 21), none⟩, true, [], []⟩,
 ⟨⟨some 6, .mv (.t 22), none⟩, false, [], []⟩])
 .ret)
 .skip))
 (.seq (.seq (.region [⟨some 23, .fa (.t 8) 1, none⟩,
 ⟨some 24, .ld true 5 (.t 23), none⟩,
 ⟨some 25, .mv (.c (.int .i64 0)), none⟩])
 (.block 0
 (.loop
 (.seq (.region [⟨some 26, .bin .lss (.t 25) (.c (.int .i64 5)), none⟩])
 (.seq (.cond (.t 26)
 .skip
 (.exit 0))
 (.seq (.block 1
 (.seq (.region [⟨some 27, .mv (.t 25), none⟩,
 ⟨some 28, .ix 5 1 false (.t 24) (.t 25), none⟩,
 ⟨some 10, .mv (.t 27), none⟩,
 ⟨some 11, .mv (.t 28), none⟩])
 (.seq (.region [⟨some 29, .mv (.t 11), none⟩,
 ⟨some 30, .bin .gtr (.t 29) (.c (.int .i64 0)), none⟩,
 ⟨some 31, .mv (.t 30), none⟩,
 ⟨(some 32), (.mv (.t 7)), (some (31, true))⟩,
 ⟨(some 33), (.mv (.t 10)), (some (31, true))⟩,
 ⟨(some 34), (.mv (.t 11)), (some (31, true))⟩,
 ⟨(some 35), (.bin .sub (.t 34) (.c (.int .i64 1))), (some (31, true))⟩,
 ⟨(some 36), (.fa (.t 8) 0), (some (31, true))⟩,
 ⟨(some 37), (.ld false 1 (.t 36)), (some (31, true))⟩,
 ⟨(some 38), (.call (.c (.func 59 [] [])) [(.t 32), (.t 33), (.t 35), (.t 37)]), (some (31, true))⟩,
 ⟨(some 39), (.bin .neq (.t 38) (.c (.int .i64 1))), (some (31, true))⟩,
 ⟨some 40, .pick (.t 31) (.t 39) (.c (.bool false)), none⟩])
 (.cond (.t 40)
 (.seq (.draw [⟨⟨some 41, .ld true 6 (.t 8), none⟩, false, [⟨some 41, .ld true 6 (.t 8), none⟩], []⟩,
 ⟨⟨some 4, .mv (.c .nilptr), none⟩, false, [], []⟩,
 ⟨⟨none, .st 6 (.t 5) (.t 41), none⟩, true, [], []⟩,
 ⟨⟨some 6, .mv (.c (.int .i64 9)), none⟩, false, [], []⟩])
 .ret)
 .skip))))
 (.region [⟨some 42, .bin .add (.t 25) (.c (.int .i64 1)), none⟩,
 ⟨some 25, .mv (.t 42), none⟩])))))))
 (.seq (.seq (.region [⟨some 43, .mv (.t 7), none⟩,
 ⟨some 44, .fa (.t 8) 1, none⟩,
 ⟨some 45, .ld true 5 (.t 44), none⟩,
 ⟨some 46, .call (.c (.func 88 [] [])) [(.t 43), (.t 45), (.c (.bool true))], none⟩,
 ⟨some 47, .un .not (.t 46), none⟩])
 (.cond (.t 47)
 (.seq (.draw [⟨⟨some 48, .ld true 6 (.t 8), none⟩, false, [⟨some 48, .ld true 6 (.t 8), none⟩], []⟩,
 ⟨⟨some 4, .mv (.c .nilptr), none⟩, false, [], []⟩,
 ⟨⟨none, .st 6 (.t 5) (.t 48), none⟩, true, [], []⟩,
 ⟨⟨some 6, .mv (.c (.int .i64 9)), none⟩, false, [], []⟩])
 .ret)
 .skip))
 (.seq (.draw [⟨⟨some 49, .mv (.t 7), none⟩, false, [], []⟩,
 ⟨⟨some 50, .ld true 6 (.t 8), none⟩, false, [⟨some 50, .ld true 6 (.t 8), none⟩], []⟩,
 ⟨⟨some 4, .mv (.t 49), none⟩, false, [], []⟩,
 ⟨⟨none, .st 6 (.t 5) (.t 50), none⟩, true, [], []⟩,
 ⟨⟨some 6, .mv (.c (.int .i64 0)), none⟩, false, [], []⟩])
 .ret)))))), [.tmp 4, .cell 5 true 6, .tmp 6]⟩
theorem c66 : compFun Tryz.prog Tryz.f66 = some ir66 := by kernel_rfl
def ir67 : IFun := ⟨27, (.seq (.region [⟨some 3, .box (.t 1), none⟩,
 ⟨some 4, .mv (.c (.int .i64 0)), none⟩])
 (.seq (.seq (.region [⟨some 7, .ld true 5 (.t 3), none⟩,
 ⟨some 8, .mv (.c (.int .i64 0)), none⟩])
 (.block 0
 (.loop
 (.seq (.region [⟨some 9, .bin .lss (.t 8) (.c (.int .i64 5)), none⟩])
 (.seq (.cond (.t 9)
 .skip
 (.exit 0))
 (.seq (.block 1
 (.seq (.region [⟨some 10, .mv (.t 8), none⟩,
 ⟨some 11, .ix 5 1 false (.t 7) (.t 8), none⟩,
 ⟨some 5, .mv (.t 10), none⟩,
 ⟨some 6, .mv (.t 11), none⟩])
 (.seq (.region [⟨some 12, .mv (.t 6), none⟩,
 ⟨some 13, .bin .gtr (.t 12) (.c (.int .i64 0)), none⟩])
 (.cond (.t 13)
 (.region [⟨some 14, .mv (.t 4), none⟩,
 ⟨some 15, .mv (.t 0), none⟩,
 ⟨some 16, .nilck (.t 15), none⟩,
 ⟨some 17, .fa (.t 16) 0, none⟩,
 ⟨some 18, .fa (.t 17) 5, none⟩,
 ⟨some 19, .ld false 1 (.t 18), none⟩,
 ⟨some 20, .mv (.t 5), none⟩,
 ⟨some 21, .ia 6 (.t 19) (.t 20), none⟩,
 ⟨some 22, .fa (.t 21) 5, none⟩,
 ⟨some 23, .ld false 1 (.t 22), none⟩,
 ⟨some 24, .bin .add (.t 14) (.t 23), none⟩,
 ⟨some 4, .mv (.t 24), none⟩])
 .skip))))
 (.region [⟨some 25, .bin .add (.t 8) (.c (.int .i64 1)), none⟩,
 ⟨some 8, .mv (.t 25), none⟩])))))))
 (.seq (.region [⟨some 26, .mv (.t 4), none⟩,
 ⟨some 4, .mv (.t 26), none⟩])
 .ret))), [.tmp 4]⟩
theorem c67 : compFun Tryz.prog Tryz.f67 = some ir67 := by kernel_rfl
def ir68 : IFun := ⟨4, (.seq (.region [⟨some 1, .box (.t 0), none⟩,
 ⟨some 2, .mv (.c .nilfunc), none⟩])
 (.seq (.region [⟨some 3, .mkfn 89 [] [(.t 1)], none⟩,
 ⟨some 2, .mv (.t 3), none⟩])
 .ret)), [.tmp 2]⟩
theorem c68 : compFun Tryz.prog Tryz.f68 = some ir68 := by kernel_rfl
def ir69 : IFun := ⟨16, (.seq (.region [⟨some 2, .mv (.c .nilslice), none⟩])
 (.seq (.block 0
 (.loop
 (.seq (.seq (.region [⟨some 3, .mv (.t 0), none⟩,
 ⟨some 4, .bin .neq (.t 3) (.c (.int .i64 0)), none⟩])
 (.cond (.t 4)
 .skip
 (.exit 0)))
 (.seq (.block 1
 (.region [⟨some 9, .mv (.t 2), none⟩,
 ⟨some 10, .mv (.t 0), none⟩,
 ⟨some 11, .conv .u64 (.t 10), none⟩,
 ⟨some 12, .call (.c (.func 91 [] [])) [(.t 11)], none⟩,
 ⟨some 13, .bldS 1 1 [(.int .i64 0)] [(0, 1, (.t 12))], none⟩,
 ⟨some 14, .app 1 8 (.t 9) (.t 13), none⟩,
 ⟨some 2, .mv (.t 14), none⟩]))
 (.region [⟨some 5, .mv (.t 0), none⟩,
 ⟨some 6, .mv (.t 0), none⟩,
 ⟨some 7, .bin .sub (.t 6) (.c (.int .i64 1)), none⟩,
 ⟨some 8, .bin .and (.t 5) (.t 7), none⟩,
 ⟨some 0, .mv (.t 8), none⟩])))))
 (.seq (.region [⟨some 15, .mv (.t 2), none⟩,
 ⟨some 2, .mv (.t 15), none⟩])
 .ret))), [.tmp 2]⟩
theorem c69 : compFun Tryz.prog Tryz.f69 = some ir69 := by kernel_rfl
def ir70 : IFun := ⟨36, (.seq (.region [⟨some 4, .mv (.c (.int .i64 0)), none⟩])
 (.seq (.seq (.region [⟨some 9, .mv (.t 0), none⟩,
 ⟨some 10, .len false (.t 9), none⟩,
 ⟨some 11, .mv (.c (.int .i64 0)), none⟩])
 (.block 0
 (.loop
 (.seq (.region [⟨some 12, .bin .lss (.t 11) (.t 10), none⟩])
 (.seq (.cond (.t 12)
 .skip
 (.exit 0))
 (.seq (.block 1
 (.seq (.region [⟨some 13, .mv (.t 11), none⟩,
 ⟨some 14, .ia 1 (.t 9) (.t 11), none⟩,
 ⟨some 15, .ld false 1 (.t 14), none⟩,
 ⟨some 5, .mv (.t 13), none⟩,
 ⟨some 6, .mv (.t 15), none⟩])
 (.seq (.seq (.region [⟨some 16, .mv (.t 5), none⟩,
 ⟨some 17, .mv (.t 1), none⟩,
 ⟨some 18, .len false (.t 17), none⟩,
 ⟨some 19, .bin .geq (.t 16) (.t 18), none⟩])
 (.cond (.t 19)
 (.seq (.region [⟨some 4, .mv (.c (.int .i64 1)), none⟩])
 .ret)
 .skip))
 (.seq (.region [⟨some 20, .mv (.t 1), none⟩,
 ⟨some 21, .mv (.t 5), none⟩,
 ⟨some 22, .ia 1 (.t 20) (.t 21), none⟩,
 ⟨some 23, .ld false 1 (.t 22), none⟩,
 ⟨some 7, .mv (.t 23), none⟩])
 (.seq (.region [⟨some 24, .mv (.t 6), none⟩,
 ⟨some 25, .mv (.t 7), none⟩,
 ⟨some 26, .call (.c (.func 92 [] [])) [(.t 24), (.t 25)], none⟩,
 ⟨some 8, .mv (.t 26), none⟩])
 (.seq (.region [⟨some 27, .mv (.t 8), none⟩,
 ⟨some 28, .bin .neq (.t 27) (.c (.int .i64 0)), none⟩])
 (.cond (.t 28)
 (.seq (.region [⟨some 29, .mv (.t 8), none⟩,
 ⟨some 4, .mv (.t 29), none⟩])
 .ret)
 .skip)))))))
 (.region [⟨some 30, .bin .add (.t 11) (.c (.int .i64 1)), none⟩,
 ⟨some 11, .mv (.t 30), none⟩])))))))
 (.seq (.seq (.region [⟨some 31, .mv (.t 0), none⟩,
 ⟨some 32, .len false (.t 31), none⟩,
 ⟨some 33, .mv (.t 1), none⟩,
 ⟨some 34, .len false (.t 33), none⟩,
 ⟨some 35, .bin .lss (.t 32) (.t 34), none⟩])
 (.cond (.t 35)
 (.seq (.region [⟨some 4, .mv (.c (.int .i64 (-1))), none⟩])
 .ret)
 .skip))
 (.seq (.region [⟨some 4, .mv (.c (.int .i64 0)), none⟩])
 .ret)))), [.tmp 4]⟩
theorem c70 : compFun Tryz.prog Tryz.f70 = some ir70 := by kernel_rfl
def ir71 : IFun := ⟨6, (.seq (.region [⟨some 2, .alloc (.bool false), none⟩])
 (.seq (.seq (.region [⟨some 3, .mv (.t 0), none⟩,
 ⟨some 4, .call (.c (.func 68 [] [])) [(.t 3)], none⟩])
 (.block 0
 (.rangef (.t 4) [5]
 .skip
 (.block 1
 (.seq (.region [⟨none, .st 1 (.t 2) (.c (.bool true)), none⟩])
 .ret)))))
 (.seq (.region [⟨none, .st 1 (.t 2) (.c (.bool false)), none⟩])
 .ret))), [.cell 2 false 1]⟩
theorem c71 : compFun Tryz.prog Tryz.f71 = some ir71 := by kernel_rfl
def ir72 : IFun := ⟨8, (.seq (.region [⟨some 2, .mv (.c (.int .i64 0)), none⟩])
 (.seq (.cond (.c (.bool false))
 (.seq (.region [⟨some 3, .mv (.t 0), none⟩,
 ⟨some 4, .conv .u32 (.t 3), none⟩,
 ⟨some 5, .call (.c (.func 93 [] [])) [(.t 4)], none⟩,
 ⟨some 2, .mv (.t 5), none⟩])
 .ret)
 .skip)
 (.seq (.region [⟨some 6, .mv (.t 0), none⟩,
 ⟨some 7, .call (.c (.func 94 [] [])) [(.t 6)], none⟩,
 ⟨some 2, .mv (.t 7), none⟩])
 .ret))), [.tmp 2]⟩
theorem c72 : compFun Tryz.prog Tryz.f72 = some ir72 := by kernel_rfl
def ir73 : IFun := ⟨24, (.seq (.region [⟨some 2, .alloc (.agg [(.int .i64 0), (.int .i64 0), (.int .i64 0), .nilslice, .nilslice, .nilslice, .nilslice]), none⟩])
 (.seq (.region [⟨some 3, .call (.c (.func 75 [] [])) [(.c (.int .i64 30)), (.c (.int .i64 50))], none⟩,
 ⟨some 4, .bldS 1 2 [(.int .i64 0)] [(0, 1, (.c (.int .i64 300))), (1, 1, (.c (.int .i64 250)))], none⟩,
 ⟨some 5, .call (.c (.func 75 [] [])) [(.c (.int .i64 0)), (.c (.int .i64 2))], none⟩,
 ⟨some 6, .bldS 2 1 [(.int .i64 0), (.int .i64 0)] [(0, 2, (.t 5))], none⟩,
 ⟨some 7, .bld [(.str []), (.bool false), .nilslice, (.int .i64 0)] [(0, 1, (.c (.str [100, 111, 111, 114]))), (2, 1, (.t 6)), (3, 1, (.c (.int .i64 1)))], none⟩,
 ⟨some 8, .call (.c (.func 75 [] [])) [(.c (.int .i64 15)), (.c (.int .i64 20))], none⟩,
 ⟨some 9, .bldS 2 1 [(.int .i64 0), (.int .i64 0)] [(0, 2, (.t 8))], none⟩,
 ⟨some 10, .bld [(.str []), (.bool false), .nilslice, (.int .i64 0)] [(0, 1, (.c (.str [104, 101, 97, 114, 116, 104]))), (1, 1, (.c (.bool true))), (2, 1, (.t 9)), (3, 1, (.c (.int .i64 3)))], none⟩,
 ⟨some 11, .call (.c (.func 75 [] [])) [(.c (.int .i64 8)), (.c (.int .i64 10))], none⟩,
 ⟨some 12, .bldS 2 1 [(.int .i64 0), (.int .i64 0)] [(0, 2, (.t 11))], none⟩,
 ⟨some 13, .bld [(.str []), (.bool false), .nilslice, (.int .i64 0)] [(0, 1, (.c (.str [110, 105, 99, 104, 101]))), (1, 1, (.c (.bool true))), (2, 1, (.t 12)), (3, 1, (.c (.int .i64 2)))], none⟩,
 ⟨some 14, .bldS 4 3 [(.str []), (.bool false), .nilslice, (.int .i64 0)] [(0, 4, (.t 7)), (4, 4, (.t 10)), (8, 4, (.t 13))], none⟩,
 ⟨some 15, .call (.c (.func 75 [] [])) [(.c (.int .i64 40)), (.c (.int .i64 75))], none⟩,
 ⟨some 16, .call (.c (.func 95 [] [])) [(.c (.str [107, 105, 110, 103])), (.c (.int .i64 1)), (.c (.int .i64 200)), (.t 15), (.c (.int .i64 9))], none⟩,
 ⟨some 17, .call (.c (.func 75 [] [])) [(.c (.int .i64 30)), (.c (.int .i64 60))], none⟩,
 ⟨some 18, .call (.c (.func 95 [] [])) [(.c (.str [110, 117, 110])), (.c (.int .i64 2)), (.c (.int .i64 150)), (.t 17), (.c (.int .i64 5))], none⟩,
 ⟨some 19, .call (.c (.func 75 [] [])) [(.c (.int .i64 35)), (.c (.int .i64 65))], none⟩,
 ⟨some 20, .call (.c (.func 95 [] [])) [(.c (.str [116, 104, 105, 101, 102])), (.c (.int .i64 3)), (.c (.int .i64 120)), (.t 19), (.c (.int .i64 7))], none⟩,
 ⟨some 21, .bldS 6 3 [(.str []), (.int .i64 0), (.int .i64 0), (.int .i64 0), (.int .i64 0), (.int .i64 0)] [(0, 6, (.t 16)), (6, 6, (.t 18)), (12, 6, (.t 20))], none⟩,
 ⟨some 22, .mv (.t 0), none⟩,
 ⟨some 23, .bld [(.int .i64 0), (.int .i64 0), (.int .i64 0), .nilslice, .nilslice, .nilslice, .nilslice] [(0, 2, (.t 3)), (2, 1, (.c (.int .i64 1))), (3, 1, (.t 4)), (4, 1, (.t 14)), (5, 1, (.t 21)), (6, 1, (.t 22))], none⟩,
 ⟨none, .st 7 (.t 2) (.t 23), none⟩])
 .ret)), [.cell 2 true 7]⟩
theorem c73 : compFun Tryz.prog Tryz.f73 = some ir73 := by kernel_rfl
def ir74 : IFun := ⟨8, (.seq (.region [⟨some 4, .alloc (.agg [(.int .i64 0), .nilslice]), none⟩])
 (.seq (.region [⟨some 5, .mv (.t 0), none⟩,
 ⟨some 6, .mv (.t 1), none⟩,
 ⟨some 7, .bld [(.int .i64 0), .nilslice] [(0, 1, (.t 5)), (1, 1, (.t 6))], none⟩,
 ⟨none, .st 2 (.t 4) (.t 7), none⟩])
 .ret)), [.cell 4 true 2]⟩
theorem c74 : compFun Tryz.prog Tryz.f74 = some ir74 := by kernel_rfl
def ir75 : IFun := ⟨8, (.seq (.region [⟨some 4, .alloc (.agg [(.int .i64 0), (.int .i64 0)]), none⟩])
 (.seq (.region [⟨some 5, .mv (.t 0), none⟩,
 ⟨some 6, .mv (.t 1), none⟩,
 ⟨some 7, .bld [(.int .i64 0), (.int .i64 0)] [(0, 1, (.t 5)), (1, 1, (.t 6))], none⟩,
 ⟨none, .st 2 (.t 4) (.t 7), none⟩])
 .ret)), [.cell 4 true 2]⟩
theorem c75 : compFun Tryz.prog Tryz.f75 = some ir75 := by kernel_rfl
def ir76 : IFun := ⟨17, (.seq (.region [⟨some 2, .box (.t 0), none⟩,
 ⟨some 3, .box (.t 1), none⟩,
 ⟨some 4, .mv (.c (.bool false)), none⟩])
 (.seq (.region [⟨some 5, .fa (.t 2) 0, none⟩,
 ⟨some 6, .ld false 1 (.t 5), none⟩,
 ⟨some 7, .fa (.t 3) 0, none⟩,
 ⟨some 8, .ld false 1 (.t 7), none⟩,
 ⟨some 9, .bin .eql (.t 6) (.t 8), none⟩,
 ⟨some 10, .mv (.t 9), none⟩,
 ⟨(some 11), (.fa (.t 2) 1), (some (10, true))⟩,
 ⟨(some 12), (.ld false 1 (.t 11)), (some (10, true))⟩,
 ⟨(some 13), (.fa (.t 3) 1), (some (10, true))⟩,
 ⟨(some 14), (.ld false 1 (.t 13)), (some (10, true))⟩,
 ⟨(some 15), (.call (.c (.func 77 [] [])) [(.t 12), (.t 14)]), (some (10, true))⟩,
 ⟨some 16, .pick (.t 10) (.t 15) (.c (.bool false)), none⟩,
 ⟨some 4, .mv (.t 16), none⟩])
 .ret)), [.tmp 4]⟩
theorem c76 : compFun Tryz.prog Tryz.f76 = some ir76 := by kernel_rfl
def ir77 : IFun := ⟨31, (.seq (.region [⟨some 4, .mv (.c (.bool false)), none⟩])
 (.seq (.region [⟨some 7, .mv (.t 0), none⟩,
 ⟨some 8, .len false (.t 7), none⟩,
 ⟨some 9, .mv (.t 1), none⟩,
 ⟨some 10, .len false (.t 9), none⟩,
 ⟨some 11, .bin .eql (.t 8) (.t 10), none⟩,
 ⟨some 5, .mv (.t 11), none⟩])
 (.seq (.seq (.region [⟨some 6, .mv (.c (.int .i64 0)), none⟩])
 (.block 0
 (.loop
 (.seq (.seq (.region [⟨some 12, .mv (.t 5), none⟩,
 ⟨some 13, .mv (.t 12), none⟩,
 ⟨(some 14), (.mv (.t 6)), (some (13, true))⟩,
 ⟨(some 15), (.mv (.t 0)), (some (13, true))⟩,
 ⟨(some 16), (.len false (.t 15)), (some (13, true))⟩,
 ⟨(some 17), (.bin .lss (.t 14) (.t 16)), (some (13, true))⟩,
 ⟨some 18, .pick (.t 13) (.t 17) (.c (.bool false)), none⟩])
 (.cond (.t 18)
 .skip
 (.exit 0)))
 (.seq (.block 1
 (.draw [⟨⟨some 21, .mv (.t 0), none⟩, false, [], []⟩,
 ⟨⟨some 22, .mv (.t 6), none⟩, false, [], []⟩,
 ⟨⟨some 23, .ia 1 (.t 21) (.t 22), none⟩, false, [], []⟩,
 ⟨⟨some 24, .ld false 1 (.t 23), none⟩, false, [⟨some 24, .ld false 1 (.t 23), none⟩], []⟩,
 ⟨⟨some 25, .mv (.t 1), none⟩, false, [], []⟩,
 ⟨⟨some 26, .mv (.t 6), none⟩, false, [], []⟩,
 ⟨⟨some 27, .ia 1 (.t 25) (.t 26), none⟩, false, [], []⟩,
 ⟨⟨some 28, .ld false 1 (.t 27), none⟩, false, [⟨some 28, .ld false 1 (.t 27), none⟩], []⟩,
 ⟨⟨some 29, .bin .eql (.t 24) (.t 28), none⟩, false, [], []⟩,
 ⟨⟨some 5, .mv (.t 29), none⟩, false, [], []⟩]))
 (.region [⟨some 19, .mv (.t 6), none⟩,
 ⟨some 20, .bin .add (.t 19) (.c (.int .i64 1)), none⟩,
 ⟨some 6, .mv (.t 20), none⟩]))))))
 (.seq (.region [⟨some 30, .mv (.t 5), none⟩,
 ⟨some 4, .mv (.t 30), none⟩])
 .ret)))), [.tmp 4]⟩
theorem c77 : compFun Tryz.prog Tryz.f77 = some ir77 := by kernel_rfl
def ir78 : IFun := ⟨7, (.region [⟨some 4, .mv (.t 0), none⟩,
 ⟨some 5, .mv (.t 1), none⟩,
 ⟨some 6, .call (.c (.func 96 [] [])) [(.t 4), (.t 5), (.c (.func 97 [] []))], none⟩]), []⟩
theorem c78 : compFun Tryz.prog Tryz.f78 = some ir78 := by kernel_rfl
def ir79 : IFun := ⟨7, (.region [⟨some 4, .mv (.t 0), none⟩,
 ⟨some 5, .mv (.t 1), none⟩,
 ⟨some 6, .call (.c (.func 98 [] [])) [(.t 4), (.t 5), (.c (.func 99 [] []))], none⟩]), []⟩
theorem c79 : compFun Tryz.prog Tryz.f79 = some ir79 := by kernel_rfl
def ir80 : IFun := ⟨9, (.seq (.region [⟨some 4, .mv (.c (.bool false)), none⟩])
 (.seq (.region [⟨some 5, .mv (.t 0), none⟩,
 ⟨some 6, .mv (.t 1), none⟩,
 ⟨some 7, .call (.c (.func 100 [] [])) [(.t 5), (.t 6)], none⟩,
 ⟨some 8, .bin .geq (.t 7) (.c (.int .i64 0)), none⟩,
 ⟨some 4, .mv (.t 8), none⟩])
 .ret)), [.tmp 4]⟩
theorem c80 : compFun Tryz.prog Tryz.f80 = some ir80 := by kernel_rfl
def ir81 : IFun := ⟨13, (.seq (.region [⟨some 4, .mv (.c (.bool false)), none⟩])
 (.seq (.region [⟨some 5, .mv (.t 0), none⟩,
 ⟨some 6, .ld false 1 (.t 1), none⟩,
 ⟨some 7, .bin .lss (.t 5) (.t 6), none⟩,
 ⟨some 8, .mv (.t 7), none⟩,
 ⟨(some 9), (.mv (.t 0)), (some (8, false))⟩,
 ⟨(some 10), (.ld false 1 (.t 2)), (some (8, false))⟩,
 ⟨(some 11), (.bin .gtr (.t 9) (.t 10)), (some (8, false))⟩,
 ⟨some 12, .pick (.t 8) (.c (.bool true)) (.t 11), none⟩,
 ⟨some 4, .mv (.t 12), none⟩])
 .ret)), [.tmp 4]⟩
theorem c81 : compFun Tryz.prog Tryz.f81 = some ir81 := by kernel_rfl
def ir82 : IFun := ⟨12, (.seq (.region [⟨some 6, .mv (.c (.int .i64 0)), none⟩])
 (.seq (.seq (.region [⟨some 7, .ld false 1 (.t 2), none⟩,
 ⟨some 8, .ld false 1 (.t 3), none⟩,
 ⟨some 9, .mv (.t 1), none⟩,
 ⟨some 10, .bldS 1 1 [(.int .i64 0)] [(0, 1, (.t 9))], none⟩,
 ⟨some 11, .call (.c (.func 42 [] [])) [(.t 7), (.t 8), (.t 10)], none⟩])
 (.cond (.t 11)
 (.seq (.region [⟨some 6, .mv (.c (.int .i64 7)), none⟩])
 .ret)
 .skip))
 (.seq (.region [⟨some 6, .mv (.c (.int .i64 0)), none⟩])
 .ret))), [.tmp 6]⟩
theorem c82 : compFun Tryz.prog Tryz.f82 = some ir82 := by kernel_rfl
def ir83 : IFun := ⟨19, (.seq (.region [⟨some 4, .mv (.c (.int .i64 0)), none⟩])
 (.seq (.seq (.region [⟨some 6, .mv (.t 0), none⟩,
 ⟨some 7, .len false (.t 6), none⟩,
 ⟨some 8, .mv (.c (.int .i64 0)), none⟩])
 (.block 0
 (.loop
 (.seq (.region [⟨some 9, .bin .lss (.t 8) (.t 7), none⟩])
 (.seq (.cond (.t 9)
 .skip
 (.exit 0))
 (.seq (.block 1
 (.seq (.region [⟨some 10, .mv (.t 8), none⟩,
 ⟨some 5, .mv (.t 10), none⟩])
 (.seq (.region [⟨some 11, .mv (.t 1), none⟩,
 ⟨some 12, .mv (.t 0), none⟩,
 ⟨some 13, .mv (.t 5), none⟩,
 ⟨some 14, .ia 4 (.t 12) (.t 13), none⟩,
 ⟨some 15, .ld true 4 (.t 14), none⟩,
 ⟨some 16, .call (.t 11) [(.t 15)], none⟩])
 (.cond (.t 16)
 (.seq (.region [⟨some 17, .mv (.t 5), none⟩,
 ⟨some 4, .mv (.t 17), none⟩])
 .ret)
 .skip))))
 (.region [⟨some 18, .bin .add (.t 8) (.c (.int .i64 1)), none⟩,
 ⟨some 8, .mv (.t 18), none⟩])))))))
 (.seq (.region [⟨some 4, .mv (.c (.int .i64 (-1))), none⟩])
 .ret))), [.tmp 4]⟩
theorem c83 : compFun Tryz.prog Tryz.f83 = some ir83 := by kernel_rfl
def ir84 : IFun := ⟨19, (.seq (.region [⟨some 4, .mv (.c (.int .i64 0)), none⟩])
 (.seq (.seq (.region [⟨some 6, .mv (.t 0), none⟩,
 ⟨some 7, .len false (.t 6), none⟩,
 ⟨some 8, .mv (.c (.int .i64 0)), none⟩])
 (.block 0
 (.loop
 (.seq (.region [⟨some 9, .bin .lss (.t 8) (.t 7), none⟩])
 (.seq (.cond (.t 9)
 .skip
 (.exit 0))
 (.seq (.block 1
 (.seq (.region [⟨some 10, .mv (.t 8), none⟩,
 ⟨some 5, .mv (.t 10), none⟩])
 (.seq (.region [⟨some 11, .mv (.t 1), none⟩,
 ⟨some 12, .mv (.t 0), none⟩,
 ⟨some 13, .mv (.t 5), none⟩,
 ⟨some 14, .ia 6 (.t 12) (.t 13), none⟩,
 ⟨some 15, .ld true 6 (.t 14), none⟩,
 ⟨some 16, .call (.t 11) [(.t 15)], none⟩])
 (.cond (.t 16)
 (.seq (.region [⟨some 17, .mv (.t 5), none⟩,
 ⟨some 4, .mv (.t 17), none⟩])
 .ret)
 .skip))))
 (.region [⟨some 18, .bin .add (.t 8) (.c (.int .i64 1)), none⟩,
 ⟨some 8, .mv (.t 18), none⟩])))))))
 (.seq (.region [⟨some 4, .mv (.c (.int .i64 (-1))), none⟩])
 .ret))), [.tmp 4]⟩
theorem c84 : compFun Tryz.prog Tryz.f84 = some ir84 := by kernel_rfl
def ir85 : IFun := ⟨35, (.seq (.region [⟨some 3, .box (.t 1), none⟩,
 ⟨some 4, .mv (.c (.bool false)), none⟩])
 (.seq (.seq (.region [⟨some 7, .mv (.t 0), none⟩,
 ⟨some 8, .ld true 5 (.t 3), none⟩,
 ⟨some 9, .call (.c (.func 61 [] [])) [(.t 7), (.t 8)], none⟩,
 ⟨some 10, .mv (.c (.int .i64 0)), none⟩])
 (.block 0
 (.loop
 (.seq (.region [⟨some 11, .bin .lss (.t 10) (.c (.int .i64 4)), none⟩])
 (.seq (.cond (.t 11)
 .skip
 (.exit 0))
 (.seq (.block 1
 (.seq (.region [⟨some 12, .mv (.t 10), none⟩,
 ⟨some 13, .ix 4 1 false (.t 9) (.t 10), none⟩,
 ⟨some 5, .mv (.t 12), none⟩,
 ⟨some 6, .mv (.t 13), none⟩])
 (.seq (.region [⟨some 14, .mv (.t 5), none⟩,
 ⟨some 15, .mv (.t 0), none⟩,
 ⟨some 16, .nilck (.t 15), none⟩,
 ⟨some 17, .fa (.t 16) 0, none⟩,
 ⟨some 18, .fa (.t 17) 3, none⟩,
 ⟨some 19, .ld false 1 (.t 18), none⟩,
 ⟨some 20, .len false (.t 19), none⟩,
 ⟨some 21, .bin .lss (.t 14) (.t 20), none⟩,
 ⟨some 22, .mv (.t 21), none⟩,
 ⟨(some 23), (.mv (.t 6)), (some (22, true))⟩,
 ⟨(some 24), (.mv (.t 0)), (some (22, true))⟩,
 ⟨(some 25), (.nilck (.t 24)), (some (22, true))⟩,
 ⟨(some 26), (.fa (.t 25) 0), (some (22, true))⟩,
 ⟨(some 27), (.fa (.t 26) 3), (some (22, true))⟩,
 ⟨(some 28), (.ld false 1 (.t 27)), (some (22, true))⟩,
 ⟨(some 29), (.mv (.t 5)), (some (22, true))⟩,
 ⟨(some 30), (.ia 1 (.t 28) (.t 29)), (some (22, true))⟩,
 ⟨(some 31), (.ld false 1 (.t 30)), (some (22, true))⟩,
 ⟨(some 32), (.bin .gtr (.t 23) (.t 31)), (some (22, true))⟩,
 ⟨some 33, .pick (.t 22) (.t 32) (.c (.bool false)), none⟩])
 (.cond (.t 33)
 (.seq (.region [⟨some 4, .mv (.c (.bool false)), none⟩])
 .ret)
 .skip))))
 (.region [⟨some 34, .bin .add (.t 10) (.c (.int .i64 1)), none⟩,
 ⟨some 10, .mv (.t 34), none⟩])))))))
 (.seq (.region [⟨some 4, .mv (.c (.bool true)), none⟩])
 .ret))), [.tmp 4]⟩
theorem c85 : compFun Tryz.prog Tryz.f85 = some ir85 := by kernel_rfl
def ir86 : IFun := ⟨72, (.seq (.region [⟨some 3, .box (.t 1), none⟩,
 ⟨some 4, .mv (.c (.bool false)), none⟩])
 (.seq (.seq (.region [⟨some 10, .ld true 5 (.t 3), none⟩,
 ⟨some 11, .bld [(.int .i64 0), (.int .i64 0), (.int .i64 0), (.int .i64 0), (.int .i64 0)] [], none⟩,
 ⟨some 12, .eqv (.ag [.i, .i, .i, .i, .i]) false (.t 10) (.t 11), none⟩])
 (.cond (.t 12)
 (.seq (.region [⟨some 13, .mv (.t 0), none⟩,
 ⟨some 14, .nilck (.t 13), none⟩,
 ⟨some 15, .fa (.t 14) 0, none⟩,
 ⟨some 16, .fa (.t 15) 6, none⟩,
 ⟨some 17, .ld false 1 (.t 16), none⟩,
 ⟨some 18, .len false (.t 17), none⟩,
 ⟨some 19, .bin .eql (.t 18) (.c (.int .i64 0)), none⟩,
 ⟨some 4, .mv (.t 19), none⟩])
 .ret)
 .skip))
 (.seq (.region [⟨(some 20), .mkmap, none⟩,
 ⟨some 5, .mv (.t 20), none⟩])
 (.seq (.seq (.region [⟨some 21, .ld true 5 (.t 3), none⟩,
 ⟨some 22, .mv (.c (.int .i64 0)), none⟩])
 (.block 0
 (.loop
 (.seq (.region [⟨some 23, .bin .lss (.t 22) (.c (.int .i64 5)), none⟩])
 (.seq (.cond (.t 23)
 .skip
 (.exit 0))
 (.seq (.block 1
 (.seq (.region [⟨some 24, .mv (.t 22), none⟩,
 ⟨some 25, .ix 5 1 false (.t 21) (.t 22), none⟩,
 ⟨some 6, .mv (.t 24), none⟩,
 ⟨some 7, .mv (.t 25), none⟩])
 (.seq (.region [⟨some 26, .mv (.t 7), none⟩,
 ⟨some 27, .bin .gtr (.t 26) (.c (.int .i64 0)), none⟩,
 ⟨some 28, .mv (.t 27), none⟩,
 ⟨(some 29), (.mv (.t 0)), (some (28, true))⟩,
 ⟨(some 30), (.nilck (.t 29)), (some (28, true))⟩,
 ⟨(some 31), (.fa (.t 30) 0), (some (28, true))⟩,
 ⟨(some 32), (.fa (.t 31) 4), (some (28, true))⟩,
 ⟨(some 33), (.ld false 1 (.t 32)), (some (28, true))⟩,
 ⟨(some 34), (.mv (.t 7)), (some (28, true))⟩,
 ⟨(some 35), (.bin .sub (.t 34) (.c (.int .i64 1))), (some (28, true))⟩,
 ⟨(some 36), (.ia 4 (.t 33) (.t 35)), (some (28, true))⟩,
 ⟨(some 37), (.fa (.t 36) 1), (some (28, true))⟩,
 ⟨(some 38), (.ld false 1 (.t 37)), (some (28, true))⟩,
 ⟨some 39, .pick (.t 28) (.t 38) (.c (.bool false)), none⟩])
 (.cond (.t 39)
 (.region [⟨some 40, .mv (.t 5), none⟩,
 ⟨some 41, .mv (.t 0), none⟩,
 ⟨some 42, .nilck (.t 41), none⟩,
 ⟨some 43, .fa (.t 42) 0, none⟩,
 ⟨some 44, .fa (.t 43) 5, none⟩,
 ⟨some 45, .ld false 1 (.t 44), none⟩,
 ⟨some 46, .mv (.t 6), none⟩,
 ⟨some 47, .ia 6 (.t 45) (.t 46), none⟩,
 ⟨some 48, .fa (.t 47) 1, none⟩,
 ⟨some 49, .ld false 1 (.t 48), none⟩,
 ⟨some 50, .lkp (.sc .i) (.int .i64 0) false (.t 40) (.t 49), none⟩,
 ⟨some 51, .bin .add (.t 50) (.c (.int .i64 1)), none⟩,
 ⟨none, .mapup (.sc .i) (.t 40) (.t 49) (.t 51), none⟩])
 .skip))))
 (.region [⟨some 52, .bin .add (.t 22) (.c (.int .i64 1)), none⟩,
 ⟨some 22, .mv (.t 52), none⟩])))))))
 (.seq (.seq (.region [⟨some 53, .mv (.t 0), none⟩,
 ⟨some 54, .nilck (.t 53), none⟩,
 ⟨some 55, .fa (.t 54) 0, none⟩,
 ⟨some 56, .fa (.t 55) 6, none⟩,
 ⟨some 57, .ld false 1 (.t 56), none⟩,
 ⟨some 58, .len false (.t 57), none⟩,
 ⟨some 59, .mv (.c (.int .i64 0)), none⟩])
 (.block 2
 (.loop
 (.seq (.region [⟨some 60, .bin .lss (.t 59) (.t 58), none⟩])
 (.seq (.cond (.t 60)
 .skip
 (.exit 2))
 (.seq (.block 3
 (.seq (.region [⟨some 61, .ia 1 (.t 57) (.t 59), none⟩,
 ⟨some 62, .ld false 1 (.t 61), none⟩,
 ⟨some 9, .mv (.t 62), none⟩])
 (.seq (.region [⟨some 63, .mv (.t 5), none⟩,
 ⟨some 64, .mv (.t 9), none⟩,
 ⟨some 65, .lkp (.sc .i) (.int .i64 0) false (.t 63) (.t 64), none⟩,
 ⟨some 66, .bin .sub (.t 65) (.c (.int .i64 1)), none⟩,
 ⟨none, .mapup (.sc .i) (.t 63) (.t 64) (.t 66), none⟩])
 (.seq (.region [⟨some 67, .mv (.t 5), none⟩,
 ⟨some 68, .mv (.t 9), none⟩,
 ⟨some 69, .lkp (.sc .i) (.int .i64 0) false (.t 67) (.t 68), none⟩,
 ⟨some 70, .bin .lss (.t 69) (.c (.int .i64 0)), none⟩])
 (.cond (.t 70)
 (.seq (.region [⟨some 4, .mv (.c (.bool false)), none⟩])
 .ret)
 .skip)))))
 (.region [⟨some 71, .bin .add (.t 59) (.c (.int .i64 1)), none⟩,
 ⟨some 59, .mv (.t 71), none⟩])))))))
 (.seq (.region [⟨some 4, .mv (.c (.bool true)), none⟩])
 .ret)))))), [.tmp 4]⟩
theorem c86 : compFun Tryz.prog Tryz.f86 = some ir86 := by kernel_rfl
def ir87 : IFun := ⟨9, (.seq (.region [⟨some 4, .mv (.c (.bool false)), none⟩])
 (.seq (.region [⟨some 5, .mv (.t 0), none⟩,
 ⟨some 6, .mv (.t 1), none⟩,
 ⟨some 7, .call (.c (.func 101 [] [])) [(.t 5), (.t 6)], none⟩,
 ⟨some 8, .bin .geq (.t 7) (.c (.int .i64 0)), none⟩,
 ⟨some 4, .mv (.t 8), none⟩])
 .ret)), [.tmp 4]⟩
theorem c87 : compFun Tryz.prog Tryz.f87 = some ir87 := by kernel_rfl
def ir88 : IFun := ⟨33, (.seq (.region [⟨some 4, .box (.t 1), none⟩,
 ⟨some 6, .mv (.c (.bool false)), none⟩])
 (.seq (.seq (.region [⟨some 9, .mv (.t 0), none⟩,
 ⟨some 10, .nilck (.t 9), none⟩,
 ⟨some 11, .fa (.t 10) 7, none⟩,
 ⟨some 12, .ld false 1 (.t 11), none⟩,
 ⟨some 13, .len false (.t 12), none⟩,
 ⟨some 14, .mv (.c (.int .i64 0)), none⟩])
 (.block 0
 (.loop
 (.seq (.region [⟨some 15, .bin .lss (.t 14) (.t 13), none⟩])
 (.seq (.cond (.t 15)
 .skip
 (.exit 0))
 (.seq (.block 1
 (.seq (.region [⟨some 16, .ia 2 (.t 12) (.t 14), none⟩,
 ⟨some 17, .ld true 2 (.t 16), none⟩,
 ⟨some 8, .alloc (.agg [(.bool false), .nilfunc]), none⟩,
 ⟨none, .st 2 (.t 8) (.t 17), none⟩])
 (.seq (.region [⟨some 18, .mv (.t 2), none⟩,
 ⟨some 19, .mv (.t 18), none⟩,
 ⟨(some 20), (.fa (.t 8) 0), (some (19, false))⟩,
 ⟨(some 21), (.ld false 1 (.t 20)), (some (19, false))⟩,
 ⟨(some 22), (.un .not (.t 21)), (some (19, false))⟩,
 ⟨some 23, .pick (.t 19) (.c (.bool true)) (.t 22), none⟩,
 ⟨some 24, .mv (.t 23), none⟩,
 ⟨(some 25), (.fa (.t 8) 1), (some (24, true))⟩,
 ⟨(some 26), (.ld false 1 (.t 25)), (some (24, true))⟩,
 ⟨(some 27), (.mv (.t 0)), (some (24, true))⟩,
 ⟨(some 28), (.ld true 5 (.t 4)), (some (24, true))⟩,
 ⟨(some 29), (.call (.t 26) [(.t 27), (.t 28)]), (some (24, true))⟩,
 ⟨(some 30), (.un .not (.t 29)), (some (24, true))⟩,
 ⟨some 31, .pick (.t 24) (.t 30) (.c (.bool false)), none⟩])
 (.cond (.t 31)
 (.seq (.region [⟨some 6, .mv (.c (.bool false)), none⟩])
 .ret)
 .skip))))
 (.region [⟨some 32, .bin .add (.t 14) (.c (.int .i64 1)), none⟩,
 ⟨some 14, .mv (.t 32), none⟩])))))))
 (.seq (.region [⟨some 6, .mv (.c (.bool true)), none⟩])
 .ret))), [.tmp 6]⟩
theorem c88 : compFun Tryz.prog Tryz.f88 = some ir88 := by kernel_rfl
def ir89 : IFun := ⟨23, (.seq (.region [⟨some 2, .box (.t 0), none⟩])
 (.seq (.region [⟨some 7, .ld false 1 (.t 1), none⟩,
 ⟨some 8, .mkfn 59 [(.t 7)] [], none⟩,
 ⟨some 3, .alloc .nilfunc, none⟩,
 ⟨none, .st 1 (.t 3) (.t 8), none⟩])
 (.seq (.region [⟨some 9, .ld false 1 (.t 1), none⟩,
 ⟨some 10, .nilck (.t 9), none⟩,
 ⟨some 11, .fa (.t 10) 0, none⟩,
 ⟨some 12, .fa (.t 11) 2, none⟩,
 ⟨some 13, .ld false 1 (.t 12), none⟩,
 ⟨some 14, .bin .shl (.c (.int .i64 1)) (.t 13), none⟩,
 ⟨some 15, .mv (.c (.int .i64 0)), none⟩])
 (.block 0
 (.loop
 (.seq (.region [⟨some 16, .bin .lss (.t 15) (.t 14), none⟩])
 (.seq (.cond (.t 16)
 .skip
 (.exit 0))
 (.seq (.block 1
 (.seq (.region [⟨some 17, .mv (.t 15), none⟩,
 ⟨some 4, .alloc (.int .i64 0), none⟩,
 ⟨none, .st 1 (.t 4) (.t 17), none⟩])
 (.seq (.region [⟨some 5, .alloc (.agg [(.int .i64 0), (.int .i64 0), (.int .i64 0), (.int .i64 0), (.int .i64 0)]), none⟩])
 (.seq (.region [⟨some 6, .alloc .nilfunc, none⟩])
 (.seq (.region [⟨some 18, .mkfn 90 [] [(.t 1), (.t 5), (.t 2), (.t 4), (.t 3), (.t 6)], none⟩,
 ⟨none, .st 1 (.t 6) (.t 18), none⟩])
 (.seq (.region [⟨some 19, .ld false 1 (.t 6), none⟩,
 ⟨some 20, .call (.t 19) [(.c (.int .i64 0)), (.c (.int .i64 0))], none⟩,
 ⟨some 21, .un .not (.t 20), none⟩])
 (.cond (.t 21)
 .ret
 .skip)))))))
 (.region [⟨some 22, .bin .add (.t 15) (.c (.int .i64 1)), none⟩,
 ⟨some 15, .mv (.t 22), none⟩]))))))))), []⟩
theorem c89 : compFun Tryz.prog Tryz.f89 = some ir89 := by kernel_rfl
def ir90 : IFun := ⟨79, (.seq (.region [⟨some 10, .mv (.c (.bool false)), none⟩])
 (.scope (.seq (.seq (.region [⟨some 12, .mv (.t 0), none⟩,
 ⟨some 13, .ld false 1 (.t 2), none⟩,
 ⟨some 14, .nilck (.t 13), none⟩,
 ⟨some 15, .fa (.t 14) 0, none⟩,
 ⟨some 16, .fa (.t 15) 5, none⟩,
 ⟨some 17, .ld false 1 (.t 16), none⟩,
 ⟨some 18, .len false (.t 17), none⟩,
 ⟨some 19, .bin .eql (.t 12) (.t 18), none⟩])
 (.cond (.t 19)
 (.seq (.region [⟨some 20, .ld false 1 (.t 2), none⟩,
 ⟨some 21, .ld true 5 (.t 3), none⟩,
 ⟨some 22, .call (.c (.func 88 [] [])) [(.t 20), (.t 21), (.c (.bool true))], none⟩,
 ⟨some 23, .un .not (.t 22), none⟩,
 ⟨some 24, .mv (.t 23), none⟩,
 ⟨(some 25), (.ld false 1 (.t 4)), (some (24, false))⟩,
 ⟨(some 26), (.ld false 1 (.t 5)), (some (24, false))⟩,
 ⟨(some 27), (.ld true 5 (.t 3)), (some (24, false))⟩,
 ⟨(some 28), (.bld [(.int .i64 0), (.int .i64 0), (.int .i64 0), (.int .i64 0), (.int .i64 0), (.int .i64 0)] [(0, 1, (.t 26)), (1, 5, (.t 27))]), (some (24, false))⟩,
 ⟨(some 29), (.call (.t 25) [(.t 28)]), (some (24, false))⟩,
 ⟨some 30, .pick (.t 24) (.c (.bool true)) (.t 29), none⟩,
 ⟨some 10, .mv (.t 30), none⟩])
 .ret)
 .skip))
 (.seq .skip
 (.seq (.seq (.region [⟨some 31, .ld false 1 (.t 2), none⟩,
 ⟨some 32, .nilck (.t 31), none⟩,
 ⟨some 33, .fa (.t 32) 0, none⟩,
 ⟨some 34, .fa (.t 33) 4, none⟩,
 ⟨some 35, .ld false 1 (.t 34), none⟩,
 ⟨some 36, .len false (.t 35), none⟩,
 ⟨some 37, .mv (.c (.int .i64 0)), none⟩])
 (.block 0
 (.loop
 (.seq (.region [⟨some 38, .bin .lss (.t 37) (.t 36), none⟩])
 (.seq (.cond (.t 38)
 .skip
 (.exit 0))
 (.seq (.block 1
 (.seq (.region [⟨some 39, .mv (.t 37), none⟩,
 ⟨some 11, .mv (.t 39), none⟩])
 (.seq (.seq (.region [⟨some 40, .mv (.t 1), none⟩,
 ⟨some 41, .mv (.t 11), none⟩,
 ⟨some 42, .bin .shr (.t 40) (.t 41), none⟩,
 ⟨some 43, .bin .and (.t 42) (.c (.int .i64 1)), none⟩,
 ⟨some 44, .bin .eql (.t 43) (.c (.int .i64 1)), none⟩,
 ⟨some 45, .mv (.t 44), none⟩,
 ⟨(some 46), (.ld false 1 (.t 6)), (some (45, false))⟩,
 ⟨(some 47), (.mv (.t 0)), (some (45, false))⟩,
 ⟨(some 48), (.mv (.t 11)), (some (45, false))⟩,
 ⟨(some 49), (.ld false 1 (.t 5)), (some (45, false))⟩,
 ⟨(some 50), (.call (.t 46) [(.t 47), (.t 48), (.t 49)]), (some (45, false))⟩,
 ⟨(some 51), (.bin .neq (.t 50) (.c (.int .i64 1))), (some (45, false))⟩,
 ⟨some 52, .pick (.t 45) (.c (.bool true)) (.t 51), none⟩])
 (.cond (.t 52)
 (.exit 1)
 .skip))
 (.seq (.region [⟨some 53, .mv (.t 0), none⟩,
 ⟨some 54, .mv (.t 11), none⟩,
 ⟨some 55, .bin .add (.t 54) (.c (.int .i64 1)), none⟩,
 ⟨some 56, .iaa 5 1 (.t 3) (.t 53), none⟩,
 ⟨none, .st 1 (.t 56) (.t 55), none⟩])
 (.seq (.draw [⟨⟨some 57, .ld false 1 (.t 2), none⟩, false, [⟨some 57, .ld false 1 (.t 2), none⟩], []⟩,
 ⟨⟨some 58, .ld true 5 (.t 3), none⟩, false, [⟨some 58, .ld true 5 (.t 3), none⟩], []⟩,
 ⟨⟨some 59, .call (.c (.func 88 [] [])) [(.t 57), (.t 58), (.c (.bool false))], none⟩, true, [], []⟩,
 ⟨⟨some 60, .mv (.t 59), none⟩, false, [], []⟩,
 ⟨⟨(some 61), (.ld false 1 (.t 7)), (some (60, true))⟩, false, [⟨(some 61), (.ld false 1 (.t 7)), (some (60, true))⟩], []⟩,
 ⟨⟨(some 62), (.mv (.t 0)), (some (60, true))⟩, false, [], []⟩,
 ⟨⟨(some 63), (.bin .add (.t 62) (.c (.int .i64 1))), (some (60, true))⟩, false, [], []⟩,
 ⟨⟨(some 64), (.mv (.t 1)), (some (60, true))⟩, false, [], []⟩,
 ⟨⟨(some 65), (.mv (.t 11)), (some (60, true))⟩, false, [], []⟩,
 ⟨⟨(some 66), (.bin .shl (.c (.int .i64 1)) (.t 65)), (some (60, true))⟩, false, [], []⟩,
 ⟨⟨(some 67), (.bin .or (.t 64) (.t 66)), (some (60, true))⟩, false, [], []⟩,
 ⟨⟨(some 68), (.call (.t 61) [(.t 63), (.t 67)]), (some (60, true))⟩, true, [], []⟩,
 ⟨⟨(some 69), (.un .not (.t 68)), (some (60, true))⟩, false, [], []⟩,
 ⟨⟨some 70, .pick (.t 60) (.t 69) (.c (.bool false)), none⟩, false, [], []⟩])
 (.cond (.t 70)
 (.seq (.region [⟨some 10, .mv (.c (.bool false)), none⟩])
 .ret)
 .skip))))))
 (.region [⟨some 71, .bin .add (.t 37) (.c (.int .i64 1)), none⟩,
 ⟨some 37, .mv (.t 71), none⟩])))))))
 (.seq (.region [⟨some 72, .mv (.t 0), none⟩,
 ⟨some 73, .iaa 5 1 (.t 3) (.t 72), none⟩,
 ⟨none, .st 1 (.t 73) (.c (.int .i64 0)), none⟩])
 (.seq (.region [⟨some 74, .ld false 1 (.t 7), none⟩,
 ⟨some 75, .mv (.t 0), none⟩,
 ⟨some 76, .bin .add (.t 75) (.c (.int .i64 1)), none⟩,
 ⟨some 77, .mv (.t 1), none⟩,
 ⟨some 78, .call (.t 74) [(.t 76), (.t 77)], none⟩,
 ⟨some 10, .mv (.t 78), none⟩])
 .ret))))))), [.tmp 10]⟩
theorem c90 : compFun Tryz.prog Tryz.f90 = some ir90 := by kernel_rfl
def ir91 : IFun := ⟨8, (.seq (.region [⟨some 2, .mv (.c (.int .i64 0)), none⟩])
 (.seq (.cond (.c (.bool false))
 (.seq (.region [⟨some 3, .mv (.t 0), none⟩,
 ⟨some 4, .conv .u32 (.t 3), none⟩,
 ⟨some 5, .call (.c (.func 102 [] [])) [(.t 4)], none⟩,
 ⟨some 2, .mv (.t 5), none⟩])
 .ret)
 .skip)
 (.seq (.region [⟨some 6, .mv (.t 0), none⟩,
 ⟨some 7, .call (.c (.func 103 [] [])) [(.t 6)], none⟩,
 ⟨some 2, .mv (.t 7), none⟩])
 .ret))), [.tmp 2]⟩
theorem c91 : compFun Tryz.prog Tryz.f91 = some ir91 := by kernel_rfl
def ir92 : IFun := ⟨20, (.seq (.region [⟨some 4, .mv (.c (.int .i64 0)), none⟩])
 (.seq (.region [⟨some 7, .mv (.t 0), none⟩,
 ⟨some 8, .call (.c (.func 104 [] [])) [(.t 7)], none⟩,
 ⟨some 5, .mv (.t 8), none⟩])
 (.seq (.region [⟨some 9, .mv (.t 1), none⟩,
 ⟨some 10, .call (.c (.func 104 [] [])) [(.t 9)], none⟩,
 ⟨some 6, .mv (.t 10), none⟩])
 (.seq (.seq (.region [⟨some 11, .mv (.t 5), none⟩])
 (.cond (.t 11)
 (.seq (.seq (.region [⟨some 12, .mv (.t 6), none⟩])
 (.cond (.t 12)
 (.seq (.region [⟨some 4, .mv (.c (.int .i64 0)), none⟩])
 .ret)
 .skip))
 (.seq (.region [⟨some 4, .mv (.c (.int .i64 (-1))), none⟩])
 .ret))
 .skip))
 (.seq (.seq (.region [⟨some 13, .mv (.t 6), none⟩])
 (.cond (.t 13)
 (.seq (.region [⟨some 4, .mv (.c (.int .i64 1)), none⟩])
 .ret)
 .skip))
 (.seq (.seq (.region [⟨some 14, .mv (.t 0), none⟩,
 ⟨some 15, .mv (.t 1), none⟩,
 ⟨some 16, .bin .lss (.t 14) (.t 15), none⟩])
 (.cond (.t 16)
 (.seq (.region [⟨some 4, .mv (.c (.int .i64 (-1))), none⟩])
 .ret)
 .skip))
 (.seq (.seq (.region [⟨some 17, .mv (.t 0), none⟩,
 ⟨some 18, .mv (.t 1), none⟩,
 ⟨some 19, .bin .gtr (.t 17) (.t 18), none⟩])
 (.cond (.t 19)
 (.seq (.region [⟨some 4, .mv (.c (.int .i64 1)), none⟩])
 .ret)
 .skip))
 (.seq (.region [⟨some 4, .mv (.c (.int .i64 0)), none⟩])
 .ret)))))))), [.tmp 4]⟩
theorem c92 : compFun Tryz.prog Tryz.f92 = some ir92 := by kernel_rfl
def ir93 : IFun := ⟨21, (.seq (.region [⟨some 2, .mv (.c (.int .i64 0)), none⟩])
 (.seq (.draw [⟨⟨some 3, .mv (.t 0), none⟩, false, [], []⟩,
 ⟨⟨some 4, .bin .shr (.t 3) (.c (.int .u64 24)), none⟩, false, [], []⟩,
 ⟨⟨some 5, .ixs (.c (.str [0, 1, 1, 2, 1, 2, 2, 3, 1, 2, 2, 3, 2, 3, 3, 4, 1, 2, 2, 3, 2, 3, 3, 4, 2, 3, 3, 4, 3, 4, 4, 5, 1, 2, 2, 3, 2, 3, 3, 4, 2, 3, 3, 4, 3, 4, 4, 5, 2, 3, 3, 4, 3, 4, 4, 5, 3, 4, 4, 5, 4, 5, 5, 6, 1, 2, 2, 3, 2, 3, 3, 4, 2, 3, 3, 4, 3, 4, 4, 5, 2, 3, 3, 4, 3, 4, 4, 5, 3, 4, 4, 5, 4, 5, 5, 6, 2, 3, 3, 4, 3, 4, 4, 5, 3, 4, 4, 5, 4, 5, 5, 6, 3, 4, 4, 5, 4, 5, 5, 6, 4, 5, 5, 6, 5, 6, 6, 7, 1, 2, 2, 3, 2, 3, 3, 4, 2, 3, 3, 4, 3, 4, 4, 5, 2, 3, 3, 4, 3, 4, 4, 5, 3, 4, 4, 5, 4, 5, 5, 6, 2, 3, 3, 4, 3, 4, 4, 5, 3, 4, 4, 5, 4, 5, 5, 6, 3, 4, 4, 5, 4, 5, 5, 6, 4, 5, 5, 6, 5, 6, 6, 7, 2, 3, 3, 4, 3, 4, 4, 5, 3, 4, 4, 5, 4, 5, 5, 6, 3, 4, 4, 5, 4, 5, 5, 6, 4, 5, 5, 6, 5, 6, 6, 7, 3, 4, 4, 5, 4, 5, 5, 6, 4, 5, 5, 6, 5, 6, 6, 7, 4, 5, 5, 6, 5, 6, 6, 7, 5, 6, 6, 7, 6, 7, 7, 8])) (.t 4), none⟩, false, [], []⟩,
 ⟨⟨some 6, .mv (.t 0), none⟩, false, [], []⟩,
 ⟨⟨some 7, .bin .shr (.t 6) (.c (.int .u64 16)), none⟩, false, [], []⟩,
 ⟨⟨some 8, .bin .and (.t 7) (.c (.int .u32 255)), none⟩, false, [], []⟩,
 ⟨⟨some 9, .ixs (.c (.str [0, 1, 1, 2, 1, 2, 2, 3, 1, 2, 2, 3, 2, 3, 3, 4, 1, 2, 2, 3, 2, 3, 3, 4, 2, 3, 3, 4, 3, 4, 4, 5, 1, 2, 2, 3, 2, 3, 3, 4, 2, 3, 3, 4, 3, 4, 4, 5, 2, 3, 3, 4, 3, 4, 4, 5, 3, 4, 4, 5, 4, 5, 5, 6, 1, 2, 2, 3, 2, 3, 3, 4, 2, 3, 3, 4, 3, 4, 4, 5, 2, 3, 3, 4, 3, 4, 4, 5, 3, 4, 4, 5, 4, 5, 5, 6, 2, 3, 3, 4, 3, 4, 4, 5, 3, 4, 4, 5, 4, 5, 5, 6, 3, 4, 4, 5, 4, 5, 5, 6, 4, 5, 5, 6, 5, 6, 6, 7, 1, 2, 2, 3, 2, 3, 3, 4, 2, 3, 3, 4, 3, 4, 4, 5, 2, 3, 3, 4, 3, 4, 4, 5, 3, 4, 4, 5, 4, 5, 5, 6, 2, 3, 3, 4, 3, 4, 4, 5, 3, 4, 4, 5, 4, 5, 5, 6, 3, 4, 4, 5, 4, 5, 5, 6, 4, 5, 5, 6, 5, 6, 6, 7, 2, 3, 3, 4, 3, 4, 4, 5, 3, 4, 4, 5, 4, 5, 5, 6, 3, 4, 4, 5, 4, 5, 5, 6, 4, 5, 5, 6, 5, 6, 6, 7, 3, 4, 4, 5, 4, 5, 5, 6, 4, 5, 5, 6, 5, 6, 6, 7, 4, 5, 5, 6, 5, 6, 6, 7, 5, 6, 6, 7, 6, 7, 7, 8])) (.t 8), none⟩, false, [], []⟩,
 ⟨⟨some 10, .bin .add (.t 5) (.t 9), none⟩, false, [], []⟩,
 ⟨⟨some 11, .mv (.t 0), none⟩, false, [], []⟩,
 ⟨⟨some 12, .bin .shr (.t 11) (.c (.int .u64 8)), none⟩, false, [], []⟩,
 ⟨⟨some 13, .bin .and (.t 12) (.c (.int .u32 255)), none⟩, false, [], []⟩,
 ⟨⟨some 14, .ixs (.c (.str [0, 1, 1, 2, 1, 2, 2, 3, 1, 2, 2, 3, 2, 3, 3, 4, 1, 2, 2, 3, 2, 3, 3, 4, 2, 3, 3, 4, 3, 4, 4, 5, 1, 2, 2, 3, 2, 3, 3, 4, 2, 3, 3, 4, 3, 4, 4, 5, 2, 3, 3, 4, 3, 4, 4, 5, 3, 4, 4, 5, 4, 5, 5, 6, 1, 2, 2, 3, 2, 3, 3, 4, 2, 3, 3, 4, 3, 4, 4, 5, 2, 3, 3, 4, 3, 4, 4, 5, 3, 4, 4, 5, 4, 5, 5, 6, 2, 3, 3, 4, 3, 4, 4, 5, 3, 4, 4, 5, 4, 5, 5, 6, 3, 4, 4, 5, 4, 5, 5, 6, 4, 5, 5, 6, 5, 6, 6, 7, 1, 2, 2, 3, 2, 3, 3, 4, 2, 3, 3, 4, 3, 4, 4, 5, 2, 3, 3, 4, 3, 4, 4, 5, 3, 4, 4, 5, 4, 5, 5, 6, 2, 3, 3, 4, 3, 4, 4, 5, 3, 4, 4, 5, 4, 5, 5, 6, 3, 4, 4, 5, 4, 5, 5, 6, 4, 5, 5, 6, 5, 6, 6, 7, 2, 3, 3, 4, 3, 4, 4, 5, 3, 4, 4, 5, 4, 5, 5, 6, 3, 4, 4, 5, 4, 5, 5, 6, 4, 5, 5, 6, 5, 6, 6, 7, 3, 4, 4, 5, 4, 5, 5, 6, 4, 5, 5, 6, 5, 6, 6, 7, 4, 5, 5, 6, 5, 6, 6, 7, 5, 6, 6, 7, 6, 7, 7, 8])) (.t 13), none⟩, false, [], []⟩,
 ⟨⟨some 15, .bin .add (.t 10) (.t 14), none⟩, false, [], []⟩,
 ⟨⟨some 16, .mv (.t 0), none⟩, false, [], []⟩,
 ⟨⟨some 17, .bin .and (.t 16) (.c (.int .u32 255)), none⟩, false, [], []⟩,
 ⟨⟨some 18, .ixs (.c (.str [0, 1, 1, 2, 1, 2, 2, 3, 1, 2, 2, 3, 2, 3, 3, 4, 1, 2, 2, 3, 2, 3, 3, 4, 2, 3, 3, 4, 3, 4, 4, 5, 1, 2, 2, 3, 2, 3, 3, 4, 2, 3, 3, 4, 3, 4, 4, 5, 2, 3, 3, 4, 3, 4, 4, 5, 3, 4, 4, 5, 4, 5, 5, 6, 1, 2, 2, 3, 2, 3, 3, 4, 2, 3, 3, 4, 3, 4, 4, 5, 2, 3, 3, 4, 3, 4, 4, 5, 3, 4, 4, 5, 4, 5, 5, 6, 2, 3, 3, 4, 3, 4, 4, 5, 3, 4, 4, 5, 4, 5, 5, 6, 3, 4, 4, 5, 4, 5, 5, 6, 4, 5, 5, 6, 5, 6, 6, 7, 1, 2, 2, 3, 2, 3, 3, 4, 2, 3, 3, 4, 3, 4, 4, 5, 2, 3, 3, 4, 3, 4, 4, 5, 3, 4, 4, 5, 4, 5, 5, 6, 2, 3, 3, 4, 3, 4, 4, 5, 3, 4, 4, 5, 4, 5, 5, 6, 3, 4, 4, 5, 4, 5, 5, 6, 4, 5, 5, 6, 5, 6, 6, 7, 2, 3, 3, 4, 3, 4, 4, 5, 3, 4, 4, 5, 4, 5, 5, 6, 3, 4, 4, 5, 4, 5, 5, 6, 4, 5, 5, 6, 5, 6, 6, 7, 3, 4, 4, 5, 4, 5, 5, 6, 4, 5, 5, 6, 5, 6, 6, 7, 4, 5, 5, 6, 5, 6, 6, 7, 5, 6, 6, 7, 6, 7, 7, 8])) (.t 17), none⟩, false, [], []⟩,
 ⟨⟨some 19, .bin .add (.t 15) (.t 18), none⟩, false, [], []⟩,
 ⟨⟨some 20, .conv .i64 (.t 19), none⟩, false, [], []⟩,
 ⟨⟨some 2, .mv (.t 20), none⟩, false, [], []⟩])
 .ret)), [.tmp 2]⟩
theorem c93 : compFun Tryz.prog Tryz.f93 = some ir93 := by kernel_rfl
def ir94 : IFun := ⟨35, (.seq (.region [⟨some 2, .mv (.c (.int .i64 0)), none⟩])
 (.seq (.region [⟨some 3, .mv (.t 0), none⟩,
 ⟨some 4, .bin .shr (.t 3) (.c (.int .u64 1)), none⟩,
 ⟨some 5, .bin .and (.t 4) (.c (.int .u64 6148914691236517205)), none⟩,
 ⟨some 6, .mv (.t 0), none⟩,
 ⟨some 7, .bin .and (.t 6) (.c (.int .u64 6148914691236517205)), none⟩,
 ⟨some 8, .bin .add (.t 5) (.t 7), none⟩,
 ⟨some 0, .mv (.t 8), none⟩])
 (.seq (.region [⟨some 9, .mv (.t 0), none⟩,
 ⟨some 10, .bin .shr (.t 9) (.c (.int .u64 2)), none⟩,
 ⟨some 11, .bin .and (.t 10) (.c (.int .u64 3689348814741910323)), none⟩,
 ⟨some 12, .mv (.t 0), none⟩,
 ⟨some 13, .bin .and (.t 12) (.c (.int .u64 3689348814741910323)), none⟩,
 ⟨some 14, .bin .add (.t 11) (.t 13), none⟩,
 ⟨some 0, .mv (.t 14), none⟩])
 (.seq (.region [⟨some 15, .mv (.t 0), none⟩,
 ⟨some 16, .bin .shr (.t 15) (.c (.int .u64 4)), none⟩,
 ⟨some 17, .mv (.t 0), none⟩,
 ⟨some 18, .bin .add (.t 16) (.t 17), none⟩,
 ⟨some 19, .bin .and (.t 18) (.c (.int .u64 1085102592571150095)), none⟩,
 ⟨some 0, .mv (.t 19), none⟩])
 (.seq (.region [⟨some 20, .mv (.t 0), none⟩,
 ⟨some 21, .mv (.t 0), none⟩,
 ⟨some 22, .bin .shr (.t 21) (.c (.int .u64 8)), none⟩,
 ⟨some 23, .bin .add (.t 20) (.t 22), none⟩,
 ⟨some 0, .mv (.t 23), none⟩])
 (.seq (.region [⟨some 24, .mv (.t 0), none⟩,
 ⟨some 25, .mv (.t 0), none⟩,
 ⟨some 26, .bin .shr (.t 25) (.c (.int .u64 16)), none⟩,
 ⟨some 27, .bin .add (.t 24) (.t 26), none⟩,
 ⟨some 0, .mv (.t 27), none⟩])
 (.seq (.region [⟨some 28, .mv (.t 0), none⟩,
 ⟨some 29, .mv (.t 0), none⟩,
 ⟨some 30, .bin .shr (.t 29) (.c (.int .u64 32)), none⟩,
 ⟨some 31, .bin .add (.t 28) (.t 30), none⟩,
 ⟨some 0, .mv (.t 31), none⟩])
 (.seq (.region [⟨some 32, .mv (.t 0), none⟩,
 ⟨some 33, .conv .i64 (.t 32), none⟩,
 ⟨some 34, .bin .and (.t 33) (.c (.int .i64 127)), none⟩,
 ⟨some 2, .mv (.t 34), none⟩])
 .ret)))))))), [.tmp 2]⟩
theorem c94 : compFun Tryz.prog Tryz.f94 = some ir94 := by kernel_rfl
def ir95 : IFun := ⟨20, (.seq (.region [⟨some 8, .box (.t 3), none⟩,
 ⟨some 10, .alloc (.agg [(.str []), (.int .i64 0), (.int .i64 0), (.int .i64 0), (.int .i64 0), (.int .i64 0)]), none⟩])
 (.seq (.region [⟨some 11, .mv (.t 0), none⟩,
 ⟨some 12, .mv (.t 1), none⟩,
 ⟨some 13, .mv (.t 2), none⟩,
 ⟨some 14, .fa (.t 8) 0, none⟩,
 ⟨some 15, .ld false 1 (.t 14), none⟩,
 ⟨some 16, .fa (.t 8) 1, none⟩,
 ⟨some 17, .ld false 1 (.t 16), none⟩,
 ⟨some 18, .mv (.t 4), none⟩,
 ⟨some 19, .bld [(.str []), (.int .i64 0), (.int .i64 0), (.int .i64 0), (.int .i64 0), (.int .i64 0)] [(0, 1, (.t 11)), (1, 1, (.t 12)), (2, 1, (.t 13)), (3, 1, (.t 15)), (4, 1, (.t 17)), (5, 1, (.t 18))], none⟩,
 ⟨none, .st 6 (.t 10) (.t 19), none⟩])
 .ret)), [.cell 10 true 6]⟩
theorem c95 : compFun Tryz.prog Tryz.f95 = some ir95 := by kernel_rfl
def ir96 : IFun := ⟨31, (.seq (.region [⟨some 7, .mv (.t 0), none⟩,
 ⟨some 8, .mv (.t 0), none⟩,
 ⟨some 9, .nilck (.t 8), none⟩,
 ⟨some 10, .fa (.t 9) 0, none⟩,
 ⟨some 11, .ld false 1 (.t 10), none⟩,
 ⟨some 12, .mv (.t 1), none⟩,
 ⟨some 13, .len false (.t 12), none⟩,
 ⟨some 14, .bldS 1 1 [(.int .i64 0)] [(0, 1, (.t 13))], none⟩,
 ⟨some 15, .app 1 8 (.t 11) (.t 14), none⟩,
 ⟨some 16, .nilck (.t 7), none⟩,
 ⟨some 17, .fa (.t 16) 0, none⟩,
 ⟨none, .st 1 (.t 17) (.t 15), none⟩])
 (.seq (.region [⟨some 6, .mv (.c (.int .i64 0)), none⟩])
 (.block 0
 (.loop
 (.seq (.seq (.region [⟨some 18, .mv (.t 6), none⟩,
 ⟨some 19, .mv (.t 1), none⟩,
 ⟨some 20, .len false (.t 19), none⟩,
 ⟨some 21, .bin .lss (.t 18) (.t 20), none⟩])
 (.cond (.t 21)
 .skip
 (.exit 0)))
 (.seq (.block 1
 (.region [⟨some 24, .mv (.t 2), none⟩,
 ⟨some 25, .mv (.t 0), none⟩,
 ⟨some 26, .mv (.t 1), none⟩,
 ⟨some 27, .mv (.t 6), none⟩,
 ⟨some 28, .ia 4 (.t 26) (.t 27), none⟩,
 ⟨some 29, .ld true 4 (.t 28), none⟩,
 ⟨some 30, .call (.t 24) [(.t 25), (.t 29)], none⟩]))
 (.region [⟨some 22, .mv (.t 6), none⟩,
 ⟨some 23, .bin .add (.t 22) (.c (.int .i64 1)), none⟩,
 ⟨some 6, .mv (.t 23), none⟩]))))))), []⟩
theorem c96 : compFun Tryz.prog Tryz.f96 = some ir96 := by kernel_rfl
def ir97 : IFun := ⟨20, (.seq (.region [⟨some 3, .box (.t 1), none⟩])
 (.seq (.region [⟨some 4, .mv (.t 0), none⟩,
 ⟨some 5, .fa (.t 3) 0, none⟩,
 ⟨some 6, .ld false 1 (.t 5), none⟩,
 ⟨some 7, .call (.c (.func 105 [] [])) [(.t 4), (.t 6)], none⟩])
 (.seq (.region [⟨some 8, .mv (.t 0), none⟩,
 ⟨some 9, .fa (.t 3) 1, none⟩,
 ⟨some 10, .ld false 1 (.t 9), none⟩,
 ⟨some 11, .call (.c (.func 106 [] [])) [(.t 8), (.t 10)], none⟩])
 (.seq (.region [⟨some 12, .mv (.t 0), none⟩,
 ⟨some 13, .fa (.t 3) 2, none⟩,
 ⟨some 14, .ld false 1 (.t 13), none⟩,
 ⟨some 15, .call (.c (.func 107 [] [])) [(.t 12), (.t 14)], none⟩])
 (.region [⟨some 16, .mv (.t 0), none⟩,
 ⟨some 17, .fa (.t 3) 3, none⟩,
 ⟨some 18, .ld false 1 (.t 17), none⟩,
 ⟨some 19, .call (.c (.func 8 [] [])) [(.t 16), (.t 18)], none⟩]))))), []⟩
theorem c97 : compFun Tryz.prog Tryz.f97 = some ir97 := by kernel_rfl
def ir98 : IFun := ⟨31, (.seq (.region [⟨some 7, .mv (.t 0), none⟩,
 ⟨some 8, .mv (.t 0), none⟩,
 ⟨some 9, .nilck (.t 8), none⟩,
 ⟨some 10, .fa (.t 9) 0, none⟩,
 ⟨some 11, .ld false 1 (.t 10), none⟩,
 ⟨some 12, .mv (.t 1), none⟩,
 ⟨some 13, .len false (.t 12), none⟩,
 ⟨some 14, .bldS 1 1 [(.int .i64 0)] [(0, 1, (.t 13))], none⟩,
 ⟨some 15, .app 1 8 (.t 11) (.t 14), none⟩,
 ⟨some 16, .nilck (.t 7), none⟩,
 ⟨some 17, .fa (.t 16) 0, none⟩,
 ⟨none, .st 1 (.t 17) (.t 15), none⟩])
 (.seq (.region [⟨some 6, .mv (.c (.int .i64 0)), none⟩])
 (.block 0
 (.loop
 (.seq (.seq (.region [⟨some 18, .mv (.t 6), none⟩,
 ⟨some 19, .mv (.t 1), none⟩,
 ⟨some 20, .len false (.t 19), none⟩,
 ⟨some 21, .bin .lss (.t 18) (.t 20), none⟩])
 (.cond (.t 21)
 .skip
 (.exit 0)))
 (.seq (.block 1
 (.region [⟨some 24, .mv (.t 2), none⟩,
 ⟨some 25, .mv (.t 0), none⟩,
 ⟨some 26, .mv (.t 1), none⟩,
 ⟨some 27, .mv (.t 6), none⟩,
 ⟨some 28, .ia 6 (.t 26) (.t 27), none⟩,
 ⟨some 29, .ld true 6 (.t 28), none⟩,
 ⟨some 30, .call (.t 24) [(.t 25), (.t 29)], none⟩]))
 (.region [⟨some 22, .mv (.t 6), none⟩,
 ⟨some 23, .bin .add (.t 22) (.c (.int .i64 1)), none⟩,
 ⟨some 6, .mv (.t 23), none⟩]))))))), []⟩
theorem c98 : compFun Tryz.prog Tryz.f98 = some ir98 := by kernel_rfl
def ir99 : IFun := ⟨28, (.seq (.region [⟨some 3, .box (.t 1), none⟩])
 (.seq (.region [⟨some 4, .mv (.t 0), none⟩,
 ⟨some 5, .fa (.t 3) 0, none⟩,
 ⟨some 6, .ld false 1 (.t 5), none⟩,
 ⟨some 7, .call (.c (.func 105 [] [])) [(.t 4), (.t 6)], none⟩])
 (.seq (.region [⟨some 8, .mv (.t 0), none⟩,
 ⟨some 9, .fa (.t 3) 1, none⟩,
 ⟨some 10, .ld false 1 (.t 9), none⟩,
 ⟨some 11, .call (.c (.func 8 [] [])) [(.t 8), (.t 10)], none⟩])
 (.seq (.region [⟨some 12, .mv (.t 0), none⟩,
 ⟨some 13, .fa (.t 3) 2, none⟩,
 ⟨some 14, .ld false 1 (.t 13), none⟩,
 ⟨some 15, .call (.c (.func 8 [] [])) [(.t 12), (.t 14)], none⟩])
 (.seq (.region [⟨some 16, .mv (.t 0), none⟩,
 ⟨some 17, .fa (.t 3) 3, none⟩,
 ⟨some 18, .ld false 1 (.t 17), none⟩,
 ⟨some 19, .call (.c (.func 8 [] [])) [(.t 16), (.t 18)], none⟩])
 (.seq (.region [⟨some 20, .mv (.t 0), none⟩,
 ⟨some 21, .fa (.t 3) 4, none⟩,
 ⟨some 22, .ld false 1 (.t 21), none⟩,
 ⟨some 23, .call (.c (.func 8 [] [])) [(.t 20), (.t 22)], none⟩])
 (.region [⟨some 24, .mv (.t 0), none⟩,
 ⟨some 25, .fa (.t 3) 5, none⟩,
 ⟨some 26, .ld false 1 (.t 25), none⟩,
 ⟨some 27, .call (.c (.func 8 [] [])) [(.t 24), (.t 26)], none⟩]))))))), []⟩
theorem c99 : compFun Tryz.prog Tryz.f99 = some ir99 := by kernel_rfl
def ir100 : IFun := ⟨19, (.seq (.region [⟨some 4, .mv (.c (.int .i64 0)), none⟩])
 (.seq (.seq (.region [⟨some 6, .mv (.t 0), none⟩,
 ⟨some 7, .len false (.t 6), none⟩,
 ⟨some 8, .mv (.c (.int .i64 0)), none⟩])
 (.block 0
 (.loop
 (.seq (.region [⟨some 9, .bin .lss (.t 8) (.t 7), none⟩])
 (.seq (.cond (.t 9)
 .skip
 (.exit 0))
 (.seq (.block 1
 (.seq (.region [⟨some 10, .mv (.t 8), none⟩,
 ⟨some 5, .mv (.t 10), none⟩])
 (.seq (.region [⟨some 11, .mv (.t 1), none⟩,
 ⟨some 12, .mv (.t 0), none⟩,
 ⟨some 13, .mv (.t 5), none⟩,
 ⟨some 14, .ia 1 (.t 12) (.t 13), none⟩,
 ⟨some 15, .ld false 1 (.t 14), none⟩,
 ⟨some 16, .call (.t 11) [(.t 15)], none⟩])
 (.cond (.t 16)
 (.seq (.region [⟨some 17, .mv (.t 5), none⟩,
 ⟨some 4, .mv (.t 17), none⟩])
 .ret)
 .skip))))
 (.region [⟨some 18, .bin .add (.t 8) (.c (.int .i64 1)), none⟩,
 ⟨some 8, .mv (.t 18), none⟩])))))))
 (.seq (.region [⟨some 4, .mv (.c (.int .i64 (-1))), none⟩])
 .ret))), [.tmp 4]⟩
theorem c100 : compFun Tryz.prog Tryz.f100 = some ir100 := by kernel_rfl
def ir101 : IFun := ⟨19, (.seq (.region [⟨some 4, .mv (.c (.int .i64 0)), none⟩])
 (.seq (.seq (.region [⟨some 6, .mv (.t 0), none⟩,
 ⟨some 7, .len false (.t 6), none⟩,
 ⟨some 8, .mv (.c (.int .i64 0)), none⟩])
 (.block 0
 (.loop
 (.seq (.region [⟨some 9, .bin .lss (.t 8) (.t 7), none⟩])
 (.seq (.cond (.t 9)
 .skip
 (.exit 0))
 (.seq (.block 1
 (.seq (.region [⟨some 10, .mv (.t 8), none⟩,
 ⟨some 5, .mv (.t 10), none⟩])
 (.seq (.region [⟨some 11, .mv (.t 1), none⟩,
 ⟨some 12, .mv (.t 0), none⟩,
 ⟨some 13, .mv (.t 5), none⟩,
 ⟨some 14, .ia 1 (.t 12) (.t 13), none⟩,
 ⟨some 15, .ld false 1 (.t 14), none⟩,
 ⟨some 16, .bin .eql (.t 11) (.t 15), none⟩])
 (.cond (.t 16)
 (.seq (.region [⟨some 17, .mv (.t 5), none⟩,
 ⟨some 4, .mv (.t 17), none⟩])
 .ret)
 .skip))))
 (.region [⟨some 18, .bin .add (.t 8) (.c (.int .i64 1)), none⟩,
 ⟨some 8, .mv (.t 18), none⟩])))))))
 (.seq (.region [⟨some 4, .mv (.c (.int .i64 (-1))), none⟩])
 .ret))), [.tmp 4]⟩
theorem c101 : compFun Tryz.prog Tryz.f101 = some ir101 := by kernel_rfl
def ir102 : IFun := ⟨14, (.seq (.region [⟨some 2, .mv (.c (.int .i64 0)), none⟩])
 (.seq (.seq (.region [⟨some 3, .mv (.t 0), none⟩,
 ⟨some 4, .bin .eql (.t 3) (.c (.int .u32 0)), none⟩])
 (.cond (.t 4)
 (.seq (.region [⟨some 2, .mv (.c (.int .i64 32)), none⟩])
 .ret)
 .skip))
 (.seq (.region [⟨some 5, .mv (.t 0), none⟩,
 ⟨some 6, .mv (.t 0), none⟩,
 ⟨some 7, .un .neg (.t 6), none⟩,
 ⟨some 8, .bin .and (.t 5) (.t 7), none⟩,
 ⟨some 9, .bin .mul (.t 8) (.c (.int .u32 125613361)), none⟩,
 ⟨some 10, .bin .shr (.t 9) (.c (.int .u64 27)), none⟩,
 ⟨some 11, .iaa 32 1 (.c (.ptr 0 0)) (.t 10), none⟩,
 ⟨some 12, .ld false 1 (.t 11), none⟩,
 ⟨some 13, .conv .i64 (.t 12), none⟩,
 ⟨some 2, .mv (.t 13), none⟩])
 .ret))), [.tmp 2]⟩
theorem c102 : compFun Tryz.prog Tryz.f102 = some ir102 := by kernel_rfl
def ir103 : IFun := ⟨14, (.seq (.region [⟨some 2, .mv (.c (.int .i64 0)), none⟩])
 (.seq (.seq (.region [⟨some 3, .mv (.t 0), none⟩,
 ⟨some 4, .bin .eql (.t 3) (.c (.int .u64 0)), none⟩])
 (.cond (.t 4)
 (.seq (.region [⟨some 2, .mv (.c (.int .i64 64)), none⟩])
 .ret)
 .skip))
 (.seq (.region [⟨some 5, .mv (.t 0), none⟩,
 ⟨some 6, .mv (.t 0), none⟩,
 ⟨some 7, .un .neg (.t 6), none⟩,
 ⟨some 8, .bin .and (.t 5) (.t 7), none⟩,
 ⟨some 9, .bin .mul (.t 8) (.c (.int .u64 285870213051353865)), none⟩,
 ⟨some 10, .bin .shr (.t 9) (.c (.int .u64 58)), none⟩,
 ⟨some 11, .iaa 64 1 (.c (.ptr 1 0)) (.t 10), none⟩,
 ⟨some 12, .ld false 1 (.t 11), none⟩,
 ⟨some 13, .conv .i64 (.t 12), none⟩,
 ⟨some 2, .mv (.t 13), none⟩])
 .ret))), [.tmp 2]⟩
theorem c103 : compFun Tryz.prog Tryz.f103 = some ir103 := by kernel_rfl
def ir104 : IFun := ⟨6, (.seq (.region [⟨some 2, .mv (.c (.bool false)), none⟩])
 (.seq (.region [⟨some 3, .mv (.t 0), none⟩,
 ⟨some 4, .mv (.t 0), none⟩,
 ⟨some 5, .bin .neq (.t 3) (.t 4), none⟩,
 ⟨some 2, .mv (.t 5), none⟩])
 .ret)), [.tmp 2]⟩
theorem c104 : compFun Tryz.prog Tryz.f104 = some ir104 := by kernel_rfl
def ir105 : IFun := ⟨14, (.region [⟨some 4, .mv (.t 0), none⟩,
 ⟨some 5, .mv (.t 0), none⟩,
 ⟨some 6, .nilck (.t 5), none⟩,
 ⟨some 7, .fa (.t 6) 1, none⟩,
 ⟨some 8, .ld false 1 (.t 7), none⟩,
 ⟨some 9, .mv (.t 1), none⟩,
 ⟨some 10, .bldS 1 1 [(.str [])] [(0, 1, (.t 9))], none⟩,
 ⟨some 11, .app 1 16 (.t 8) (.t 10), none⟩,
 ⟨some 12, .nilck (.t 4), none⟩,
 ⟨some 13, .fa (.t 12) 1, none⟩,
 ⟨none, .st 1 (.t 13) (.t 11), none⟩]), []⟩
theorem c105 : compFun Tryz.prog Tryz.f105 = some ir105 := by kernel_rfl
def ir106 : IFun := ⟨16, (.seq (.region [⟨some 4, .mv (.c (.int .i64 0)), none⟩])
 (.seq (.seq (.region [⟨some 5, .mv (.t 1), none⟩])
 (.cond (.t 5)
 (.region [⟨some 4, .mv (.c (.int .i64 1)), none⟩])
 .skip))
 (.region [⟨some 6, .mv (.t 0), none⟩,
 ⟨some 7, .mv (.t 0), none⟩,
 ⟨some 8, .nilck (.t 7), none⟩,
 ⟨some 9, .fa (.t 8) 0, none⟩,
 ⟨some 10, .ld false 1 (.t 9), none⟩,
 ⟨some 11, .mv (.t 4), none⟩,
 ⟨some 12, .bldS 1 1 [(.int .i64 0)] [(0, 1, (.t 11))], none⟩,
 ⟨some 13, .app 1 8 (.t 10) (.t 12), none⟩,
 ⟨some 14, .nilck (.t 6), none⟩,
 ⟨some 15, .fa (.t 14) 0, none⟩,
 ⟨none, .st 1 (.t 15) (.t 13), none⟩]))), []⟩
theorem c106 : compFun Tryz.prog Tryz.f106 = some ir106 := by kernel_rfl
def ir107 : IFun := ⟨7, (.region [⟨some 4, .mv (.t 0), none⟩,
 ⟨some 5, .mv (.t 1), none⟩,
 ⟨some 6, .call (.c (.func 108 [] [])) [(.t 4), (.t 5), (.c (.func 13 [] []))], none⟩]), []⟩
theorem c107 : compFun Tryz.prog Tryz.f107 = some ir107 := by kernel_rfl
def ir108 : IFun := ⟨31, (.seq (.region [⟨some 7, .mv (.t 0), none⟩,
 ⟨some 8, .mv (.t 0), none⟩,
 ⟨some 9, .nilck (.t 8), none⟩,
 ⟨some 10, .fa (.t 9) 0, none⟩,
 ⟨some 11, .ld false 1 (.t 10), none⟩,
 ⟨some 12, .mv (.t 1), none⟩,
 ⟨some 13, .len false (.t 12), none⟩,
 ⟨some 14, .bldS 1 1 [(.int .i64 0)] [(0, 1, (.t 13))], none⟩,
 ⟨some 15, .app 1 8 (.t 11) (.t 14), none⟩,
 ⟨some 16, .nilck (.t 7), none⟩,
 ⟨some 17, .fa (.t 16) 0, none⟩,
 ⟨none, .st 1 (.t 17) (.t 15), none⟩])
 (.seq (.region [⟨some 6, .mv (.c (.int .i64 0)), none⟩])
 (.block 0
 (.loop
 (.seq (.seq (.region [⟨some 18, .mv (.t 6), none⟩,
 ⟨some 19, .mv (.t 1), none⟩,
 ⟨some 20, .len false (.t 19), none⟩,
 ⟨some 21, .bin .lss (.t 18) (.t 20), none⟩])
 (.cond (.t 21)
 .skip
 (.exit 0)))
 (.seq (.block 1
 (.region [⟨some 24, .mv (.t 2), none⟩,
 ⟨some 25, .mv (.t 0), none⟩,
 ⟨some 26, .mv (.t 1), none⟩,
 ⟨some 27, .mv (.t 6), none⟩,
 ⟨some 28, .ia 2 (.t 26) (.t 27), none⟩,
 ⟨some 29, .ld true 2 (.t 28), none⟩,
 ⟨some 30, .call (.t 24) [(.t 25), (.t 29)], none⟩]))
 (.region [⟨some 22, .mv (.t 6), none⟩,
 ⟨some 23, .bin .add (.t 22) (.c (.int .i64 1)), none⟩,
 ⟨some 6, .mv (.t 23), none⟩]))))))), []⟩
theorem c108 : compFun Tryz.prog Tryz.f108 = some ir108 := by kernel_rfl
def ir129 : IFun := ⟨2, (.seq (.region [⟨some 0, .bld [(.int .u8 0), (.int .u8 0), (.int .u8 0), (.int .u8 0), (.int .u8 0), (.int .u8 0), (.int .u8 0), (.int .u8 0), (.int .u8 0), (.int .u8 0), (.int .u8 0), (.int .u8 0), (.int .u8 0), (.int .u8 0), (.int .u8 0), (.int .u8 0), (.int .u8 0), (.int .u8 0), (.int .u8 0), (.int .u8 0), (.int .u8 0), (.int .u8 0), (.int .u8 0), (.int .u8 0), (.int .u8 0), (.int .u8 0), (.int .u8 0), (.int .u8 0), (.int .u8 0), (.int .u8 0), (.int .u8 0), (.int .u8 0)] [(0, 1, (.c (.int .u8 0))), (1, 1, (.c (.int .u8 1))), (2, 1, (.c (.int .u8 28))), (3, 1, (.c (.int .u8 2))), (4, 1, (.c (.int .u8 29))), (5, 1, (.c (.int .u8 14))), (6, 1, (.c (.int .u8 24))), (7, 1, (.c (.int .u8 3))), (8, 1, (.c (.int .u8 30))), (9, 1, (.c (.int .u8 22))), (10, 1, (.c (.int .u8 20))), (11, 1, (.c (.int .u8 15))), (12, 1, (.c (.int .u8 25))), (13, 1, (.c (.int .u8 17))), (14, 1, (.c (.int .u8 4))), (15, 1, (.c (.int .u8 8))), (16, 1, (.c (.int .u8 31))), (17, 1, (.c (.int .u8 27))), (18, 1, (.c (.int .u8 13))), (19, 1, (.c (.int .u8 23))), (20, 1, (.c (.int .u8 21))), (21, 1, (.c (.int .u8 19))), (22, 1, (.c (.int .u8 16))), (23, 1, (.c (.int .u8 7))), (24, 1, (.c (.int .u8 26))), (25, 1, (.c (.int .u8 12))), (26, 1, (.c (.int .u8 18))), (27, 1, (.c (.int .u8 6))), (28, 1, (.c (.int .u8 11))), (29, 1, (.c (.int .u8 5))), (30, 1, (.c (.int .u8 10))), (31, 1, (.c (.int .u8 9)))], none⟩,
 ⟨none, .st 32 (.c (.ptr 0 0)) (.t 0), none⟩])
 (.region [⟨some 1, .bld [(.int .u8 0), (.int .u8 0), (.int .u8 0), (.int .u8 0), (.int .u8 0), (.int .u8 0), (.int .u8 0), (.int .u8 0), (.int .u8 0), (.int .u8 0), (.int .u8 0), (.int .u8 0), (.int .u8 0), (.int .u8 0), (.int .u8 0), (.int .u8 0), (.int .u8 0), (.int .u8 0), (.int .u8 0), (.int .u8 0), (.int .u8 0), (.int .u8 0), (.int .u8 0), (.int .u8 0), (.int .u8 0), (.int .u8 0), (.int .u8 0), (.int .u8 0), (.int .u8 0), (.int .u8 0), (.int .u8 0), (.int .u8 0), (.int .u8 0), (.int .u8 0), (.int .u8 0), (.int .u8 0), (.int .u8 0), (.int .u8 0), (.int .u8 0), (.int .u8 0), (.int .u8 0), (.int .u8 0), (.int .u8 0), (.int .u8 0), (.int .u8 0), (.int .u8 0), (.int .u8 0), (.int .u8 0), (.int .u8 0), (.int .u8 0), (.int .u8 0), (.int .u8 0), (.int .u8 0), (.int .u8 0), (.int .u8 0), (.int .u8 0), (.int .u8 0), (.int .u8 0), (.int .u8 0), (.int .u8 0), (.int .u8 0), (.int .u8 0), (.int .u8 0), (.int .u8 0)] [(0, 1, (.c (.int .u8 0))), (1, 1, (.c (.int .u8 1))), (2, 1, (.c (.int .u8 56))), (3, 1, (.c (.int .u8 2))), (4, 1, (.c (.int .u8 57))), (5, 1, (.c (.int .u8 49))), (6, 1, (.c (.int .u8 28))), (7, 1, (.c (.int .u8 3))), (8, 1, (.c (.int .u8 61))), (9, 1, (.c (.int .u8 58))), (10, 1, (.c (.int .u8 42))), (11, 1, (.c (.int .u8 50))), (12, 1, (.c (.int .u8 38))), (13, 1, (.c (.int .u8 29))), (14, 1, (.c (.int .u8 17))), (15, 1, (.c (.int .u8 4))), (16, 1, (.c (.int .u8 62))), (17, 1, (.c (.int .u8 47))), (18, 1, (.c (.int .u8 59))), (19, 1, (.c (.int .u8 36))), (20, 1, (.c (.int .u8 45))), (21, 1, (.c (.int .u8 43))), (22, 1, (.c (.int .u8 51))), (23, 1, (.c (.int .u8 22))), (24, 1, (.c (.int .u8 53))), (25, 1, (.c (.int .u8 39))), (26, 1, (.c (.int .u8 33))), (27, 1, (.c (.int .u8 30))), (28, 1, (.c (.int .u8 24))), (29, 1, (.c (.int .u8 18))), (30, 1, (.c (.int .u8 12))), (31, 1, (.c (.int .u8 5))), (32, 1, (.c (.int .u8 63))), (33, 1, (.c (.int .u8 55))), (34, 1, (.c (.int .u8 48))), (35, 1, (.c (.int .u8 27))), (36, 1, (.c (.int .u8 60))), (37, 1, (.c (.int .u8 41))), (38, 1, (.c (.int .u8 37))), (39, 1, (.c (.int .u8 16))), (40, 1, (.c (.int .u8 46))), (41, 1, (.c (.int .u8 35))), (42, 1, (.c (.int .u8 44))), (43, 1, (.c (.int .u8 21))), (44, 1, (.c (.int .u8 52))), (45, 1, (.c (.int .u8 32))), (46, 1, (.c (.int .u8 23))), (47, 1, (.c (.int .u8 11))), (48, 1, (.c (.int .u8 54))), (49, 1, (.c (.int .u8 26))), (50, 1, (.c (.int .u8 40))), (51, 1, (.c (.int .u8 15))), (52, 1, (.c (.int .u8 34))), (53, 1, (.c (.int .u8 20))), (54, 1, (.c (.int .u8 31))), (55, 1, (.c (.int .u8 10))), (56, 1, (.c (.int .u8 25))), (57, 1, (.c (.int .u8 14))), (58, 1, (.c (.int .u8 19))), (59, 1, (.c (.int .u8 9))), (60, 1, (.c (.int .u8 13))), (61, 1, (.c (.int .u8 8))), (62, 1, (.c (.int .u8 7))), (63, 1, (.c (.int .u8 6)))], none⟩,
 ⟨none, .st 64 (.c (.ptr 1 0)) (.t 1), none⟩])), []⟩
theorem c129 : compFun Tryz.prog Tryz.f129 = some ir129 := by kernel_rfl
def tbl : Nat → Option IFun
  | 2 => some ir2
  | 3 => some ir3
  | 4 => some ir4
  | 6 => some ir6
  | 7 => some ir7
  | 8 => some ir8
  | 9 => some ir9
  | 10 => some ir10
  | 11 => some ir11
  | 12 => some ir12
  | 13 => some ir13
  | 14 => some ir14
  | 15 => some ir15
  | 16 => some ir16
  | 17 => some ir17
  | 18 => some ir18
  | 19 => some ir19
  | 20 => some ir20
  | 21 => some ir21
  | 22 => some ir22
  | 23 => some ir23
  | 24 => some ir24
  | 25 => some ir25
  | 26 => some ir26
  | 27 => some ir27
  | 28 => some ir28
  | 29 => some ir29
  | 30 => some ir30
  | 31 => some ir31
  | 32 => some ir32
  | 33 => some ir33
  | 34 => some ir34
  | 35 => some ir35
  | 36 => some ir36
  | 37 => some ir37
  | 38 => some ir38
  | 40 => some ir40
  | 41 => some ir41
  | 42 => some ir42
  | 43 => some ir43
  | 44 => some ir44
  | 45 => some ir45
  | 46 => some ir46
  | 47 => some ir47
  | 48 => some ir48
  | 49 => some ir49
  | 50 => some ir50
  | 51 => some ir51
  | 52 => some ir52
  | 53 => some ir53
  | 54 => some ir54
  | 55 => some ir55
  | 56 => some ir56
  | 57 => some ir57
  | 58 => some ir58
  | 59 => some ir59
  | 60 => some ir60
  | 61 => some ir61
  | 62 => some ir62
  | 63 => some ir63
  | 64 => some ir64
  | 65 => some ir65
  | 66 => some ir66
  | 67 => some ir67
  | 68 => some ir68
  | 69 => some ir69
  | 70 => some ir70
  | 71 => some ir71
  | 72 => some ir72
  | 73 => some ir73
  | 74 => some ir74
  | 75 => some ir75
  | 76 => some ir76
  | 77 => some ir77
  | 78 => some ir78
  | 79 => some ir79
  | 80 => some ir80
  | 81 => some ir81
  | 82 => some ir82
  | 83 => some ir83
  | 84 => some ir84
  | 85 => some ir85
  | 86 => some ir86
  | 87 => some ir87
  | 88 => some ir88
  | 89 => some ir89
  | 90 => some ir90
  | 91 => some ir91
  | 92 => some ir92
  | 93 => some ir93
  | 94 => some ir94
  | 95 => some ir95
  | 96 => some ir96
  | 97 => some ir97
  | 98 => some ir98
  | 99 => some ir99
  | 100 => some ir100
  | 101 => some ir101
  | 102 => some ir102
  | 103 => some ir103
  | 104 => some ir104
  | 105 => some ir105
  | 106 => some ir106
  | 107 => some ir107
  | 108 => some ir108
  | 129 => some ir129
  | _ => none
theorem tblOk : TblOk Tryz.prog tbl := by
  intro f ifn h
  unfold tbl at h
  split at h
  · cases h; exact ⟨_, Tryz.func2, c2⟩
  · cases h; exact ⟨_, Tryz.func3, c3⟩
  · cases h; exact ⟨_, Tryz.func4, c4⟩
  · cases h; exact ⟨_, Tryz.func6, c6⟩
  · cases h; exact ⟨_, Tryz.func7, c7⟩
  · cases h; exact ⟨_, Tryz.func8, c8⟩
  · cases h; exact ⟨_, Tryz.func9, c9⟩
  · cases h; exact ⟨_, Tryz.func10, c10⟩
  · cases h; exact ⟨_, Tryz.func11, c11⟩
  · cases h; exact ⟨_, Tryz.func12, c12⟩
  · cases h; exact ⟨_, Tryz.func13, c13⟩
  · cases h; exact ⟨_, Tryz.func14, c14⟩
  · cases h; exact ⟨_, Tryz.func15, c15⟩
  · cases h; exact ⟨_, Tryz.func16, c16⟩
  · cases h; exact ⟨_, Tryz.func17, c17⟩
  · cases h; exact ⟨_, Tryz.func18, c18⟩
  · cases h; exact ⟨_, Tryz.func19, c19⟩
  · cases h; exact ⟨_, Tryz.func20, c20⟩
  · cases h; exact ⟨_, Tryz.func21, c21⟩
  · cases h; exact ⟨_, Tryz.func22, c22⟩
  · cases h; exact ⟨_, Tryz.func23, c23⟩
  · cases h; exact ⟨_, Tryz.func24, c24⟩
  · cases h; exact ⟨_, Tryz.func25, c25⟩
  · cases h; exact ⟨_, Tryz.func26, c26⟩
  · cases h; exact ⟨_, Tryz.func27, c27⟩
  · cases h; exact ⟨_, Tryz.func28, c28⟩
  · cases h; exact ⟨_, Tryz.func29, c29⟩
  · cases h; exact ⟨_, Tryz.func30, c30⟩
  · cases h; exact ⟨_, Tryz.func31, c31⟩
  · cases h; exact ⟨_, Tryz.func32, c32⟩
  · cases h; exact ⟨_, Tryz.func33, c33⟩
  · cases h; exact ⟨_, Tryz.func34, c34⟩
  · cases h; exact ⟨_, Tryz.func35, c35⟩
  · cases h; exact ⟨_, Tryz.func36, c36⟩
  · cases h; exact ⟨_, Tryz.func37, c37⟩
  · cases h; exact ⟨_, Tryz.func38, c38⟩
  · cases h; exact ⟨_, Tryz.func40, c40⟩
  · cases h; exact ⟨_, Tryz.func41, c41⟩
  · cases h; exact ⟨_, Tryz.func42, c42⟩
  · cases h; exact ⟨_, Tryz.func43, c43⟩
  · cases h; exact ⟨_, Tryz.func44, c44⟩
  · cases h; exact ⟨_, Tryz.func45, c45⟩
  · cases h; exact ⟨_, Tryz.func46, c46⟩
  · cases h; exact ⟨_, Tryz.func47, c47⟩
  · cases h; exact ⟨_, Tryz.func48, c48⟩
  · cases h; exact ⟨_, Tryz.func49, c49⟩
  · cases h; exact ⟨_, Tryz.func50, c50⟩
  · cases h; exact ⟨_, Tryz.func51, c51⟩
  · cases h; exact ⟨_, Tryz.func52, c52⟩
  · cases h; exact ⟨_, Tryz.func53, c53⟩
  · cases h; exact ⟨_, Tryz.func54, c54⟩
  · cases h; exact ⟨_, Tryz.func55, c55⟩
  · cases h; exact ⟨_, Tryz.func56, c56⟩
  · cases h; exact ⟨_, Tryz.func57, c57⟩
  · cases h; exact ⟨_, Tryz.func58, c58⟩
  · cases h; exact ⟨_, Tryz.func59, c59⟩
  · cases h; exact ⟨_, Tryz.func60, c60⟩
  · cases h; exact ⟨_, Tryz.func61, c61⟩
  · cases h; exact ⟨_, Tryz.func62, c62⟩
  · cases h; exact ⟨_, Tryz.func63, c63⟩
  · cases h; exact ⟨_, Tryz.func64, c64⟩
  · cases h; exact ⟨_, Tryz.func65, c65⟩
  · cases h; exact ⟨_, Tryz.func66, c66⟩
  · cases h; exact ⟨_, Tryz.func67, c67⟩
  · cases h; exact ⟨_, Tryz.func68, c68⟩
  · cases h; exact ⟨_, Tryz.func69, c69⟩
  · cases h; exact ⟨_, Tryz.func70, c70⟩
  · cases h; exact ⟨_, Tryz.func71, c71⟩
  · cases h; exact ⟨_, Tryz.func72, c72⟩
  · cases h; exact ⟨_, Tryz.func73, c73⟩
  · cases h; exact ⟨_, Tryz.func74, c74⟩
  · cases h; exact ⟨_, Tryz.func75, c75⟩
  · cases h; exact ⟨_, Tryz.func76, c76⟩
  · cases h; exact ⟨_, Tryz.func77, c77⟩
  · cases h; exact ⟨_, Tryz.func78, c78⟩
  · cases h; exact ⟨_, Tryz.func79, c79⟩
  · cases h; exact ⟨_, Tryz.func80, c80⟩
  · cases h; exact ⟨_, Tryz.func81, c81⟩
  · cases h; exact ⟨_, Tryz.func82, c82⟩
  · cases h; exact ⟨_, Tryz.func83, c83⟩
  · cases h; exact ⟨_, Tryz.func84, c84⟩
  · cases h; exact ⟨_, Tryz.func85, c85⟩
  · cases h; exact ⟨_, Tryz.func86, c86⟩
  · cases h; exact ⟨_, Tryz.func87, c87⟩
  · cases h; exact ⟨_, Tryz.func88, c88⟩
  · cases h; exact ⟨_, Tryz.func89, c89⟩
  · cases h; exact ⟨_, Tryz.func90, c90⟩
  · cases h; exact ⟨_, Tryz.func91, c91⟩
  · cases h; exact ⟨_, Tryz.func92, c92⟩
  · cases h; exact ⟨_, Tryz.func93, c93⟩
  · cases h; exact ⟨_, Tryz.func94, c94⟩
  · cases h; exact ⟨_, Tryz.func95, c95⟩
  · cases h; exact ⟨_, Tryz.func96, c96⟩
  · cases h; exact ⟨_, Tryz.func97, c97⟩
  · cases h; exact ⟨_, Tryz.func98, c98⟩
  · cases h; exact ⟨_, Tryz.func99, c99⟩
  · cases h; exact ⟨_, Tryz.func100, c100⟩
  · cases h; exact ⟨_, Tryz.func101, c101⟩
  · cases h; exact ⟨_, Tryz.func102, c102⟩
  · cases h; exact ⟨_, Tryz.func103, c103⟩
  · cases h; exact ⟨_, Tryz.func104, c104⟩
  · cases h; exact ⟨_, Tryz.func105, c105⟩
  · cases h; exact ⟨_, Tryz.func106, c106⟩
  · cases h; exact ⟨_, Tryz.func107, c107⟩
  · cases h; exact ⟨_, Tryz.func108, c108⟩
  · cases h; exact ⟨_, Tryz.func129, c129⟩
  · cases h
def tblA (f : Nat) : Option IFun := if f = 5 then some ir5 else if f = 39 then some ir39 else tbl f
end Go.Ax.Ir
end
