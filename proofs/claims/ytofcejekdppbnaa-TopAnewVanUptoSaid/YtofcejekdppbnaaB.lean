import Derived.Test.YtofcejekdppbnaaA2
import Derived.Test.YtofcejekdppbnaaChecked
import Derived.Walk
set_option linter.unusedSectionVars false
set_option linter.unusedVariables false
set_option linter.unusedSimpArgs false
section
namespace Go.Ax.Ir
open Go.Proofs
set_option maxRecDepth 100000
def ir2 : IFun := ⟨1, (.region [⟨some 0, .call (.c (.func 1 [] [])) [], none⟩]), []⟩
theorem c2 : compFun Try.prog Try.f2 = some ir2 := by kernel_rfl
def ir3 : IFun := ⟨53, (.seq (.region [⟨some 1, .box (.t 0), none⟩,
 ⟨some 2, .mv (.c (.bool false)), none⟩])
 (.seq (.region [⟨some 3, .alloc (.agg [.nilslice, .nilslice]), none⟩,
 ⟨some 4, .alloc (.agg [.nilslice, .nilslice]), none⟩])
 (.seq (.region [⟨some 6, .ld true 10 (.t 1), none⟩,
 ⟨some 7, .call (.c (.func 4 [] [])) [(.t 6), (.t 3)], none⟩])
 (.seq (.region [⟨some 8, .mkfn 6 [] [(.t 1)], none⟩,
 ⟨some 9, .call (.c (.func 5 [] [])) [(.t 8)], none⟩,
 ⟨some 10, .mv (.t 9), none⟩,
 ⟨(some 11), (.mkfn 11 [] [(.t 1)]), (some (10, true))⟩,
 ⟨(some 12), (.call (.c (.func 5 [] [])) [(.t 11)]), (some (10, true))⟩,
 ⟨some 13, .pick (.t 10) (.t 12) (.c (.bool false)), none⟩,
 ⟨some 14, .mv (.t 13), none⟩,
 ⟨(some 15), (.mkfn 16 [] [(.t 1)]), (some (14, true))⟩,
 ⟨(some 16), (.call (.c (.func 5 [] [])) [(.t 15)]), (some (14, true))⟩,
 ⟨some 17, .pick (.t 14) (.t 16) (.c (.bool false)), none⟩,
 ⟨some 18, .mv (.t 17), none⟩,
 ⟨(some 19), (.mkfn 21 [] [(.t 1)]), (some (18, true))⟩,
 ⟨(some 20), (.call (.c (.func 5 [] [])) [(.t 19)]), (some (18, true))⟩,
 ⟨some 21, .pick (.t 18) (.t 20) (.c (.bool false)), none⟩,
 ⟨some 22, .mv (.t 21), none⟩,
 ⟨(some 23), (.mkfn 23 [] [(.t 1)]), (some (22, true))⟩,
 ⟨(some 24), (.call (.c (.func 5 [] [])) [(.t 23)]), (some (22, true))⟩,
 ⟨some 25, .pick (.t 22) (.t 24) (.c (.bool false)), none⟩,
 ⟨some 26, .mv (.t 25), none⟩,
 ⟨(some 27), (.mkfn 26 [] [(.t 1)]), (some (26, true))⟩,
 ⟨(some 28), (.call (.c (.func 5 [] [])) [(.t 27)]), (some (26, true))⟩,
 ⟨some 29, .pick (.t 26) (.t 28) (.c (.bool false)), none⟩,
 ⟨some 30, .mv (.t 29), none⟩,
 ⟨(some 31), (.mkfn 29 [] [(.t 1)]), (some (30, true))⟩,
 ⟨(some 32), (.call (.c (.func 5 [] [])) [(.t 31)]), (some (30, true))⟩,
 ⟨some 33, .pick (.t 30) (.t 32) (.c (.bool false)), none⟩,
 ⟨some 34, .mv (.t 33), none⟩,
 ⟨(some 35), (.mkfn 32 [] [(.t 1)]), (some (34, true))⟩,
 ⟨(some 36), (.call (.c (.func 5 [] [])) [(.t 35)]), (some (34, true))⟩,
 ⟨some 37, .pick (.t 34) (.t 36) (.c (.bool false)), none⟩,
 ⟨some 38, .mv (.t 37), none⟩,
 ⟨(some 39), (.mkfn 35 [] [(.t 1)]), (some (38, true))⟩,
 ⟨(some 40), (.call (.c (.func 5 [] [])) [(.t 39)]), (some (38, true))⟩,
 ⟨some 41, .pick (.t 38) (.t 40) (.c (.bool false)), none⟩,
 ⟨some 5, .mv (.t 41), none⟩])
 (.seq (.region [⟨some 42, .ld true 10 (.t 1), none⟩,
 ⟨some 43, .call (.c (.func 4 [] [])) [(.t 42), (.t 4)], none⟩])
 (.seq (.region [⟨some 44, .mv (.t 5), none⟩,
 ⟨some 45, .mv (.t 44), none⟩,
 ⟨(some 46), (.ld true 2 (.t 3)), (some (45, true))⟩,
 ⟨(some 47), (.ld true 2 (.t 4)), (some (45, true))⟩,
 ⟨(some 48), (.call (.c (.func 37 [] [])) [(.t 46), (.t 47)]), (some (45, true))⟩,
 ⟨some 49, .pick (.t 45) (.t 48) (.c (.bool false)), none⟩,
 ⟨some 50, .mv (.t 49), none⟩,
 ⟨(some 51), (.call (.c (.func 38 [] [])) []), (some (50, true))⟩,
 ⟨some 52, .pick (.t 50) (.t 51) (.c (.bool false)), none⟩,
 ⟨some 2, .mv (.t 52), none⟩])
 .ret)))))), [.tmp 2]⟩
theorem c3 : compFun Try.prog Try.f3 = some ir3 := by kernel_rfl
def ir4 : IFun := ⟨28, (.seq (.region [⟨some 2, .box (.t 0), none⟩])
 (.seq (.region [⟨some 4, .mv (.t 1), none⟩,
 ⟨some 5, .fa (.t 2) 0, none⟩,
 ⟨some 6, .ld true 5 (.t 5), none⟩,
 ⟨some 7, .call (.c (.func 39 [] [])) [(.t 4), (.t 6)], none⟩])
 (.seq (.region [⟨some 8, .mv (.t 1), none⟩,
 ⟨some 9, .fa (.t 2) 5, none⟩,
 ⟨some 10, .ld false 1 (.t 9), none⟩,
 ⟨some 11, .call (.c (.func 13 [] [])) [(.t 8), (.t 10)], none⟩])
 (.seq (.region [⟨some 12, .mv (.t 1), none⟩,
 ⟨some 13, .fa (.t 2) 6, none⟩,
 ⟨some 14, .ld false 1 (.t 13), none⟩,
 ⟨some 15, .call (.c (.func 8 [] [])) [(.t 12), (.t 14)], none⟩])
 (.seq (.region [⟨some 16, .mv (.t 1), none⟩,
 ⟨some 17, .fa (.t 2) 7, none⟩,
 ⟨some 18, .ld false 1 (.t 17), none⟩,
 ⟨some 19, .call (.c (.func 8 [] [])) [(.t 16), (.t 18)], none⟩])
 (.seq (.region [⟨some 20, .mv (.t 1), none⟩,
 ⟨some 21, .fa (.t 2) 8, none⟩,
 ⟨some 22, .ld false 1 (.t 21), none⟩,
 ⟨some 23, .call (.c (.func 8 [] [])) [(.t 20), (.t 22)], none⟩])
 (.region [⟨some 24, .mv (.t 1), none⟩,
 ⟨some 25, .fa (.t 2) 9, none⟩,
 ⟨some 26, .ld false 1 (.t 25), none⟩,
 ⟨some 27, .call (.c (.func 8 [] [])) [(.t 24), (.t 26)], none⟩]))))))), []⟩
theorem c4 : compFun Try.prog Try.f4 = some ir4 := by kernel_rfl
def ir5 : IFun := ⟨15, (.seq (.region [⟨some 2, .mv (.c (.bool false)), none⟩])
 (.seq (.region [⟨some 3, .alloc (.agg [.nilslice, .nilslice]), none⟩,
 ⟨some 4, .alloc (.agg [.nilslice, .nilslice]), none⟩])
 (.seq (.region [⟨some 6, .mv (.t 0), none⟩,
 ⟨some 7, .call (.t 6) [(.t 3)], none⟩,
 ⟨some 5, .mv (.t 7), none⟩])
 (.seq (.region [⟨some 8, .mv (.t 5), none⟩,
 ⟨some 9, .call (.t 8) [], none⟩])
 (.seq (.region [⟨some 10, .mv (.t 0), none⟩,
 ⟨some 11, .call (.t 10) [(.t 4)], none⟩])
 (.seq (.region [⟨some 12, .ld true 2 (.t 3), none⟩,
 ⟨some 13, .ld true 2 (.t 4), none⟩,
 ⟨some 14, .call (.c (.func 37 [] [])) [(.t 12), (.t 13)], none⟩,
 ⟨some 2, .mv (.t 14), none⟩])
 .ret)))))), [.tmp 2]⟩
theorem c5 : compFun Try.prog Try.f5 = some ir5 := by kernel_rfl
def ir6 : IFun := ⟨23, (.seq (.region [⟨some 3, .mv (.c .nilfunc), none⟩])
 (.seq (.region [⟨some 8, .fa (.t 1) 0, none⟩,
 ⟨some 9, .ld true 5 (.t 8), none⟩,
 ⟨some 10, .call (.c (.func 7 [] [])) [(.t 9)], none⟩,
 ⟨some 7, .mv (.t 10), none⟩,
 ⟨some 11, .ext (.t 7) 0, none⟩,
 ⟨some 12, .ext (.t 7) 1, none⟩,
 ⟨some 13, .ext (.t 7) 2, none⟩,
 ⟨some 4, .mv (.t 11), none⟩,
 ⟨some 5, .mv (.t 12), none⟩,
 ⟨some 6, .mv (.t 13), none⟩])
 (.seq (.region [⟨some 14, .mv (.t 0), none⟩,
 ⟨some 15, .mv (.t 4), none⟩,
 ⟨some 16, .call (.c (.func 8 [] [])) [(.t 14), (.t 15)], none⟩])
 (.seq (.region [⟨some 17, .mv (.t 0), none⟩,
 ⟨some 18, .mv (.t 5), none⟩,
 ⟨some 19, .call (.c (.func 8 [] [])) [(.t 17), (.t 18)], none⟩])
 (.seq (.region [⟨some 20, .mv (.t 0), none⟩,
 ⟨some 21, .mv (.t 6), none⟩,
 ⟨some 22, .call (.c (.func 9 [] [])) [(.t 20), (.t 21)], none⟩])
 (.seq (.region [⟨some 3, .mv (.c (.func 10 [] [])), none⟩])
 .ret)))))), [.tmp 3]⟩
theorem c6 : compFun Try.prog Try.f6 = some ir6 := by kernel_rfl
def ir7 : IFun := ⟨73, (.seq (.region [⟨some 1, .box (.t 0), none⟩,
 ⟨some 2, .mv (.c (.int .i64 0)), none⟩,
 ⟨some 3, .mv (.c (.int .i64 0)), none⟩,
 ⟨some 4, .mv (.c (.int .i64 0)), none⟩])
 (.seq (.seq (.region [⟨some 9, .fa (.t 1) 1, none⟩,
 ⟨some 10, .ld false 1 (.t 9), none⟩,
 ⟨some 11, .bldS 1 1 [(.int .i64 0)] [(0, 1, (.t 10))], none⟩,
 ⟨some 12, .call (.c (.func 40 [] [])) [(.c (.int .i64 1)), (.c (.int .i64 3)), (.t 11)], none⟩,
 ⟨some 13, .mv (.t 12), none⟩,
 ⟨(some 14), (.fa (.t 1) 2), (some (13, false))⟩,
 ⟨(some 15), (.ld false 1 (.t 14)), (some (13, false))⟩,
 ⟨(some 16), (.bldS 1 1 [(.int .i64 0)] [(0, 1, (.t 15))]), (some (13, false))⟩,
 ⟨(some 17), (.call (.c (.func 40 [] [])) [(.c (.int .i64 0)), (.c (.int .i64 60)), (.t 16)]), (some (13, false))⟩,
 ⟨some 18, .pick (.t 13) (.c (.bool true)) (.t 17), none⟩])
 (.cond (.t 18)
 (.seq (.region [⟨some 2, .mv (.c (.int .i64 1)), none⟩,
 ⟨some 3, .mv (.c (.int .i64 0)), none⟩,
 ⟨some 4, .mv (.c (.int .i64 7)), none⟩])
 .ret)
 .skip))
 (.seq (.region [⟨some 19, .ld true 5 (.t 1), none⟩,
 ⟨some 20, .bld [.nilslice, (.int .i64 0), (.int .i64 0), .nilslice, .nilslice, .nilmap] [(0, 5, (.t 19))], none⟩,
 ⟨some 21, .box (.t 20), none⟩,
 ⟨some 5, .mv (.t 21), none⟩])
 (.seq (.seq (.region [⟨some 22, .fa (.t 1) 0, none⟩,
 ⟨some 23, .ld false 1 (.t 22), none⟩,
 ⟨some 24, .len false (.t 23), none⟩,
 ⟨some 25, .mv (.t 5), none⟩,
 ⟨some 26, .mkfn 41 [(.t 25)] [], none⟩,
 ⟨some 27, .bld [(.int .i64 0), (.int .i64 0), (.int .i64 0), (.int .i64 0), .nilfunc] [(0, 1, (.c (.int .i64 2))), (1, 1, (.c (.int .i64 1))), (2, 1, (.c (.int .i64 3))), (3, 1, (.t 24)), (4, 1, (.t 26))], none⟩,
 ⟨some 28, .fa (.t 1) 3, none⟩,
 ⟨some 29, .ld false 1 (.t 28), none⟩,
 ⟨some 30, .len false (.t 29), none⟩,
 ⟨some 31, .mv (.t 5), none⟩,
 ⟨some 32, .mkfn 42 [(.t 31)] [], none⟩,
 ⟨some 33, .bld [(.int .i64 0), (.int .i64 0), (.int .i64 0), (.int .i64 0), .nilfunc] [(0, 1, (.c (.int .i64 3))), (1, 1, (.c (.int .i64 0))), (2, 1, (.c (.int .i64 6))), (3, 1, (.t 30)), (4, 1, (.t 32))], none⟩,
 ⟨some 34, .fa (.t 1) 4, none⟩,
 ⟨some 35, .ld false 1 (.t 34), none⟩,
 ⟨some 36, .len false (.t 35), none⟩,
 ⟨some 37, .mv (.t 5), none⟩,
 ⟨some 38, .mkfn 43 [(.t 37)] [], none⟩,
 ⟨some 39, .bld [(.int .i64 0), (.int .i64 0), (.int .i64 0), (.int .i64 0), .nilfunc] [(0, 1, (.c (.int .i64 4))), (1, 1, (.c (.int .i64 0))), (2, 1, (.c (.int .i64 4))), (3, 1, (.t 36)), (4, 1, (.t 38))], none⟩,
 ⟨some 40, .bldS 5 3 [(.int .i64 0), (.int .i64 0), (.int .i64 0), (.int .i64 0), .nilfunc] [(0, 5, (.t 27)), (5, 5, (.t 33)), (10, 5, (.t 39))], none⟩,
 ⟨some 41, .len false (.t 40), none⟩,
 ⟨some 42, .mv (.c (.int .i64 0)), none⟩])
 (.block 0
 (.loop
 (.seq (.region [⟨some 43, .bin .lss (.t 42) (.t 41), none⟩])
 (.seq (.cond (.t 43)
 .skip
 (.exit 0))
 (.seq (.block 1
 (.seq (.region [⟨some 44, .ia 5 (.t 40) (.t 42), none⟩,
 ⟨some 45, .ld true 5 (.t 44), none⟩,
 ⟨some 7, .alloc (.agg [(.int .i64 0), (.int .i64 0), (.int .i64 0), (.int .i64 0), .nilfunc]), none⟩,
 ⟨none, .st 5 (.t 7) (.t 45), none⟩])
 (.seq (.seq (.region [⟨some 46, .fa (.t 7) 1, none⟩,
 ⟨some 47, .ld false 1 (.t 46), none⟩,
 ⟨some 48, .fa (.t 7) 2, none⟩,
 ⟨some 49, .ld false 1 (.t 48), none⟩,
 ⟨some 50, .fa (.t 7) 3, none⟩,
 ⟨some 51, .ld false 1 (.t 50), none⟩,
 ⟨some 52, .bldS 1 1 [(.int .i64 0)] [(0, 1, (.t 51))], none⟩,
 ⟨some 53, .call (.c (.func 40 [] [])) [(.t 47), (.t 49), (.t 52)], none⟩])
 (.cond (.t 53)
 (.seq (.region [⟨some 54, .fa (.t 7) 0, none⟩,
 ⟨some 55, .ld false 1 (.t 54), none⟩,
 ⟨some 2, .mv (.t 55), none⟩,
 ⟨some 3, .mv (.c (.int .i64 0)), none⟩,
 ⟨some 4, .mv (.c (.int .i64 3)), none⟩])
 .ret)
 .skip))
 (.seq (.region [⟨some 56, .fa (.t 7) 3, none⟩,
 ⟨some 57, .ld false 1 (.t 56), none⟩,
 ⟨some 58, .mv (.c (.int .i64 0)), none⟩])
 (.block 2
 (.loop
 (.seq (.region [⟨some 59, .bin .lss (.t 58) (.t 57), none⟩])
 (.seq (.cond (.t 59)
 .skip
 (.exit 2))
 (.seq (.block 3
 (.seq (.region [⟨some 60, .mv (.t 58), none⟩,
 ⟨some 8, .mv (.t 60), none⟩])
 (.seq (.region [⟨some 61, .fa (.t 7) 4, none⟩,
 ⟨some 62, .ld false 1 (.t 61), none⟩,
 ⟨some 63, .mv (.t 8), none⟩,
 ⟨some 64, .call (.t 62) [(.t 63)], none⟩,
 ⟨some 4, .mv (.t 64), none⟩])
 (.seq (.region [⟨some 65, .mv (.t 4), none⟩,
 ⟨some 66, .bin .neq (.t 65) (.c (.int .i64 0)), none⟩])
 (.cond (.t 66)
 (.seq (.region [⟨some 67, .fa (.t 7) 0, none⟩,
 ⟨some 68, .ld false 1 (.t 67), none⟩,
 ⟨some 69, .mv (.t 8), none⟩,
 ⟨some 70, .mv (.t 4), none⟩,
 ⟨some 2, .mv (.t 68), none⟩,
 ⟨some 3, .mv (.t 69), none⟩,
 ⟨some 4, .mv (.t 70), none⟩])
 .ret)
 .skip)))))
 (.region [⟨some 71, .bin .add (.t 58) (.c (.int .i64 1)), none⟩,
 ⟨some 58, .mv (.t 71), none⟩]))))))))))
 (.region [⟨some 72, .bin .add (.t 42) (.c (.int .i64 1)), none⟩,
 ⟨some 42, .mv (.t 72), none⟩])))))))
 (.seq (.region [⟨some 2, .mv (.c (.int .i64 0)), none⟩,
 ⟨some 3, .mv (.c (.int .i64 0)), none⟩,
 ⟨some 4, .mv (.c (.int .i64 0)), none⟩])
 .ret))))), [.tmp 2, .tmp 3, .tmp 4]⟩
theorem c7 : compFun Try.prog Try.f7 = some ir7 := by kernel_rfl
def ir8 : IFun := ⟨14, (.region [⟨some 4, .mv (.t 0), none⟩,
 ⟨some 5, .mv (.t 0), none⟩,
 ⟨some 6, .nilck (.t 5), none⟩,
 ⟨some 7, .fa (.t 6) 0, none⟩,
 ⟨some 8, .ld false 1 (.t 7), none⟩,
 ⟨some 9, .mv (.t 1), none⟩,
 ⟨some 10, .bldS 1 1 [(.int .i64 0)] [(0, 1, (.t 9))], none⟩,
 ⟨some 11, .app 1 8 (.t 8) (.t 10), none⟩,
 ⟨some 12, .nilck (.t 4), none⟩,
 ⟨some 13, .fa (.t 12) 0, none⟩,
 ⟨none, .st 1 (.t 13) (.t 11), none⟩]), []⟩
theorem c8 : compFun Try.prog Try.f8 = some ir8 := by kernel_rfl
def ir9 : IFun := ⟨14, (.region [⟨some 4, .mv (.t 0), none⟩,
 ⟨some 5, .mv (.t 0), none⟩,
 ⟨some 6, .nilck (.t 5), none⟩,
 ⟨some 7, .fa (.t 6) 0, none⟩,
 ⟨some 8, .ld false 1 (.t 7), none⟩,
 ⟨some 9, .mv (.t 1), none⟩,
 ⟨some 10, .bldS 1 1 [(.int .i64 0)] [(0, 1, (.t 9))], none⟩,
 ⟨some 11, .app 1 8 (.t 8) (.t 10), none⟩,
 ⟨some 12, .nilck (.t 4), none⟩,
 ⟨some 13, .fa (.t 12) 0, none⟩,
 ⟨none, .st 1 (.t 13) (.t 11), none⟩]), []⟩
theorem c9 : compFun Try.prog Try.f9 = some ir9 := by kernel_rfl
def ir10 : IFun := ⟨0, .skip, []⟩
theorem c10 : compFun Try.prog Try.f10 = some ir10 := by kernel_rfl
def ir11 : IFun := ⟨23, (.seq (.region [⟨some 3, .mv (.c .nilfunc), none⟩])
 (.seq (.region [⟨some 7, .fa (.t 1) 0, none⟩,
 ⟨some 8, .ld true 5 (.t 7), none⟩,
 ⟨some 9, .fa (.t 1) 5, none⟩,
 ⟨some 10, .ld false 1 (.t 9), none⟩,
 ⟨some 11, .fa (.t 1) 6, none⟩,
 ⟨some 12, .ld false 1 (.t 11), none⟩,
 ⟨some 13, .call (.c (.func 12 [] [])) [(.t 8), (.t 10), (.t 12)], none⟩,
 ⟨some 6, .mv (.t 13), none⟩,
 ⟨some 14, .ext (.t 6) 0, none⟩,
 ⟨some 15, .ext (.t 6) 1, none⟩,
 ⟨some 4, .alloc .nilslice, none⟩,
 ⟨none, .st 1 (.t 4) (.t 14), none⟩,
 ⟨some 5, .mv (.t 15), none⟩])
 (.seq (.region [⟨some 16, .mv (.t 0), none⟩,
 ⟨some 17, .ld false 1 (.t 4), none⟩,
 ⟨some 18, .call (.c (.func 13 [] [])) [(.t 16), (.t 17)], none⟩])
 (.seq (.region [⟨some 19, .mv (.t 0), none⟩,
 ⟨some 20, .mv (.t 5), none⟩,
 ⟨some 21, .call (.c (.func 9 [] [])) [(.t 19), (.t 20)], none⟩])
 (.seq (.region [⟨some 22, .mkfn 14 [] [(.t 4)], none⟩,
 ⟨some 3, .mv (.t 22), none⟩])
 .ret))))), [.tmp 3]⟩
theorem c11 : compFun Try.prog Try.f11 = some ir11 := by kernel_rfl
def ir12 : IFun := ⟨34, (.seq (.region [⟨some 3, .box (.t 0), none⟩,
 ⟨some 6, .mv (.c .nilslice), none⟩,
 ⟨some 7, .mv (.c (.int .i64 0)), none⟩])
 (.seq (.region [⟨some 12, .ld true 5 (.t 3), none⟩,
 ⟨some 13, .mv (.t 1), none⟩,
 ⟨some 14, .call (.c (.func 44 [] [])) [(.t 12), (.t 13)], none⟩,
 ⟨some 11, .mv (.t 14), none⟩,
 ⟨some 15, .ext (.t 11) 0, none⟩,
 ⟨some 16, .ext (.t 11) 1, none⟩,
 ⟨some 17, .ext (.t 11) 2, none⟩,
 ⟨some 9, .alloc (.agg [(.int .i64 0), (.int .i64 0), (.int .i64 0), (.int .i64 0), (.int .i64 0), (.int .i64 0)]), none⟩,
 ⟨some 8, .mv (.t 15), none⟩,
 ⟨none, .st 6 (.t 9) (.t 16), none⟩,
 ⟨some 10, .mv (.t 17), none⟩])
 (.seq (.block 0
 (.seq (.region [⟨some 19, .mv (.t 10), none⟩,
 ⟨some 20, .bin .neq (.t 19) (.c (.int .i64 0)), none⟩,
 ⟨some 18, .mv (.t 20), none⟩])
 (.cond (.t 18)
 (.seq (.region [⟨some 21, .mv (.t 10), none⟩,
 ⟨some 6, .mv (.c .nilslice), none⟩,
 ⟨some 7, .mv (.t 21), none⟩])
 .ret)
 (.seq (.region [⟨some 23, .fa (.t 3) 0, none⟩,
 ⟨some 24, .ld false 1 (.t 23), none⟩,
 ⟨some 25, .len false (.t 24), none⟩,
 ⟨some 26, .bin .sub (.t 25) (.c (.int .i64 1)), none⟩,
 ⟨some 27, .mv (.t 2), none⟩,
 ⟨some 28, .bldS 1 1 [(.int .i64 0)] [(0, 1, (.t 27))], none⟩,
 ⟨some 29, .call (.c (.func 40 [] [])) [(.c (.int .i64 0)), (.t 26), (.t 28)], none⟩,
 ⟨some 22, .mv (.t 29), none⟩])
 (.cond (.t 22)
 (.seq (.region [⟨some 6, .mv (.c .nilslice), none⟩,
 ⟨some 7, .mv (.c (.int .i64 4)), none⟩])
 .ret)
 .skip)))))
 (.seq (.region [⟨some 30, .mv (.t 8), none⟩,
 ⟨some 31, .ld true 6 (.t 9), none⟩,
 ⟨some 32, .mv (.t 2), none⟩,
 ⟨some 33, .call (.c (.func 45 [] [])) [(.t 30), (.t 31), (.t 32)], none⟩,
 ⟨some 6, .mv (.t 33), none⟩,
 ⟨some 7, .mv (.c (.int .i64 0)), none⟩])
 .ret)))), [.tmp 6, .tmp 7]⟩
theorem c12 : compFun Try.prog Try.f12 = some ir12 := by kernel_rfl
def ir13 : IFun := ⟨7, (.region [⟨some 4, .mv (.t 0), none⟩,
 ⟨some 5, .mv (.t 1), none⟩,
 ⟨some 6, .call (.c (.func 46 [] [])) [(.t 4), (.t 5), (.c (.func 8 [] []))], none⟩]), []⟩
theorem c13 : compFun Try.prog Try.f13 = some ir13 := by kernel_rfl
def ir14 : IFun := ⟨2, (.region [⟨some 1, .call (.c (.func 15 [] [])) [(.t 0)], none⟩]), []⟩
theorem c14 : compFun Try.prog Try.f14 = some ir14 := by kernel_rfl
def ir15 : IFun := ⟨6, (.region [⟨some 2, .mv (.t 0), none⟩,
 ⟨some 3, .nilck (.t 2), none⟩,
 ⟨some 4, .ld false 1 (.t 3), none⟩,
 ⟨some 5, .call (.c (.func 47 [] [])) [(.t 4), (.c (.func 48 [] []))], none⟩]), []⟩
theorem c15 : compFun Try.prog Try.f15 = some ir15 := by kernel_rfl
def ir16 : IFun := ⟨23, (.seq (.region [⟨some 3, .mv (.c .nilfunc), none⟩])
 (.seq (.region [⟨some 7, .fa (.t 1) 0, none⟩,
 ⟨some 8, .ld true 5 (.t 7), none⟩,
 ⟨some 9, .fa (.t 1) 5, none⟩,
 ⟨some 10, .ld false 1 (.t 9), none⟩,
 ⟨some 11, .fa (.t 1) 6, none⟩,
 ⟨some 12, .ld false 1 (.t 11), none⟩,
 ⟨some 13, .call (.c (.func 17 [] [])) [(.t 8), (.t 10), (.t 12)], none⟩,
 ⟨some 6, .mv (.t 13), none⟩,
 ⟨some 14, .ext (.t 6) 0, none⟩,
 ⟨some 15, .ext (.t 6) 1, none⟩,
 ⟨some 4, .alloc .nilslice, none⟩,
 ⟨none, .st 1 (.t 4) (.t 14), none⟩,
 ⟨some 5, .mv (.t 15), none⟩])
 (.seq (.region [⟨some 16, .mv (.t 0), none⟩,
 ⟨some 17, .ld false 1 (.t 4), none⟩,
 ⟨some 18, .call (.c (.func 18 [] [])) [(.t 16), (.t 17)], none⟩])
 (.seq (.region [⟨some 19, .mv (.t 0), none⟩,
 ⟨some 20, .mv (.t 5), none⟩,
 ⟨some 21, .call (.c (.func 9 [] [])) [(.t 19), (.t 20)], none⟩])
 (.seq (.region [⟨some 22, .mkfn 19 [] [(.t 4)], none⟩,
 ⟨some 3, .mv (.t 22), none⟩])
 .ret))))), [.tmp 3]⟩
theorem c16 : compFun Try.prog Try.f16 = some ir16 := by kernel_rfl
def ir17 : IFun := ⟨34, (.seq (.region [⟨some 3, .box (.t 0), none⟩,
 ⟨some 6, .mv (.c .nilslice), none⟩,
 ⟨some 7, .mv (.c (.int .i64 0)), none⟩])
 (.seq (.region [⟨some 12, .ld true 5 (.t 3), none⟩,
 ⟨some 13, .mv (.t 1), none⟩,
 ⟨some 14, .call (.c (.func 44 [] [])) [(.t 12), (.t 13)], none⟩,
 ⟨some 11, .mv (.t 14), none⟩,
 ⟨some 15, .ext (.t 11) 0, none⟩,
 ⟨some 16, .ext (.t 11) 1, none⟩,
 ⟨some 17, .ext (.t 11) 2, none⟩,
 ⟨some 9, .alloc (.agg [(.int .i64 0), (.int .i64 0), (.int .i64 0), (.int .i64 0), (.int .i64 0), (.int .i64 0)]), none⟩,
 ⟨some 8, .mv (.t 15), none⟩,
 ⟨none, .st 6 (.t 9) (.t 16), none⟩,
 ⟨some 10, .mv (.t 17), none⟩])
 (.seq (.block 0
 (.seq (.region [⟨some 19, .mv (.t 10), none⟩,
 ⟨some 20, .bin .neq (.t 19) (.c (.int .i64 0)), none⟩,
 ⟨some 18, .mv (.t 20), none⟩])
 (.cond (.t 18)
 (.seq (.region [⟨some 21, .mv (.t 10), none⟩,
 ⟨some 6, .mv (.c .nilslice), none⟩,
 ⟨some 7, .mv (.t 21), none⟩])
 .ret)
 (.seq (.region [⟨some 23, .fa (.t 3) 0, none⟩,
 ⟨some 24, .ld false 1 (.t 23), none⟩,
 ⟨some 25, .len false (.t 24), none⟩,
 ⟨some 26, .bin .sub (.t 25) (.c (.int .i64 1)), none⟩,
 ⟨some 27, .mv (.t 2), none⟩,
 ⟨some 28, .bldS 1 1 [(.int .i64 0)] [(0, 1, (.t 27))], none⟩,
 ⟨some 29, .call (.c (.func 40 [] [])) [(.c (.int .i64 0)), (.t 26), (.t 28)], none⟩,
 ⟨some 22, .mv (.t 29), none⟩])
 (.cond (.t 22)
 (.seq (.region [⟨some 6, .mv (.c .nilslice), none⟩,
 ⟨some 7, .mv (.c (.int .i64 4)), none⟩])
 .ret)
 .skip)))))
 (.seq (.region [⟨some 30, .mv (.t 8), none⟩,
 ⟨some 31, .ld true 6 (.t 9), none⟩,
 ⟨some 32, .mv (.t 2), none⟩,
 ⟨some 33, .call (.c (.func 49 [] [])) [(.t 30), (.t 31), (.t 32)], none⟩,
 ⟨some 6, .mv (.t 33), none⟩,
 ⟨some 7, .mv (.c (.int .i64 0)), none⟩])
 .ret)))), [.tmp 6, .tmp 7]⟩
theorem c17 : compFun Try.prog Try.f17 = some ir17 := by kernel_rfl
def ir18 : IFun := ⟨7, (.region [⟨some 4, .mv (.t 0), none⟩,
 ⟨some 5, .mv (.t 1), none⟩,
 ⟨some 6, .call (.c (.func 50 [] [])) [(.t 4), (.t 5), (.c (.func 51 [] []))], none⟩]), []⟩
theorem c18 : compFun Try.prog Try.f18 = some ir18 := by kernel_rfl
def ir19 : IFun := ⟨2, (.region [⟨some 1, .call (.c (.func 20 [] [])) [(.t 0)], none⟩]), []⟩
theorem c19 : compFun Try.prog Try.f19 = some ir19 := by kernel_rfl
def ir20 : IFun := ⟨6, (.region [⟨some 2, .mv (.t 0), none⟩,
 ⟨some 3, .nilck (.t 2), none⟩,
 ⟨some 4, .ld false 1 (.t 3), none⟩,
 ⟨some 5, .call (.c (.func 52 [] [])) [(.t 4), (.c (.func 53 [] []))], none⟩]), []⟩
theorem c20 : compFun Try.prog Try.f20 = some ir20 := by kernel_rfl
def ir21 : IFun := ⟨22, (.seq (.region [⟨some 3, .mv (.c .nilfunc), none⟩])
 (.seq (.region [⟨some 7, .fa (.t 1) 0, none⟩,
 ⟨some 8, .ld true 5 (.t 7), none⟩,
 ⟨some 9, .fa (.t 1) 5, none⟩,
 ⟨some 10, .ld false 1 (.t 9), none⟩,
 ⟨some 11, .fa (.t 1) 7, none⟩,
 ⟨some 12, .ld false 1 (.t 11), none⟩,
 ⟨some 13, .call (.c (.func 22 [] [])) [(.t 8), (.t 10), (.t 12)], none⟩,
 ⟨some 6, .mv (.t 13), none⟩,
 ⟨some 14, .ext (.t 6) 0, none⟩,
 ⟨some 15, .ext (.t 6) 1, none⟩,
 ⟨some 4, .mv (.t 14), none⟩,
 ⟨some 5, .mv (.t 15), none⟩])
 (.seq (.region [⟨some 16, .mv (.t 0), none⟩,
 ⟨some 17, .mv (.t 4), none⟩,
 ⟨some 18, .call (.c (.func 8 [] [])) [(.t 16), (.t 17)], none⟩])
 (.seq (.region [⟨some 19, .mv (.t 0), none⟩,
 ⟨some 20, .mv (.t 5), none⟩,
 ⟨some 21, .call (.c (.func 9 [] [])) [(.t 19), (.t 20)], none⟩])
 (.seq (.region [⟨some 3, .mv (.c (.func 10 [] [])), none⟩])
 .ret))))), [.tmp 3]⟩
theorem c21 : compFun Try.prog Try.f21 = some ir21 := by kernel_rfl
def ir22 : IFun := ⟨34, (.seq (.region [⟨some 3, .box (.t 0), none⟩,
 ⟨some 6, .mv (.c (.int .i64 0)), none⟩,
 ⟨some 7, .mv (.c (.int .i64 0)), none⟩])
 (.seq (.region [⟨some 12, .ld true 5 (.t 3), none⟩,
 ⟨some 13, .mv (.t 1), none⟩,
 ⟨some 14, .call (.c (.func 44 [] [])) [(.t 12), (.t 13)], none⟩,
 ⟨some 11, .mv (.t 14), none⟩,
 ⟨some 15, .ext (.t 11) 0, none⟩,
 ⟨some 16, .ext (.t 11) 1, none⟩,
 ⟨some 17, .ext (.t 11) 2, none⟩,
 ⟨some 9, .alloc (.agg [(.int .i64 0), (.int .i64 0), (.int .i64 0), (.int .i64 0), (.int .i64 0), (.int .i64 0)]), none⟩,
 ⟨some 8, .mv (.t 15), none⟩,
 ⟨none, .st 6 (.t 9) (.t 16), none⟩,
 ⟨some 10, .mv (.t 17), none⟩])
 (.seq (.block 0
 (.seq (.region [⟨some 19, .mv (.t 10), none⟩,
 ⟨some 20, .bin .neq (.t 19) (.c (.int .i64 0)), none⟩,
 ⟨some 18, .mv (.t 20), none⟩])
 (.cond (.t 18)
 (.seq (.region [⟨some 21, .mv (.t 10), none⟩,
 ⟨some 6, .mv (.c (.int .i64 0)), none⟩,
 ⟨some 7, .mv (.t 21), none⟩])
 .ret)
 (.seq (.region [⟨some 23, .fa (.t 3) 3, none⟩,
 ⟨some 24, .ld false 1 (.t 23), none⟩,
 ⟨some 25, .len false (.t 24), none⟩,
 ⟨some 26, .bin .sub (.t 25) (.c (.int .i64 1)), none⟩,
 ⟨some 27, .mv (.t 2), none⟩,
 ⟨some 28, .bldS 1 1 [(.int .i64 0)] [(0, 1, (.t 27))], none⟩,
 ⟨some 29, .call (.c (.func 40 [] [])) [(.c (.int .i64 0)), (.t 26), (.t 28)], none⟩,
 ⟨some 22, .mv (.t 29), none⟩])
 (.cond (.t 22)
 (.seq (.region [⟨some 6, .mv (.c (.int .i64 0)), none⟩,
 ⟨some 7, .mv (.c (.int .i64 4)), none⟩])
 .ret)
 .skip)))))
 (.seq (.region [⟨some 30, .mv (.t 8), none⟩,
 ⟨some 31, .ld true 6 (.t 9), none⟩,
 ⟨some 32, .mv (.t 2), none⟩,
 ⟨some 33, .call (.c (.func 54 [] [])) [(.t 30), (.t 31), (.t 32)], none⟩,
 ⟨some 6, .mv (.t 33), none⟩,
 ⟨some 7, .mv (.c (.int .i64 0)), none⟩])
 .ret)))), [.tmp 6, .tmp 7]⟩
theorem c22 : compFun Try.prog Try.f22 = some ir22 := by kernel_rfl
def ir23 : IFun := ⟨27, (.seq (.region [⟨some 3, .mv (.c .nilfunc), none⟩])
 (.seq (.region [⟨some 7, .fa (.t 1) 0, none⟩,
 ⟨some 8, .ld true 5 (.t 7), none⟩,
 ⟨some 9, .fa (.t 1) 5, none⟩,
 ⟨some 10, .ld false 1 (.t 9), none⟩,
 ⟨some 11, .fa (.t 1) 6, none⟩,
 ⟨some 12, .ld false 1 (.t 11), none⟩,
 ⟨some 13, .fa (.t 1) 8, none⟩,
 ⟨some 14, .ld false 1 (.t 13), none⟩,
 ⟨some 15, .fa (.t 1) 9, none⟩,
 ⟨some 16, .ld false 1 (.t 15), none⟩,
 ⟨some 17, .call (.c (.func 24 [] [])) [(.t 8), (.t 10), (.t 12), (.t 14), (.t 16)], none⟩,
 ⟨some 6, .mv (.t 17), none⟩,
 ⟨some 18, .ext (.t 6) 0, none⟩,
 ⟨some 19, .ext (.t 6) 1, none⟩,
 ⟨some 4, .alloc .nilslice, none⟩,
 ⟨none, .st 1 (.t 4) (.t 18), none⟩,
 ⟨some 5, .mv (.t 19), none⟩])
 (.seq (.region [⟨some 20, .mv (.t 0), none⟩,
 ⟨some 21, .ld false 1 (.t 4), none⟩,
 ⟨some 22, .call (.c (.func 18 [] [])) [(.t 20), (.t 21)], none⟩])
 (.seq (.region [⟨some 23, .mv (.t 0), none⟩,
 ⟨some 24, .mv (.t 5), none⟩,
 ⟨some 25, .call (.c (.func 9 [] [])) [(.t 23), (.t 24)], none⟩])
 (.seq (.region [⟨some 26, .mkfn 25 [] [(.t 4)], none⟩,
 ⟨some 3, .mv (.t 26), none⟩])
 .ret))))), [.tmp 3]⟩
theorem c23 : compFun Try.prog Try.f23 = some ir23 := by kernel_rfl
def ir24 : IFun := ⟨193, (.seq (.region [⟨some 5, .box (.t 0), none⟩,
 ⟨some 10, .mv (.c .nilslice), none⟩,
 ⟨some 11, .mv (.c (.int .i64 0)), none⟩])
 (.seq (.region [⟨some 23, .ld true 5 (.t 5), none⟩,
 ⟨some 24, .mv (.t 1), none⟩,
 ⟨some 25, .call (.c (.func 44 [] [])) [(.t 23), (.t 24)], none⟩,
 ⟨some 22, .mv (.t 25), none⟩,
 ⟨some 26, .ext (.t 22) 0, none⟩,
 ⟨some 27, .ext (.t 22) 1, none⟩,
 ⟨some 28, .ext (.t 22) 2, none⟩,
 ⟨some 13, .alloc (.agg [(.int .i64 0), (.int .i64 0), (.int .i64 0), (.int .i64 0), (.int .i64 0), (.int .i64 0)]), none⟩,
 ⟨some 12, .mv (.t 26), none⟩,
 ⟨none, .st 6 (.t 13) (.t 27), none⟩,
 ⟨some 14, .mv (.t 28), none⟩])
 (.seq (.block 0
 (.seq (.region [⟨some 30, .mv (.t 14), none⟩,
 ⟨some 31, .bin .neq (.t 30) (.c (.int .i64 0)), none⟩,
 ⟨some 29, .mv (.t 31), none⟩])
 (.cond (.t 29)
 (.seq (.region [⟨some 32, .mv (.t 14), none⟩,
 ⟨some 10, .mv (.c .nilslice), none⟩,
 ⟨some 11, .mv (.t 32), none⟩])
 .ret)
 (.seq (.region [⟨some 34, .fa (.t 5) 0, none⟩,
 ⟨some 35, .ld false 1 (.t 34), none⟩,
 ⟨some 36, .len false (.t 35), none⟩,
 ⟨some 37, .bin .sub (.t 36) (.c (.int .i64 1)), none⟩,
 ⟨some 38, .mv (.t 2), none⟩,
 ⟨some 39, .bldS 1 1 [(.int .i64 0)] [(0, 1, (.t 38))], none⟩,
 ⟨some 40, .call (.c (.func 40 [] [])) [(.c (.int .i64 0)), (.t 37), (.t 39)], none⟩,
 ⟨some 41, .mv (.t 40), none⟩,
 ⟨(some 42), (.fa (.t 5) 1), (some (41, false))⟩,
 ⟨(some 43), (.ld false 1 (.t 42)), (some (41, false))⟩,
 ⟨(some 44), (.bin .sub (.t 43) (.c (.int .i64 1))), (some (41, false))⟩,
 ⟨(some 45), (.mv (.t 3)), (some (41, false))⟩,
 ⟨(some 46), (.bldS 1 1 [(.int .i64 0)] [(0, 1, (.t 45))]), (some (41, false))⟩,
 ⟨(some 47), (.call (.c (.func 40 [] [])) [(.c (.int .i64 0)), (.t 44), (.t 46)]), (some (41, false))⟩,
 ⟨some 48, .pick (.t 41) (.c (.bool true)) (.t 47), none⟩,
 ⟨some 33, .mv (.t 48), none⟩])
 (.cond (.t 33)
 (.seq (.region [⟨some 10, .mv (.c .nilslice), none⟩,
 ⟨some 11, .mv (.c (.int .i64 4)), none⟩])
 .ret)
 .skip)))))
 (.seq (.region [⟨some 49, .mv (.t 12), none⟩,
 ⟨some 50, .ld true 6 (.t 13), none⟩,
 ⟨some 51, .mv (.t 2), none⟩,
 ⟨some 52, .call (.c (.func 49 [] [])) [(.t 49), (.t 50), (.t 51)], none⟩,
 ⟨some 15, .mv (.t 52), none⟩])
 (.seq (.seq (.draw [⟨⟨some 53, .mv (.t 15), none⟩, false, [], []⟩,
 ⟨⟨some 54, .mv (.t 3), none⟩, false, [], []⟩,
 ⟨⟨some 55, .ia 2 (.t 53) (.t 54), none⟩, false, [], []⟩,
 ⟨⟨some 56, .fa (.t 55) 0, none⟩, false, [], []⟩,
 ⟨⟨some 57, .ld false 1 (.t 56), none⟩, false, [⟨some 57, .ld false 1 (.t 56), none⟩], []⟩,
 ⟨⟨some 58, .mv (.t 15), none⟩, false, [], []⟩,
 ⟨⟨some 59, .mv (.t 3), none⟩, false, [], []⟩,
 ⟨⟨some 60, .ia 2 (.t 58) (.t 59), none⟩, false, [], []⟩,
 ⟨⟨some 61, .fa (.t 60) 1, none⟩, false, [], []⟩,
 ⟨⟨some 62, .ld false 1 (.t 61), none⟩, false, [⟨some 62, .ld false 1 (.t 61), none⟩], []⟩,
 ⟨⟨some 63, .mv (.t 4), none⟩, false, [], []⟩,
 ⟨⟨some 64, .bldS 1 1 [(.int .i64 0)] [(0, 1, (.t 63))], none⟩, false, [], []⟩,
 ⟨⟨some 65, .call (.c (.func 40 [] [])) [(.t 57), (.t 62), (.t 64)], none⟩, true, [], []⟩])
 (.cond (.t 65)
 (.seq (.region [⟨some 10, .mv (.c .nilslice), none⟩,
 ⟨some 11, .mv (.c (.int .i64 8)), none⟩])
 .ret)
 .skip))
 (.seq (.region [⟨some 66, .mv (.t 15), none⟩,
 ⟨some 67, .mv (.t 3), none⟩,
 ⟨some 68, .mv (.t 4), none⟩,
 ⟨some 69, .mv (.t 4), none⟩,
 ⟨some 70, .bld [(.int .i64 0), (.int .i64 0)] [(0, 1, (.t 68)), (1, 1, (.t 69))], none⟩,
 ⟨some 71, .ia 2 (.t 66) (.t 67), none⟩,
 ⟨none, .st 2 (.t 71) (.t 70), none⟩])
 (.seq (.draw [⟨⟨some 72, .mv (.t 12), none⟩, false, [], []⟩,
 ⟨⟨some 73, .ld true 6 (.t 13), none⟩, false, [⟨some 73, .ld true 6 (.t 13), none⟩], []⟩,
 ⟨⟨some 74, .mv (.t 2), none⟩, false, [], []⟩,
 ⟨⟨some 75, .call (.c (.func 45 [] [])) [(.t 72), (.t 73), (.t 74)], none⟩, true, [], []⟩,
 ⟨⟨some 76, .mv (.t 12), none⟩, false, [], []⟩,
 ⟨⟨some 77, .nilck (.t 76), none⟩, false, [], []⟩,
 ⟨⟨some 78, .fa (.t 77) 0, none⟩, false, [], []⟩,
 ⟨⟨some 79, .fa (.t 78) 0, none⟩, false, [], []⟩,
 ⟨⟨some 80, .ld false 1 (.t 79), none⟩, false, [⟨some 80, .ld false 1 (.t 79), none⟩], [3]⟩,
 ⟨⟨some 81, .mv (.t 2), none⟩, false, [], []⟩,
 ⟨⟨some 82, .ia 4 (.t 80) (.t 81), none⟩, false, [], []⟩,
 ⟨⟨some 83, .fa (.t 82) 3, none⟩, false, [], []⟩,
 ⟨⟨some 84, .ld false 1 (.t 83), none⟩, false, [⟨some 84, .ld false 1 (.t 83), none⟩], [3]⟩,
 ⟨⟨some 16, .mv (.t 75), none⟩, false, [], []⟩,
 ⟨⟨some 17, .mv (.t 84), none⟩, false, [], []⟩])
 (.seq (.seq (.region [⟨some 85, .mv (.t 3), none⟩,
 ⟨some 86, .bin .add (.t 85) (.c (.int .i64 1)), none⟩,
 ⟨some 18, .mv (.t 86), none⟩])
 (.block 1
 (.loop
 (.seq (.seq (.region [⟨some 87, .mv (.t 18), none⟩,
 ⟨some 88, .fa (.t 5) 1, none⟩,
 ⟨some 89, .ld false 1 (.t 88), none⟩,
 ⟨some 90, .bin .lss (.t 87) (.t 89), none⟩])
 (.cond (.t 90)
 .skip
 (.exit 1)))
 (.seq (.block 2
 (.seq (.draw [⟨⟨some 93, .mv (.t 16), none⟩, false, [], []⟩,
 ⟨⟨some 94, .mv (.t 18), none⟩, false, [], []⟩,
 ⟨⟨some 95, .bin .sub (.t 94) (.c (.int .i64 1)), none⟩, false, [], []⟩,
 ⟨⟨some 96, .ia 1 (.t 93) (.t 95), none⟩, false, [], []⟩,
 ⟨⟨some 97, .ld false 1 (.t 96), none⟩, false, [⟨some 97, .ld false 1 (.t 96), none⟩], []⟩,
 ⟨⟨some 98, .fa (.t 5) 2, none⟩, false, [], []⟩,
 ⟨⟨some 99, .ld false 1 (.t 98), none⟩, false, [⟨some 99, .ld false 1 (.t 98), none⟩], []⟩,
 ⟨⟨some 100, .bin .mul (.t 97) (.t 99), none⟩, false, [], []⟩,
 ⟨⟨some 19, .mv (.t 100), none⟩, false, [], []⟩])
 (.draw [⟨⟨some 101, .mv (.t 15), none⟩, false, [], []⟩,
 ⟨⟨some 102, .mv (.t 18), none⟩, false, [], []⟩,
 ⟨⟨some 103, .mv (.t 15), none⟩, false, [], []⟩,
 ⟨⟨some 104, .mv (.t 18), none⟩, false, [], []⟩,
 ⟨⟨some 105, .bin .sub (.t 104) (.c (.int .i64 1)), none⟩, false, [], []⟩,
 ⟨⟨some 106, .ia 2 (.t 103) (.t 105), none⟩, false, [], []⟩,
 ⟨⟨some 107, .fa (.t 106) 0, none⟩, false, [], []⟩,
 ⟨⟨some 108, .ld false 1 (.t 107), none⟩, false, [⟨some 108, .ld false 1 (.t 107), none⟩], []⟩,
 ⟨⟨some 109, .mv (.t 19), none⟩, false, [], []⟩,
 ⟨⟨some 110, .bin .add (.t 108) (.t 109), none⟩, false, [], []⟩,
 ⟨⟨some 111, .mv (.t 17), none⟩, false, [], []⟩,
 ⟨⟨some 112, .mv (.t 18), none⟩, false, [], []⟩,
 ⟨⟨some 113, .ia 2 (.t 111) (.t 112), none⟩, false, [], []⟩,
 ⟨⟨some 114, .fa (.t 113) 0, none⟩, false, [], []⟩,
 ⟨⟨some 115, .ld false 1 (.t 114), none⟩, false, [⟨some 115, .ld false 1 (.t 114), none⟩], []⟩,
 ⟨⟨some 116, .bin .add (.t 110) (.t 115), none⟩, false, [], []⟩,
 ⟨⟨some 117, .mv (.t 15), none⟩, false, [], []⟩,
 ⟨⟨some 118, .mv (.t 18), none⟩, false, [], []⟩,
 ⟨⟨some 119, .bin .sub (.t 118) (.c (.int .i64 1)), none⟩, false, [], []⟩,
 ⟨⟨some 120, .ia 2 (.t 117) (.t 119), none⟩, false, [], []⟩,
 ⟨⟨some 121, .fa (.t 120) 1, none⟩, false, [], []⟩,
 ⟨⟨some 122, .ld false 1 (.t 121), none⟩, false, [⟨some 122, .ld false 1 (.t 121), none⟩], []⟩,
 ⟨⟨some 123, .mv (.t 19), none⟩, false, [], []⟩,
 ⟨⟨some 124, .bin .add (.t 122) (.t 123), none⟩, false, [], []⟩,
 ⟨⟨some 125, .mv (.t 17), none⟩, false, [], []⟩,
 ⟨⟨some 126, .mv (.t 18), none⟩, false, [], []⟩,
 ⟨⟨some 127, .ia 2 (.t 125) (.t 126), none⟩, false, [], []⟩,
 ⟨⟨some 128, .fa (.t 127) 1, none⟩, false, [], []⟩,
 ⟨⟨some 129, .ld false 1 (.t 128), none⟩, false, [⟨some 129, .ld false 1 (.t 128), none⟩], []⟩,
 ⟨⟨some 130, .bin .add (.t 124) (.t 129), none⟩, false, [], []⟩,
 ⟨⟨some 131, .bld [(.int .i64 0), (.int .i64 0)] [(0, 1, (.t 116)), (1, 1, (.t 130))], none⟩, false, [], []⟩,
 ⟨⟨some 132, .ia 2 (.t 101) (.t 102), none⟩, false, [], []⟩,
 ⟨⟨none, .st 2 (.t 132) (.t 131), none⟩, true, [], []⟩])))
 (.region [⟨some 91, .mv (.t 18), none⟩,
 ⟨some 92, .bin .add (.t 91) (.c (.int .i64 1)), none⟩,
 ⟨some 18, .mv (.t 92), none⟩]))))))
 (.seq (.seq (.region [⟨some 133, .mv (.t 3), none⟩,
 ⟨some 134, .bin .sub (.t 133) (.c (.int .i64 1)), none⟩,
 ⟨some 20, .mv (.t 134), none⟩])
 (.block 3
 (.loop
 (.seq (.seq (.region [⟨some 135, .mv (.t 20), none⟩,
 ⟨some 136, .bin .geq (.t 135) (.c (.int .i64 0)), none⟩])
 (.cond (.t 136)
 .skip
 (.exit 3)))
 (.seq (.block 4
 (.seq (.draw [⟨⟨some 139, .mv (.t 16), none⟩, false, [], []⟩,
 ⟨⟨some 140, .mv (.t 20), none⟩, false, [], []⟩,
 ⟨⟨some 141, .ia 1 (.t 139) (.t 140), none⟩, false, [], []⟩,
 ⟨⟨some 142, .ld false 1 (.t 141), none⟩, false, [⟨some 142, .ld false 1 (.t 141), none⟩], []⟩,
 ⟨⟨some 143, .fa (.t 5) 2, none⟩, false, [], []⟩,
 ⟨⟨some 144, .ld false 1 (.t 143), none⟩, false, [⟨some 144, .ld false 1 (.t 143), none⟩], []⟩,
 ⟨⟨some 145, .bin .mul (.t 142) (.t 144), none⟩, false, [], []⟩,
 ⟨⟨some 21, .mv (.t 145), none⟩, false, [], []⟩])
 (.draw [⟨⟨some 146, .mv (.t 15), none⟩, false, [], []⟩,
 ⟨⟨some 147, .mv (.t 20), none⟩, false, [], []⟩,
 ⟨⟨some 148, .mv (.t 15), none⟩, false, [], []⟩,
 ⟨⟨some 149, .mv (.t 20), none⟩, false, [], []⟩,
 ⟨⟨some 150, .ia 2 (.t 148) (.t 149), none⟩, false, [], []⟩,
 ⟨⟨some 151, .fa (.t 150) 0, none⟩, false, [], []⟩,
 ⟨⟨some 152, .ld false 1 (.t 151), none⟩, false, [⟨some 152, .ld false 1 (.t 151), none⟩], []⟩,
 ⟨⟨some 153, .mv (.t 15), none⟩, false, [], []⟩,
 ⟨⟨some 154, .mv (.t 20), none⟩, false, [], []⟩,
 ⟨⟨some 155, .bin .add (.t 154) (.c (.int .i64 1)), none⟩, false, [], []⟩,
 ⟨⟨some 156, .ia 2 (.t 153) (.t 155), none⟩, false, [], []⟩,
 ⟨⟨some 157, .fa (.t 156) 0, none⟩, false, [], []⟩,
 ⟨⟨some 158, .ld false 1 (.t 157), none⟩, false, [⟨some 158, .ld false 1 (.t 157), none⟩], []⟩,
 ⟨⟨some 159, .mv (.t 21), none⟩, false, [], []⟩,
 ⟨⟨some 160, .bin .sub (.t 158) (.t 159), none⟩, false, [], []⟩,
 ⟨⟨some 161, .mv (.t 17), none⟩, false, [], []⟩,
 ⟨⟨some 162, .mv (.t 20), none⟩, false, [], []⟩,
 ⟨⟨some 163, .bin .add (.t 162) (.c (.int .i64 1)), none⟩, false, [], []⟩,
 ⟨⟨some 164, .ia 2 (.t 161) (.t 163), none⟩, false, [], []⟩,
 ⟨⟨some 165, .fa (.t 164) 1, none⟩, false, [], []⟩,
 ⟨⟨some 166, .ld false 1 (.t 165), none⟩, false, [⟨some 166, .ld false 1 (.t 165), none⟩], []⟩,
 ⟨⟨some 167, .bin .sub (.t 160) (.t 166), none⟩, false, [], []⟩,
 ⟨⟨some 168, .mx (.t 152) [(.t 167)], none⟩, false, [], []⟩,
 ⟨⟨some 169, .mv (.t 15), none⟩, false, [], []⟩,
 ⟨⟨some 170, .mv (.t 20), none⟩, false, [], []⟩,
 ⟨⟨some 171, .ia 2 (.t 169) (.t 170), none⟩, false, [], []⟩,
 ⟨⟨some 172, .fa (.t 171) 1, none⟩, false, [], []⟩,
 ⟨⟨some 173, .ld false 1 (.t 172), none⟩, false, [⟨some 173, .ld false 1 (.t 172), none⟩], []⟩,
 ⟨⟨some 174, .mv (.t 15), none⟩, false, [], []⟩,
 ⟨⟨some 175, .mv (.t 20), none⟩, false, [], []⟩,
 ⟨⟨some 176, .bin .add (.t 175) (.c (.int .i64 1)), none⟩, false, [], []⟩,
 ⟨⟨some 177, .ia 2 (.t 174) (.t 176), none⟩, false, [], []⟩,
 ⟨⟨some 178, .fa (.t 177) 1, none⟩, false, [], []⟩,
 ⟨⟨some 179, .ld false 1 (.t 178), none⟩, false, [⟨some 179, .ld false 1 (.t 178), none⟩], []⟩,
 ⟨⟨some 180, .mv (.t 21), none⟩, false, [], []⟩,
 ⟨⟨some 181, .bin .sub (.t 179) (.t 180), none⟩, false, [], []⟩,
 ⟨⟨some 182, .mv (.t 17), none⟩, false, [], []⟩,
 ⟨⟨some 183, .mv (.t 20), none⟩, false, [], []⟩,
 ⟨⟨some 184, .bin .add (.t 183) (.c (.int .i64 1)), none⟩, false, [], []⟩,
 ⟨⟨some 185, .ia 2 (.t 182) (.t 184), none⟩, false, [], []⟩,
 ⟨⟨some 186, .fa (.t 185) 0, none⟩, false, [], []⟩,
 ⟨⟨some 187, .ld false 1 (.t 186), none⟩, false, [⟨some 187, .ld false 1 (.t 186), none⟩], []⟩,
 ⟨⟨some 188, .bin .sub (.t 181) (.t 187), none⟩, false, [], []⟩,
 ⟨⟨some 189, .mn (.t 173) [(.t 188)], none⟩, false, [], []⟩,
 ⟨⟨some 190, .bld [(.int .i64 0), (.int .i64 0)] [(0, 1, (.t 168)), (1, 1, (.t 189))], none⟩, false, [], []⟩,
 ⟨⟨some 191, .ia 2 (.t 146) (.t 147), none⟩, false, [], []⟩,
 ⟨⟨none, .st 2 (.t 191) (.t 190), none⟩, true, [], []⟩])))
 (.region [⟨some 137, .mv (.t 20), none⟩,
 ⟨some 138, .bin .sub (.t 137) (.c (.int .i64 1)), none⟩,
 ⟨some 20, .mv (.t 138), none⟩]))))))
 (.seq (.region [⟨some 192, .mv (.t 15), none⟩,
 ⟨some 10, .mv (.t 192), none⟩,
 ⟨some 11, .mv (.c (.int .i64 0)), none⟩])
 .ret)))))))))), [.tmp 10, .tmp 11]⟩
theorem c24 : compFun Try.prog Try.f24 = some ir24 := by kernel_rfl
def ir25 : IFun := ⟨2, (.region [⟨some 1, .call (.c (.func 20 [] [])) [(.t 0)], none⟩]), []⟩
theorem c25 : compFun Try.prog Try.f25 = some ir25 := by kernel_rfl
def ir26 : IFun := ⟨29, (.seq (.region [⟨some 3, .mv (.c .nilfunc), none⟩])
 (.seq (.region [⟨some 9, .fa (.t 1) 0, none⟩,
 ⟨some 10, .ld true 5 (.t 9), none⟩,
 ⟨some 11, .call (.c (.func 27 [] [])) [(.t 10)], none⟩,
 ⟨some 8, .mv (.t 11), none⟩,
 ⟨some 12, .ext (.t 8) 0, none⟩,
 ⟨some 13, .ext (.t 8) 1, none⟩,
 ⟨some 14, .ext (.t 8) 2, none⟩,
 ⟨some 15, .ext (.t 8) 3, none⟩,
 ⟨some 4, .alloc .nilslice, none⟩,
 ⟨none, .st 1 (.t 4) (.t 12), none⟩,
 ⟨some 5, .mv (.t 13), none⟩,
 ⟨some 6, .mv (.t 14), none⟩,
 ⟨some 7, .mv (.t 15), none⟩])
 (.seq (.region [⟨some 16, .mv (.t 0), none⟩,
 ⟨some 17, .ld false 1 (.t 4), none⟩,
 ⟨some 18, .call (.c (.func 13 [] [])) [(.t 16), (.t 17)], none⟩])
 (.seq (.region [⟨some 19, .mv (.t 0), none⟩,
 ⟨some 20, .mv (.t 5), none⟩,
 ⟨some 21, .call (.c (.func 8 [] [])) [(.t 19), (.t 20)], none⟩])
 (.seq (.region [⟨some 22, .mv (.t 0), none⟩,
 ⟨some 23, .mv (.t 6), none⟩,
 ⟨some 24, .call (.c (.func 8 [] [])) [(.t 22), (.t 23)], none⟩])
 (.seq (.region [⟨some 25, .mv (.t 0), none⟩,
 ⟨some 26, .mv (.t 7), none⟩,
 ⟨some 27, .call (.c (.func 9 [] [])) [(.t 25), (.t 26)], none⟩])
 (.seq (.region [⟨some 28, .mkfn 28 [] [(.t 4)], none⟩,
 ⟨some 3, .mv (.t 28), none⟩])
 .ret))))))), [.tmp 3]⟩
theorem c26 : compFun Try.prog Try.f26 = some ir26 := by kernel_rfl
def ir27 : IFun := ⟨66, (.seq (.region [⟨some 1, .box (.t 0), none⟩,
 ⟨some 2, .mv (.c .nilslice), none⟩,
 ⟨some 3, .mv (.c (.int .i64 0)), none⟩,
 ⟨some 4, .mv (.c (.int .i64 0)), none⟩,
 ⟨some 5, .mv (.c (.int .i64 0)), none⟩])
 (.seq (.region [⟨some 13, .ld true 5 (.t 1), none⟩,
 ⟨some 14, .call (.c (.func 55 [] [])) [(.t 13)], none⟩,
 ⟨some 12, .mv (.t 14), none⟩,
 ⟨some 15, .ext (.t 12) 0, none⟩,
 ⟨some 16, .ext (.t 12) 1, none⟩,
 ⟨some 6, .alloc .nilptr, none⟩,
 ⟨none, .st 1 (.t 6) (.t 15), none⟩,
 ⟨some 5, .mv (.t 16), none⟩])
 (.seq (.seq (.region [⟨some 17, .mv (.t 5), none⟩,
 ⟨some 18, .bin .neq (.t 17) (.c (.int .i64 0)), none⟩])
 (.cond (.t 18)
 (.seq (.region [⟨some 19, .mv (.t 5), none⟩,
 ⟨some 2, .mv (.c .nilslice), none⟩,
 ⟨some 3, .mv (.c (.int .i64 0)), none⟩,
 ⟨some 4, .mv (.c (.int .i64 0)), none⟩,
 ⟨some 5, .mv (.t 19), none⟩])
 .ret)
 .skip))
 (.seq (.region [⟨some 7, .alloc (.agg [(.int .i64 0), (.int .i64 0), (.int .i64 0), (.int .i64 0), (.int .i64 0), (.int .i64 0)]), none⟩])
 (.seq (.region [⟨some 20, .bld [(.int .i64 0), (.int .i64 0), (.int .i64 0)] [(0, 1, (.c (.int .i64 (-1))))], none⟩,
 ⟨some 8, .alloc (.agg [(.int .i64 0), (.int .i64 0), (.int .i64 0)]), none⟩,
 ⟨none, .st 3 (.t 8) (.t 20), none⟩])
 (.seq (.seq (.region [⟨some 21, .ld false 1 (.t 6), none⟩,
 ⟨some 22, .call (.c (.func 56 [] [])) [(.t 21)], none⟩])
 (.block 0
 (.rangef (.t 22) [23]
 (.region [⟨some 9, .alloc (.agg [(.int .i64 0), (.int .i64 0), (.int .i64 0), (.int .i64 0), (.int .i64 0), (.int .i64 0)]), none⟩,
 ⟨none, .st 6 (.t 9) (.t 23), none⟩])
 (.block 1
 (.seq (.region [⟨some 24, .ld false 1 (.t 6), none⟩,
 ⟨some 25, .ld true 6 (.t 9), none⟩,
 ⟨some 26, .call (.c (.func 57 [] [])) [(.t 24), (.t 25)], none⟩,
 ⟨some 10, .alloc (.agg [(.int .i64 0), (.int .i64 0), (.int .i64 0)]), none⟩,
 ⟨none, .st 3 (.t 10) (.t 26), none⟩])
 (.seq (.region [⟨some 27, .fa (.t 8) 0, none⟩,
 ⟨some 28, .ld false 1 (.t 27), none⟩,
 ⟨some 29, .fa (.t 10) 0, none⟩,
 ⟨some 30, .ld false 1 (.t 29), none⟩,
 ⟨some 31, .bin .sub (.t 28) (.t 30), none⟩,
 ⟨some 32, .fa (.t 10) 1, none⟩,
 ⟨some 33, .ld false 1 (.t 32), none⟩,
 ⟨some 34, .fa (.t 8) 1, none⟩,
 ⟨some 35, .ld false 1 (.t 34), none⟩,
 ⟨some 36, .bin .sub (.t 33) (.t 35), none⟩,
 ⟨some 37, .bldS 1 2 [(.int .i64 0)] [(0, 1, (.t 31)), (1, 1, (.t 36))], none⟩,
 ⟨some 38, .call (.c (.func 58 [] [])) [(.t 37)], none⟩,
 ⟨some 39, .bin .lss (.t 38) (.c (.int .i64 0)), none⟩])
 (.cond (.t 39)
 (.draw [⟨⟨some 40, .ld true 6 (.t 9), none⟩, false, [⟨some 40, .ld true 6 (.t 9), none⟩], []⟩,
 ⟨⟨some 41, .ld true 3 (.t 10), none⟩, false, [⟨some 41, .ld true 3 (.t 10), none⟩], []⟩,
 ⟨⟨none, .st 6 (.t 7) (.t 40), none⟩, true, [⟨some 41, .ld true 3 (.t 10), none⟩], []⟩,
 ⟨⟨none, .st 3 (.t 8) (.t 41), none⟩, true, [], []⟩])
 .skip)))))))
 (.seq (.region [⟨some 42, .fa (.t 1) 3, none⟩,
 ⟨some 43, .ld false 1 (.t 42), none⟩,
 ⟨some 44, .len false (.t 43), none⟩,
 ⟨some 45, .mksl 1 8 [(.int .i64 0)] (.t 44) (.t 44), none⟩,
 ⟨some 2, .mv (.t 45), none⟩])
 (.seq (.region [⟨some 46, .mv (.t 2), none⟩,
 ⟨some 47, .slca 6 1 (.t 7) none none none, none⟩,
 ⟨some 48, .cpy 1 (.t 46) (.t 47), none⟩])
 (.seq (.seq (.region [⟨some 49, .mv (.t 2), none⟩,
 ⟨some 50, .len false (.t 49), none⟩,
 ⟨some 51, .mv (.c (.int .i64 0)), none⟩])
 (.block 2
 (.loop
 (.seq (.region [⟨some 52, .bin .lss (.t 51) (.t 50), none⟩])
 (.seq (.cond (.t 52)
 .skip
 (.exit 2))
 (.seq (.block 3
 (.seq (.region [⟨some 53, .mv (.t 51), none⟩,
 ⟨some 11, .mv (.t 53), none⟩])
 (.region [⟨some 54, .mv (.t 2), none⟩,
 ⟨some 55, .mv (.t 11), none⟩,
 ⟨some 56, .ia 1 (.t 54) (.t 55), none⟩,
 ⟨some 57, .ld false 1 (.t 56), none⟩,
 ⟨some 58, .bin .sub (.t 57) (.c (.int .i64 1)), none⟩,
 ⟨some 59, .ia 1 (.t 54) (.t 55), none⟩,
 ⟨none, .st 1 (.t 59) (.t 58), none⟩])))
 (.region [⟨some 60, .bin .add (.t 51) (.c (.int .i64 1)), none⟩,
 ⟨some 51, .mv (.t 60), none⟩])))))))
 (.seq (.draw [⟨⟨some 61, .mv (.t 2), none⟩, false, [], []⟩,
 ⟨⟨some 62, .fa (.t 8) 0, none⟩, false, [], []⟩,
 ⟨⟨some 63, .ld false 1 (.t 62), none⟩, false, [⟨some 63, .ld false 1 (.t 62), none⟩], []⟩,
 ⟨⟨some 64, .fa (.t 8) 1, none⟩, false, [], []⟩,
 ⟨⟨some 65, .ld false 1 (.t 64), none⟩, false, [⟨some 65, .ld false 1 (.t 64), none⟩], []⟩,
 ⟨⟨some 2, .mv (.t 61), none⟩, false, [], []⟩,
 ⟨⟨some 3, .mv (.t 63), none⟩, false, [], []⟩,
 ⟨⟨some 4, .mv (.t 65), none⟩, false, [], []⟩,
 ⟨⟨some 5, .mv (.c (.int .i64 0)), none⟩, false, [], []⟩])
 .ret)))))))))), [.tmp 2, .tmp 3, .tmp 4, .tmp 5]⟩
theorem c27 : compFun Try.prog Try.f27 = some ir27 := by kernel_rfl
def ir28 : IFun := ⟨2, (.region [⟨some 1, .call (.c (.func 15 [] [])) [(.t 0)], none⟩]), []⟩
theorem c28 : compFun Try.prog Try.f28 = some ir28 := by kernel_rfl
def ir29 : IFun := ⟨19, (.seq (.region [⟨some 3, .mv (.c .nilfunc), none⟩])
 (.seq (.region [⟨some 7, .fa (.t 1) 0, none⟩,
 ⟨some 8, .ld true 5 (.t 7), none⟩,
 ⟨some 9, .call (.c (.func 30 [] [])) [(.t 8)], none⟩,
 ⟨some 6, .mv (.t 9), none⟩,
 ⟨some 10, .ext (.t 6) 0, none⟩,
 ⟨some 11, .ext (.t 6) 1, none⟩,
 ⟨some 4, .alloc .nilslice, none⟩,
 ⟨none, .st 1 (.t 4) (.t 10), none⟩,
 ⟨some 5, .mv (.t 11), none⟩])
 (.seq (.region [⟨some 12, .mv (.t 0), none⟩,
 ⟨some 13, .ld false 1 (.t 4), none⟩,
 ⟨some 14, .call (.c (.func 13 [] [])) [(.t 12), (.t 13)], none⟩])
 (.seq (.region [⟨some 15, .mv (.t 0), none⟩,
 ⟨some 16, .mv (.t 5), none⟩,
 ⟨some 17, .call (.c (.func 9 [] [])) [(.t 15), (.t 16)], none⟩])
 (.seq (.region [⟨some 18, .mkfn 31 [] [(.t 4)], none⟩,
 ⟨some 3, .mv (.t 18), none⟩])
 .ret))))), [.tmp 3]⟩
theorem c29 : compFun Try.prog Try.f29 = some ir29 := by kernel_rfl
def ir30 : IFun := ⟨55, (.seq (.region [⟨some 1, .box (.t 0), none⟩,
 ⟨some 2, .mv (.c .nilslice), none⟩,
 ⟨some 3, .mv (.c (.int .i64 0)), none⟩])
 (.scope (.seq (.region [⟨some 9, .ld true 5 (.t 1), none⟩,
 ⟨some 10, .call (.c (.func 55 [] [])) [(.t 9)], none⟩,
 ⟨some 8, .mv (.t 10), none⟩,
 ⟨some 11, .ext (.t 8) 0, none⟩,
 ⟨some 12, .ext (.t 8) 1, none⟩,
 ⟨some 4, .mv (.t 11), none⟩,
 ⟨some 3, .mv (.t 12), none⟩])
 (.seq (.seq (.region [⟨some 13, .mv (.t 3), none⟩,
 ⟨some 14, .bin .neq (.t 13) (.c (.int .i64 0)), none⟩])
 (.cond (.t 14)
 (.seq (.region [⟨some 15, .mv (.t 3), none⟩,
 ⟨some 2, .mv (.c .nilslice), none⟩,
 ⟨some 3, .mv (.t 15), none⟩])
 .ret)
 .skip))
 (.seq .skip
 (.seq (.seq (.region [⟨some 16, .fa (.t 1) 3, none⟩,
 ⟨some 17, .ld false 1 (.t 16), none⟩,
 ⟨some 18, .len false (.t 17), none⟩,
 ⟨some 19, .mv (.c (.int .i64 0)), none⟩])
 (.block 0
 (.loop
 (.seq (.region [⟨some 20, .bin .lss (.t 19) (.t 18), none⟩])
 (.seq (.cond (.t 20)
 .skip
 (.exit 0))
 (.seq (.block 1
 (.seq (.region [⟨some 21, .mv (.t 19), none⟩,
 ⟨some 5, .mv (.t 21), none⟩])
 (.seq (.seq (.region [⟨some 22, .fa (.t 1) 0, none⟩,
 ⟨some 23, .ld false 1 (.t 22), none⟩,
 ⟨some 24, .len false (.t 23), none⟩,
 ⟨some 25, .mv (.c (.int .i64 0)), none⟩])
 (.block 2
 (.loop
 (.seq (.region [⟨some 26, .bin .lss (.t 25) (.t 24), none⟩])
 (.seq (.cond (.t 26)
 .skip
 (.exit 2))
 (.seq (.block 3
 (.seq (.region [⟨some 27, .mv (.t 25), none⟩,
 ⟨some 6, .mv (.t 27), none⟩])
 (.seq (.region [⟨some 7, .alloc (.agg [(.int .i64 0), (.int .i64 0), (.int .i64 0), (.int .i64 0), (.int .i64 0), (.int .i64 0)]), none⟩])
 (.seq (.region [⟨some 28, .mv (.t 5), none⟩,
 ⟨some 29, .mv (.t 6), none⟩,
 ⟨some 30, .bin .add (.t 29) (.c (.int .i64 1)), none⟩,
 ⟨some 31, .iaa 6 1 (.t 7) (.t 28), none⟩,
 ⟨none, .st 1 (.t 31) (.t 30), none⟩])
 (.seq (.region [⟨some 32, .mv (.t 4), none⟩,
 ⟨some 33, .ld true 6 (.t 7), none⟩,
 ⟨some 34, .mv (.t 5), none⟩,
 ⟨some 35, .call (.c (.func 59 [] [])) [(.t 32), (.t 33), (.t 34)], none⟩,
 ⟨some 36, .mv (.t 35), none⟩,
 ⟨(some 37), (.ld true 6 (.t 7)), (some (36, true))⟩,
 ⟨(some 38), (.bld [(.int .i64 0), (.int .i64 0), (.int .i64 0), (.int .i64 0), (.int .i64 0), (.int .i64 0)] []), (some (36, true))⟩,
 ⟨(some 39), (.eqv (.ag [.i, .i, .i, .i, .i, .i]) true (.t 37) (.t 38)), (some (36, true))⟩,
 ⟨some 40, .pick (.t 36) (.t 39) (.c (.bool false)), none⟩,
 ⟨some 41, .mv (.t 40), none⟩,
 ⟨(some 42), (.mv (.t 4)), (some (41, true))⟩,
 ⟨(some 43), (.ld true 6 (.t 7)), (some (41, true))⟩,
 ⟨(some 44), (.mv (.t 5)), (some (41, true))⟩,
 ⟨(some 45), (.call (.c (.func 54 [] [])) [(.t 42), (.t 43), (.t 44)]), (some (41, true))⟩,
 ⟨(some 46), (.bin .eql (.t 45) (.c (.int .i64 1))), (some (41, true))⟩,
 ⟨some 47, .pick (.t 41) (.t 46) (.c (.bool false)), none⟩])
 (.cond (.t 47)
 (.exit 1)
 .skip))))))
 (.region [⟨some 48, .bin .add (.t 25) (.c (.int .i64 1)), none⟩,
 ⟨some 25, .mv (.t 48), none⟩])))))))
 (.region [⟨some 49, .mv (.t 2), none⟩,
 ⟨some 50, .mv (.t 5), none⟩,
 ⟨some 51, .bldS 1 1 [(.int .i64 0)] [(0, 1, (.t 50))], none⟩,
 ⟨some 52, .app 1 8 (.t 49) (.t 51), none⟩,
 ⟨some 2, .mv (.t 52), none⟩]))))
 (.region [⟨some 53, .bin .add (.t 19) (.c (.int .i64 1)), none⟩,
 ⟨some 19, .mv (.t 53), none⟩])))))))
 (.seq (.region [⟨some 54, .mv (.t 2), none⟩,
 ⟨some 2, .mv (.t 54), none⟩,
 ⟨some 3, .mv (.c (.int .i64 0)), none⟩])
 .ret))))))), [.tmp 2, .tmp 3]⟩
theorem c30 : compFun Try.prog Try.f30 = some ir30 := by kernel_rfl
def ir31 : IFun := ⟨2, (.region [⟨some 1, .call (.c (.func 15 [] [])) [(.t 0)], none⟩]), []⟩
theorem c31 : compFun Try.prog Try.f31 = some ir31 := by kernel_rfl
def ir32 : IFun := ⟨19, (.seq (.region [⟨some 3, .mv (.c .nilfunc), none⟩])
 (.seq (.region [⟨some 7, .fa (.t 1) 0, none⟩,
 ⟨some 8, .ld true 5 (.t 7), none⟩,
 ⟨some 9, .call (.c (.func 33 [] [])) [(.t 8)], none⟩,
 ⟨some 6, .mv (.t 9), none⟩,
 ⟨some 10, .ext (.t 6) 0, none⟩,
 ⟨some 11, .ext (.t 6) 1, none⟩,
 ⟨some 4, .alloc .nilslice, none⟩,
 ⟨none, .st 1 (.t 4) (.t 10), none⟩,
 ⟨some 5, .mv (.t 11), none⟩])
 (.seq (.region [⟨some 12, .mv (.t 0), none⟩,
 ⟨some 13, .ld false 1 (.t 4), none⟩,
 ⟨some 14, .call (.c (.func 13 [] [])) [(.t 12), (.t 13)], none⟩])
 (.seq (.region [⟨some 15, .mv (.t 0), none⟩,
 ⟨some 16, .mv (.t 5), none⟩,
 ⟨some 17, .call (.c (.func 9 [] [])) [(.t 15), (.t 16)], none⟩])
 (.seq (.region [⟨some 18, .mkfn 34 [] [(.t 4)], none⟩,
 ⟨some 3, .mv (.t 18), none⟩])
 .ret))))), [.tmp 3]⟩
theorem c32 : compFun Try.prog Try.f32 = some ir32 := by kernel_rfl
def ir33 : IFun := ⟨70, (.seq (.region [⟨some 1, .box (.t 0), none⟩,
 ⟨some 2, .mv (.c .nilslice), none⟩,
 ⟨some 3, .mv (.c (.int .i64 0)), none⟩])
 (.seq (.region [⟨some 10, .ld true 5 (.t 1), none⟩,
 ⟨some 11, .call (.c (.func 55 [] [])) [(.t 10)], none⟩,
 ⟨some 9, .mv (.t 11), none⟩,
 ⟨some 12, .ext (.t 9) 0, none⟩,
 ⟨some 13, .ext (.t 9) 1, none⟩,
 ⟨some 4, .mv (.t 12), none⟩,
 ⟨some 3, .mv (.t 13), none⟩])
 (.seq (.seq (.region [⟨some 14, .mv (.t 3), none⟩,
 ⟨some 15, .bin .neq (.t 14) (.c (.int .i64 0)), none⟩])
 (.cond (.t 15)
 (.seq (.region [⟨some 16, .mv (.t 3), none⟩,
 ⟨some 2, .mv (.c .nilslice), none⟩,
 ⟨some 3, .mv (.t 16), none⟩])
 .ret)
 .skip))
 (.seq (.region [⟨some 5, .mv (.c (.bool false)), none⟩])
 (.seq (.seq (.region [⟨some 17, .fa (.t 1) 4, none⟩,
 ⟨some 18, .ld false 1 (.t 17), none⟩,
 ⟨some 19, .len false (.t 18), none⟩,
 ⟨some 20, .bin .shl (.c (.int .i64 1)) (.t 19), none⟩,
 ⟨some 21, .mv (.c (.int .i64 0)), none⟩])
 (.block 0
 (.loop
 (.seq (.region [⟨some 22, .bin .lss (.t 21) (.t 20), none⟩])
 (.seq (.cond (.t 22)
 .skip
 (.exit 0))
 (.seq (.block 1
 (.seq (.region [⟨some 23, .mv (.t 21), none⟩,
 ⟨some 6, .mv (.t 23), none⟩])
 (.seq (.region [⟨some 7, .mv (.c .nilslice), none⟩])
 (.seq (.seq (.region [⟨some 24, .fa (.t 1) 4, none⟩,
 ⟨some 25, .ld false 1 (.t 24), none⟩,
 ⟨some 26, .len false (.t 25), none⟩,
 ⟨some 27, .mv (.c (.int .i64 0)), none⟩])
 (.block 2
 (.loop
 (.seq (.region [⟨some 28, .bin .lss (.t 27) (.t 26), none⟩])
 (.seq (.cond (.t 28)
 .skip
 (.exit 2))
 (.seq (.block 3
 (.seq (.region [⟨some 29, .mv (.t 27), none⟩,
 ⟨some 8, .mv (.t 29), none⟩])
 (.seq (.region [⟨some 30, .mv (.t 6), none⟩,
 ⟨some 31, .mv (.t 8), none⟩,
 ⟨some 32, .bin .shr (.t 30) (.t 31), none⟩,
 ⟨some 33, .bin .and (.t 32) (.c (.int .i64 1)), none⟩,
 ⟨some 34, .bin .eql (.t 33) (.c (.int .i64 1)), none⟩])
 (.cond (.t 34)
 (.region [⟨some 35, .mv (.t 7), none⟩,
 ⟨some 36, .mv (.t 8), none⟩,
 ⟨some 37, .bldS 1 1 [(.int .i64 0)] [(0, 1, (.t 36))], none⟩,
 ⟨some 38, .app 1 8 (.t 35) (.t 37), none⟩,
 ⟨some 7, .mv (.t 38), none⟩])
 .skip))))
 (.region [⟨some 39, .bin .add (.t 27) (.c (.int .i64 1)), none⟩,
 ⟨some 27, .mv (.t 39), none⟩])))))))
 (.seq (.seq (.region [⟨some 40, .mv (.t 5), none⟩,
 ⟨some 41, .mv (.t 40), none⟩,
 ⟨(some 42), (.mv (.t 6)), (some (41, true))⟩,
 ⟨(some 43), (.conv .u64 (.t 42)), (some (41, true))⟩,
 ⟨(some 44), (.call (.c (.func 60 [] [])) [(.t 43)]), (some (41, true))⟩,
 ⟨(some 45), (.mv (.t 2)), (some (41, true))⟩,
 ⟨(some 46), (.len false (.t 45)), (some (41, true))⟩,
 ⟨(some 47), (.bin .gtr (.t 44) (.t 46)), (some (41, true))⟩,
 ⟨(some 48), (.mv (.t 47)), (some (41, true))⟩,
 ⟨(some 49), (.mv (.t 7)), (some (48, false))⟩,
 ⟨(some 50), (.len false (.t 49)), (some (48, false))⟩,
 ⟨(some 51), (.mv (.t 2)), (some (48, false))⟩,
 ⟨(some 52), (.len false (.t 51)), (some (48, false))⟩,
 ⟨(some 53), (.bin .eql (.t 50) (.t 52)), (some (48, false))⟩,
 ⟨(some 54), (.mv (.t 53)), (some (48, false))⟩,
 ⟨(some 55), (.mv (.t 7)), (some (54, true))⟩,
 ⟨(some 56), (.mv (.t 2)), (some (54, true))⟩,
 ⟨(some 57), (.call (.c (.func 61 [] [])) [(.t 55), (.t 56)]), (some (54, true))⟩,
 ⟨(some 58), (.bin .gtr (.t 57) (.c (.int .i64 0))), (some (54, true))⟩,
 ⟨(some 59), (.pick (.t 54) (.t 58) (.c (.bool false))), (some (48, false))⟩,
 ⟨(some 60), (.pick (.t 48) (.c (.bool true)) (.t 59)), (some (41, true))⟩,
 ⟨some 61, .pick (.t 41) (.t 60) (.c (.bool false)), none⟩])
 (.cond (.t 61)
 (.exit 1)
 .skip))
 (.seq (.region [⟨some 62, .mv (.t 4), none⟩,
 ⟨some 63, .mv (.t 6), none⟩,
 ⟨some 64, .call (.c (.func 62 [] [])) [(.t 62), (.t 63)], none⟩])
 (.cond (.t 64)
 (.region [⟨some 65, .mv (.t 7), none⟩,
 ⟨some 2, .mv (.t 65), none⟩,
 ⟨some 5, .mv (.c (.bool true)), none⟩])
 .skip)))))))
 (.region [⟨some 66, .bin .add (.t 21) (.c (.int .i64 1)), none⟩,
 ⟨some 21, .mv (.t 66), none⟩])))))))
 (.seq (.seq (.region [⟨some 67, .mv (.t 5), none⟩,
 ⟨some 68, .un .not (.t 67), none⟩])
 (.cond (.t 68)
 (.seq (.region [⟨some 2, .mv (.c .nilslice), none⟩,
 ⟨some 3, .mv (.c (.int .i64 9)), none⟩])
 .ret)
 .skip))
 (.seq (.region [⟨some 69, .mv (.t 2), none⟩,
 ⟨some 2, .mv (.t 69), none⟩,
 ⟨some 3, .mv (.c (.int .i64 0)), none⟩])
 .ret))))))), [.tmp 2, .tmp 3]⟩
theorem c33 : compFun Try.prog Try.f33 = some ir33 := by kernel_rfl
def ir34 : IFun := ⟨2, (.region [⟨some 1, .call (.c (.func 15 [] [])) [(.t 0)], none⟩]), []⟩
theorem c34 : compFun Try.prog Try.f34 = some ir34 := by kernel_rfl
def ir35 : IFun := ⟨18, (.seq (.region [⟨some 3, .mv (.c .nilfunc), none⟩])
 (.seq (.region [⟨some 7, .fa (.t 1) 0, none⟩,
 ⟨some 8, .ld true 5 (.t 7), none⟩,
 ⟨some 9, .call (.c (.func 36 [] [])) [(.t 8)], none⟩,
 ⟨some 6, .mv (.t 9), none⟩,
 ⟨some 10, .ext (.t 6) 0, none⟩,
 ⟨some 11, .ext (.t 6) 1, none⟩,
 ⟨some 4, .mv (.t 10), none⟩,
 ⟨some 5, .mv (.t 11), none⟩])
 (.seq (.region [⟨some 12, .mv (.t 0), none⟩,
 ⟨some 13, .mv (.t 4), none⟩,
 ⟨some 14, .call (.c (.func 8 [] [])) [(.t 12), (.t 13)], none⟩])
 (.seq (.region [⟨some 15, .mv (.t 0), none⟩,
 ⟨some 16, .mv (.t 5), none⟩,
 ⟨some 17, .call (.c (.func 9 [] [])) [(.t 15), (.t 16)], none⟩])
 (.seq (.region [⟨some 3, .mv (.c (.func 10 [] [])), none⟩])
 .ret))))), [.tmp 3]⟩
theorem c35 : compFun Try.prog Try.f35 = some ir35 := by kernel_rfl
def ir36 : IFun := ⟨28, (.seq (.region [⟨some 1, .box (.t 0), none⟩,
 ⟨some 2, .mv (.c (.int .i64 0)), none⟩,
 ⟨some 3, .mv (.c (.int .i64 0)), none⟩])
 (.seq (.region [⟨some 9, .ld true 5 (.t 1), none⟩,
 ⟨some 10, .call (.c (.func 55 [] [])) [(.t 9)], none⟩,
 ⟨some 8, .mv (.t 10), none⟩,
 ⟨some 11, .ext (.t 8) 0, none⟩,
 ⟨some 12, .ext (.t 8) 1, none⟩,
 ⟨some 4, .alloc .nilptr, none⟩,
 ⟨none, .st 1 (.t 4) (.t 11), none⟩,
 ⟨some 5, .mv (.t 12), none⟩])
 (.seq (.seq (.region [⟨some 13, .mv (.t 5), none⟩,
 ⟨some 14, .bin .neq (.t 13) (.c (.int .i64 0)), none⟩])
 (.cond (.t 14)
 (.seq (.region [⟨some 15, .mv (.t 5), none⟩,
 ⟨some 2, .mv (.c (.int .i64 0)), none⟩,
 ⟨some 3, .mv (.t 15), none⟩])
 .ret)
 .skip))
 (.seq (.region [⟨some 6, .alloc (.int .i64 0), none⟩,
 ⟨none, .st 1 (.t 6) (.c (.int .i64 301)), none⟩])
 (.seq (.seq (.region [⟨some 16, .ld false 1 (.t 4), none⟩,
 ⟨some 17, .call (.c (.func 56 [] [])) [(.t 16)], none⟩])
 (.block 0
 (.rangef (.t 17) [18]
 (.region [⟨some 7, .alloc (.agg [(.int .i64 0), (.int .i64 0), (.int .i64 0), (.int .i64 0), (.int .i64 0), (.int .i64 0)]), none⟩,
 ⟨none, .st 6 (.t 7) (.t 18), none⟩])
 (.block 1
 (.draw [⟨⟨some 19, .ld false 1 (.t 6), none⟩, false, [⟨some 19, .ld false 1 (.t 6), none⟩], []⟩,
 ⟨⟨some 20, .ld false 1 (.t 4), none⟩, false, [⟨some 20, .ld false 1 (.t 4), none⟩], []⟩,
 ⟨⟨some 21, .ld true 6 (.t 7), none⟩, false, [⟨some 21, .ld true 6 (.t 7), none⟩], []⟩,
 ⟨⟨some 22, .call (.c (.func 57 [] [])) [(.t 20), (.t 21)], none⟩, true, [⟨some 19, .ld false 1 (.t 6), none⟩], []⟩,
 ⟨⟨some 23, .fld false 2 1 (.t 22), none⟩, false, [], []⟩,
 ⟨⟨some 24, .mn (.t 19) [(.t 23)], none⟩, false, [], []⟩,
 ⟨⟨none, .st 1 (.t 6) (.t 24), none⟩, true, [], []⟩])))))
 (.seq (.seq (.region [⟨some 25, .ld false 1 (.t 6), none⟩,
 ⟨some 26, .bin .gtr (.t 25) (.c (.int .i64 300)), none⟩])
 (.cond (.t 26)
 (.seq (.region [⟨some 2, .mv (.c (.int .i64 0)), none⟩,
 ⟨some 3, .mv (.c (.int .i64 9)), none⟩])
 .ret)
 .skip))
 (.seq (.region [⟨some 27, .ld false 1 (.t 6), none⟩,
 ⟨some 2, .mv (.t 27), none⟩,
 ⟨some 3, .mv (.c (.int .i64 0)), none⟩])
 .ret))))))), [.tmp 2, .tmp 3]⟩
theorem c36 : compFun Try.prog Try.f36 = some ir36 := by kernel_rfl
def ir37 : IFun := ⟨59, (.seq (.region [⟨some 2, .box (.t 0), none⟩,
 ⟨some 3, .box (.t 1), none⟩,
 ⟨some 4, .mv (.c (.bool false)), none⟩])
 (.seq (.seq (.region [⟨some 7, .fa (.t 2) 0, none⟩,
 ⟨some 8, .ld false 1 (.t 7), none⟩,
 ⟨some 9, .len false (.t 8), none⟩,
 ⟨some 10, .fa (.t 3) 0, none⟩,
 ⟨some 11, .ld false 1 (.t 10), none⟩,
 ⟨some 12, .len false (.t 11), none⟩,
 ⟨some 13, .bin .neq (.t 9) (.t 12), none⟩,
 ⟨some 14, .mv (.t 13), none⟩,
 ⟨(some 15), (.fa (.t 2) 1), (some (14, false))⟩,
 ⟨(some 16), (.ld false 1 (.t 15)), (some (14, false))⟩,
 ⟨(some 17), (.len false (.t 16)), (some (14, false))⟩,
 ⟨(some 18), (.fa (.t 3) 1), (some (14, false))⟩,
 ⟨(some 19), (.ld false 1 (.t 18)), (some (14, false))⟩,
 ⟨(some 20), (.len false (.t 19)), (some (14, false))⟩,
 ⟨(some 21), (.bin .neq (.t 17) (.t 20)), (some (14, false))⟩,
 ⟨some 22, .pick (.t 14) (.c (.bool true)) (.t 21), none⟩])
 (.cond (.t 22)
 (.seq (.region [⟨some 4, .mv (.c (.bool false)), none⟩])
 .ret)
 .skip))
 (.seq (.seq (.region [⟨some 5, .mv (.c (.int .i64 0)), none⟩])
 (.block 0
 (.loop
 (.seq (.seq (.region [⟨some 23, .mv (.t 5), none⟩,
 ⟨some 24, .fa (.t 2) 0, none⟩,
 ⟨some 25, .ld false 1 (.t 24), none⟩,
 ⟨some 26, .len false (.t 25), none⟩,
 ⟨some 27, .bin .lss (.t 23) (.t 26), none⟩])
 (.cond (.t 27)
 .skip
 (.exit 0)))
 (.seq (.block 1
 (.seq (.draw [⟨⟨some 30, .fa (.t 2) 0, none⟩, false, [], []⟩,
 ⟨⟨some 31, .ld false 1 (.t 30), none⟩, false, [⟨some 31, .ld false 1 (.t 30), none⟩], []⟩,
 ⟨⟨some 32, .mv (.t 5), none⟩, false, [], []⟩,
 ⟨⟨some 33, .ia 1 (.t 31) (.t 32), none⟩, false, [], []⟩,
 ⟨⟨some 34, .ld false 1 (.t 33), none⟩, false, [⟨some 34, .ld false 1 (.t 33), none⟩], []⟩,
 ⟨⟨some 35, .fa (.t 3) 0, none⟩, false, [], []⟩,
 ⟨⟨some 36, .ld false 1 (.t 35), none⟩, false, [⟨some 36, .ld false 1 (.t 35), none⟩], []⟩,
 ⟨⟨some 37, .mv (.t 5), none⟩, false, [], []⟩,
 ⟨⟨some 38, .ia 1 (.t 36) (.t 37), none⟩, false, [], []⟩,
 ⟨⟨some 39, .ld false 1 (.t 38), none⟩, false, [⟨some 39, .ld false 1 (.t 38), none⟩], []⟩,
 ⟨⟨some 40, .bin .neq (.t 34) (.t 39), none⟩, false, [], []⟩])
 (.cond (.t 40)
 (.seq (.region [⟨some 4, .mv (.c (.bool false)), none⟩])
 .ret)
 .skip)))
 (.region [⟨some 28, .mv (.t 5), none⟩,
 ⟨some 29, .bin .add (.t 28) (.c (.int .i64 1)), none⟩,
 ⟨some 5, .mv (.t 29), none⟩]))))))
 (.seq (.seq (.region [⟨some 6, .mv (.c (.int .i64 0)), none⟩])
 (.block 2
 (.loop
 (.seq (.seq (.region [⟨some 41, .mv (.t 6), none⟩,
 ⟨some 42, .fa (.t 2) 1, none⟩,
 ⟨some 43, .ld false 1 (.t 42), none⟩,
 ⟨some 44, .len false (.t 43), none⟩,
 ⟨some 45, .bin .lss (.t 41) (.t 44), none⟩])
 (.cond (.t 45)
 .skip
 (.exit 2)))
 (.seq (.block 3
 (.seq (.draw [⟨⟨some 48, .fa (.t 2) 1, none⟩, false, [], []⟩,
 ⟨⟨some 49, .ld false 1 (.t 48), none⟩, false, [⟨some 49, .ld false 1 (.t 48), none⟩], []⟩,
 ⟨⟨some 50, .mv (.t 6), none⟩, false, [], []⟩,
 ⟨⟨some 51, .ia 1 (.t 49) (.t 50), none⟩, false, [], []⟩,
 ⟨⟨some 52, .ld false 1 (.t 51), none⟩, false, [⟨some 52, .ld false 1 (.t 51), none⟩], []⟩,
 ⟨⟨some 53, .fa (.t 3) 1, none⟩, false, [], []⟩,
 ⟨⟨some 54, .ld false 1 (.t 53), none⟩, false, [⟨some 54, .ld false 1 (.t 53), none⟩], []⟩,
 ⟨⟨some 55, .mv (.t 6), none⟩, false, [], []⟩,
 ⟨⟨some 56, .ia 1 (.t 54) (.t 55), none⟩, false, [], []⟩,
 ⟨⟨some 57, .ld false 1 (.t 56), none⟩, false, [⟨some 57, .ld false 1 (.t 56), none⟩], []⟩,
 ⟨⟨some 58, .bin .neq (.t 52) (.t 57), none⟩, false, [], []⟩])
 (.cond (.t 58)
 (.seq (.region [⟨some 4, .mv (.c (.bool false)), none⟩])
 .ret)
 .skip)))
 (.region [⟨some 46, .mv (.t 6), none⟩,
 ⟨some 47, .bin .add (.t 46) (.c (.int .i64 1)), none⟩,
 ⟨some 6, .mv (.t 47), none⟩]))))))
 (.seq (.region [⟨some 4, .mv (.c (.bool true)), none⟩])
 .ret))))), [.tmp 4]⟩
theorem c37 : compFun Try.prog Try.f37 = some ir37 := by kernel_rfl
def ir38 : IFun := ⟨190, (.seq (.region [⟨some 0, .mv (.c (.bool false)), none⟩])
 (.seq (.region [⟨some 26, .call (.c (.func 63 [] [])) [], none⟩,
 ⟨some 1, .alloc (.agg [.nilslice, (.int .i64 0), (.int .i64 0), .nilslice, .nilslice]), none⟩,
 ⟨none, .st 5 (.t 1) (.t 26), none⟩])
 (.seq (.draw [⟨⟨some 28, .ld true 5 (.t 1), none⟩, false, [⟨some 28, .ld true 5 (.t 1), none⟩], []⟩,
 ⟨⟨some 29, .call (.c (.func 64 [] [])) [], none⟩, true, [⟨some 28, .ld true 5 (.t 1), none⟩], []⟩,
 ⟨⟨some 30, .call (.c (.func 12 [] [])) [(.t 28), (.t 29), (.c (.int .i64 0))], none⟩, true, [], []⟩,
 ⟨⟨some 27, .mv (.t 30), none⟩, false, [], []⟩,
 ⟨⟨some 31, .ext (.t 27) 0, none⟩, false, [], []⟩,
 ⟨⟨some 32, .ext (.t 27) 1, none⟩, false, [], []⟩,
 ⟨⟨some 2, .mv (.t 31), none⟩, false, [], []⟩,
 ⟨⟨some 3, .mv (.t 32), none⟩, false, [], []⟩])
 (.seq (.draw [⟨⟨some 34, .ld true 5 (.t 1), none⟩, false, [⟨some 34, .ld true 5 (.t 1), none⟩], []⟩,
 ⟨⟨some 35, .call (.c (.func 64 [] [])) [], none⟩, true, [⟨some 34, .ld true 5 (.t 1), none⟩], []⟩,
 ⟨⟨some 36, .call (.c (.func 17 [] [])) [(.t 34), (.t 35), (.c (.int .i64 0))], none⟩, true, [], []⟩,
 ⟨⟨some 33, .mv (.t 36), none⟩, false, [], []⟩,
 ⟨⟨some 37, .ext (.t 33) 0, none⟩, false, [], []⟩,
 ⟨⟨some 38, .ext (.t 33) 1, none⟩, false, [], []⟩,
 ⟨⟨some 4, .mv (.t 37), none⟩, false, [], []⟩,
 ⟨⟨some 5, .mv (.t 38), none⟩, false, [], []⟩])
 (.seq (.draw [⟨⟨some 40, .ld true 5 (.t 1), none⟩, false, [⟨some 40, .ld true 5 (.t 1), none⟩], []⟩,
 ⟨⟨some 41, .call (.c (.func 64 [] [])) [], none⟩, true, [⟨some 40, .ld true 5 (.t 1), none⟩], []⟩,
 ⟨⟨some 42, .call (.c (.func 22 [] [])) [(.t 40), (.t 41), (.c (.int .i64 0))], none⟩, true, [], []⟩,
 ⟨⟨some 39, .mv (.t 42), none⟩, false, [], []⟩,
 ⟨⟨some 43, .ext (.t 39) 0, none⟩, false, [], []⟩,
 ⟨⟨some 44, .ext (.t 39) 1, none⟩, false, [], []⟩,
 ⟨⟨some 6, .mv (.t 43), none⟩, false, [], []⟩,
 ⟨⟨some 7, .mv (.t 44), none⟩, false, [], []⟩])
 (.seq (.draw [⟨⟨some 46, .ld true 5 (.t 1), none⟩, false, [⟨some 46, .ld true 5 (.t 1), none⟩], []⟩,
 ⟨⟨some 47, .call (.c (.func 64 [] [])) [], none⟩, true, [⟨some 46, .ld true 5 (.t 1), none⟩], []⟩,
 ⟨⟨some 48, .call (.c (.func 22 [] [])) [(.t 46), (.t 47), (.c (.int .i64 3))], none⟩, true, [], []⟩,
 ⟨⟨some 45, .mv (.t 48), none⟩, false, [], []⟩,
 ⟨⟨some 49, .ext (.t 45) 0, none⟩, false, [], []⟩,
 ⟨⟨some 50, .ext (.t 45) 1, none⟩, false, [], []⟩,
 ⟨⟨some 8, .mv (.t 49), none⟩, false, [], []⟩,
 ⟨⟨some 9, .mv (.t 50), none⟩, false, [], []⟩])
 (.seq (.draw [⟨⟨some 52, .ld true 5 (.t 1), none⟩, false, [⟨some 52, .ld true 5 (.t 1), none⟩], []⟩,
 ⟨⟨some 53, .call (.c (.func 64 [] [])) [], none⟩, true, [⟨some 52, .ld true 5 (.t 1), none⟩], []⟩,
 ⟨⟨some 54, .call (.c (.func 24 [] [])) [(.t 52), (.t 53), (.c (.int .i64 0)), (.c (.int .i64 1)), (.c (.int .i64 222))], none⟩, true, [], []⟩,
 ⟨⟨some 51, .mv (.t 54), none⟩, false, [], []⟩,
 ⟨⟨some 55, .ext (.t 51) 0, none⟩, false, [], []⟩,
 ⟨⟨some 56, .ext (.t 51) 1, none⟩, false, [], []⟩,
 ⟨⟨some 10, .mv (.t 55), none⟩, false, [], []⟩,
 ⟨⟨some 11, .mv (.t 56), none⟩, false, [], []⟩])
 (.seq (.region [⟨some 58, .ld true 5 (.t 1), none⟩,
 ⟨some 59, .call (.c (.func 27 [] [])) [(.t 58)], none⟩,
 ⟨some 57, .mv (.t 59), none⟩,
 ⟨some 60, .ext (.t 57) 0, none⟩,
 ⟨some 61, .ext (.t 57) 1, none⟩,
 ⟨some 62, .ext (.t 57) 2, none⟩,
 ⟨some 63, .ext (.t 57) 3, none⟩,
 ⟨some 12, .mv (.t 60), none⟩,
 ⟨some 13, .mv (.t 61), none⟩,
 ⟨some 14, .mv (.t 62), none⟩,
 ⟨some 15, .mv (.t 63), none⟩])
 (.seq (.region [⟨some 65, .ld true 5 (.t 1), none⟩,
 ⟨some 66, .call (.c (.func 30 [] [])) [(.t 65)], none⟩,
 ⟨some 64, .mv (.t 66), none⟩,
 ⟨some 67, .ext (.t 64) 0, none⟩,
 ⟨some 68, .ext (.t 64) 1, none⟩,
 ⟨some 16, .mv (.t 67), none⟩,
 ⟨some 17, .mv (.t 68), none⟩])
 (.seq (.region [⟨some 70, .call (.c (.func 65 [] [])) [], none⟩,
 ⟨some 71, .call (.c (.func 33 [] [])) [(.t 70)], none⟩,
 ⟨some 69, .mv (.t 71), none⟩,
 ⟨some 72, .ext (.t 69) 0, none⟩,
 ⟨some 73, .ext (.t 69) 1, none⟩,
 ⟨some 18, .mv (.t 72), none⟩,
 ⟨some 19, .mv (.t 73), none⟩])
 (.seq (.region [⟨some 75, .ld true 5 (.t 1), none⟩,
 ⟨some 76, .call (.c (.func 33 [] [])) [(.t 75)], none⟩,
 ⟨some 74, .mv (.t 76), none⟩,
 ⟨some 77, .ext (.t 74) 0, none⟩,
 ⟨some 78, .ext (.t 74) 1, none⟩,
 ⟨some 20, .mv (.t 77), none⟩,
 ⟨some 21, .mv (.t 78), none⟩])
 (.seq (.region [⟨some 80, .ld true 5 (.t 1), none⟩,
 ⟨some 81, .call (.c (.func 36 [] [])) [(.t 80)], none⟩,
 ⟨some 79, .mv (.t 81), none⟩,
 ⟨some 82, .ext (.t 79) 0, none⟩,
 ⟨some 83, .ext (.t 79) 1, none⟩,
 ⟨some 22, .mv (.t 82), none⟩,
 ⟨some 23, .mv (.t 83), none⟩])
 (.seq (.region [⟨some 85, .ld true 5 (.t 1), none⟩,
 ⟨some 86, .mv (.t 12), none⟩,
 ⟨some 87, .call (.c (.func 22 [] [])) [(.t 85), (.t 86), (.c (.int .i64 0))], none⟩,
 ⟨some 84, .mv (.t 87), none⟩,
 ⟨some 88, .ext (.t 84) 0, none⟩,
 ⟨some 89, .ext (.t 84) 1, none⟩,
 ⟨some 24, .mv (.t 88), none⟩,
 ⟨some 25, .mv (.t 89), none⟩])
 (.seq (.region [⟨some 90, .mv (.t 3), none⟩,
 ⟨some 91, .bin .eql (.t 90) (.c (.int .i64 0)), none⟩,
 ⟨some 92, .mv (.t 91), none⟩,
 ⟨(some 93), (.mv (.t 5)), (some (92, true))⟩,
 ⟨(some 94), (.bin .eql (.t 93) (.c (.int .i64 0))), (some (92, true))⟩,
 ⟨some 95, .pick (.t 92) (.t 94) (.c (.bool false)), none⟩,
 ⟨some 96, .mv (.t 95), none⟩,
 ⟨(some 97), (.mv (.t 7)), (some (96, true))⟩,
 ⟨(some 98), (.bin .eql (.t 97) (.c (.int .i64 0))), (some (96, true))⟩,
 ⟨some 99, .pick (.t 96) (.t 98) (.c (.bool false)), none⟩,
 ⟨some 100, .mv (.t 99), none⟩,
 ⟨(some 101), (.mv (.t 9)), (some (100, true))⟩,
 ⟨(some 102), (.bin .eql (.t 101) (.c (.int .i64 0))), (some (100, true))⟩,
 ⟨some 103, .pick (.t 100) (.t 102) (.c (.bool false)), none⟩,
 ⟨some 104, .mv (.t 103), none⟩,
 ⟨(some 105), (.mv (.t 11)), (some (104, true))⟩,
 ⟨(some 106), (.bin .eql (.t 105) (.c (.int .i64 0))), (some (104, true))⟩,
 ⟨some 107, .pick (.t 104) (.t 106) (.c (.bool false)), none⟩,
 ⟨some 108, .mv (.t 107), none⟩,
 ⟨(some 109), (.mv (.t 15)), (some (108, true))⟩,
 ⟨(some 110), (.bin .eql (.t 109) (.c (.int .i64 0))), (some (108, true))⟩,
 ⟨some 111, .pick (.t 108) (.t 110) (.c (.bool false)), none⟩,
 ⟨some 112, .mv (.t 111), none⟩,
 ⟨(some 113), (.mv (.t 17)), (some (112, true))⟩,
 ⟨(some 114), (.bin .eql (.t 113) (.c (.int .i64 0))), (some (112, true))⟩,
 ⟨some 115, .pick (.t 112) (.t 114) (.c (.bool false)), none⟩,
 ⟨some 116, .mv (.t 115), none⟩,
 ⟨(some 117), (.mv (.t 19)), (some (116, true))⟩,
 ⟨(some 118), (.bin .eql (.t 117) (.c (.int .i64 0))), (some (116, true))⟩,
 ⟨some 119, .pick (.t 116) (.t 118) (.c (.bool false)), none⟩,
 ⟨some 120, .mv (.t 119), none⟩,
 ⟨(some 121), (.mv (.t 21)), (some (120, true))⟩,
 ⟨(some 122), (.bin .eql (.t 121) (.c (.int .i64 9))), (some (120, true))⟩,
 ⟨some 123, .pick (.t 120) (.t 122) (.c (.bool false)), none⟩,
 ⟨some 124, .mv (.t 123), none⟩,
 ⟨(some 125), (.mv (.t 23)), (some (124, true))⟩,
 ⟨(some 126), (.bin .eql (.t 125) (.c (.int .i64 0))), (some (124, true))⟩,
 ⟨some 127, .pick (.t 124) (.t 126) (.c (.bool false)), none⟩,
 ⟨some 128, .mv (.t 127), none⟩,
 ⟨(some 129), (.mv (.t 2)), (some (128, true))⟩,
 ⟨(some 130), (.bldS 1 2 [(.int .i64 0)] [(0, 1, (.c (.int .i64 2))), (1, 1, (.c (.int .i64 0)))]), (some (128, true))⟩,
 ⟨(some 131), (.call (.c (.func 66 [] [])) [(.t 129), (.t 130)]), (some (128, true))⟩,
 ⟨some 132, .pick (.t 128) (.t 131) (.c (.bool false)), none⟩,
 ⟨some 133, .mv (.t 132), none⟩,
 ⟨(some 134), (.mv (.t 4)), (some (133, true))⟩,
 ⟨(some 135), (.call (.c (.func 68 [] [])) [(.c (.int .i64 160)), (.c (.int .i64 180))]), (some (133, true))⟩,
 ⟨(some 136), (.call (.c (.func 68 [] [])) [(.c (.int .i64 210)), (.c (.int .i64 250))]), (some (133, true))⟩,
 ⟨(some 137), (.bldS 2 2 [(.int .i64 0), (.int .i64 0)] [(0, 2, (.t 135)), (2, 2, (.t 136))]), (some (133, true))⟩,
 ⟨(some 138), (.call (.c (.func 67 [] [])) [(.t 134), (.t 137)]), (some (133, true))⟩,
 ⟨some 139, .pick (.t 133) (.t 138) (.c (.bool false)), none⟩,
 ⟨some 140, .mv (.t 139), none⟩,
 ⟨(some 141), (.mv (.t 6)), (some (140, true))⟩,
 ⟨(some 142), (.bin .eql (.t 141) (.c (.int .i64 1))), (some (140, true))⟩,
 ⟨some 143, .pick (.t 140) (.t 142) (.c (.bool false)), none⟩,
 ⟨some 144, .mv (.t 143), none⟩,
 ⟨(some 145), (.mv (.t 8)), (some (144, true))⟩,
 ⟨(some 146), (.bin .eql (.t 145) (.c (.int .i64 0))), (some (144, true))⟩,
 ⟨some 147, .pick (.t 144) (.t 146) (.c (.bool false)), none⟩,
 ⟨some 148, .mv (.t 147), none⟩,
 ⟨(some 149), (.mv (.t 10)), (some (148, true))⟩,
 ⟨(some 150), (.call (.c (.func 68 [] [])) [(.c (.int .i64 160)), (.c (.int .i64 172))]), (some (148, true))⟩,
 ⟨(some 151), (.call (.c (.func 68 [] [])) [(.c (.int .i64 222)), (.c (.int .i64 222))]), (some (148, true))⟩,
 ⟨(some 152), (.bldS 2 2 [(.int .i64 0), (.int .i64 0)] [(0, 2, (.t 150)), (2, 2, (.t 151))]), (some (148, true))⟩,
 ⟨(some 153), (.call (.c (.func 67 [] [])) [(.t 149), (.t 152)]), (some (148, true))⟩,
 ⟨some 154, .pick (.t 148) (.t 153) (.c (.bool false)), none⟩,
 ⟨some 155, .mv (.t 154), none⟩,
 ⟨(some 156), (.mv (.t 12)), (some (155, true))⟩,
 ⟨(some 157), (.bldS 1 4 [(.int .i64 0)] [(0, 1, (.c (.int .i64 (-1)))), (1, 1, (.c (.int .i64 0))), (2, 1, (.c (.int .i64 1))), (3, 1, (.c (.int .i64 0)))]), (some (155, true))⟩,
 ⟨(some 158), (.call (.c (.func 66 [] [])) [(.t 156), (.t 157)]), (some (155, true))⟩,
 ⟨some 159, .pick (.t 155) (.t 158) (.c (.bool false)), none⟩,
 ⟨some 160, .mv (.t 159), none⟩,
 ⟨(some 161), (.mv (.t 13)), (some (160, true))⟩,
 ⟨(some 162), (.bin .eql (.t 161) (.c (.int .i64 3))), (some (160, true))⟩,
 ⟨some 163, .pick (.t 160) (.t 162) (.c (.bool false)), none⟩,
 ⟨some 164, .mv (.t 163), none⟩,
 ⟨(some 165), (.mv (.t 14)), (some (164, true))⟩,
 ⟨(some 166), (.bin .eql (.t 165) (.c (.int .i64 0))), (some (164, true))⟩,
 ⟨some 167, .pick (.t 164) (.t 166) (.c (.bool false)), none⟩,
 ⟨some 168, .mv (.t 167), none⟩,
 ⟨(some 169), (.mv (.t 16)), (some (168, true))⟩,
 ⟨(some 170), (.len false (.t 169)), (some (168, true))⟩,
 ⟨(some 171), (.bin .eql (.t 170) (.c (.int .i64 0))), (some (168, true))⟩,
 ⟨some 172, .pick (.t 168) (.t 171) (.c (.bool false)), none⟩,
 ⟨some 173, .mv (.t 172), none⟩,
 ⟨(some 174), (.mv (.t 18)), (some (173, true))⟩,
 ⟨(some 175), (.bldS 1 1 [(.int .i64 0)] [(0, 1, (.c (.int .i64 0)))]), (some (173, true))⟩,
 ⟨(some 176), (.call (.c (.func 66 [] [])) [(.t 174), (.t 175)]), (some (173, true))⟩,
 ⟨some 177, .pick (.t 173) (.t 176) (.c (.bool false)), none⟩,
 ⟨some 178, .mv (.t 177), none⟩,
 ⟨(some 179), (.mv (.t 22)), (some (178, true))⟩,
 ⟨(some 180), (.bin .eql (.t 179) (.c (.int .i64 10))), (some (178, true))⟩,
 ⟨some 181, .pick (.t 178) (.t 180) (.c (.bool false)), none⟩,
 ⟨some 182, .mv (.t 181), none⟩,
 ⟨(some 183), (.mv (.t 25)), (some (182, true))⟩,
 ⟨(some 184), (.bin .eql (.t 183) (.c (.int .i64 0))), (some (182, true))⟩,
 ⟨some 185, .pick (.t 182) (.t 184) (.c (.bool false)), none⟩,
 ⟨some 186, .mv (.t 185), none⟩,
 ⟨(some 187), (.mv (.t 24)), (some (186, true))⟩,
 ⟨(some 188), (.bin .eql (.t 187) (.c (.int .i64 2))), (some (186, true))⟩,
 ⟨some 189, .pick (.t 186) (.t 188) (.c (.bool false)), none⟩,
 ⟨some 0, .mv (.t 189), none⟩])
 .ret)))))))))))))), [.tmp 0]⟩
theorem c38 : compFun Try.prog Try.f38 = some ir38 := by kernel_rfl
def ir39 : IFun := ⟨24, (.seq (.region [⟨some 3, .box (.t 1), none⟩])
 (.seq (.region [⟨some 4, .mv (.t 0), none⟩,
 ⟨some 5, .fa (.t 3) 0, none⟩,
 ⟨some 6, .ld false 1 (.t 5), none⟩,
 ⟨some 7, .call (.c (.func 69 [] [])) [(.t 4), (.t 6)], none⟩])
 (.seq (.region [⟨some 8, .mv (.t 0), none⟩,
 ⟨some 9, .fa (.t 3) 1, none⟩,
 ⟨some 10, .ld false 1 (.t 9), none⟩,
 ⟨some 11, .call (.c (.func 8 [] [])) [(.t 8), (.t 10)], none⟩])
 (.seq (.region [⟨some 12, .mv (.t 0), none⟩,
 ⟨some 13, .fa (.t 3) 2, none⟩,
 ⟨some 14, .ld false 1 (.t 13), none⟩,
 ⟨some 15, .call (.c (.func 8 [] [])) [(.t 12), (.t 14)], none⟩])
 (.seq (.region [⟨some 16, .mv (.t 0), none⟩,
 ⟨some 17, .fa (.t 3) 3, none⟩,
 ⟨some 18, .ld false 1 (.t 17), none⟩,
 ⟨some 19, .call (.c (.func 70 [] [])) [(.t 16), (.t 18)], none⟩])
 (.region [⟨some 20, .mv (.t 0), none⟩,
 ⟨some 21, .fa (.t 3) 4, none⟩,
 ⟨some 22, .ld false 1 (.t 21), none⟩,
 ⟨some 23, .call (.c (.func 71 [] [])) [(.t 20), (.t 22)], none⟩])))))), []⟩
theorem c39 : compFun Try.prog Try.f39 = some ir39 := by kernel_rfl
def ir40 : IFun := ⟨10, (.seq (.region [⟨some 3, .box (.t 0), none⟩,
 ⟨some 4, .box (.t 1), none⟩,
 ⟨some 6, .mv (.c (.bool false)), none⟩])
 (.seq (.region [⟨some 7, .mv (.t 2), none⟩,
 ⟨some 8, .mkfn 73 [] [(.t 3), (.t 4)], none⟩,
 ⟨some 9, .call (.c (.func 72 [] [])) [(.t 7), (.t 8)], none⟩,
 ⟨some 6, .mv (.t 9), none⟩])
 .ret)), [.tmp 6]⟩
theorem c40 : compFun Try.prog Try.f40 = some ir40 := by kernel_rfl
def ir41 : IFun := ⟨70, (.seq (.region [⟨some 4, .mv (.c (.int .i64 0)), none⟩])
 (.seq (.region [⟨some 9, .mv (.t 0), none⟩,
 ⟨some 10, .nilck (.t 9), none⟩,
 ⟨some 11, .fa (.t 10) 0, none⟩,
 ⟨some 12, .fa (.t 11) 0, none⟩,
 ⟨some 13, .ld false 1 (.t 12), none⟩,
 ⟨some 14, .mv (.t 1), none⟩,
 ⟨some 15, .ia 4 (.t 13) (.t 14), none⟩,
 ⟨some 16, .ld true 4 (.t 15), none⟩,
 ⟨some 5, .alloc (.agg [(.str []), (.int .i64 0), (.int .i64 0), .nilslice]), none⟩,
 ⟨none, .st 4 (.t 5) (.t 16), none⟩])
 (.seq (.region [⟨some 17, .mv (.t 0), none⟩,
 ⟨some 18, .nilck (.t 17), none⟩,
 ⟨some 19, .fa (.t 18) 0, none⟩,
 ⟨some 20, .fa (.t 19) 0, none⟩,
 ⟨some 21, .ld false 1 (.t 20), none⟩,
 ⟨some 22, .mv (.t 1), none⟩,
 ⟨some 23, .call (.c (.func 74 [] [])) [(.t 21), (.t 22), (.c (.func 75 [] []))], none⟩,
 ⟨some 6, .mv (.t 23), none⟩])
 (.seq (.block 0
 (.seq (.region [⟨some 25, .mv (.t 6), none⟩,
 ⟨some 26, .bin .neq (.t 25) (.c (.int .i64 0)), none⟩,
 ⟨some 24, .mv (.t 26), none⟩])
 (.cond (.t 24)
 (.seq (.region [⟨some 27, .mv (.t 6), none⟩,
 ⟨some 4, .mv (.t 27), none⟩])
 .ret)
 (.seq (.region [⟨some 29, .fa (.t 5) 1, none⟩,
 ⟨some 30, .ld false 1 (.t 29), none⟩,
 ⟨some 31, .bldS 1 1 [(.int .i64 0)] [(0, 1, (.t 30))], none⟩,
 ⟨some 32, .call (.c (.func 40 [] [])) [(.c (.int .i64 0)), (.c (.int .i64 20)), (.t 31)], none⟩,
 ⟨some 33, .mv (.t 32), none⟩,
 ⟨(some 34), (.fa (.t 5) 2), (some (33, false))⟩,
 ⟨(some 35), (.ld false 1 (.t 34)), (some (33, false))⟩,
 ⟨(some 36), (.bldS 1 1 [(.int .i64 0)] [(0, 1, (.t 35))]), (some (33, false))⟩,
 ⟨(some 37), (.call (.c (.func 40 [] [])) [(.c (.int .i64 0)), (.c (.int .i64 5000)), (.t 36)]), (some (33, false))⟩,
 ⟨some 38, .pick (.t 33) (.c (.bool true)) (.t 37), none⟩,
 ⟨some 28, .mv (.t 38), none⟩])
 (.cond (.t 28)
 (.seq (.region [⟨some 4, .mv (.c (.int .i64 7)), none⟩])
 .ret)
 (.seq (.draw [⟨⟨some 40, .fa (.t 5) 3, none⟩, false, [], []⟩,
 ⟨⟨some 41, .ld false 1 (.t 40), none⟩, false, [⟨some 41, .ld false 1 (.t 40), none⟩], []⟩,
 ⟨⟨some 42, .len false (.t 41), none⟩, false, [], []⟩,
 ⟨⟨some 43, .mv (.t 0), none⟩, false, [], []⟩,
 ⟨⟨some 44, .nilck (.t 43), none⟩, false, [], []⟩,
 ⟨⟨some 45, .fa (.t 44) 0, none⟩, false, [], []⟩,
 ⟨⟨some 46, .fa (.t 45) 1, none⟩, false, [], []⟩,
 ⟨⟨some 47, .ld false 1 (.t 46), none⟩, false, [⟨some 47, .ld false 1 (.t 46), none⟩], []⟩,
 ⟨⟨some 48, .bin .neq (.t 42) (.t 47), none⟩, false, [], []⟩,
 ⟨⟨some 39, .mv (.t 48), none⟩, false, [], []⟩])
 (.cond (.t 39)
 (.seq (.region [⟨some 4, .mv (.c (.int .i64 3)), none⟩])
 .ret)
 .skip)))))))
 (.seq (.seq (.region [⟨some 49, .fa (.t 5) 3, none⟩,
 ⟨some 50, .ld false 1 (.t 49), none⟩,
 ⟨some 51, .len false (.t 50), none⟩,
 ⟨some 52, .mv (.c (.int .i64 0)), none⟩])
 (.block 1
 (.loop
 (.seq (.region [⟨some 53, .bin .lss (.t 52) (.t 51), none⟩])
 (.seq (.cond (.t 53)
 .skip
 (.exit 1))
 (.seq (.block 2
 (.seq (.region [⟨some 54, .ia 2 (.t 50) (.t 52), none⟩,
 ⟨some 55, .ld true 2 (.t 54), none⟩,
 ⟨some 8, .alloc (.agg [(.int .i64 0), (.int .i64 0)]), none⟩,
 ⟨none, .st 2 (.t 8) (.t 55), none⟩])
 (.block 3
 (.seq (.region [⟨some 57, .fa (.t 8) 0, none⟩,
 ⟨some 58, .ld false 1 (.t 57), none⟩,
 ⟨some 59, .fa (.t 8) 1, none⟩,
 ⟨some 60, .ld false 1 (.t 59), none⟩,
 ⟨some 61, .bldS 1 2 [(.int .i64 0)] [(0, 1, (.t 58)), (1, 1, (.t 60))], none⟩,
 ⟨some 62, .call (.c (.func 40 [] [])) [(.c (.int .i64 0)), (.c (.int .i64 600)), (.t 61)], none⟩,
 ⟨some 56, .mv (.t 62), none⟩])
 (.cond (.t 56)
 (.seq (.region [⟨some 4, .mv (.c (.int .i64 7)), none⟩])
 .ret)
 (.seq (.region [⟨some 64, .fa (.t 8) 0, none⟩,
 ⟨some 65, .ld false 1 (.t 64), none⟩,
 ⟨some 66, .fa (.t 8) 1, none⟩,
 ⟨some 67, .ld false 1 (.t 66), none⟩,
 ⟨some 68, .bin .gtr (.t 65) (.t 67), none⟩,
 ⟨some 63, .mv (.t 68), none⟩])
 (.cond (.t 63)
 (.seq (.region [⟨some 4, .mv (.c (.int .i64 2)), none⟩])
 .ret)
 .skip)))))))
 (.region [⟨some 69, .bin .add (.t 52) (.c (.int .i64 1)), none⟩,
 ⟨some 52, .mv (.t 69), none⟩])))))))
 (.seq (.region [⟨some 4, .mv (.c (.int .i64 0)), none⟩])
 .ret)))))), [.tmp 4]⟩
theorem c41 : compFun Try.prog Try.f41 = some ir41 := by kernel_rfl
def ir42 : IFun := ⟨49, (.seq (.region [⟨some 4, .mv (.c (.int .i64 0)), none⟩])
 (.seq (.region [⟨some 7, .mv (.t 0), none⟩,
 ⟨some 8, .nilck (.t 7), none⟩,
 ⟨some 9, .fa (.t 8) 0, none⟩,
 ⟨some 10, .fa (.t 9) 3, none⟩,
 ⟨some 11, .ld false 1 (.t 10), none⟩,
 ⟨some 12, .mv (.t 1), none⟩,
 ⟨some 13, .ia 4 (.t 11) (.t 12), none⟩,
 ⟨some 14, .ld true 4 (.t 13), none⟩,
 ⟨some 5, .alloc (.agg [(.str []), (.int .i64 0), (.int .i64 0), (.int .i64 0)]), none⟩,
 ⟨none, .st 4 (.t 5) (.t 14), none⟩])
 (.seq (.region [⟨some 15, .mv (.t 0), none⟩,
 ⟨some 16, .nilck (.t 15), none⟩,
 ⟨some 17, .fa (.t 16) 0, none⟩,
 ⟨some 18, .fa (.t 17) 3, none⟩,
 ⟨some 19, .ld false 1 (.t 18), none⟩,
 ⟨some 20, .mv (.t 1), none⟩,
 ⟨some 21, .call (.c (.func 76 [] [])) [(.t 19), (.t 20), (.c (.func 77 [] []))], none⟩,
 ⟨some 6, .mv (.t 21), none⟩])
 (.seq (.seq (.draw [⟨⟨some 22, .mv (.t 6), none⟩, false, [], []⟩,
 ⟨⟨some 23, .bin .eql (.t 22) (.c (.int .i64 0)), none⟩, false, [], []⟩,
 ⟨⟨some 24, .mv (.t 23), none⟩, false, [], []⟩,
 ⟨⟨(some 25), (.fa (.t 5) 1), (some (24, true))⟩, false, [], []⟩,
 ⟨⟨(some 26), (.ld false 1 (.t 25)), (some (24, true))⟩, false, [⟨(some 26), (.ld false 1 (.t 25)), (some (24, true))⟩], []⟩,
 ⟨⟨(some 27), (.bldS 1 1 [(.int .i64 0)] [(0, 1, (.t 26))]), (some (24, true))⟩, false, [], []⟩,
 ⟨⟨(some 28), (.call (.c (.func 40 [] [])) [(.c (.int .i64 1)), (.c (.int .i64 9)), (.t 27)]), (some (24, true))⟩, true, [], []⟩,
 ⟨⟨(some 29), (.mv (.t 28)), (some (24, true))⟩, false, [], []⟩,
 ⟨⟨(some 30), (.mv (.t 0)), (some (29, false))⟩, false, [], []⟩,
 ⟨⟨(some 31), (.nilck (.t 30)), (some (29, false))⟩, false, [], []⟩,
 ⟨⟨(some 32), (.fa (.t 31) 0), (some (29, false))⟩, false, [], []⟩,
 ⟨⟨(some 33), (.fa (.t 32) 1), (some (29, false))⟩, false, [], []⟩,
 ⟨⟨(some 34), (.ld false 1 (.t 33)), (some (29, false))⟩, false, [⟨(some 34), (.ld false 1 (.t 33)), (some (29, false))⟩], []⟩,
 ⟨⟨(some 35), (.bin .sub (.t 34) (.c (.int .i64 1))), (some (29, false))⟩, false, [], []⟩,
 ⟨⟨(some 36), (.fa (.t 5) 2), (some (29, false))⟩, false, [], []⟩,
 ⟨⟨(some 37), (.ld false 1 (.t 36)), (some (29, false))⟩, false, [⟨(some 37), (.ld false 1 (.t 36)), (some (29, false))⟩], []⟩,
 ⟨⟨(some 38), (.bldS 1 1 [(.int .i64 0)] [(0, 1, (.t 37))]), (some (29, false))⟩, false, [], []⟩,
 ⟨⟨(some 39), (.call (.c (.func 40 [] [])) [(.c (.int .i64 0)), (.t 35), (.t 38)]), (some (29, false))⟩, true, [], []⟩,
 ⟨⟨(some 40), (.pick (.t 29) (.c (.bool true)) (.t 39)), (some (24, true))⟩, false, [], []⟩,
 ⟨⟨(some 41), (.mv (.t 40)), (some (24, true))⟩, false, [], []⟩,
 ⟨⟨(some 42), (.fa (.t 5) 3), (some (41, false))⟩, false, [], []⟩,
 ⟨⟨(some 43), (.ld false 1 (.t 42)), (some (41, false))⟩, false, [⟨(some 43), (.ld false 1 (.t 42)), (some (41, false))⟩], []⟩,
 ⟨⟨(some 44), (.bldS 1 1 [(.int .i64 0)] [(0, 1, (.t 43))]), (some (41, false))⟩, false, [], []⟩,
 ⟨⟨(some 45), (.call (.c (.func 40 [] [])) [(.c (.int .i64 0)), (.c (.int .i64 5000)), (.t 44)]), (some (41, false))⟩, true, [], []⟩,
 ⟨⟨(some 46), (.pick (.t 41) (.c (.bool true)) (.t 45)), (some (24, true))⟩, false, [], []⟩,
 ⟨⟨some 47, .pick (.t 24) (.t 46) (.c (.bool false)), none⟩, false, [], []⟩])
 (.cond (.t 47)
 (.seq (.region [⟨some 4, .mv (.c (.int .i64 7)), none⟩])
 .ret)
 .skip))
 (.seq (.region [⟨some 48, .mv (.t 6), none⟩,
 ⟨some 4, .mv (.t 48), none⟩])
 .ret))))), [.tmp 4]⟩
theorem c42 : compFun Try.prog Try.f42 = some ir42 := by kernel_rfl
def ir43 : IFun := ⟨34, (.seq (.region [⟨some 4, .mv (.c (.int .i64 0)), none⟩])
 (.seq (.region [⟨some 6, .mv (.t 0), none⟩,
 ⟨some 7, .nilck (.t 6), none⟩,
 ⟨some 8, .fa (.t 7) 0, none⟩,
 ⟨some 9, .fa (.t 8) 4, none⟩,
 ⟨some 10, .ld false 1 (.t 9), none⟩,
 ⟨some 11, .mv (.t 1), none⟩,
 ⟨some 12, .ia 2 (.t 10) (.t 11), none⟩,
 ⟨some 13, .ld true 2 (.t 12), none⟩,
 ⟨some 5, .alloc (.agg [(.int .i64 0), (.int .i64 0)]), none⟩,
 ⟨none, .st 2 (.t 5) (.t 13), none⟩])
 (.seq (.block 0
 (.seq (.draw [⟨⟨some 15, .mv (.t 0), none⟩, false, [], []⟩,
 ⟨⟨some 16, .nilck (.t 15), none⟩, false, [], []⟩,
 ⟨⟨some 17, .fa (.t 16) 0, none⟩, false, [], []⟩,
 ⟨⟨some 18, .fa (.t 17) 3, none⟩, false, [], []⟩,
 ⟨⟨some 19, .ld false 1 (.t 18), none⟩, false, [⟨some 19, .ld false 1 (.t 18), none⟩], []⟩,
 ⟨⟨some 20, .len false (.t 19), none⟩, false, [], []⟩,
 ⟨⟨some 21, .bin .sub (.t 20) (.c (.int .i64 1)), none⟩, false, [], []⟩,
 ⟨⟨some 22, .fa (.t 5) 0, none⟩, false, [], []⟩,
 ⟨⟨some 23, .ld false 1 (.t 22), none⟩, false, [⟨some 23, .ld false 1 (.t 22), none⟩], []⟩,
 ⟨⟨some 24, .fa (.t 5) 1, none⟩, false, [], []⟩,
 ⟨⟨some 25, .ld false 1 (.t 24), none⟩, false, [⟨some 25, .ld false 1 (.t 24), none⟩], []⟩,
 ⟨⟨some 26, .bldS 1 2 [(.int .i64 0)] [(0, 1, (.t 23)), (1, 1, (.t 25))], none⟩, false, [], []⟩,
 ⟨⟨some 27, .call (.c (.func 40 [] [])) [(.c (.int .i64 0)), (.t 21), (.t 26)], none⟩, true, [], []⟩,
 ⟨⟨some 14, .mv (.t 27), none⟩, false, [], []⟩])
 (.cond (.t 14)
 (.seq (.region [⟨some 4, .mv (.c (.int .i64 4)), none⟩])
 .ret)
 (.seq (.region [⟨some 29, .fa (.t 5) 0, none⟩,
 ⟨some 30, .ld false 1 (.t 29), none⟩,
 ⟨some 31, .fa (.t 5) 1, none⟩,
 ⟨some 32, .ld false 1 (.t 31), none⟩,
 ⟨some 33, .bin .geq (.t 30) (.t 32), none⟩,
 ⟨some 28, .mv (.t 33), none⟩])
 (.cond (.t 28)
 (.seq (.region [⟨some 4, .mv (.c (.int .i64 2)), none⟩])
 .ret)
 .skip)))))
 (.seq (.region [⟨some 4, .mv (.c (.int .i64 0)), none⟩])
 .ret)))), [.tmp 4]⟩
theorem c43 : compFun Try.prog Try.f43 = some ir43 := by kernel_rfl
def ir44 : IFun := ⟨62, (.seq (.region [⟨some 2, .box (.t 0), none⟩,
 ⟨some 4, .mv (.c .nilptr), none⟩,
 ⟨some 5, .alloc (.agg [(.int .i64 0), (.int .i64 0), (.int .i64 0), (.int .i64 0), (.int .i64 0), (.int .i64 0)]), none⟩,
 ⟨some 6, .mv (.c (.int .i64 0)), none⟩])
 (.seq (.region [⟨some 11, .ld true 5 (.t 2), none⟩,
 ⟨some 12, .call (.c (.func 55 [] [])) [(.t 11)], none⟩,
 ⟨some 10, .mv (.t 12), none⟩,
 ⟨some 13, .ext (.t 10) 0, none⟩,
 ⟨some 14, .ext (.t 10) 1, none⟩,
 ⟨some 4, .mv (.t 13), none⟩,
 ⟨some 6, .mv (.t 14), none⟩])
 (.seq (.block 0
 (.seq (.region [⟨some 16, .mv (.t 6), none⟩,
 ⟨some 17, .bin .neq (.t 16) (.c (.int .i64 0)), none⟩,
 ⟨some 15, .mv (.t 17), none⟩])
 (.cond (.t 15)
 (.seq (.draw [⟨⟨some 18, .ld true 6 (.t 5), none⟩, false, [⟨some 18, .ld true 6 (.t 5), none⟩], []⟩,
 ⟨⟨some 19, .mv (.t 6), none⟩, false, [], []⟩,
 ⟨⟨some 4, .mv (.c .nilptr), none⟩, false, [], []⟩,
 ⟨⟨none, .st 6 (.t 5) (.t 18), none⟩, true, [], []⟩,
 ⟨⟨some 6, .mv (.t 19), none⟩, false, [], []⟩])
 .ret)
 (.seq (.region [⟨some 21, .mv (.t 1), none⟩,
 ⟨some 22, .len false (.t 21), none⟩,
 ⟨some 23, .fa (.t 2) 3, none⟩,
 ⟨some 24, .ld false 1 (.t 23), none⟩,
 ⟨some 25, .len false (.t 24), none⟩,
 ⟨some 26, .bin .neq (.t 22) (.t 25), none⟩,
 ⟨some 20, .mv (.t 26), none⟩])
 (.cond (.t 20)
 (.seq (.draw [⟨⟨some 27, .ld true 6 (.t 5), none⟩, false, [⟨some 27, .ld true 6 (.t 5), none⟩], []⟩,
 ⟨⟨some 4, .mv (.c .nilptr), none⟩, false, [], []⟩,
 ⟨⟨none, .st 6 (.t 5) (.t 27), none⟩, true, [], []⟩,
 ⟨⟨some 6, .mv (.c (.int .i64 3)), none⟩, false, [], []⟩])
 .ret)
 (.seq (.region [⟨some 29, .fa (.t 2) 0, none⟩,
 ⟨some 30, .ld false 1 (.t 29), none⟩,
 ⟨some 31, .len false (.t 30), none⟩,
 ⟨some 32, .bin .sub (.t 31) (.c (.int .i64 1)), none⟩,
 ⟨some 33, .mv (.t 1), none⟩,
 ⟨some 34, .call (.c (.func 40 [] [])) [(.c (.int .i64 (-1))), (.t 32), (.t 33)], none⟩,
 ⟨some 28, .mv (.t 34), none⟩])
 (.cond (.t 28)
 (.seq (.draw [⟨⟨some 35, .ld true 6 (.t 5), none⟩, false, [⟨some 35, .ld true 6 (.t 5), none⟩], []⟩,
 ⟨⟨some 4, .mv (.c .nilptr), none⟩, false, [], []⟩,
 ⟨⟨none, .st 6 (.t 5) (.t 35), none⟩, true, [], []⟩,
 ⟨⟨some 6, .mv (.c (.int .i64 4)), none⟩, false, [], []⟩])
 .ret)
 .skip)))))))
 (.seq (.seq (.region [⟨some 36, .mv (.t 1), none⟩,
 ⟨some 37, .len false (.t 36), none⟩,
 ⟨some 38, .mv (.c (.int .i64 0)), none⟩])
 (.block 1
 (.loop
 (.seq (.region [⟨some 39, .bin .lss (.t 38) (.t 37), none⟩])
 (.seq (.cond (.t 39)
 .skip
 (.exit 1))
 (.seq (.block 2
 (.seq (.region [⟨some 40, .mv (.t 38), none⟩,
 ⟨some 41, .ia 1 (.t 36) (.t 38), none⟩,
 ⟨some 42, .ld false 1 (.t 41), none⟩,
 ⟨some 7, .mv (.t 40), none⟩,
 ⟨some 8, .mv (.t 42), none⟩])
 (.region [⟨some 43, .mv (.t 7), none⟩,
 ⟨some 44, .mv (.t 8), none⟩,
 ⟨some 45, .bin .add (.t 44) (.c (.int .i64 1)), none⟩,
 ⟨some 46, .iaa 6 1 (.t 5) (.t 43), none⟩,
 ⟨none, .st 1 (.t 46) (.t 45), none⟩])))
 (.region [⟨some 47, .bin .add (.t 38) (.c (.int .i64 1)), none⟩,
 ⟨some 38, .mv (.t 47), none⟩])))))))
 (.seq (.seq (.region [⟨some 48, .mv (.t 1), none⟩,
 ⟨some 49, .len false (.t 48), none⟩,
 ⟨some 50, .mv (.c (.int .i64 0)), none⟩])
 (.block 3
 (.loop
 (.seq (.region [⟨some 51, .bin .lss (.t 50) (.t 49), none⟩])
 (.seq (.cond (.t 51)
 .skip
 (.exit 3))
 (.seq (.block 4
 (.seq (.region [⟨some 52, .mv (.t 50), none⟩,
 ⟨some 9, .mv (.t 52), none⟩])
 (.seq (.region [⟨some 53, .mv (.t 4), none⟩,
 ⟨some 54, .ld true 6 (.t 5), none⟩,
 ⟨some 55, .mv (.t 9), none⟩,
 ⟨some 56, .call (.c (.func 59 [] [])) [(.t 53), (.t 54), (.t 55)], none⟩,
 ⟨some 57, .un .not (.t 56), none⟩])
 (.cond (.t 57)
 (.seq (.draw [⟨⟨some 58, .ld true 6 (.t 5), none⟩, false, [⟨some 58, .ld true 6 (.t 5), none⟩], []⟩,
 ⟨⟨some 4, .mv (.c .nilptr), none⟩, false, [], []⟩,
 ⟨⟨none, .st 6 (.t 5) (.t 58), none⟩, true, [], []⟩,
 ⟨⟨some 6, .mv (.c (.int .i64 9)), none⟩, false, [], []⟩])
 .ret)
 .skip))))
 (.region [⟨some 59, .bin .add (.t 50) (.c (.int .i64 1)), none⟩,
 ⟨some 50, .mv (.t 59), none⟩])))))))
 (.seq (.draw [⟨⟨some 60, .mv (.t 4), none⟩, false, [], []⟩,
 ⟨⟨some 61, .ld true 6 (.t 5), none⟩, false, [⟨some 61, .ld true 6 (.t 5), none⟩], []⟩,
 ⟨⟨some 4, .mv (.t 60), none⟩, false, [], []⟩,
 ⟨⟨none, .st 6 (.t 5) (.t 61), none⟩, true, [], []⟩,
 ⟨⟨some 6, .mv (.c (.int .i64 0)), none⟩, false, [], []⟩])
 .ret)))))), [.tmp 4, .cell 5 true 6, .tmp 6]⟩
theorem c44 : compFun Try.prog Try.f44 = some ir44 := by kernel_rfl
def ir45 : IFun := ⟨85, (.seq (.region [⟨some 4, .box (.t 1), none⟩,
 ⟨some 6, .mv (.c .nilslice), none⟩])
 (.seq (.region [⟨some 13, .mv (.t 0), none⟩,
 ⟨some 14, .nilck (.t 13), none⟩,
 ⟨some 15, .fa (.t 14) 0, none⟩,
 ⟨some 16, .fa (.t 15) 1, none⟩,
 ⟨some 17, .ld false 1 (.t 16), none⟩,
 ⟨some 18, .mksl 1 8 [(.int .i64 0)] (.t 17) (.t 17), none⟩,
 ⟨some 7, .mv (.t 18), none⟩])
 (.seq (.seq (.region [⟨some 19, .mv (.t 0), none⟩,
 ⟨some 20, .nilck (.t 19), none⟩,
 ⟨some 21, .fa (.t 20) 0, none⟩,
 ⟨some 22, .fa (.t 21) 3, none⟩,
 ⟨some 23, .ld false 1 (.t 22), none⟩,
 ⟨some 24, .len false (.t 23), none⟩,
 ⟨some 25, .mv (.c (.int .i64 0)), none⟩])
 (.block 0
 (.loop
 (.seq (.region [⟨some 26, .bin .lss (.t 25) (.t 24), none⟩])
 (.seq (.cond (.t 26)
 .skip
 (.exit 0))
 (.seq (.block 1
 (.seq (.region [⟨some 27, .mv (.t 25), none⟩,
 ⟨some 28, .ia 4 (.t 23) (.t 25), none⟩,
 ⟨some 29, .ld true 4 (.t 28), none⟩,
 ⟨some 9, .alloc (.agg [(.str []), (.int .i64 0), (.int .i64 0), (.int .i64 0)]), none⟩,
 ⟨some 8, .mv (.t 27), none⟩,
 ⟨none, .st 4 (.t 9) (.t 29), none⟩])
 (.seq (.seq (.region [⟨some 30, .mv (.t 8), none⟩,
 ⟨some 31, .iaa 6 1 (.t 4) (.t 30), none⟩,
 ⟨some 32, .ld false 1 (.t 31), none⟩,
 ⟨some 33, .mv (.t 2), none⟩,
 ⟨some 34, .bin .add (.t 33) (.c (.int .i64 1)), none⟩,
 ⟨some 35, .bin .neq (.t 32) (.t 34), none⟩])
 (.cond (.t 35)
 (.exit 1)
 .skip))
 (.seq (.region [⟨some 10, .mv (.c (.int .i64 0)), none⟩])
 (.seq (.region [⟨some 36, .mv (.t 0), none⟩,
 ⟨some 37, .nilck (.t 36), none⟩,
 ⟨some 38, .fa (.t 37) 0, none⟩,
 ⟨some 39, .fa (.t 38) 3, none⟩,
 ⟨some 40, .ld false 1 (.t 39), none⟩,
 ⟨some 41, .mv (.t 8), none⟩,
 ⟨some 42, .slc 4 (.t 40) none (some (.t 41)) none, none⟩,
 ⟨some 43, .len false (.t 42), none⟩,
 ⟨some 44, .mv (.c (.int .i64 0)), none⟩])
 (.block 2
 (.loop
 (.seq (.region [⟨some 45, .bin .lss (.t 44) (.t 43), none⟩])
 (.seq (.cond (.t 45)
 .skip
 (.exit 2))
 (.seq (.block 3
 (.seq (.region [⟨some 46, .mv (.t 44), none⟩,
 ⟨some 47, .ia 4 (.t 42) (.t 44), none⟩,
 ⟨some 48, .ld true 4 (.t 47), none⟩,
 ⟨some 12, .alloc (.agg [(.str []), (.int .i64 0), (.int .i64 0), (.int .i64 0)]), none⟩,
 ⟨some 11, .mv (.t 46), none⟩,
 ⟨none, .st 4 (.t 12) (.t 48), none⟩])
 (.seq (.region [⟨some 49, .mv (.t 11), none⟩,
 ⟨some 50, .iaa 6 1 (.t 4) (.t 49), none⟩,
 ⟨some 51, .ld false 1 (.t 50), none⟩,
 ⟨some 52, .mv (.t 2), none⟩,
 ⟨some 53, .bin .add (.t 52) (.c (.int .i64 1)), none⟩,
 ⟨some 54, .bin .eql (.t 51) (.t 53), none⟩,
 ⟨some 55, .mv (.t 54), none⟩,
 ⟨(some 56), (.fa (.t 12) 2), (some (55, true))⟩,
 ⟨(some 57), (.ld false 1 (.t 56)), (some (55, true))⟩,
 ⟨(some 58), (.fa (.t 9) 2), (some (55, true))⟩,
 ⟨(some 59), (.ld false 1 (.t 58)), (some (55, true))⟩,
 ⟨(some 60), (.bin .lss (.t 57) (.t 59)), (some (55, true))⟩,
 ⟨some 61, .pick (.t 55) (.t 60) (.c (.bool false)), none⟩,
 ⟨some 62, .mv (.t 61), none⟩,
 ⟨(some 63), (.mv (.t 10)), (some (62, true))⟩,
 ⟨(some 64), (.fa (.t 12) 2), (some (62, true))⟩,
 ⟨(some 65), (.ld false 1 (.t 64)), (some (62, true))⟩,
 ⟨(some 66), (.bin .shr (.t 63) (.t 65)), (some (62, true))⟩,
 ⟨(some 67), (.bin .and (.t 66) (.c (.int .i64 1))), (some (62, true))⟩,
 ⟨(some 68), (.bin .eql (.t 67) (.c (.int .i64 0))), (some (62, true))⟩,
 ⟨some 69, .pick (.t 62) (.t 68) (.c (.bool false)), none⟩])
 (.cond (.t 69)
 (.seq (.region [⟨some 70, .mv (.t 10), none⟩,
 ⟨some 71, .fa (.t 12) 2, none⟩,
 ⟨some 72, .ld false 1 (.t 71), none⟩,
 ⟨some 73, .bin .shl (.c (.int .i64 1)) (.t 72), none⟩,
 ⟨some 74, .bin .or (.t 70) (.t 73), none⟩,
 ⟨some 10, .mv (.t 74), none⟩])
 (.region [⟨some 75, .mv (.t 7), none⟩,
 ⟨some 76, .fa (.t 12) 2, none⟩,
 ⟨some 77, .ld false 1 (.t 76), none⟩,
 ⟨some 78, .ia 1 (.t 75) (.t 77), none⟩,
 ⟨some 79, .ld false 1 (.t 78), none⟩,
 ⟨some 80, .bin .add (.t 79) (.c (.int .i64 1)), none⟩,
 ⟨some 81, .ia 1 (.t 75) (.t 77), none⟩,
 ⟨none, .st 1 (.t 81) (.t 80), none⟩]))
 .skip))))
 (.region [⟨some 82, .bin .add (.t 44) (.c (.int .i64 1)), none⟩,
 ⟨some 44, .mv (.t 82), none⟩])))))))))))
 (.region [⟨some 83, .bin .add (.t 25) (.c (.int .i64 1)), none⟩,
 ⟨some 25, .mv (.t 83), none⟩])))))))
 (.seq (.region [⟨some 84, .mv (.t 7), none⟩,
 ⟨some 6, .mv (.t 84), none⟩])
 .ret)))), [.tmp 6]⟩
theorem c45 : compFun Try.prog Try.f45 = some ir45 := by kernel_rfl
def ir46 : IFun := ⟨31, (.seq (.region [⟨some 7, .mv (.t 0), none⟩,
 ⟨some 8, .mv (.t 0), none⟩,
 ⟨some 9, .nilck (.t 8), none⟩,
 ⟨some 10, .fa (.t 9) 0, none⟩,
 ⟨some 11, .ld false 1 (.t 10), none⟩,
 ⟨some 12, .mv (.t 1), none⟩,
 ⟨some 13, .len false (.t 12), none⟩,
 ⟨some 14, .bldS 1 1 [(.int .i64 0)] [(0, 1, (.t 13))], none⟩,
 ⟨some 15, .app 1 8 (.t 11) (.t 14), none⟩,
 ⟨some 16, .nilck (.t 7), none⟩,
 ⟨some 17, .fa (.t 16) 0, none⟩,
 ⟨none, .st 1 (.t 17) (.t 15), none⟩])
 (.seq (.region [⟨some 6, .mv (.c (.int .i64 0)), none⟩])
 (.block 0
 (.loop
 (.seq (.seq (.region [⟨some 18, .mv (.t 6), none⟩,
 ⟨some 19, .mv (.t 1), none⟩,
 ⟨some 20, .len false (.t 19), none⟩,
 ⟨some 21, .bin .lss (.t 18) (.t 20), none⟩])
 (.cond (.t 21)
 .skip
 (.exit 0)))
 (.seq (.block 1
 (.region [⟨some 24, .mv (.t 2), none⟩,
 ⟨some 25, .mv (.t 0), none⟩,
 ⟨some 26, .mv (.t 1), none⟩,
 ⟨some 27, .mv (.t 6), none⟩,
 ⟨some 28, .ia 1 (.t 26) (.t 27), none⟩,
 ⟨some 29, .ld false 1 (.t 28), none⟩,
 ⟨some 30, .call (.t 24) [(.t 25), (.t 29)], none⟩]))
 (.region [⟨some 22, .mv (.t 6), none⟩,
 ⟨some 23, .bin .add (.t 22) (.c (.int .i64 1)), none⟩,
 ⟨some 6, .mv (.t 23), none⟩]))))))), []⟩
theorem c46 : compFun Try.prog Try.f46 = some ir46 := by kernel_rfl
def ir47 : IFun := ⟨16, (.seq (.region [⟨some 4, .mv (.c (.int .i64 0)), none⟩])
 (.block 0
 (.loop
 (.seq (.seq (.region [⟨some 5, .mv (.t 4), none⟩,
 ⟨some 6, .mv (.t 0), none⟩,
 ⟨some 7, .len false (.t 6), none⟩,
 ⟨some 8, .bin .lss (.t 5) (.t 7), none⟩])
 (.cond (.t 8)
 .skip
 (.exit 0)))
 (.seq (.block 1
 (.region [⟨some 11, .mv (.t 1), none⟩,
 ⟨some 12, .mv (.t 0), none⟩,
 ⟨some 13, .mv (.t 4), none⟩,
 ⟨some 14, .ia 1 (.t 12) (.t 13), none⟩,
 ⟨some 15, .call (.t 11) [(.t 14)], none⟩]))
 (.region [⟨some 9, .mv (.t 4), none⟩,
 ⟨some 10, .bin .add (.t 9) (.c (.int .i64 1)), none⟩,
 ⟨some 4, .mv (.t 10), none⟩])))))), []⟩
theorem c47 : compFun Try.prog Try.f47 = some ir47 := by kernel_rfl
def ir48 : IFun := ⟨4, (.region [⟨some 2, .mv (.t 0), none⟩,
 ⟨some 3, .nilck (.t 2), none⟩,
 ⟨none, .st 1 (.t 3) (.c (.int .i64 (-77))), none⟩]), []⟩
theorem c48 : compFun Try.prog Try.f48 = some ir48 := by kernel_rfl
def ir49 : IFun := ⟨102, (.seq (.region [⟨some 4, .box (.t 1), none⟩,
 ⟨some 6, .mv (.c .nilslice), none⟩])
 (.seq (.draw [⟨⟨some 11, .mv (.t 0), none⟩, false, [], []⟩,
 ⟨⟨some 12, .nilck (.t 11), none⟩, false, [], []⟩,
 ⟨⟨some 13, .fa (.t 12) 0, none⟩, false, [], []⟩,
 ⟨⟨some 14, .fa (.t 13) 0, none⟩, false, [], []⟩,
 ⟨⟨some 15, .ld false 1 (.t 14), none⟩, false, [⟨some 15, .ld false 1 (.t 14), none⟩], []⟩,
 ⟨⟨some 16, .mv (.t 2), none⟩, false, [], []⟩,
 ⟨⟨some 17, .ia 4 (.t 15) (.t 16), none⟩, false, [], []⟩,
 ⟨⟨some 18, .fa (.t 17) 2, none⟩, false, [], []⟩,
 ⟨⟨some 19, .ld false 1 (.t 18), none⟩, false, [⟨some 19, .ld false 1 (.t 18), none⟩], []⟩,
 ⟨⟨some 20, .mv (.t 0), none⟩, false, [], []⟩,
 ⟨⟨some 21, .nilck (.t 20), none⟩, false, [], []⟩,
 ⟨⟨some 22, .fa (.t 21) 0, none⟩, false, [], []⟩,
 ⟨⟨some 23, .fa (.t 22) 0, none⟩, false, [], []⟩,
 ⟨⟨some 24, .ld false 1 (.t 23), none⟩, false, [⟨some 24, .ld false 1 (.t 23), none⟩], []⟩,
 ⟨⟨some 25, .mv (.t 2), none⟩, false, [], []⟩,
 ⟨⟨some 26, .ia 4 (.t 24) (.t 25), none⟩, false, [], []⟩,
 ⟨⟨some 27, .fa (.t 26) 2, none⟩, false, [], []⟩,
 ⟨⟨some 28, .ld false 1 (.t 27), none⟩, false, [⟨some 28, .ld false 1 (.t 27), none⟩], []⟩,
 ⟨⟨some 29, .bld [(.int .i64 0), (.int .i64 0)] [(0, 1, (.t 19)), (1, 1, (.t 28))], none⟩, false, [], []⟩,
 ⟨⟨some 7, .alloc (.agg [(.int .i64 0), (.int .i64 0)]), none⟩, false, [], []⟩,
 ⟨⟨none, .st 2 (.t 7) (.t 29), none⟩, true, [], []⟩])
 (.seq (.region [⟨some 8, .mv (.c .nilslice), none⟩])
 (.seq (.seq (.region [⟨some 30, .mv (.t 0), none⟩,
 ⟨some 31, .ld true 6 (.t 4), none⟩,
 ⟨some 32, .mv (.t 2), none⟩,
 ⟨some 33, .call (.c (.func 45 [] [])) [(.t 30), (.t 31), (.t 32)], none⟩,
 ⟨some 34, .len false (.t 33), none⟩,
 ⟨some 35, .mv (.c (.int .i64 0)), none⟩])
 (.block 0
 (.loop
 (.seq (.region [⟨some 36, .bin .lss (.t 35) (.t 34), none⟩])
 (.seq (.cond (.t 36)
 .skip
 (.exit 0))
 (.seq (.block 1
 (.seq (.region [⟨some 37, .mv (.t 35), none⟩,
 ⟨some 38, .ia 1 (.t 33) (.t 35), none⟩,
 ⟨some 39, .ld false 1 (.t 38), none⟩,
 ⟨some 9, .mv (.t 37), none⟩,
 ⟨some 10, .mv (.t 39), none⟩])
 (.seq (.draw [⟨⟨some 40, .fa (.t 7) 0, none⟩, false, [], []⟩,
 ⟨⟨some 41, .ld false 1 (.t 40), none⟩, false, [⟨some 41, .ld false 1 (.t 40), none⟩], []⟩,
 ⟨⟨some 42, .mv (.t 0), none⟩, false, [], []⟩,
 ⟨⟨some 43, .nilck (.t 42), none⟩, false, [], []⟩,
 ⟨⟨some 44, .fa (.t 43) 0, none⟩, false, [], []⟩,
 ⟨⟨some 45, .fa (.t 44) 0, none⟩, false, [], []⟩,
 ⟨⟨some 46, .ld false 1 (.t 45), none⟩, false, [⟨some 46, .ld false 1 (.t 45), none⟩], []⟩,
 ⟨⟨some 47, .mv (.t 2), none⟩, false, [], []⟩,
 ⟨⟨some 48, .ia 4 (.t 46) (.t 47), none⟩, false, [], []⟩,
 ⟨⟨some 49, .fa (.t 48) 3, none⟩, false, [], []⟩,
 ⟨⟨some 50, .ld false 1 (.t 49), none⟩, false, [⟨some 50, .ld false 1 (.t 49), none⟩], []⟩,
 ⟨⟨some 51, .mv (.t 9), none⟩, false, [], []⟩,
 ⟨⟨some 52, .ia 2 (.t 50) (.t 51), none⟩, false, [], []⟩,
 ⟨⟨some 53, .fa (.t 52) 0, none⟩, false, [], []⟩,
 ⟨⟨some 54, .ld false 1 (.t 53), none⟩, false, [⟨some 54, .ld false 1 (.t 53), none⟩], []⟩,
 ⟨⟨some 55, .bin .add (.t 41) (.t 54), none⟩, false, [], []⟩,
 ⟨⟨some 56, .fa (.t 7) 0, none⟩, false, [], []⟩,
 ⟨⟨none, .st 1 (.t 56) (.t 55), none⟩, true, [], []⟩])
 (.seq (.draw [⟨⟨some 57, .fa (.t 7) 1, none⟩, false, [], []⟩,
 ⟨⟨some 58, .ld false 1 (.t 57), none⟩, false, [⟨some 58, .ld false 1 (.t 57), none⟩], []⟩,
 ⟨⟨some 59, .mv (.t 0), none⟩, false, [], []⟩,
 ⟨⟨some 60, .nilck (.t 59), none⟩, false, [], []⟩,
 ⟨⟨some 61, .fa (.t 60) 0, none⟩, false, [], []⟩,
 ⟨⟨some 62, .fa (.t 61) 0, none⟩, false, [], []⟩,
 ⟨⟨some 63, .ld false 1 (.t 62), none⟩, false, [⟨some 63, .ld false 1 (.t 62), none⟩], []⟩,
 ⟨⟨some 64, .mv (.t 2), none⟩, false, [], []⟩,
 ⟨⟨some 65, .ia 4 (.t 63) (.t 64), none⟩, false, [], []⟩,
 ⟨⟨some 66, .fa (.t 65) 3, none⟩, false, [], []⟩,
 ⟨⟨some 67, .ld false 1 (.t 66), none⟩, false, [⟨some 67, .ld false 1 (.t 66), none⟩], []⟩,
 ⟨⟨some 68, .mv (.t 9), none⟩, false, [], []⟩,
 ⟨⟨some 69, .ia 2 (.t 67) (.t 68), none⟩, false, [], []⟩,
 ⟨⟨some 70, .fa (.t 69) 1, none⟩, false, [], []⟩,
 ⟨⟨some 71, .ld false 1 (.t 70), none⟩, false, [⟨some 71, .ld false 1 (.t 70), none⟩], []⟩,
 ⟨⟨some 72, .bin .add (.t 58) (.t 71), none⟩, false, [], []⟩,
 ⟨⟨some 73, .fa (.t 7) 1, none⟩, false, [], []⟩,
 ⟨⟨none, .st 1 (.t 73) (.t 72), none⟩, true, [], []⟩])
 (.seq (.region [⟨some 74, .mv (.t 8), none⟩,
 ⟨some 75, .ld true 2 (.t 7), none⟩,
 ⟨some 76, .bldS 2 1 [(.int .i64 0), (.int .i64 0)] [(0, 2, (.t 75))], none⟩,
 ⟨some 77, .app 2 16 (.t 74) (.t 76), none⟩,
 ⟨some 8, .mv (.t 77), none⟩])
 (.seq (.draw [⟨⟨some 78, .fa (.t 7) 0, none⟩, false, [], []⟩,
 ⟨⟨some 79, .ld false 1 (.t 78), none⟩, false, [⟨some 79, .ld false 1 (.t 78), none⟩], []⟩,
 ⟨⟨some 80, .mv (.t 10), none⟩, false, [], []⟩,
 ⟨⟨some 81, .mv (.t 0), none⟩, false, [], []⟩,
 ⟨⟨some 82, .nilck (.t 81), none⟩, false, [], []⟩,
 ⟨⟨some 83, .fa (.t 82) 0, none⟩, false, [], []⟩,
 ⟨⟨some 84, .fa (.t 83) 2, none⟩, false, [], []⟩,
 ⟨⟨some 85, .ld false 1 (.t 84), none⟩, false, [⟨some 85, .ld false 1 (.t 84), none⟩], []⟩,
 ⟨⟨some 86, .bin .mul (.t 80) (.t 85), none⟩, false, [], []⟩,
 ⟨⟨some 87, .bin .add (.t 79) (.t 86), none⟩, false, [], []⟩,
 ⟨⟨some 88, .fa (.t 7) 0, none⟩, false, [], []⟩,
 ⟨⟨none, .st 1 (.t 88) (.t 87), none⟩, true, [], []⟩])
 (.draw [⟨⟨some 89, .fa (.t 7) 1, none⟩, false, [], []⟩,
 ⟨⟨some 90, .ld false 1 (.t 89), none⟩, false, [⟨some 90, .ld false 1 (.t 89), none⟩], []⟩,
 ⟨⟨some 91, .mv (.t 10), none⟩, false, [], []⟩,
 ⟨⟨some 92, .mv (.t 0), none⟩, false, [], []⟩,
 ⟨⟨some 93, .nilck (.t 92), none⟩, false, [], []⟩,
 ⟨⟨some 94, .fa (.t 93) 0, none⟩, false, [], []⟩,
 ⟨⟨some 95, .fa (.t 94) 2, none⟩, false, [], []⟩,
 ⟨⟨some 96, .ld false 1 (.t 95), none⟩, false, [⟨some 96, .ld false 1 (.t 95), none⟩], []⟩,
 ⟨⟨some 97, .bin .mul (.t 91) (.t 96), none⟩, false, [], []⟩,
 ⟨⟨some 98, .bin .add (.t 90) (.t 97), none⟩, false, [], []⟩,
 ⟨⟨some 99, .fa (.t 7) 1, none⟩, false, [], []⟩,
 ⟨⟨none, .st 1 (.t 99) (.t 98), none⟩, true, [], []⟩])))))))
 (.region [⟨some 100, .bin .add (.t 35) (.c (.int .i64 1)), none⟩,
 ⟨some 35, .mv (.t 100), none⟩])))))))
 (.seq (.region [⟨some 101, .mv (.t 8), none⟩,
 ⟨some 6, .mv (.t 101), none⟩])
 .ret))))), [.tmp 6]⟩
theorem c49 : compFun Try.prog Try.f49 = some ir49 := by kernel_rfl
def ir50 : IFun := ⟨31, (.seq (.region [⟨some 7, .mv (.t 0), none⟩,
 ⟨some 8, .mv (.t 0), none⟩,
 ⟨some 9, .nilck (.t 8), none⟩,
 ⟨some 10, .fa (.t 9) 0, none⟩,
 ⟨some 11, .ld false 1 (.t 10), none⟩,
 ⟨some 12, .mv (.t 1), none⟩,
 ⟨some 13, .len false (.t 12), none⟩,
 ⟨some 14, .bldS 1 1 [(.int .i64 0)] [(0, 1, (.t 13))], none⟩,
 ⟨some 15, .app 1 8 (.t 11) (.t 14), none⟩,
 ⟨some 16, .nilck (.t 7), none⟩,
 ⟨some 17, .fa (.t 16) 0, none⟩,
 ⟨none, .st 1 (.t 17) (.t 15), none⟩])
 (.seq (.region [⟨some 6, .mv (.c (.int .i64 0)), none⟩])
 (.block 0
 (.loop
 (.seq (.seq (.region [⟨some 18, .mv (.t 6), none⟩,
 ⟨some 19, .mv (.t 1), none⟩,
 ⟨some 20, .len false (.t 19), none⟩,
 ⟨some 21, .bin .lss (.t 18) (.t 20), none⟩])
 (.cond (.t 21)
 .skip
 (.exit 0)))
 (.seq (.block 1
 (.region [⟨some 24, .mv (.t 2), none⟩,
 ⟨some 25, .mv (.t 0), none⟩,
 ⟨some 26, .mv (.t 1), none⟩,
 ⟨some 27, .mv (.t 6), none⟩,
 ⟨some 28, .ia 2 (.t 26) (.t 27), none⟩,
 ⟨some 29, .ld true 2 (.t 28), none⟩,
 ⟨some 30, .call (.t 24) [(.t 25), (.t 29)], none⟩]))
 (.region [⟨some 22, .mv (.t 6), none⟩,
 ⟨some 23, .bin .add (.t 22) (.c (.int .i64 1)), none⟩,
 ⟨some 6, .mv (.t 23), none⟩]))))))), []⟩
theorem c50 : compFun Try.prog Try.f50 = some ir50 := by kernel_rfl
def ir51 : IFun := ⟨12, (.seq (.region [⟨some 3, .box (.t 1), none⟩])
 (.seq (.region [⟨some 4, .mv (.t 0), none⟩,
 ⟨some 5, .fa (.t 3) 0, none⟩,
 ⟨some 6, .ld false 1 (.t 5), none⟩,
 ⟨some 7, .call (.c (.func 8 [] [])) [(.t 4), (.t 6)], none⟩])
 (.region [⟨some 8, .mv (.t 0), none⟩,
 ⟨some 9, .fa (.t 3) 1, none⟩,
 ⟨some 10, .ld false 1 (.t 9), none⟩,
 ⟨some 11, .call (.c (.func 8 [] [])) [(.t 8), (.t 10)], none⟩]))), []⟩
theorem c51 : compFun Try.prog Try.f51 = some ir51 := by kernel_rfl
def ir52 : IFun := ⟨16, (.seq (.region [⟨some 4, .mv (.c (.int .i64 0)), none⟩])
 (.block 0
 (.loop
 (.seq (.seq (.region [⟨some 5, .mv (.t 4), none⟩,
 ⟨some 6, .mv (.t 0), none⟩,
 ⟨some 7, .len false (.t 6), none⟩,
 ⟨some 8, .bin .lss (.t 5) (.t 7), none⟩])
 (.cond (.t 8)
 .skip
 (.exit 0)))
 (.seq (.block 1
 (.region [⟨some 11, .mv (.t 1), none⟩,
 ⟨some 12, .mv (.t 0), none⟩,
 ⟨some 13, .mv (.t 4), none⟩,
 ⟨some 14, .ia 2 (.t 12) (.t 13), none⟩,
 ⟨some 15, .call (.t 11) [(.t 14)], none⟩]))
 (.region [⟨some 9, .mv (.t 4), none⟩,
 ⟨some 10, .bin .add (.t 9) (.c (.int .i64 1)), none⟩,
 ⟨some 4, .mv (.t 10), none⟩])))))), []⟩
theorem c52 : compFun Try.prog Try.f52 = some ir52 := by kernel_rfl
def ir53 : IFun := ⟨10, (.seq (.region [⟨some 2, .mv (.t 0), none⟩,
 ⟨some 3, .nilck (.t 2), none⟩,
 ⟨some 4, .fa (.t 3) 0, none⟩,
 ⟨some 5, .call (.c (.func 48 [] [])) [(.t 4)], none⟩])
 (.region [⟨some 6, .mv (.t 0), none⟩,
 ⟨some 7, .nilck (.t 6), none⟩,
 ⟨some 8, .fa (.t 7) 1, none⟩,
 ⟨some 9, .call (.c (.func 48 [] [])) [(.t 8)], none⟩])), []⟩
theorem c53 : compFun Try.prog Try.f53 = some ir53 := by kernel_rfl
def ir54 : IFun := ⟨44, (.seq (.region [⟨some 4, .box (.t 1), none⟩,
 ⟨some 6, .mv (.c (.int .i64 0)), none⟩])
 (.seq (.seq (.region [⟨some 9, .mv (.t 2), none⟩,
 ⟨some 10, .iaa 6 1 (.t 4) (.t 9), none⟩,
 ⟨some 11, .ld false 1 (.t 10), none⟩,
 ⟨some 12, .bin .eql (.t 11) (.c (.int .i64 0)), none⟩])
 (.cond (.t 12)
 (.seq (.region [⟨some 6, .mv (.c (.int .i64 2)), none⟩])
 .ret)
 .skip))
 (.seq (.region [⟨some 13, .mv (.t 0), none⟩,
 ⟨some 14, .nilck (.t 13), none⟩,
 ⟨some 15, .fa (.t 14) 0, none⟩,
 ⟨some 16, .fa (.t 15) 3, none⟩,
 ⟨some 17, .ld false 1 (.t 16), none⟩,
 ⟨some 18, .mv (.t 2), none⟩,
 ⟨some 19, .ia 4 (.t 17) (.t 18), none⟩,
 ⟨some 20, .ld true 4 (.t 19), none⟩,
 ⟨some 7, .alloc (.agg [(.str []), (.int .i64 0), (.int .i64 0), (.int .i64 0)]), none⟩,
 ⟨none, .st 4 (.t 7) (.t 20), none⟩])
 (.seq (.seq (.draw [⟨⟨some 21, .mv (.t 0), none⟩, false, [], []⟩,
 ⟨⟨some 22, .ld true 6 (.t 4), none⟩, false, [⟨some 22, .ld true 6 (.t 4), none⟩], []⟩,
 ⟨⟨some 23, .mv (.t 2), none⟩, false, [], []⟩,
 ⟨⟨some 24, .iaa 6 1 (.t 4) (.t 23), none⟩, false, [], []⟩,
 ⟨⟨some 25, .ld false 1 (.t 24), none⟩, false, [⟨some 25, .ld false 1 (.t 24), none⟩], []⟩,
 ⟨⟨some 26, .bin .sub (.t 25) (.c (.int .i64 1)), none⟩, false, [], []⟩,
 ⟨⟨some 27, .call (.c (.func 49 [] [])) [(.t 21), (.t 22), (.t 26)], none⟩, true, [], []⟩,
 ⟨⟨some 28, .fa (.t 7) 2, none⟩, false, [], []⟩,
 ⟨⟨some 29, .ld false 1 (.t 28), none⟩, false, [⟨some 29, .ld false 1 (.t 28), none⟩], [6]⟩,
 ⟨⟨some 30, .ia 2 (.t 27) (.t 29), none⟩, false, [], []⟩,
 ⟨⟨some 31, .ld true 2 (.t 30), none⟩, false, [⟨some 31, .ld true 2 (.t 30), none⟩], []⟩,
 ⟨⟨some 8, .alloc (.agg [(.int .i64 0), (.int .i64 0)]), none⟩, false, [], []⟩,
 ⟨⟨none, .st 2 (.t 8) (.t 31), none⟩, true, [], []⟩])
 (.block 0
 (.seq (.region [⟨some 33, .fa (.t 8) 1, none⟩,
 ⟨some 34, .ld false 1 (.t 33), none⟩,
 ⟨some 35, .fa (.t 7) 3, none⟩,
 ⟨some 36, .ld false 1 (.t 35), none⟩,
 ⟨some 37, .bin .leq (.t 34) (.t 36), none⟩,
 ⟨some 32, .mv (.t 37), none⟩])
 (.cond (.t 32)
 (.seq (.region [⟨some 6, .mv (.c (.int .i64 1)), none⟩])
 .ret)
 (.seq (.region [⟨some 39, .fa (.t 8) 0, none⟩,
 ⟨some 40, .ld false 1 (.t 39), none⟩,
 ⟨some 41, .fa (.t 7) 3, none⟩,
 ⟨some 42, .ld false 1 (.t 41), none⟩,
 ⟨some 43, .bin .gtr (.t 40) (.t 42), none⟩,
 ⟨some 38, .mv (.t 43), none⟩])
 (.cond (.t 38)
 (.seq (.region [⟨some 6, .mv (.c (.int .i64 2)), none⟩])
 .ret)
 .skip))))))
 (.seq (.region [⟨some 6, .mv (.c (.int .i64 0)), none⟩])
 .ret))))), [.tmp 6]⟩
theorem c54 : compFun Try.prog Try.f54 = some ir54 := by kernel_rfl
def ir55 : IFun := ⟨20, (.seq (.region [⟨some 1, .box (.t 0), none⟩,
 ⟨some 2, .mv (.c .nilptr), none⟩,
 ⟨some 3, .mv (.c (.int .i64 0)), none⟩])
 (.seq (.seq (.region [⟨some 8, .ld true 5 (.t 1), none⟩,
 ⟨some 9, .call (.c (.func 7 [] [])) [(.t 8)], none⟩,
 ⟨some 7, .mv (.t 9), none⟩,
 ⟨some 10, .ext (.t 7) 0, none⟩,
 ⟨some 11, .ext (.t 7) 1, none⟩,
 ⟨some 12, .ext (.t 7) 2, none⟩,
 ⟨some 4, .mv (.t 10), none⟩,
 ⟨some 5, .mv (.t 11), none⟩,
 ⟨some 6, .mv (.t 12), none⟩])
 (.seq (.region [⟨some 13, .mv (.t 6), none⟩,
 ⟨some 14, .bin .neq (.t 13) (.c (.int .i64 0)), none⟩])
 (.cond (.t 14)
 (.seq (.region [⟨some 15, .mv (.t 6), none⟩,
 ⟨some 2, .mv (.c .nilptr), none⟩,
 ⟨some 3, .mv (.t 15), none⟩])
 .ret)
 .skip)))
 (.seq (.region [⟨some 16, .ld true 5 (.t 1), none⟩,
 ⟨(some 17), .mkmap, none⟩,
 ⟨some 18, .bld [.nilslice, (.int .i64 0), (.int .i64 0), .nilslice, .nilslice, .nilmap] [(0, 5, (.t 16)), (5, 1, (.t 17))], none⟩,
 ⟨some 19, .box (.t 18), none⟩,
 ⟨some 2, .mv (.t 19), none⟩,
 ⟨some 3, .mv (.c (.int .i64 0)), none⟩])
 .ret))), [.tmp 2, .tmp 3]⟩
theorem c55 : compFun Try.prog Try.f55 = some ir55 := by kernel_rfl
def ir56 : IFun := ⟨4, (.seq (.region [⟨some 1, .box (.t 0), none⟩,
 ⟨some 2, .mv (.c .nilfunc), none⟩])
 (.seq (.region [⟨some 3, .mkfn 78 [] [(.t 1)], none⟩,
 ⟨some 2, .mv (.t 3), none⟩])
 .ret)), [.tmp 2]⟩
theorem c56 : compFun Try.prog Try.f56 = some ir56 := by kernel_rfl
def ir57 : IFun := ⟨110, (.seq (.region [⟨some 3, .box (.t 1), none⟩,
 ⟨some 4, .alloc (.agg [(.int .i64 0), (.int .i64 0), (.int .i64 0)]), none⟩])
 (.seq (.seq (.draw [⟨⟨some 16, .mv (.t 0), none⟩, false, [], []⟩,
 ⟨⟨some 17, .nilck (.t 16), none⟩, false, [], []⟩,
 ⟨⟨some 18, .fa (.t 17) 5, none⟩, false, [], []⟩,
 ⟨⟨some 19, .ld false 1 (.t 18), none⟩, false, [⟨some 19, .ld false 1 (.t 18), none⟩], []⟩,
 ⟨⟨some 20, .ld true 6 (.t 3), none⟩, false, [⟨some 20, .ld true 6 (.t 3), none⟩], []⟩,
 ⟨⟨some 21, .lkp (.ag [.i, .i, .i, .i, .i, .i]) (.agg [(.int .i64 0), (.int .i64 0), (.int .i64 0)]) true (.t 19) (.t 20), none⟩, false, [⟨some 21, .lkp (.ag [.i, .i, .i, .i, .i, .i]) (.agg [(.int .i64 0), (.int .i64 0), (.int .i64 0)]) true (.t 19) (.t 20), none⟩], []⟩,
 ⟨⟨some 15, .mv (.t 21), none⟩, false, [], []⟩,
 ⟨⟨some 22, .ext (.t 15) 0, none⟩, false, [], []⟩,
 ⟨⟨some 23, .ext (.t 15) 1, none⟩, false, [], []⟩,
 ⟨⟨some 5, .alloc (.agg [(.int .i64 0), (.int .i64 0), (.int .i64 0)]), none⟩, false, [], []⟩,
 ⟨⟨none, .st 3 (.t 5) (.t 22), none⟩, true, [], []⟩,
 ⟨⟨some 6, .mv (.t 23), none⟩, false, [], []⟩])
 (.seq (.region [⟨some 24, .mv (.t 6), none⟩])
 (.cond (.t 24)
 (.seq (.region [⟨some 25, .ld true 3 (.t 5), none⟩,
 ⟨none, .st 3 (.t 4) (.t 25), none⟩])
 .ret)
 .skip)))
 (.seq (.region [⟨some 7, .alloc (.agg [(.int .i64 0), (.int .i64 0), (.int .i64 0)]), none⟩])
 (.seq (.region [⟨some 26, .mv (.t 0), none⟩,
 ⟨some 27, .mkfn 54 [(.t 26)] [], none⟩,
 ⟨some 8, .mv (.t 27), none⟩])
 (.seq (.region [⟨some 9, .alloc (.agg [.nilslice, .nilslice, .nilslice]), none⟩])
 (.seq (.seq (.region [⟨some 28, .mv (.t 0), none⟩,
 ⟨some 29, .nilck (.t 28), none⟩,
 ⟨some 30, .fa (.t 29) 0, none⟩,
 ⟨some 31, .fa (.t 30) 0, none⟩,
 ⟨some 32, .ld false 1 (.t 31), none⟩,
 ⟨some 33, .len false (.t 32), none⟩,
 ⟨some 34, .mv (.c (.int .i64 0)), none⟩])
 (.block 0
 (.loop
 (.seq (.region [⟨some 35, .bin .lss (.t 34) (.t 33), none⟩])
 (.seq (.cond (.t 35)
 .skip
 (.exit 0))
 (.seq (.block 1
 (.seq (.region [⟨some 36, .mv (.t 34), none⟩,
 ⟨some 10, .mv (.t 36), none⟩])
 (.seq (.region [⟨some 37, .mv (.t 10), none⟩,
 ⟨some 38, .mv (.t 0), none⟩,
 ⟨some 39, .ld true 6 (.t 3), none⟩,
 ⟨some 40, .mv (.t 10), none⟩,
 ⟨some 41, .call (.c (.func 49 [] [])) [(.t 38), (.t 39), (.t 40)], none⟩,
 ⟨some 42, .iaa 3 1 (.t 9) (.t 37), none⟩,
 ⟨none, .st 1 (.t 42) (.t 41), none⟩])
 (.seq (.region [⟨some 43, .mv (.t 0), none⟩,
 ⟨some 44, .ld true 6 (.t 3), none⟩,
 ⟨some 45, .mv (.t 10), none⟩,
 ⟨some 46, .call (.c (.func 45 [] [])) [(.t 43), (.t 44), (.t 45)], none⟩,
 ⟨some 47, .len false (.t 46), none⟩,
 ⟨some 48, .mv (.c (.int .i64 0)), none⟩])
 (.block 2
 (.loop
 (.seq (.region [⟨some 49, .bin .lss (.t 48) (.t 47), none⟩])
 (.seq (.cond (.t 49)
 .skip
 (.exit 2))
 (.seq (.block 3
 (.seq (.region [⟨some 50, .ia 1 (.t 46) (.t 48), none⟩,
 ⟨some 51, .ld false 1 (.t 50), none⟩,
 ⟨some 12, .mv (.t 51), none⟩])
 (.region [⟨some 52, .fa (.t 7) 1, none⟩,
 ⟨some 53, .ld false 1 (.t 52), none⟩,
 ⟨some 54, .mv (.t 12), none⟩,
 ⟨some 55, .bin .add (.t 53) (.t 54), none⟩,
 ⟨some 56, .fa (.t 7) 1, none⟩,
 ⟨none, .st 1 (.t 56) (.t 55), none⟩])))
 (.region [⟨some 57, .bin .add (.t 48) (.c (.int .i64 1)), none⟩,
 ⟨some 48, .mv (.t 57), none⟩]))))))))))
 (.region [⟨some 58, .bin .add (.t 34) (.c (.int .i64 1)), none⟩,
 ⟨some 34, .mv (.t 58), none⟩])))))))
 (.seq (.seq (.region [⟨some 59, .mv (.t 0), none⟩,
 ⟨some 60, .nilck (.t 59), none⟩,
 ⟨some 61, .fa (.t 60) 0, none⟩,
 ⟨some 62, .fa (.t 61) 3, none⟩,
 ⟨some 63, .ld false 1 (.t 62), none⟩,
 ⟨some 64, .len false (.t 63), none⟩,
 ⟨some 65, .mv (.c (.int .i64 0)), none⟩])
 (.block 4
 (.loop
 (.seq (.region [⟨some 66, .bin .lss (.t 65) (.t 64), none⟩])
 (.seq (.cond (.t 66)
 .skip
 (.exit 4))
 (.seq (.block 5
 (.seq (.region [⟨some 67, .mv (.t 65), none⟩,
 ⟨some 68, .ia 4 (.t 63) (.t 65), none⟩,
 ⟨some 69, .ld true 4 (.t 68), none⟩,
 ⟨some 14, .alloc (.agg [(.str []), (.int .i64 0), (.int .i64 0), (.int .i64 0)]), none⟩,
 ⟨some 13, .mv (.t 67), none⟩,
 ⟨none, .st 4 (.t 14) (.t 69), none⟩])
 (.seq (.seq (.region [⟨some 70, .mv (.t 8), none⟩,
 ⟨some 71, .ld true 6 (.t 3), none⟩,
 ⟨some 72, .mv (.t 13), none⟩,
 ⟨some 73, .call (.t 70) [(.t 71), (.t 72)], none⟩,
 ⟨some 74, .bin .eql (.t 73) (.c (.int .i64 1)), none⟩])
 (.cond (.t 74)
 (.region [⟨some 75, .fa (.t 7) 0, none⟩,
 ⟨some 76, .ld false 1 (.t 75), none⟩,
 ⟨some 77, .bin .add (.t 76) (.c (.int .i64 1)), none⟩,
 ⟨some 78, .fa (.t 7) 0, none⟩,
 ⟨none, .st 1 (.t 78) (.t 77), none⟩])
 .skip))
 (.seq (.region [⟨some 79, .mv (.t 13), none⟩,
 ⟨some 80, .iaa 6 1 (.t 3) (.t 79), none⟩,
 ⟨some 81, .ld false 1 (.t 80), none⟩,
 ⟨some 82, .bin .eql (.t 81) (.c (.int .i64 0)), none⟩])
 (.cond (.t 82)
 (.region [⟨some 83, .fa (.t 7) 2, none⟩,
 ⟨none, .st 1 (.t 83) (.c (.int .i64 301)), none⟩])
 (.draw [⟨⟨some 84, .fa (.t 7) 2, none⟩, false, [], []⟩,
 ⟨⟨some 85, .ld false 1 (.t 84), none⟩, false, [⟨some 85, .ld false 1 (.t 84), none⟩], []⟩,
 ⟨⟨some 86, .mv (.t 13), none⟩, false, [], []⟩,
 ⟨⟨some 87, .iaa 6 1 (.t 3) (.t 86), none⟩, false, [], []⟩,
 ⟨⟨some 88, .ld false 1 (.t 87), none⟩, false, [⟨some 88, .ld false 1 (.t 87), none⟩], []⟩,
 ⟨⟨some 89, .bin .sub (.t 88) (.c (.int .i64 1)), none⟩, false, [], []⟩,
 ⟨⟨some 90, .iaa 3 1 (.t 9) (.t 89), none⟩, false, [], []⟩,
 ⟨⟨some 91, .ld false 1 (.t 90), none⟩, false, [⟨some 91, .ld false 1 (.t 90), none⟩], []⟩,
 ⟨⟨some 92, .fa (.t 14) 2, none⟩, false, [], []⟩,
 ⟨⟨some 93, .ld false 1 (.t 92), none⟩, false, [⟨some 93, .ld false 1 (.t 92), none⟩], []⟩,
 ⟨⟨some 94, .ia 2 (.t 91) (.t 93), none⟩, false, [], []⟩,
 ⟨⟨some 95, .fa (.t 94) 1, none⟩, false, [], []⟩,
 ⟨⟨some 96, .ld false 1 (.t 95), none⟩, false, [⟨some 96, .ld false 1 (.t 95), none⟩], []⟩,
 ⟨⟨some 97, .fa (.t 14) 3, none⟩, false, [], []⟩,
 ⟨⟨some 98, .ld false 1 (.t 97), none⟩, false, [⟨some 98, .ld false 1 (.t 97), none⟩], []⟩,
 ⟨⟨some 99, .bin .sub (.t 96) (.t 98), none⟩, false, [], []⟩,
 ⟨⟨some 100, .mx (.t 85) [(.t 99)], none⟩, false, [], []⟩,
 ⟨⟨some 101, .fa (.t 7) 2, none⟩, false, [], []⟩,
 ⟨⟨none, .st 1 (.t 101) (.t 100), none⟩, true, [], []⟩]))))))
 (.region [⟨some 102, .bin .add (.t 65) (.c (.int .i64 1)), none⟩,
 ⟨some 65, .mv (.t 102), none⟩])))))))
 (.seq (.draw [⟨⟨some 103, .mv (.t 0), none⟩, false, [], []⟩,
 ⟨⟨some 104, .nilck (.t 103), none⟩, false, [], []⟩,
 ⟨⟨some 105, .fa (.t 104) 5, none⟩, false, [], []⟩,
 ⟨⟨some 106, .ld false 1 (.t 105), none⟩, false, [⟨some 106, .ld false 1 (.t 105), none⟩], []⟩,
 ⟨⟨some 107, .ld true 6 (.t 3), none⟩, false, [⟨some 107, .ld true 6 (.t 3), none⟩], []⟩,
 ⟨⟨some 108, .ld true 3 (.t 7), none⟩, false, [⟨some 108, .ld true 3 (.t 7), none⟩], []⟩,
 ⟨⟨none, .mapup (.ag [.i, .i, .i, .i, .i, .i]) (.t 106) (.t 107) (.t 108), none⟩, true, [], []⟩])
 (.seq (.region [⟨some 109, .ld true 3 (.t 7), none⟩,
 ⟨none, .st 3 (.t 4) (.t 109), none⟩])
 .ret))))))))), [.cell 4 true 3]⟩
theorem c57 : compFun Try.prog Try.f57 = some ir57 := by kernel_rfl
def ir58 : IFun := ⟨18, (.seq (.region [⟨some 2, .mv (.c (.int .i64 0)), none⟩])
 (.seq (.region [⟨some 3, .mv (.c (.int .i64 0)), none⟩])
 (.seq (.seq (.region [⟨some 6, .mv (.t 0), none⟩,
 ⟨some 7, .len false (.t 6), none⟩,
 ⟨some 8, .mv (.c (.int .i64 0)), none⟩])
 (.block 0
 (.loop
 (.seq (.region [⟨some 9, .bin .lss (.t 8) (.t 7), none⟩])
 (.seq (.cond (.t 9)
 .skip
 (.exit 0))
 (.seq (.block 1
 (.seq (.region [⟨some 10, .ia 1 (.t 6) (.t 8), none⟩,
 ⟨some 11, .ld false 1 (.t 10), none⟩,
 ⟨some 5, .mv (.t 11), none⟩])
 (.seq (.region [⟨some 12, .mv (.t 5), none⟩,
 ⟨some 13, .mv (.t 3), none⟩,
 ⟨some 14, .bin .neq (.t 12) (.t 13), none⟩])
 (.cond (.t 14)
 (.seq (.region [⟨some 15, .mv (.t 5), none⟩,
 ⟨some 2, .mv (.t 15), none⟩])
 .ret)
 .skip))))
 (.region [⟨some 16, .bin .add (.t 8) (.c (.int .i64 1)), none⟩,
 ⟨some 8, .mv (.t 16), none⟩])))))))
 (.seq (.region [⟨some 17, .mv (.t 3), none⟩,
 ⟨some 2, .mv (.t 17), none⟩])
 .ret)))), [.tmp 2]⟩
theorem c58 : compFun Try.prog Try.f58 = some ir58 := by kernel_rfl
def ir59 : IFun := ⟨56, (.seq (.region [⟨some 4, .box (.t 1), none⟩,
 ⟨some 5, .box (.t 2), none⟩,
 ⟨some 6, .mv (.c (.bool false)), none⟩])
 (.seq (.region [⟨some 10, .ld false 1 (.t 5), none⟩,
 ⟨some 11, .iaa 6 1 (.t 4) (.t 10), none⟩,
 ⟨some 12, .ld false 1 (.t 11), none⟩,
 ⟨some 7, .mv (.t 12), none⟩])
 (.seq (.seq (.region [⟨some 13, .mv (.t 7), none⟩,
 ⟨some 14, .bin .eql (.t 13) (.c (.int .i64 0)), none⟩])
 (.cond (.t 14)
 (.seq (.region [⟨some 6, .mv (.c (.bool true)), none⟩])
 .ret)
 .skip))
 (.seq (.region [⟨some 8, .mv (.c (.int .i64 0)), none⟩])
 (.seq (.seq (.region [⟨some 15, .ld false 1 (.t 5), none⟩,
 ⟨some 16, .bin .add (.t 15) (.c (.int .i64 1)), none⟩,
 ⟨some 17, .mv (.c (.int .i64 0)), none⟩])
 (.block 0
 (.loop
 (.seq (.region [⟨some 18, .bin .lss (.t 17) (.t 16), none⟩])
 (.seq (.cond (.t 18)
 .skip
 (.exit 0))
 (.seq (.block 1
 (.seq (.region [⟨some 19, .mv (.t 17), none⟩,
 ⟨some 9, .alloc (.int .i64 0), none⟩,
 ⟨none, .st 1 (.t 9) (.t 19), none⟩])
 (.seq (.seq (.region [⟨some 20, .ld false 1 (.t 9), none⟩,
 ⟨some 21, .iaa 6 1 (.t 4) (.t 20), none⟩,
 ⟨some 22, .ld false 1 (.t 21), none⟩,
 ⟨some 23, .mv (.t 7), none⟩,
 ⟨some 24, .bin .neq (.t 22) (.t 23), none⟩])
 (.cond (.t 24)
 (.exit 1)
 .skip))
 (.seq (.draw [⟨⟨some 25, .mv (.t 8), none⟩, false, [], []⟩,
 ⟨⟨some 26, .mv (.t 0), none⟩, false, [], []⟩,
 ⟨⟨some 27, .nilck (.t 26), none⟩, false, [], []⟩,
 ⟨⟨some 28, .fa (.t 27) 0, none⟩, false, [], []⟩,
 ⟨⟨some 29, .fa (.t 28) 3, none⟩, false, [], []⟩,
 ⟨⟨some 30, .ld false 1 (.t 29), none⟩, false, [⟨some 30, .ld false 1 (.t 29), none⟩], []⟩,
 ⟨⟨some 31, .ld false 1 (.t 9), none⟩, false, [⟨some 31, .ld false 1 (.t 9), none⟩], []⟩,
 ⟨⟨some 32, .ia 4 (.t 30) (.t 31), none⟩, false, [], []⟩,
 ⟨⟨some 33, .fa (.t 32) 1, none⟩, false, [], []⟩,
 ⟨⟨some 34, .ld false 1 (.t 33), none⟩, false, [⟨some 34, .ld false 1 (.t 33), none⟩], []⟩,
 ⟨⟨some 35, .bin .add (.t 25) (.t 34), none⟩, false, [], []⟩,
 ⟨⟨some 8, .mv (.t 35), none⟩, false, [], []⟩])
 (.seq (.region [⟨some 36, .mv (.t 0), none⟩,
 ⟨some 37, .nilck (.t 36), none⟩,
 ⟨some 38, .fa (.t 37) 0, none⟩,
 ⟨some 39, .fa (.t 38) 4, none⟩,
 ⟨some 40, .ld false 1 (.t 39), none⟩,
 ⟨some 41, .mkfn 81 [] [(.t 9), (.t 5)], none⟩,
 ⟨some 42, .call (.c (.func 80 [] [])) [(.t 40), (.t 41)], none⟩])
 (.cond (.t 42)
 (.seq (.region [⟨some 6, .mv (.c (.bool false)), none⟩])
 .ret)
 .skip))))))
 (.region [⟨some 43, .bin .add (.t 17) (.c (.int .i64 1)), none⟩,
 ⟨some 17, .mv (.t 43), none⟩])))))))
 (.seq (.region [⟨some 44, .mv (.t 8), none⟩,
 ⟨some 45, .mv (.t 0), none⟩,
 ⟨some 46, .nilck (.t 45), none⟩,
 ⟨some 47, .fa (.t 46) 0, none⟩,
 ⟨some 48, .fa (.t 47) 0, none⟩,
 ⟨some 49, .ld false 1 (.t 48), none⟩,
 ⟨some 50, .mv (.t 7), none⟩,
 ⟨some 51, .bin .sub (.t 50) (.c (.int .i64 1)), none⟩,
 ⟨some 52, .ia 4 (.t 49) (.t 51), none⟩,
 ⟨some 53, .fa (.t 52) 1, none⟩,
 ⟨some 54, .ld false 1 (.t 53), none⟩,
 ⟨some 55, .bin .leq (.t 44) (.t 54), none⟩,
 ⟨some 6, .mv (.t 55), none⟩])
 .ret)))))), [.tmp 6]⟩
theorem c59 : compFun Try.prog Try.f59 = some ir59 := by kernel_rfl
def ir60 : IFun := ⟨8, (.seq (.region [⟨some 2, .mv (.c (.int .i64 0)), none⟩])
 (.seq (.cond (.c (.bool false))
 (.seq (.region [⟨some 3, .mv (.t 0), none⟩,
 ⟨some 4, .conv .u32 (.t 3), none⟩,
 ⟨some 5, .call (.c (.func 82 [] [])) [(.t 4)], none⟩,
 ⟨some 2, .mv (.t 5), none⟩])
 .ret)
 .skip)
 (.seq (.region [⟨some 6, .mv (.t 0), none⟩,
 ⟨some 7, .call (.c (.func 83 [] [])) [(.t 6)], none⟩,
 ⟨some 2, .mv (.t 7), none⟩])
 .ret))), [.tmp 2]⟩
theorem c60 : compFun Try.prog Try.f60 = some ir60 := by kernel_rfl
def ir61 : IFun := ⟨36, (.seq (.region [⟨some 4, .mv (.c (.int .i64 0)), none⟩])
 (.seq (.seq (.region [⟨some 9, .mv (.t 0), none⟩,
 ⟨some 10, .len false (.t 9), none⟩,
 ⟨some 11, .mv (.c (.int .i64 0)), none⟩])
 (.block 0
 (.loop
 (.seq (.region [⟨some 12, .bin .lss (.t 11) (.t 10), none⟩])
 (.seq (.cond (.t 12)
 .skip
 (.exit 0))
 (.seq (.block 1
 (.seq (.region [⟨some 13, .mv (.t 11), none⟩,
 ⟨some 14, .ia 1 (.t 9) (.t 11), none⟩,
 ⟨some 15, .ld false 1 (.t 14), none⟩,
 ⟨some 5, .mv (.t 13), none⟩,
 ⟨some 6, .mv (.t 15), none⟩])
 (.seq (.seq (.region [⟨some 16, .mv (.t 5), none⟩,
 ⟨some 17, .mv (.t 1), none⟩,
 ⟨some 18, .len false (.t 17), none⟩,
 ⟨some 19, .bin .geq (.t 16) (.t 18), none⟩])
 (.cond (.t 19)
 (.seq (.region [⟨some 4, .mv (.c (.int .i64 1)), none⟩])
 .ret)
 .skip))
 (.seq (.region [⟨some 20, .mv (.t 1), none⟩,
 ⟨some 21, .mv (.t 5), none⟩,
 ⟨some 22, .ia 1 (.t 20) (.t 21), none⟩,
 ⟨some 23, .ld false 1 (.t 22), none⟩,
 ⟨some 7, .mv (.t 23), none⟩])
 (.seq (.region [⟨some 24, .mv (.t 6), none⟩,
 ⟨some 25, .mv (.t 7), none⟩,
 ⟨some 26, .call (.c (.func 84 [] [])) [(.t 24), (.t 25)], none⟩,
 ⟨some 8, .mv (.t 26), none⟩])
 (.seq (.region [⟨some 27, .mv (.t 8), none⟩,
 ⟨some 28, .bin .neq (.t 27) (.c (.int .i64 0)), none⟩])
 (.cond (.t 28)
 (.seq (.region [⟨some 29, .mv (.t 8), none⟩,
 ⟨some 4, .mv (.t 29), none⟩])
 .ret)
 .skip)))))))
 (.region [⟨some 30, .bin .add (.t 11) (.c (.int .i64 1)), none⟩,
 ⟨some 11, .mv (.t 30), none⟩])))))))
 (.seq (.seq (.region [⟨some 31, .mv (.t 0), none⟩,
 ⟨some 32, .len false (.t 31), none⟩,
 ⟨some 33, .mv (.t 1), none⟩,
 ⟨some 34, .len false (.t 33), none⟩,
 ⟨some 35, .bin .lss (.t 32) (.t 34), none⟩])
 (.cond (.t 35)
 (.seq (.region [⟨some 4, .mv (.c (.int .i64 (-1))), none⟩])
 .ret)
 .skip))
 (.seq (.region [⟨some 4, .mv (.c (.int .i64 0)), none⟩])
 .ret)))), [.tmp 4]⟩
theorem c61 : compFun Try.prog Try.f61 = some ir61 := by kernel_rfl
def ir62 : IFun := ⟨53, (.seq (.region [⟨some 2, .box (.t 0), none⟩,
 ⟨some 4, .alloc (.bool false), none⟩])
 (.seq (.region [⟨some 9, .ld false 1 (.t 2), none⟩,
 ⟨some 10, .nilck (.t 9), none⟩,
 ⟨some 11, .ld true 6 (.t 10), none⟩,
 ⟨some 5, .alloc (.agg [.nilslice, (.int .i64 0), (.int .i64 0), .nilslice, .nilslice, .nilmap]), none⟩,
 ⟨none, .st 6 (.t 5) (.t 11), none⟩])
 (.seq (.region [⟨(some 12), .mkmap, none⟩,
 ⟨some 13, .fa (.t 5) 5, none⟩,
 ⟨none, .st 1 (.t 13) (.t 12), none⟩,
 ⟨some 14, .fa (.t 5) 0, none⟩,
 ⟨some 15, .fa (.t 14) 4, none⟩,
 ⟨none, .st 1 (.t 15) (.c .nilslice), none⟩])
 (.seq (.seq (.region [⟨some 16, .ld false 1 (.t 2), none⟩,
 ⟨some 17, .nilck (.t 16), none⟩,
 ⟨some 18, .fa (.t 17) 0, none⟩,
 ⟨some 19, .fa (.t 18) 4, none⟩,
 ⟨some 20, .ld false 1 (.t 19), none⟩,
 ⟨some 21, .len false (.t 20), none⟩,
 ⟨some 22, .mv (.c (.int .i64 0)), none⟩])
 (.block 0
 (.loop
 (.seq (.region [⟨some 23, .bin .lss (.t 22) (.t 21), none⟩])
 (.seq (.cond (.t 23)
 .skip
 (.exit 0))
 (.seq (.block 1
 (.seq (.region [⟨some 24, .mv (.t 22), none⟩,
 ⟨some 25, .ia 2 (.t 20) (.t 22), none⟩,
 ⟨some 26, .ld true 2 (.t 25), none⟩,
 ⟨some 7, .alloc (.agg [(.int .i64 0), (.int .i64 0)]), none⟩,
 ⟨some 6, .mv (.t 24), none⟩,
 ⟨none, .st 2 (.t 7) (.t 26), none⟩])
 (.seq (.region [⟨some 27, .mv (.t 1), none⟩,
 ⟨some 28, .mv (.t 6), none⟩,
 ⟨some 29, .bin .shr (.t 27) (.t 28), none⟩,
 ⟨some 30, .bin .and (.t 29) (.c (.int .i64 1)), none⟩,
 ⟨some 31, .bin .eql (.t 30) (.c (.int .i64 0)), none⟩])
 (.cond (.t 31)
 (.region [⟨some 32, .fa (.t 5) 0, none⟩,
 ⟨some 33, .fa (.t 32) 4, none⟩,
 ⟨some 34, .ld false 1 (.t 33), none⟩,
 ⟨some 35, .ld true 2 (.t 7), none⟩,
 ⟨some 36, .bldS 2 1 [(.int .i64 0), (.int .i64 0)] [(0, 2, (.t 35))], none⟩,
 ⟨some 37, .app 2 16 (.t 34) (.t 36), none⟩,
 ⟨some 38, .fa (.t 5) 0, none⟩,
 ⟨some 39, .fa (.t 38) 4, none⟩,
 ⟨none, .st 1 (.t 39) (.t 37), none⟩])
 .skip))))
 (.region [⟨some 40, .bin .add (.t 22) (.c (.int .i64 1)), none⟩,
 ⟨some 22, .mv (.t 40), none⟩])))))))
 (.seq (.seq (.region [⟨some 41, .call (.c (.func 56 [] [])) [(.t 5)], none⟩])
 (.block 2
 (.rangef (.t 41) [42]
 (.region [⟨some 8, .alloc (.agg [(.int .i64 0), (.int .i64 0), (.int .i64 0), (.int .i64 0), (.int .i64 0), (.int .i64 0)]), none⟩,
 ⟨none, .st 6 (.t 8) (.t 42), none⟩])
 (.block 3
 (.seq (.draw [⟨⟨some 43, .ld true 6 (.t 8), none⟩, false, [⟨some 43, .ld true 6 (.t 8), none⟩], []⟩,
 ⟨⟨some 44, .call (.c (.func 57 [] [])) [(.t 5), (.t 43)], none⟩, true, [], []⟩,
 ⟨⟨some 45, .fld false 0 1 (.t 44), none⟩, false, [], []⟩,
 ⟨⟨some 46, .ld false 1 (.t 2), none⟩, false, [⟨some 46, .ld false 1 (.t 2), none⟩], [1]⟩,
 ⟨⟨some 47, .nilck (.t 46), none⟩, false, [], []⟩,
 ⟨⟨some 48, .fa (.t 47) 0, none⟩, false, [], []⟩,
 ⟨⟨some 49, .fa (.t 48) 3, none⟩, false, [], []⟩,
 ⟨⟨some 50, .ld false 1 (.t 49), none⟩, false, [⟨some 50, .ld false 1 (.t 49), none⟩], [1]⟩,
 ⟨⟨some 51, .len false (.t 50), none⟩, false, [], []⟩,
 ⟨⟨some 52, .bin .eql (.t 45) (.t 51), none⟩, false, [], []⟩])
 (.cond (.t 52)
 (.seq (.region [⟨none, .st 1 (.t 4) (.c (.bool true)), none⟩])
 .ret)
 .skip))))))
 (.seq (.region [⟨none, .st 1 (.t 4) (.c (.bool false)), none⟩])
 .ret)))))), [.cell 4 false 1]⟩
theorem c62 : compFun Try.prog Try.f62 = some ir62 := by kernel_rfl
def ir63 : IFun := ⟨18, (.seq (.region [⟨some 0, .alloc (.agg [.nilslice, (.int .i64 0), (.int .i64 0), .nilslice, .nilslice]), none⟩])
 (.seq (.region [⟨some 1, .call (.c (.func 68 [] [])) [(.c (.int .i64 60)), (.c (.int .i64 80))], none⟩,
 ⟨some 2, .call (.c (.func 68 [] [])) [(.c (.int .i64 30)), (.c (.int .i64 50))], none⟩,
 ⟨some 3, .bldS 2 2 [(.int .i64 0), (.int .i64 0)] [(0, 2, (.t 1)), (2, 2, (.t 2))], none⟩,
 ⟨some 4, .bld [(.str []), (.int .i64 0), (.int .i64 0), .nilslice] [(0, 1, (.c (.str [114, 101, 100]))), (1, 1, (.c (.int .i64 5))), (2, 1, (.c (.int .i64 100))), (3, 1, (.t 3))], none⟩,
 ⟨some 5, .call (.c (.func 68 [] [])) [(.c (.int .i64 50)), (.c (.int .i64 60))], none⟩,
 ⟨some 6, .call (.c (.func 68 [] [])) [(.c (.int .i64 30)), (.c (.int .i64 40))], none⟩,
 ⟨some 7, .bldS 2 2 [(.int .i64 0), (.int .i64 0)] [(0, 2, (.t 5)), (2, 2, (.t 6))], none⟩,
 ⟨some 8, .bld [(.str []), (.int .i64 0), (.int .i64 0), .nilslice] [(0, 1, (.c (.str [98, 108, 117, 101]))), (1, 1, (.c (.int .i64 4))), (2, 1, (.c (.int .i64 160))), (3, 1, (.t 7))], none⟩,
 ⟨some 9, .bldS 4 2 [(.str []), (.int .i64 0), (.int .i64 0), .nilslice] [(0, 4, (.t 4)), (4, 4, (.t 8))], none⟩,
 ⟨some 10, .bld [(.str []), (.int .i64 0), (.int .i64 0), (.int .i64 0)] [(0, 1, (.c (.str [104, 101, 97, 100, 115]))), (1, 1, (.c (.int .i64 2))), (3, 1, (.c (.int .i64 190)))], none⟩,
 ⟨some 11, .bld [(.str []), (.int .i64 0), (.int .i64 0), (.int .i64 0)] [(0, 1, (.c (.str [119, 105, 103, 115]))), (1, 1, (.c (.int .i64 1))), (2, 1, (.c (.int .i64 1))), (3, 1, (.c (.int .i64 250)))], none⟩,
 ⟨some 12, .bld [(.str []), (.int .i64 0), (.int .i64 0), (.int .i64 0)] [(0, 1, (.c (.str [119, 97, 120]))), (1, 1, (.c (.int .i64 3))), (3, 1, (.c (.int .i64 230)))], none⟩,
 ⟨some 13, .bld [(.str []), (.int .i64 0), (.int .i64 0), (.int .i64 0)] [(0, 1, (.c (.str [103, 108, 97, 115, 115]))), (1, 1, (.c (.int .i64 2))), (2, 1, (.c (.int .i64 1))), (3, 1, (.c (.int .i64 240)))], none⟩,
 ⟨some 14, .bldS 4 4 [(.str []), (.int .i64 0), (.int .i64 0), (.int .i64 0)] [(0, 4, (.t 10)), (4, 4, (.t 11)), (8, 4, (.t 12)), (12, 4, (.t 13))], none⟩,
 ⟨some 15, .bld [(.int .i64 0), (.int .i64 0)] [(0, 1, (.c (.int .i64 0))), (1, 1, (.c (.int .i64 2)))], none⟩,
 ⟨some 16, .bldS 2 1 [(.int .i64 0), (.int .i64 0)] [(0, 2, (.t 15))], none⟩,
 ⟨some 17, .bld [.nilslice, (.int .i64 0), (.int .i64 0), .nilslice, .nilslice] [(0, 1, (.t 9)), (1, 1, (.c (.int .i64 2))), (2, 1, (.c (.int .i64 10))), (3, 1, (.t 14)), (4, 1, (.t 16))], none⟩,
 ⟨none, .st 5 (.t 0) (.t 17), none⟩])
 .ret)), [.cell 0 true 5]⟩
theorem c63 : compFun Try.prog Try.f63 = some ir63 := by kernel_rfl
def ir64 : IFun := ⟨2, (.seq (.region [⟨some 0, .mv (.c .nilslice), none⟩])
 (.seq (.region [⟨some 1, .bldS 1 4 [(.int .i64 0)] [(0, 1, (.c (.int .i64 0))), (1, 1, (.c (.int .i64 0))), (2, 1, (.c (.int .i64 1))), (3, 1, (.c (.int .i64 0)))], none⟩,
 ⟨some 0, .mv (.t 1), none⟩])
 .ret)), [.tmp 0]⟩
theorem c64 : compFun Try.prog Try.f64 = some ir64 := by kernel_rfl
def ir65 : IFun := ⟨25, (.seq (.region [⟨some 0, .alloc (.agg [.nilslice, (.int .i64 0), (.int .i64 0), .nilslice, .nilslice]), none⟩])
 (.seq (.region [⟨some 3, .call (.c (.func 63 [] [])) [], none⟩,
 ⟨some 1, .alloc (.agg [.nilslice, (.int .i64 0), (.int .i64 0), .nilslice, .nilslice]), none⟩,
 ⟨none, .st 5 (.t 1) (.t 3), none⟩])
 (.seq (.region [⟨some 4, .fa (.t 1) 0, none⟩,
 ⟨some 5, .ld false 1 (.t 4), none⟩,
 ⟨some 6, .slc 4 (.t 5) none (some (.c (.int .i64 1))) none, none⟩,
 ⟨some 7, .fa (.t 1) 0, none⟩,
 ⟨none, .st 1 (.t 7) (.t 6), none⟩])
 (.seq (.region [⟨some 8, .fa (.t 1) 0, none⟩,
 ⟨some 9, .ld false 1 (.t 8), none⟩,
 ⟨some 10, .ia 4 (.t 9) (.c (.int .i64 0)), none⟩,
 ⟨some 11, .fa (.t 10) 1, none⟩,
 ⟨none, .st 1 (.t 11) (.c (.int .i64 9)), none⟩])
 (.seq (.seq (.region [⟨some 2, .mv (.c (.int .i64 0)), none⟩])
 (.block 0
 (.loop
 (.seq (.seq (.region [⟨some 12, .mv (.t 2), none⟩,
 ⟨some 13, .fa (.t 1) 3, none⟩,
 ⟨some 14, .ld false 1 (.t 13), none⟩,
 ⟨some 15, .len false (.t 14), none⟩,
 ⟨some 16, .bin .lss (.t 12) (.t 15), none⟩])
 (.cond (.t 16)
 .skip
 (.exit 0)))
 (.seq (.block 1
 (.region [⟨some 19, .fa (.t 1) 3, none⟩,
 ⟨some 20, .ld false 1 (.t 19), none⟩,
 ⟨some 21, .mv (.t 2), none⟩,
 ⟨some 22, .ia 4 (.t 20) (.t 21), none⟩,
 ⟨some 23, .fa (.t 22) 3, none⟩,
 ⟨none, .st 1 (.t 23) (.c (.int .i64 400)), none⟩]))
 (.region [⟨some 17, .mv (.t 2), none⟩,
 ⟨some 18, .bin .add (.t 17) (.c (.int .i64 1)), none⟩,
 ⟨some 2, .mv (.t 18), none⟩]))))))
 (.seq (.region [⟨some 24, .ld true 5 (.t 1), none⟩,
 ⟨none, .st 5 (.t 0) (.t 24), none⟩])
 .ret)))))), [.cell 0 true 5]⟩
theorem c65 : compFun Try.prog Try.f65 = some ir65 := by kernel_rfl
def ir66 : IFun := ⟨31, (.seq (.region [⟨some 4, .mv (.c (.bool false)), none⟩])
 (.seq (.region [⟨some 7, .mv (.t 0), none⟩,
 ⟨some 8, .len false (.t 7), none⟩,
 ⟨some 9, .mv (.t 1), none⟩,
 ⟨some 10, .len false (.t 9), none⟩,
 ⟨some 11, .bin .eql (.t 8) (.t 10), none⟩,
 ⟨some 5, .mv (.t 11), none⟩])
 (.seq (.seq (.region [⟨some 6, .mv (.c (.int .i64 0)), none⟩])
 (.block 0
 (.loop
 (.seq (.seq (.region [⟨some 12, .mv (.t 5), none⟩,
 ⟨some 13, .mv (.t 12), none⟩,
 ⟨(some 14), (.mv (.t 6)), (some (13, true))⟩,
 ⟨(some 15), (.mv (.t 0)), (some (13, true))⟩,
 ⟨(some 16), (.len false (.t 15)), (some (13, true))⟩,
 ⟨(some 17), (.bin .lss (.t 14) (.t 16)), (some (13, true))⟩,
 ⟨some 18, .pick (.t 13) (.t 17) (.c (.bool false)), none⟩])
 (.cond (.t 18)
 .skip
 (.exit 0)))
 (.seq (.block 1
 (.draw [⟨⟨some 21, .mv (.t 0), none⟩, false, [], []⟩,
 ⟨⟨some 22, .mv (.t 6), none⟩, false, [], []⟩,
 ⟨⟨some 23, .ia 1 (.t 21) (.t 22), none⟩, false, [], []⟩,
 ⟨⟨some 24, .ld false 1 (.t 23), none⟩, false, [⟨some 24, .ld false 1 (.t 23), none⟩], []⟩,
 ⟨⟨some 25, .mv (.t 1), none⟩, false, [], []⟩,
 ⟨⟨some 26, .mv (.t 6), none⟩, false, [], []⟩,
 ⟨⟨some 27, .ia 1 (.t 25) (.t 26), none⟩, false, [], []⟩,
 ⟨⟨some 28, .ld false 1 (.t 27), none⟩, false, [⟨some 28, .ld false 1 (.t 27), none⟩], []⟩,
 ⟨⟨some 29, .bin .eql (.t 24) (.t 28), none⟩, false, [], []⟩,
 ⟨⟨some 5, .mv (.t 29), none⟩, false, [], []⟩]))
 (.region [⟨some 19, .mv (.t 6), none⟩,
 ⟨some 20, .bin .add (.t 19) (.c (.int .i64 1)), none⟩,
 ⟨some 6, .mv (.t 20), none⟩]))))))
 (.seq (.region [⟨some 30, .mv (.t 5), none⟩,
 ⟨some 4, .mv (.t 30), none⟩])
 .ret)))), [.tmp 4]⟩
theorem c66 : compFun Try.prog Try.f66 = some ir66 := by kernel_rfl
def ir67 : IFun := ⟨31, (.seq (.region [⟨some 4, .mv (.c (.bool false)), none⟩])
 (.seq (.region [⟨some 7, .mv (.t 0), none⟩,
 ⟨some 8, .len false (.t 7), none⟩,
 ⟨some 9, .mv (.t 1), none⟩,
 ⟨some 10, .len false (.t 9), none⟩,
 ⟨some 11, .bin .eql (.t 8) (.t 10), none⟩,
 ⟨some 5, .mv (.t 11), none⟩])
 (.seq (.seq (.region [⟨some 6, .mv (.c (.int .i64 0)), none⟩])
 (.block 0
 (.loop
 (.seq (.seq (.region [⟨some 12, .mv (.t 5), none⟩,
 ⟨some 13, .mv (.t 12), none⟩,
 ⟨(some 14), (.mv (.t 6)), (some (13, true))⟩,
 ⟨(some 15), (.mv (.t 0)), (some (13, true))⟩,
 ⟨(some 16), (.len false (.t 15)), (some (13, true))⟩,
 ⟨(some 17), (.bin .lss (.t 14) (.t 16)), (some (13, true))⟩,
 ⟨some 18, .pick (.t 13) (.t 17) (.c (.bool false)), none⟩])
 (.cond (.t 18)
 .skip
 (.exit 0)))
 (.seq (.block 1
 (.draw [⟨⟨some 21, .mv (.t 0), none⟩, false, [], []⟩,
 ⟨⟨some 22, .mv (.t 6), none⟩, false, [], []⟩,
 ⟨⟨some 23, .ia 2 (.t 21) (.t 22), none⟩, false, [], []⟩,
 ⟨⟨some 24, .ld true 2 (.t 23), none⟩, false, [⟨some 24, .ld true 2 (.t 23), none⟩], []⟩,
 ⟨⟨some 25, .mv (.t 1), none⟩, false, [], []⟩,
 ⟨⟨some 26, .mv (.t 6), none⟩, false, [], []⟩,
 ⟨⟨some 27, .ia 2 (.t 25) (.t 26), none⟩, false, [], []⟩,
 ⟨⟨some 28, .ld true 2 (.t 27), none⟩, false, [⟨some 28, .ld true 2 (.t 27), none⟩], []⟩,
 ⟨⟨some 29, .eqv (.ag [.i, .i]) false (.t 24) (.t 28), none⟩, false, [], []⟩,
 ⟨⟨some 5, .mv (.t 29), none⟩, false, [], []⟩]))
 (.region [⟨some 19, .mv (.t 6), none⟩,
 ⟨some 20, .bin .add (.t 19) (.c (.int .i64 1)), none⟩,
 ⟨some 6, .mv (.t 20), none⟩]))))))
 (.seq (.region [⟨some 30, .mv (.t 5), none⟩,
 ⟨some 4, .mv (.t 30), none⟩])
 .ret)))), [.tmp 4]⟩
theorem c67 : compFun Try.prog Try.f67 = some ir67 := by kernel_rfl
def ir68 : IFun := ⟨8, (.seq (.region [⟨some 4, .alloc (.agg [(.int .i64 0), (.int .i64 0)]), none⟩])
 (.seq (.region [⟨some 5, .mv (.t 0), none⟩,
 ⟨some 6, .mv (.t 1), none⟩,
 ⟨some 7, .bld [(.int .i64 0), (.int .i64 0)] [(0, 1, (.t 5)), (1, 1, (.t 6))], none⟩,
 ⟨none, .st 2 (.t 4) (.t 7), none⟩])
 .ret)), [.cell 4 true 2]⟩
theorem c68 : compFun Try.prog Try.f68 = some ir68 := by kernel_rfl
def ir69 : IFun := ⟨7, (.region [⟨some 4, .mv (.t 0), none⟩,
 ⟨some 5, .mv (.t 1), none⟩,
 ⟨some 6, .call (.c (.func 85 [] [])) [(.t 4), (.t 5), (.c (.func 86 [] []))], none⟩]), []⟩
theorem c69 : compFun Try.prog Try.f69 = some ir69 := by kernel_rfl
def ir70 : IFun := ⟨7, (.region [⟨some 4, .mv (.t 0), none⟩,
 ⟨some 5, .mv (.t 1), none⟩,
 ⟨some 6, .call (.c (.func 87 [] [])) [(.t 4), (.t 5), (.c (.func 88 [] []))], none⟩]), []⟩
theorem c70 : compFun Try.prog Try.f70 = some ir70 := by kernel_rfl
def ir71 : IFun := ⟨7, (.region [⟨some 4, .mv (.t 0), none⟩,
 ⟨some 5, .mv (.t 1), none⟩,
 ⟨some 6, .call (.c (.func 89 [] [])) [(.t 4), (.t 5), (.c (.func 90 [] []))], none⟩]), []⟩
theorem c71 : compFun Try.prog Try.f71 = some ir71 := by kernel_rfl
def ir72 : IFun := ⟨9, (.seq (.region [⟨some 4, .mv (.c (.bool false)), none⟩])
 (.seq (.region [⟨some 5, .mv (.t 0), none⟩,
 ⟨some 6, .mv (.t 1), none⟩,
 ⟨some 7, .call (.c (.func 91 [] [])) [(.t 5), (.t 6)], none⟩,
 ⟨some 8, .bin .geq (.t 7) (.c (.int .i64 0)), none⟩,
 ⟨some 4, .mv (.t 8), none⟩])
 .ret)), [.tmp 4]⟩
theorem c72 : compFun Try.prog Try.f72 = some ir72 := by kernel_rfl
def ir73 : IFun := ⟨13, (.seq (.region [⟨some 4, .mv (.c (.bool false)), none⟩])
 (.seq (.region [⟨some 5, .mv (.t 0), none⟩,
 ⟨some 6, .ld false 1 (.t 1), none⟩,
 ⟨some 7, .bin .lss (.t 5) (.t 6), none⟩,
 ⟨some 8, .mv (.t 7), none⟩,
 ⟨(some 9), (.mv (.t 0)), (some (8, false))⟩,
 ⟨(some 10), (.ld false 1 (.t 2)), (some (8, false))⟩,
 ⟨(some 11), (.bin .gtr (.t 9) (.t 10)), (some (8, false))⟩,
 ⟨some 12, .pick (.t 8) (.c (.bool true)) (.t 11), none⟩,
 ⟨some 4, .mv (.t 12), none⟩])
 .ret)), [.tmp 4]⟩
theorem c73 : compFun Try.prog Try.f73 = some ir73 := by kernel_rfl
def ir74 : IFun := ⟨22, (.seq (.region [⟨some 3, .box (.t 0), none⟩,
 ⟨some 4, .box (.t 1), none⟩,
 ⟨some 5, .box (.t 2), none⟩,
 ⟨some 6, .mv (.c (.int .i64 0)), none⟩])
 (.seq (.block 0
 (.seq (.draw [⟨⟨some 8, .ld false 1 (.t 5), none⟩, false, [⟨some 8, .ld false 1 (.t 5), none⟩], []⟩,
 ⟨⟨some 9, .ld false 1 (.t 3), none⟩, false, [⟨some 9, .ld false 1 (.t 3), none⟩], []⟩,
 ⟨⟨some 10, .ld false 1 (.t 4), none⟩, false, [⟨some 10, .ld false 1 (.t 4), none⟩], []⟩,
 ⟨⟨some 11, .ia 4 (.t 9) (.t 10), none⟩, false, [], []⟩,
 ⟨⟨some 12, .ld true 4 (.t 11), none⟩, false, [⟨some 12, .ld true 4 (.t 11), none⟩], []⟩,
 ⟨⟨some 13, .call (.t 8) [(.t 12)], none⟩, true, [], []⟩,
 ⟨⟨some 14, .call (.c (.func 92 [] [])) [(.t 13)], none⟩, true, [], []⟩,
 ⟨⟨some 15, .un .not (.t 14), none⟩, false, [], []⟩,
 ⟨⟨some 7, .mv (.t 15), none⟩, false, [], []⟩])
 (.cond (.t 7)
 (.seq (.region [⟨some 6, .mv (.c (.int .i64 6)), none⟩])
 .ret)
 (.seq (.region [⟨some 17, .ld false 1 (.t 3), none⟩,
 ⟨some 18, .ld false 1 (.t 4), none⟩,
 ⟨some 19, .slc 4 (.t 17) none (some (.t 18)) none, none⟩,
 ⟨some 20, .mkfn 94 [] [(.t 5), (.t 3), (.t 4)], none⟩,
 ⟨some 21, .call (.c (.func 93 [] [])) [(.t 19), (.t 20)], none⟩,
 ⟨some 16, .mv (.t 21), none⟩])
 (.cond (.t 16)
 (.seq (.region [⟨some 6, .mv (.c (.int .i64 5)), none⟩])
 .ret)
 .skip)))))
 (.seq (.region [⟨some 6, .mv (.c (.int .i64 0)), none⟩])
 .ret))), [.tmp 6]⟩
theorem c74 : compFun Try.prog Try.f74 = some ir74 := by kernel_rfl
def ir75 : IFun := ⟨5, (.seq (.region [⟨some 1, .box (.t 0), none⟩,
 ⟨some 2, .mv (.c (.str [])), none⟩])
 (.seq (.region [⟨some 3, .fa (.t 1) 0, none⟩,
 ⟨some 4, .ld false 1 (.t 3), none⟩,
 ⟨some 2, .mv (.t 4), none⟩])
 .ret)), [.tmp 2]⟩
theorem c75 : compFun Try.prog Try.f75 = some ir75 := by kernel_rfl
def ir76 : IFun := ⟨22, (.seq (.region [⟨some 3, .box (.t 0), none⟩,
 ⟨some 4, .box (.t 1), none⟩,
 ⟨some 5, .box (.t 2), none⟩,
 ⟨some 6, .mv (.c (.int .i64 0)), none⟩])
 (.seq (.block 0
 (.seq (.draw [⟨⟨some 8, .ld false 1 (.t 5), none⟩, false, [⟨some 8, .ld false 1 (.t 5), none⟩], []⟩,
 ⟨⟨some 9, .ld false 1 (.t 3), none⟩, false, [⟨some 9, .ld false 1 (.t 3), none⟩], []⟩,
 ⟨⟨some 10, .ld false 1 (.t 4), none⟩, false, [⟨some 10, .ld false 1 (.t 4), none⟩], []⟩,
 ⟨⟨some 11, .ia 4 (.t 9) (.t 10), none⟩, false, [], []⟩,
 ⟨⟨some 12, .ld true 4 (.t 11), none⟩, false, [⟨some 12, .ld true 4 (.t 11), none⟩], []⟩,
 ⟨⟨some 13, .call (.t 8) [(.t 12)], none⟩, true, [], []⟩,
 ⟨⟨some 14, .call (.c (.func 92 [] [])) [(.t 13)], none⟩, true, [], []⟩,
 ⟨⟨some 15, .un .not (.t 14), none⟩, false, [], []⟩,
 ⟨⟨some 7, .mv (.t 15), none⟩, false, [], []⟩])
 (.cond (.t 7)
 (.seq (.region [⟨some 6, .mv (.c (.int .i64 6)), none⟩])
 .ret)
 (.seq (.region [⟨some 17, .ld false 1 (.t 3), none⟩,
 ⟨some 18, .ld false 1 (.t 4), none⟩,
 ⟨some 19, .slc 4 (.t 17) none (some (.t 18)) none, none⟩,
 ⟨some 20, .mkfn 96 [] [(.t 5), (.t 3), (.t 4)], none⟩,
 ⟨some 21, .call (.c (.func 95 [] [])) [(.t 19), (.t 20)], none⟩,
 ⟨some 16, .mv (.t 21), none⟩])
 (.cond (.t 16)
 (.seq (.region [⟨some 6, .mv (.c (.int .i64 5)), none⟩])
 .ret)
 .skip)))))
 (.seq (.region [⟨some 6, .mv (.c (.int .i64 0)), none⟩])
 .ret))), [.tmp 6]⟩
theorem c76 : compFun Try.prog Try.f76 = some ir76 := by kernel_rfl
def ir77 : IFun := ⟨5, (.seq (.region [⟨some 1, .box (.t 0), none⟩,
 ⟨some 2, .mv (.c (.str [])), none⟩])
 (.seq (.region [⟨some 3, .fa (.t 1) 0, none⟩,
 ⟨some 4, .ld false 1 (.t 3), none⟩,
 ⟨some 2, .mv (.t 4), none⟩])
 .ret)), [.tmp 2]⟩
theorem c77 : compFun Try.prog Try.f77 = some ir77 := by kernel_rfl
def ir78 : IFun := ⟨8, (.seq (.region [⟨some 2, .box (.t 0), none⟩])
 (.seq (.region [⟨some 3, .alloc (.agg [(.int .i64 0), (.int .i64 0), (.int .i64 0), (.int .i64 0), (.int .i64 0), (.int .i64 0)]), none⟩])
 (.seq (.region [⟨some 4, .alloc .nilfunc, none⟩])
 (.seq (.region [⟨some 5, .mkfn 79 [] [(.t 1), (.t 2), (.t 3), (.t 4)], none⟩,
 ⟨none, .st 1 (.t 4) (.t 5), none⟩])
 (.region [⟨some 6, .ld false 1 (.t 4), none⟩,
 ⟨some 7, .call (.t 6) [(.c (.int .i64 0))], none⟩]))))), []⟩
theorem c78 : compFun Try.prog Try.f78 = some ir78 := by kernel_rfl
def ir79 : IFun := ⟨55, (.seq (.region [⟨some 6, .mv (.c (.bool false)), none⟩])
 (.seq (.seq (.region [⟨some 8, .mv (.t 0), none⟩,
 ⟨some 9, .ld false 1 (.t 1), none⟩,
 ⟨some 10, .nilck (.t 9), none⟩,
 ⟨some 11, .fa (.t 10) 0, none⟩,
 ⟨some 12, .fa (.t 11) 3, none⟩,
 ⟨some 13, .ld false 1 (.t 12), none⟩,
 ⟨some 14, .len false (.t 13), none⟩,
 ⟨some 15, .bin .eql (.t 8) (.t 14), none⟩])
 (.cond (.t 15)
 (.seq (.region [⟨some 16, .ld false 1 (.t 2), none⟩,
 ⟨some 17, .ld true 6 (.t 3), none⟩,
 ⟨some 18, .call (.t 16) [(.t 17)], none⟩,
 ⟨some 6, .mv (.t 18), none⟩])
 .ret)
 .skip))
 (.seq (.seq (.region [⟨some 19, .ld false 1 (.t 1), none⟩,
 ⟨some 20, .nilck (.t 19), none⟩,
 ⟨some 21, .fa (.t 20) 0, none⟩,
 ⟨some 22, .fa (.t 21) 0, none⟩,
 ⟨some 23, .ld false 1 (.t 22), none⟩,
 ⟨some 24, .len false (.t 23), none⟩,
 ⟨some 25, .bin .add (.t 24) (.c (.int .i64 1)), none⟩,
 ⟨some 26, .mv (.c (.int .i64 0)), none⟩])
 (.block 0
 (.loop
 (.seq (.region [⟨some 27, .bin .lss (.t 26) (.t 25), none⟩])
 (.seq (.cond (.t 27)
 .skip
 (.exit 0))
 (.seq (.block 1
 (.seq (.region [⟨some 28, .mv (.t 26), none⟩,
 ⟨some 7, .mv (.t 28), none⟩])
 (.seq (.region [⟨some 29, .mv (.t 0), none⟩,
 ⟨some 30, .mv (.t 7), none⟩,
 ⟨some 31, .bin .add (.t 30) (.c (.int .i64 1)), none⟩,
 ⟨some 32, .ld false 1 (.t 1), none⟩,
 ⟨some 33, .nilck (.t 32), none⟩,
 ⟨some 34, .fa (.t 33) 0, none⟩,
 ⟨some 35, .fa (.t 34) 0, none⟩,
 ⟨some 36, .ld false 1 (.t 35), none⟩,
 ⟨some 37, .len false (.t 36), none⟩,
 ⟨some 38, .bin .add (.t 37) (.c (.int .i64 1)), none⟩,
 ⟨some 39, .bin .rem (.t 31) (.t 38), none⟩,
 ⟨some 40, .iaa 6 1 (.t 3) (.t 29), none⟩,
 ⟨none, .st 1 (.t 40) (.t 39), none⟩])
 (.seq (.region [⟨some 41, .ld false 1 (.t 1), none⟩,
 ⟨some 42, .ld true 6 (.t 3), none⟩,
 ⟨some 43, .mv (.t 0), none⟩,
 ⟨some 44, .call (.c (.func 59 [] [])) [(.t 41), (.t 42), (.t 43)], none⟩,
 ⟨some 45, .mv (.t 44), none⟩,
 ⟨(some 46), (.ld false 1 (.t 4)), (some (45, true))⟩,
 ⟨(some 47), (.mv (.t 0)), (some (45, true))⟩,
 ⟨(some 48), (.bin .add (.t 47) (.c (.int .i64 1))), (some (45, true))⟩,
 ⟨(some 49), (.call (.t 46) [(.t 48)]), (some (45, true))⟩,
 ⟨(some 50), (.un .not (.t 49)), (some (45, true))⟩,
 ⟨some 51, .pick (.t 45) (.t 50) (.c (.bool false)), none⟩])
 (.cond (.t 51)
 (.seq (.region [⟨some 6, .mv (.c (.bool false)), none⟩])
 .ret)
 .skip)))))
 (.region [⟨some 52, .bin .add (.t 26) (.c (.int .i64 1)), none⟩,
 ⟨some 26, .mv (.t 52), none⟩])))))))
 (.seq (.region [⟨some 53, .mv (.t 0), none⟩,
 ⟨some 54, .iaa 6 1 (.t 3) (.t 53), none⟩,
 ⟨none, .st 1 (.t 54) (.c (.int .i64 0)), none⟩])
 (.seq (.region [⟨some 6, .mv (.c (.bool true)), none⟩])
 .ret))))), [.tmp 6]⟩
theorem c79 : compFun Try.prog Try.f79 = some ir79 := by kernel_rfl
def ir80 : IFun := ⟨9, (.seq (.region [⟨some 4, .mv (.c (.bool false)), none⟩])
 (.seq (.region [⟨some 5, .mv (.t 0), none⟩,
 ⟨some 6, .mv (.t 1), none⟩,
 ⟨some 7, .call (.c (.func 97 [] [])) [(.t 5), (.t 6)], none⟩,
 ⟨some 8, .bin .geq (.t 7) (.c (.int .i64 0)), none⟩,
 ⟨some 4, .mv (.t 8), none⟩])
 .ret)), [.tmp 4]⟩
theorem c80 : compFun Try.prog Try.f80 = some ir80 := by kernel_rfl
def ir81 : IFun := ⟨10, (.seq (.region [⟨some 3, .box (.t 0), none⟩,
 ⟨some 4, .mv (.c (.bool false)), none⟩])
 (.seq (.region [⟨some 5, .ld true 2 (.t 3), none⟩,
 ⟨some 6, .ld false 1 (.t 1), none⟩,
 ⟨some 7, .ld false 1 (.t 2), none⟩,
 ⟨some 8, .bld [(.int .i64 0), (.int .i64 0)] [(0, 1, (.t 6)), (1, 1, (.t 7))], none⟩,
 ⟨some 9, .eqv (.ag [.i, .i]) false (.t 5) (.t 8), none⟩,
 ⟨some 4, .mv (.t 9), none⟩])
 .ret)), [.tmp 4]⟩
theorem c81 : compFun Try.prog Try.f81 = some ir81 := by kernel_rfl
def ir82 : IFun := ⟨21, (.seq (.region [⟨some 2, .mv (.c (.int .i64 0)), none⟩])
 (.seq (.draw [⟨⟨some 3, .mv (.t 0), none⟩, false, [], []⟩,
 ⟨⟨some 4, .bin .shr (.t 3) (.c (.int .u64 24)), none⟩, false, [], []⟩,
 ⟨⟨some 5, .ixs (.c (.str [0, 1, 1, 2, 1, 2, 2, 3, 1, 2, 2, 3, 2, 3, 3, 4, 1, 2, 2, 3, 2, 3, 3, 4, 2, 3, 3, 4, 3, 4, 4, 5, 1, 2, 2, 3, 2, 3, 3, 4, 2, 3, 3, 4, 3, 4, 4, 5, 2, 3, 3, 4, 3, 4, 4, 5, 3, 4, 4, 5, 4, 5, 5, 6, 1, 2, 2, 3, 2, 3, 3, 4, 2, 3, 3, 4, 3, 4, 4, 5, 2, 3, 3, 4, 3, 4, 4, 5, 3, 4, 4, 5, 4, 5, 5, 6, 2, 3, 3, 4, 3, 4, 4, 5, 3, 4, 4, 5, 4, 5, 5, 6, 3, 4, 4, 5, 4, 5, 5, 6, 4, 5, 5, 6, 5, 6, 6, 7, 1, 2, 2, 3, 2, 3, 3, 4, 2, 3, 3, 4, 3, 4, 4, 5, 2, 3, 3, 4, 3, 4, 4, 5, 3, 4, 4, 5, 4, 5, 5, 6, 2, 3, 3, 4, 3, 4, 4, 5, 3, 4, 4, 5, 4, 5, 5, 6, 3, 4, 4, 5, 4, 5, 5, 6, 4, 5, 5, 6, 5, 6, 6, 7, 2, 3, 3, 4, 3, 4, 4, 5, 3, 4, 4, 5, 4, 5, 5, 6, 3, 4, 4, 5, 4, 5, 5, 6, 4, 5, 5, 6, 5, 6, 6, 7, 3, 4, 4, 5, 4, 5, 5, 6, 4, 5, 5, 6, 5, 6, 6, 7, 4, 5, 5, 6, 5, 6, 6, 7, 5, 6, 6, 7, 6, 7, 7, 8])) (.t 4), none⟩, false, [], []⟩,
 ⟨⟨some 6, .mv (.t 0), none⟩, false, [], []⟩,
 ⟨⟨some 7, .bin .shr (.t 6) (.c (.int .u64 16)), none⟩, false, [], []⟩,
 ⟨⟨some 8, .bin .and (.t 7) (.c (.int .u32 255)), none⟩, false, [], []⟩,
 ⟨⟨some 9, .ixs (.c (.str [0, 1, 1, 2, 1, 2, 2, 3, 1, 2, 2, 3, 2, 3, 3, 4, 1, 2, 2, 3, 2, 3, 3, 4, 2, 3, 3, 4, 3, 4, 4, 5, 1, 2, 2, 3, 2, 3, 3, 4, 2, 3, 3, 4, 3, 4, 4, 5, 2, 3, 3, 4, 3, 4, 4, 5, 3, 4, 4, 5, 4, 5, 5, 6, 1, 2, 2, 3, 2, 3, 3, 4, 2, 3, 3, 4, 3, 4, 4, 5, 2, 3, 3, 4, 3, 4, 4, 5, 3, 4, 4, 5, 4, 5, 5, 6, 2, 3, 3, 4, 3, 4, 4, 5, 3, 4, 4, 5, 4, 5, 5, 6, 3, 4, 4, 5, 4, 5, 5, 6, 4, 5, 5, 6, 5, 6, 6, 7, 1, 2, 2, 3, 2, 3, 3, 4, 2, 3, 3, 4, 3, 4, 4, 5, 2, 3, 3, 4, 3, 4, 4, 5, 3, 4, 4, 5, 4, 5, 5, 6, 2, 3, 3, 4, 3, 4, 4, 5, 3, 4, 4, 5, 4, 5, 5, 6, 3, 4, 4, 5, 4, 5, 5, 6, 4, 5, 5, 6, 5, 6, 6, 7, 2, 3, 3, 4, 3, 4, 4, 5, 3, 4, 4, 5, 4, 5, 5, 6, 3, 4, 4, 5, 4, 5, 5, 6, 4, 5, 5, 6, 5, 6, 6, 7, 3, 4, 4, 5, 4, 5, 5, 6, 4, 5, 5, 6, 5, 6, 6, 7, 4, 5, 5, 6, 5, 6, 6, 7, 5, 6, 6, 7, 6, 7, 7, 8])) (.t 8), none⟩, false, [], []⟩,
 ⟨⟨some 10, .bin .add (.t 5) (.t 9), none⟩, false, [], []⟩,
 ⟨⟨some 11, .mv (.t 0), none⟩, false, [], []⟩,
 ⟨⟨some 12, .bin .shr (.t 11) (.c (.int .u64 8)), none⟩, false, [], []⟩,
 ⟨⟨some 13, .bin .and (.t 12) (.c (.int .u32 255)), none⟩, false, [], []⟩,
 ⟨⟨some 14, .ixs (.c (.str [0, 1, 1, 2, 1, 2, 2, 3, 1, 2, 2, 3, 2, 3, 3, 4, 1, 2, 2, 3, 2, 3, 3, 4, 2, 3, 3, 4, 3, 4, 4, 5, 1, 2, 2, 3, 2, 3, 3, 4, 2, 3, 3, 4, 3, 4, 4, 5, 2, 3, 3, 4, 3, 4, 4, 5, 3, 4, 4, 5, 4, 5, 5, 6, 1, 2, 2, 3, 2, 3, 3, 4, 2, 3, 3, 4, 3, 4, 4, 5, 2, 3, 3, 4, 3, 4, 4, 5, 3, 4, 4, 5, 4, 5, 5, 6, 2, 3, 3, 4, 3, 4, 4, 5, 3, 4, 4, 5, 4, 5, 5, 6, 3, 4, 4, 5, 4, 5, 5, 6, 4, 5, 5, 6, 5, 6, 6, 7, 1, 2, 2, 3, 2, 3, 3, 4, 2, 3, 3, 4, 3, 4, 4, 5, 2, 3, 3, 4, 3, 4, 4, 5, 3, 4, 4, 5, 4, 5, 5, 6, 2, 3, 3, 4, 3, 4, 4, 5, 3, 4, 4, 5, 4, 5, 5, 6, 3, 4, 4, 5, 4, 5, 5, 6, 4, 5, 5, 6, 5, 6, 6, 7, 2, 3, 3, 4, 3, 4, 4, 5, 3, 4, 4, 5, 4, 5, 5, 6, 3, 4, 4, 5, 4, 5, 5, 6, 4, 5, 5, 6, 5, 6, 6, 7, 3, 4, 4, 5, 4, 5, 5, 6, 4, 5, 5, 6, 5, 6, 6, 7, 4, 5, 5, 6, 5, 6, 6, 7, 5, 6, 6, 7, 6, 7, 7, 8])) (.t 13), none⟩, false, [], []⟩,
 ⟨⟨some 15, .bin .add (.t 10) (.t 14), none⟩, false, [], []⟩,
 ⟨⟨some 16, .mv (.t 0), none⟩, false, [], []⟩,
 ⟨⟨some 17, .bin .and (.t 16) (.c (.int .u32 255)), none⟩, false, [], []⟩,
 ⟨⟨some 18, .ixs (.c (.str [0, 1, 1, 2, 1, 2, 2, 3, 1, 2, 2, 3, 2, 3, 3, 4, 1, 2, 2, 3, 2, 3, 3, 4, 2, 3, 3, 4, 3, 4, 4, 5, 1, 2, 2, 3, 2, 3, 3, 4, 2, 3, 3, 4, 3, 4, 4, 5, 2, 3, 3, 4, 3, 4, 4, 5, 3, 4, 4, 5, 4, 5, 5, 6, 1, 2, 2, 3, 2, 3, 3, 4, 2, 3, 3, 4, 3, 4, 4, 5, 2, 3, 3, 4, 3, 4, 4, 5, 3, 4, 4, 5, 4, 5, 5, 6, 2, 3, 3, 4, 3, 4, 4, 5, 3, 4, 4, 5, 4, 5, 5, 6, 3, 4, 4, 5, 4, 5, 5, 6, 4, 5, 5, 6, 5, 6, 6, 7, 1, 2, 2, 3, 2, 3, 3, 4, 2, 3, 3, 4, 3, 4, 4, 5, 2, 3, 3, 4, 3, 4, 4, 5, 3, 4, 4, 5, 4, 5, 5, 6, 2, 3, 3, 4, 3, 4, 4, 5, 3, 4, 4, 5, 4, 5, 5, 6, 3, 4, 4, 5, 4, 5, 5, 6, 4, 5, 5, 6, 5, 6, 6, 7, 2, 3, 3, 4, 3, 4, 4, 5, 3, 4, 4, 5, 4, 5, 5, 6, 3, 4, 4, 5, 4, 5, 5, 6, 4, 5, 5, 6, 5, 6, 6, 7, 3, 4, 4, 5, 4, 5, 5, 6, 4, 5, 5, 6, 5, 6, 6, 7, 4, 5, 5, 6, 5, 6, 6, 7, 5, 6, 6, 7, 6, 7, 7, 8])) (.t 17), none⟩, false, [], []⟩,
 ⟨⟨some 19, .bin .add (.t 15) (.t 18), none⟩, false, [], []⟩,
 ⟨⟨some 20, .conv .i64 (.t 19), none⟩, false, [], []⟩,
 ⟨⟨some 2, .mv (.t 20), none⟩, false, [], []⟩])
 .ret)), [.tmp 2]⟩
theorem c82 : compFun Try.prog Try.f82 = some ir82 := by kernel_rfl
def ir83 : IFun := ⟨35, (.seq (.region [⟨some 2, .mv (.c (.int .i64 0)), none⟩])
 (.seq (.region [⟨some 3, .mv (.t 0), none⟩,
 ⟨some 4, .bin .shr (.t 3) (.c (.int .u64 1)), none⟩,
 ⟨some 5, .bin .and (.t 4) (.c (.int .u64 6148914691236517205)), none⟩,
 ⟨some 6, .mv (.t 0), none⟩,
 ⟨some 7, .bin .and (.t 6) (.c (.int .u64 6148914691236517205)), none⟩,
 ⟨some 8, .bin .add (.t 5) (.t 7), none⟩,
 ⟨some 0, .mv (.t 8), none⟩])
 (.seq (.region [⟨some 9, .mv (.t 0), none⟩,
 ⟨some 10, .bin .shr (.t 9) (.c (.int .u64 2)), none⟩,
 ⟨some 11, .bin .and (.t 10) (.c (.int .u64 3689348814741910323)), none⟩,
 ⟨some 12, .mv (.t 0), none⟩,
 ⟨some 13, .bin .and (.t 12) (.c (.int .u64 3689348814741910323)), none⟩,
 ⟨some 14, .bin .add (.t 11) (.t 13), none⟩,
 ⟨some 0, .mv (.t 14), none⟩])
 (.seq (.region [⟨some 15, .mv (.t 0), none⟩,
 ⟨some 16, .bin .shr (.t 15) (.c (.int .u64 4)), none⟩,
 ⟨some 17, .mv (.t 0), none⟩,
 ⟨some 18, .bin .add (.t 16) (.t 17), none⟩,
 ⟨some 19, .bin .and (.t 18) (.c (.int .u64 1085102592571150095)), none⟩,
 ⟨some 0, .mv (.t 19), none⟩])
 (.seq (.region [⟨some 20, .mv (.t 0), none⟩,
 ⟨some 21, .mv (.t 0), none⟩,
 ⟨some 22, .bin .shr (.t 21) (.c (.int .u64 8)), none⟩,
 ⟨some 23, .bin .add (.t 20) (.t 22), none⟩,
 ⟨some 0, .mv (.t 23), none⟩])
 (.seq (.region [⟨some 24, .mv (.t 0), none⟩,
 ⟨some 25, .mv (.t 0), none⟩,
 ⟨some 26, .bin .shr (.t 25) (.c (.int .u64 16)), none⟩,
 ⟨some 27, .bin .add (.t 24) (.t 26), none⟩,
 ⟨some 0, .mv (.t 27), none⟩])
 (.seq (.region [⟨some 28, .mv (.t 0), none⟩,
 ⟨some 29, .mv (.t 0), none⟩,
 ⟨some 30, .bin .shr (.t 29) (.c (.int .u64 32)), none⟩,
 ⟨some 31, .bin .add (.t 28) (.t 30), none⟩,
 ⟨some 0, .mv (.t 31), none⟩])
 (.seq (.region [⟨some 32, .mv (.t 0), none⟩,
 ⟨some 33, .conv .i64 (.t 32), none⟩,
 ⟨some 34, .bin .and (.t 33) (.c (.int .i64 127)), none⟩,
 ⟨some 2, .mv (.t 34), none⟩])
 .ret)))))))), [.tmp 2]⟩
theorem c83 : compFun Try.prog Try.f83 = some ir83 := by kernel_rfl
def ir84 : IFun := ⟨20, (.seq (.region [⟨some 4, .mv (.c (.int .i64 0)), none⟩])
 (.seq (.region [⟨some 7, .mv (.t 0), none⟩,
 ⟨some 8, .call (.c (.func 98 [] [])) [(.t 7)], none⟩,
 ⟨some 5, .mv (.t 8), none⟩])
 (.seq (.region [⟨some 9, .mv (.t 1), none⟩,
 ⟨some 10, .call (.c (.func 98 [] [])) [(.t 9)], none⟩,
 ⟨some 6, .mv (.t 10), none⟩])
 (.seq (.seq (.region [⟨some 11, .mv (.t 5), none⟩])
 (.cond (.t 11)
 (.seq (.seq (.region [⟨some 12, .mv (.t 6), none⟩])
 (.cond (.t 12)
 (.seq (.region [⟨some 4, .mv (.c (.int .i64 0)), none⟩])
 .ret)
 .skip))
 (.seq (.region [⟨some 4, .mv (.c (.int .i64 (-1))), none⟩])
 .ret))
 .skip))
 (.seq (.seq (.region [⟨some 13, .mv (.t 6), none⟩])
 (.cond (.t 13)
 (.seq (.region [⟨some 4, .mv (.c (.int .i64 1)), none⟩])
 .ret)
 .skip))
 (.seq (.seq (.region [⟨some 14, .mv (.t 0), none⟩,
 ⟨some 15, .mv (.t 1), none⟩,
 ⟨some 16, .bin .lss (.t 14) (.t 15), none⟩])
 (.cond (.t 16)
 (.seq (.region [⟨some 4, .mv (.c (.int .i64 (-1))), none⟩])
 .ret)
 .skip))
 (.seq (.seq (.region [⟨some 17, .mv (.t 0), none⟩,
 ⟨some 18, .mv (.t 1), none⟩,
 ⟨some 19, .bin .gtr (.t 17) (.t 18), none⟩])
 (.cond (.t 19)
 (.seq (.region [⟨some 4, .mv (.c (.int .i64 1)), none⟩])
 .ret)
 .skip))
 (.seq (.region [⟨some 4, .mv (.c (.int .i64 0)), none⟩])
 .ret)))))))), [.tmp 4]⟩
theorem c84 : compFun Try.prog Try.f84 = some ir84 := by kernel_rfl
def ir85 : IFun := ⟨31, (.seq (.region [⟨some 7, .mv (.t 0), none⟩,
 ⟨some 8, .mv (.t 0), none⟩,
 ⟨some 9, .nilck (.t 8), none⟩,
 ⟨some 10, .fa (.t 9) 0, none⟩,
 ⟨some 11, .ld false 1 (.t 10), none⟩,
 ⟨some 12, .mv (.t 1), none⟩,
 ⟨some 13, .len false (.t 12), none⟩,
 ⟨some 14, .bldS 1 1 [(.int .i64 0)] [(0, 1, (.t 13))], none⟩,
 ⟨some 15, .app 1 8 (.t 11) (.t 14), none⟩,
 ⟨some 16, .nilck (.t 7), none⟩,
 ⟨some 17, .fa (.t 16) 0, none⟩,
 ⟨none, .st 1 (.t 17) (.t 15), none⟩])
 (.seq (.region [⟨some 6, .mv (.c (.int .i64 0)), none⟩])
 (.block 0
 (.loop
 (.seq (.seq (.region [⟨some 18, .mv (.t 6), none⟩,
 ⟨some 19, .mv (.t 1), none⟩,
 ⟨some 20, .len false (.t 19), none⟩,
 ⟨some 21, .bin .lss (.t 18) (.t 20), none⟩])
 (.cond (.t 21)
 .skip
 (.exit 0)))
 (.seq (.block 1
 (.region [⟨some 24, .mv (.t 2), none⟩,
 ⟨some 25, .mv (.t 0), none⟩,
 ⟨some 26, .mv (.t 1), none⟩,
 ⟨some 27, .mv (.t 6), none⟩,
 ⟨some 28, .ia 4 (.t 26) (.t 27), none⟩,
 ⟨some 29, .ld true 4 (.t 28), none⟩,
 ⟨some 30, .call (.t 24) [(.t 25), (.t 29)], none⟩]))
 (.region [⟨some 22, .mv (.t 6), none⟩,
 ⟨some 23, .bin .add (.t 22) (.c (.int .i64 1)), none⟩,
 ⟨some 6, .mv (.t 23), none⟩]))))))), []⟩
theorem c85 : compFun Try.prog Try.f85 = some ir85 := by kernel_rfl
def ir86 : IFun := ⟨20, (.seq (.region [⟨some 3, .box (.t 1), none⟩])
 (.seq (.region [⟨some 4, .mv (.t 0), none⟩,
 ⟨some 5, .fa (.t 3) 0, none⟩,
 ⟨some 6, .ld false 1 (.t 5), none⟩,
 ⟨some 7, .call (.c (.func 99 [] [])) [(.t 4), (.t 6)], none⟩])
 (.seq (.region [⟨some 8, .mv (.t 0), none⟩,
 ⟨some 9, .fa (.t 3) 1, none⟩,
 ⟨some 10, .ld false 1 (.t 9), none⟩,
 ⟨some 11, .call (.c (.func 8 [] [])) [(.t 8), (.t 10)], none⟩])
 (.seq (.region [⟨some 12, .mv (.t 0), none⟩,
 ⟨some 13, .fa (.t 3) 2, none⟩,
 ⟨some 14, .ld false 1 (.t 13), none⟩,
 ⟨some 15, .call (.c (.func 8 [] [])) [(.t 12), (.t 14)], none⟩])
 (.region [⟨some 16, .mv (.t 0), none⟩,
 ⟨some 17, .fa (.t 3) 3, none⟩,
 ⟨some 18, .ld false 1 (.t 17), none⟩,
 ⟨some 19, .call (.c (.func 18 [] [])) [(.t 16), (.t 18)], none⟩]))))), []⟩
theorem c86 : compFun Try.prog Try.f86 = some ir86 := by kernel_rfl
def ir87 : IFun := ⟨31, (.seq (.region [⟨some 7, .mv (.t 0), none⟩,
 ⟨some 8, .mv (.t 0), none⟩,
 ⟨some 9, .nilck (.t 8), none⟩,
 ⟨some 10, .fa (.t 9) 0, none⟩,
 ⟨some 11, .ld false 1 (.t 10), none⟩,
 ⟨some 12, .mv (.t 1), none⟩,
 ⟨some 13, .len false (.t 12), none⟩,
 ⟨some 14, .bldS 1 1 [(.int .i64 0)] [(0, 1, (.t 13))], none⟩,
 ⟨some 15, .app 1 8 (.t 11) (.t 14), none⟩,
 ⟨some 16, .nilck (.t 7), none⟩,
 ⟨some 17, .fa (.t 16) 0, none⟩,
 ⟨none, .st 1 (.t 17) (.t 15), none⟩])
 (.seq (.region [⟨some 6, .mv (.c (.int .i64 0)), none⟩])
 (.block 0
 (.loop
 (.seq (.seq (.region [⟨some 18, .mv (.t 6), none⟩,
 ⟨some 19, .mv (.t 1), none⟩,
 ⟨some 20, .len false (.t 19), none⟩,
 ⟨some 21, .bin .lss (.t 18) (.t 20), none⟩])
 (.cond (.t 21)
 .skip
 (.exit 0)))
 (.seq (.block 1
 (.region [⟨some 24, .mv (.t 2), none⟩,
 ⟨some 25, .mv (.t 0), none⟩,
 ⟨some 26, .mv (.t 1), none⟩,
 ⟨some 27, .mv (.t 6), none⟩,
 ⟨some 28, .ia 4 (.t 26) (.t 27), none⟩,
 ⟨some 29, .ld true 4 (.t 28), none⟩,
 ⟨some 30, .call (.t 24) [(.t 25), (.t 29)], none⟩]))
 (.region [⟨some 22, .mv (.t 6), none⟩,
 ⟨some 23, .bin .add (.t 22) (.c (.int .i64 1)), none⟩,
 ⟨some 6, .mv (.t 23), none⟩]))))))), []⟩
theorem c87 : compFun Try.prog Try.f87 = some ir87 := by kernel_rfl
def ir88 : IFun := ⟨20, (.seq (.region [⟨some 3, .box (.t 1), none⟩])
 (.seq (.region [⟨some 4, .mv (.t 0), none⟩,
 ⟨some 5, .fa (.t 3) 0, none⟩,
 ⟨some 6, .ld false 1 (.t 5), none⟩,
 ⟨some 7, .call (.c (.func 99 [] [])) [(.t 4), (.t 6)], none⟩])
 (.seq (.region [⟨some 8, .mv (.t 0), none⟩,
 ⟨some 9, .fa (.t 3) 1, none⟩,
 ⟨some 10, .ld false 1 (.t 9), none⟩,
 ⟨some 11, .call (.c (.func 8 [] [])) [(.t 8), (.t 10)], none⟩])
 (.seq (.region [⟨some 12, .mv (.t 0), none⟩,
 ⟨some 13, .fa (.t 3) 2, none⟩,
 ⟨some 14, .ld false 1 (.t 13), none⟩,
 ⟨some 15, .call (.c (.func 8 [] [])) [(.t 12), (.t 14)], none⟩])
 (.region [⟨some 16, .mv (.t 0), none⟩,
 ⟨some 17, .fa (.t 3) 3, none⟩,
 ⟨some 18, .ld false 1 (.t 17), none⟩,
 ⟨some 19, .call (.c (.func 8 [] [])) [(.t 16), (.t 18)], none⟩]))))), []⟩
theorem c88 : compFun Try.prog Try.f88 = some ir88 := by kernel_rfl
def ir89 : IFun := ⟨31, (.seq (.region [⟨some 7, .mv (.t 0), none⟩,
 ⟨some 8, .mv (.t 0), none⟩,
 ⟨some 9, .nilck (.t 8), none⟩,
 ⟨some 10, .fa (.t 9) 0, none⟩,
 ⟨some 11, .ld false 1 (.t 10), none⟩,
 ⟨some 12, .mv (.t 1), none⟩,
 ⟨some 13, .len false (.t 12), none⟩,
 ⟨some 14, .bldS 1 1 [(.int .i64 0)] [(0, 1, (.t 13))], none⟩,
 ⟨some 15, .app 1 8 (.t 11) (.t 14), none⟩,
 ⟨some 16, .nilck (.t 7), none⟩,
 ⟨some 17, .fa (.t 16) 0, none⟩,
 ⟨none, .st 1 (.t 17) (.t 15), none⟩])
 (.seq (.region [⟨some 6, .mv (.c (.int .i64 0)), none⟩])
 (.block 0
 (.loop
 (.seq (.seq (.region [⟨some 18, .mv (.t 6), none⟩,
 ⟨some 19, .mv (.t 1), none⟩,
 ⟨some 20, .len false (.t 19), none⟩,
 ⟨some 21, .bin .lss (.t 18) (.t 20), none⟩])
 (.cond (.t 21)
 .skip
 (.exit 0)))
 (.seq (.block 1
 (.region [⟨some 24, .mv (.t 2), none⟩,
 ⟨some 25, .mv (.t 0), none⟩,
 ⟨some 26, .mv (.t 1), none⟩,
 ⟨some 27, .mv (.t 6), none⟩,
 ⟨some 28, .ia 2 (.t 26) (.t 27), none⟩,
 ⟨some 29, .ld true 2 (.t 28), none⟩,
 ⟨some 30, .call (.t 24) [(.t 25), (.t 29)], none⟩]))
 (.region [⟨some 22, .mv (.t 6), none⟩,
 ⟨some 23, .bin .add (.t 22) (.c (.int .i64 1)), none⟩,
 ⟨some 6, .mv (.t 23), none⟩]))))))), []⟩
theorem c89 : compFun Try.prog Try.f89 = some ir89 := by kernel_rfl
def ir90 : IFun := ⟨12, (.seq (.region [⟨some 3, .box (.t 1), none⟩])
 (.seq (.region [⟨some 4, .mv (.t 0), none⟩,
 ⟨some 5, .fa (.t 3) 0, none⟩,
 ⟨some 6, .ld false 1 (.t 5), none⟩,
 ⟨some 7, .call (.c (.func 8 [] [])) [(.t 4), (.t 6)], none⟩])
 (.region [⟨some 8, .mv (.t 0), none⟩,
 ⟨some 9, .fa (.t 3) 1, none⟩,
 ⟨some 10, .ld false 1 (.t 9), none⟩,
 ⟨some 11, .call (.c (.func 8 [] [])) [(.t 8), (.t 10)], none⟩]))), []⟩
theorem c90 : compFun Try.prog Try.f90 = some ir90 := by kernel_rfl
def ir91 : IFun := ⟨19, (.seq (.region [⟨some 4, .mv (.c (.int .i64 0)), none⟩])
 (.seq (.seq (.region [⟨some 6, .mv (.t 0), none⟩,
 ⟨some 7, .len false (.t 6), none⟩,
 ⟨some 8, .mv (.c (.int .i64 0)), none⟩])
 (.block 0
 (.loop
 (.seq (.region [⟨some 9, .bin .lss (.t 8) (.t 7), none⟩])
 (.seq (.cond (.t 9)
 .skip
 (.exit 0))
 (.seq (.block 1
 (.seq (.region [⟨some 10, .mv (.t 8), none⟩,
 ⟨some 5, .mv (.t 10), none⟩])
 (.seq (.region [⟨some 11, .mv (.t 1), none⟩,
 ⟨some 12, .mv (.t 0), none⟩,
 ⟨some 13, .mv (.t 5), none⟩,
 ⟨some 14, .ia 1 (.t 12) (.t 13), none⟩,
 ⟨some 15, .ld false 1 (.t 14), none⟩,
 ⟨some 16, .call (.t 11) [(.t 15)], none⟩])
 (.cond (.t 16)
 (.seq (.region [⟨some 17, .mv (.t 5), none⟩,
 ⟨some 4, .mv (.t 17), none⟩])
 .ret)
 .skip))))
 (.region [⟨some 18, .bin .add (.t 8) (.c (.int .i64 1)), none⟩,
 ⟨some 8, .mv (.t 18), none⟩])))))))
 (.seq (.region [⟨some 4, .mv (.c (.int .i64 (-1))), none⟩])
 .ret))), [.tmp 4]⟩
theorem c91 : compFun Try.prog Try.f91 = some ir91 := by kernel_rfl
def ir92 : IFun := ⟨43, (.seq (.region [⟨some 2, .mv (.c (.bool false)), none⟩])
 (.seq (.seq (.region [⟨some 6, .mv (.t 0), none⟩,
 ⟨some 7, .rng (.t 6), none⟩])
 (.block 0
 (.loop
 (.seq (.region [⟨some 8, .nxt (.t 7), none⟩,
 ⟨some 9, .ext (.t 8) 0, none⟩])
 (.seq (.cond (.t 9)
 .skip
 (.exit 0))
 (.block 1
 (.seq (.region [⟨some 10, .ext (.t 8) 1, none⟩,
 ⟨some 11, .ext (.t 8) 2, none⟩,
 ⟨some 3, .mv (.t 10), none⟩,
 ⟨some 4, .mv (.t 11), none⟩])
 (.seq (.region [⟨some 12, .mv (.t 4), none⟩,
 ⟨some 13, .bin .leq (.c (.int .i32 97)) (.t 12), none⟩,
 ⟨some 14, .mv (.t 13), none⟩,
 ⟨(some 15), (.mv (.t 4)), (some (14, true))⟩,
 ⟨(some 16), (.bin .leq (.t 15) (.c (.int .i32 122))), (some (14, true))⟩,
 ⟨some 17, .pick (.t 14) (.t 16) (.c (.bool false)), none⟩,
 ⟨some 5, .mv (.t 17), none⟩])
 (.seq (.region [⟨some 18, .mv (.t 5), none⟩,
 ⟨some 19, .un .not (.t 18), none⟩,
 ⟨some 20, .mv (.t 19), none⟩,
 ⟨(some 21), (.mv (.t 3)), (some (20, true))⟩,
 ⟨(some 22), (.bin .eql (.t 21) (.c (.int .i64 0))), (some (20, true))⟩,
 ⟨(some 23), (.mv (.t 22)), (some (20, true))⟩,
 ⟨(some 24), (.mv (.t 4)), (some (23, false))⟩,
 ⟨(some 25), (.bin .neq (.t 24) (.c (.int .i32 46))), (some (23, false))⟩,
 ⟨(some 26), (.mv (.t 25)), (some (23, false))⟩,
 ⟨(some 27), (.mv (.t 4)), (some (26, true))⟩,
 ⟨(some 28), (.bin .lss (.t 27) (.c (.int .i32 48))), (some (26, true))⟩,
 ⟨(some 29), (.mv (.t 28)), (some (26, true))⟩,
 ⟨(some 30), (.mv (.t 4)), (some (29, false))⟩,
 ⟨(some 31), (.bin .gtr (.t 30) (.c (.int .i32 57))), (some (29, false))⟩,
 ⟨(some 32), (.pick (.t 29) (.c (.bool true)) (.t 31)), (some (26, true))⟩,
 ⟨(some 33), (.pick (.t 26) (.t 32) (.c (.bool false))), (some (23, false))⟩,
 ⟨(some 34), (.pick (.t 23) (.c (.bool true)) (.t 33)), (some (20, true))⟩,
 ⟨some 35, .pick (.t 20) (.t 34) (.c (.bool false)), none⟩])
 (.cond (.t 35)
 (.seq (.region [⟨some 2, .mv (.c (.bool false)), none⟩])
 .ret)
 .skip))))))))))
 (.seq (.region [⟨some 36, .mv (.t 0), none⟩,
 ⟨some 37, .bin .neq (.t 36) (.c (.str [])), none⟩,
 ⟨some 38, .mv (.t 37), none⟩,
 ⟨(some 39), (.mv (.t 0)), (some (38, true))⟩,
 ⟨(some 40), (.len true (.t 39)), (some (38, true))⟩,
 ⟨(some 41), (.bin .leq (.t 40) (.c (.int .i64 16))), (some (38, true))⟩,
 ⟨some 42, .pick (.t 38) (.t 41) (.c (.bool false)), none⟩,
 ⟨some 2, .mv (.t 42), none⟩])
 .ret))), [.tmp 2]⟩
theorem c92 : compFun Try.prog Try.f92 = some ir92 := by kernel_rfl
def ir93 : IFun := ⟨9, (.seq (.region [⟨some 4, .mv (.c (.bool false)), none⟩])
 (.seq (.region [⟨some 5, .mv (.t 0), none⟩,
 ⟨some 6, .mv (.t 1), none⟩,
 ⟨some 7, .call (.c (.func 100 [] [])) [(.t 5), (.t 6)], none⟩,
 ⟨some 8, .bin .geq (.t 7) (.c (.int .i64 0)), none⟩,
 ⟨some 4, .mv (.t 8), none⟩])
 .ret)), [.tmp 4]⟩
theorem c93 : compFun Try.prog Try.f93 = some ir93 := by kernel_rfl
def ir94 : IFun := ⟨16, (.seq (.region [⟨some 4, .box (.t 0), none⟩,
 ⟨some 5, .mv (.c (.bool false)), none⟩])
 (.seq (.draw [⟨⟨some 6, .ld false 1 (.t 1), none⟩, false, [⟨some 6, .ld false 1 (.t 1), none⟩], []⟩,
 ⟨⟨some 7, .ld true 4 (.t 4), none⟩, false, [⟨some 7, .ld true 4 (.t 4), none⟩], []⟩,
 ⟨⟨some 8, .call (.t 6) [(.t 7)], none⟩, true, [], []⟩,
 ⟨⟨some 9, .ld false 1 (.t 1), none⟩, false, [⟨some 9, .ld false 1 (.t 1), none⟩], [2]⟩,
 ⟨⟨some 10, .ld false 1 (.t 2), none⟩, false, [⟨some 10, .ld false 1 (.t 2), none⟩], [2]⟩,
 ⟨⟨some 11, .ld false 1 (.t 3), none⟩, false, [⟨some 11, .ld false 1 (.t 3), none⟩], [2]⟩,
 ⟨⟨some 12, .ia 4 (.t 10) (.t 11), none⟩, false, [], []⟩,
 ⟨⟨some 13, .ld true 4 (.t 12), none⟩, false, [⟨some 13, .ld true 4 (.t 12), none⟩], [2]⟩,
 ⟨⟨some 14, .call (.t 9) [(.t 13)], none⟩, true, [], []⟩,
 ⟨⟨some 15, .bin .eql (.t 8) (.t 14), none⟩, false, [], []⟩,
 ⟨⟨some 5, .mv (.t 15), none⟩, false, [], []⟩])
 .ret)), [.tmp 5]⟩
theorem c94 : compFun Try.prog Try.f94 = some ir94 := by kernel_rfl
def ir95 : IFun := ⟨9, (.seq (.region [⟨some 4, .mv (.c (.bool false)), none⟩])
 (.seq (.region [⟨some 5, .mv (.t 0), none⟩,
 ⟨some 6, .mv (.t 1), none⟩,
 ⟨some 7, .call (.c (.func 101 [] [])) [(.t 5), (.t 6)], none⟩,
 ⟨some 8, .bin .geq (.t 7) (.c (.int .i64 0)), none⟩,
 ⟨some 4, .mv (.t 8), none⟩])
 .ret)), [.tmp 4]⟩
theorem c95 : compFun Try.prog Try.f95 = some ir95 := by kernel_rfl
def ir96 : IFun := ⟨16, (.seq (.region [⟨some 4, .box (.t 0), none⟩,
 ⟨some 5, .mv (.c (.bool false)), none⟩])
 (.seq (.draw [⟨⟨some 6, .ld false 1 (.t 1), none⟩, false, [⟨some 6, .ld false 1 (.t 1), none⟩], []⟩,
 ⟨⟨some 7, .ld true 4 (.t 4), none⟩, false, [⟨some 7, .ld true 4 (.t 4), none⟩], []⟩,
 ⟨⟨some 8, .call (.t 6) [(.t 7)], none⟩, true, [], []⟩,
 ⟨⟨some 9, .ld false 1 (.t 1), none⟩, false, [⟨some 9, .ld false 1 (.t 1), none⟩], [2]⟩,
 ⟨⟨some 10, .ld false 1 (.t 2), none⟩, false, [⟨some 10, .ld false 1 (.t 2), none⟩], [2]⟩,
 ⟨⟨some 11, .ld false 1 (.t 3), none⟩, false, [⟨some 11, .ld false 1 (.t 3), none⟩], [2]⟩,
 ⟨⟨some 12, .ia 4 (.t 10) (.t 11), none⟩, false, [], []⟩,
 ⟨⟨some 13, .ld true 4 (.t 12), none⟩, false, [⟨some 13, .ld true 4 (.t 12), none⟩], [2]⟩,
 ⟨⟨some 14, .call (.t 9) [(.t 13)], none⟩, true, [], []⟩,
 ⟨⟨some 15, .bin .eql (.t 8) (.t 14), none⟩, false, [], []⟩,
 ⟨⟨some 5, .mv (.t 15), none⟩, false, [], []⟩])
 .ret)), [.tmp 5]⟩
theorem c96 : compFun Try.prog Try.f96 = some ir96 := by kernel_rfl
def ir97 : IFun := ⟨19, (.seq (.region [⟨some 4, .mv (.c (.int .i64 0)), none⟩])
 (.seq (.seq (.region [⟨some 6, .mv (.t 0), none⟩,
 ⟨some 7, .len false (.t 6), none⟩,
 ⟨some 8, .mv (.c (.int .i64 0)), none⟩])
 (.block 0
 (.loop
 (.seq (.region [⟨some 9, .bin .lss (.t 8) (.t 7), none⟩])
 (.seq (.cond (.t 9)
 .skip
 (.exit 0))
 (.seq (.block 1
 (.seq (.region [⟨some 10, .mv (.t 8), none⟩,
 ⟨some 5, .mv (.t 10), none⟩])
 (.seq (.region [⟨some 11, .mv (.t 1), none⟩,
 ⟨some 12, .mv (.t 0), none⟩,
 ⟨some 13, .mv (.t 5), none⟩,
 ⟨some 14, .ia 2 (.t 12) (.t 13), none⟩,
 ⟨some 15, .ld true 2 (.t 14), none⟩,
 ⟨some 16, .call (.t 11) [(.t 15)], none⟩])
 (.cond (.t 16)
 (.seq (.region [⟨some 17, .mv (.t 5), none⟩,
 ⟨some 4, .mv (.t 17), none⟩])
 .ret)
 .skip))))
 (.region [⟨some 18, .bin .add (.t 8) (.c (.int .i64 1)), none⟩,
 ⟨some 8, .mv (.t 18), none⟩])))))))
 (.seq (.region [⟨some 4, .mv (.c (.int .i64 (-1))), none⟩])
 .ret))), [.tmp 4]⟩
theorem c97 : compFun Try.prog Try.f97 = some ir97 := by kernel_rfl
def ir98 : IFun := ⟨6, (.seq (.region [⟨some 2, .mv (.c (.bool false)), none⟩])
 (.seq (.region [⟨some 3, .mv (.t 0), none⟩,
 ⟨some 4, .mv (.t 0), none⟩,
 ⟨some 5, .bin .neq (.t 3) (.t 4), none⟩,
 ⟨some 2, .mv (.t 5), none⟩])
 .ret)), [.tmp 2]⟩
theorem c98 : compFun Try.prog Try.f98 = some ir98 := by kernel_rfl
def ir99 : IFun := ⟨14, (.region [⟨some 4, .mv (.t 0), none⟩,
 ⟨some 5, .mv (.t 0), none⟩,
 ⟨some 6, .nilck (.t 5), none⟩,
 ⟨some 7, .fa (.t 6) 1, none⟩,
 ⟨some 8, .ld false 1 (.t 7), none⟩,
 ⟨some 9, .mv (.t 1), none⟩,
 ⟨some 10, .bldS 1 1 [(.str [])] [(0, 1, (.t 9))], none⟩,
 ⟨some 11, .app 1 16 (.t 8) (.t 10), none⟩,
 ⟨some 12, .nilck (.t 4), none⟩,
 ⟨some 13, .fa (.t 12) 1, none⟩,
 ⟨none, .st 1 (.t 13) (.t 11), none⟩]), []⟩
theorem c99 : compFun Try.prog Try.f99 = some ir99 := by kernel_rfl
def ir100 : IFun := ⟨19, (.seq (.region [⟨some 4, .mv (.c (.int .i64 0)), none⟩])
 (.seq (.seq (.region [⟨some 6, .mv (.t 0), none⟩,
 ⟨some 7, .len false (.t 6), none⟩,
 ⟨some 8, .mv (.c (.int .i64 0)), none⟩])
 (.block 0
 (.loop
 (.seq (.region [⟨some 9, .bin .lss (.t 8) (.t 7), none⟩])
 (.seq (.cond (.t 9)
 .skip
 (.exit 0))
 (.seq (.block 1
 (.seq (.region [⟨some 10, .mv (.t 8), none⟩,
 ⟨some 5, .mv (.t 10), none⟩])
 (.seq (.region [⟨some 11, .mv (.t 1), none⟩,
 ⟨some 12, .mv (.t 0), none⟩,
 ⟨some 13, .mv (.t 5), none⟩,
 ⟨some 14, .ia 4 (.t 12) (.t 13), none⟩,
 ⟨some 15, .ld true 4 (.t 14), none⟩,
 ⟨some 16, .call (.t 11) [(.t 15)], none⟩])
 (.cond (.t 16)
 (.seq (.region [⟨some 17, .mv (.t 5), none⟩,
 ⟨some 4, .mv (.t 17), none⟩])
 .ret)
 .skip))))
 (.region [⟨some 18, .bin .add (.t 8) (.c (.int .i64 1)), none⟩,
 ⟨some 8, .mv (.t 18), none⟩])))))))
 (.seq (.region [⟨some 4, .mv (.c (.int .i64 (-1))), none⟩])
 .ret))), [.tmp 4]⟩
theorem c100 : compFun Try.prog Try.f100 = some ir100 := by kernel_rfl
def ir101 : IFun := ⟨19, (.seq (.region [⟨some 4, .mv (.c (.int .i64 0)), none⟩])
 (.seq (.seq (.region [⟨some 6, .mv (.t 0), none⟩,
 ⟨some 7, .len false (.t 6), none⟩,
 ⟨some 8, .mv (.c (.int .i64 0)), none⟩])
 (.block 0
 (.loop
 (.seq (.region [⟨some 9, .bin .lss (.t 8) (.t 7), none⟩])
 (.seq (.cond (.t 9)
 .skip
 (.exit 0))
 (.seq (.block 1
 (.seq (.region [⟨some 10, .mv (.t 8), none⟩,
 ⟨some 5, .mv (.t 10), none⟩])
 (.seq (.region [⟨some 11, .mv (.t 1), none⟩,
 ⟨some 12, .mv (.t 0), none⟩,
 ⟨some 13, .mv (.t 5), none⟩,
 ⟨some 14, .ia 4 (.t 12) (.t 13), none⟩,
 ⟨some 15, .ld true 4 (.t 14), none⟩,
 ⟨some 16, .call (.t 11) [(.t 15)], none⟩])
 (.cond (.t 16)
 (.seq (.region [⟨some 17, .mv (.t 5), none⟩,
 ⟨some 4, .mv (.t 17), none⟩])
 .ret)
 .skip))))
 (.region [⟨some 18, .bin .add (.t 8) (.c (.int .i64 1)), none⟩,
 ⟨some 8, .mv (.t 18), none⟩])))))))
 (.seq (.region [⟨some 4, .mv (.c (.int .i64 (-1))), none⟩])
 .ret))), [.tmp 4]⟩
theorem c101 : compFun Try.prog Try.f101 = some ir101 := by kernel_rfl
def tbl : Nat → Option IFun
  | 2 => some ir2
  | 3 => some ir3
  | 4 => some ir4
  | 6 => some ir6
  | 7 => some ir7
  | 8 => some ir8
  | 9 => some ir9
  | 10 => some ir10
  | 11 => some ir11
  | 12 => some ir12
  | 13 => some ir13
  | 14 => some ir14
  | 15 => some ir15
  | 16 => some ir16
  | 17 => some ir17
  | 18 => some ir18
  | 19 => some ir19
  | 20 => some ir20
  | 21 => some ir21
  | 22 => some ir22
  | 23 => some ir23
  | 24 => some ir24
  | 25 => some ir25
  | 26 => some ir26
  | 27 => some ir27
  | 28 => some ir28
  | 29 => some ir29
  | 30 => some ir30
  | 31 => some ir31
  | 32 => some ir32
  | 33 => some ir33
  | 34 => some ir34
  | 35 => some ir35
  | 36 => some ir36
  | 37 => some ir37
  | 39 => some ir39
  | 40 => some ir40
  | 41 => some ir41
  | 42 => some ir42
  | 43 => some ir43
  | 44 => some ir44
  | 45 => some ir45
  | 46 => some ir46
  | 47 => some ir47
  | 48 => some ir48
  | 49 => some ir49
  | 50 => some ir50
  | 51 => some ir51
  | 52 => some ir52
  | 53 => some ir53
  | 54 => some ir54
  | 55 => some ir55
  | 56 => some ir56
  | 57 => some ir57
  | 58 => some ir58
  | 59 => some ir59
  | 60 => some ir60
  | 61 => some ir61
  | 62 => some ir62
  | 63 => some ir63
  | 64 => some ir64
  | 65 => some ir65
  | 66 => some ir66
  | 67 => some ir67
  | 68 => some ir68
  | 69 => some ir69
  | 70 => some ir70
  | 71 => some ir71
  | 72 => some ir72
  | 73 => some ir73
  | 74 => some ir74
  | 75 => some ir75
  | 76 => some ir76
  | 77 => some ir77
  | 78 => some ir78
  | 79 => some ir79
  | 80 => some ir80
  | 81 => some ir81
  | 82 => some ir82
  | 83 => some ir83
  | 84 => some ir84
  | 85 => some ir85
  | 86 => some ir86
  | 87 => some ir87
  | 88 => some ir88
  | 89 => some ir89
  | 90 => some ir90
  | 91 => some ir91
  | 92 => some ir92
  | 93 => some ir93
  | 94 => some ir94
  | 95 => some ir95
  | 96 => some ir96
  | 97 => some ir97
  | 98 => some ir98
  | 99 => some ir99
  | 100 => some ir100
  | 101 => some ir101
  | _ => none
theorem tblOk : TblOk Try.prog tbl := by
  intro f ifn h
  unfold tbl at h
  split at h
  · cases h; exact ⟨_, Try.func2, c2⟩
  · cases h; exact ⟨_, Try.func3, c3⟩
  · cases h; exact ⟨_, Try.func4, c4⟩
  · cases h; exact ⟨_, Try.func6, c6⟩
  · cases h; exact ⟨_, Try.func7, c7⟩
  · cases h; exact ⟨_, Try.func8, c8⟩
  · cases h; exact ⟨_, Try.func9, c9⟩
  · cases h; exact ⟨_, Try.func10, c10⟩
  · cases h; exact ⟨_, Try.func11, c11⟩
  · cases h; exact ⟨_, Try.func12, c12⟩
  · cases h; exact ⟨_, Try.func13, c13⟩
  · cases h; exact ⟨_, Try.func14, c14⟩
  · cases h; exact ⟨_, Try.func15, c15⟩
  · cases h; exact ⟨_, Try.func16, c16⟩
  · cases h; exact ⟨_, Try.func17, c17⟩
  · cases h; exact ⟨_, Try.func18, c18⟩
  · cases h; exact ⟨_, Try.func19, c19⟩
  · cases h; exact ⟨_, Try.func20, c20⟩
  · cases h; exact ⟨_, Try.func21, c21⟩
  · cases h; exact ⟨_, Try.func22, c22⟩
  · cases h; exact ⟨_, Try.func23, c23⟩
  · cases h; exact ⟨_, Try.func24, c24⟩
  · cases h; exact ⟨_, Try.func25, c25⟩
  · cases h; exact ⟨_, Try.func26, c26⟩
  · cases h; exact ⟨_, Try.func27, c27⟩
  · cases h; exact ⟨_, Try.func28, c28⟩
  · cases h; exact ⟨_, Try.func29, c29⟩
  · cases h; exact ⟨_, Try.func30, c30⟩
  · cases h; exact ⟨_, Try.func31, c31⟩
  · cases h; exact ⟨_, Try.func32, c32⟩
  · cases h; exact ⟨_, Try.func33, c33⟩
  · cases h; exact ⟨_, Try.func34, c34⟩
  · cases h; exact ⟨_, Try.func35, c35⟩
  · cases h; exact ⟨_, Try.func36, c36⟩
  · cases h; exact ⟨_, Try.func37, c37⟩
  · cases h; exact ⟨_, Try.func39, c39⟩
  · cases h; exact ⟨_, Try.func40, c40⟩
  · cases h; exact ⟨_, Try.func41, c41⟩
  · cases h; exact ⟨_, Try.func42, c42⟩
  · cases h; exact ⟨_, Try.func43, c43⟩
  · cases h; exact ⟨_, Try.func44, c44⟩
  · cases h; exact ⟨_, Try.func45, c45⟩
  · cases h; exact ⟨_, Try.func46, c46⟩
  · cases h; exact ⟨_, Try.func47, c47⟩
  · cases h; exact ⟨_, Try.func48, c48⟩
  · cases h; exact ⟨_, Try.func49, c49⟩
  · cases h; exact ⟨_, Try.func50, c50⟩
  · cases h; exact ⟨_, Try.func51, c51⟩
  · cases h; exact ⟨_, Try.func52, c52⟩
  · cases h; exact ⟨_, Try.func53, c53⟩
  · cases h; exact ⟨_, Try.func54, c54⟩
  · cases h; exact ⟨_, Try.func55, c55⟩
  · cases h; exact ⟨_, Try.func56, c56⟩
  · cases h; exact ⟨_, Try.func57, c57⟩
  · cases h; exact ⟨_, Try.func58, c58⟩
  · cases h; exact ⟨_, Try.func59, c59⟩
  · cases h; exact ⟨_, Try.func60, c60⟩
  · cases h; exact ⟨_, Try.func61, c61⟩
  · cases h; exact ⟨_, Try.func62, c62⟩
  · cases h; exact ⟨_, Try.func63, c63⟩
  · cases h; exact ⟨_, Try.func64, c64⟩
  · cases h; exact ⟨_, Try.func65, c65⟩
  · cases h; exact ⟨_, Try.func66, c66⟩
  · cases h; exact ⟨_, Try.func67, c67⟩
  · cases h; exact ⟨_, Try.func68, c68⟩
  · cases h; exact ⟨_, Try.func69, c69⟩
  · cases h; exact ⟨_, Try.func70, c70⟩
  · cases h; exact ⟨_, Try.func71, c71⟩
  · cases h; exact ⟨_, Try.func72, c72⟩
  · cases h; exact ⟨_, Try.func73, c73⟩
  · cases h; exact ⟨_, Try.func74, c74⟩
  · cases h; exact ⟨_, Try.func75, c75⟩
  · cases h; exact ⟨_, Try.func76, c76⟩
  · cases h; exact ⟨_, Try.func77, c77⟩
  · cases h; exact ⟨_, Try.func78, c78⟩
  · cases h; exact ⟨_, Try.func79, c79⟩
  · cases h; exact ⟨_, Try.func80, c80⟩
  · cases h; exact ⟨_, Try.func81, c81⟩
  · cases h; exact ⟨_, Try.func82, c82⟩
  · cases h; exact ⟨_, Try.func83, c83⟩
  · cases h; exact ⟨_, Try.func84, c84⟩
  · cases h; exact ⟨_, Try.func85, c85⟩
  · cases h; exact ⟨_, Try.func86, c86⟩
  · cases h; exact ⟨_, Try.func87, c87⟩
  · cases h; exact ⟨_, Try.func88, c88⟩
  · cases h; exact ⟨_, Try.func89, c89⟩
  · cases h; exact ⟨_, Try.func90, c90⟩
  · cases h; exact ⟨_, Try.func91, c91⟩
  · cases h; exact ⟨_, Try.func92, c92⟩
  · cases h; exact ⟨_, Try.func93, c93⟩
  · cases h; exact ⟨_, Try.func94, c94⟩
  · cases h; exact ⟨_, Try.func95, c95⟩
  · cases h; exact ⟨_, Try.func96, c96⟩
  · cases h; exact ⟨_, Try.func97, c97⟩
  · cases h; exact ⟨_, Try.func98, c98⟩
  · cases h; exact ⟨_, Try.func99, c99⟩
  · cases h; exact ⟨_, Try.func100, c100⟩
  · cases h; exact ⟨_, Try.func101, c101⟩
  · cases h
def tblA (f : Nat) : Option IFun := if f = 5 then some ir5 else if f = 38 then some ir38 else tbl f
end Go.Ax.Ir
end
