import Derived.Test.YthlhpjjimbnabaaGreatA2
import Derived.Test.YthlhpjjimbnabaaGreatChecked
import Derived.Walk
set_option linter.unusedSectionVars false
set_option linter.unusedVariables false
set_option linter.unusedSimpArgs false
section
namespace Go.Ax
instance : Globs := ⟨[]⟩
end Go.Ax
namespace Go.Ax.Ir
open Go.Proofs
set_option maxRecDepth 100000
def ir2 : IFun := ⟨1, (.region [⟨some 0, .call (.c (.func 1 [] [])) [], none⟩]), []⟩
theorem c2 : compFun Tryz.prog Tryz.f2 = some ir2 := by kernel_rfl
def ir3 : IFun := ⟨49, (.seq (.region [⟨some 1, .box (.t 0), none⟩,
 ⟨some 2, .mv (.c (.bool false)), none⟩])
 (.seq (.region [⟨some 3, .alloc (.agg [.nilslice, .nilslice]), none⟩,
 ⟨some 4, .alloc (.agg [.nilslice, .nilslice]), none⟩])
 (.seq (.region [⟨some 6, .ld true 7 (.t 1), none⟩,
 ⟨some 7, .call (.c (.func 4 [] [])) [(.t 6), (.t 3)], none⟩])
 (.seq (.region [⟨some 8, .mkfn 6 [] [(.t 1)], none⟩,
 ⟨some 9, .call (.c (.func 5 [] [])) [(.t 8)], none⟩,
 ⟨some 10, .mv (.t 9), none⟩,
 ⟨(some 11), (.mkfn 11 [] [(.t 1)]), (some (10, true))⟩,
 ⟨(some 12), (.call (.c (.func 5 [] [])) [(.t 11)]), (some (10, true))⟩,
 ⟨some 13, .pick (.t 10) (.t 12) (.c (.bool false)), none⟩,
 ⟨some 14, .mv (.t 13), none⟩,
 ⟨(some 15), (.mkfn 16 [] [(.t 1)]), (some (14, true))⟩,
 ⟨(some 16), (.call (.c (.func 5 [] [])) [(.t 15)]), (some (14, true))⟩,
 ⟨some 17, .pick (.t 14) (.t 16) (.c (.bool false)), none⟩,
 ⟨some 18, .mv (.t 17), none⟩,
 ⟨(some 19), (.mkfn 21 [] [(.t 1)]), (some (18, true))⟩,
 ⟨(some 20), (.call (.c (.func 5 [] [])) [(.t 19)]), (some (18, true))⟩,
 ⟨some 21, .pick (.t 18) (.t 20) (.c (.bool false)), none⟩,
 ⟨some 22, .mv (.t 21), none⟩,
 ⟨(some 23), (.mkfn 26 [] [(.t 1)]), (some (22, true))⟩,
 ⟨(some 24), (.call (.c (.func 5 [] [])) [(.t 23)]), (some (22, true))⟩,
 ⟨some 25, .pick (.t 22) (.t 24) (.c (.bool false)), none⟩,
 ⟨some 26, .mv (.t 25), none⟩,
 ⟨(some 27), (.mkfn 28 [] [(.t 1)]), (some (26, true))⟩,
 ⟨(some 28), (.call (.c (.func 5 [] [])) [(.t 27)]), (some (26, true))⟩,
 ⟨some 29, .pick (.t 26) (.t 28) (.c (.bool false)), none⟩,
 ⟨some 30, .mv (.t 29), none⟩,
 ⟨(some 31), (.mkfn 30 [] [(.t 1)]), (some (30, true))⟩,
 ⟨(some 32), (.call (.c (.func 5 [] [])) [(.t 31)]), (some (30, true))⟩,
 ⟨some 33, .pick (.t 30) (.t 32) (.c (.bool false)), none⟩,
 ⟨some 34, .mv (.t 33), none⟩,
 ⟨(some 35), (.mkfn 35 [] [(.t 1)]), (some (34, true))⟩,
 ⟨(some 36), (.call (.c (.func 5 [] [])) [(.t 35)]), (some (34, true))⟩,
 ⟨some 37, .pick (.t 34) (.t 36) (.c (.bool false)), none⟩,
 ⟨some 5, .mv (.t 37), none⟩])
 (.seq (.region [⟨some 38, .ld true 7 (.t 1), none⟩,
 ⟨some 39, .call (.c (.func 4 [] [])) [(.t 38), (.t 4)], none⟩])
 (.seq (.region [⟨some 40, .mv (.t 5), none⟩,
 ⟨some 41, .mv (.t 40), none⟩,
 ⟨(some 42), (.ld true 2 (.t 3)), (some (41, true))⟩,
 ⟨(some 43), (.ld true 2 (.t 4)), (some (41, true))⟩,
 ⟨(some 44), (.call (.c (.func 37 [] [])) [(.t 42), (.t 43)]), (some (41, true))⟩,
 ⟨some 45, .pick (.t 41) (.t 44) (.c (.bool false)), none⟩,
 ⟨some 46, .mv (.t 45), none⟩,
 ⟨(some 47), (.call (.c (.func 38 [] [])) []), (some (46, true))⟩,
 ⟨some 48, .pick (.t 46) (.t 47) (.c (.bool false)), none⟩,
 ⟨some 2, .mv (.t 48), none⟩])
 .ret)))))), [.tmp 2]⟩
theorem c3 : compFun Tryz.prog Tryz.f3 = some ir3 := by kernel_rfl
def ir4 : IFun := ⟨24, (.seq (.region [⟨some 2, .box (.t 0), none⟩])
 (.seq (.region [⟨some 4, .mv (.t 1), none⟩,
 ⟨some 5, .fa (.t 2) 0, none⟩,
 ⟨some 6, .ld true 3 (.t 5), none⟩,
 ⟨some 7, .call (.c (.func 18 [] [])) [(.t 4), (.t 6)], none⟩])
 (.seq (.region [⟨some 8, .mv (.t 1), none⟩,
 ⟨some 9, .fa (.t 2) 3, none⟩,
 ⟨some 10, .ld false 1 (.t 9), none⟩,
 ⟨some 11, .call (.c (.func 23 [] [])) [(.t 8), (.t 10)], none⟩])
 (.seq (.region [⟨some 12, .mv (.t 1), none⟩,
 ⟨some 13, .fa (.t 2) 4, none⟩,
 ⟨some 14, .ld false 1 (.t 13), none⟩,
 ⟨some 15, .call (.c (.func 8 [] [])) [(.t 12), (.t 14)], none⟩])
 (.seq (.region [⟨some 16, .mv (.t 1), none⟩,
 ⟨some 17, .fa (.t 2) 5, none⟩,
 ⟨some 18, .ld false 1 (.t 17), none⟩,
 ⟨some 19, .call (.c (.func 8 [] [])) [(.t 16), (.t 18)], none⟩])
 (.region [⟨some 20, .mv (.t 1), none⟩,
 ⟨some 21, .fa (.t 2) 6, none⟩,
 ⟨some 22, .ld false 1 (.t 21), none⟩,
 ⟨some 23, .call (.c (.func 8 [] [])) [(.t 20), (.t 22)], none⟩])))))), []⟩
theorem c4 : compFun Tryz.prog Tryz.f4 = some ir4 := by kernel_rfl
def ir5 : IFun := ⟨15, (.seq (.region [⟨some 2, .mv (.c (.bool false)), none⟩])
 (.seq (.region [⟨some 3, .alloc (.agg [.nilslice, .nilslice]), none⟩,
 ⟨some 4, .alloc (.agg [.nilslice, .nilslice]), none⟩])
 (.seq (.region [⟨some 6, .mv (.t 0), none⟩,
 ⟨some 7, .call (.t 6) [(.t 3)], none⟩,
 ⟨some 5, .mv (.t 7), none⟩])
 (.seq (.region [⟨some 8, .mv (.t 5), none⟩,
 ⟨some 9, .call (.t 8) [], none⟩])
 (.seq (.region [⟨some 10, .mv (.t 0), none⟩,
 ⟨some 11, .call (.t 10) [(.t 4)], none⟩])
 (.seq (.region [⟨some 12, .ld true 2 (.t 3), none⟩,
 ⟨some 13, .ld true 2 (.t 4), none⟩,
 ⟨some 14, .call (.c (.func 37 [] [])) [(.t 12), (.t 13)], none⟩,
 ⟨some 2, .mv (.t 14), none⟩])
 .ret)))))), [.tmp 2]⟩
theorem c5 : compFun Tryz.prog Tryz.f5 = some ir5 := by kernel_rfl
def ir6 : IFun := ⟨23, (.seq (.region [⟨some 3, .mv (.c .nilfunc), none⟩])
 (.seq (.region [⟨some 8, .fa (.t 1) 0, none⟩,
 ⟨some 9, .ld true 3 (.t 8), none⟩,
 ⟨some 10, .call (.c (.func 7 [] [])) [(.t 9)], none⟩,
 ⟨some 7, .mv (.t 10), none⟩,
 ⟨some 11, .ext (.t 7) 0, none⟩,
 ⟨some 12, .ext (.t 7) 1, none⟩,
 ⟨some 13, .ext (.t 7) 2, none⟩,
 ⟨some 4, .mv (.t 11), none⟩,
 ⟨some 5, .mv (.t 12), none⟩,
 ⟨some 6, .mv (.t 13), none⟩])
 (.seq (.region [⟨some 14, .mv (.t 0), none⟩,
 ⟨some 15, .mv (.t 4), none⟩,
 ⟨some 16, .call (.c (.func 8 [] [])) [(.t 14), (.t 15)], none⟩])
 (.seq (.region [⟨some 17, .mv (.t 0), none⟩,
 ⟨some 18, .mv (.t 5), none⟩,
 ⟨some 19, .call (.c (.func 8 [] [])) [(.t 17), (.t 18)], none⟩])
 (.seq (.region [⟨some 20, .mv (.t 0), none⟩,
 ⟨some 21, .mv (.t 6), none⟩,
 ⟨some 22, .call (.c (.func 9 [] [])) [(.t 20), (.t 21)], none⟩])
 (.seq (.region [⟨some 3, .mv (.c (.func 10 [] [])), none⟩])
 .ret)))))), [.tmp 3]⟩
theorem c6 : compFun Tryz.prog Tryz.f6 = some ir6 := by kernel_rfl
def ir7 : IFun := ⟨43, (.seq (.region [⟨some 1, .box (.t 0), none⟩,
 ⟨some 2, .mv (.c (.int .i64 0)), none⟩,
 ⟨some 3, .mv (.c (.int .i64 0)), none⟩,
 ⟨some 4, .mv (.c (.int .i64 0)), none⟩])
 (.seq (.seq (.region [⟨some 6, .fa (.t 1) 0, none⟩,
 ⟨some 7, .ld false 1 (.t 6), none⟩,
 ⟨some 8, .len false (.t 7), none⟩,
 ⟨some 9, .bin .gtr (.t 8) (.c (.int .i64 5)), none⟩])
 (.cond (.t 9)
 (.seq (.region [⟨some 2, .mv (.c (.int .i64 1)), none⟩,
 ⟨some 3, .mv (.c (.int .i64 0)), none⟩,
 ⟨some 4, .mv (.c (.int .i64 3)), none⟩])
 .ret)
 .skip))
 (.seq (.region [⟨some 11, .fa (.t 1) 0, none⟩,
 ⟨some 12, .ld false 1 (.t 11), none⟩,
 ⟨some 13, .mkfn 40 [] [(.t 1)], none⟩,
 ⟨some 14, .call (.c (.func 39 [] [])) [(.t 12), (.t 13)], none⟩,
 ⟨some 10, .mv (.t 14), none⟩,
 ⟨some 15, .ext (.t 10) 0, none⟩,
 ⟨some 16, .ext (.t 10) 1, none⟩,
 ⟨some 3, .mv (.t 15), none⟩,
 ⟨some 4, .mv (.t 16), none⟩])
 (.seq (.seq (.region [⟨some 17, .mv (.t 4), none⟩,
 ⟨some 18, .bin .neq (.t 17) (.c (.int .i64 0)), none⟩])
 (.cond (.t 18)
 (.seq (.region [⟨some 19, .mv (.t 3), none⟩,
 ⟨some 20, .mv (.t 4), none⟩,
 ⟨some 2, .mv (.c (.int .i64 1)), none⟩,
 ⟨some 3, .mv (.t 19), none⟩,
 ⟨some 4, .mv (.t 20), none⟩])
 .ret)
 .skip))
 (.seq (.region [⟨some 21, .fa (.t 1) 0, none⟩,
 ⟨some 22, .ld false 1 (.t 21), none⟩,
 ⟨some 23, .len false (.t 22), none⟩,
 ⟨some 24, .bin .sub (.t 23) (.c (.int .i64 1)), none⟩,
 ⟨some 5, .alloc (.int .i64 0), none⟩,
 ⟨none, .st 1 (.t 5) (.t 24), none⟩])
 (.seq (.region [⟨some 26, .fa (.t 1) 1, none⟩,
 ⟨some 27, .ld false 1 (.t 26), none⟩,
 ⟨some 28, .mkfn 46 [] [(.t 5), (.t 1)], none⟩,
 ⟨some 29, .call (.c (.func 45 [] [])) [(.t 27), (.t 28)], none⟩,
 ⟨some 25, .mv (.t 29), none⟩,
 ⟨some 30, .ext (.t 25) 0, none⟩,
 ⟨some 31, .ext (.t 25) 1, none⟩,
 ⟨some 3, .mv (.t 30), none⟩,
 ⟨some 4, .mv (.t 31), none⟩])
 (.seq (.block 0
 (.seq (.region [⟨some 33, .mv (.t 4), none⟩,
 ⟨some 34, .bin .neq (.t 33) (.c (.int .i64 0)), none⟩,
 ⟨some 32, .mv (.t 34), none⟩])
 (.cond (.t 32)
 (.seq (.region [⟨some 35, .mv (.t 3), none⟩,
 ⟨some 36, .mv (.t 4), none⟩,
 ⟨some 2, .mv (.c (.int .i64 2)), none⟩,
 ⟨some 3, .mv (.t 35), none⟩,
 ⟨some 4, .mv (.t 36), none⟩])
 .ret)
 (.seq (.region [⟨some 38, .ld false 1 (.t 5), none⟩,
 ⟨some 39, .fa (.t 1) 2, none⟩,
 ⟨some 40, .ld false 1 (.t 39), none⟩,
 ⟨some 41, .bldS 1 1 [(.int .i64 0)] [(0, 1, (.t 40))], none⟩,
 ⟨some 42, .call (.c (.func 44 [] [])) [(.c (.int .i64 (-1))), (.t 38), (.t 41)], none⟩,
 ⟨some 37, .mv (.t 42), none⟩])
 (.cond (.t 37)
 (.seq (.region [⟨some 2, .mv (.c (.int .i64 3)), none⟩,
 ⟨some 3, .mv (.c (.int .i64 0)), none⟩,
 ⟨some 4, .mv (.c (.int .i64 4)), none⟩])
 .ret)
 .skip)))))
 (.seq (.region [⟨some 2, .mv (.c (.int .i64 0)), none⟩,
 ⟨some 3, .mv (.c (.int .i64 0)), none⟩,
 ⟨some 4, .mv (.c (.int .i64 0)), none⟩])
 .ret)))))))), [.tmp 2, .tmp 3, .tmp 4]⟩
theorem c7 : compFun Tryz.prog Tryz.f7 = some ir7 := by kernel_rfl
def ir8 : IFun := ⟨14, (.region [⟨some 4, .mv (.t 0), none⟩,
 ⟨some 5, .mv (.t 0), none⟩,
 ⟨some 6, .nilck (.t 5), none⟩,
 ⟨some 7, .fa (.t 6) 0, none⟩,
 ⟨some 8, .ld false 1 (.t 7), none⟩,
 ⟨some 9, .mv (.t 1), none⟩,
 ⟨some 10, .bldS 1 1 [(.int .i64 0)] [(0, 1, (.t 9))], none⟩,
 ⟨some 11, .app 1 8 (.t 8) (.t 10), none⟩,
 ⟨some 12, .nilck (.t 4), none⟩,
 ⟨some 13, .fa (.t 12) 0, none⟩,
 ⟨none, .st 1 (.t 13) (.t 11), none⟩]), []⟩
theorem c8 : compFun Tryz.prog Tryz.f8 = some ir8 := by kernel_rfl
def ir9 : IFun := ⟨14, (.region [⟨some 4, .mv (.t 0), none⟩,
 ⟨some 5, .mv (.t 0), none⟩,
 ⟨some 6, .nilck (.t 5), none⟩,
 ⟨some 7, .fa (.t 6) 0, none⟩,
 ⟨some 8, .ld false 1 (.t 7), none⟩,
 ⟨some 9, .mv (.t 1), none⟩,
 ⟨some 10, .bldS 1 1 [(.int .i64 0)] [(0, 1, (.t 9))], none⟩,
 ⟨some 11, .app 1 8 (.t 8) (.t 10), none⟩,
 ⟨some 12, .nilck (.t 4), none⟩,
 ⟨some 13, .fa (.t 12) 0, none⟩,
 ⟨none, .st 1 (.t 13) (.t 11), none⟩]), []⟩
theorem c9 : compFun Tryz.prog Tryz.f9 = some ir9 := by kernel_rfl
def ir10 : IFun := ⟨0, .skip, []⟩
theorem c10 : compFun Tryz.prog Tryz.f10 = some ir10 := by kernel_rfl
def ir11 : IFun := ⟨19, (.seq (.region [⟨some 3, .mv (.c .nilfunc), none⟩])
 (.seq (.region [⟨some 7, .fa (.t 1) 0, none⟩,
 ⟨some 8, .ld true 3 (.t 7), none⟩,
 ⟨some 9, .call (.c (.func 12 [] [])) [(.t 8)], none⟩,
 ⟨some 6, .mv (.t 9), none⟩,
 ⟨some 10, .ext (.t 6) 0, none⟩,
 ⟨some 11, .ext (.t 6) 1, none⟩,
 ⟨some 4, .alloc .nilslice, none⟩,
 ⟨none, .st 1 (.t 4) (.t 10), none⟩,
 ⟨some 5, .mv (.t 11), none⟩])
 (.seq (.region [⟨some 12, .mv (.t 0), none⟩,
 ⟨some 13, .ld false 1 (.t 4), none⟩,
 ⟨some 14, .call (.c (.func 13 [] [])) [(.t 12), (.t 13)], none⟩])
 (.seq (.region [⟨some 15, .mv (.t 0), none⟩,
 ⟨some 16, .mv (.t 5), none⟩,
 ⟨some 17, .call (.c (.func 9 [] [])) [(.t 15), (.t 16)], none⟩])
 (.seq (.region [⟨some 18, .mkfn 14 [] [(.t 4)], none⟩,
 ⟨some 3, .mv (.t 18), none⟩])
 .ret))))), [.tmp 3]⟩
theorem c11 : compFun Tryz.prog Tryz.f11 = some ir11 := by kernel_rfl
def ir12 : IFun := ⟨20, (.seq (.region [⟨some 1, .box (.t 0), none⟩,
 ⟨some 2, .mv (.c .nilslice), none⟩,
 ⟨some 3, .mv (.c (.int .i64 0)), none⟩])
 (.seq (.region [⟨some 7, .ld true 3 (.t 1), none⟩,
 ⟨some 8, .call (.c (.func 48 [] [])) [(.t 7)], none⟩,
 ⟨some 6, .mv (.t 8), none⟩,
 ⟨some 9, .ext (.t 6) 0, none⟩,
 ⟨some 10, .ext (.t 6) 1, none⟩,
 ⟨some 4, .mv (.t 9), none⟩,
 ⟨some 5, .mv (.t 10), none⟩])
 (.seq (.seq (.region [⟨some 11, .mv (.t 5), none⟩,
 ⟨some 12, .bin .neq (.t 11) (.c (.int .i64 0)), none⟩])
 (.cond (.t 12)
 (.seq (.region [⟨some 13, .mv (.t 5), none⟩,
 ⟨some 2, .mv (.c .nilslice), none⟩,
 ⟨some 3, .mv (.t 13), none⟩])
 .ret)
 .skip))
 (.seq (.region [⟨some 14, .mv (.t 4), none⟩,
 ⟨some 15, .mv (.t 4), none⟩,
 ⟨some 16, .nilck (.t 15), none⟩,
 ⟨some 17, .fa (.t 16) 3, none⟩,
 ⟨some 18, .ld true 10 (.t 17), none⟩,
 ⟨some 19, .call (.c (.func 49 [] [])) [(.t 14), (.t 18)], none⟩,
 ⟨some 2, .mv (.t 19), none⟩,
 ⟨some 3, .mv (.c (.int .i64 0)), none⟩])
 .ret)))), [.tmp 2, .tmp 3]⟩
theorem c12 : compFun Tryz.prog Tryz.f12 = some ir12 := by kernel_rfl
def ir13 : IFun := ⟨7, (.region [⟨some 4, .mv (.t 0), none⟩,
 ⟨some 5, .mv (.t 1), none⟩,
 ⟨some 6, .call (.c (.func 50 [] [])) [(.t 4), (.t 5), (.c (.func 8 [] []))], none⟩]), []⟩
theorem c13 : compFun Tryz.prog Tryz.f13 = some ir13 := by kernel_rfl
def ir14 : IFun := ⟨2, (.region [⟨some 1, .call (.c (.func 15 [] [])) [(.t 0)], none⟩]), []⟩
theorem c14 : compFun Tryz.prog Tryz.f14 = some ir14 := by kernel_rfl
def ir15 : IFun := ⟨6, (.region [⟨some 2, .mv (.t 0), none⟩,
 ⟨some 3, .nilck (.t 2), none⟩,
 ⟨some 4, .ld false 1 (.t 3), none⟩,
 ⟨some 5, .call (.c (.func 51 [] [])) [(.t 4), (.c (.func 52 [] []))], none⟩]), []⟩
theorem c15 : compFun Tryz.prog Tryz.f15 = some ir15 := by kernel_rfl
def ir16 : IFun := ⟨21, (.seq (.region [⟨some 3, .mv (.c .nilfunc), none⟩])
 (.seq (.region [⟨some 7, .fa (.t 1) 0, none⟩,
 ⟨some 8, .ld true 3 (.t 7), none⟩,
 ⟨some 9, .fa (.t 1) 3, none⟩,
 ⟨some 10, .ld false 1 (.t 9), none⟩,
 ⟨some 11, .call (.c (.func 17 [] [])) [(.t 8), (.t 10)], none⟩,
 ⟨some 6, .mv (.t 11), none⟩,
 ⟨some 12, .ext (.t 6) 0, none⟩,
 ⟨some 13, .ext (.t 6) 1, none⟩,
 ⟨some 4, .alloc (.agg [.nilslice, .nilslice, (.int .i64 0)]), none⟩,
 ⟨none, .st 3 (.t 4) (.t 12), none⟩,
 ⟨some 5, .mv (.t 13), none⟩])
 (.seq (.region [⟨some 14, .mv (.t 0), none⟩,
 ⟨some 15, .ld true 3 (.t 4), none⟩,
 ⟨some 16, .call (.c (.func 18 [] [])) [(.t 14), (.t 15)], none⟩])
 (.seq (.region [⟨some 17, .mv (.t 0), none⟩,
 ⟨some 18, .mv (.t 5), none⟩,
 ⟨some 19, .call (.c (.func 9 [] [])) [(.t 17), (.t 18)], none⟩])
 (.seq (.region [⟨some 20, .mkfn 19 [] [(.t 4)], none⟩,
 ⟨some 3, .mv (.t 20), none⟩])
 .ret))))), [.tmp 3]⟩
theorem c16 : compFun Tryz.prog Tryz.f16 = some ir16 := by kernel_rfl
def ir17 : IFun := ⟨90, (.seq (.region [⟨some 2, .box (.t 0), none⟩,
 ⟨some 4, .alloc (.agg [.nilslice, .nilslice, (.int .i64 0)]), none⟩,
 ⟨some 5, .mv (.c (.int .i64 0)), none⟩])
 (.seq (.region [⟨some 13, .ld true 3 (.t 2), none⟩,
 ⟨some 14, .call (.c (.func 48 [] [])) [(.t 13)], none⟩,
 ⟨some 12, .mv (.t 14), none⟩,
 ⟨some 15, .ext (.t 12) 0, none⟩,
 ⟨some 16, .ext (.t 12) 1, none⟩,
 ⟨some 6, .mv (.t 15), none⟩,
 ⟨some 7, .mv (.t 16), none⟩])
 (.seq (.block 0
 (.seq (.region [⟨some 18, .mv (.t 7), none⟩,
 ⟨some 19, .bin .neq (.t 18) (.c (.int .i64 0)), none⟩,
 ⟨some 17, .mv (.t 19), none⟩])
 (.cond (.t 17)
 (.seq (.region [⟨some 20, .bld [.nilslice, .nilslice, (.int .i64 0)] [], none⟩,
 ⟨some 21, .mv (.t 7), none⟩,
 ⟨none, .st 3 (.t 4) (.t 20), none⟩,
 ⟨some 5, .mv (.t 21), none⟩])
 .ret)
 (.seq (.region [⟨some 23, .mv (.t 1), none⟩,
 ⟨some 24, .len false (.t 23), none⟩,
 ⟨some 25, .bin .gtr (.t 24) (.c (.int .i64 20)), none⟩,
 ⟨some 22, .mv (.t 25), none⟩])
 (.cond (.t 22)
 (.seq (.region [⟨some 26, .bld [.nilslice, .nilslice, (.int .i64 0)] [], none⟩,
 ⟨none, .st 3 (.t 4) (.t 26), none⟩,
 ⟨some 5, .mv (.c (.int .i64 3)), none⟩])
 .ret)
 .skip)))))
 (.seq (.region [⟨some 27, .mv (.t 6), none⟩,
 ⟨some 28, .nilck (.t 27), none⟩,
 ⟨some 29, .fa (.t 28) 3, none⟩,
 ⟨some 30, .ld true 10 (.t 29), none⟩,
 ⟨some 8, .alloc (.agg [(.int .i64 0), (.bool false), (.int .i64 0), (.bool false), (.int .i64 0), (.bool false), (.int .i64 0), (.bool false), (.int .i64 0), (.bool false)]), none⟩,
 ⟨none, .st 10 (.t 8) (.t 30), none⟩])
 (.seq (.seq (.region [⟨some 31, .mv (.t 1), none⟩,
 ⟨some 32, .len false (.t 31), none⟩,
 ⟨some 33, .mv (.c (.int .i64 0)), none⟩])
 (.block 1
 (.loop
 (.seq (.region [⟨some 34, .bin .lss (.t 33) (.t 32), none⟩])
 (.seq (.cond (.t 34)
 .skip
 (.exit 1))
 (.seq (.block 2
 (.seq (.region [⟨some 35, .ia 2 (.t 31) (.t 33), none⟩,
 ⟨some 36, .ld true 2 (.t 35), none⟩,
 ⟨some 10, .alloc (.agg [(.int .i64 0), (.int .i64 0)]), none⟩,
 ⟨none, .st 2 (.t 10) (.t 36), none⟩])
 (.seq (.region [⟨some 38, .mv (.t 6), none⟩,
 ⟨some 39, .ld true 10 (.t 8), none⟩,
 ⟨some 40, .ld true 2 (.t 10), none⟩,
 ⟨some 41, .call (.c (.func 53 [] [])) [(.t 38), (.t 39), (.t 40)], none⟩,
 ⟨some 37, .mv (.t 41), none⟩,
 ⟨some 42, .ext (.t 37) 0, none⟩,
 ⟨some 43, .ext (.t 37) 1, none⟩,
 ⟨none, .st 10 (.t 8) (.t 42), none⟩,
 ⟨some 7, .mv (.t 43), none⟩])
 (.seq (.region [⟨some 44, .mv (.t 7), none⟩,
 ⟨some 45, .bin .neq (.t 44) (.c (.int .i64 0)), none⟩])
 (.cond (.t 45)
 (.seq (.region [⟨some 46, .bld [.nilslice, .nilslice, (.int .i64 0)] [], none⟩,
 ⟨some 47, .mv (.t 7), none⟩,
 ⟨none, .st 3 (.t 4) (.t 46), none⟩,
 ⟨some 5, .mv (.t 47), none⟩])
 .ret)
 .skip)))))
 (.region [⟨some 48, .bin .add (.t 33) (.c (.int .i64 1)), none⟩,
 ⟨some 33, .mv (.t 48), none⟩])))))))
 (.seq (.draw [⟨⟨some 49, .fa (.t 2) 0, none⟩, false, [], []⟩,
 ⟨⟨some 50, .ld false 1 (.t 49), none⟩, false, [⟨some 50, .ld false 1 (.t 49), none⟩], []⟩,
 ⟨⟨some 51, .call (.c (.func 54 [] [])) [(.t 50)], none⟩, true, [], []⟩,
 ⟨⟨some 52, .fa (.t 2) 1, none⟩, false, [], []⟩,
 ⟨⟨some 53, .ld false 1 (.t 52), none⟩, false, [⟨some 53, .ld false 1 (.t 52), none⟩], [2]⟩,
 ⟨⟨some 54, .call (.c (.func 55 [] [])) [(.t 53)], none⟩, true, [], []⟩,
 ⟨⟨some 55, .fa (.t 2) 0, none⟩, false, [], []⟩,
 ⟨⟨none, .st 1 (.t 55) (.t 51), none⟩, true, [], []⟩,
 ⟨⟨some 56, .fa (.t 2) 1, none⟩, false, [], []⟩,
 ⟨⟨none, .st 1 (.t 56) (.t 54), none⟩, true, [], []⟩])
 (.seq (.seq (.draw [⟨⟨some 57, .ld true 10 (.t 8), none⟩, false, [⟨some 57, .ld true 10 (.t 8), none⟩], []⟩,
 ⟨⟨some 58, .mv (.t 6), none⟩, false, [], []⟩,
 ⟨⟨some 59, .nilck (.t 58), none⟩, false, [], []⟩,
 ⟨⟨some 60, .fa (.t 59) 3, none⟩, false, [], []⟩,
 ⟨⟨some 61, .ld true 10 (.t 60), none⟩, false, [⟨some 61, .ld true 10 (.t 60), none⟩], []⟩,
 ⟨⟨some 62, .eqv (.ag [.i, .b, .i, .b, .i, .b, .i, .b, .i, .b]) false (.t 57) (.t 61), none⟩, false, [], []⟩])
 (.cond (.t 62)
 (.seq (.region [⟨some 63, .ld true 3 (.t 2), none⟩,
 ⟨none, .st 3 (.t 4) (.t 63), none⟩,
 ⟨some 5, .mv (.c (.int .i64 0)), none⟩])
 .ret)
 .skip))
 (.seq (.seq (.region [⟨some 64, .fa (.t 2) 0, none⟩,
 ⟨some 65, .ld false 1 (.t 64), none⟩,
 ⟨some 66, .len false (.t 65), none⟩,
 ⟨some 67, .mv (.c (.int .i64 0)), none⟩])
 (.block 3
 (.loop
 (.seq (.region [⟨some 68, .bin .lss (.t 67) (.t 66), none⟩])
 (.seq (.cond (.t 68)
 .skip
 (.exit 3))
 (.seq (.block 4
 (.seq (.region [⟨some 69, .mv (.t 67), none⟩,
 ⟨some 11, .mv (.t 69), none⟩])
 (.seq (.draw [⟨⟨some 70, .fa (.t 2) 0, none⟩, false, [], []⟩,
 ⟨⟨some 71, .ld false 1 (.t 70), none⟩, false, [⟨some 71, .ld false 1 (.t 70), none⟩], []⟩,
 ⟨⟨some 72, .mv (.t 11), none⟩, false, [], []⟩,
 ⟨⟨some 73, .mv (.t 11), none⟩, false, [], []⟩,
 ⟨⟨some 74, .iaa 5 2 (.t 8) (.t 73), none⟩, false, [], []⟩,
 ⟨⟨some 75, .fa (.t 74) 0, none⟩, false, [], []⟩,
 ⟨⟨some 76, .ld false 1 (.t 75), none⟩, false, [⟨some 76, .ld false 1 (.t 75), none⟩], []⟩,
 ⟨⟨some 77, .ia 4 (.t 71) (.t 72), none⟩, false, [], []⟩,
 ⟨⟨some 78, .fa (.t 77) 1, none⟩, false, [], []⟩,
 ⟨⟨none, .st 1 (.t 78) (.t 76), none⟩, true, [], []⟩])
 (.draw [⟨⟨some 79, .fa (.t 2) 0, none⟩, false, [], []⟩,
 ⟨⟨some 80, .ld false 1 (.t 79), none⟩, false, [⟨some 80, .ld false 1 (.t 79), none⟩], []⟩,
 ⟨⟨some 81, .mv (.t 11), none⟩, false, [], []⟩,
 ⟨⟨some 82, .mv (.t 11), none⟩, false, [], []⟩,
 ⟨⟨some 83, .iaa 5 2 (.t 8) (.t 82), none⟩, false, [], []⟩,
 ⟨⟨some 84, .fa (.t 83) 1, none⟩, false, [], []⟩,
 ⟨⟨some 85, .ld false 1 (.t 84), none⟩, false, [⟨some 85, .ld false 1 (.t 84), none⟩], []⟩,
 ⟨⟨some 86, .ia 4 (.t 80) (.t 81), none⟩, false, [], []⟩,
 ⟨⟨some 87, .fa (.t 86) 2, none⟩, false, [], []⟩,
 ⟨⟨none, .st 1 (.t 87) (.t 85), none⟩, true, [], []⟩]))))
 (.region [⟨some 88, .bin .add (.t 67) (.c (.int .i64 1)), none⟩,
 ⟨some 67, .mv (.t 88), none⟩])))))))
 (.seq (.region [⟨some 89, .ld true 3 (.t 2), none⟩,
 ⟨none, .st 3 (.t 4) (.t 89), none⟩,
 ⟨some 5, .mv (.c (.int .i64 0)), none⟩])
 .ret))))))))), [.cell 4 true 3, .tmp 5]⟩
theorem c17 : compFun Tryz.prog Tryz.f17 = some ir17 := by kernel_rfl
def ir18 : IFun := ⟨16, (.seq (.region [⟨some 3, .box (.t 1), none⟩])
 (.seq (.region [⟨some 4, .mv (.t 0), none⟩,
 ⟨some 5, .fa (.t 3) 0, none⟩,
 ⟨some 6, .ld false 1 (.t 5), none⟩,
 ⟨some 7, .call (.c (.func 56 [] [])) [(.t 4), (.t 6)], none⟩])
 (.seq (.region [⟨some 8, .mv (.t 0), none⟩,
 ⟨some 9, .fa (.t 3) 1, none⟩,
 ⟨some 10, .ld false 1 (.t 9), none⟩,
 ⟨some 11, .call (.c (.func 23 [] [])) [(.t 8), (.t 10)], none⟩])
 (.region [⟨some 12, .mv (.t 0), none⟩,
 ⟨some 13, .fa (.t 3) 2, none⟩,
 ⟨some 14, .ld false 1 (.t 13), none⟩,
 ⟨some 15, .call (.c (.func 8 [] [])) [(.t 12), (.t 14)], none⟩])))), []⟩
theorem c18 : compFun Tryz.prog Tryz.f18 = some ir18 := by kernel_rfl
def ir19 : IFun := ⟨2, (.region [⟨some 1, .call (.c (.func 20 [] [])) [(.t 0)], none⟩]), []⟩
theorem c19 : compFun Tryz.prog Tryz.f19 = some ir19 := by kernel_rfl
def ir20 : IFun := ⟨14, (.seq (.region [⟨some 2, .mv (.t 0), none⟩,
 ⟨some 3, .nilck (.t 2), none⟩,
 ⟨some 4, .fa (.t 3) 0, none⟩,
 ⟨some 5, .call (.c (.func 57 [] [])) [(.t 4)], none⟩])
 (.seq (.region [⟨some 6, .mv (.t 0), none⟩,
 ⟨some 7, .nilck (.t 6), none⟩,
 ⟨some 8, .fa (.t 7) 1, none⟩,
 ⟨some 9, .call (.c (.func 25 [] [])) [(.t 8)], none⟩])
 (.region [⟨some 10, .mv (.t 0), none⟩,
 ⟨some 11, .nilck (.t 10), none⟩,
 ⟨some 12, .fa (.t 11) 2, none⟩,
 ⟨some 13, .call (.c (.func 52 [] [])) [(.t 12)], none⟩]))), []⟩
theorem c20 : compFun Tryz.prog Tryz.f20 = some ir20 := by kernel_rfl
def ir21 : IFun := ⟨19, (.seq (.region [⟨some 3, .mv (.c .nilfunc), none⟩])
 (.seq (.region [⟨some 7, .fa (.t 1) 0, none⟩,
 ⟨some 8, .ld true 3 (.t 7), none⟩,
 ⟨some 9, .call (.c (.func 22 [] [])) [(.t 8)], none⟩,
 ⟨some 6, .mv (.t 9), none⟩,
 ⟨some 10, .ext (.t 6) 0, none⟩,
 ⟨some 11, .ext (.t 6) 1, none⟩,
 ⟨some 4, .alloc .nilslice, none⟩,
 ⟨none, .st 1 (.t 4) (.t 10), none⟩,
 ⟨some 5, .mv (.t 11), none⟩])
 (.seq (.region [⟨some 12, .mv (.t 0), none⟩,
 ⟨some 13, .ld false 1 (.t 4), none⟩,
 ⟨some 14, .call (.c (.func 23 [] [])) [(.t 12), (.t 13)], none⟩])
 (.seq (.region [⟨some 15, .mv (.t 0), none⟩,
 ⟨some 16, .mv (.t 5), none⟩,
 ⟨some 17, .call (.c (.func 9 [] [])) [(.t 15), (.t 16)], none⟩])
 (.seq (.region [⟨some 18, .mkfn 24 [] [(.t 4)], none⟩,
 ⟨some 3, .mv (.t 18), none⟩])
 .ret))))), [.tmp 3]⟩
theorem c21 : compFun Tryz.prog Tryz.f21 = some ir21 := by kernel_rfl
def ir22 : IFun := ⟨24, (.seq (.region [⟨some 1, .box (.t 0), none⟩,
 ⟨some 2, .mv (.c .nilslice), none⟩,
 ⟨some 3, .mv (.c (.int .i64 0)), none⟩])
 (.seq (.region [⟨some 9, .ld true 3 (.t 1), none⟩,
 ⟨some 10, .call (.c (.func 48 [] [])) [(.t 9)], none⟩,
 ⟨some 8, .mv (.t 10), none⟩,
 ⟨some 11, .ext (.t 8) 0, none⟩,
 ⟨some 12, .ext (.t 8) 1, none⟩,
 ⟨some 4, .mv (.t 11), none⟩,
 ⟨some 5, .mv (.t 12), none⟩])
 (.seq (.seq (.region [⟨some 13, .mv (.t 5), none⟩,
 ⟨some 14, .bin .neq (.t 13) (.c (.int .i64 0)), none⟩])
 (.cond (.t 14)
 (.seq (.region [⟨some 15, .mv (.t 5), none⟩,
 ⟨some 2, .mv (.c .nilslice), none⟩,
 ⟨some 3, .mv (.t 15), none⟩])
 .ret)
 .skip))
 (.seq (.region [⟨some 17, .mv (.t 4), none⟩,
 ⟨some 18, .call (.c (.func 58 [] [])) [(.t 17)], none⟩,
 ⟨some 16, .mv (.t 18), none⟩,
 ⟨some 19, .ext (.t 16) 0, none⟩,
 ⟨some 20, .ext (.t 16) 1, none⟩,
 ⟨some 6, .mv (.t 19), none⟩,
 ⟨some 7, .mv (.t 20), none⟩])
 (.seq (.seq (.region [⟨some 21, .mv (.t 7), none⟩,
 ⟨some 22, .un .not (.t 21), none⟩])
 (.cond (.t 22)
 (.seq (.region [⟨some 2, .mv (.c .nilslice), none⟩,
 ⟨some 3, .mv (.c (.int .i64 9)), none⟩])
 .ret)
 .skip))
 (.seq (.region [⟨some 23, .mv (.t 6), none⟩,
 ⟨some 2, .mv (.t 23), none⟩,
 ⟨some 3, .mv (.c (.int .i64 0)), none⟩])
 .ret)))))), [.tmp 2, .tmp 3]⟩
theorem c22 : compFun Tryz.prog Tryz.f22 = some ir22 := by kernel_rfl
def ir23 : IFun := ⟨7, (.region [⟨some 4, .mv (.t 0), none⟩,
 ⟨some 5, .mv (.t 1), none⟩,
 ⟨some 6, .call (.c (.func 59 [] [])) [(.t 4), (.t 5), (.c (.func 60 [] []))], none⟩]), []⟩
theorem c23 : compFun Tryz.prog Tryz.f23 = some ir23 := by kernel_rfl
def ir24 : IFun := ⟨2, (.region [⟨some 1, .call (.c (.func 25 [] [])) [(.t 0)], none⟩]), []⟩
theorem c24 : compFun Tryz.prog Tryz.f24 = some ir24 := by kernel_rfl
def ir25 : IFun := ⟨6, (.region [⟨some 2, .mv (.t 0), none⟩,
 ⟨some 3, .nilck (.t 2), none⟩,
 ⟨some 4, .ld false 1 (.t 3), none⟩,
 ⟨some 5, .call (.c (.func 61 [] [])) [(.t 4), (.c (.func 62 [] []))], none⟩]), []⟩
theorem c25 : compFun Tryz.prog Tryz.f25 = some ir25 := by kernel_rfl
def ir26 : IFun := ⟨23, (.seq (.region [⟨some 3, .mv (.c .nilfunc), none⟩])
 (.seq (.region [⟨some 8, .fa (.t 1) 0, none⟩,
 ⟨some 9, .ld true 3 (.t 8), none⟩,
 ⟨some 10, .call (.c (.func 27 [] [])) [(.t 9)], none⟩,
 ⟨some 7, .mv (.t 10), none⟩,
 ⟨some 11, .ext (.t 7) 0, none⟩,
 ⟨some 12, .ext (.t 7) 1, none⟩,
 ⟨some 13, .ext (.t 7) 2, none⟩,
 ⟨some 4, .mv (.t 11), none⟩,
 ⟨some 5, .mv (.t 12), none⟩,
 ⟨some 6, .mv (.t 13), none⟩])
 (.seq (.region [⟨some 14, .mv (.t 0), none⟩,
 ⟨some 15, .mv (.t 4), none⟩,
 ⟨some 16, .call (.c (.func 8 [] [])) [(.t 14), (.t 15)], none⟩])
 (.seq (.region [⟨some 17, .mv (.t 0), none⟩,
 ⟨some 18, .mv (.t 5), none⟩,
 ⟨some 19, .call (.c (.func 8 [] [])) [(.t 17), (.t 18)], none⟩])
 (.seq (.region [⟨some 20, .mv (.t 0), none⟩,
 ⟨some 21, .mv (.t 6), none⟩,
 ⟨some 22, .call (.c (.func 9 [] [])) [(.t 20), (.t 21)], none⟩])
 (.seq (.region [⟨some 3, .mv (.c (.func 10 [] [])), none⟩])
 .ret)))))), [.tmp 3]⟩
theorem c26 : compFun Tryz.prog Tryz.f26 = some ir26 := by kernel_rfl
def ir27 : IFun := ⟨47, (.seq (.region [⟨some 1, .box (.t 0), none⟩,
 ⟨some 2, .mv (.c (.int .i64 0)), none⟩,
 ⟨some 3, .mv (.c (.int .i64 0)), none⟩,
 ⟨some 4, .mv (.c (.int .i64 0)), none⟩])
 (.seq (.region [⟨some 11, .ld true 3 (.t 1), none⟩,
 ⟨some 12, .call (.c (.func 48 [] [])) [(.t 11)], none⟩,
 ⟨some 10, .mv (.t 12), none⟩,
 ⟨some 13, .ext (.t 10) 0, none⟩,
 ⟨some 14, .ext (.t 10) 1, none⟩,
 ⟨some 5, .mv (.t 13), none⟩,
 ⟨some 4, .mv (.t 14), none⟩])
 (.seq (.seq (.region [⟨some 15, .mv (.t 4), none⟩,
 ⟨some 16, .bin .neq (.t 15) (.c (.int .i64 0)), none⟩])
 (.cond (.t 16)
 (.seq (.region [⟨some 17, .mv (.t 4), none⟩,
 ⟨some 2, .mv (.c (.int .i64 0)), none⟩,
 ⟨some 3, .mv (.c (.int .i64 0)), none⟩,
 ⟨some 4, .mv (.t 17), none⟩])
 .ret)
 .skip))
 (.seq (.region [⟨some 18, .bld [.nilslice, (.int .i64 0), .nilfunc] [(1, 1, (.c (.int .i64 (-1)))), (2, 1, (.c (.func 63 [] [])))], none⟩,
 ⟨some 6, .alloc (.agg [.nilslice, (.int .i64 0), .nilfunc]), none⟩,
 ⟨none, .st 3 (.t 6) (.t 18), none⟩])
 (.seq (.region [⟨some 19, .mv (.t 5), none⟩,
 ⟨some 20, .call (.c (.func 64 [] [])) [(.t 6), (.t 19)], none⟩])
 (.seq (.seq (.region [⟨some 21, .fa (.t 6) 0, none⟩,
 ⟨some 22, .ld false 1 (.t 21), none⟩,
 ⟨some 23, .len false (.t 22), none⟩,
 ⟨some 24, .mv (.c (.int .i64 0)), none⟩])
 (.block 0
 (.loop
 (.seq (.region [⟨some 25, .bin .lss (.t 24) (.t 23), none⟩])
 (.seq (.cond (.t 25)
 .skip
 (.exit 0))
 (.seq (.block 1
 (.seq (.region [⟨some 26, .mv (.t 24), none⟩,
 ⟨some 27, .ia 14 (.t 22) (.t 24), none⟩,
 ⟨some 28, .ld true 14 (.t 27), none⟩,
 ⟨some 8, .alloc (.agg [(.int .i64 0), (.bool false), (.int .i64 0), (.bool false), (.int .i64 0), (.bool false), (.int .i64 0), (.bool false), (.int .i64 0), (.bool false), (.int .i64 0), (.int .i64 0), (.int .i64 0), (.int .i64 0)]), none⟩,
 ⟨some 7, .mv (.t 26), none⟩,
 ⟨none, .st 14 (.t 8) (.t 28), none⟩])
 (.seq (.region [⟨some 29, .mv (.t 5), none⟩,
 ⟨some 30, .fa (.t 8) 0, none⟩,
 ⟨some 31, .ld true 10 (.t 30), none⟩,
 ⟨some 32, .call (.c (.func 49 [] [])) [(.t 29), (.t 31)], none⟩,
 ⟨some 33, .len false (.t 32), none⟩,
 ⟨some 9, .mv (.t 33), none⟩])
 (.seq (.region [⟨some 34, .mv (.t 7), none⟩,
 ⟨some 35, .bin .eql (.t 34) (.c (.int .i64 0)), none⟩,
 ⟨some 36, .mv (.t 35), none⟩,
 ⟨(some 37), (.mv (.t 9)), (some (36, false))⟩,
 ⟨(some 38), (.mv (.t 2)), (some (36, false))⟩,
 ⟨(some 39), (.bin .lss (.t 37) (.t 38)), (some (36, false))⟩,
 ⟨some 40, .pick (.t 36) (.c (.bool true)) (.t 39), none⟩])
 (.cond (.t 40)
 (.draw [⟨⟨some 41, .mv (.t 9), none⟩, false, [], []⟩,
 ⟨⟨some 42, .fa (.t 8) 13, none⟩, false, [], []⟩,
 ⟨⟨some 43, .ld false 1 (.t 42), none⟩, false, [⟨some 43, .ld false 1 (.t 42), none⟩], []⟩,
 ⟨⟨some 2, .mv (.t 41), none⟩, false, [], []⟩,
 ⟨⟨some 3, .mv (.t 43), none⟩, false, [], []⟩])
 .skip)))))
 (.region [⟨some 44, .bin .add (.t 24) (.c (.int .i64 1)), none⟩,
 ⟨some 24, .mv (.t 44), none⟩])))))))
 (.seq (.region [⟨some 45, .mv (.t 2), none⟩,
 ⟨some 46, .mv (.t 3), none⟩,
 ⟨some 2, .mv (.t 45), none⟩,
 ⟨some 3, .mv (.t 46), none⟩,
 ⟨some 4, .mv (.c (.int .i64 0)), none⟩])
 .ret))))))), [.tmp 2, .tmp 3, .tmp 4]⟩
theorem c27 : compFun Tryz.prog Tryz.f27 = some ir27 := by kernel_rfl
def ir28 : IFun := ⟨20, (.seq (.region [⟨some 3, .mv (.c .nilfunc), none⟩])
 (.seq (.region [⟨some 7, .fa (.t 1) 0, none⟩,
 ⟨some 8, .ld true 3 (.t 7), none⟩,
 ⟨some 9, .fa (.t 1) 4, none⟩,
 ⟨some 10, .ld false 1 (.t 9), none⟩,
 ⟨some 11, .call (.c (.func 29 [] [])) [(.t 8), (.t 10)], none⟩,
 ⟨some 6, .mv (.t 11), none⟩,
 ⟨some 12, .ext (.t 6) 0, none⟩,
 ⟨some 13, .ext (.t 6) 1, none⟩,
 ⟨some 4, .mv (.t 12), none⟩,
 ⟨some 5, .mv (.t 13), none⟩])
 (.seq (.region [⟨some 14, .mv (.t 0), none⟩,
 ⟨some 15, .mv (.t 4), none⟩,
 ⟨some 16, .call (.c (.func 8 [] [])) [(.t 14), (.t 15)], none⟩])
 (.seq (.region [⟨some 17, .mv (.t 0), none⟩,
 ⟨some 18, .mv (.t 5), none⟩,
 ⟨some 19, .call (.c (.func 9 [] [])) [(.t 17), (.t 18)], none⟩])
 (.seq (.region [⟨some 3, .mv (.c (.func 10 [] [])), none⟩])
 .ret))))), [.tmp 3]⟩
theorem c28 : compFun Tryz.prog Tryz.f28 = some ir28 := by kernel_rfl
def ir29 : IFun := ⟨29, (.seq (.region [⟨some 2, .box (.t 0), none⟩,
 ⟨some 4, .mv (.c (.int .i64 0)), none⟩,
 ⟨some 5, .mv (.c (.int .i64 0)), none⟩])
 (.seq (.region [⟨some 10, .ld true 3 (.t 2), none⟩,
 ⟨some 11, .call (.c (.func 48 [] [])) [(.t 10)], none⟩,
 ⟨some 9, .mv (.t 11), none⟩,
 ⟨some 12, .ext (.t 9) 0, none⟩,
 ⟨some 13, .ext (.t 9) 1, none⟩,
 ⟨some 6, .mv (.t 12), none⟩,
 ⟨some 7, .mv (.t 13), none⟩])
 (.seq (.block 0
 (.seq (.region [⟨some 15, .mv (.t 7), none⟩,
 ⟨some 16, .bin .neq (.t 15) (.c (.int .i64 0)), none⟩,
 ⟨some 14, .mv (.t 16), none⟩])
 (.cond (.t 14)
 (.seq (.region [⟨some 17, .mv (.t 7), none⟩,
 ⟨some 4, .mv (.c (.int .i64 0)), none⟩,
 ⟨some 5, .mv (.t 17), none⟩])
 .ret)
 (.seq (.region [⟨some 19, .mv (.t 1), none⟩,
 ⟨some 20, .bldS 1 1 [(.int .i64 0)] [(0, 1, (.t 19))], none⟩,
 ⟨some 21, .call (.c (.func 44 [] [])) [(.c (.int .i64 0)), (.c (.int .i64 20)), (.t 20)], none⟩,
 ⟨some 18, .mv (.t 21), none⟩])
 (.cond (.t 18)
 (.seq (.region [⟨some 4, .mv (.c (.int .i64 0)), none⟩,
 ⟨some 5, .mv (.c (.int .i64 7)), none⟩])
 .ret)
 .skip)))))
 (.seq (.region [⟨some 22, .mv (.t 1), none⟩,
 ⟨some 23, .bld [.nilslice, (.int .i64 0), .nilfunc] [(1, 1, (.t 22)), (2, 1, (.c (.func 65 [] [])))], none⟩,
 ⟨some 8, .alloc (.agg [.nilslice, (.int .i64 0), .nilfunc]), none⟩,
 ⟨none, .st 3 (.t 8) (.t 23), none⟩])
 (.seq (.region [⟨some 24, .mv (.t 6), none⟩,
 ⟨some 25, .call (.c (.func 64 [] [])) [(.t 8), (.t 24)], none⟩])
 (.seq (.region [⟨some 26, .fa (.t 8) 0, none⟩,
 ⟨some 27, .ld false 1 (.t 26), none⟩,
 ⟨some 28, .len false (.t 27), none⟩,
 ⟨some 4, .mv (.t 28), none⟩,
 ⟨some 5, .mv (.c (.int .i64 0)), none⟩])
 .ret)))))), [.tmp 4, .tmp 5]⟩
theorem c29 : compFun Tryz.prog Tryz.f29 = some ir29 := by kernel_rfl
def ir30 : IFun := ⟨19, (.seq (.region [⟨some 3, .mv (.c .nilfunc), none⟩])
 (.seq (.region [⟨some 7, .fa (.t 1) 0, none⟩,
 ⟨some 8, .ld true 3 (.t 7), none⟩,
 ⟨some 9, .call (.c (.func 31 [] [])) [(.t 8)], none⟩,
 ⟨some 6, .mv (.t 9), none⟩,
 ⟨some 10, .ext (.t 6) 0, none⟩,
 ⟨some 11, .ext (.t 6) 1, none⟩,
 ⟨some 4, .alloc .nilslice, none⟩,
 ⟨none, .st 1 (.t 4) (.t 10), none⟩,
 ⟨some 5, .mv (.t 11), none⟩])
 (.seq (.region [⟨some 12, .mv (.t 0), none⟩,
 ⟨some 13, .ld false 1 (.t 4), none⟩,
 ⟨some 14, .call (.c (.func 32 [] [])) [(.t 12), (.t 13)], none⟩])
 (.seq (.region [⟨some 15, .mv (.t 0), none⟩,
 ⟨some 16, .mv (.t 5), none⟩,
 ⟨some 17, .call (.c (.func 9 [] [])) [(.t 15), (.t 16)], none⟩])
 (.seq (.region [⟨some 18, .mkfn 33 [] [(.t 4)], none⟩,
 ⟨some 3, .mv (.t 18), none⟩])
 .ret))))), [.tmp 3]⟩
theorem c30 : compFun Tryz.prog Tryz.f30 = some ir30 := by kernel_rfl
def ir31 : IFun := ⟨102, (.seq (.region [⟨some 1, .box (.t 0), none⟩,
 ⟨some 2, .mv (.c .nilslice), none⟩,
 ⟨some 3, .mv (.c (.int .i64 0)), none⟩])
 (.seq (.seq (.region [⟨some 22, .ld true 3 (.t 1), none⟩,
 ⟨some 23, .call (.c (.func 7 [] [])) [(.t 22)], none⟩,
 ⟨some 21, .mv (.t 23), none⟩,
 ⟨some 24, .ext (.t 21) 0, none⟩,
 ⟨some 25, .ext (.t 21) 1, none⟩,
 ⟨some 26, .ext (.t 21) 2, none⟩,
 ⟨some 4, .mv (.t 24), none⟩,
 ⟨some 5, .mv (.t 25), none⟩,
 ⟨some 6, .mv (.t 26), none⟩])
 (.seq (.region [⟨some 27, .mv (.t 6), none⟩,
 ⟨some 28, .bin .neq (.t 27) (.c (.int .i64 0)), none⟩])
 (.cond (.t 28)
 (.seq (.region [⟨some 29, .mv (.t 6), none⟩,
 ⟨some 2, .mv (.c .nilslice), none⟩,
 ⟨some 3, .mv (.t 29), none⟩])
 .ret)
 .skip)))
 (.seq (.seq (.region [⟨some 30, .fa (.t 1) 0, none⟩,
 ⟨some 31, .ld false 1 (.t 30), none⟩,
 ⟨some 32, .call (.c (.func 42 [] [])) [(.t 31), (.c (.func 66 [] []))], none⟩])
 (.cond (.t 32)
 (.seq (.region [⟨some 2, .mv (.c .nilslice), none⟩,
 ⟨some 3, .mv (.c (.int .i64 8)), none⟩])
 .ret)
 .skip))
 (.seq (.region [⟨(some 33), .mkmap, none⟩,
 ⟨some 7, .alloc .nilmap, none⟩,
 ⟨none, .st 1 (.t 7) (.t 33), none⟩])
 (.seq (.seq (.region [⟨some 34, .fa (.t 1) 0, none⟩,
 ⟨some 35, .ld false 1 (.t 34), none⟩,
 ⟨some 36, .len false (.t 35), none⟩,
 ⟨some 37, .mv (.c (.int .i64 0)), none⟩])
 (.block 0
 (.loop
 (.seq (.region [⟨some 38, .bin .lss (.t 37) (.t 36), none⟩])
 (.seq (.cond (.t 38)
 .skip
 (.exit 0))
 (.seq (.block 1
 (.seq (.region [⟨some 39, .mv (.t 37), none⟩,
 ⟨some 40, .ia 4 (.t 35) (.t 37), none⟩,
 ⟨some 41, .ld true 4 (.t 40), none⟩,
 ⟨some 9, .alloc (.agg [(.str []), (.int .i64 0), (.bool false), (.int .i64 0)]), none⟩,
 ⟨some 8, .mv (.t 39), none⟩,
 ⟨none, .st 4 (.t 9) (.t 41), none⟩])
 (.seq (.seq (.region [⟨some 43, .ld false 1 (.t 7), none⟩,
 ⟨some 44, .fa (.t 9) 1, none⟩,
 ⟨some 45, .ld false 1 (.t 44), none⟩,
 ⟨some 46, .lkp (.sc .i) (.int .i64 0) true (.t 43) (.t 45), none⟩,
 ⟨some 42, .mv (.t 46), none⟩,
 ⟨some 47, .ext (.t 42) 0, none⟩,
 ⟨some 48, .ext (.t 42) 1, none⟩,
 ⟨some 10, .mv (.t 47), none⟩,
 ⟨some 11, .mv (.t 48), none⟩])
 (.seq (.region [⟨some 49, .mv (.t 11), none⟩])
 (.cond (.t 49)
 (.seq (.region [⟨some 2, .mv (.c .nilslice), none⟩,
 ⟨some 3, .mv (.c (.int .i64 5)), none⟩])
 .ret)
 .skip)))
 (.region [⟨some 50, .ld false 1 (.t 7), none⟩,
 ⟨some 51, .fa (.t 9) 1, none⟩,
 ⟨some 52, .ld false 1 (.t 51), none⟩,
 ⟨some 53, .mv (.t 8), none⟩,
 ⟨none, .mapup (.sc .i) (.t 50) (.t 52) (.t 53), none⟩]))))
 (.region [⟨some 54, .bin .add (.t 37) (.c (.int .i64 1)), none⟩,
 ⟨some 37, .mv (.t 54), none⟩])))))))
 (.seq (.region [⟨(some 55), .mkmap, none⟩,
 ⟨some 12, .mv (.t 55), none⟩])
 (.seq (.seq (.region [⟨some 56, .fa (.t 1) 0, none⟩,
 ⟨some 57, .ld false 1 (.t 56), none⟩,
 ⟨some 58, .len false (.t 57), none⟩,
 ⟨some 59, .mv (.c (.int .i64 0)), none⟩])
 (.block 2
 (.loop
 (.seq (.region [⟨some 60, .bin .lss (.t 59) (.t 58), none⟩])
 (.seq (.cond (.t 60)
 .skip
 (.exit 2))
 (.seq (.block 3
 (.seq (.region [⟨some 61, .ia 4 (.t 57) (.t 59), none⟩,
 ⟨some 62, .ld true 4 (.t 61), none⟩,
 ⟨some 14, .alloc (.agg [(.str []), (.int .i64 0), (.bool false), (.int .i64 0)]), none⟩,
 ⟨none, .st 4 (.t 14) (.t 62), none⟩])
 (.seq (.seq (.region [⟨some 64, .ld false 1 (.t 7), none⟩,
 ⟨some 65, .fa (.t 14) 3, none⟩,
 ⟨some 66, .ld false 1 (.t 65), none⟩,
 ⟨some 67, .lkp (.sc .i) (.int .i64 0) true (.t 64) (.t 66), none⟩,
 ⟨some 63, .mv (.t 67), none⟩,
 ⟨some 68, .ext (.t 63) 0, none⟩,
 ⟨some 69, .ext (.t 63) 1, none⟩,
 ⟨some 15, .mv (.t 68), none⟩,
 ⟨some 16, .mv (.t 69), none⟩])
 (.seq (.region [⟨some 70, .mv (.t 16), none⟩,
 ⟨some 71, .un .not (.t 70), none⟩])
 (.cond (.t 71)
 (.seq (.region [⟨some 2, .mv (.c .nilslice), none⟩,
 ⟨some 3, .mv (.c (.int .i64 9)), none⟩])
 .ret)
 .skip)))
 (.seq (.region [⟨some 72, .mv (.t 12), none⟩,
 ⟨some 73, .fa (.t 14) 3, none⟩,
 ⟨some 74, .ld false 1 (.t 73), none⟩,
 ⟨some 75, .lkp (.sc .i) (.int .i64 0) false (.t 72) (.t 74), none⟩,
 ⟨some 76, .bin .add (.t 75) (.c (.int .i64 1)), none⟩,
 ⟨none, .mapup (.sc .i) (.t 72) (.t 74) (.t 76), none⟩])
 (.seq (.region [⟨some 77, .mv (.t 12), none⟩,
 ⟨some 78, .fa (.t 14) 3, none⟩,
 ⟨some 79, .ld false 1 (.t 78), none⟩,
 ⟨some 80, .lkp (.sc .i) (.int .i64 0) false (.t 77) (.t 79), none⟩,
 ⟨some 81, .bin .gtr (.t 80) (.c (.int .i64 1)), none⟩])
 (.cond (.t 81)
 (.seq (.region [⟨some 2, .mv (.c .nilslice), none⟩,
 ⟨some 3, .mv (.c (.int .i64 9)), none⟩])
 .ret)
 .skip))))))
 (.region [⟨some 82, .bin .add (.t 59) (.c (.int .i64 1)), none⟩,
 ⟨some 59, .mv (.t 82), none⟩])))))))
 (.seq (.region [⟨some 17, .alloc (.int .i64 0), none⟩,
 ⟨none, .st 1 (.t 17) (.c (.int .i64 0)), none⟩])
 (.seq (.region [⟨some 18, .alloc .nilfunc, none⟩])
 (.seq (.region [⟨some 83, .mkfn 67 [] [(.t 17), (.t 18), (.t 7), (.t 1)], none⟩,
 ⟨none, .st 1 (.t 18) (.t 83), none⟩])
 (.seq (.seq (.region [⟨some 84, .fa (.t 1) 0, none⟩,
 ⟨some 85, .ld false 1 (.t 84), none⟩,
 ⟨some 86, .len false (.t 85), none⟩,
 ⟨some 87, .mv (.c (.int .i64 0)), none⟩])
 (.block 4
 (.loop
 (.seq (.region [⟨some 88, .bin .lss (.t 87) (.t 86), none⟩])
 (.seq (.cond (.t 88)
 .skip
 (.exit 4))
 (.seq (.block 5
 (.seq (.region [⟨some 89, .mv (.t 87), none⟩,
 ⟨some 19, .mv (.t 89), none⟩])
 (.seq (.region [⟨some 90, .ld false 1 (.t 18), none⟩,
 ⟨some 91, .mv (.t 19), none⟩,
 ⟨some 92, .call (.t 90) [(.t 91)], none⟩,
 ⟨some 20, .mv (.t 92), none⟩])
 (.seq (.region [⟨some 93, .mv (.t 20), none⟩,
 ⟨some 94, .len false (.t 93), none⟩,
 ⟨some 95, .bin .gtr (.t 94) (.c (.int .i64 1)), none⟩])
 (.cond (.t 95)
 (.region [⟨some 96, .mv (.t 2), none⟩,
 ⟨some 97, .mv (.t 20), none⟩,
 ⟨some 98, .bldS 1 1 [.nilslice] [(0, 1, (.t 97))], none⟩,
 ⟨some 99, .app 1 24 (.t 96) (.t 98), none⟩,
 ⟨some 2, .mv (.t 99), none⟩])
 .skip)))))
 (.region [⟨some 100, .bin .add (.t 87) (.c (.int .i64 1)), none⟩,
 ⟨some 87, .mv (.t 100), none⟩])))))))
 (.seq (.region [⟨some 101, .mv (.t 2), none⟩,
 ⟨some 2, .mv (.t 101), none⟩,
 ⟨some 3, .mv (.c (.int .i64 0)), none⟩])
 .ret)))))))))))), [.tmp 2, .tmp 3]⟩
theorem c31 : compFun Tryz.prog Tryz.f31 = some ir31 := by kernel_rfl
def ir32 : IFun := ⟨7, (.region [⟨some 4, .mv (.t 0), none⟩,
 ⟨some 5, .mv (.t 1), none⟩,
 ⟨some 6, .call (.c (.func 68 [] [])) [(.t 4), (.t 5), (.c (.func 13 [] []))], none⟩]), []⟩
theorem c32 : compFun Tryz.prog Tryz.f32 = some ir32 := by kernel_rfl
def ir33 : IFun := ⟨2, (.region [⟨some 1, .call (.c (.func 34 [] [])) [(.t 0)], none⟩]), []⟩
theorem c33 : compFun Tryz.prog Tryz.f33 = some ir33 := by kernel_rfl
def ir34 : IFun := ⟨6, (.region [⟨some 2, .mv (.t 0), none⟩,
 ⟨some 3, .nilck (.t 2), none⟩,
 ⟨some 4, .ld false 1 (.t 3), none⟩,
 ⟨some 5, .call (.c (.func 69 [] [])) [(.t 4), (.c (.func 15 [] []))], none⟩]), []⟩
theorem c34 : compFun Tryz.prog Tryz.f34 = some ir34 := by kernel_rfl
def ir35 : IFun := ⟨22, (.seq (.region [⟨some 3, .mv (.c .nilfunc), none⟩])
 (.seq (.region [⟨some 7, .fa (.t 1) 0, none⟩,
 ⟨some 8, .ld true 3 (.t 7), none⟩,
 ⟨some 9, .fa (.t 1) 5, none⟩,
 ⟨some 10, .ld false 1 (.t 9), none⟩,
 ⟨some 11, .fa (.t 1) 6, none⟩,
 ⟨some 12, .ld false 1 (.t 11), none⟩,
 ⟨some 13, .call (.c (.func 36 [] [])) [(.t 8), (.t 10), (.t 12)], none⟩,
 ⟨some 6, .mv (.t 13), none⟩,
 ⟨some 14, .ext (.t 6) 0, none⟩,
 ⟨some 15, .ext (.t 6) 1, none⟩,
 ⟨some 4, .mv (.t 14), none⟩,
 ⟨some 5, .mv (.t 15), none⟩])
 (.seq (.region [⟨some 16, .mv (.t 0), none⟩,
 ⟨some 17, .mv (.t 4), none⟩,
 ⟨some 18, .call (.c (.func 8 [] [])) [(.t 16), (.t 17)], none⟩])
 (.seq (.region [⟨some 19, .mv (.t 0), none⟩,
 ⟨some 20, .mv (.t 5), none⟩,
 ⟨some 21, .call (.c (.func 9 [] [])) [(.t 19), (.t 20)], none⟩])
 (.seq (.region [⟨some 3, .mv (.c (.func 10 [] [])), none⟩])
 .ret))))), [.tmp 3]⟩
theorem c35 : compFun Tryz.prog Tryz.f35 = some ir35 := by kernel_rfl
def ir36 : IFun := ⟨78, (.seq (.region [⟨some 3, .box (.t 0), none⟩,
 ⟨some 6, .mv (.c (.int .i64 0)), none⟩,
 ⟨some 7, .mv (.c (.int .i64 0)), none⟩])
 (.seq (.region [⟨some 16, .ld true 3 (.t 3), none⟩,
 ⟨some 17, .call (.c (.func 48 [] [])) [(.t 16)], none⟩,
 ⟨some 15, .mv (.t 17), none⟩,
 ⟨some 18, .ext (.t 15) 0, none⟩,
 ⟨some 19, .ext (.t 15) 1, none⟩,
 ⟨some 8, .mv (.t 18), none⟩,
 ⟨some 9, .mv (.t 19), none⟩])
 (.seq (.block 0
 (.seq (.region [⟨some 21, .mv (.t 9), none⟩,
 ⟨some 22, .bin .neq (.t 21) (.c (.int .i64 0)), none⟩,
 ⟨some 20, .mv (.t 22), none⟩])
 (.cond (.t 20)
 (.seq (.region [⟨some 23, .mv (.t 9), none⟩,
 ⟨some 6, .mv (.c (.int .i64 0)), none⟩,
 ⟨some 7, .mv (.t 23), none⟩])
 .ret)
 (.seq (.region [⟨some 25, .fa (.t 3) 0, none⟩,
 ⟨some 26, .ld false 1 (.t 25), none⟩,
 ⟨some 27, .len false (.t 26), none⟩,
 ⟨some 28, .bin .sub (.t 27) (.c (.int .i64 1)), none⟩,
 ⟨some 29, .mv (.t 1), none⟩,
 ⟨some 30, .mv (.t 2), none⟩,
 ⟨some 31, .bldS 1 2 [(.int .i64 0)] [(0, 1, (.t 29)), (1, 1, (.t 30))], none⟩,
 ⟨some 32, .call (.c (.func 44 [] [])) [(.c (.int .i64 0)), (.t 28), (.t 31)], none⟩,
 ⟨some 24, .mv (.t 32), none⟩])
 (.cond (.t 24)
 (.seq (.region [⟨some 6, .mv (.c (.int .i64 0)), none⟩,
 ⟨some 7, .mv (.c (.int .i64 4)), none⟩])
 .ret)
 (.seq (.region [⟨some 34, .mv (.t 1), none⟩,
 ⟨some 35, .mv (.t 2), none⟩,
 ⟨some 36, .bin .geq (.t 34) (.t 35), none⟩,
 ⟨some 33, .mv (.t 36), none⟩])
 (.cond (.t 33)
 (.seq (.region [⟨some 6, .mv (.c (.int .i64 0)), none⟩,
 ⟨some 7, .mv (.c (.int .i64 2)), none⟩])
 .ret)
 .skip)))))))
 (.seq (.region [⟨some 38, .mv (.t 8), none⟩,
 ⟨some 39, .call (.c (.func 58 [] [])) [(.t 38)], none⟩,
 ⟨some 37, .mv (.t 39), none⟩,
 ⟨some 40, .ext (.t 37) 0, none⟩,
 ⟨some 41, .ext (.t 37) 1, none⟩,
 ⟨some 10, .mv (.t 40), none⟩,
 ⟨some 11, .mv (.t 41), none⟩])
 (.seq (.seq (.region [⟨some 42, .mv (.t 11), none⟩,
 ⟨some 43, .un .not (.t 42), none⟩])
 (.cond (.t 43)
 (.seq (.region [⟨some 6, .mv (.c (.int .i64 0)), none⟩,
 ⟨some 7, .mv (.c (.int .i64 9)), none⟩])
 .ret)
 .skip))
 (.seq (.seq (.region [⟨some 44, .mv (.t 1), none⟩,
 ⟨some 45, .mv (.t 2), none⟩,
 ⟨some 46, .bld [(.int .i64 0), (.int .i64 0)] [(0, 1, (.t 44)), (1, 1, (.t 45))], none⟩,
 ⟨some 12, .alloc (.agg [(.int .i64 0), (.int .i64 0)]), none⟩,
 ⟨none, .st 2 (.t 12) (.t 46), none⟩])
 (.seq (.draw [⟨⟨some 47, .mv (.t 8), none⟩, false, [], []⟩,
 ⟨⟨some 48, .nilck (.t 47), none⟩, false, [], []⟩,
 ⟨⟨some 49, .fa (.t 48) 0, none⟩, false, [], []⟩,
 ⟨⟨some 50, .fa (.t 49) 1, none⟩, false, [], []⟩,
 ⟨⟨some 51, .ld false 1 (.t 50), none⟩, false, [⟨some 51, .ld false 1 (.t 50), none⟩], []⟩,
 ⟨⟨some 52, .ld true 2 (.t 12), none⟩, false, [⟨some 52, .ld true 2 (.t 12), none⟩], []⟩,
 ⟨⟨some 53, .call (.c (.func 47 [] [])) [(.t 51), (.t 52)], none⟩, true, [], []⟩,
 ⟨⟨some 54, .un .not (.t 53), none⟩, false, [], []⟩])
 (.cond (.t 54)
 (.draw [⟨⟨some 55, .mv (.t 8), none⟩, false, [], []⟩,
 ⟨⟨some 56, .mv (.t 8), none⟩, false, [], []⟩,
 ⟨⟨some 57, .nilck (.t 56), none⟩, false, [], []⟩,
 ⟨⟨some 58, .fa (.t 57) 0, none⟩, false, [], []⟩,
 ⟨⟨some 59, .fa (.t 58) 1, none⟩, false, [], []⟩,
 ⟨⟨some 60, .ld false 1 (.t 59), none⟩, false, [⟨some 60, .ld false 1 (.t 59), none⟩], []⟩,
 ⟨⟨some 61, .call (.c (.func 70 [] [])) [(.t 60)], none⟩, true, [], []⟩,
 ⟨⟨some 62, .ld true 2 (.t 12), none⟩, false, [⟨some 62, .ld true 2 (.t 12), none⟩], [6]⟩,
 ⟨⟨some 63, .bldS 2 1 [(.int .i64 0), (.int .i64 0)] [(0, 2, (.t 62))], none⟩, false, [], []⟩,
 ⟨⟨some 64, .app 2 16 (.t 61) (.t 63), none⟩, true, [], []⟩,
 ⟨⟨some 65, .nilck (.t 55), none⟩, false, [], []⟩,
 ⟨⟨some 66, .fa (.t 65) 0, none⟩, false, [], []⟩,
 ⟨⟨some 67, .fa (.t 66) 1, none⟩, false, [], []⟩,
 ⟨⟨none, .st 1 (.t 67) (.t 64), none⟩, true, [], []⟩])
 .skip)))
 (.seq (.region [⟨some 69, .mv (.t 8), none⟩,
 ⟨some 70, .call (.c (.func 58 [] [])) [(.t 69)], none⟩,
 ⟨some 68, .mv (.t 70), none⟩,
 ⟨some 71, .ext (.t 68) 0, none⟩,
 ⟨some 72, .ext (.t 68) 1, none⟩,
 ⟨some 13, .mv (.t 71), none⟩,
 ⟨some 14, .mv (.t 72), none⟩])
 (.seq (.region [⟨some 73, .mv (.t 10), none⟩,
 ⟨some 74, .len false (.t 73), none⟩,
 ⟨some 75, .mv (.t 13), none⟩,
 ⟨some 76, .len false (.t 75), none⟩,
 ⟨some 77, .bin .sub (.t 74) (.t 76), none⟩,
 ⟨some 6, .mv (.t 77), none⟩,
 ⟨some 7, .mv (.c (.int .i64 0)), none⟩])
 .ret)))))))), [.tmp 6, .tmp 7]⟩
theorem c36 : compFun Tryz.prog Tryz.f36 = some ir36 := by kernel_rfl
def ir37 : IFun := ⟨59, (.seq (.region [⟨some 2, .box (.t 0), none⟩,
 ⟨some 3, .box (.t 1), none⟩,
 ⟨some 4, .mv (.c (.bool false)), none⟩])
 (.seq (.seq (.region [⟨some 7, .fa (.t 2) 0, none⟩,
 ⟨some 8, .ld false 1 (.t 7), none⟩,
 ⟨some 9, .len false (.t 8), none⟩,
 ⟨some 10, .fa (.t 3) 0, none⟩,
 ⟨some 11, .ld false 1 (.t 10), none⟩,
 ⟨some 12, .len false (.t 11), none⟩,
 ⟨some 13, .bin .neq (.t 9) (.t 12), none⟩,
 ⟨some 14, .mv (.t 13), none⟩,
 ⟨(some 15), (.fa (.t 2) 1), (some (14, false))⟩,
 ⟨(some 16), (.ld false 1 (.t 15)), (some (14, false))⟩,
 ⟨(some 17), (.len false (.t 16)), (some (14, false))⟩,
 ⟨(some 18), (.fa (.t 3) 1), (some (14, false))⟩,
 ⟨(some 19), (.ld false 1 (.t 18)), (some (14, false))⟩,
 ⟨(some 20), (.len false (.t 19)), (some (14, false))⟩,
 ⟨(some 21), (.bin .neq (.t 17) (.t 20)), (some (14, false))⟩,
 ⟨some 22, .pick (.t 14) (.c (.bool true)) (.t 21), none⟩])
 (.cond (.t 22)
 (.seq (.region [⟨some 4, .mv (.c (.bool false)), none⟩])
 .ret)
 .skip))
 (.seq (.seq (.region [⟨some 5, .mv (.c (.int .i64 0)), none⟩])
 (.block 0
 (.loop
 (.seq (.seq (.region [⟨some 23, .mv (.t 5), none⟩,
 ⟨some 24, .fa (.t 2) 0, none⟩,
 ⟨some 25, .ld false 1 (.t 24), none⟩,
 ⟨some 26, .len false (.t 25), none⟩,
 ⟨some 27, .bin .lss (.t 23) (.t 26), none⟩])
 (.cond (.t 27)
 .skip
 (.exit 0)))
 (.seq (.block 1
 (.seq (.draw [⟨⟨some 30, .fa (.t 2) 0, none⟩, false, [], []⟩,
 ⟨⟨some 31, .ld false 1 (.t 30), none⟩, false, [⟨some 31, .ld false 1 (.t 30), none⟩], []⟩,
 ⟨⟨some 32, .mv (.t 5), none⟩, false, [], []⟩,
 ⟨⟨some 33, .ia 1 (.t 31) (.t 32), none⟩, false, [], []⟩,
 ⟨⟨some 34, .ld false 1 (.t 33), none⟩, false, [⟨some 34, .ld false 1 (.t 33), none⟩], []⟩,
 ⟨⟨some 35, .fa (.t 3) 0, none⟩, false, [], []⟩,
 ⟨⟨some 36, .ld false 1 (.t 35), none⟩, false, [⟨some 36, .ld false 1 (.t 35), none⟩], []⟩,
 ⟨⟨some 37, .mv (.t 5), none⟩, false, [], []⟩,
 ⟨⟨some 38, .ia 1 (.t 36) (.t 37), none⟩, false, [], []⟩,
 ⟨⟨some 39, .ld false 1 (.t 38), none⟩, false, [⟨some 39, .ld false 1 (.t 38), none⟩], []⟩,
 ⟨⟨some 40, .bin .neq (.t 34) (.t 39), none⟩, false, [], []⟩])
 (.cond (.t 40)
 (.seq (.region [⟨some 4, .mv (.c (.bool false)), none⟩])
 .ret)
 .skip)))
 (.region [⟨some 28, .mv (.t 5), none⟩,
 ⟨some 29, .bin .add (.t 28) (.c (.int .i64 1)), none⟩,
 ⟨some 5, .mv (.t 29), none⟩]))))))
 (.seq (.seq (.region [⟨some 6, .mv (.c (.int .i64 0)), none⟩])
 (.block 2
 (.loop
 (.seq (.seq (.region [⟨some 41, .mv (.t 6), none⟩,
 ⟨some 42, .fa (.t 2) 1, none⟩,
 ⟨some 43, .ld false 1 (.t 42), none⟩,
 ⟨some 44, .len false (.t 43), none⟩,
 ⟨some 45, .bin .lss (.t 41) (.t 44), none⟩])
 (.cond (.t 45)
 .skip
 (.exit 2)))
 (.seq (.block 3
 (.seq (.draw [⟨⟨some 48, .fa (.t 2) 1, none⟩, false, [], []⟩,
 ⟨⟨some 49, .ld false 1 (.t 48), none⟩, false, [⟨some 49, .ld false 1 (.t 48), none⟩], []⟩,
 ⟨⟨some 50, .mv (.t 6), none⟩, false, [], []⟩,
 ⟨⟨some 51, .ia 1 (.t 49) (.t 50), none⟩, false, [], []⟩,
 ⟨⟨some 52, .ld false 1 (.t 51), none⟩, false, [⟨some 52, .ld false 1 (.t 51), none⟩], []⟩,
 ⟨⟨some 53, .fa (.t 3) 1, none⟩, false, [], []⟩,
 ⟨⟨some 54, .ld false 1 (.t 53), none⟩, false, [⟨some 54, .ld false 1 (.t 53), none⟩], []⟩,
 ⟨⟨some 55, .mv (.t 6), none⟩, false, [], []⟩,
 ⟨⟨some 56, .ia 1 (.t 54) (.t 55), none⟩, false, [], []⟩,
 ⟨⟨some 57, .ld false 1 (.t 56), none⟩, false, [⟨some 57, .ld false 1 (.t 56), none⟩], []⟩,
 ⟨⟨some 58, .bin .neq (.t 52) (.t 57), none⟩, false, [], []⟩])
 (.cond (.t 58)
 (.seq (.region [⟨some 4, .mv (.c (.bool false)), none⟩])
 .ret)
 .skip)))
 (.region [⟨some 46, .mv (.t 6), none⟩,
 ⟨some 47, .bin .add (.t 46) (.c (.int .i64 1)), none⟩,
 ⟨some 6, .mv (.t 47), none⟩]))))))
 (.seq (.region [⟨some 4, .mv (.c (.bool true)), none⟩])
 .ret))))), [.tmp 4]⟩
theorem c37 : compFun Tryz.prog Tryz.f37 = some ir37 := by kernel_rfl
def ir38 : IFun := ⟨166, (.seq (.region [⟨some 0, .mv (.c (.bool false)), none⟩])
 (.seq (.region [⟨some 26, .call (.c (.func 71 [] [])) [(.c (.int .i64 1))], none⟩,
 ⟨some 27, .call (.c (.func 71 [] [])) [(.c (.int .i64 (-1)))], none⟩,
 ⟨some 28, .call (.c (.func 72 [] [])) [], none⟩,
 ⟨some 1, .alloc (.agg [.nilslice, .nilslice, (.int .i64 0)]), none⟩,
 ⟨some 2, .alloc (.agg [.nilslice, .nilslice, (.int .i64 0)]), none⟩,
 ⟨some 3, .alloc (.agg [.nilslice, .nilslice, (.int .i64 0)]), none⟩,
 ⟨none, .st 3 (.t 1) (.t 26), none⟩,
 ⟨none, .st 3 (.t 2) (.t 27), none⟩,
 ⟨none, .st 3 (.t 3) (.t 28), none⟩])
 (.seq (.region [⟨some 30, .ld true 3 (.t 1), none⟩,
 ⟨some 31, .call (.c (.func 12 [] [])) [(.t 30)], none⟩,
 ⟨some 29, .mv (.t 31), none⟩,
 ⟨some 32, .ext (.t 29) 0, none⟩,
 ⟨some 33, .ext (.t 29) 1, none⟩,
 ⟨some 4, .mv (.t 32), none⟩,
 ⟨some 5, .mv (.t 33), none⟩])
 (.seq (.draw [⟨⟨some 35, .ld true 3 (.t 1), none⟩, false, [⟨some 35, .ld true 3 (.t 1), none⟩], []⟩,
 ⟨⟨some 36, .bldS 1 6 [(.int .i64 0)] [(0, 1, (.c (.int .i64 2))), (1, 1, (.c (.int .i64 3))), (2, 1, (.c (.int .i64 1))), (3, 1, (.c (.int .i64 2))), (4, 1, (.c (.int .i64 1))), (5, 1, (.c (.int .i64 1)))], none⟩, false, [], []⟩,
 ⟨⟨some 37, .call (.c (.func 73 [] [])) [(.t 36)], none⟩, true, [⟨some 35, .ld true 3 (.t 1), none⟩], []⟩,
 ⟨⟨some 38, .call (.c (.func 17 [] [])) [(.t 35), (.t 37)], none⟩, true, [], []⟩,
 ⟨⟨some 34, .mv (.t 38), none⟩, false, [], []⟩,
 ⟨⟨some 39, .ext (.t 34) 0, none⟩, false, [], []⟩,
 ⟨⟨some 40, .ext (.t 34) 1, none⟩, false, [], []⟩,
 ⟨⟨some 6, .alloc (.agg [.nilslice, .nilslice, (.int .i64 0)]), none⟩, false, [], []⟩,
 ⟨⟨none, .st 3 (.t 6) (.t 39), none⟩, true, [], []⟩,
 ⟨⟨some 7, .mv (.t 40), none⟩, false, [], []⟩])
 (.seq (.region [⟨some 42, .ld true 3 (.t 6), none⟩,
 ⟨some 43, .call (.c (.func 74 [] [])) [(.t 42)], none⟩,
 ⟨some 41, .mv (.t 43), none⟩,
 ⟨some 44, .ext (.t 41) 0, none⟩,
 ⟨some 45, .ext (.t 41) 1, none⟩,
 ⟨some 8, .mv (.t 44), none⟩,
 ⟨some 9, .mv (.t 45), none⟩])
 (.seq (.region [⟨some 47, .ld true 3 (.t 1), none⟩,
 ⟨some 48, .call (.c (.func 22 [] [])) [(.t 47)], none⟩,
 ⟨some 46, .mv (.t 48), none⟩,
 ⟨some 49, .ext (.t 46) 0, none⟩,
 ⟨some 50, .ext (.t 46) 1, none⟩,
 ⟨some 10, .mv (.t 49), none⟩,
 ⟨some 11, .mv (.t 50), none⟩])
 (.seq (.region [⟨some 52, .ld true 3 (.t 2), none⟩,
 ⟨some 53, .call (.c (.func 22 [] [])) [(.t 52)], none⟩,
 ⟨some 51, .mv (.t 53), none⟩,
 ⟨some 54, .ext (.t 51) 0, none⟩,
 ⟨some 55, .ext (.t 51) 1, none⟩,
 ⟨some 12, .mv (.t 54), none⟩,
 ⟨some 13, .mv (.t 55), none⟩])
 (.seq (.region [⟨some 57, .ld true 3 (.t 1), none⟩,
 ⟨some 58, .call (.c (.func 27 [] [])) [(.t 57)], none⟩,
 ⟨some 56, .mv (.t 58), none⟩,
 ⟨some 59, .ext (.t 56) 0, none⟩,
 ⟨some 60, .ext (.t 56) 1, none⟩,
 ⟨some 61, .ext (.t 56) 2, none⟩,
 ⟨some 14, .mv (.t 59), none⟩,
 ⟨some 15, .mv (.t 60), none⟩,
 ⟨some 16, .mv (.t 61), none⟩])
 (.seq (.region [⟨some 63, .ld true 3 (.t 2), none⟩,
 ⟨some 64, .call (.c (.func 27 [] [])) [(.t 63)], none⟩,
 ⟨some 62, .mv (.t 64), none⟩,
 ⟨some 65, .ext (.t 62) 0, none⟩,
 ⟨some 66, .ext (.t 62) 1, none⟩,
 ⟨some 67, .ext (.t 62) 2, none⟩,
 ⟨some 17, .mv (.t 65), none⟩,
 ⟨some 18, .mv (.t 66), none⟩,
 ⟨some 19, .mv (.t 67), none⟩])
 (.seq (.region [⟨some 69, .ld true 3 (.t 1), none⟩,
 ⟨some 70, .call (.c (.func 29 [] [])) [(.t 69), (.c (.int .i64 2))], none⟩,
 ⟨some 68, .mv (.t 70), none⟩,
 ⟨some 71, .ext (.t 68) 0, none⟩,
 ⟨some 72, .ext (.t 68) 1, none⟩,
 ⟨some 20, .mv (.t 71), none⟩,
 ⟨some 21, .mv (.t 72), none⟩])
 (.seq (.region [⟨some 74, .ld true 3 (.t 3), none⟩,
 ⟨some 75, .call (.c (.func 31 [] [])) [(.t 74)], none⟩,
 ⟨some 73, .mv (.t 75), none⟩,
 ⟨some 76, .ext (.t 73) 0, none⟩,
 ⟨some 77, .ext (.t 73) 1, none⟩,
 ⟨some 22, .mv (.t 76), none⟩,
 ⟨some 23, .mv (.t 77), none⟩])
 (.seq (.region [⟨some 79, .call (.c (.func 75 [] [])) [], none⟩,
 ⟨some 80, .call (.c (.func 36 [] [])) [(.t 79), (.c (.int .i64 0)), (.c (.int .i64 3))], none⟩,
 ⟨some 78, .mv (.t 80), none⟩,
 ⟨some 81, .ext (.t 78) 0, none⟩,
 ⟨some 82, .ext (.t 78) 1, none⟩,
 ⟨some 24, .mv (.t 81), none⟩,
 ⟨some 25, .mv (.t 82), none⟩])
 (.seq (.region [⟨some 83, .mv (.t 5), none⟩,
 ⟨some 84, .bin .eql (.t 83) (.c (.int .i64 0)), none⟩,
 ⟨some 85, .mv (.t 84), none⟩,
 ⟨(some 86), (.mv (.t 7)), (some (85, true))⟩,
 ⟨(some 87), (.bin .eql (.t 86) (.c (.int .i64 0))), (some (85, true))⟩,
 ⟨some 88, .pick (.t 85) (.t 87) (.c (.bool false)), none⟩,
 ⟨some 89, .mv (.t 88), none⟩,
 ⟨(some 90), (.mv (.t 11)), (some (89, true))⟩,
 ⟨(some 91), (.bin .eql (.t 90) (.c (.int .i64 0))), (some (89, true))⟩,
 ⟨some 92, .pick (.t 89) (.t 91) (.c (.bool false)), none⟩,
 ⟨some 93, .mv (.t 92), none⟩,
 ⟨(some 94), (.mv (.t 13)), (some (93, true))⟩,
 ⟨(some 95), (.bin .eql (.t 94) (.c (.int .i64 9))), (some (93, true))⟩,
 ⟨some 96, .pick (.t 93) (.t 95) (.c (.bool false)), none⟩,
 ⟨some 97, .mv (.t 96), none⟩,
 ⟨(some 98), (.mv (.t 16)), (some (97, true))⟩,
 ⟨(some 99), (.bin .eql (.t 98) (.c (.int .i64 0))), (some (97, true))⟩,
 ⟨some 100, .pick (.t 97) (.t 99) (.c (.bool false)), none⟩,
 ⟨some 101, .mv (.t 100), none⟩,
 ⟨(some 102), (.mv (.t 19)), (some (101, true))⟩,
 ⟨(some 103), (.bin .eql (.t 102) (.c (.int .i64 0))), (some (101, true))⟩,
 ⟨some 104, .pick (.t 101) (.t 103) (.c (.bool false)), none⟩,
 ⟨some 105, .mv (.t 104), none⟩,
 ⟨(some 106), (.mv (.t 21)), (some (105, true))⟩,
 ⟨(some 107), (.bin .eql (.t 106) (.c (.int .i64 0))), (some (105, true))⟩,
 ⟨some 108, .pick (.t 105) (.t 107) (.c (.bool false)), none⟩,
 ⟨some 109, .mv (.t 108), none⟩,
 ⟨(some 110), (.mv (.t 23)), (some (109, true))⟩,
 ⟨(some 111), (.bin .eql (.t 110) (.c (.int .i64 0))), (some (109, true))⟩,
 ⟨some 112, .pick (.t 109) (.t 111) (.c (.bool false)), none⟩,
 ⟨some 113, .mv (.t 112), none⟩,
 ⟨(some 114), (.mv (.t 25)), (some (113, true))⟩,
 ⟨(some 115), (.bin .eql (.t 114) (.c (.int .i64 0))), (some (113, true))⟩,
 ⟨some 116, .pick (.t 113) (.t 115) (.c (.bool false)), none⟩,
 ⟨some 117, .mv (.t 116), none⟩,
 ⟨(some 118), (.mv (.t 4)), (some (117, true))⟩,
 ⟨(some 119), (.bldS 1 3 [(.int .i64 0)] [(0, 1, (.c (.int .i64 0))), (1, 1, (.c (.int .i64 1))), (2, 1, (.c (.int .i64 2)))]), (some (117, true))⟩,
 ⟨(some 120), (.call (.c (.func 76 [] [])) [(.t 118), (.t 119)]), (some (117, true))⟩,
 ⟨some 121, .pick (.t 117) (.t 120) (.c (.bool false)), none⟩,
 ⟨some 122, .mv (.t 121), none⟩,
 ⟨(some 123), (.mv (.t 8)), (some (122, true))⟩,
 ⟨(some 124), (.bldS 1 4 [(.int .i64 0)] [(0, 1, (.c (.int .i64 1))), (1, 1, (.c (.int .i64 3))), (2, 1, (.c (.int .i64 0))), (3, 1, (.c (.int .i64 2)))]), (some (122, true))⟩,
 ⟨(some 125), (.call (.c (.func 76 [] [])) [(.t 123), (.t 124)]), (some (122, true))⟩,
 ⟨some 126, .pick (.t 122) (.t 125) (.c (.bool false)), none⟩,
 ⟨some 127, .mv (.t 126), none⟩,
 ⟨(some 128), (.mv (.t 9)), (some (127, true))⟩,
 ⟨some 129, .pick (.t 127) (.t 128) (.c (.bool false)), none⟩,
 ⟨some 130, .mv (.t 129), none⟩,
 ⟨(some 131), (.mv (.t 10)), (some (130, true))⟩,
 ⟨(some 132), (.bldS 1 10 [(.int .i64 0)] [(0, 1, (.c (.int .i64 0))), (1, 1, (.c (.int .i64 1))), (2, 1, (.c (.int .i64 2))), (3, 1, (.c (.int .i64 3))), (4, 1, (.c (.int .i64 1))), (5, 1, (.c (.int .i64 2))), (6, 1, (.c (.int .i64 1))), (7, 1, (.c (.int .i64 1))), (8, 1, (.c (.int .i64 1))), (9, 1, (.c (.int .i64 2)))]), (some (130, true))⟩,
 ⟨(some 133), (.call (.c (.func 73 [] [])) [(.t 132)]), (some (130, true))⟩,
 ⟨(some 134), (.call (.c (.func 77 [] [])) [(.t 131), (.t 133)]), (some (130, true))⟩,
 ⟨some 135, .pick (.t 130) (.t 134) (.c (.bool false)), none⟩,
 ⟨some 136, .mv (.t 135), none⟩,
 ⟨(some 137), (.mv (.t 14)), (some (136, true))⟩,
 ⟨(some 138), (.bin .eql (.t 137) (.c (.int .i64 0))), (some (136, true))⟩,
 ⟨some 139, .pick (.t 136) (.t 138) (.c (.bool false)), none⟩,
 ⟨some 140, .mv (.t 139), none⟩,
 ⟨(some 141), (.mv (.t 15)), (some (140, true))⟩,
 ⟨(some 142), (.bin .eql (.t 141) (.c (.int .i64 5))), (some (140, true))⟩,
 ⟨some 143, .pick (.t 140) (.t 142) (.c (.bool false)), none⟩,
 ⟨some 144, .mv (.t 143), none⟩,
 ⟨(some 145), (.mv (.t 17)), (some (144, true))⟩,
 ⟨(some 146), (.bin .eql (.t 145) (.c (.int .i64 1))), (some (144, true))⟩,
 ⟨some 147, .pick (.t 144) (.t 146) (.c (.bool false)), none⟩,
 ⟨some 148, .mv (.t 147), none⟩,
 ⟨(some 149), (.mv (.t 18)), (some (148, true))⟩,
 ⟨(some 150), (.bin .eql (.t 149) (.c (.int .i64 1))), (some (148, true))⟩,
 ⟨some 151, .pick (.t 148) (.t 150) (.c (.bool false)), none⟩,
 ⟨some 152, .mv (.t 151), none⟩,
 ⟨(some 153), (.mv (.t 20)), (some (152, true))⟩,
 ⟨(some 154), (.bin .eql (.t 153) (.c (.int .i64 9))), (some (152, true))⟩,
 ⟨some 155, .pick (.t 152) (.t 154) (.c (.bool false)), none⟩,
 ⟨some 156, .mv (.t 155), none⟩,
 ⟨(some 157), (.mv (.t 22)), (some (156, true))⟩,
 ⟨(some 158), (.bldS 1 3 [(.int .i64 0)] [(0, 1, (.c (.int .i64 0))), (1, 1, (.c (.int .i64 2))), (2, 1, (.c (.int .i64 1)))]), (some (156, true))⟩,
 ⟨(some 159), (.bldS 1 1 [.nilslice] [(0, 1, (.t 158))]), (some (156, true))⟩,
 ⟨(some 160), (.call (.c (.func 78 [] [])) [(.t 157), (.t 159)]), (some (156, true))⟩,
 ⟨some 161, .pick (.t 156) (.t 160) (.c (.bool false)), none⟩,
 ⟨some 162, .mv (.t 161), none⟩,
 ⟨(some 163), (.mv (.t 24)), (some (162, true))⟩,
 ⟨(some 164), (.bin .eql (.t 163) (.c (.int .i64 4))), (some (162, true))⟩,
 ⟨some 165, .pick (.t 162) (.t 164) (.c (.bool false)), none⟩,
 ⟨some 0, .mv (.t 165), none⟩])
 .ret))))))))))))), [.tmp 0]⟩
theorem c38 : compFun Tryz.prog Tryz.f38 = some ir38 := by kernel_rfl
def ir39 : IFun := ⟨25, (.seq (.region [⟨some 4, .mv (.c (.int .i64 0)), none⟩,
 ⟨some 5, .mv (.c (.int .i64 0)), none⟩])
 (.seq (.seq (.region [⟨some 9, .mv (.t 0), none⟩,
 ⟨some 10, .len false (.t 9), none⟩,
 ⟨some 11, .mv (.c (.int .i64 0)), none⟩])
 (.block 0
 (.loop
 (.seq (.region [⟨some 12, .bin .lss (.t 11) (.t 10), none⟩])
 (.seq (.cond (.t 12)
 .skip
 (.exit 0))
 (.seq (.block 1
 (.seq (.region [⟨some 13, .mv (.t 11), none⟩,
 ⟨some 14, .ia 4 (.t 9) (.t 11), none⟩,
 ⟨some 15, .ld true 4 (.t 14), none⟩,
 ⟨some 7, .alloc (.agg [(.str []), (.int .i64 0), (.bool false), (.int .i64 0)]), none⟩,
 ⟨some 6, .mv (.t 13), none⟩,
 ⟨none, .st 4 (.t 7) (.t 15), none⟩])
 (.seq (.region [⟨some 16, .mv (.t 1), none⟩,
 ⟨some 17, .mv (.t 6), none⟩,
 ⟨some 18, .ld true 4 (.t 7), none⟩,
 ⟨some 19, .call (.t 16) [(.t 17), (.t 18)], none⟩,
 ⟨some 8, .mv (.t 19), none⟩])
 (.seq (.region [⟨some 20, .mv (.t 8), none⟩,
 ⟨some 21, .bin .neq (.t 20) (.c (.int .i64 0)), none⟩])
 (.cond (.t 21)
 (.seq (.region [⟨some 22, .mv (.t 6), none⟩,
 ⟨some 23, .mv (.t 8), none⟩,
 ⟨some 4, .mv (.t 22), none⟩,
 ⟨some 5, .mv (.t 23), none⟩])
 .ret)
 .skip)))))
 (.region [⟨some 24, .bin .add (.t 11) (.c (.int .i64 1)), none⟩,
 ⟨some 11, .mv (.t 24), none⟩])))))))
 (.seq (.region [⟨some 4, .mv (.c (.int .i64 0)), none⟩,
 ⟨some 5, .mv (.c (.int .i64 0)), none⟩])
 .ret))), [.tmp 4, .tmp 5]⟩
theorem c39 : compFun Tryz.prog Tryz.f39 = some ir39 := by kernel_rfl
def ir40 : IFun := ⟨29, (.seq (.region [⟨some 4, .box (.t 1), none⟩,
 ⟨some 5, .mv (.c (.int .i64 0)), none⟩])
 (.seq (.block 0
 (.seq (.region [⟨some 7, .fa (.t 4) 0, none⟩,
 ⟨some 8, .ld false 1 (.t 7), none⟩,
 ⟨some 9, .call (.c (.func 41 [] [])) [(.t 8)], none⟩,
 ⟨some 10, .un .not (.t 9), none⟩,
 ⟨some 6, .mv (.t 10), none⟩])
 (.cond (.t 6)
 (.seq (.region [⟨some 5, .mv (.c (.int .i64 6)), none⟩])
 .ret)
 (.seq (.region [⟨some 12, .fa (.t 2) 0, none⟩,
 ⟨some 13, .ld false 1 (.t 12), none⟩,
 ⟨some 14, .mv (.t 0), none⟩,
 ⟨some 15, .slc 4 (.t 13) none (some (.t 14)) none, none⟩,
 ⟨some 16, .mkfn 43 [] [(.t 4)], none⟩,
 ⟨some 17, .call (.c (.func 42 [] [])) [(.t 15), (.t 16)], none⟩,
 ⟨some 11, .mv (.t 17), none⟩])
 (.cond (.t 11)
 (.seq (.region [⟨some 5, .mv (.c (.int .i64 5)), none⟩])
 .ret)
 (.seq (.region [⟨some 19, .fa (.t 4) 1, none⟩,
 ⟨some 20, .ld false 1 (.t 19), none⟩,
 ⟨some 21, .bldS 1 1 [(.int .i64 0)] [(0, 1, (.t 20))], none⟩,
 ⟨some 22, .call (.c (.func 44 [] [])) [(.c (.int .i64 0)), (.c (.int .i64 5)), (.t 21)], none⟩,
 ⟨some 23, .mv (.t 22), none⟩,
 ⟨(some 24), (.fa (.t 4) 3), (some (23, false))⟩,
 ⟨(some 25), (.ld false 1 (.t 24)), (some (23, false))⟩,
 ⟨(some 26), (.bldS 1 1 [(.int .i64 0)] [(0, 1, (.t 25))]), (some (23, false))⟩,
 ⟨(some 27), (.call (.c (.func 44 [] [])) [(.c (.int .i64 (-1))), (.c (.int .i64 5)), (.t 26)]), (some (23, false))⟩,
 ⟨some 28, .pick (.t 23) (.c (.bool true)) (.t 27), none⟩,
 ⟨some 18, .mv (.t 28), none⟩])
 (.cond (.t 18)
 (.seq (.region [⟨some 5, .mv (.c (.int .i64 7)), none⟩])
 .ret)
 .skip)))))))
 (.seq (.region [⟨some 5, .mv (.c (.int .i64 0)), none⟩])
 .ret))), [.tmp 5]⟩
theorem c40 : compFun Tryz.prog Tryz.f40 = some ir40 := by kernel_rfl
def ir41 : IFun := ⟨43, (.seq (.region [⟨some 2, .mv (.c (.bool false)), none⟩])
 (.seq (.seq (.region [⟨some 6, .mv (.t 0), none⟩,
 ⟨some 7, .rng (.t 6), none⟩])
 (.block 0
 (.loop
 (.seq (.region [⟨some 8, .nxt (.t 7), none⟩,
 ⟨some 9, .ext (.t 8) 0, none⟩])
 (.seq (.cond (.t 9)
 .skip
 (.exit 0))
 (.block 1
 (.seq (.region [⟨some 10, .ext (.t 8) 1, none⟩,
 ⟨some 11, .ext (.t 8) 2, none⟩,
 ⟨some 3, .mv (.t 10), none⟩,
 ⟨some 4, .mv (.t 11), none⟩])
 (.seq (.region [⟨some 12, .mv (.t 4), none⟩,
 ⟨some 13, .bin .leq (.c (.int .i32 97)) (.t 12), none⟩,
 ⟨some 14, .mv (.t 13), none⟩,
 ⟨(some 15), (.mv (.t 4)), (some (14, true))⟩,
 ⟨(some 16), (.bin .leq (.t 15) (.c (.int .i32 122))), (some (14, true))⟩,
 ⟨some 17, .pick (.t 14) (.t 16) (.c (.bool false)), none⟩,
 ⟨some 5, .mv (.t 17), none⟩])
 (.seq (.region [⟨some 18, .mv (.t 5), none⟩,
 ⟨some 19, .un .not (.t 18), none⟩,
 ⟨some 20, .mv (.t 19), none⟩,
 ⟨(some 21), (.mv (.t 3)), (some (20, true))⟩,
 ⟨(some 22), (.bin .eql (.t 21) (.c (.int .i64 0))), (some (20, true))⟩,
 ⟨(some 23), (.mv (.t 22)), (some (20, true))⟩,
 ⟨(some 24), (.mv (.t 4)), (some (23, false))⟩,
 ⟨(some 25), (.bin .neq (.t 24) (.c (.int .i32 46))), (some (23, false))⟩,
 ⟨(some 26), (.mv (.t 25)), (some (23, false))⟩,
 ⟨(some 27), (.mv (.t 4)), (some (26, true))⟩,
 ⟨(some 28), (.bin .lss (.t 27) (.c (.int .i32 48))), (some (26, true))⟩,
 ⟨(some 29), (.mv (.t 28)), (some (26, true))⟩,
 ⟨(some 30), (.mv (.t 4)), (some (29, false))⟩,
 ⟨(some 31), (.bin .gtr (.t 30) (.c (.int .i32 57))), (some (29, false))⟩,
 ⟨(some 32), (.pick (.t 29) (.c (.bool true)) (.t 31)), (some (26, true))⟩,
 ⟨(some 33), (.pick (.t 26) (.t 32) (.c (.bool false))), (some (23, false))⟩,
 ⟨(some 34), (.pick (.t 23) (.c (.bool true)) (.t 33)), (some (20, true))⟩,
 ⟨some 35, .pick (.t 20) (.t 34) (.c (.bool false)), none⟩])
 (.cond (.t 35)
 (.seq (.region [⟨some 2, .mv (.c (.bool false)), none⟩])
 .ret)
 .skip))))))))))
 (.seq (.region [⟨some 36, .mv (.t 0), none⟩,
 ⟨some 37, .bin .neq (.t 36) (.c (.str [])), none⟩,
 ⟨some 38, .mv (.t 37), none⟩,
 ⟨(some 39), (.mv (.t 0)), (some (38, true))⟩,
 ⟨(some 40), (.len true (.t 39)), (some (38, true))⟩,
 ⟨(some 41), (.bin .leq (.t 40) (.c (.int .i64 16))), (some (38, true))⟩,
 ⟨some 42, .pick (.t 38) (.t 41) (.c (.bool false)), none⟩,
 ⟨some 2, .mv (.t 42), none⟩])
 .ret))), [.tmp 2]⟩
theorem c41 : compFun Tryz.prog Tryz.f41 = some ir41 := by kernel_rfl
def ir42 : IFun := ⟨9, (.seq (.region [⟨some 4, .mv (.c (.bool false)), none⟩])
 (.seq (.region [⟨some 5, .mv (.t 0), none⟩,
 ⟨some 6, .mv (.t 1), none⟩,
 ⟨some 7, .call (.c (.func 79 [] [])) [(.t 5), (.t 6)], none⟩,
 ⟨some 8, .bin .geq (.t 7) (.c (.int .i64 0)), none⟩,
 ⟨some 4, .mv (.t 8), none⟩])
 .ret)), [.tmp 4]⟩
theorem c42 : compFun Tryz.prog Tryz.f42 = some ir42 := by kernel_rfl
def ir43 : IFun := ⟨9, (.seq (.region [⟨some 2, .box (.t 0), none⟩,
 ⟨some 3, .mv (.c (.bool false)), none⟩])
 (.seq (.region [⟨some 4, .fa (.t 2) 0, none⟩,
 ⟨some 5, .ld false 1 (.t 4), none⟩,
 ⟨some 6, .fa (.t 1) 0, none⟩,
 ⟨some 7, .ld false 1 (.t 6), none⟩,
 ⟨some 8, .bin .eql (.t 5) (.t 7), none⟩,
 ⟨some 3, .mv (.t 8), none⟩])
 .ret)), [.tmp 3]⟩
theorem c43 : compFun Tryz.prog Tryz.f43 = some ir43 := by kernel_rfl
def ir44 : IFun := ⟨10, (.seq (.region [⟨some 3, .box (.t 0), none⟩,
 ⟨some 4, .box (.t 1), none⟩,
 ⟨some 6, .mv (.c (.bool false)), none⟩])
 (.seq (.region [⟨some 7, .mv (.t 2), none⟩,
 ⟨some 8, .mkfn 81 [] [(.t 3), (.t 4)], none⟩,
 ⟨some 9, .call (.c (.func 80 [] [])) [(.t 7), (.t 8)], none⟩,
 ⟨some 6, .mv (.t 9), none⟩])
 .ret)), [.tmp 6]⟩
theorem c44 : compFun Tryz.prog Tryz.f44 = some ir44 := by kernel_rfl
def ir45 : IFun := ⟨25, (.seq (.region [⟨some 4, .mv (.c (.int .i64 0)), none⟩,
 ⟨some 5, .mv (.c (.int .i64 0)), none⟩])
 (.seq (.seq (.region [⟨some 9, .mv (.t 0), none⟩,
 ⟨some 10, .len false (.t 9), none⟩,
 ⟨some 11, .mv (.c (.int .i64 0)), none⟩])
 (.block 0
 (.loop
 (.seq (.region [⟨some 12, .bin .lss (.t 11) (.t 10), none⟩])
 (.seq (.cond (.t 12)
 .skip
 (.exit 0))
 (.seq (.block 1
 (.seq (.region [⟨some 13, .mv (.t 11), none⟩,
 ⟨some 14, .ia 2 (.t 9) (.t 11), none⟩,
 ⟨some 15, .ld true 2 (.t 14), none⟩,
 ⟨some 7, .alloc (.agg [(.int .i64 0), (.int .i64 0)]), none⟩,
 ⟨some 6, .mv (.t 13), none⟩,
 ⟨none, .st 2 (.t 7) (.t 15), none⟩])
 (.seq (.region [⟨some 16, .mv (.t 1), none⟩,
 ⟨some 17, .mv (.t 6), none⟩,
 ⟨some 18, .ld true 2 (.t 7), none⟩,
 ⟨some 19, .call (.t 16) [(.t 17), (.t 18)], none⟩,
 ⟨some 8, .mv (.t 19), none⟩])
 (.seq (.region [⟨some 20, .mv (.t 8), none⟩,
 ⟨some 21, .bin .neq (.t 20) (.c (.int .i64 0)), none⟩])
 (.cond (.t 21)
 (.seq (.region [⟨some 22, .mv (.t 6), none⟩,
 ⟨some 23, .mv (.t 8), none⟩,
 ⟨some 4, .mv (.t 22), none⟩,
 ⟨some 5, .mv (.t 23), none⟩])
 .ret)
 .skip)))))
 (.region [⟨some 24, .bin .add (.t 11) (.c (.int .i64 1)), none⟩,
 ⟨some 11, .mv (.t 24), none⟩])))))))
 (.seq (.region [⟨some 4, .mv (.c (.int .i64 0)), none⟩,
 ⟨some 5, .mv (.c (.int .i64 0)), none⟩])
 .ret))), [.tmp 4, .tmp 5]⟩
theorem c45 : compFun Tryz.prog Tryz.f45 = some ir45 := by kernel_rfl
def ir46 : IFun := ⟨28, (.seq (.region [⟨some 5, .box (.t 1), none⟩,
 ⟨some 6, .mv (.c (.int .i64 0)), none⟩])
 (.seq (.block 0
 (.seq (.region [⟨some 8, .ld false 1 (.t 2), none⟩,
 ⟨some 9, .fa (.t 5) 0, none⟩,
 ⟨some 10, .ld false 1 (.t 9), none⟩,
 ⟨some 11, .fa (.t 5) 1, none⟩,
 ⟨some 12, .ld false 1 (.t 11), none⟩,
 ⟨some 13, .bldS 1 2 [(.int .i64 0)] [(0, 1, (.t 10)), (1, 1, (.t 12))], none⟩,
 ⟨some 14, .call (.c (.func 44 [] [])) [(.c (.int .i64 0)), (.t 8), (.t 13)], none⟩,
 ⟨some 7, .mv (.t 14), none⟩])
 (.cond (.t 7)
 (.seq (.region [⟨some 6, .mv (.c (.int .i64 4)), none⟩])
 .ret)
 (.seq (.region [⟨some 16, .fa (.t 5) 0, none⟩,
 ⟨some 17, .ld false 1 (.t 16), none⟩,
 ⟨some 18, .fa (.t 5) 1, none⟩,
 ⟨some 19, .ld false 1 (.t 18), none⟩,
 ⟨some 20, .bin .geq (.t 17) (.t 19), none⟩,
 ⟨some 15, .mv (.t 20), none⟩])
 (.cond (.t 15)
 (.seq (.region [⟨some 6, .mv (.c (.int .i64 2)), none⟩])
 .ret)
 (.seq (.draw [⟨⟨some 22, .fa (.t 3) 1, none⟩, false, [], []⟩,
 ⟨⟨some 23, .ld false 1 (.t 22), none⟩, false, [⟨some 23, .ld false 1 (.t 22), none⟩], []⟩,
 ⟨⟨some 24, .mv (.t 0), none⟩, false, [], []⟩,
 ⟨⟨some 25, .slc 2 (.t 23) none (some (.t 24)) none, none⟩, false, [], []⟩,
 ⟨⟨some 26, .ld true 2 (.t 5), none⟩, false, [⟨some 26, .ld true 2 (.t 5), none⟩], []⟩,
 ⟨⟨some 27, .call (.c (.func 47 [] [])) [(.t 25), (.t 26)], none⟩, true, [], []⟩,
 ⟨⟨some 21, .mv (.t 27), none⟩, false, [], []⟩])
 (.cond (.t 21)
 (.seq (.region [⟨some 6, .mv (.c (.int .i64 5)), none⟩])
 .ret)
 .skip)))))))
 (.seq (.region [⟨some 6, .mv (.c (.int .i64 0)), none⟩])
 .ret))), [.tmp 6]⟩
theorem c46 : compFun Tryz.prog Tryz.f46 = some ir46 := by kernel_rfl
def ir47 : IFun := ⟨9, (.seq (.region [⟨some 3, .box (.t 1), none⟩,
 ⟨some 4, .mv (.c (.bool false)), none⟩])
 (.seq (.region [⟨some 5, .mv (.t 0), none⟩,
 ⟨some 6, .ld true 2 (.t 3), none⟩,
 ⟨some 7, .call (.c (.func 82 [] [])) [(.t 5), (.t 6)], none⟩,
 ⟨some 8, .bin .geq (.t 7) (.c (.int .i64 0)), none⟩,
 ⟨some 4, .mv (.t 8), none⟩])
 .ret)), [.tmp 4]⟩
theorem c47 : compFun Tryz.prog Tryz.f47 = some ir47 := by kernel_rfl
def ir48 : IFun := ⟨42, (.seq (.region [⟨some 1, .box (.t 0), none⟩,
 ⟨some 2, .mv (.c .nilptr), none⟩,
 ⟨some 3, .mv (.c (.int .i64 0)), none⟩])
 (.seq (.seq (.region [⟨some 11, .ld true 3 (.t 1), none⟩,
 ⟨some 12, .call (.c (.func 7 [] [])) [(.t 11)], none⟩,
 ⟨some 10, .mv (.t 12), none⟩,
 ⟨some 13, .ext (.t 10) 0, none⟩,
 ⟨some 14, .ext (.t 10) 1, none⟩,
 ⟨some 15, .ext (.t 10) 2, none⟩,
 ⟨some 4, .mv (.t 13), none⟩,
 ⟨some 5, .mv (.t 14), none⟩,
 ⟨some 6, .mv (.t 15), none⟩])
 (.seq (.region [⟨some 16, .mv (.t 6), none⟩,
 ⟨some 17, .bin .neq (.t 16) (.c (.int .i64 0)), none⟩])
 (.cond (.t 17)
 (.seq (.region [⟨some 18, .mv (.t 6), none⟩,
 ⟨some 2, .mv (.c .nilptr), none⟩,
 ⟨some 3, .mv (.t 18), none⟩])
 .ret)
 .skip)))
 (.seq (.region [⟨some 19, .ld true 3 (.t 1), none⟩,
 ⟨some 20, .bld [.nilslice, .nilslice, (.int .i64 0), (.int .i64 0), (.bool false), (.int .i64 0), (.bool false), (.int .i64 0), (.bool false), (.int .i64 0), (.bool false), (.int .i64 0), (.bool false)] [(0, 3, (.t 19))], none⟩,
 ⟨some 21, .box (.t 20), none⟩,
 ⟨some 7, .mv (.t 21), none⟩])
 (.seq (.seq (.region [⟨some 22, .fa (.t 1) 0, none⟩,
 ⟨some 23, .ld false 1 (.t 22), none⟩,
 ⟨some 24, .len false (.t 23), none⟩,
 ⟨some 25, .mv (.c (.int .i64 0)), none⟩])
 (.block 0
 (.loop
 (.seq (.region [⟨some 26, .bin .lss (.t 25) (.t 24), none⟩])
 (.seq (.cond (.t 26)
 .skip
 (.exit 0))
 (.seq (.block 1
 (.seq (.region [⟨some 27, .mv (.t 25), none⟩,
 ⟨some 28, .ia 4 (.t 23) (.t 25), none⟩,
 ⟨some 29, .ld true 4 (.t 28), none⟩,
 ⟨some 9, .alloc (.agg [(.str []), (.int .i64 0), (.bool false), (.int .i64 0)]), none⟩,
 ⟨some 8, .mv (.t 27), none⟩,
 ⟨none, .st 4 (.t 9) (.t 29), none⟩])
 (.draw [⟨⟨some 30, .mv (.t 7), none⟩, false, [], []⟩,
 ⟨⟨some 31, .mv (.t 8), none⟩, false, [], []⟩,
 ⟨⟨some 32, .fa (.t 9) 1, none⟩, false, [], []⟩,
 ⟨⟨some 33, .ld false 1 (.t 32), none⟩, false, [⟨some 33, .ld false 1 (.t 32), none⟩], []⟩,
 ⟨⟨some 34, .fa (.t 9) 2, none⟩, false, [], []⟩,
 ⟨⟨some 35, .ld false 1 (.t 34), none⟩, false, [⟨some 35, .ld false 1 (.t 34), none⟩], []⟩,
 ⟨⟨some 36, .bld [(.int .i64 0), (.bool false)] [(0, 1, (.t 33)), (1, 1, (.t 35))], none⟩, false, [], []⟩,
 ⟨⟨some 37, .nilck (.t 30), none⟩, false, [], []⟩,
 ⟨⟨some 38, .fa (.t 37) 3, none⟩, false, [], []⟩,
 ⟨⟨some 39, .iaa 5 2 (.t 38) (.t 31), none⟩, false, [], []⟩,
 ⟨⟨none, .st 2 (.t 39) (.t 36), none⟩, true, [], []⟩])))
 (.region [⟨some 40, .bin .add (.t 25) (.c (.int .i64 1)), none⟩,
 ⟨some 25, .mv (.t 40), none⟩])))))))
 (.seq (.region [⟨some 41, .mv (.t 7), none⟩,
 ⟨some 2, .mv (.t 41), none⟩,
 ⟨some 3, .mv (.c (.int .i64 0)), none⟩])
 .ret))))), [.tmp 2, .tmp 3]⟩
theorem c48 : compFun Tryz.prog Tryz.f48 = some ir48 := by kernel_rfl
def ir49 : IFun := ⟨36, (.seq (.region [⟨some 3, .box (.t 1), none⟩,
 ⟨some 4, .mv (.c .nilslice), none⟩])
 (.seq (.seq (.region [⟨some 7, .mv (.t 0), none⟩,
 ⟨some 8, .nilck (.t 7), none⟩,
 ⟨some 9, .fa (.t 8) 0, none⟩,
 ⟨some 10, .fa (.t 9) 0, none⟩,
 ⟨some 11, .ld false 1 (.t 10), none⟩,
 ⟨some 12, .len false (.t 11), none⟩,
 ⟨some 13, .mv (.c (.int .i64 0)), none⟩])
 (.block 0
 (.loop
 (.seq (.region [⟨some 14, .bin .lss (.t 13) (.t 12), none⟩])
 (.seq (.cond (.t 14)
 .skip
 (.exit 0))
 (.seq (.block 1
 (.seq (.region [⟨some 15, .mv (.t 13), none⟩,
 ⟨some 16, .ia 4 (.t 11) (.t 13), none⟩,
 ⟨some 17, .ld true 4 (.t 16), none⟩,
 ⟨some 6, .alloc (.agg [(.str []), (.int .i64 0), (.bool false), (.int .i64 0)]), none⟩,
 ⟨some 5, .mv (.t 15), none⟩,
 ⟨none, .st 4 (.t 6) (.t 17), none⟩])
 (.seq (.draw [⟨⟨some 18, .fa (.t 6) 3, none⟩, false, [], []⟩,
 ⟨⟨some 19, .ld false 1 (.t 18), none⟩, false, [⟨some 19, .ld false 1 (.t 18), none⟩], []⟩,
 ⟨⟨some 20, .bin .neq (.t 19) (.c (.int .i64 (-1))), none⟩, false, [], []⟩,
 ⟨⟨some 21, .mv (.t 20), none⟩, false, [], []⟩,
 ⟨⟨(some 22), (.mv (.t 5)), (some (21, true))⟩, false, [], []⟩,
 ⟨⟨(some 23), (.iaa 5 2 (.t 3) (.t 22)), (some (21, true))⟩, false, [], []⟩,
 ⟨⟨(some 24), (.ld true 2 (.t 23)), (some (21, true))⟩, false, [⟨(some 24), (.ld true 2 (.t 23)), (some (21, true))⟩], []⟩,
 ⟨⟨(some 25), (.fa (.t 6) 3), (some (21, true))⟩, false, [], []⟩,
 ⟨⟨(some 26), (.ld false 1 (.t 25)), (some (21, true))⟩, false, [⟨(some 26), (.ld false 1 (.t 25)), (some (21, true))⟩], []⟩,
 ⟨⟨(some 27), (.bld [(.int .i64 0), (.bool false)] [(0, 1, (.t 26))]), (some (21, true))⟩, false, [], []⟩,
 ⟨⟨(some 28), (.eqv (.ag [.i, .b]) true (.t 24) (.t 27)), (some (21, true))⟩, false, [], []⟩,
 ⟨⟨some 29, .pick (.t 21) (.t 28) (.c (.bool false)), none⟩, false, [], []⟩])
 (.cond (.t 29)
 (.region [⟨some 30, .mv (.t 4), none⟩,
 ⟨some 31, .mv (.t 5), none⟩,
 ⟨some 32, .bldS 1 1 [(.int .i64 0)] [(0, 1, (.t 31))], none⟩,
 ⟨some 33, .app 1 8 (.t 30) (.t 32), none⟩,
 ⟨some 4, .mv (.t 33), none⟩])
 .skip))))
 (.region [⟨some 34, .bin .add (.t 13) (.c (.int .i64 1)), none⟩,
 ⟨some 13, .mv (.t 34), none⟩])))))))
 (.seq (.region [⟨some 35, .mv (.t 4), none⟩,
 ⟨some 4, .mv (.t 35), none⟩])
 .ret))), [.tmp 4]⟩
theorem c49 : compFun Tryz.prog Tryz.f49 = some ir49 := by kernel_rfl
def ir50 : IFun := ⟨31, (.seq (.region [⟨some 7, .mv (.t 0), none⟩,
 ⟨some 8, .mv (.t 0), none⟩,
 ⟨some 9, .nilck (.t 8), none⟩,
 ⟨some 10, .fa (.t 9) 0, none⟩,
 ⟨some 11, .ld false 1 (.t 10), none⟩,
 ⟨some 12, .mv (.t 1), none⟩,
 ⟨some 13, .len false (.t 12), none⟩,
 ⟨some 14, .bldS 1 1 [(.int .i64 0)] [(0, 1, (.t 13))], none⟩,
 ⟨some 15, .app 1 8 (.t 11) (.t 14), none⟩,
 ⟨some 16, .nilck (.t 7), none⟩,
 ⟨some 17, .fa (.t 16) 0, none⟩,
 ⟨none, .st 1 (.t 17) (.t 15), none⟩])
 (.seq (.region [⟨some 6, .mv (.c (.int .i64 0)), none⟩])
 (.block 0
 (.loop
 (.seq (.seq (.region [⟨some 18, .mv (.t 6), none⟩,
 ⟨some 19, .mv (.t 1), none⟩,
 ⟨some 20, .len false (.t 19), none⟩,
 ⟨some 21, .bin .lss (.t 18) (.t 20), none⟩])
 (.cond (.t 21)
 .skip
 (.exit 0)))
 (.seq (.block 1
 (.region [⟨some 24, .mv (.t 2), none⟩,
 ⟨some 25, .mv (.t 0), none⟩,
 ⟨some 26, .mv (.t 1), none⟩,
 ⟨some 27, .mv (.t 6), none⟩,
 ⟨some 28, .ia 1 (.t 26) (.t 27), none⟩,
 ⟨some 29, .ld false 1 (.t 28), none⟩,
 ⟨some 30, .call (.t 24) [(.t 25), (.t 29)], none⟩]))
 (.region [⟨some 22, .mv (.t 6), none⟩,
 ⟨some 23, .bin .add (.t 22) (.c (.int .i64 1)), none⟩,
 ⟨some 6, .mv (.t 23), none⟩]))))))), []⟩
theorem c50 : compFun Tryz.prog Tryz.f50 = some ir50 := by kernel_rfl
def ir51 : IFun := ⟨16, (.seq (.region [⟨some 4, .mv (.c (.int .i64 0)), none⟩])
 (.block 0
 (.loop
 (.seq (.seq (.region [⟨some 5, .mv (.t 4), none⟩,
 ⟨some 6, .mv (.t 0), none⟩,
 ⟨some 7, .len false (.t 6), none⟩,
 ⟨some 8, .bin .lss (.t 5) (.t 7), none⟩])
 (.cond (.t 8)
 .skip
 (.exit 0)))
 (.seq (.block 1
 (.region [⟨some 11, .mv (.t 1), none⟩,
 ⟨some 12, .mv (.t 0), none⟩,
 ⟨some 13, .mv (.t 4), none⟩,
 ⟨some 14, .ia 1 (.t 12) (.t 13), none⟩,
 ⟨some 15, .call (.t 11) [(.t 14)], none⟩]))
 (.region [⟨some 9, .mv (.t 4), none⟩,
 ⟨some 10, .bin .add (.t 9) (.c (.int .i64 1)), none⟩,
 ⟨some 4, .mv (.t 10), none⟩])))))), []⟩
theorem c51 : compFun Tryz.prog Tryz.f51 = some ir51 := by kernel_rfl
def ir52 : IFun := ⟨4, (.region [⟨some 2, .mv (.t 0), none⟩,
 ⟨some 3, .nilck (.t 2), none⟩,
 ⟨none, .st 1 (.t 3) (.c (.int .i64 (-77))), none⟩]), []⟩
theorem c52 : compFun Tryz.prog Tryz.f52 = some ir52 := by kernel_rfl
def ir53 : IFun := ⟨71, (.seq (.region [⟨some 4, .box (.t 1), none⟩,
 ⟨some 5, .box (.t 2), none⟩,
 ⟨some 6, .alloc (.agg [(.int .i64 0), (.bool false), (.int .i64 0), (.bool false), (.int .i64 0), (.bool false), (.int .i64 0), (.bool false), (.int .i64 0), (.bool false)]), none⟩,
 ⟨some 7, .mv (.c (.int .i64 0)), none⟩])
 (.seq (.block 0
 (.seq (.draw [⟨⟨some 10, .fa (.t 5) 0, none⟩, false, [], []⟩,
 ⟨⟨some 11, .ld false 1 (.t 10), none⟩, false, [⟨some 11, .ld false 1 (.t 10), none⟩], []⟩,
 ⟨⟨some 12, .fa (.t 5) 1, none⟩, false, [], []⟩,
 ⟨⟨some 13, .ld false 1 (.t 12), none⟩, false, [⟨some 13, .ld false 1 (.t 12), none⟩], []⟩,
 ⟨⟨some 14, .bin .eql (.t 11) (.t 13), none⟩, false, [], []⟩,
 ⟨⟨some 15, .mv (.t 14), none⟩, false, [], []⟩,
 ⟨⟨(some 16), (.fa (.t 5) 0), (some (15, true))⟩, false, [], []⟩,
 ⟨⟨(some 17), (.ld false 1 (.t 16)), (some (15, true))⟩, false, [⟨(some 17), (.ld false 1 (.t 16)), (some (15, true))⟩], []⟩,
 ⟨⟨(some 18), (.mv (.t 0)), (some (15, true))⟩, false, [], []⟩,
 ⟨⟨(some 19), (.nilck (.t 18)), (some (15, true))⟩, false, [], []⟩,
 ⟨⟨(some 20), (.fa (.t 19) 0), (some (15, true))⟩, false, [], []⟩,
 ⟨⟨(some 21), (.fa (.t 20) 2), (some (15, true))⟩, false, [], []⟩,
 ⟨⟨(some 22), (.ld false 1 (.t 21)), (some (15, true))⟩, false, [⟨(some 22), (.ld false 1 (.t 21)), (some (15, true))⟩], []⟩,
 ⟨⟨(some 23), (.bin .eql (.t 17) (.t 22)), (some (15, true))⟩, false, [], []⟩,
 ⟨⟨some 24, .pick (.t 15) (.t 23) (.c (.bool false)), none⟩, false, [], []⟩,
 ⟨⟨some 25, .mv (.t 24), none⟩, false, [], []⟩,
 ⟨⟨(some 26), (.mv (.t 0)), (some (25, true))⟩, false, [], []⟩,
 ⟨⟨(some 27), (.nilck (.t 26)), (some (25, true))⟩, false, [], []⟩,
 ⟨⟨(some 28), (.fa (.t 27) 0), (some (25, true))⟩, false, [], []⟩,
 ⟨⟨(some 29), (.fa (.t 28) 2), (some (25, true))⟩, false, [], []⟩,
 ⟨⟨(some 30), (.ld false 1 (.t 29)), (some (25, true))⟩, false, [⟨(some 30), (.ld false 1 (.t 29)), (some (25, true))⟩], []⟩,
 ⟨⟨(some 31), (.bin .neq (.t 30) (.c (.int .i64 (-1)))), (some (25, true))⟩, false, [], []⟩,
 ⟨⟨some 32, .pick (.t 25) (.t 31) (.c (.bool false)), none⟩, false, [], []⟩,
 ⟨⟨some 9, .mv (.t 32), none⟩, false, [], []⟩])
 (.cond (.t 9)
 (.seq (.seq (.region [⟨some 33, .fa (.t 5) 0, none⟩,
 ⟨some 34, .ld false 1 (.t 33), none⟩,
 ⟨some 35, .iaa 5 2 (.t 4) (.t 34), none⟩,
 ⟨some 36, .fa (.t 35) 1, none⟩,
 ⟨some 37, .ld false 1 (.t 36), none⟩,
 ⟨some 38, .un .not (.t 37), none⟩])
 (.cond (.t 38)
 (.seq (.region [⟨some 39, .ld true 10 (.t 4), none⟩,
 ⟨none, .st 10 (.t 6) (.t 39), none⟩,
 ⟨some 7, .mv (.c (.int .i64 8)), none⟩])
 .ret)
 .skip))
 (.seq (.region [⟨some 40, .fa (.t 5) 0, none⟩,
 ⟨some 41, .ld false 1 (.t 40), none⟩,
 ⟨some 42, .iaa 5 2 (.t 4) (.t 41), none⟩,
 ⟨some 43, .fa (.t 42) 1, none⟩,
 ⟨none, .st 1 (.t 43) (.c (.bool false)), none⟩])
 (.seq (.region [⟨some 44, .ld true 10 (.t 4), none⟩,
 ⟨none, .st 10 (.t 6) (.t 44), none⟩,
 ⟨some 7, .mv (.c (.int .i64 0)), none⟩])
 .ret)))
 (.seq (.draw [⟨⟨some 46, .mv (.t 0), none⟩, false, [], []⟩,
 ⟨⟨some 47, .nilck (.t 46), none⟩, false, [], []⟩,
 ⟨⟨some 48, .fa (.t 47) 0, none⟩, false, [], []⟩,
 ⟨⟨some 49, .fa (.t 48) 1, none⟩, false, [], []⟩,
 ⟨⟨some 50, .ld false 1 (.t 49), none⟩, false, [⟨some 50, .ld false 1 (.t 49), none⟩], []⟩,
 ⟨⟨some 51, .ld true 2 (.t 5), none⟩, false, [⟨some 51, .ld true 2 (.t 5), none⟩], []⟩,
 ⟨⟨some 52, .call (.c (.func 47 [] [])) [(.t 50), (.t 51)], none⟩, true, [], []⟩,
 ⟨⟨some 53, .un .not (.t 52), none⟩, false, [], []⟩,
 ⟨⟨some 45, .mv (.t 53), none⟩, false, [], []⟩])
 (.cond (.t 45)
 (.seq (.region [⟨some 54, .ld true 10 (.t 4), none⟩,
 ⟨none, .st 10 (.t 6) (.t 54), none⟩,
 ⟨some 7, .mv (.c (.int .i64 4)), none⟩])
 .ret)
 .skip)))))
 (.seq (.region [⟨some 55, .fa (.t 5) 0, none⟩,
 ⟨some 56, .ld false 1 (.t 55), none⟩,
 ⟨some 57, .iaa 5 2 (.t 4) (.t 56), none⟩,
 ⟨some 58, .ld true 2 (.t 57), none⟩,
 ⟨some 8, .alloc (.agg [(.int .i64 0), (.bool false)]), none⟩,
 ⟨none, .st 2 (.t 8) (.t 58), none⟩])
 (.seq (.draw [⟨⟨some 59, .fa (.t 5) 0, none⟩, false, [], []⟩,
 ⟨⟨some 60, .ld false 1 (.t 59), none⟩, false, [⟨some 60, .ld false 1 (.t 59), none⟩], []⟩,
 ⟨⟨some 61, .fa (.t 5) 1, none⟩, false, [], []⟩,
 ⟨⟨some 62, .ld false 1 (.t 61), none⟩, false, [⟨some 62, .ld false 1 (.t 61), none⟩], []⟩,
 ⟨⟨some 63, .iaa 5 2 (.t 4) (.t 62), none⟩, false, [], []⟩,
 ⟨⟨some 64, .ld true 2 (.t 63), none⟩, false, [⟨some 64, .ld true 2 (.t 63), none⟩], []⟩,
 ⟨⟨some 65, .iaa 5 2 (.t 4) (.t 60), none⟩, false, [], []⟩,
 ⟨⟨none, .st 2 (.t 65) (.t 64), none⟩, true, [], []⟩])
 (.seq (.region [⟨some 66, .fa (.t 5) 1, none⟩,
 ⟨some 67, .ld false 1 (.t 66), none⟩,
 ⟨some 68, .ld true 2 (.t 8), none⟩,
 ⟨some 69, .iaa 5 2 (.t 4) (.t 67), none⟩,
 ⟨none, .st 2 (.t 69) (.t 68), none⟩])
 (.seq (.region [⟨some 70, .ld true 10 (.t 4), none⟩,
 ⟨none, .st 10 (.t 6) (.t 70), none⟩,
 ⟨some 7, .mv (.c (.int .i64 0)), none⟩])
 .ret)))))), [.cell 6 true 10, .tmp 7]⟩
theorem c53 : compFun Tryz.prog Tryz.f53 = some ir53 := by kernel_rfl
def ir54 : IFun := ⟨8, (.seq (.region [⟨some 2, .mv (.c .nilslice), none⟩])
 (.seq (.seq (.region [⟨some 3, .mv (.t 0), none⟩,
 ⟨some 4, .eqv .sl false (.t 3) (.c .nilslice), none⟩])
 (.cond (.t 4)
 (.seq (.region [⟨some 2, .mv (.c .nilslice), none⟩])
 .ret)
 .skip))
 (.seq (.region [⟨some 5, .bldS 4 0 [(.str []), (.int .i64 0), (.bool false), (.int .i64 0)] [], none⟩,
 ⟨some 6, .mv (.t 0), none⟩,
 ⟨some 7, .app 4 40 (.t 5) (.t 6), none⟩,
 ⟨some 2, .mv (.t 7), none⟩])
 .ret))), [.tmp 2]⟩
theorem c54 : compFun Tryz.prog Tryz.f54 = some ir54 := by kernel_rfl
def ir55 : IFun := ⟨8, (.seq (.region [⟨some 2, .mv (.c .nilslice), none⟩])
 (.seq (.seq (.region [⟨some 3, .mv (.t 0), none⟩,
 ⟨some 4, .eqv .sl false (.t 3) (.c .nilslice), none⟩])
 (.cond (.t 4)
 (.seq (.region [⟨some 2, .mv (.c .nilslice), none⟩])
 .ret)
 .skip))
 (.seq (.region [⟨some 5, .bldS 2 0 [(.int .i64 0), (.int .i64 0)] [], none⟩,
 ⟨some 6, .mv (.t 0), none⟩,
 ⟨some 7, .app 2 16 (.t 5) (.t 6), none⟩,
 ⟨some 2, .mv (.t 7), none⟩])
 .ret))), [.tmp 2]⟩
theorem c55 : compFun Tryz.prog Tryz.f55 = some ir55 := by kernel_rfl
def ir56 : IFun := ⟨7, (.region [⟨some 4, .mv (.t 0), none⟩,
 ⟨some 5, .mv (.t 1), none⟩,
 ⟨some 6, .call (.c (.func 83 [] [])) [(.t 4), (.t 5), (.c (.func 84 [] []))], none⟩]), []⟩
theorem c56 : compFun Tryz.prog Tryz.f56 = some ir56 := by kernel_rfl
def ir57 : IFun := ⟨6, (.region [⟨some 2, .mv (.t 0), none⟩,
 ⟨some 3, .nilck (.t 2), none⟩,
 ⟨some 4, .ld false 1 (.t 3), none⟩,
 ⟨some 5, .call (.c (.func 85 [] [])) [(.t 4), (.c (.func 86 [] []))], none⟩]), []⟩
theorem c57 : compFun Tryz.prog Tryz.f57 = some ir57 := by kernel_rfl
def ir58 : IFun := ⟨14, (.seq (.region [⟨some 1, .box (.t 0), none⟩,
 ⟨some 2, .mv (.c .nilslice), none⟩,
 ⟨some 3, .mv (.c (.bool false)), none⟩])
 (.seq (.region [⟨some 6, .mkfn 87 [] [(.t 1)], none⟩,
 ⟨some 7, .bld [.nilslice, (.int .i64 0), .nilfunc] [(1, 1, (.c (.int .i64 (-1)))), (2, 1, (.t 6))], none⟩,
 ⟨some 4, .alloc (.agg [.nilslice, (.int .i64 0), .nilfunc]), none⟩,
 ⟨none, .st 3 (.t 4) (.t 7), none⟩])
 (.seq (.region [⟨some 8, .ld false 1 (.t 1), none⟩,
 ⟨some 9, .call (.c (.func 64 [] [])) [(.t 4), (.t 8)], none⟩,
 ⟨some 5, .mv (.t 9), none⟩])
 (.seq (.seq (.region [⟨some 10, .mv (.t 5), none⟩,
 ⟨some 11, .bin .lss (.t 10) (.c (.int .i64 0)), none⟩])
 (.cond (.t 11)
 (.seq (.region [⟨some 2, .mv (.c .nilslice), none⟩,
 ⟨some 3, .mv (.c (.bool false)), none⟩])
 .ret)
 .skip))
 (.seq (.region [⟨some 12, .mv (.t 5), none⟩,
 ⟨some 13, .call (.c (.func 88 [] [])) [(.t 4), (.t 12)], none⟩,
 ⟨some 2, .mv (.t 13), none⟩,
 ⟨some 3, .mv (.c (.bool true)), none⟩])
 .ret))))), [.tmp 2, .tmp 3]⟩
theorem c58 : compFun Tryz.prog Tryz.f58 = some ir58 := by kernel_rfl
def ir59 : IFun := ⟨31, (.seq (.region [⟨some 7, .mv (.t 0), none⟩,
 ⟨some 8, .mv (.t 0), none⟩,
 ⟨some 9, .nilck (.t 8), none⟩,
 ⟨some 10, .fa (.t 9) 0, none⟩,
 ⟨some 11, .ld false 1 (.t 10), none⟩,
 ⟨some 12, .mv (.t 1), none⟩,
 ⟨some 13, .len false (.t 12), none⟩,
 ⟨some 14, .bldS 1 1 [(.int .i64 0)] [(0, 1, (.t 13))], none⟩,
 ⟨some 15, .app 1 8 (.t 11) (.t 14), none⟩,
 ⟨some 16, .nilck (.t 7), none⟩,
 ⟨some 17, .fa (.t 16) 0, none⟩,
 ⟨none, .st 1 (.t 17) (.t 15), none⟩])
 (.seq (.region [⟨some 6, .mv (.c (.int .i64 0)), none⟩])
 (.block 0
 (.loop
 (.seq (.seq (.region [⟨some 18, .mv (.t 6), none⟩,
 ⟨some 19, .mv (.t 1), none⟩,
 ⟨some 20, .len false (.t 19), none⟩,
 ⟨some 21, .bin .lss (.t 18) (.t 20), none⟩])
 (.cond (.t 21)
 .skip
 (.exit 0)))
 (.seq (.block 1
 (.region [⟨some 24, .mv (.t 2), none⟩,
 ⟨some 25, .mv (.t 0), none⟩,
 ⟨some 26, .mv (.t 1), none⟩,
 ⟨some 27, .mv (.t 6), none⟩,
 ⟨some 28, .ia 2 (.t 26) (.t 27), none⟩,
 ⟨some 29, .ld true 2 (.t 28), none⟩,
 ⟨some 30, .call (.t 24) [(.t 25), (.t 29)], none⟩]))
 (.region [⟨some 22, .mv (.t 6), none⟩,
 ⟨some 23, .bin .add (.t 22) (.c (.int .i64 1)), none⟩,
 ⟨some 6, .mv (.t 23), none⟩]))))))), []⟩
theorem c59 : compFun Tryz.prog Tryz.f59 = some ir59 := by kernel_rfl
def ir60 : IFun := ⟨12, (.seq (.region [⟨some 3, .box (.t 1), none⟩])
 (.seq (.region [⟨some 4, .mv (.t 0), none⟩,
 ⟨some 5, .fa (.t 3) 0, none⟩,
 ⟨some 6, .ld false 1 (.t 5), none⟩,
 ⟨some 7, .call (.c (.func 8 [] [])) [(.t 4), (.t 6)], none⟩])
 (.region [⟨some 8, .mv (.t 0), none⟩,
 ⟨some 9, .fa (.t 3) 1, none⟩,
 ⟨some 10, .ld false 1 (.t 9), none⟩,
 ⟨some 11, .call (.c (.func 8 [] [])) [(.t 8), (.t 10)], none⟩]))), []⟩
theorem c60 : compFun Tryz.prog Tryz.f60 = some ir60 := by kernel_rfl
def ir61 : IFun := ⟨16, (.seq (.region [⟨some 4, .mv (.c (.int .i64 0)), none⟩])
 (.block 0
 (.loop
 (.seq (.seq (.region [⟨some 5, .mv (.t 4), none⟩,
 ⟨some 6, .mv (.t 0), none⟩,
 ⟨some 7, .len false (.t 6), none⟩,
 ⟨some 8, .bin .lss (.t 5) (.t 7), none⟩])
 (.cond (.t 8)
 .skip
 (.exit 0)))
 (.seq (.block 1
 (.region [⟨some 11, .mv (.t 1), none⟩,
 ⟨some 12, .mv (.t 0), none⟩,
 ⟨some 13, .mv (.t 4), none⟩,
 ⟨some 14, .ia 2 (.t 12) (.t 13), none⟩,
 ⟨some 15, .call (.t 11) [(.t 14)], none⟩]))
 (.region [⟨some 9, .mv (.t 4), none⟩,
 ⟨some 10, .bin .add (.t 9) (.c (.int .i64 1)), none⟩,
 ⟨some 4, .mv (.t 10), none⟩])))))), []⟩
theorem c61 : compFun Tryz.prog Tryz.f61 = some ir61 := by kernel_rfl
def ir62 : IFun := ⟨10, (.seq (.region [⟨some 2, .mv (.t 0), none⟩,
 ⟨some 3, .nilck (.t 2), none⟩,
 ⟨some 4, .fa (.t 3) 0, none⟩,
 ⟨some 5, .call (.c (.func 52 [] [])) [(.t 4)], none⟩])
 (.region [⟨some 6, .mv (.t 0), none⟩,
 ⟨some 7, .nilck (.t 6), none⟩,
 ⟨some 8, .fa (.t 7) 1, none⟩,
 ⟨some 9, .call (.c (.func 52 [] [])) [(.t 8)], none⟩])), []⟩
theorem c62 : compFun Tryz.prog Tryz.f62 = some ir62 := by kernel_rfl
def ir63 : IFun := ⟨3, (.seq (.region [⟨some 1, .box (.t 0), none⟩,
 ⟨some 2, .mv (.c (.bool false)), none⟩])
 (.seq (.region [⟨some 2, .mv (.c (.bool false)), none⟩])
 .ret)), [.tmp 2]⟩
theorem c63 : compFun Tryz.prog Tryz.f63 = some ir63 := by kernel_rfl
def ir64 : IFun := ⟨102, (.seq (.region [⟨some 2, .box (.t 0), none⟩,
 ⟨some 4, .mv (.c (.int .i64 0)), none⟩])
 (.seq (.draw [⟨⟨some 12, .ld false 1 (.t 2), none⟩, false, [⟨some 12, .ld false 1 (.t 2), none⟩], []⟩,
 ⟨⟨some 13, .mv (.t 1), none⟩, false, [], []⟩,
 ⟨⟨some 14, .nilck (.t 13), none⟩, false, [], []⟩,
 ⟨⟨some 15, .fa (.t 14) 3, none⟩, false, [], []⟩,
 ⟨⟨some 16, .ld true 10 (.t 15), none⟩, false, [⟨some 16, .ld true 10 (.t 15), none⟩], []⟩,
 ⟨⟨some 17, .bld [(.int .i64 0), (.bool false), (.int .i64 0), (.bool false), (.int .i64 0), (.bool false), (.int .i64 0), (.bool false), (.int .i64 0), (.bool false), (.int .i64 0), (.int .i64 0), (.int .i64 0), (.int .i64 0)] [(0, 10, (.t 16)), (12, 1, (.c (.int .i64 (-1))))], none⟩, false, [], []⟩,
 ⟨⟨some 18, .bldS 14 1 [(.int .i64 0), (.bool false), (.int .i64 0), (.bool false), (.int .i64 0), (.bool false), (.int .i64 0), (.bool false), (.int .i64 0), (.bool false), (.int .i64 0), (.int .i64 0), (.int .i64 0), (.int .i64 0)] [(0, 14, (.t 17))], none⟩, false, [], []⟩,
 ⟨⟨some 19, .nilck (.t 12), none⟩, false, [], []⟩,
 ⟨⟨some 20, .fa (.t 19) 0, none⟩, false, [], []⟩,
 ⟨⟨none, .st 1 (.t 20) (.t 18), none⟩, true, [], []⟩])
 (.seq (.region [⟨(some 21), .mkmap, none⟩,
 ⟨some 22, .mv (.t 1), none⟩,
 ⟨some 23, .nilck (.t 22), none⟩,
 ⟨some 24, .fa (.t 23) 3, none⟩,
 ⟨some 25, .ld true 10 (.t 24), none⟩,
 ⟨none, .mapup (.ag [.i, .b, .i, .b, .i, .b, .i, .b, .i, .b]) (.t 21) (.t 25) (.c (.int .i64 1)), none⟩,
 ⟨some 26, .mv (.t 21), none⟩,
 ⟨some 5, .alloc .nilmap, none⟩,
 ⟨none, .st 1 (.t 5) (.t 26), none⟩])
 (.seq (.region [⟨some 27, .mv (.t 1), none⟩,
 ⟨some 28, .mkfn 53 [(.t 27)] [], none⟩,
 ⟨some 6, .alloc .nilfunc, none⟩,
 ⟨none, .st 1 (.t 6) (.t 28), none⟩])
 (.seq (.seq (.region [⟨some 7, .alloc (.int .i64 0), none⟩,
 ⟨none, .st 1 (.t 7) (.c (.int .i64 0)), none⟩])
 (.block 0
 (.loop
 (.seq (.seq (.draw [⟨⟨some 29, .ld false 1 (.t 7), none⟩, false, [⟨some 29, .ld false 1 (.t 7), none⟩], []⟩,
 ⟨⟨some 30, .ld false 1 (.t 2), none⟩, false, [⟨some 30, .ld false 1 (.t 2), none⟩], []⟩,
 ⟨⟨some 31, .nilck (.t 30), none⟩, false, [], []⟩,
 ⟨⟨some 32, .fa (.t 31) 0, none⟩, false, [], []⟩,
 ⟨⟨some 33, .ld false 1 (.t 32), none⟩, false, [⟨some 33, .ld false 1 (.t 32), none⟩], []⟩,
 ⟨⟨some 34, .len false (.t 33), none⟩, false, [], []⟩,
 ⟨⟨some 35, .bin .lss (.t 29) (.t 34), none⟩, false, [], []⟩])
 (.cond (.t 35)
 .skip
 (.exit 0)))
 (.seq (.block 1
 (.scope (.seq (.draw [⟨⟨some 38, .ld false 1 (.t 2), none⟩, false, [⟨some 38, .ld false 1 (.t 2), none⟩], []⟩,
 ⟨⟨some 39, .nilck (.t 38), none⟩, false, [], []⟩,
 ⟨⟨some 40, .fa (.t 39) 0, none⟩, false, [], []⟩,
 ⟨⟨some 41, .ld false 1 (.t 40), none⟩, false, [⟨some 41, .ld false 1 (.t 40), none⟩], []⟩,
 ⟨⟨some 42, .ld false 1 (.t 7), none⟩, false, [⟨some 42, .ld false 1 (.t 7), none⟩], []⟩,
 ⟨⟨some 43, .ia 14 (.t 41) (.t 42), none⟩, false, [], []⟩,
 ⟨⟨some 44, .ld true 14 (.t 43), none⟩, false, [⟨some 44, .ld true 14 (.t 43), none⟩], []⟩,
 ⟨⟨some 8, .alloc (.agg [(.int .i64 0), (.bool false), (.int .i64 0), (.bool false), (.int .i64 0), (.bool false), (.int .i64 0), (.bool false), (.int .i64 0), (.bool false), (.int .i64 0), (.int .i64 0), (.int .i64 0), (.int .i64 0)]), none⟩, false, [], []⟩,
 ⟨⟨none, .st 14 (.t 8) (.t 44), none⟩, true, [], []⟩])
 (.seq (.seq (.draw [⟨⟨some 45, .ld false 1 (.t 2), none⟩, false, [⟨some 45, .ld false 1 (.t 2), none⟩], []⟩,
 ⟨⟨some 46, .nilck (.t 45), none⟩, false, [], []⟩,
 ⟨⟨some 47, .fa (.t 46) 2, none⟩, false, [], []⟩,
 ⟨⟨some 48, .ld false 1 (.t 47), none⟩, false, [⟨some 48, .ld false 1 (.t 47), none⟩], []⟩,
 ⟨⟨some 49, .fa (.t 8) 0, none⟩, false, [], []⟩,
 ⟨⟨some 50, .ld true 10 (.t 49), none⟩, false, [⟨some 50, .ld true 10 (.t 49), none⟩], []⟩,
 ⟨⟨some 51, .call (.t 48) [(.t 50)], none⟩, true, [], []⟩])
 (.cond (.t 51)
 (.seq (.region [⟨some 52, .ld false 1 (.t 7), none⟩,
 ⟨some 4, .mv (.t 52), none⟩])
 .ret)
 .skip))
 (.seq (.seq (.draw [⟨⟨some 53, .fa (.t 8) 13, none⟩, false, [], []⟩,
 ⟨⟨some 54, .ld false 1 (.t 53), none⟩, false, [⟨some 54, .ld false 1 (.t 53), none⟩], []⟩,
 ⟨⟨some 55, .ld false 1 (.t 2), none⟩, false, [⟨some 55, .ld false 1 (.t 2), none⟩], []⟩,
 ⟨⟨some 56, .nilck (.t 55), none⟩, false, [], []⟩,
 ⟨⟨some 57, .fa (.t 56) 1, none⟩, false, [], []⟩,
 ⟨⟨some 58, .ld false 1 (.t 57), none⟩, false, [⟨some 58, .ld false 1 (.t 57), none⟩], []⟩,
 ⟨⟨some 59, .bin .eql (.t 54) (.t 58), none⟩, false, [], []⟩])
 (.cond (.t 59)
 (.exit 1)
 .skip))
 (.seq .skip
 (.seq (.region [⟨some 60, .mv (.t 1), none⟩,
 ⟨some 61, .call (.c (.func 89 [] [])) [(.t 60)], none⟩])
 (.block 2
 (.rangef (.t 61) [62]
 (.region [⟨some 9, .alloc (.agg [(.int .i64 0), (.int .i64 0)]), none⟩,
 ⟨none, .st 2 (.t 9) (.t 62), none⟩])
 (.block 3
 (.seq (.region [⟨some 64, .ld false 1 (.t 6), none⟩,
 ⟨some 65, .fa (.t 8) 0, none⟩,
 ⟨some 66, .ld true 10 (.t 65), none⟩,
 ⟨some 67, .ld true 2 (.t 9), none⟩,
 ⟨some 68, .call (.t 64) [(.t 66), (.t 67)], none⟩,
 ⟨some 63, .mv (.t 68), none⟩,
 ⟨some 69, .ext (.t 63) 0, none⟩,
 ⟨some 70, .ext (.t 63) 1, none⟩,
 ⟨some 10, .alloc (.agg [(.int .i64 0), (.bool false), (.int .i64 0), (.bool false), (.int .i64 0), (.bool false), (.int .i64 0), (.bool false), (.int .i64 0), (.bool false)]), none⟩,
 ⟨none, .st 10 (.t 10) (.t 69), none⟩,
 ⟨some 11, .mv (.t 70), none⟩])
 (.seq (.seq (.region [⟨some 71, .mv (.t 11), none⟩,
 ⟨some 72, .bin .neq (.t 71) (.c (.int .i64 0)), none⟩,
 ⟨some 73, .mv (.t 72), none⟩,
 ⟨(some 74), (.ld false 1 (.t 5)), (some (73, false))⟩,
 ⟨(some 75), (.ld true 10 (.t 10)), (some (73, false))⟩,
 ⟨(some 76), (.lkp (.ag [.i, .b, .i, .b, .i, .b, .i, .b, .i, .b]) (.int .i64 0) false (.t 74) (.t 75)), (some (73, false))⟩,
 ⟨(some 77), (.bin .gtr (.t 76) (.c (.int .i64 0))), (some (73, false))⟩,
 ⟨some 78, .pick (.t 73) (.c (.bool true)) (.t 77), none⟩])
 (.cond (.t 78)
 (.exit 3)
 .skip))
 (.seq (.draw [⟨⟨some 79, .ld false 1 (.t 5), none⟩, false, [⟨some 79, .ld false 1 (.t 5), none⟩], []⟩,
 ⟨⟨some 80, .ld true 10 (.t 10), none⟩, false, [⟨some 80, .ld true 10 (.t 10), none⟩], []⟩,
 ⟨⟨some 81, .lkp (.ag [.i, .b, .i, .b, .i, .b, .i, .b, .i, .b]) (.int .i64 0) false (.t 79) (.t 80), none⟩, false, [⟨some 81, .lkp (.ag [.i, .b, .i, .b, .i, .b, .i, .b, .i, .b]) (.int .i64 0) false (.t 79) (.t 80), none⟩], []⟩,
 ⟨⟨some 82, .bin .add (.t 81) (.c (.int .i64 1)), none⟩, false, [], []⟩,
 ⟨⟨some 83, .ment (.ag [.i, .b, .i, .b, .i, .b, .i, .b, .i, .b]) (.int .i64 0) (.t 79) (.t 80), none⟩, true, [⟨some 81, .lkp (.ag [.i, .b, .i, .b, .i, .b, .i, .b, .i, .b]) (.int .i64 0) false (.t 79) (.t 80), none⟩], []⟩,
 ⟨⟨some 84, .ext (.t 83) 1, none⟩, false, [], []⟩,
 ⟨⟨none, .mst (.t 79) (.t 84) (.t 82), none⟩, true, [], []⟩])
 (.draw [⟨⟨some 85, .ld false 1 (.t 2), none⟩, false, [⟨some 85, .ld false 1 (.t 2), none⟩], []⟩,
 ⟨⟨some 86, .ld false 1 (.t 2), none⟩, false, [⟨some 86, .ld false 1 (.t 2), none⟩], []⟩,
 ⟨⟨some 87, .nilck (.t 86), none⟩, false, [], []⟩,
 ⟨⟨some 88, .fa (.t 87) 0, none⟩, false, [], []⟩,
 ⟨⟨some 89, .ld false 1 (.t 88), none⟩, false, [⟨some 89, .ld false 1 (.t 88), none⟩], []⟩,
 ⟨⟨some 90, .ld true 10 (.t 10), none⟩, false, [⟨some 90, .ld true 10 (.t 10), none⟩], []⟩,
 ⟨⟨some 91, .ld true 2 (.t 9), none⟩, false, [⟨some 91, .ld true 2 (.t 9), none⟩], []⟩,
 ⟨⟨some 92, .ld false 1 (.t 7), none⟩, false, [⟨some 92, .ld false 1 (.t 7), none⟩], []⟩,
 ⟨⟨some 93, .fa (.t 8) 13, none⟩, false, [], []⟩,
 ⟨⟨some 94, .ld false 1 (.t 93), none⟩, false, [⟨some 94, .ld false 1 (.t 93), none⟩], []⟩,
 ⟨⟨some 95, .bin .add (.t 94) (.c (.int .i64 1)), none⟩, false, [], []⟩,
 ⟨⟨some 96, .bld [(.int .i64 0), (.bool false), (.int .i64 0), (.bool false), (.int .i64 0), (.bool false), (.int .i64 0), (.bool false), (.int .i64 0), (.bool false), (.int .i64 0), (.int .i64 0), (.int .i64 0), (.int .i64 0)] [(0, 10, (.t 90)), (10, 2, (.t 91)), (12, 1, (.t 92)), (13, 1, (.t 95))], none⟩, false, [], []⟩,
 ⟨⟨some 97, .bldS 14 1 [(.int .i64 0), (.bool false), (.int .i64 0), (.bool false), (.int .i64 0), (.bool false), (.int .i64 0), (.bool false), (.int .i64 0), (.bool false), (.int .i64 0), (.int .i64 0), (.int .i64 0), (.int .i64 0)] [(0, 14, (.t 96))], none⟩, false, [], []⟩,
 ⟨⟨some 98, .app 14 112 (.t 89) (.t 97), none⟩, true, [⟨some 85, .ld false 1 (.t 2), none⟩], []⟩,
 ⟨⟨some 99, .nilck (.t 85), none⟩, false, [], []⟩,
 ⟨⟨some 100, .fa (.t 99) 0, none⟩, false, [], []⟩,
 ⟨⟨none, .st 1 (.t 100) (.t 98), none⟩, true, [], []⟩]))))))))))))))
 (.seq (.seq (.region [⟨some 101, .ld false 1 (.t 7), none⟩])
 (.region [⟨some 7, .alloc (.int .i64 0), none⟩,
 ⟨none, .st 1 (.t 7) (.t 101), none⟩]))
 (.region [⟨some 36, .ld false 1 (.t 7), none⟩,
 ⟨some 37, .bin .add (.t 36) (.c (.int .i64 1)), none⟩,
 ⟨none, .st 1 (.t 7) (.t 37), none⟩])))))))
 (.seq (.region [⟨some 4, .mv (.c (.int .i64 (-1))), none⟩])
 .ret)))))), [.tmp 4]⟩
theorem c64 : compFun Tryz.prog Tryz.f64 = some ir64 := by kernel_rfl
def ir65 : IFun := ⟨3, (.seq (.region [⟨some 1, .box (.t 0), none⟩,
 ⟨some 2, .mv (.c (.bool false)), none⟩])
 (.seq (.region [⟨some 2, .mv (.c (.bool false)), none⟩])
 .ret)), [.tmp 2]⟩
theorem c65 : compFun Tryz.prog Tryz.f65 = some ir65 := by kernel_rfl
def ir66 : IFun := ⟨10, (.seq (.region [⟨some 1, .box (.t 0), none⟩,
 ⟨some 2, .mv (.c (.bool false)), none⟩])
 (.seq (.region [⟨some 3, .fa (.t 1) 2, none⟩,
 ⟨some 4, .ld false 1 (.t 3), none⟩,
 ⟨some 5, .mv (.t 4), none⟩,
 ⟨(some 6), (.fa (.t 1) 3), (some (5, false))⟩,
 ⟨(some 7), (.ld false 1 (.t 6)), (some (5, false))⟩,
 ⟨(some 8), (.bin .eql (.t 7) (.c (.int .i64 (-1)))), (some (5, false))⟩,
 ⟨some 9, .pick (.t 5) (.c (.bool true)) (.t 8), none⟩,
 ⟨some 2, .mv (.t 9), none⟩])
 .ret)), [.tmp 2]⟩
theorem c66 : compFun Tryz.prog Tryz.f66 = some ir66 := by kernel_rfl
def ir67 : IFun := ⟨29, (.seq (.region [⟨some 6, .mv (.c .nilslice), none⟩])
 (.seq (.seq (.region [⟨some 7, .ld false 1 (.t 1), none⟩,
 ⟨some 8, .mv (.t 0), none⟩,
 ⟨some 9, .bin .shr (.t 7) (.t 8), none⟩,
 ⟨some 10, .bin .and (.t 9) (.c (.int .i64 1)), none⟩,
 ⟨some 11, .bin .eql (.t 10) (.c (.int .i64 1)), none⟩])
 (.cond (.t 11)
 (.seq (.region [⟨some 6, .mv (.c .nilslice), none⟩])
 .ret)
 .skip))
 (.seq (.draw [⟨⟨some 12, .ld false 1 (.t 1), none⟩, false, [⟨some 12, .ld false 1 (.t 1), none⟩], []⟩,
 ⟨⟨some 13, .mv (.t 0), none⟩, false, [], []⟩,
 ⟨⟨some 14, .bin .shl (.c (.int .i64 1)) (.t 13), none⟩, false, [], []⟩,
 ⟨⟨some 15, .bin .or (.t 12) (.t 14), none⟩, false, [], []⟩,
 ⟨⟨none, .st 1 (.t 1) (.t 15), none⟩, true, [], []⟩])
 (.seq (.draw [⟨⟨some 16, .mv (.t 0), none⟩, false, [], []⟩,
 ⟨⟨some 18, .ld false 1 (.t 2), none⟩, false, [⟨some 18, .ld false 1 (.t 2), none⟩], []⟩,
 ⟨⟨some 19, .ld false 1 (.t 3), none⟩, false, [⟨some 19, .ld false 1 (.t 3), none⟩], []⟩,
 ⟨⟨some 20, .fa (.t 4) 0, none⟩, false, [], []⟩,
 ⟨⟨some 21, .ld false 1 (.t 20), none⟩, false, [⟨some 21, .ld false 1 (.t 20), none⟩], []⟩,
 ⟨⟨some 22, .mv (.t 0), none⟩, false, [], []⟩,
 ⟨⟨some 23, .ia 4 (.t 21) (.t 22), none⟩, false, [], []⟩,
 ⟨⟨some 24, .fa (.t 23) 3, none⟩, false, [], []⟩,
 ⟨⟨some 25, .ld false 1 (.t 24), none⟩, false, [⟨some 25, .ld false 1 (.t 24), none⟩], []⟩,
 ⟨⟨some 26, .lkp (.sc .i) (.int .i64 0) false (.t 19) (.t 25), none⟩, false, [⟨some 26, .lkp (.sc .i) (.int .i64 0) false (.t 19) (.t 25), none⟩], []⟩,
 ⟨⟨some 27, .call (.t 18) [(.t 26)], none⟩, true, [], []⟩,
 ⟨⟨some 17, .bldS 1 1 [(.int .i64 0)] [(0, 1, (.t 16))], none⟩, false, [], []⟩,
 ⟨⟨some 28, .app 1 8 (.t 17) (.t 27), none⟩, true, [], []⟩,
 ⟨⟨some 6, .mv (.t 28), none⟩, false, [], []⟩])
 .ret)))), [.tmp 6]⟩
theorem c67 : compFun Tryz.prog Tryz.f67 = some ir67 := by kernel_rfl
def ir68 : IFun := ⟨31, (.seq (.region [⟨some 7, .mv (.t 0), none⟩,
 ⟨some 8, .mv (.t 0), none⟩,
 ⟨some 9, .nilck (.t 8), none⟩,
 ⟨some 10, .fa (.t 9) 0, none⟩,
 ⟨some 11, .ld false 1 (.t 10), none⟩,
 ⟨some 12, .mv (.t 1), none⟩,
 ⟨some 13, .len false (.t 12), none⟩,
 ⟨some 14, .bldS 1 1 [(.int .i64 0)] [(0, 1, (.t 13))], none⟩,
 ⟨some 15, .app 1 8 (.t 11) (.t 14), none⟩,
 ⟨some 16, .nilck (.t 7), none⟩,
 ⟨some 17, .fa (.t 16) 0, none⟩,
 ⟨none, .st 1 (.t 17) (.t 15), none⟩])
 (.seq (.region [⟨some 6, .mv (.c (.int .i64 0)), none⟩])
 (.block 0
 (.loop
 (.seq (.seq (.region [⟨some 18, .mv (.t 6), none⟩,
 ⟨some 19, .mv (.t 1), none⟩,
 ⟨some 20, .len false (.t 19), none⟩,
 ⟨some 21, .bin .lss (.t 18) (.t 20), none⟩])
 (.cond (.t 21)
 .skip
 (.exit 0)))
 (.seq (.block 1
 (.region [⟨some 24, .mv (.t 2), none⟩,
 ⟨some 25, .mv (.t 0), none⟩,
 ⟨some 26, .mv (.t 1), none⟩,
 ⟨some 27, .mv (.t 6), none⟩,
 ⟨some 28, .ia 1 (.t 26) (.t 27), none⟩,
 ⟨some 29, .ld false 1 (.t 28), none⟩,
 ⟨some 30, .call (.t 24) [(.t 25), (.t 29)], none⟩]))
 (.region [⟨some 22, .mv (.t 6), none⟩,
 ⟨some 23, .bin .add (.t 22) (.c (.int .i64 1)), none⟩,
 ⟨some 6, .mv (.t 23), none⟩]))))))), []⟩
theorem c68 : compFun Tryz.prog Tryz.f68 = some ir68 := by kernel_rfl
def ir69 : IFun := ⟨16, (.seq (.region [⟨some 4, .mv (.c (.int .i64 0)), none⟩])
 (.block 0
 (.loop
 (.seq (.seq (.region [⟨some 5, .mv (.t 4), none⟩,
 ⟨some 6, .mv (.t 0), none⟩,
 ⟨some 7, .len false (.t 6), none⟩,
 ⟨some 8, .bin .lss (.t 5) (.t 7), none⟩])
 (.cond (.t 8)
 .skip
 (.exit 0)))
 (.seq (.block 1
 (.region [⟨some 11, .mv (.t 1), none⟩,
 ⟨some 12, .mv (.t 0), none⟩,
 ⟨some 13, .mv (.t 4), none⟩,
 ⟨some 14, .ia 1 (.t 12) (.t 13), none⟩,
 ⟨some 15, .call (.t 11) [(.t 14)], none⟩]))
 (.region [⟨some 9, .mv (.t 4), none⟩,
 ⟨some 10, .bin .add (.t 9) (.c (.int .i64 1)), none⟩,
 ⟨some 4, .mv (.t 10), none⟩])))))), []⟩
theorem c69 : compFun Tryz.prog Tryz.f69 = some ir69 := by kernel_rfl
def ir70 : IFun := ⟨9, (.seq (.region [⟨some 2, .mv (.c .nilslice), none⟩])
 (.seq (.region [⟨some 3, .mv (.t 0), none⟩,
 ⟨some 4, .mv (.t 0), none⟩,
 ⟨some 5, .len false (.t 4), none⟩,
 ⟨some 6, .mv (.t 0), none⟩,
 ⟨some 7, .len false (.t 6), none⟩,
 ⟨some 8, .slc 2 (.t 3) none (some (.t 5)) (some (.t 7)), none⟩,
 ⟨some 2, .mv (.t 8), none⟩])
 .ret)), [.tmp 2]⟩
theorem c70 : compFun Tryz.prog Tryz.f70 = some ir70 := by kernel_rfl
def ir71 : IFun := ⟨16, (.seq (.region [⟨some 2, .alloc (.agg [.nilslice, .nilslice, (.int .i64 0)]), none⟩])
 (.seq (.region [⟨some 4, .bldS 1 4 [(.int .i64 0)] [(0, 1, (.c (.int .i64 1))), (1, 1, (.c (.int .i64 0))), (2, 1, (.c (.int .i64 2))), (3, 1, (.c (.int .i64 3)))], none⟩,
 ⟨some 5, .bldS 1 4 [(.int .i64 0)] [(0, 1, (.c (.int .i64 0))), (1, 1, (.c (.int .i64 1))), (2, 1, (.c (.int .i64 3))), (3, 1, (.c (.int .i64 (-1))))], none⟩,
 ⟨some 6, .call (.c (.func 90 [] [])) [(.t 4), (.t 5)], none⟩,
 ⟨some 7, .bldS 1 6 [(.int .i64 0)] [(0, 1, (.c (.int .i64 0))), (1, 1, (.c (.int .i64 1))), (2, 1, (.c (.int .i64 1))), (3, 1, (.c (.int .i64 2))), (4, 1, (.c (.int .i64 2))), (5, 1, (.c (.int .i64 3)))], none⟩,
 ⟨some 8, .call (.c (.func 73 [] [])) [(.t 7)], none⟩,
 ⟨some 9, .mv (.t 0), none⟩,
 ⟨some 10, .bld [.nilslice, .nilslice, (.int .i64 0)] [(0, 1, (.t 6)), (1, 1, (.t 8)), (2, 1, (.t 9))], none⟩,
 ⟨some 3, .alloc (.agg [.nilslice, .nilslice, (.int .i64 0)]), none⟩,
 ⟨none, .st 3 (.t 3) (.t 10), none⟩])
 (.seq (.region [⟨some 11, .fa (.t 3) 0, none⟩,
 ⟨some 12, .ld false 1 (.t 11), none⟩,
 ⟨some 13, .ia 4 (.t 12) (.c (.int .i64 3)), none⟩,
 ⟨some 14, .fa (.t 13) 2, none⟩,
 ⟨none, .st 1 (.t 14) (.c (.bool true)), none⟩])
 (.seq (.region [⟨some 15, .ld true 3 (.t 3), none⟩,
 ⟨none, .st 3 (.t 2) (.t 15), none⟩])
 .ret)))), [.cell 2 true 3]⟩
theorem c71 : compFun Tryz.prog Tryz.f71 = some ir71 := by kernel_rfl
def ir72 : IFun := ⟨7, (.seq (.region [⟨some 0, .alloc (.agg [.nilslice, .nilslice, (.int .i64 0)]), none⟩])
 (.seq (.region [⟨some 1, .bldS 1 4 [(.int .i64 0)] [(0, 1, (.c (.int .i64 1))), (1, 1, (.c (.int .i64 2))), (2, 1, (.c (.int .i64 0))), (3, 1, (.c (.int .i64 3)))], none⟩,
 ⟨some 2, .bldS 1 4 [(.int .i64 0)] [(0, 1, (.c (.int .i64 0))), (1, 1, (.c (.int .i64 1))), (2, 1, (.c (.int .i64 2))), (3, 1, (.c (.int .i64 3)))], none⟩,
 ⟨some 3, .call (.c (.func 90 [] [])) [(.t 1), (.t 2)], none⟩,
 ⟨some 4, .bldS 1 12 [(.int .i64 0)] [(0, 1, (.c (.int .i64 0))), (1, 1, (.c (.int .i64 1))), (2, 1, (.c (.int .i64 0))), (3, 1, (.c (.int .i64 2))), (4, 1, (.c (.int .i64 0))), (5, 1, (.c (.int .i64 3))), (6, 1, (.c (.int .i64 1))), (7, 1, (.c (.int .i64 2))), (8, 1, (.c (.int .i64 1))), (9, 1, (.c (.int .i64 3))), (10, 1, (.c (.int .i64 2))), (11, 1, (.c (.int .i64 3)))], none⟩,
 ⟨some 5, .call (.c (.func 73 [] [])) [(.t 4)], none⟩,
 ⟨some 6, .bld [.nilslice, .nilslice, (.int .i64 0)] [(0, 1, (.t 3)), (1, 1, (.t 5)), (2, 1, (.c (.int .i64 (-1))))], none⟩,
 ⟨none, .st 3 (.t 0) (.t 6), none⟩])
 .ret)), [.cell 0 true 3]⟩
theorem c72 : compFun Tryz.prog Tryz.f72 = some ir72 := by kernel_rfl
def ir73 : IFun := ⟨26, (.seq (.region [⟨some 2, .mv (.c .nilslice), none⟩])
 (.seq (.region [⟨some 3, .mv (.c .nilslice), none⟩])
 (.seq (.seq (.region [⟨some 4, .mv (.c (.int .i64 0)), none⟩])
 (.block 0
 (.loop
 (.seq (.seq (.region [⟨some 5, .mv (.t 4), none⟩,
 ⟨some 6, .bin .add (.t 5) (.c (.int .i64 1)), none⟩,
 ⟨some 7, .mv (.t 0), none⟩,
 ⟨some 8, .len false (.t 7), none⟩,
 ⟨some 9, .bin .lss (.t 6) (.t 8), none⟩])
 (.cond (.t 9)
 .skip
 (.exit 0)))
 (.seq (.block 1
 (.draw [⟨⟨some 12, .mv (.t 3), none⟩, false, [], []⟩,
 ⟨⟨some 13, .mv (.t 0), none⟩, false, [], []⟩,
 ⟨⟨some 14, .mv (.t 4), none⟩, false, [], []⟩,
 ⟨⟨some 15, .ia 1 (.t 13) (.t 14), none⟩, false, [], []⟩,
 ⟨⟨some 16, .ld false 1 (.t 15), none⟩, false, [⟨some 16, .ld false 1 (.t 15), none⟩], []⟩,
 ⟨⟨some 17, .mv (.t 0), none⟩, false, [], []⟩,
 ⟨⟨some 18, .mv (.t 4), none⟩, false, [], []⟩,
 ⟨⟨some 19, .bin .add (.t 18) (.c (.int .i64 1)), none⟩, false, [], []⟩,
 ⟨⟨some 20, .ia 1 (.t 17) (.t 19), none⟩, false, [], []⟩,
 ⟨⟨some 21, .ld false 1 (.t 20), none⟩, false, [⟨some 21, .ld false 1 (.t 20), none⟩], []⟩,
 ⟨⟨some 22, .bld [(.int .i64 0), (.int .i64 0)] [(0, 1, (.t 16)), (1, 1, (.t 21))], none⟩, false, [], []⟩,
 ⟨⟨some 23, .bldS 2 1 [(.int .i64 0), (.int .i64 0)] [(0, 2, (.t 22))], none⟩, false, [], []⟩,
 ⟨⟨some 24, .app 2 16 (.t 12) (.t 23), none⟩, true, [], []⟩,
 ⟨⟨some 3, .mv (.t 24), none⟩, false, [], []⟩]))
 (.region [⟨some 10, .mv (.t 4), none⟩,
 ⟨some 11, .bin .add (.t 10) (.c (.int .i64 2)), none⟩,
 ⟨some 4, .mv (.t 11), none⟩]))))))
 (.seq (.region [⟨some 25, .mv (.t 3), none⟩,
 ⟨some 2, .mv (.t 25), none⟩])
 .ret)))), [.tmp 2]⟩
theorem c73 : compFun Tryz.prog Tryz.f73 = some ir73 := by kernel_rfl
def ir74 : IFun := ⟨35, (.seq (.region [⟨some 1, .box (.t 0), none⟩,
 ⟨some 2, .mv (.c .nilslice), none⟩,
 ⟨some 3, .mv (.c (.bool false)), none⟩])
 (.seq (.region [⟨some 4, .mv (.c .nilslice), none⟩])
 (.seq (.region [⟨some 5, .mv (.c (.bool true)), none⟩])
 (.seq (.seq (.region [⟨some 6, .mv (.c (.int .i64 0)), none⟩])
 (.block 0
 (.loop
 (.seq (.seq (.region [⟨some 7, .mv (.t 6), none⟩,
 ⟨some 8, .fa (.t 1) 0, none⟩,
 ⟨some 9, .ld false 1 (.t 8), none⟩,
 ⟨some 10, .len false (.t 9), none⟩,
 ⟨some 11, .bin .lss (.t 7) (.t 10), none⟩])
 (.cond (.t 11)
 .skip
 (.exit 0)))
 (.seq (.block 1
 (.seq (.region [⟨some 14, .mv (.t 4), none⟩,
 ⟨some 15, .fa (.t 1) 0, none⟩,
 ⟨some 16, .ld false 1 (.t 15), none⟩,
 ⟨some 17, .mv (.t 6), none⟩,
 ⟨some 18, .ia 4 (.t 16) (.t 17), none⟩,
 ⟨some 19, .fa (.t 18) 1, none⟩,
 ⟨some 20, .ld false 1 (.t 19), none⟩,
 ⟨some 21, .bldS 1 1 [(.int .i64 0)] [(0, 1, (.t 20))], none⟩,
 ⟨some 22, .app 1 8 (.t 14) (.t 21), none⟩,
 ⟨some 4, .mv (.t 22), none⟩])
 (.region [⟨some 23, .mv (.t 5), none⟩,
 ⟨some 24, .mv (.t 23), none⟩,
 ⟨(some 25), (.fa (.t 1) 0), (some (24, true))⟩,
 ⟨(some 26), (.ld false 1 (.t 25)), (some (24, true))⟩,
 ⟨(some 27), (.mv (.t 6)), (some (24, true))⟩,
 ⟨(some 28), (.ia 4 (.t 26) (.t 27)), (some (24, true))⟩,
 ⟨(some 29), (.fa (.t 28) 2), (some (24, true))⟩,
 ⟨(some 30), (.ld false 1 (.t 29)), (some (24, true))⟩,
 ⟨(some 31), (.un .not (.t 30)), (some (24, true))⟩,
 ⟨some 32, .pick (.t 24) (.t 31) (.c (.bool false)), none⟩,
 ⟨some 5, .mv (.t 32), none⟩])))
 (.region [⟨some 12, .mv (.t 6), none⟩,
 ⟨some 13, .bin .add (.t 12) (.c (.int .i64 1)), none⟩,
 ⟨some 6, .mv (.t 13), none⟩]))))))
 (.seq (.region [⟨some 33, .mv (.t 4), none⟩,
 ⟨some 34, .mv (.t 5), none⟩,
 ⟨some 2, .mv (.t 33), none⟩,
 ⟨some 3, .mv (.t 34), none⟩])
 .ret))))), [.tmp 2, .tmp 3]⟩
theorem c74 : compFun Tryz.prog Tryz.f74 = some ir74 := by kernel_rfl
def ir75 : IFun := ⟨7, (.seq (.region [⟨some 0, .alloc (.agg [.nilslice, .nilslice, (.int .i64 0)]), none⟩])
 (.seq (.region [⟨some 1, .bldS 1 4 [(.int .i64 0)] [(0, 1, (.c (.int .i64 3))), (1, 1, (.c (.int .i64 1))), (2, 1, (.c (.int .i64 2))), (3, 1, (.c (.int .i64 0)))], none⟩,
 ⟨some 2, .bldS 1 4 [(.int .i64 0)] [(0, 1, (.c (.int .i64 0))), (1, 1, (.c (.int .i64 1))), (2, 1, (.c (.int .i64 2))), (3, 1, (.c (.int .i64 3)))], none⟩,
 ⟨some 3, .call (.c (.func 90 [] [])) [(.t 1), (.t 2)], none⟩,
 ⟨some 4, .bldS 1 6 [(.int .i64 0)] [(0, 1, (.c (.int .i64 0))), (1, 1, (.c (.int .i64 1))), (2, 1, (.c (.int .i64 1))), (3, 1, (.c (.int .i64 2))), (4, 1, (.c (.int .i64 2))), (5, 1, (.c (.int .i64 3)))], none⟩,
 ⟨some 5, .call (.c (.func 73 [] [])) [(.t 4)], none⟩,
 ⟨some 6, .bld [.nilslice, .nilslice, (.int .i64 0)] [(0, 1, (.t 3)), (1, 1, (.t 5)), (2, 1, (.c (.int .i64 (-1))))], none⟩,
 ⟨none, .st 3 (.t 0) (.t 6), none⟩])
 .ret)), [.cell 0 true 3]⟩
theorem c75 : compFun Tryz.prog Tryz.f75 = some ir75 := by kernel_rfl
def ir76 : IFun := ⟨31, (.seq (.region [⟨some 4, .mv (.c (.bool false)), none⟩])
 (.seq (.region [⟨some 7, .mv (.t 0), none⟩,
 ⟨some 8, .len false (.t 7), none⟩,
 ⟨some 9, .mv (.t 1), none⟩,
 ⟨some 10, .len false (.t 9), none⟩,
 ⟨some 11, .bin .eql (.t 8) (.t 10), none⟩,
 ⟨some 5, .mv (.t 11), none⟩])
 (.seq (.seq (.region [⟨some 6, .mv (.c (.int .i64 0)), none⟩])
 (.block 0
 (.loop
 (.seq (.seq (.region [⟨some 12, .mv (.t 5), none⟩,
 ⟨some 13, .mv (.t 12), none⟩,
 ⟨(some 14), (.mv (.t 6)), (some (13, true))⟩,
 ⟨(some 15), (.mv (.t 0)), (some (13, true))⟩,
 ⟨(some 16), (.len false (.t 15)), (some (13, true))⟩,
 ⟨(some 17), (.bin .lss (.t 14) (.t 16)), (some (13, true))⟩,
 ⟨some 18, .pick (.t 13) (.t 17) (.c (.bool false)), none⟩])
 (.cond (.t 18)
 .skip
 (.exit 0)))
 (.seq (.block 1
 (.draw [⟨⟨some 21, .mv (.t 0), none⟩, false, [], []⟩,
 ⟨⟨some 22, .mv (.t 6), none⟩, false, [], []⟩,
 ⟨⟨some 23, .ia 1 (.t 21) (.t 22), none⟩, false, [], []⟩,
 ⟨⟨some 24, .ld false 1 (.t 23), none⟩, false, [⟨some 24, .ld false 1 (.t 23), none⟩], []⟩,
 ⟨⟨some 25, .mv (.t 1), none⟩, false, [], []⟩,
 ⟨⟨some 26, .mv (.t 6), none⟩, false, [], []⟩,
 ⟨⟨some 27, .ia 1 (.t 25) (.t 26), none⟩, false, [], []⟩,
 ⟨⟨some 28, .ld false 1 (.t 27), none⟩, false, [⟨some 28, .ld false 1 (.t 27), none⟩], []⟩,
 ⟨⟨some 29, .bin .eql (.t 24) (.t 28), none⟩, false, [], []⟩,
 ⟨⟨some 5, .mv (.t 29), none⟩, false, [], []⟩]))
 (.region [⟨some 19, .mv (.t 6), none⟩,
 ⟨some 20, .bin .add (.t 19) (.c (.int .i64 1)), none⟩,
 ⟨some 6, .mv (.t 20), none⟩]))))))
 (.seq (.region [⟨some 30, .mv (.t 5), none⟩,
 ⟨some 4, .mv (.t 30), none⟩])
 .ret)))), [.tmp 4]⟩
theorem c76 : compFun Tryz.prog Tryz.f76 = some ir76 := by kernel_rfl
def ir77 : IFun := ⟨31, (.seq (.region [⟨some 4, .mv (.c (.bool false)), none⟩])
 (.seq (.region [⟨some 7, .mv (.t 0), none⟩,
 ⟨some 8, .len false (.t 7), none⟩,
 ⟨some 9, .mv (.t 1), none⟩,
 ⟨some 10, .len false (.t 9), none⟩,
 ⟨some 11, .bin .eql (.t 8) (.t 10), none⟩,
 ⟨some 5, .mv (.t 11), none⟩])
 (.seq (.seq (.region [⟨some 6, .mv (.c (.int .i64 0)), none⟩])
 (.block 0
 (.loop
 (.seq (.seq (.region [⟨some 12, .mv (.t 5), none⟩,
 ⟨some 13, .mv (.t 12), none⟩,
 ⟨(some 14), (.mv (.t 6)), (some (13, true))⟩,
 ⟨(some 15), (.mv (.t 0)), (some (13, true))⟩,
 ⟨(some 16), (.len false (.t 15)), (some (13, true))⟩,
 ⟨(some 17), (.bin .lss (.t 14) (.t 16)), (some (13, true))⟩,
 ⟨some 18, .pick (.t 13) (.t 17) (.c (.bool false)), none⟩])
 (.cond (.t 18)
 .skip
 (.exit 0)))
 (.seq (.block 1
 (.draw [⟨⟨some 21, .mv (.t 0), none⟩, false, [], []⟩,
 ⟨⟨some 22, .mv (.t 6), none⟩, false, [], []⟩,
 ⟨⟨some 23, .ia 2 (.t 21) (.t 22), none⟩, false, [], []⟩,
 ⟨⟨some 24, .ld true 2 (.t 23), none⟩, false, [⟨some 24, .ld true 2 (.t 23), none⟩], []⟩,
 ⟨⟨some 25, .mv (.t 1), none⟩, false, [], []⟩,
 ⟨⟨some 26, .mv (.t 6), none⟩, false, [], []⟩,
 ⟨⟨some 27, .ia 2 (.t 25) (.t 26), none⟩, false, [], []⟩,
 ⟨⟨some 28, .ld true 2 (.t 27), none⟩, false, [⟨some 28, .ld true 2 (.t 27), none⟩], []⟩,
 ⟨⟨some 29, .eqv (.ag [.i, .i]) false (.t 24) (.t 28), none⟩, false, [], []⟩,
 ⟨⟨some 5, .mv (.t 29), none⟩, false, [], []⟩]))
 (.region [⟨some 19, .mv (.t 6), none⟩,
 ⟨some 20, .bin .add (.t 19) (.c (.int .i64 1)), none⟩,
 ⟨some 6, .mv (.t 20), none⟩]))))))
 (.seq (.region [⟨some 30, .mv (.t 5), none⟩,
 ⟨some 4, .mv (.t 30), none⟩])
 .ret)))), [.tmp 4]⟩
theorem c77 : compFun Tryz.prog Tryz.f77 = some ir77 := by kernel_rfl
def ir78 : IFun := ⟨31, (.seq (.region [⟨some 4, .mv (.c (.bool false)), none⟩])
 (.seq (.region [⟨some 7, .mv (.t 0), none⟩,
 ⟨some 8, .len false (.t 7), none⟩,
 ⟨some 9, .mv (.t 1), none⟩,
 ⟨some 10, .len false (.t 9), none⟩,
 ⟨some 11, .bin .eql (.t 8) (.t 10), none⟩,
 ⟨some 5, .mv (.t 11), none⟩])
 (.seq (.seq (.region [⟨some 6, .mv (.c (.int .i64 0)), none⟩])
 (.block 0
 (.loop
 (.seq (.seq (.region [⟨some 12, .mv (.t 5), none⟩,
 ⟨some 13, .mv (.t 12), none⟩,
 ⟨(some 14), (.mv (.t 6)), (some (13, true))⟩,
 ⟨(some 15), (.mv (.t 0)), (some (13, true))⟩,
 ⟨(some 16), (.len false (.t 15)), (some (13, true))⟩,
 ⟨(some 17), (.bin .lss (.t 14) (.t 16)), (some (13, true))⟩,
 ⟨some 18, .pick (.t 13) (.t 17) (.c (.bool false)), none⟩])
 (.cond (.t 18)
 .skip
 (.exit 0)))
 (.seq (.block 1
 (.draw [⟨⟨some 21, .mv (.t 0), none⟩, false, [], []⟩,
 ⟨⟨some 22, .mv (.t 6), none⟩, false, [], []⟩,
 ⟨⟨some 23, .ia 1 (.t 21) (.t 22), none⟩, false, [], []⟩,
 ⟨⟨some 24, .ld false 1 (.t 23), none⟩, false, [⟨some 24, .ld false 1 (.t 23), none⟩], []⟩,
 ⟨⟨some 25, .mv (.t 1), none⟩, false, [], []⟩,
 ⟨⟨some 26, .mv (.t 6), none⟩, false, [], []⟩,
 ⟨⟨some 27, .ia 1 (.t 25) (.t 26), none⟩, false, [], []⟩,
 ⟨⟨some 28, .ld false 1 (.t 27), none⟩, false, [⟨some 28, .ld false 1 (.t 27), none⟩], []⟩,
 ⟨⟨some 29, .call (.c (.func 76 [] [])) [(.t 24), (.t 28)], none⟩, true, [], []⟩,
 ⟨⟨some 5, .mv (.t 29), none⟩, false, [], []⟩]))
 (.region [⟨some 19, .mv (.t 6), none⟩,
 ⟨some 20, .bin .add (.t 19) (.c (.int .i64 1)), none⟩,
 ⟨some 6, .mv (.t 20), none⟩]))))))
 (.seq (.region [⟨some 30, .mv (.t 5), none⟩,
 ⟨some 4, .mv (.t 30), none⟩])
 .ret)))), [.tmp 4]⟩
theorem c78 : compFun Tryz.prog Tryz.f78 = some ir78 := by kernel_rfl
def ir79 : IFun := ⟨19, (.seq (.region [⟨some 4, .mv (.c (.int .i64 0)), none⟩])
 (.seq (.seq (.region [⟨some 6, .mv (.t 0), none⟩,
 ⟨some 7, .len false (.t 6), none⟩,
 ⟨some 8, .mv (.c (.int .i64 0)), none⟩])
 (.block 0
 (.loop
 (.seq (.region [⟨some 9, .bin .lss (.t 8) (.t 7), none⟩])
 (.seq (.cond (.t 9)
 .skip
 (.exit 0))
 (.seq (.block 1
 (.seq (.region [⟨some 10, .mv (.t 8), none⟩,
 ⟨some 5, .mv (.t 10), none⟩])
 (.seq (.region [⟨some 11, .mv (.t 1), none⟩,
 ⟨some 12, .mv (.t 0), none⟩,
 ⟨some 13, .mv (.t 5), none⟩,
 ⟨some 14, .ia 4 (.t 12) (.t 13), none⟩,
 ⟨some 15, .ld true 4 (.t 14), none⟩,
 ⟨some 16, .call (.t 11) [(.t 15)], none⟩])
 (.cond (.t 16)
 (.seq (.region [⟨some 17, .mv (.t 5), none⟩,
 ⟨some 4, .mv (.t 17), none⟩])
 .ret)
 .skip))))
 (.region [⟨some 18, .bin .add (.t 8) (.c (.int .i64 1)), none⟩,
 ⟨some 8, .mv (.t 18), none⟩])))))))
 (.seq (.region [⟨some 4, .mv (.c (.int .i64 (-1))), none⟩])
 .ret))), [.tmp 4]⟩
theorem c79 : compFun Tryz.prog Tryz.f79 = some ir79 := by kernel_rfl
def ir80 : IFun := ⟨9, (.seq (.region [⟨some 4, .mv (.c (.bool false)), none⟩])
 (.seq (.region [⟨some 5, .mv (.t 0), none⟩,
 ⟨some 6, .mv (.t 1), none⟩,
 ⟨some 7, .call (.c (.func 91 [] [])) [(.t 5), (.t 6)], none⟩,
 ⟨some 8, .bin .geq (.t 7) (.c (.int .i64 0)), none⟩,
 ⟨some 4, .mv (.t 8), none⟩])
 .ret)), [.tmp 4]⟩
theorem c80 : compFun Tryz.prog Tryz.f80 = some ir80 := by kernel_rfl
def ir81 : IFun := ⟨13, (.seq (.region [⟨some 4, .mv (.c (.bool false)), none⟩])
 (.seq (.region [⟨some 5, .mv (.t 0), none⟩,
 ⟨some 6, .ld false 1 (.t 1), none⟩,
 ⟨some 7, .bin .lss (.t 5) (.t 6), none⟩,
 ⟨some 8, .mv (.t 7), none⟩,
 ⟨(some 9), (.mv (.t 0)), (some (8, false))⟩,
 ⟨(some 10), (.ld false 1 (.t 2)), (some (8, false))⟩,
 ⟨(some 11), (.bin .gtr (.t 9) (.t 10)), (some (8, false))⟩,
 ⟨some 12, .pick (.t 8) (.c (.bool true)) (.t 11), none⟩,
 ⟨some 4, .mv (.t 12), none⟩])
 .ret)), [.tmp 4]⟩
theorem c81 : compFun Tryz.prog Tryz.f81 = some ir81 := by kernel_rfl
def ir82 : IFun := ⟨19, (.seq (.region [⟨some 3, .box (.t 1), none⟩,
 ⟨some 4, .mv (.c (.int .i64 0)), none⟩])
 (.seq (.seq (.region [⟨some 6, .mv (.t 0), none⟩,
 ⟨some 7, .len false (.t 6), none⟩,
 ⟨some 8, .mv (.c (.int .i64 0)), none⟩])
 (.block 0
 (.loop
 (.seq (.region [⟨some 9, .bin .lss (.t 8) (.t 7), none⟩])
 (.seq (.cond (.t 9)
 .skip
 (.exit 0))
 (.seq (.block 1
 (.seq (.region [⟨some 10, .mv (.t 8), none⟩,
 ⟨some 5, .mv (.t 10), none⟩])
 (.seq (.draw [⟨⟨some 11, .ld true 2 (.t 3), none⟩, false, [⟨some 11, .ld true 2 (.t 3), none⟩], []⟩,
 ⟨⟨some 12, .mv (.t 0), none⟩, false, [], []⟩,
 ⟨⟨some 13, .mv (.t 5), none⟩, false, [], []⟩,
 ⟨⟨some 14, .ia 2 (.t 12) (.t 13), none⟩, false, [], []⟩,
 ⟨⟨some 15, .ld true 2 (.t 14), none⟩, false, [⟨some 15, .ld true 2 (.t 14), none⟩], []⟩,
 ⟨⟨some 16, .eqv (.ag [.i, .i]) false (.t 11) (.t 15), none⟩, false, [], []⟩])
 (.cond (.t 16)
 (.seq (.region [⟨some 17, .mv (.t 5), none⟩,
 ⟨some 4, .mv (.t 17), none⟩])
 .ret)
 .skip))))
 (.region [⟨some 18, .bin .add (.t 8) (.c (.int .i64 1)), none⟩,
 ⟨some 8, .mv (.t 18), none⟩])))))))
 (.seq (.region [⟨some 4, .mv (.c (.int .i64 (-1))), none⟩])
 .ret))), [.tmp 4]⟩
theorem c82 : compFun Tryz.prog Tryz.f82 = some ir82 := by kernel_rfl
def ir83 : IFun := ⟨31, (.seq (.region [⟨some 7, .mv (.t 0), none⟩,
 ⟨some 8, .mv (.t 0), none⟩,
 ⟨some 9, .nilck (.t 8), none⟩,
 ⟨some 10, .fa (.t 9) 0, none⟩,
 ⟨some 11, .ld false 1 (.t 10), none⟩,
 ⟨some 12, .mv (.t 1), none⟩,
 ⟨some 13, .len false (.t 12), none⟩,
 ⟨some 14, .bldS 1 1 [(.int .i64 0)] [(0, 1, (.t 13))], none⟩,
 ⟨some 15, .app 1 8 (.t 11) (.t 14), none⟩,
 ⟨some 16, .nilck (.t 7), none⟩,
 ⟨some 17, .fa (.t 16) 0, none⟩,
 ⟨none, .st 1 (.t 17) (.t 15), none⟩])
 (.seq (.region [⟨some 6, .mv (.c (.int .i64 0)), none⟩])
 (.block 0
 (.loop
 (.seq (.seq (.region [⟨some 18, .mv (.t 6), none⟩,
 ⟨some 19, .mv (.t 1), none⟩,
 ⟨some 20, .len false (.t 19), none⟩,
 ⟨some 21, .bin .lss (.t 18) (.t 20), none⟩])
 (.cond (.t 21)
 .skip
 (.exit 0)))
 (.seq (.block 1
 (.region [⟨some 24, .mv (.t 2), none⟩,
 ⟨some 25, .mv (.t 0), none⟩,
 ⟨some 26, .mv (.t 1), none⟩,
 ⟨some 27, .mv (.t 6), none⟩,
 ⟨some 28, .ia 4 (.t 26) (.t 27), none⟩,
 ⟨some 29, .ld true 4 (.t 28), none⟩,
 ⟨some 30, .call (.t 24) [(.t 25), (.t 29)], none⟩]))
 (.region [⟨some 22, .mv (.t 6), none⟩,
 ⟨some 23, .bin .add (.t 22) (.c (.int .i64 1)), none⟩,
 ⟨some 6, .mv (.t 23), none⟩]))))))), []⟩
theorem c83 : compFun Tryz.prog Tryz.f83 = some ir83 := by kernel_rfl
def ir84 : IFun := ⟨20, (.seq (.region [⟨some 3, .box (.t 1), none⟩])
 (.seq (.region [⟨some 4, .mv (.t 0), none⟩,
 ⟨some 5, .fa (.t 3) 0, none⟩,
 ⟨some 6, .ld false 1 (.t 5), none⟩,
 ⟨some 7, .call (.c (.func 92 [] [])) [(.t 4), (.t 6)], none⟩])
 (.seq (.region [⟨some 8, .mv (.t 0), none⟩,
 ⟨some 9, .fa (.t 3) 1, none⟩,
 ⟨some 10, .ld false 1 (.t 9), none⟩,
 ⟨some 11, .call (.c (.func 8 [] [])) [(.t 8), (.t 10)], none⟩])
 (.seq (.region [⟨some 12, .mv (.t 0), none⟩,
 ⟨some 13, .fa (.t 3) 2, none⟩,
 ⟨some 14, .ld false 1 (.t 13), none⟩,
 ⟨some 15, .call (.c (.func 93 [] [])) [(.t 12), (.t 14)], none⟩])
 (.region [⟨some 16, .mv (.t 0), none⟩,
 ⟨some 17, .fa (.t 3) 3, none⟩,
 ⟨some 18, .ld false 1 (.t 17), none⟩,
 ⟨some 19, .call (.c (.func 8 [] [])) [(.t 16), (.t 18)], none⟩]))))), []⟩
theorem c84 : compFun Tryz.prog Tryz.f84 = some ir84 := by kernel_rfl
def ir85 : IFun := ⟨16, (.seq (.region [⟨some 4, .mv (.c (.int .i64 0)), none⟩])
 (.block 0
 (.loop
 (.seq (.seq (.region [⟨some 5, .mv (.t 4), none⟩,
 ⟨some 6, .mv (.t 0), none⟩,
 ⟨some 7, .len false (.t 6), none⟩,
 ⟨some 8, .bin .lss (.t 5) (.t 7), none⟩])
 (.cond (.t 8)
 .skip
 (.exit 0)))
 (.seq (.block 1
 (.region [⟨some 11, .mv (.t 1), none⟩,
 ⟨some 12, .mv (.t 0), none⟩,
 ⟨some 13, .mv (.t 4), none⟩,
 ⟨some 14, .ia 4 (.t 12) (.t 13), none⟩,
 ⟨some 15, .call (.t 11) [(.t 14)], none⟩]))
 (.region [⟨some 9, .mv (.t 4), none⟩,
 ⟨some 10, .bin .add (.t 9) (.c (.int .i64 1)), none⟩,
 ⟨some 4, .mv (.t 10), none⟩])))))), []⟩
theorem c85 : compFun Tryz.prog Tryz.f85 = some ir85 := by kernel_rfl
def ir86 : IFun := ⟨18, (.seq (.region [⟨some 2, .mv (.t 0), none⟩,
 ⟨some 3, .nilck (.t 2), none⟩,
 ⟨some 4, .fa (.t 3) 0, none⟩,
 ⟨some 5, .call (.c (.func 94 [] [])) [(.t 4)], none⟩])
 (.seq (.region [⟨some 6, .mv (.t 0), none⟩,
 ⟨some 7, .nilck (.t 6), none⟩,
 ⟨some 8, .fa (.t 7) 1, none⟩,
 ⟨some 9, .call (.c (.func 52 [] [])) [(.t 8)], none⟩])
 (.seq (.region [⟨some 10, .mv (.t 0), none⟩,
 ⟨some 11, .nilck (.t 10), none⟩,
 ⟨some 12, .fa (.t 11) 2, none⟩,
 ⟨some 13, .call (.c (.func 95 [] [])) [(.t 12)], none⟩])
 (.region [⟨some 14, .mv (.t 0), none⟩,
 ⟨some 15, .nilck (.t 14), none⟩,
 ⟨some 16, .fa (.t 15) 3, none⟩,
 ⟨some 17, .call (.c (.func 52 [] [])) [(.t 16)], none⟩])))), []⟩
theorem c86 : compFun Tryz.prog Tryz.f86 = some ir86 := by kernel_rfl
def ir87 : IFun := ⟨9, (.seq (.region [⟨some 2, .box (.t 0), none⟩,
 ⟨some 3, .mv (.c (.bool false)), none⟩])
 (.seq (.region [⟨some 4, .ld false 1 (.t 1), none⟩,
 ⟨some 5, .ld true 10 (.t 2), none⟩,
 ⟨some 6, .call (.c (.func 49 [] [])) [(.t 4), (.t 5)], none⟩,
 ⟨some 7, .len false (.t 6), none⟩,
 ⟨some 8, .bin .eql (.t 7) (.c (.int .i64 0)), none⟩,
 ⟨some 3, .mv (.t 8), none⟩])
 .ret)), [.tmp 3]⟩
theorem c87 : compFun Tryz.prog Tryz.f87 = some ir87 := by kernel_rfl
def ir88 : IFun := ⟨36, (.seq (.region [⟨some 4, .mv (.c .nilslice), none⟩])
 (.seq (.block 0
 (.loop
 (.seq (.seq (.region [⟨some 5, .mv (.t 0), none⟩,
 ⟨some 6, .nilck (.t 5), none⟩,
 ⟨some 7, .fa (.t 6) 0, none⟩,
 ⟨some 8, .ld false 1 (.t 7), none⟩,
 ⟨some 9, .mv (.t 1), none⟩,
 ⟨some 10, .ia 14 (.t 8) (.t 9), none⟩,
 ⟨some 11, .fa (.t 10) 12, none⟩,
 ⟨some 12, .ld false 1 (.t 11), none⟩,
 ⟨some 13, .bin .geq (.t 12) (.c (.int .i64 0)), none⟩])
 (.cond (.t 13)
 .skip
 (.exit 0)))
 (.block 1
 (.seq (.region [⟨some 14, .mv (.t 4), none⟩,
 ⟨some 15, .mv (.t 0), none⟩,
 ⟨some 16, .nilck (.t 15), none⟩,
 ⟨some 17, .fa (.t 16) 0, none⟩,
 ⟨some 18, .ld false 1 (.t 17), none⟩,
 ⟨some 19, .mv (.t 1), none⟩,
 ⟨some 20, .ia 14 (.t 18) (.t 19), none⟩,
 ⟨some 21, .fa (.t 20) 10, none⟩,
 ⟨some 22, .ld true 2 (.t 21), none⟩,
 ⟨some 23, .bldS 2 1 [(.int .i64 0), (.int .i64 0)] [(0, 2, (.t 22))], none⟩,
 ⟨some 24, .app 2 16 (.t 14) (.t 23), none⟩,
 ⟨some 4, .mv (.t 24), none⟩])
 (.region [⟨some 25, .mv (.t 0), none⟩,
 ⟨some 26, .nilck (.t 25), none⟩,
 ⟨some 27, .fa (.t 26) 0, none⟩,
 ⟨some 28, .ld false 1 (.t 27), none⟩,
 ⟨some 29, .mv (.t 1), none⟩,
 ⟨some 30, .ia 14 (.t 28) (.t 29), none⟩,
 ⟨some 31, .fa (.t 30) 12, none⟩,
 ⟨some 32, .ld false 1 (.t 31), none⟩,
 ⟨some 1, .mv (.t 32), none⟩]))))))
 (.seq (.region [⟨some 33, .mv (.t 4), none⟩,
 ⟨some 34, .call (.c (.func 96 [] [])) [(.t 33)], none⟩])
 (.seq (.region [⟨some 35, .mv (.t 4), none⟩,
 ⟨some 4, .mv (.t 35), none⟩])
 .ret)))), [.tmp 4]⟩
theorem c88 : compFun Tryz.prog Tryz.f88 = some ir88 := by kernel_rfl
def ir89 : IFun := ⟨4, (.seq (.region [⟨some 1, .box (.t 0), none⟩,
 ⟨some 2, .mv (.c .nilfunc), none⟩])
 (.seq (.region [⟨some 3, .mkfn 97 [] [(.t 1)], none⟩,
 ⟨some 2, .mv (.t 3), none⟩])
 .ret)), [.tmp 2]⟩
theorem c89 : compFun Tryz.prog Tryz.f89 = some ir89 := by kernel_rfl
def ir90 : IFun := ⟨30, (.seq (.region [⟨some 4, .mv (.c .nilslice), none⟩])
 (.seq (.region [⟨some 5, .mv (.c .nilslice), none⟩])
 (.seq (.seq (.region [⟨some 6, .mv (.c (.int .i64 0)), none⟩])
 (.block 0
 (.loop
 (.seq (.seq (.region [⟨some 7, .mv (.t 6), none⟩,
 ⟨some 8, .mv (.t 0), none⟩,
 ⟨some 9, .len false (.t 8), none⟩,
 ⟨some 10, .bin .lss (.t 7) (.t 9), none⟩])
 (.cond (.t 10)
 .skip
 (.exit 0)))
 (.seq (.block 1
 (.draw [⟨⟨some 13, .mv (.t 5), none⟩, false, [], []⟩,
 ⟨⟨some 14, .bldS 1 4 [(.str [])] [(0, 1, (.c (.str [97]))), (1, 1, (.c (.str [98]))), (2, 1, (.c (.str [99]))), (3, 1, (.c (.str [100])))], none⟩, false, [], []⟩,
 ⟨⟨some 15, .mv (.t 6), none⟩, false, [], []⟩,
 ⟨⟨some 16, .ia 1 (.t 14) (.t 15), none⟩, false, [], []⟩,
 ⟨⟨some 17, .ld false 1 (.t 16), none⟩, false, [⟨some 17, .ld false 1 (.t 16), none⟩], []⟩,
 ⟨⟨some 18, .mv (.t 0), none⟩, false, [], []⟩,
 ⟨⟨some 19, .mv (.t 6), none⟩, false, [], []⟩,
 ⟨⟨some 20, .ia 1 (.t 18) (.t 19), none⟩, false, [], []⟩,
 ⟨⟨some 21, .ld false 1 (.t 20), none⟩, false, [⟨some 21, .ld false 1 (.t 20), none⟩], []⟩,
 ⟨⟨some 22, .mv (.t 1), none⟩, false, [], []⟩,
 ⟨⟨some 23, .mv (.t 6), none⟩, false, [], []⟩,
 ⟨⟨some 24, .ia 1 (.t 22) (.t 23), none⟩, false, [], []⟩,
 ⟨⟨some 25, .ld false 1 (.t 24), none⟩, false, [⟨some 25, .ld false 1 (.t 24), none⟩], []⟩,
 ⟨⟨some 26, .bld [(.str []), (.int .i64 0), (.bool false), (.int .i64 0)] [(0, 1, (.t 17)), (1, 1, (.t 21)), (3, 1, (.t 25))], none⟩, false, [], []⟩,
 ⟨⟨some 27, .bldS 4 1 [(.str []), (.int .i64 0), (.bool false), (.int .i64 0)] [(0, 4, (.t 26))], none⟩, false, [], []⟩,
 ⟨⟨some 28, .app 4 40 (.t 13) (.t 27), none⟩, true, [], []⟩,
 ⟨⟨some 5, .mv (.t 28), none⟩, false, [], []⟩]))
 (.region [⟨some 11, .mv (.t 6), none⟩,
 ⟨some 12, .bin .add (.t 11) (.c (.int .i64 1)), none⟩,
 ⟨some 6, .mv (.t 12), none⟩]))))))
 (.seq (.region [⟨some 29, .mv (.t 5), none⟩,
 ⟨some 4, .mv (.t 29), none⟩])
 .ret)))), [.tmp 4]⟩
theorem c90 : compFun Tryz.prog Tryz.f90 = some ir90 := by kernel_rfl
def ir91 : IFun := ⟨19, (.seq (.region [⟨some 4, .mv (.c (.int .i64 0)), none⟩])
 (.seq (.seq (.region [⟨some 6, .mv (.t 0), none⟩,
 ⟨some 7, .len false (.t 6), none⟩,
 ⟨some 8, .mv (.c (.int .i64 0)), none⟩])
 (.block 0
 (.loop
 (.seq (.region [⟨some 9, .bin .lss (.t 8) (.t 7), none⟩])
 (.seq (.cond (.t 9)
 .skip
 (.exit 0))
 (.seq (.block 1
 (.seq (.region [⟨some 10, .mv (.t 8), none⟩,
 ⟨some 5, .mv (.t 10), none⟩])
 (.seq (.region [⟨some 11, .mv (.t 1), none⟩,
 ⟨some 12, .mv (.t 0), none⟩,
 ⟨some 13, .mv (.t 5), none⟩,
 ⟨some 14, .ia 1 (.t 12) (.t 13), none⟩,
 ⟨some 15, .ld false 1 (.t 14), none⟩,
 ⟨some 16, .call (.t 11) [(.t 15)], none⟩])
 (.cond (.t 16)
 (.seq (.region [⟨some 17, .mv (.t 5), none⟩,
 ⟨some 4, .mv (.t 17), none⟩])
 .ret)
 .skip))))
 (.region [⟨some 18, .bin .add (.t 8) (.c (.int .i64 1)), none⟩,
 ⟨some 8, .mv (.t 18), none⟩])))))))
 (.seq (.region [⟨some 4, .mv (.c (.int .i64 (-1))), none⟩])
 .ret))), [.tmp 4]⟩
theorem c91 : compFun Tryz.prog Tryz.f91 = some ir91 := by kernel_rfl
def ir92 : IFun := ⟨14, (.region [⟨some 4, .mv (.t 0), none⟩,
 ⟨some 5, .mv (.t 0), none⟩,
 ⟨some 6, .nilck (.t 5), none⟩,
 ⟨some 7, .fa (.t 6) 1, none⟩,
 ⟨some 8, .ld false 1 (.t 7), none⟩,
 ⟨some 9, .mv (.t 1), none⟩,
 ⟨some 10, .bldS 1 1 [(.str [])] [(0, 1, (.t 9))], none⟩,
 ⟨some 11, .app 1 16 (.t 8) (.t 10), none⟩,
 ⟨some 12, .nilck (.t 4), none⟩,
 ⟨some 13, .fa (.t 12) 1, none⟩,
 ⟨none, .st 1 (.t 13) (.t 11), none⟩]), []⟩
theorem c92 : compFun Tryz.prog Tryz.f92 = some ir92 := by kernel_rfl
def ir93 : IFun := ⟨16, (.seq (.region [⟨some 4, .mv (.c (.int .i64 0)), none⟩])
 (.seq (.seq (.region [⟨some 5, .mv (.t 1), none⟩])
 (.cond (.t 5)
 (.region [⟨some 4, .mv (.c (.int .i64 1)), none⟩])
 .skip))
 (.region [⟨some 6, .mv (.t 0), none⟩,
 ⟨some 7, .mv (.t 0), none⟩,
 ⟨some 8, .nilck (.t 7), none⟩,
 ⟨some 9, .fa (.t 8) 0, none⟩,
 ⟨some 10, .ld false 1 (.t 9), none⟩,
 ⟨some 11, .mv (.t 4), none⟩,
 ⟨some 12, .bldS 1 1 [(.int .i64 0)] [(0, 1, (.t 11))], none⟩,
 ⟨some 13, .app 1 8 (.t 10) (.t 12), none⟩,
 ⟨some 14, .nilck (.t 6), none⟩,
 ⟨some 15, .fa (.t 14) 0, none⟩,
 ⟨none, .st 1 (.t 15) (.t 13), none⟩]))), []⟩
theorem c93 : compFun Tryz.prog Tryz.f93 = some ir93 := by kernel_rfl
def ir94 : IFun := ⟨4, (.region [⟨some 2, .mv (.t 0), none⟩,
 ⟨some 3, .nilck (.t 2), none⟩,
 ⟨none, .st 1 (.t 3) (.c (.str [63])), none⟩]), []⟩
theorem c94 : compFun Tryz.prog Tryz.f94 = some ir94 := by kernel_rfl
def ir95 : IFun := ⟨8, (.region [⟨some 2, .mv (.t 0), none⟩,
 ⟨some 3, .mv (.t 0), none⟩,
 ⟨some 4, .nilck (.t 3), none⟩,
 ⟨some 5, .ld false 1 (.t 4), none⟩,
 ⟨some 6, .un .not (.t 5), none⟩,
 ⟨some 7, .nilck (.t 2), none⟩,
 ⟨none, .st 1 (.t 7) (.t 6), none⟩]), []⟩
theorem c95 : compFun Tryz.prog Tryz.f95 = some ir95 := by kernel_rfl
def ir96 : IFun := ⟨28, (.seq (.region [⟨some 4, .mv (.t 0), none⟩,
 ⟨some 5, .len false (.t 4), none⟩,
 ⟨some 6, .bin .sub (.t 5) (.c (.int .i64 1)), none⟩,
 ⟨some 2, .mv (.c (.int .i64 0)), none⟩,
 ⟨some 3, .mv (.t 6), none⟩])
 (.block 0
 (.loop
 (.seq (.seq (.region [⟨some 7, .mv (.t 2), none⟩,
 ⟨some 8, .mv (.t 3), none⟩,
 ⟨some 9, .bin .lss (.t 7) (.t 8), none⟩])
 (.cond (.t 9)
 .skip
 (.exit 0)))
 (.seq (.block 1
 (.draw [⟨⟨some 14, .mv (.t 0), none⟩, false, [], []⟩,
 ⟨⟨some 15, .mv (.t 2), none⟩, false, [], []⟩,
 ⟨⟨some 16, .mv (.t 0), none⟩, false, [], []⟩,
 ⟨⟨some 17, .mv (.t 3), none⟩, false, [], []⟩,
 ⟨⟨some 18, .mv (.t 0), none⟩, false, [], []⟩,
 ⟨⟨some 19, .mv (.t 3), none⟩, false, [], []⟩,
 ⟨⟨some 20, .ia 2 (.t 18) (.t 19), none⟩, false, [], []⟩,
 ⟨⟨some 21, .ld true 2 (.t 20), none⟩, false, [⟨some 21, .ld true 2 (.t 20), none⟩], []⟩,
 ⟨⟨some 22, .mv (.t 0), none⟩, false, [], []⟩,
 ⟨⟨some 23, .mv (.t 2), none⟩, false, [], []⟩,
 ⟨⟨some 24, .ia 2 (.t 22) (.t 23), none⟩, false, [], []⟩,
 ⟨⟨some 25, .ld true 2 (.t 24), none⟩, false, [⟨some 25, .ld true 2 (.t 24), none⟩], []⟩,
 ⟨⟨some 26, .ia 2 (.t 14) (.t 15), none⟩, false, [], []⟩,
 ⟨⟨none, .st 2 (.t 26) (.t 21), none⟩, true, [], []⟩,
 ⟨⟨some 27, .ia 2 (.t 16) (.t 17), none⟩, false, [], []⟩,
 ⟨⟨none, .st 2 (.t 27) (.t 25), none⟩, true, [], []⟩]))
 (.region [⟨some 10, .mv (.t 2), none⟩,
 ⟨some 11, .bin .add (.t 10) (.c (.int .i64 1)), none⟩,
 ⟨some 12, .mv (.t 3), none⟩,
 ⟨some 13, .bin .sub (.t 12) (.c (.int .i64 1)), none⟩,
 ⟨some 2, .mv (.t 11), none⟩,
 ⟨some 3, .mv (.t 13), none⟩])))))), []⟩
theorem c96 : compFun Tryz.prog Tryz.f96 = some ir96 := by kernel_rfl
def ir97 : IFun := ⟨60, (.seq (.draw [⟨⟨some 6, .ld false 1 (.t 1), none⟩, false, [⟨some 6, .ld false 1 (.t 1), none⟩], []⟩,
 ⟨⟨some 7, .nilck (.t 6), none⟩, false, [], []⟩,
 ⟨⟨some 8, .fa (.t 7) 0, none⟩, false, [], []⟩,
 ⟨⟨some 9, .fa (.t 8) 1, none⟩, false, [], []⟩,
 ⟨⟨some 10, .ld false 1 (.t 9), none⟩, false, [⟨some 10, .ld false 1 (.t 9), none⟩], []⟩,
 ⟨⟨some 11, .len false (.t 10), none⟩, false, [], []⟩,
 ⟨⟨some 12, .ld false 1 (.t 1), none⟩, false, [⟨some 12, .ld false 1 (.t 1), none⟩], []⟩,
 ⟨⟨some 13, .nilck (.t 12), none⟩, false, [], []⟩,
 ⟨⟨some 14, .fa (.t 13) 0, none⟩, false, [], []⟩,
 ⟨⟨some 15, .fa (.t 14) 1, none⟩, false, [], []⟩,
 ⟨⟨some 16, .ld false 1 (.t 15), none⟩, false, [⟨some 16, .ld false 1 (.t 15), none⟩], []⟩,
 ⟨⟨some 17, .len false (.t 16), none⟩, false, [], []⟩,
 ⟨⟨some 18, .bin .add (.t 17) (.c (.int .i64 1)), none⟩, false, [], []⟩,
 ⟨⟨some 19, .mksl 2 16 [(.int .i64 0), (.int .i64 0)] (.t 11) (.t 18), none⟩, false, [], []⟩,
 ⟨⟨some 3, .mv (.t 19), none⟩, false, [], []⟩])
 (.seq (.region [⟨some 20, .mv (.t 3), none⟩,
 ⟨some 21, .ld false 1 (.t 1), none⟩,
 ⟨some 22, .nilck (.t 21), none⟩,
 ⟨some 23, .fa (.t 22) 0, none⟩,
 ⟨some 24, .fa (.t 23) 1, none⟩,
 ⟨some 25, .ld false 1 (.t 24), none⟩,
 ⟨some 26, .cpy 2 (.t 20) (.t 25), none⟩])
 (.seq (.seq (.region [⟨some 27, .ld false 1 (.t 1), none⟩,
 ⟨some 28, .nilck (.t 27), none⟩,
 ⟨some 29, .fa (.t 28) 0, none⟩,
 ⟨some 30, .fa (.t 29) 2, none⟩,
 ⟨some 31, .ld false 1 (.t 30), none⟩,
 ⟨some 32, .bin .neq (.t 31) (.c (.int .i64 (-1))), none⟩])
 (.cond (.t 32)
 (.draw [⟨⟨some 33, .mv (.t 3), none⟩, false, [], []⟩,
 ⟨⟨some 34, .ld false 1 (.t 1), none⟩, false, [⟨some 34, .ld false 1 (.t 1), none⟩], []⟩,
 ⟨⟨some 35, .nilck (.t 34), none⟩, false, [], []⟩,
 ⟨⟨some 36, .fa (.t 35) 0, none⟩, false, [], []⟩,
 ⟨⟨some 37, .fa (.t 36) 2, none⟩, false, [], []⟩,
 ⟨⟨some 38, .ld false 1 (.t 37), none⟩, false, [⟨some 38, .ld false 1 (.t 37), none⟩], []⟩,
 ⟨⟨some 39, .ld false 1 (.t 1), none⟩, false, [⟨some 39, .ld false 1 (.t 1), none⟩], []⟩,
 ⟨⟨some 40, .nilck (.t 39), none⟩, false, [], []⟩,
 ⟨⟨some 41, .fa (.t 40) 0, none⟩, false, [], []⟩,
 ⟨⟨some 42, .fa (.t 41) 2, none⟩, false, [], []⟩,
 ⟨⟨some 43, .ld false 1 (.t 42), none⟩, false, [⟨some 43, .ld false 1 (.t 42), none⟩], []⟩,
 ⟨⟨some 44, .bld [(.int .i64 0), (.int .i64 0)] [(0, 1, (.t 38)), (1, 1, (.t 43))], none⟩, false, [], []⟩,
 ⟨⟨some 45, .bldS 2 1 [(.int .i64 0), (.int .i64 0)] [(0, 2, (.t 44))], none⟩, false, [], []⟩,
 ⟨⟨some 46, .app 2 16 (.t 33) (.t 45), none⟩, true, [], []⟩,
 ⟨⟨some 3, .mv (.t 46), none⟩, false, [], []⟩])
 .skip))
 (.seq (.region [⟨some 47, .mv (.t 3), none⟩,
 ⟨some 48, .call (.c (.func 98 [] [])) [(.t 47), (.c (.func 99 [] []))], none⟩])
 (.seq (.region [⟨some 49, .mv (.t 3), none⟩,
 ⟨some 50, .len false (.t 49), none⟩,
 ⟨some 51, .mv (.c (.int .i64 0)), none⟩])
 (.block 0
 (.loop
 (.seq (.region [⟨some 52, .bin .lss (.t 51) (.t 50), none⟩])
 (.seq (.cond (.t 52)
 .skip
 (.exit 0))
 (.seq (.block 1
 (.seq (.region [⟨some 53, .ia 2 (.t 49) (.t 51), none⟩,
 ⟨some 54, .ld true 2 (.t 53), none⟩,
 ⟨some 5, .alloc (.agg [(.int .i64 0), (.int .i64 0)]), none⟩,
 ⟨none, .st 2 (.t 5) (.t 54), none⟩])
 (.seq (.region [⟨some 55, .mv (.t 0), none⟩,
 ⟨some 56, .ld true 2 (.t 5), none⟩,
 ⟨some 57, .call (.t 55) [(.t 56)], none⟩,
 ⟨some 58, .un .not (.t 57), none⟩])
 (.cond (.t 58)
 .ret
 .skip))))
 (.region [⟨some 59, .bin .add (.t 51) (.c (.int .i64 1)), none⟩,
 ⟨some 51, .mv (.t 59), none⟩]))))))))))), []⟩
theorem c97 : compFun Tryz.prog Tryz.f97 = some ir97 := by kernel_rfl
def ir98 : IFun := ⟨14, (.seq (.region [⟨some 5, .mv (.t 0), none⟩,
 ⟨some 6, .len false (.t 5), none⟩,
 ⟨some 4, .mv (.t 6), none⟩])
 (.region [⟨some 7, .mv (.t 0), none⟩,
 ⟨some 8, .mv (.t 4), none⟩,
 ⟨some 9, .mv (.t 4), none⟩,
 ⟨some 10, .conv .u64 (.t 9), none⟩,
 ⟨some 11, .call (.c (.func 102 [] [])) [(.t 10)], none⟩,
 ⟨some 12, .mv (.t 1), none⟩,
 ⟨some 13, .call (.c (.func 101 [] [])) [(.t 7), (.c (.int .i64 0)), (.t 8), (.t 11), (.t 12)], none⟩])), []⟩
theorem c98 : compFun Tryz.prog Tryz.f98 = some ir98 := by kernel_rfl
def ir99 : IFun := ⟨17, (.seq (.region [⟨some 2, .box (.t 0), none⟩,
 ⟨some 3, .box (.t 1), none⟩,
 ⟨some 4, .mv (.c (.int .i64 0)), none⟩])
 (.seq (.region [⟨some 5, .fa (.t 2) 0, none⟩,
 ⟨some 6, .ld false 1 (.t 5), none⟩,
 ⟨some 7, .fa (.t 3) 0, none⟩,
 ⟨some 8, .ld false 1 (.t 7), none⟩,
 ⟨some 9, .bin .sub (.t 6) (.t 8), none⟩,
 ⟨some 10, .fa (.t 2) 1, none⟩,
 ⟨some 11, .ld false 1 (.t 10), none⟩,
 ⟨some 12, .fa (.t 3) 1, none⟩,
 ⟨some 13, .ld false 1 (.t 12), none⟩,
 ⟨some 14, .bin .sub (.t 11) (.t 13), none⟩,
 ⟨some 15, .bldS 1 2 [(.int .i64 0)] [(0, 1, (.t 9)), (1, 1, (.t 14))], none⟩,
 ⟨some 16, .call (.c (.func 100 [] [])) [(.t 15)], none⟩,
 ⟨some 4, .mv (.t 16), none⟩])
 .ret)), [.tmp 4]⟩
theorem c99 : compFun Tryz.prog Tryz.f99 = some ir99 := by kernel_rfl
def ir100 : IFun := ⟨18, (.seq (.region [⟨some 2, .mv (.c (.int .i64 0)), none⟩])
 (.seq (.region [⟨some 3, .mv (.c (.int .i64 0)), none⟩])
 (.seq (.seq (.region [⟨some 6, .mv (.t 0), none⟩,
 ⟨some 7, .len false (.t 6), none⟩,
 ⟨some 8, .mv (.c (.int .i64 0)), none⟩])
 (.block 0
 (.loop
 (.seq (.region [⟨some 9, .bin .lss (.t 8) (.t 7), none⟩])
 (.seq (.cond (.t 9)
 .skip
 (.exit 0))
 (.seq (.block 1
 (.seq (.region [⟨some 10, .ia 1 (.t 6) (.t 8), none⟩,
 ⟨some 11, .ld false 1 (.t 10), none⟩,
 ⟨some 5, .mv (.t 11), none⟩])
 (.seq (.region [⟨some 12, .mv (.t 5), none⟩,
 ⟨some 13, .mv (.t 3), none⟩,
 ⟨some 14, .bin .neq (.t 12) (.t 13), none⟩])
 (.cond (.t 14)
 (.seq (.region [⟨some 15, .mv (.t 5), none⟩,
 ⟨some 2, .mv (.t 15), none⟩])
 .ret)
 .skip))))
 (.region [⟨some 16, .bin .add (.t 8) (.c (.int .i64 1)), none⟩,
 ⟨some 8, .mv (.t 16), none⟩])))))))
 (.seq (.region [⟨some 17, .mv (.t 3), none⟩,
 ⟨some 2, .mv (.t 17), none⟩])
 .ret)))), [.tmp 2]⟩
theorem c100 : compFun Tryz.prog Tryz.f100 = some ir100 := by kernel_rfl
def ir101 : IFun := ⟨148, (.seq (.region [⟨some 10, .mv (.c (.bool true)), none⟩])
 (.seq (.region [⟨some 11, .mv (.c (.bool true)), none⟩])
 (.block 0
 (.loop
 (.block 1
 (.seq (.region [⟨some 21, .mv (.t 2), none⟩,
 ⟨some 22, .mv (.t 1), none⟩,
 ⟨some 23, .bin .sub (.t 21) (.t 22), none⟩,
 ⟨some 12, .mv (.t 23), none⟩])
 (.seq (.seq (.region [⟨some 24, .mv (.t 12), none⟩,
 ⟨some 25, .bin .leq (.t 24) (.c (.int .i64 12)), none⟩])
 (.cond (.t 25)
 (.seq (.region [⟨some 26, .mv (.t 0), none⟩,
 ⟨some 27, .mv (.t 1), none⟩,
 ⟨some 28, .mv (.t 2), none⟩,
 ⟨some 29, .mv (.t 4), none⟩,
 ⟨some 30, .call (.c (.func 103 [] [])) [(.t 26), (.t 27), (.t 28), (.t 29)], none⟩])
 .ret)
 .skip))
 (.seq (.seq (.region [⟨some 31, .mv (.t 3), none⟩,
 ⟨some 32, .bin .eql (.t 31) (.c (.int .i64 0)), none⟩])
 (.cond (.t 32)
 (.seq (.region [⟨some 33, .mv (.t 0), none⟩,
 ⟨some 34, .mv (.t 1), none⟩,
 ⟨some 35, .mv (.t 2), none⟩,
 ⟨some 36, .mv (.t 4), none⟩,
 ⟨some 37, .call (.c (.func 104 [] [])) [(.t 33), (.t 34), (.t 35), (.t 36)], none⟩])
 .ret)
 .skip))
 (.seq (.seq (.region [⟨some 38, .mv (.t 10), none⟩,
 ⟨some 39, .un .not (.t 38), none⟩])
 (.cond (.t 39)
 (.seq (.region [⟨some 40, .mv (.t 0), none⟩,
 ⟨some 41, .mv (.t 1), none⟩,
 ⟨some 42, .mv (.t 2), none⟩,
 ⟨some 43, .mv (.t 4), none⟩,
 ⟨some 44, .call (.c (.func 105 [] [])) [(.t 40), (.t 41), (.t 42), (.t 43)], none⟩])
 (.region [⟨some 45, .mv (.t 3), none⟩,
 ⟨some 46, .bin .sub (.t 45) (.c (.int .i64 1)), none⟩,
 ⟨some 3, .mv (.t 46), none⟩]))
 .skip))
 (.seq (.region [⟨some 48, .mv (.t 0), none⟩,
 ⟨some 49, .mv (.t 1), none⟩,
 ⟨some 50, .mv (.t 2), none⟩,
 ⟨some 51, .mv (.t 4), none⟩,
 ⟨some 52, .call (.c (.func 106 [] [])) [(.t 48), (.t 49), (.t 50), (.t 51)], none⟩,
 ⟨some 47, .mv (.t 52), none⟩,
 ⟨some 53, .ext (.t 47) 0, none⟩,
 ⟨some 54, .ext (.t 47) 1, none⟩,
 ⟨some 13, .mv (.t 53), none⟩,
 ⟨some 14, .mv (.t 54), none⟩])
 (.seq (.seq (.region [⟨some 55, .mv (.t 14), none⟩,
 ⟨some 56, .bin .eql (.t 55) (.c (.int .i64 2)), none⟩])
 (.cond (.t 56)
 (.seq (.region [⟨some 57, .mv (.t 0), none⟩,
 ⟨some 58, .mv (.t 1), none⟩,
 ⟨some 59, .mv (.t 2), none⟩,
 ⟨some 60, .mv (.t 4), none⟩,
 ⟨some 61, .call (.c (.func 107 [] [])) [(.t 57), (.t 58), (.t 59), (.t 60)], none⟩])
 (.seq (.region [⟨some 62, .mv (.t 2), none⟩,
 ⟨some 63, .bin .sub (.t 62) (.c (.int .i64 1)), none⟩,
 ⟨some 64, .mv (.t 13), none⟩,
 ⟨some 65, .mv (.t 1), none⟩,
 ⟨some 66, .bin .sub (.t 64) (.t 65), none⟩,
 ⟨some 67, .bin .sub (.t 63) (.t 66), none⟩,
 ⟨some 13, .mv (.t 67), none⟩])
 (.region [⟨some 14, .mv (.c (.int .i64 1)), none⟩])))
 .skip))
 (.seq (.seq (.region [⟨some 68, .mv (.t 10), none⟩,
 ⟨some 69, .mv (.t 68), none⟩,
 ⟨(some 70), (.mv (.t 11)), (some (69, true))⟩,
 ⟨some 71, .pick (.t 69) (.t 70) (.c (.bool false)), none⟩,
 ⟨some 72, .mv (.t 71), none⟩,
 ⟨(some 73), (.mv (.t 14)), (some (72, true))⟩,
 ⟨(some 74), (.bin .eql (.t 73) (.c (.int .i64 1))), (some (72, true))⟩,
 ⟨some 75, .pick (.t 72) (.t 74) (.c (.bool false)), none⟩])
 (.cond (.t 75)
 (.seq (.region [⟨some 76, .mv (.t 0), none⟩,
 ⟨some 77, .mv (.t 1), none⟩,
 ⟨some 78, .mv (.t 2), none⟩,
 ⟨some 79, .mv (.t 4), none⟩,
 ⟨some 80, .call (.c (.func 108 [] [])) [(.t 76), (.t 77), (.t 78), (.t 79)], none⟩])
 (.cond (.t 80)
 .ret
 .skip))
 .skip))
 (.seq (.seq (.draw [⟨⟨some 81, .mv (.t 1), none⟩, false, [], []⟩,
 ⟨⟨some 82, .bin .gtr (.t 81) (.c (.int .i64 0)), none⟩, false, [], []⟩,
 ⟨⟨some 83, .mv (.t 82), none⟩, false, [], []⟩,
 ⟨⟨(some 84), (.mv (.t 4)), (some (83, true))⟩, false, [], []⟩,
 ⟨⟨(some 85), (.mv (.t 0)), (some (83, true))⟩, false, [], []⟩,
 ⟨⟨(some 86), (.mv (.t 1)), (some (83, true))⟩, false, [], []⟩,
 ⟨⟨(some 87), (.bin .sub (.t 86) (.c (.int .i64 1))), (some (83, true))⟩, false, [], []⟩,
 ⟨⟨(some 88), (.ia 2 (.t 85) (.t 87)), (some (83, true))⟩, false, [], []⟩,
 ⟨⟨(some 89), (.ld true 2 (.t 88)), (some (83, true))⟩, false, [⟨(some 89), (.ld true 2 (.t 88)), (some (83, true))⟩], []⟩,
 ⟨⟨(some 90), (.mv (.t 0)), (some (83, true))⟩, false, [], []⟩,
 ⟨⟨(some 91), (.mv (.t 13)), (some (83, true))⟩, false, [], []⟩,
 ⟨⟨(some 92), (.ia 2 (.t 90) (.t 91)), (some (83, true))⟩, false, [], []⟩,
 ⟨⟨(some 93), (.ld true 2 (.t 92)), (some (83, true))⟩, false, [⟨(some 93), (.ld true 2 (.t 92)), (some (83, true))⟩], []⟩,
 ⟨⟨(some 94), (.call (.t 84) [(.t 89), (.t 93)]), (some (83, true))⟩, true, [], []⟩,
 ⟨⟨(some 95), (.bin .lss (.t 94) (.c (.int .i64 0))), (some (83, true))⟩, false, [], []⟩,
 ⟨⟨(some 96), (.un .not (.t 95)), (some (83, true))⟩, false, [], []⟩,
 ⟨⟨some 97, .pick (.t 83) (.t 96) (.c (.bool false)), none⟩, false, [], []⟩])
 (.cond (.t 97)
 (.seq (.region [⟨some 98, .mv (.t 0), none⟩,
 ⟨some 99, .mv (.t 1), none⟩,
 ⟨some 100, .mv (.t 2), none⟩,
 ⟨some 101, .mv (.t 13), none⟩,
 ⟨some 102, .mv (.t 4), none⟩,
 ⟨some 103, .call (.c (.func 109 [] [])) [(.t 98), (.t 99), (.t 100), (.t 101), (.t 102)], none⟩,
 ⟨some 15, .mv (.t 103), none⟩])
 (.seq (.region [⟨some 104, .mv (.t 15), none⟩,
 ⟨some 1, .mv (.t 104), none⟩])
 (.exit 1)))
 .skip))
 (.seq (.region [⟨some 106, .mv (.t 0), none⟩,
 ⟨some 107, .mv (.t 1), none⟩,
 ⟨some 108, .mv (.t 2), none⟩,
 ⟨some 109, .mv (.t 13), none⟩,
 ⟨some 110, .mv (.t 4), none⟩,
 ⟨some 111, .call (.c (.func 110 [] [])) [(.t 106), (.t 107), (.t 108), (.t 109), (.t 110)], none⟩,
 ⟨some 105, .mv (.t 111), none⟩,
 ⟨some 112, .ext (.t 105) 0, none⟩,
 ⟨some 113, .ext (.t 105) 1, none⟩,
 ⟨some 16, .mv (.t 112), none⟩,
 ⟨some 17, .mv (.t 113), none⟩])
 (.seq (.region [⟨some 114, .mv (.t 17), none⟩,
 ⟨some 11, .mv (.t 114), none⟩])
 (.seq (.region [⟨some 115, .mv (.t 16), none⟩,
 ⟨some 116, .mv (.t 1), none⟩,
 ⟨some 117, .bin .sub (.t 115) (.t 116), none⟩,
 ⟨some 118, .mv (.t 2), none⟩,
 ⟨some 119, .mv (.t 16), none⟩,
 ⟨some 120, .bin .sub (.t 118) (.t 119), none⟩,
 ⟨some 18, .mv (.t 117), none⟩,
 ⟨some 19, .mv (.t 120), none⟩])
 (.seq (.region [⟨some 121, .mv (.t 12), none⟩,
 ⟨some 122, .bin .quo (.t 121) (.c (.int .i64 8)), none⟩,
 ⟨some 20, .mv (.t 122), none⟩])
 (.seq (.region [⟨some 123, .mv (.t 18), none⟩,
 ⟨some 124, .mv (.t 19), none⟩,
 ⟨some 125, .bin .lss (.t 123) (.t 124), none⟩])
 (.cond (.t 125)
 (.seq (.region [⟨some 126, .mv (.t 18), none⟩,
 ⟨some 127, .mv (.t 20), none⟩,
 ⟨some 128, .bin .geq (.t 126) (.t 127), none⟩,
 ⟨some 10, .mv (.t 128), none⟩])
 (.seq (.region [⟨some 129, .mv (.t 0), none⟩,
 ⟨some 130, .mv (.t 1), none⟩,
 ⟨some 131, .mv (.t 16), none⟩,
 ⟨some 132, .mv (.t 3), none⟩,
 ⟨some 133, .mv (.t 4), none⟩,
 ⟨some 134, .call (.c (.func 101 [] [])) [(.t 129), (.t 130), (.t 131), (.t 132), (.t 133)], none⟩])
 (.region [⟨some 135, .mv (.t 16), none⟩,
 ⟨some 136, .bin .add (.t 135) (.c (.int .i64 1)), none⟩,
 ⟨some 1, .mv (.t 136), none⟩])))
 (.seq (.region [⟨some 137, .mv (.t 19), none⟩,
 ⟨some 138, .mv (.t 20), none⟩,
 ⟨some 139, .bin .geq (.t 137) (.t 138), none⟩,
 ⟨some 10, .mv (.t 139), none⟩])
 (.seq (.region [⟨some 140, .mv (.t 0), none⟩,
 ⟨some 141, .mv (.t 16), none⟩,
 ⟨some 142, .bin .add (.t 141) (.c (.int .i64 1)), none⟩,
 ⟨some 143, .mv (.t 2), none⟩,
 ⟨some 144, .mv (.t 3), none⟩,
 ⟨some 145, .mv (.t 4), none⟩,
 ⟨some 146, .call (.c (.func 101 [] [])) [(.t 140), (.t 142), (.t 143), (.t 144), (.t 145)], none⟩])
 (.region [⟨some 147, .mv (.t 16), none⟩,
 ⟨some 2, .mv (.t 147), none⟩])))))))))))))))))))))), []⟩
theorem c101 : compFun Tryz.prog Tryz.f101 = some ir101 := by kernel_rfl
def ir102 : IFun := ⟨8, (.seq (.region [⟨some 2, .mv (.c (.int .i64 0)), none⟩])
 (.seq (.cond (.c (.bool false))
 (.seq (.region [⟨some 3, .mv (.t 0), none⟩,
 ⟨some 4, .conv .u32 (.t 3), none⟩,
 ⟨some 5, .call (.c (.func 111 [] [])) [(.t 4)], none⟩,
 ⟨some 2, .mv (.t 5), none⟩])
 .ret)
 .skip)
 (.seq (.region [⟨some 6, .mv (.t 0), none⟩,
 ⟨some 7, .call (.c (.func 112 [] [])) [(.t 6)], none⟩,
 ⟨some 2, .mv (.t 7), none⟩])
 .ret))), [.tmp 2]⟩
theorem c102 : compFun Tryz.prog Tryz.f102 = some ir102 := by kernel_rfl
def ir103 : IFun := ⟨53, (.seq (.region [⟨some 10, .mv (.t 1), none⟩,
 ⟨some 11, .bin .add (.t 10) (.c (.int .i64 1)), none⟩,
 ⟨some 8, .mv (.t 11), none⟩])
 (.block 0
 (.loop
 (.seq (.seq (.region [⟨some 12, .mv (.t 8), none⟩,
 ⟨some 13, .mv (.t 2), none⟩,
 ⟨some 14, .bin .lss (.t 12) (.t 13), none⟩])
 (.cond (.t 14)
 .skip
 (.exit 0)))
 (.seq (.block 1
 (.seq (.region [⟨some 17, .mv (.t 8), none⟩,
 ⟨some 9, .mv (.t 17), none⟩])
 (.block 2
 (.loop
 (.seq (.seq (.draw [⟨⟨some 18, .mv (.t 9), none⟩, false, [], []⟩,
 ⟨⟨some 19, .mv (.t 1), none⟩, false, [], []⟩,
 ⟨⟨some 20, .bin .gtr (.t 18) (.t 19), none⟩, false, [], []⟩,
 ⟨⟨some 21, .mv (.t 20), none⟩, false, [], []⟩,
 ⟨⟨(some 22), (.mv (.t 3)), (some (21, true))⟩, false, [], []⟩,
 ⟨⟨(some 23), (.mv (.t 0)), (some (21, true))⟩, false, [], []⟩,
 ⟨⟨(some 24), (.mv (.t 9)), (some (21, true))⟩, false, [], []⟩,
 ⟨⟨(some 25), (.ia 2 (.t 23) (.t 24)), (some (21, true))⟩, false, [], []⟩,
 ⟨⟨(some 26), (.ld true 2 (.t 25)), (some (21, true))⟩, false, [⟨(some 26), (.ld true 2 (.t 25)), (some (21, true))⟩], []⟩,
 ⟨⟨(some 27), (.mv (.t 0)), (some (21, true))⟩, false, [], []⟩,
 ⟨⟨(some 28), (.mv (.t 9)), (some (21, true))⟩, false, [], []⟩,
 ⟨⟨(some 29), (.bin .sub (.t 28) (.c (.int .i64 1))), (some (21, true))⟩, false, [], []⟩,
 ⟨⟨(some 30), (.ia 2 (.t 27) (.t 29)), (some (21, true))⟩, false, [], []⟩,
 ⟨⟨(some 31), (.ld true 2 (.t 30)), (some (21, true))⟩, false, [⟨(some 31), (.ld true 2 (.t 30)), (some (21, true))⟩], []⟩,
 ⟨⟨(some 32), (.call (.t 22) [(.t 26), (.t 31)]), (some (21, true))⟩, true, [], []⟩,
 ⟨⟨(some 33), (.bin .lss (.t 32) (.c (.int .i64 0))), (some (21, true))⟩, false, [], []⟩,
 ⟨⟨some 34, .pick (.t 21) (.t 33) (.c (.bool false)), none⟩, false, [], []⟩])
 (.cond (.t 34)
 .skip
 (.exit 2)))
 (.seq (.block 3
 (.draw [⟨⟨some 37, .mv (.t 0), none⟩, false, [], []⟩,
 ⟨⟨some 38, .mv (.t 9), none⟩, false, [], []⟩,
 ⟨⟨some 39, .mv (.t 0), none⟩, false, [], []⟩,
 ⟨⟨some 40, .mv (.t 9), none⟩, false, [], []⟩,
 ⟨⟨some 41, .bin .sub (.t 40) (.c (.int .i64 1)), none⟩, false, [], []⟩,
 ⟨⟨some 42, .mv (.t 0), none⟩, false, [], []⟩,
 ⟨⟨some 43, .mv (.t 9), none⟩, false, [], []⟩,
 ⟨⟨some 44, .bin .sub (.t 43) (.c (.int .i64 1)), none⟩, false, [], []⟩,
 ⟨⟨some 45, .ia 2 (.t 42) (.t 44), none⟩, false, [], []⟩,
 ⟨⟨some 46, .ld true 2 (.t 45), none⟩, false, [⟨some 46, .ld true 2 (.t 45), none⟩], []⟩,
 ⟨⟨some 47, .mv (.t 0), none⟩, false, [], []⟩,
 ⟨⟨some 48, .mv (.t 9), none⟩, false, [], []⟩,
 ⟨⟨some 49, .ia 2 (.t 47) (.t 48), none⟩, false, [], []⟩,
 ⟨⟨some 50, .ld true 2 (.t 49), none⟩, false, [⟨some 50, .ld true 2 (.t 49), none⟩], []⟩,
 ⟨⟨some 51, .ia 2 (.t 37) (.t 38), none⟩, false, [], []⟩,
 ⟨⟨none, .st 2 (.t 51) (.t 46), none⟩, true, [], []⟩,
 ⟨⟨some 52, .ia 2 (.t 39) (.t 41), none⟩, false, [], []⟩,
 ⟨⟨none, .st 2 (.t 52) (.t 50), none⟩, true, [], []⟩]))
 (.region [⟨some 35, .mv (.t 9), none⟩,
 ⟨some 36, .bin .sub (.t 35) (.c (.int .i64 1)), none⟩,
 ⟨some 9, .mv (.t 36), none⟩])))))))
 (.region [⟨some 15, .mv (.t 8), none⟩,
 ⟨some 16, .bin .add (.t 15) (.c (.int .i64 1)), none⟩,
 ⟨some 8, .mv (.t 16), none⟩])))))), []⟩
theorem c103 : compFun Tryz.prog Tryz.f103 = some ir103 := by kernel_rfl
def ir112 : IFun := ⟨25, (.seq (.region [⟨some 2, .mv (.c (.int .i64 0)), none⟩])
 (.seq (.seq (.region [⟨some 3, .mv (.t 0), none⟩,
 ⟨some 4, .bin .geq (.t 3) (.c (.int .u64 4294967296)), none⟩])
 (.cond (.t 4)
 (.seq (.region [⟨some 5, .mv (.t 0), none⟩,
 ⟨some 6, .bin .shr (.t 5) (.c (.int .u64 32)), none⟩,
 ⟨some 0, .mv (.t 6), none⟩])
 (.region [⟨some 2, .mv (.c (.int .i64 32)), none⟩]))
 .skip))
 (.seq (.seq (.region [⟨some 7, .mv (.t 0), none⟩,
 ⟨some 8, .bin .geq (.t 7) (.c (.int .u64 65536)), none⟩])
 (.cond (.t 8)
 (.seq (.region [⟨some 9, .mv (.t 0), none⟩,
 ⟨some 10, .bin .shr (.t 9) (.c (.int .u64 16)), none⟩,
 ⟨some 0, .mv (.t 10), none⟩])
 (.region [⟨some 11, .mv (.t 2), none⟩,
 ⟨some 12, .bin .add (.t 11) (.c (.int .i64 16)), none⟩,
 ⟨some 2, .mv (.t 12), none⟩]))
 .skip))
 (.seq (.seq (.region [⟨some 13, .mv (.t 0), none⟩,
 ⟨some 14, .bin .geq (.t 13) (.c (.int .u64 256)), none⟩])
 (.cond (.t 14)
 (.seq (.region [⟨some 15, .mv (.t 0), none⟩,
 ⟨some 16, .bin .shr (.t 15) (.c (.int .u64 8)), none⟩,
 ⟨some 0, .mv (.t 16), none⟩])
 (.region [⟨some 17, .mv (.t 2), none⟩,
 ⟨some 18, .bin .add (.t 17) (.c (.int .i64 8)), none⟩,
 ⟨some 2, .mv (.t 18), none⟩]))
 .skip))
 (.seq (.region [⟨some 19, .mv (.t 2), none⟩,
 ⟨some 20, .mv (.t 0), none⟩,
 ⟨some 21, .conv .u8 (.t 20), none⟩,
 ⟨some 22, .ixs (.c (.str [0, 1, 2, 2, 3, 3, 3, 3, 4, 4, 4, 4, 4, 4, 4, 4, 5, 5, 5, 5, 5, 5, 5, 5, 5, 5, 5, 5, 5, 5, 5, 5, 6, 6, 6, 6, 6, 6, 6, 6, 6, 6, 6, 6, 6, 6, 6, 6, 6, 6, 6, 6, 6, 6, 6, 6, 6, 6, 6, 6, 6, 6, 6, 6, 7, 7, 7, 7, 7, 7, 7, 7, 7, 7, 7, 7, 7, 7, 7, 7, 7, 7, 7, 7, 7, 7, 7, 7, 7, 7, 7, 7, 7, 7, 7, 7, 7, 7, 7, 7, 7, 7, 7, 7, 7, 7, 7, 7, 7, 7, 7, 7, 7, 7, 7, 7, 7, 7, 7, 7, 7, 7, 7, 7, 7, 7, 7, 7, 8, 8, 8, 8, 8, 8, 8, 8, 8, 8, 8, 8, 8, 8, 8, 8, 8, 8, 8, 8, 8, 8, 8, 8, 8, 8, 8, 8, 8, 8, 8, 8, 8, 8, 8, 8, 8, 8, 8, 8, 8, 8, 8, 8, 8, 8, 8, 8, 8, 8, 8, 8, 8, 8, 8, 8, 8, 8, 8, 8, 8, 8, 8, 8, 8, 8, 8, 8, 8, 8, 8, 8, 8, 8, 8, 8, 8, 8, 8, 8, 8, 8, 8, 8, 8, 8, 8, 8, 8, 8, 8, 8, 8, 8, 8, 8, 8, 8, 8, 8, 8, 8, 8, 8, 8, 8, 8, 8, 8, 8, 8, 8, 8, 8, 8, 8, 8, 8, 8, 8, 8, 8, 8, 8, 8, 8, 8, 8])) (.t 21), none⟩,
 ⟨some 23, .conv .i64 (.t 22), none⟩,
 ⟨some 24, .bin .add (.t 19) (.t 23), none⟩,
 ⟨some 2, .mv (.t 24), none⟩])
 .ret))))), [.tmp 2]⟩
theorem c112 : compFun Tryz.prog Tryz.f112 = some ir112 := by kernel_rfl
def tbl : Nat → Option IFun
  | 2 => some ir2
  | 3 => some ir3
  | 4 => some ir4
  | 6 => some ir6
  | 7 => some ir7
  | 8 => some ir8
  | 9 => some ir9
  | 10 => some ir10
  | 11 => some ir11
  | 12 => some ir12
  | 13 => some ir13
  | 14 => some ir14
  | 15 => some ir15
  | 16 => some ir16
  | 17 => some ir17
  | 18 => some ir18
  | 19 => some ir19
  | 20 => some ir20
  | 21 => some ir21
  | 22 => some ir22
  | 23 => some ir23
  | 24 => some ir24
  | 25 => some ir25
  | 26 => some ir26
  | 27 => some ir27
  | 28 => some ir28
  | 29 => some ir29
  | 30 => some ir30
  | 31 => some ir31
  | 32 => some ir32
  | 33 => some ir33
  | 34 => some ir34
  | 35 => some ir35
  | 36 => some ir36
  | 37 => some ir37
  | 39 => some ir39
  | 40 => some ir40
  | 41 => some ir41
  | 42 => some ir42
  | 43 => some ir43
  | 44 => some ir44
  | 45 => some ir45
  | 46 => some ir46
  | 47 => some ir47
  | 48 => some ir48
  | 49 => some ir49
  | 50 => some ir50
  | 51 => some ir51
  | 52 => some ir52
  | 53 => some ir53
  | 54 => some ir54
  | 55 => some ir55
  | 56 => some ir56
  | 57 => some ir57
  | 58 => some ir58
  | 59 => some ir59
  | 60 => some ir60
  | 61 => some ir61
  | 62 => some ir62
  | 63 => some ir63
  | 64 => some ir64
  | 65 => some ir65
  | 66 => some ir66
  | 67 => some ir67
  | 68 => some ir68
  | 69 => some ir69
  | 70 => some ir70
  | 71 => some ir71
  | 72 => some ir72
  | 73 => some ir73
  | 74 => some ir74
  | 75 => some ir75
  | 76 => some ir76
  | 77 => some ir77
  | 78 => some ir78
  | 79 => some ir79
  | 80 => some ir80
  | 81 => some ir81
  | 82 => some ir82
  | 83 => some ir83
  | 84 => some ir84
  | 85 => some ir85
  | 86 => some ir86
  | 87 => some ir87
  | 88 => some ir88
  | 89 => some ir89
  | 90 => some ir90
  | 91 => some ir91
  | 92 => some ir92
  | 93 => some ir93
  | 94 => some ir94
  | 95 => some ir95
  | 96 => some ir96
  | 97 => some ir97
  | 98 => some ir98
  | 99 => some ir99
  | 100 => some ir100
  | 101 => some ir101
  | 102 => some ir102
  | 103 => some ir103
  | 112 => some ir112
  | _ => none
theorem tblOk : TblOk Tryz.prog tbl := by
  intro f ifn h
  unfold tbl at h
  split at h
  · cases h; exact ⟨_, Tryz.func2, c2⟩
  · cases h; exact ⟨_, Tryz.func3, c3⟩
  · cases h; exact ⟨_, Tryz.func4, c4⟩
  · cases h; exact ⟨_, Tryz.func6, c6⟩
  · cases h; exact ⟨_, Tryz.func7, c7⟩
  · cases h; exact ⟨_, Tryz.func8, c8⟩
  · cases h; exact ⟨_, Tryz.func9, c9⟩
  · cases h; exact ⟨_, Tryz.func10, c10⟩
  · cases h; exact ⟨_, Tryz.func11, c11⟩
  · cases h; exact ⟨_, Tryz.func12, c12⟩
  · cases h; exact ⟨_, Tryz.func13, c13⟩
  · cases h; exact ⟨_, Tryz.func14, c14⟩
  · cases h; exact ⟨_, Tryz.func15, c15⟩
  · cases h; exact ⟨_, Tryz.func16, c16⟩
  · cases h; exact ⟨_, Tryz.func17, c17⟩
  · cases h; exact ⟨_, Tryz.func18, c18⟩
  · cases h; exact ⟨_, Tryz.func19, c19⟩
  · cases h; exact ⟨_, Tryz.func20, c20⟩
  · cases h; exact ⟨_, Tryz.func21, c21⟩
  · cases h; exact ⟨_, Tryz.func22, c22⟩
  · cases h; exact ⟨_, Tryz.func23, c23⟩
  · cases h; exact ⟨_, Tryz.func24, c24⟩
  · cases h; exact ⟨_, Tryz.func25, c25⟩
  · cases h; exact ⟨_, Tryz.func26, c26⟩
  · cases h; exact ⟨_, Tryz.func27, c27⟩
  · cases h; exact ⟨_, Tryz.func28, c28⟩
  · cases h; exact ⟨_, Tryz.func29, c29⟩
  · cases h; exact ⟨_, Tryz.func30, c30⟩
  · cases h; exact ⟨_, Tryz.func31, c31⟩
  · cases h; exact ⟨_, Tryz.func32, c32⟩
  · cases h; exact ⟨_, Tryz.func33, c33⟩
  · cases h; exact ⟨_, Tryz.func34, c34⟩
  · cases h; exact ⟨_, Tryz.func35, c35⟩
  · cases h; exact ⟨_, Tryz.func36, c36⟩
  · cases h; exact ⟨_, Tryz.func37, c37⟩
  · cases h; exact ⟨_, Tryz.func39, c39⟩
  · cases h; exact ⟨_, Tryz.func40, c40⟩
  · cases h; exact ⟨_, Tryz.func41, c41⟩
  · cases h; exact ⟨_, Tryz.func42, c42⟩
  · cases h; exact ⟨_, Tryz.func43, c43⟩
  · cases h; exact ⟨_, Tryz.func44, c44⟩
  · cases h; exact ⟨_, Tryz.func45, c45⟩
  · cases h; exact ⟨_, Tryz.func46, c46⟩
  · cases h; exact ⟨_, Tryz.func47, c47⟩
  · cases h; exact ⟨_, Tryz.func48, c48⟩
  · cases h; exact ⟨_, Tryz.func49, c49⟩
  · cases h; exact ⟨_, Tryz.func50, c50⟩
  · cases h; exact ⟨_, Tryz.func51, c51⟩
  · cases h; exact ⟨_, Tryz.func52, c52⟩
  · cases h; exact ⟨_, Tryz.func53, c53⟩
  · cases h; exact ⟨_, Tryz.func54, c54⟩
  · cases h; exact ⟨_, Tryz.func55, c55⟩
  · cases h; exact ⟨_, Tryz.func56, c56⟩
  · cases h; exact ⟨_, Tryz.func57, c57⟩
  · cases h; exact ⟨_, Tryz.func58, c58⟩
  · cases h; exact ⟨_, Tryz.func59, c59⟩
  · cases h; exact ⟨_, Tryz.func60, c60⟩
  · cases h; exact ⟨_, Tryz.func61, c61⟩
  · cases h; exact ⟨_, Tryz.func62, c62⟩
  · cases h; exact ⟨_, Tryz.func63, c63⟩
  · cases h; exact ⟨_, Tryz.func64, c64⟩
  · cases h; exact ⟨_, Tryz.func65, c65⟩
  · cases h; exact ⟨_, Tryz.func66, c66⟩
  · cases h; exact ⟨_, Tryz.func67, c67⟩
  · cases h; exact ⟨_, Tryz.func68, c68⟩
  · cases h; exact ⟨_, Tryz.func69, c69⟩
  · cases h; exact ⟨_, Tryz.func70, c70⟩
  · cases h; exact ⟨_, Tryz.func71, c71⟩
  · cases h; exact ⟨_, Tryz.func72, c72⟩
  · cases h; exact ⟨_, Tryz.func73, c73⟩
  · cases h; exact ⟨_, Tryz.func74, c74⟩
  · cases h; exact ⟨_, Tryz.func75, c75⟩
  · cases h; exact ⟨_, Tryz.func76, c76⟩
  · cases h; exact ⟨_, Tryz.func77, c77⟩
  · cases h; exact ⟨_, Tryz.func78, c78⟩
  · cases h; exact ⟨_, Tryz.func79, c79⟩
  · cases h; exact ⟨_, Tryz.func80, c80⟩
  · cases h; exact ⟨_, Tryz.func81, c81⟩
  · cases h; exact ⟨_, Tryz.func82, c82⟩
  · cases h; exact ⟨_, Tryz.func83, c83⟩
  · cases h; exact ⟨_, Tryz.func84, c84⟩
  · cases h; exact ⟨_, Tryz.func85, c85⟩
  · cases h; exact ⟨_, Tryz.func86, c86⟩
  · cases h; exact ⟨_, Tryz.func87, c87⟩
  · cases h; exact ⟨_, Tryz.func88, c88⟩
  · cases h; exact ⟨_, Tryz.func89, c89⟩
  · cases h; exact ⟨_, Tryz.func90, c90⟩
  · cases h; exact ⟨_, Tryz.func91, c91⟩
  · cases h; exact ⟨_, Tryz.func92, c92⟩
  · cases h; exact ⟨_, Tryz.func93, c93⟩
  · cases h; exact ⟨_, Tryz.func94, c94⟩
  · cases h; exact ⟨_, Tryz.func95, c95⟩
  · cases h; exact ⟨_, Tryz.func96, c96⟩
  · cases h; exact ⟨_, Tryz.func97, c97⟩
  · cases h; exact ⟨_, Tryz.func98, c98⟩
  · cases h; exact ⟨_, Tryz.func99, c99⟩
  · cases h; exact ⟨_, Tryz.func100, c100⟩
  · cases h; exact ⟨_, Tryz.func101, c101⟩
  · cases h; exact ⟨_, Tryz.func102, c102⟩
  · cases h; exact ⟨_, Tryz.func103, c103⟩
  · cases h; exact ⟨_, Tryz.func112, c112⟩
  · cases h
def tblA (f : Nat) : Option IFun := if f = 5 then some ir5 else if f = 38 then some ir38 else tbl f
end Go.Ax.Ir
end
