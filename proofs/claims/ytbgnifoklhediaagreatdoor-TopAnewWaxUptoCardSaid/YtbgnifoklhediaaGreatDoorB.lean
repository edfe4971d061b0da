import Derived.Test.YtbgnifoklhediaaGreatDoorA2
import Derived.Test.YtbgnifoklhediaaGreatDoorChecked
import Derived.Walk
set_option linter.unusedSectionVars false
set_option linter.unusedVariables false
set_option linter.unusedSimpArgs false
section
namespace Go.Ax
instance : Globs := ⟨[0, 1]⟩
end Go.Ax
namespace Go.Ax.Ir
abbrev oz (d : Nat) (o : IOp) : IOper := ⟨some d, o, none⟩
abbrev og (d : Nat) (o : IOp) (t : Nat) (b : Bool) : IOper := ⟨some d, o, some (t, b)⟩
abbrev dz (o : IOper) : DOper := ⟨o, false, [], []⟩
open Go.Proofs
set_option maxRecDepth 100000
def ir2 : IFun := ⟨1, (.region [oz 0 (.call (.c (.func 1 [] [])) [])]), []⟩
theorem c2 : compFun Tryz.prog Tryz.f2 = some ir2 := by kernel_rfl
def ir3 : IFun := ⟨53, (.seq (.region [oz 1 (.box (.t 0)),
 oz 2 (.mv (.c (.bool false)))])
 (.seq (.region [oz 3 (.alloc (.agg [.nilslice, .nilslice])),
 oz 4 (.alloc (.agg [.nilslice, .nilslice]))])
 (.seq (.region [oz 6 (.ld true 11 (.t 1)),
 oz 7 (.call (.c (.func 4 [] [])) [.t 6, .t 3])])
 (.seq (.region [oz 8 (.mkfn 6 [] [.t 1]),
 oz 9 (.call (.c (.func 5 [] [])) [.t 8]),
 oz 10 (.mv (.t 9)),
 og 11 (.mkfn 11 [] [.t 1]) 10 true,
 og 12 (.call (.c (.func 5 [] [])) [.t 11]) 10 true,
 oz 13 (.pick (.t 10) (.t 12) (.c (.bool false))),
 oz 14 (.mv (.t 13)),
 og 15 (.mkfn 14 [] [.t 1]) 14 true,
 og 16 (.call (.c (.func 5 [] [])) [.t 15]) 14 true,
 oz 17 (.pick (.t 14) (.t 16) (.c (.bool false))),
 oz 18 (.mv (.t 17)),
 og 19 (.mkfn 16 [] [.t 1]) 18 true,
 og 20 (.call (.c (.func 5 [] [])) [.t 19]) 18 true,
 oz 21 (.pick (.t 18) (.t 20) (.c (.bool false))),
 oz 22 (.mv (.t 21)),
 og 23 (.mkfn 18 [] [.t 1]) 22 true,
 og 24 (.call (.c (.func 5 [] [])) [.t 23]) 22 true,
 oz 25 (.pick (.t 22) (.t 24) (.c (.bool false))),
 oz 26 (.mv (.t 25)),
 og 27 (.mkfn 23 [] [.t 1]) 26 true,
 og 28 (.call (.c (.func 5 [] [])) [.t 27]) 26 true,
 oz 29 (.pick (.t 26) (.t 28) (.c (.bool false))),
 oz 30 (.mv (.t 29)),
 og 31 (.mkfn 28 [] [.t 1]) 30 true,
 og 32 (.call (.c (.func 5 [] [])) [.t 31]) 30 true,
 oz 33 (.pick (.t 30) (.t 32) (.c (.bool false))),
 oz 34 (.mv (.t 33)),
 og 35 (.mkfn 31 [] [.t 1]) 34 true,
 og 36 (.call (.c (.func 5 [] [])) [.t 35]) 34 true,
 oz 37 (.pick (.t 34) (.t 36) (.c (.bool false))),
 oz 38 (.mv (.t 37)),
 og 39 (.mkfn 33 [] [.t 1]) 38 true,
 og 40 (.call (.c (.func 5 [] [])) [.t 39]) 38 true,
 oz 41 (.pick (.t 38) (.t 40) (.c (.bool false))),
 oz 5 (.mv (.t 41))])
 (.seq (.region [oz 42 (.ld true 11 (.t 1)),
 oz 43 (.call (.c (.func 4 [] [])) [.t 42, .t 4])])
 (.seq (.region [oz 44 (.mv (.t 5)),
 oz 45 (.mv (.t 44)),
 og 46 (.ld true 2 (.t 3)) 45 true,
 og 47 (.ld true 2 (.t 4)) 45 true,
 og 48 (.call (.c (.func 35 [] [])) [.t 46, .t 47]) 45 true,
 oz 49 (.pick (.t 45) (.t 48) (.c (.bool false))),
 oz 50 (.mv (.t 49)),
 og 51 (.call (.c (.func 36 [] [])) []) 50 true,
 oz 52 (.pick (.t 50) (.t 51) (.c (.bool false))),
 oz 2 (.mv (.t 52))])
 .ret)))))), [.tmp 2]⟩
theorem c3 : compFun Tryz.prog Tryz.f3 = some ir3 := by kernel_rfl
def ir4 : IFun := ⟨20, (.seq (.region [oz 2 (.box (.t 0))])
 (.seq (.region [oz 4 (.mv (.t 1)),
 oz 5 (.fa (.t 2) 0),
 oz 6 (.ld true 6 (.t 5)),
 oz 7 (.call (.c (.func 37 [] [])) [.t 4, .t 6])])
 (.seq (.region [oz 8 (.mv (.t 1)),
 oz 9 (.fa (.t 2) 6),
 oz 10 (.ld false 1 (.t 9)),
 oz 11 (.call (.c (.func 8 [] [])) [.t 8, .t 10])])
 (.seq (.region [oz 12 (.mv (.t 1)),
 oz 13 (.fa (.t 2) 7),
 oz 14 (.ld false 1 (.t 13)),
 oz 15 (.call (.c (.func 20 [] [])) [.t 12, .t 14])])
 (.region [oz 16 (.mv (.t 1)),
 oz 17 (.fa (.t 2) 8),
 oz 18 (.ld true 3 (.t 17)),
 oz 19 (.call (.c (.func 13 [] [])) [.t 16, .t 18])]))))), []⟩
theorem c4 : compFun Tryz.prog Tryz.f4 = some ir4 := by kernel_rfl
def ir5 : IFun := ⟨15, (.seq (.region [oz 2 (.mv (.c (.bool false)))])
 (.seq (.region [oz 3 (.alloc (.agg [.nilslice, .nilslice])),
 oz 4 (.alloc (.agg [.nilslice, .nilslice]))])
 (.seq (.region [oz 6 (.mv (.t 0)),
 oz 7 (.call (.t 6) [.t 3]),
 oz 5 (.mv (.t 7))])
 (.seq (.region [oz 8 (.mv (.t 5)),
 oz 9 (.call (.t 8) [])])
 (.seq (.region [oz 10 (.mv (.t 0)),
 oz 11 (.call (.t 10) [.t 4])])
 (.seq (.region [oz 12 (.ld true 2 (.t 3)),
 oz 13 (.ld true 2 (.t 4)),
 oz 14 (.call (.c (.func 35 [] [])) [.t 12, .t 13]),
 oz 2 (.mv (.t 14))])
 .ret)))))), [.tmp 2]⟩
theorem c5 : compFun Tryz.prog Tryz.f5 = some ir5 := by kernel_rfl
def ir6 : IFun := ⟨23, (.seq (.region [oz 3 (.mv (.c .nilfunc))])
 (.seq (.region [oz 8 (.fa (.t 1) 0),
 oz 9 (.ld true 6 (.t 8)),
 oz 10 (.call (.c (.func 7 [] [])) [.t 9]),
 oz 7 (.mv (.t 10)),
 oz 11 (.ext (.t 7) 0),
 oz 12 (.ext (.t 7) 1),
 oz 13 (.ext (.t 7) 2),
 oz 4 (.mv (.t 11)),
 oz 5 (.mv (.t 12)),
 oz 6 (.mv (.t 13))])
 (.seq (.region [oz 14 (.mv (.t 0)),
 oz 15 (.mv (.t 4)),
 oz 16 (.call (.c (.func 8 [] [])) [.t 14, .t 15])])
 (.seq (.region [oz 17 (.mv (.t 0)),
 oz 18 (.mv (.t 5)),
 oz 19 (.call (.c (.func 8 [] [])) [.t 17, .t 18])])
 (.seq (.region [oz 20 (.mv (.t 0)),
 oz 21 (.mv (.t 6)),
 oz 22 (.call (.c (.func 9 [] [])) [.t 20, .t 21])])
 (.seq (.region [oz 3 (.mv (.c (.func 10 [] [])))])
 .ret)))))), [.tmp 3]⟩
theorem c6 : compFun Tryz.prog Tryz.f6 = some ir6 := by kernel_rfl
def ir7 : IFun := ⟨48, (.seq (.region [oz 1 (.box (.t 0)),
 oz 2 (.mv (.c (.int .i64 0))),
 oz 3 (.mv (.c (.int .i64 0))),
 oz 4 (.mv (.c (.int .i64 0)))])
 (.seq (.block 0
 (.seq (.region [oz 6 (.fa (.t 1) 0),
 oz 7 (.slca 3 1 (.t 6) none none none),
 oz 8 (.call (.c (.func 38 [] [])) [(.c (.int .i64 0)), (.c (.int .i64 40)), .t 7]),
 oz 9 (.mv (.t 8)),
 og 10 (.fa (.t 1) 3) 9 false,
 og 11 (.ld false 1 (.t 10)) 9 false,
 og 12 (.bldS 1 1 [(.int .i64 0)] [(0, 1, (.t 11))]) 9 false,
 og 13 (.call (.c (.func 38 [] [])) [(.c (.int .i64 1)), (.c (.int .i64 364)), .t 12]) 9 false,
 oz 14 (.pick (.t 9) (.c (.bool true)) (.t 13)),
 oz 5 (.mv (.t 14))])
 (.cond (.t 5)
 (.seq (.region [oz 2 (.mv (.c (.int .i64 1))),
 oz 3 (.mv (.c (.int .i64 0))),
 oz 4 (.mv (.c (.int .i64 7)))])
 .ret)
 (.seq (.region [oz 16 (.fa (.t 1) 4),
 oz 17 (.ld false 1 (.t 16)),
 oz 18 (.len false (.t 17)),
 oz 19 (.bin .gtr (.t 18) (.c (.int .i64 6))),
 oz 15 (.mv (.t 19))])
 (.cond (.t 15)
 (.seq (.region [oz 2 (.mv (.c (.int .i64 2))),
 oz 3 (.mv (.c (.int .i64 0))),
 oz 4 (.mv (.c (.int .i64 3)))])
 .ret)
 .skip)))))
 (.seq (.region [oz 21 (.fa (.t 1) 4),
 oz 22 (.ld false 1 (.t 21)),
 oz 23 (.mkfn 40 [] [.t 1]),
 oz 24 (.call (.c (.func 39 [] [])) [.t 22, .t 23]),
 oz 20 (.mv (.t 24)),
 oz 25 (.ext (.t 20) 0),
 oz 26 (.ext (.t 20) 1),
 oz 3 (.mv (.t 25)),
 oz 4 (.mv (.t 26))])
 (.seq (.block 1
 (.seq (.region [oz 28 (.mv (.t 4)),
 oz 29 (.bin .neq (.t 28) (.c (.int .i64 0))),
 oz 27 (.mv (.t 29))])
 (.cond (.t 27)
 (.seq (.region [oz 30 (.mv (.t 3)),
 oz 31 (.mv (.t 4)),
 oz 2 (.mv (.c (.int .i64 2))),
 oz 3 (.mv (.t 30)),
 oz 4 (.mv (.t 31))])
 .ret)
 (.seq (.region [oz 33 (.fa (.t 1) 5),
 oz 34 (.ld false 1 (.t 33)),
 oz 35 (.len false (.t 34)),
 oz 36 (.bin .gtr (.t 35) (.c (.int .i64 3))),
 oz 32 (.mv (.t 36))])
 (.cond (.t 32)
 (.seq (.region [oz 2 (.mv (.c (.int .i64 3))),
 oz 3 (.mv (.c (.int .i64 0))),
 oz 4 (.mv (.c (.int .i64 3)))])
 .ret)
 .skip)))))
 (.seq (.region [oz 38 (.fa (.t 1) 5),
 oz 39 (.ld false 1 (.t 38)),
 oz 40 (.mkfn 45 [] [.t 1]),
 oz 41 (.call (.c (.func 44 [] [])) [.t 39, .t 40]),
 oz 37 (.mv (.t 41)),
 oz 42 (.ext (.t 37) 0),
 oz 43 (.ext (.t 37) 1),
 oz 3 (.mv (.t 42)),
 oz 4 (.mv (.t 43))])
 (.seq (.seq (.region [oz 44 (.mv (.t 4)),
 oz 45 (.bin .neq (.t 44) (.c (.int .i64 0)))])
 (.cond (.t 45)
 (.seq (.region [oz 46 (.mv (.t 3)),
 oz 47 (.mv (.t 4)),
 oz 2 (.mv (.c (.int .i64 3))),
 oz 3 (.mv (.t 46)),
 oz 4 (.mv (.t 47))])
 .ret)
 .skip))
 (.seq (.region [oz 2 (.mv (.c (.int .i64 0))),
 oz 3 (.mv (.c (.int .i64 0))),
 oz 4 (.mv (.c (.int .i64 0)))])
 .ret))))))), [.tmp 2, .tmp 3, .tmp 4]⟩
theorem c7 : compFun Tryz.prog Tryz.f7 = some ir7 := by kernel_rfl
def ir8 : IFun := ⟨14, (.region [oz 4 (.mv (.t 0)),
 oz 5 (.mv (.t 0)),
 oz 6 (.nilck (.t 5)),
 oz 7 (.fa (.t 6) 0),
 oz 8 (.ld false 1 (.t 7)),
 oz 9 (.mv (.t 1)),
 oz 10 (.bldS 1 1 [(.int .i64 0)] [(0, 1, (.t 9))]),
 oz 11 (.app 1 8 (.t 8) (.t 10)),
 oz 12 (.nilck (.t 4)),
 oz 13 (.fa (.t 12) 0),
 ⟨none, .st 1 (.t 13) (.t 11), none⟩]), []⟩
theorem c8 : compFun Tryz.prog Tryz.f8 = some ir8 := by kernel_rfl
def ir9 : IFun := ⟨14, (.region [oz 4 (.mv (.t 0)),
 oz 5 (.mv (.t 0)),
 oz 6 (.nilck (.t 5)),
 oz 7 (.fa (.t 6) 0),
 oz 8 (.ld false 1 (.t 7)),
 oz 9 (.mv (.t 1)),
 oz 10 (.bldS 1 1 [(.int .i64 0)] [(0, 1, (.t 9))]),
 oz 11 (.app 1 8 (.t 8) (.t 10)),
 oz 12 (.nilck (.t 4)),
 oz 13 (.fa (.t 12) 0),
 ⟨none, .st 1 (.t 13) (.t 11), none⟩]), []⟩
theorem c9 : compFun Tryz.prog Tryz.f9 = some ir9 := by kernel_rfl
def ir10 : IFun := ⟨0, .skip, []⟩
theorem c10 : compFun Tryz.prog Tryz.f10 = some ir10 := by kernel_rfl
def ir11 : IFun := ⟨20, (.seq (.region [oz 3 (.mv (.c .nilfunc))])
 (.seq (.region [oz 7 (.fa (.t 1) 0),
 oz 8 (.ld true 6 (.t 7)),
 oz 9 (.fa (.t 1) 6),
 oz 10 (.ld false 1 (.t 9)),
 oz 11 (.call (.c (.func 12 [] [])) [.t 8, .t 10]),
 oz 6 (.mv (.t 11)),
 oz 12 (.ext (.t 6) 0),
 oz 13 (.ext (.t 6) 1),
 oz 4 (.alloc (.agg [(.int .i64 0), (.int .i64 0), (.int .i64 0)])),
 ⟨none, .st 3 (.t 4) (.t 12), none⟩,
 oz 5 (.mv (.t 13))])
 (.seq (.region [oz 14 (.mv (.t 0)),
 oz 15 (.ld true 3 (.t 4)),
 oz 16 (.call (.c (.func 13 [] [])) [.t 14, .t 15])])
 (.seq (.region [oz 17 (.mv (.t 0)),
 oz 18 (.mv (.t 5)),
 oz 19 (.call (.c (.func 9 [] [])) [.t 17, .t 18])])
 (.seq (.region [oz 3 (.mv (.c (.func 10 [] [])))])
 .ret))))), [.tmp 3]⟩
theorem c11 : compFun Tryz.prog Tryz.f11 = some ir11 := by kernel_rfl
def ir12 : IFun := ⟨33, (.seq (.region [oz 2 (.box (.t 0)),
 oz 4 (.alloc (.agg [(.int .i64 0), (.int .i64 0), (.int .i64 0)])),
 oz 5 (.mv (.c (.int .i64 0)))])
 (.seq (.region [oz 9 (.ld true 6 (.t 2)),
 oz 10 (.call (.c (.func 48 [] [])) [.t 9, (.c (.int .i64 0))]),
 oz 8 (.mv (.t 10)),
 oz 11 (.ext (.t 8) 0),
 oz 12 (.ext (.t 8) 1),
 oz 6 (.mv (.t 11)),
 oz 7 (.mv (.t 12))])
 (.seq (.block 0
 (.seq (.region [oz 14 (.mv (.t 7)),
 oz 15 (.bin .neq (.t 14) (.c (.int .i64 0))),
 oz 13 (.mv (.t 15))])
 (.cond (.t 13)
 (.seq (.region [oz 16 (.bld [(.int .i64 0), (.int .i64 0), (.int .i64 0)] []),
 oz 17 (.mv (.t 7)),
 ⟨none, .st 3 (.t 4) (.t 16), none⟩,
 oz 5 (.mv (.t 17))])
 .ret)
 (.seq (.region [oz 19 (.fa (.t 2) 4),
 oz 20 (.ld false 1 (.t 19)),
 oz 21 (.len false (.t 20)),
 oz 22 (.bin .sub (.t 21) (.c (.int .i64 1))),
 oz 23 (.mv (.t 1)),
 oz 24 (.bldS 1 1 [(.int .i64 0)] [(0, 1, (.t 23))]),
 oz 25 (.call (.c (.func 38 [] [])) [(.c (.int .i64 0)), .t 22, .t 24]),
 oz 18 (.mv (.t 25))])
 (.cond (.t 18)
 (.seq (.region [oz 26 (.bld [(.int .i64 0), (.int .i64 0), (.int .i64 0)] []),
 ⟨none, .st 3 (.t 4) (.t 26), none⟩,
 oz 5 (.mv (.c (.int .i64 4)))])
 .ret)
 .skip)))))
 (.seq (.region [oz 27 (.mv (.t 6)),
 oz 28 (.mv (.t 1)),
 oz 29 (.nilck (.t 27)),
 oz 30 (.fa (.t 29) 7),
 oz 31 (.iaa 6 3 (.t 30) (.t 28)),
 oz 32 (.ld true 3 (.t 31)),
 ⟨none, .st 3 (.t 4) (.t 32), none⟩,
 oz 5 (.mv (.c (.int .i64 0)))])
 .ret)))), [.cell 4 true 3, .tmp 5]⟩
theorem c12 : compFun Tryz.prog Tryz.f12 = some ir12 := by kernel_rfl
def ir13 : IFun := ⟨7, (.seq (.region [oz 3 (.box (.t 1))])
 (.region [oz 4 (.mv (.t 0)),
 oz 5 (.slca 3 1 (.t 3) none none none),
 oz 6 (.call (.c (.func 49 [] [])) [.t 4, .t 5, (.c (.func 8 [] []))])])), []⟩
theorem c13 : compFun Tryz.prog Tryz.f13 = some ir13 := by kernel_rfl
def ir14 : IFun := ⟨22, (.seq (.region [oz 3 (.mv (.c .nilfunc))])
 (.seq (.region [oz 7 (.fa (.t 1) 0),
 oz 8 (.ld true 6 (.t 7)),
 oz 9 (.fa (.t 1) 7),
 oz 10 (.ld false 1 (.t 9)),
 oz 11 (.fa (.t 1) 8),
 oz 12 (.ld true 3 (.t 11)),
 oz 13 (.call (.c (.func 15 [] [])) [.t 8, .t 10, .t 12]),
 oz 6 (.mv (.t 13)),
 oz 14 (.ext (.t 6) 0),
 oz 15 (.ext (.t 6) 1),
 oz 4 (.alloc (.agg [(.int .i64 0), (.int .i64 0), (.int .i64 0)])),
 ⟨none, .st 3 (.t 4) (.t 14), none⟩,
 oz 5 (.mv (.t 15))])
 (.seq (.region [oz 16 (.mv (.t 0)),
 oz 17 (.ld true 3 (.t 4)),
 oz 18 (.call (.c (.func 13 [] [])) [.t 16, .t 17])])
 (.seq (.region [oz 19 (.mv (.t 0)),
 oz 20 (.mv (.t 5)),
 oz 21 (.call (.c (.func 9 [] [])) [.t 19, .t 20])])
 (.seq (.region [oz 3 (.mv (.c (.func 10 [] [])))])
 .ret))))), [.tmp 3]⟩
theorem c14 : compFun Tryz.prog Tryz.f14 = some ir14 := by kernel_rfl
def ir15 : IFun := ⟨21, (.seq (.region [oz 3 (.box (.t 0)),
 oz 5 (.box (.t 2)),
 oz 6 (.alloc (.agg [(.int .i64 0), (.int .i64 0), (.int .i64 0)])),
 oz 7 (.mv (.c (.int .i64 0)))])
 (.seq (.region [oz 12 (.ld true 6 (.t 3)),
 oz 13 (.mv (.t 1)),
 oz 14 (.ld true 3 (.t 5)),
 oz 15 (.call (.c (.func 50 [] [])) [.t 12, .t 13, .t 14]),
 oz 11 (.mv (.t 15)),
 oz 16 (.ext (.t 11) 0),
 oz 17 (.ext (.t 11) 1),
 oz 18 (.ext (.t 11) 2),
 oz 9 (.alloc (.agg [(.int .i64 0), (.int .i64 0), (.int .i64 0)])),
 oz 8 (.mv (.t 16)),
 ⟨none, .st 3 (.t 9) (.t 17), none⟩,
 oz 10 (.mv (.t 18))])
 (.seq (.region [oz 19 (.ld true 3 (.t 9)),
 oz 20 (.mv (.t 10)),
 ⟨none, .st 3 (.t 6) (.t 19), none⟩,
 oz 7 (.mv (.t 20))])
 .ret))), [.cell 6 true 3, .tmp 7]⟩
theorem c15 : compFun Tryz.prog Tryz.f15 = some ir15 := by kernel_rfl
def ir16 : IFun := ⟨22, (.seq (.region [oz 3 (.mv (.c .nilfunc))])
 (.seq (.region [oz 7 (.fa (.t 1) 0),
 oz 8 (.ld true 6 (.t 7)),
 oz 9 (.fa (.t 1) 7),
 oz 10 (.ld false 1 (.t 9)),
 oz 11 (.fa (.t 1) 8),
 oz 12 (.ld true 3 (.t 11)),
 oz 13 (.call (.c (.func 17 [] [])) [.t 8, .t 10, .t 12]),
 oz 6 (.mv (.t 13)),
 oz 14 (.ext (.t 6) 0),
 oz 15 (.ext (.t 6) 1),
 oz 4 (.mv (.t 14)),
 oz 5 (.mv (.t 15))])
 (.seq (.region [oz 16 (.mv (.t 0)),
 oz 17 (.mv (.t 4)),
 oz 18 (.call (.c (.func 8 [] [])) [.t 16, .t 17])])
 (.seq (.region [oz 19 (.mv (.t 0)),
 oz 20 (.mv (.t 5)),
 oz 21 (.call (.c (.func 9 [] [])) [.t 19, .t 20])])
 (.seq (.region [oz 3 (.mv (.c (.func 10 [] [])))])
 .ret))))), [.tmp 3]⟩
theorem c16 : compFun Tryz.prog Tryz.f16 = some ir16 := by kernel_rfl
def ir17 : IFun := ⟨46, (.seq (.region [oz 3 (.box (.t 0)),
 oz 5 (.box (.t 2)),
 oz 6 (.mv (.c (.int .i64 0))),
 oz 7 (.mv (.c (.int .i64 0)))])
 (.seq (.region [oz 14 (.ld true 6 (.t 3)),
 oz 15 (.mv (.t 1)),
 oz 16 (.ld true 3 (.t 5)),
 oz 17 (.call (.c (.func 50 [] [])) [.t 14, .t 15, .t 16]),
 oz 13 (.mv (.t 17)),
 oz 18 (.ext (.t 13) 0),
 oz 19 (.ext (.t 13) 1),
 oz 20 (.ext (.t 13) 2),
 oz 9 (.alloc (.agg [(.int .i64 0), (.int .i64 0), (.int .i64 0)])),
 oz 8 (.mv (.t 18)),
 ⟨none, .st 3 (.t 9) (.t 19), none⟩,
 oz 10 (.mv (.t 20))])
 (.seq (.seq (.region [oz 21 (.mv (.t 10)),
 oz 22 (.bin .neq (.t 21) (.c (.int .i64 0)))])
 (.cond (.t 22)
 (.seq (.region [oz 23 (.mv (.t 10)),
 oz 6 (.mv (.c (.int .i64 0))),
 oz 7 (.mv (.t 23))])
 .ret)
 .skip))
 (.seq (.seq (.region [oz 24 (.fa (.t 3) 5),
 oz 25 (.ld false 1 (.t 24)),
 oz 26 (.len false (.t 25)),
 oz 27 (.mv (.c (.int .i64 0)))])
 (.block 0
 (.loop
 (.seq (.region [oz 28 (.bin .lss (.t 27) (.t 26))])
 (.seq (.cond (.t 28)
 .skip
 (.exit 0))
 (.seq (.block 1
 (.seq (.region [oz 29 (.mv (.t 27)),
 oz 30 (.ia 6 (.t 25) (.t 27)),
 oz 31 (.ld true 6 (.t 30)),
 oz 12 (.alloc (.agg [(.str []), (.int .i64 0), (.int .i64 0), (.int .i64 0), (.int .i64 0), (.int .i64 0)])),
 oz 11 (.mv (.t 29)),
 ⟨none, .st 6 (.t 12) (.t 31), none⟩])
 (.seq (.region [oz 32 (.mv (.t 8)),
 oz 33 (.ld true 3 (.t 9)),
 oz 34 (.ld true 6 (.t 12)),
 oz 35 (.call (.c (.func 51 [] [])) [.t 32, .t 33, .t 34]),
 oz 36 (.un .not (.t 35))])
 (.cond (.t 36)
 (.seq (.region [oz 37 (.mv (.t 11)),
 oz 6 (.mv (.t 37)),
 oz 7 (.mv (.c (.int .i64 0)))])
 .ret)
 .skip))))
 (.region [oz 38 (.bin .add (.t 27) (.c (.int .i64 1))),
 oz 27 (.mv (.t 38))])))))))
 (.seq (.seq (.draw [⟨oz 39 (.ld true 3 (.t 9)), false, [oz 39 (.ld true 3 (.t 9))], []⟩,
 ⟨oz 40 (.call (.c (.func 52 [] [])) [.t 39]), true, [], []⟩,
 dz (oz 41 (.mv (.t 8))),
 dz (oz 42 (.nilck (.t 41))),
 dz (oz 43 (.fa (.t 42) 6)),
 ⟨oz 44 (.ld false 1 (.t 43)), false, [oz 44 (.ld false 1 (.t 43))], [1]⟩,
 dz (oz 45 (.bin .lss (.t 40) (.t 44)))])
 (.cond (.t 45)
 (.seq (.region [oz 6 (.mv (.c (.int .i64 0))),
 oz 7 (.mv (.c (.int .i64 9)))])
 .ret)
 .skip))
 (.seq (.region [oz 6 (.mv (.c (.int .i64 0))),
 oz 7 (.mv (.c (.int .i64 4)))])
 .ret)))))), [.tmp 6, .tmp 7]⟩
theorem c17 : compFun Tryz.prog Tryz.f17 = some ir17 := by kernel_rfl
def ir18 : IFun := ⟨24, (.seq (.region [oz 3 (.mv (.c .nilfunc))])
 (.seq (.region [oz 8 (.fa (.t 1) 0),
 oz 9 (.ld true 6 (.t 8)),
 oz 10 (.call (.c (.func 19 [] [])) [.t 9]),
 oz 7 (.mv (.t 10)),
 oz 11 (.ext (.t 7) 0),
 oz 12 (.ext (.t 7) 1),
 oz 13 (.ext (.t 7) 2),
 oz 4 (.alloc .nilslice),
 oz 5 (.alloc (.agg [(.int .i64 0), (.int .i64 0), (.int .i64 0)])),
 ⟨none, .st 1 (.t 4) (.t 11), none⟩,
 ⟨none, .st 3 (.t 5) (.t 12), none⟩,
 oz 6 (.mv (.t 13))])
 (.seq (.region [oz 14 (.mv (.t 0)),
 oz 15 (.ld false 1 (.t 4)),
 oz 16 (.call (.c (.func 20 [] [])) [.t 14, .t 15])])
 (.seq (.region [oz 17 (.mv (.t 0)),
 oz 18 (.ld true 3 (.t 5)),
 oz 19 (.call (.c (.func 13 [] [])) [.t 17, .t 18])])
 (.seq (.region [oz 20 (.mv (.t 0)),
 oz 21 (.mv (.t 6)),
 oz 22 (.call (.c (.func 9 [] [])) [.t 20, .t 21])])
 (.seq (.region [oz 23 (.mkfn 21 [] [.t 4]),
 oz 3 (.mv (.t 23))])
 .ret)))))), [.tmp 3]⟩
theorem c18 : compFun Tryz.prog Tryz.f18 = some ir18 := by kernel_rfl
def ir19 : IFun := ⟨32, (.seq (.region [oz 1 (.box (.t 0)),
 oz 2 (.alloc .nilslice),
 oz 3 (.alloc (.agg [(.int .i64 0), (.int .i64 0), (.int .i64 0)])),
 oz 4 (.alloc (.int .i64 0))])
 (.seq (.region [oz 9 (.ld true 6 (.t 1)),
 oz 10 (.call (.c (.func 48 [] [])) [.t 9, (.c (.int .i64 0))]),
 oz 8 (.mv (.t 10)),
 oz 11 (.ext (.t 8) 0),
 oz 12 (.ext (.t 8) 1),
 oz 5 (.alloc .nilptr),
 ⟨none, .st 1 (.t 5) (.t 11), none⟩,
 ⟨none, .st 1 (.t 4) (.t 12), none⟩])
 (.seq (.seq (.region [oz 13 (.ld false 1 (.t 4)),
 oz 14 (.bin .neq (.t 13) (.c (.int .i64 0)))])
 (.cond (.t 14)
 (.seq (.draw [⟨oz 15 (.ld true 3 (.t 3)), false, [oz 15 (.ld true 3 (.t 3))], []⟩,
 ⟨oz 16 (.ld false 1 (.t 4)), false, [oz 16 (.ld false 1 (.t 4))], []⟩,
 ⟨⟨none, .st 1 (.t 2) (.c .nilslice), none⟩, true, [oz 15 (.ld true 3 (.t 3)), oz 16 (.ld false 1 (.t 4))], []⟩,
 ⟨⟨none, .st 3 (.t 3) (.t 15), none⟩, true, [oz 16 (.ld false 1 (.t 4))], []⟩,
 ⟨⟨none, .st 1 (.t 4) (.t 16), none⟩, true, [], []⟩])
 .ret)
 .skip))
 (.seq (.seq (.region [oz 17 (.ld false 1 (.t 5)),
 oz 18 (.call (.c (.func 53 [] [])) [.t 17])])
 (.block 0
 (.rangef (.t 18) [19]
 (.region [oz 6 (.mv (.t 19))])
 (.block 1
 (.seq (.draw [⟨oz 20 (.ld false 1 (.t 5)), false, [oz 20 (.ld false 1 (.t 5))], []⟩,
 ⟨oz 21 (.ld false 1 (.t 5)), false, [oz 21 (.ld false 1 (.t 5))], []⟩,
 dz (oz 22 (.bld [(.int .i64 0), (.int .i64 0), (.int .i64 0)] [])),
 dz (oz 23 (.mv (.t 6))),
 ⟨oz 24 (.call (.c (.func 55 [] [])) [.t 21, .t 22, .t 23]), true, [oz 20 (.ld false 1 (.t 5))], []⟩,
 ⟨oz 25 (.call (.c (.func 54 [] [])) [.t 20, .t 24]), true, [], []⟩,
 dz (oz 7 (.alloc (.agg [(.int .i64 0), (.int .i64 0), (.int .i64 0), (.bool false)]))),
 ⟨⟨none, .st 4 (.t 7) (.t 25), none⟩, true, [], []⟩])
 (.seq (.region [oz 26 (.fa (.t 7) 3),
 oz 27 (.ld false 1 (.t 26))])
 (.cond (.t 27)
 (.seq (.draw [dz (oz 28 (.mv (.t 6))),
 dz (oz 29 (.fa (.t 7) 0)),
 ⟨oz 30 (.ld true 3 (.t 29)), false, [oz 30 (.ld true 3 (.t 29))], []⟩,
 ⟨⟨none, .st 1 (.t 2) (.t 28), none⟩, true, [oz 30 (.ld true 3 (.t 29))], []⟩,
 ⟨⟨none, .st 3 (.t 3) (.t 30), none⟩, true, [], []⟩,
 ⟨⟨none, .st 1 (.t 4) (.c (.int .i64 0)), none⟩, true, [], []⟩])
 .ret)
 .skip)))))))
 (.seq (.draw [⟨oz 31 (.ld true 3 (.t 3)), false, [oz 31 (.ld true 3 (.t 3))], []⟩,
 ⟨⟨none, .st 1 (.t 2) (.c .nilslice), none⟩, true, [oz 31 (.ld true 3 (.t 3))], []⟩,
 ⟨⟨none, .st 3 (.t 3) (.t 31), none⟩, true, [], []⟩,
 ⟨⟨none, .st 1 (.t 4) (.c (.int .i64 9)), none⟩, true, [], []⟩])
 .ret))))), [.cell 2 false 1, .cell 3 true 3, .cell 4 false 1]⟩
theorem c19 : compFun Tryz.prog Tryz.f19 = some ir19 := by kernel_rfl
def ir20 : IFun := ⟨7, (.region [oz 4 (.mv (.t 0)),
 oz 5 (.mv (.t 1)),
 oz 6 (.call (.c (.func 49 [] [])) [.t 4, .t 5, (.c (.func 8 [] []))])]), []⟩
theorem c20 : compFun Tryz.prog Tryz.f20 = some ir20 := by kernel_rfl
def ir21 : IFun := ⟨2, (.region [oz 1 (.call (.c (.func 22 [] [])) [.t 0])]), []⟩
theorem c21 : compFun Tryz.prog Tryz.f21 = some ir21 := by kernel_rfl
def ir22 : IFun := ⟨6, (.region [oz 2 (.mv (.t 0)),
 oz 3 (.nilck (.t 2)),
 oz 4 (.ld false 1 (.t 3)),
 oz 5 (.call (.c (.func 56 [] [])) [.t 4, (.c (.func 57 [] []))])]), []⟩
theorem c22 : compFun Tryz.prog Tryz.f22 = some ir22 := by kernel_rfl
def ir23 : IFun := ⟨19, (.seq (.region [oz 3 (.mv (.c .nilfunc))])
 (.seq (.region [oz 7 (.fa (.t 1) 0),
 oz 8 (.ld true 6 (.t 7)),
 oz 9 (.call (.c (.func 24 [] [])) [.t 8]),
 oz 6 (.mv (.t 9)),
 oz 10 (.ext (.t 6) 0),
 oz 11 (.ext (.t 6) 1),
 oz 4 (.alloc .nilslice),
 ⟨none, .st 1 (.t 4) (.t 10), none⟩,
 oz 5 (.mv (.t 11))])
 (.seq (.region [oz 12 (.mv (.t 0)),
 oz 13 (.ld false 1 (.t 4)),
 oz 14 (.call (.c (.func 25 [] [])) [.t 12, .t 13])])
 (.seq (.region [oz 15 (.mv (.t 0)),
 oz 16 (.mv (.t 5)),
 oz 17 (.call (.c (.func 9 [] [])) [.t 15, .t 16])])
 (.seq (.region [oz 18 (.mkfn 26 [] [.t 4]),
 oz 3 (.mv (.t 18))])
 .ret))))), [.tmp 3]⟩
theorem c23 : compFun Tryz.prog Tryz.f23 = some ir23 := by kernel_rfl
def ir24 : IFun := ⟨35, (.seq (.region [oz 1 (.box (.t 0)),
 oz 2 (.alloc .nilslice),
 oz 3 (.mv (.c (.int .i64 0)))])
 (.seq (.region [oz 9 (.ld true 6 (.t 1)),
 oz 10 (.call (.c (.func 48 [] [])) [.t 9, (.c (.int .i64 0))]),
 oz 8 (.mv (.t 10)),
 oz 11 (.ext (.t 8) 0),
 oz 12 (.ext (.t 8) 1),
 oz 4 (.mv (.t 11)),
 oz 3 (.mv (.t 12))])
 (.seq (.seq (.region [oz 13 (.mv (.t 3)),
 oz 14 (.bin .neq (.t 13) (.c (.int .i64 0)))])
 (.cond (.t 14)
 (.seq (.region [oz 15 (.mv (.t 3)),
 ⟨none, .st 1 (.t 2) (.c .nilslice), none⟩,
 oz 3 (.mv (.t 15))])
 .ret)
 .skip))
 (.seq (.region [oz 16 (.mv (.t 4)),
 oz 17 (.mkfn 58 [.t 16] []),
 oz 5 (.alloc .nilfunc),
 ⟨none, .st 1 (.t 5) (.t 17), none⟩])
 (.seq (.seq (.region [oz 18 (.mv (.t 4)),
 oz 19 (.call (.c (.func 53 [] [])) [.t 18])])
 (.block 0
 (.rangef (.t 19) [20]
 (.region [oz 6 (.mv (.t 20))])
 (.block 1
 (.seq (.region [oz 21 (.ld false 1 (.t 5)),
 oz 22 (.mv (.t 6)),
 oz 23 (.call (.t 21) [.t 22])])
 (.cond (.t 23)
 (.seq (.region [oz 24 (.mv (.t 6)),
 oz 25 (.len false (.t 24)),
 oz 26 (.mksl 1 8 [(.int .i64 0)] (.t 25) (.t 25)),
 oz 7 (.mv (.t 26))])
 (.seq (.region [oz 27 (.mv (.t 7)),
 oz 28 (.mv (.t 6)),
 oz 29 (.cpy 1 (.t 27) (.t 28))])
 (.region [oz 30 (.ld false 1 (.t 2)),
 oz 31 (.mv (.t 7)),
 oz 32 (.bldS 1 1 [.nilslice] [(0, 1, (.t 31))]),
 oz 33 (.app 1 24 (.t 30) (.t 32)),
 ⟨none, .st 1 (.t 2) (.t 33), none⟩])))
 .skip))))))
 (.seq (.region [oz 34 (.ld false 1 (.t 2)),
 ⟨none, .st 1 (.t 2) (.t 34), none⟩,
 oz 3 (.mv (.c (.int .i64 0)))])
 .ret)))))), [.cell 2 false 1, .tmp 3]⟩
theorem c24 : compFun Tryz.prog Tryz.f24 = some ir24 := by kernel_rfl
def ir25 : IFun := ⟨7, (.region [oz 4 (.mv (.t 0)),
 oz 5 (.mv (.t 1)),
 oz 6 (.call (.c (.func 59 [] [])) [.t 4, .t 5, (.c (.func 20 [] []))])]), []⟩
theorem c25 : compFun Tryz.prog Tryz.f25 = some ir25 := by kernel_rfl
def ir26 : IFun := ⟨2, (.region [oz 1 (.call (.c (.func 27 [] [])) [.t 0])]), []⟩
theorem c26 : compFun Tryz.prog Tryz.f26 = some ir26 := by kernel_rfl
def ir27 : IFun := ⟨6, (.region [oz 2 (.mv (.t 0)),
 oz 3 (.nilck (.t 2)),
 oz 4 (.ld false 1 (.t 3)),
 oz 5 (.call (.c (.func 60 [] [])) [.t 4, (.c (.func 22 [] []))])]), []⟩
theorem c27 : compFun Tryz.prog Tryz.f27 = some ir27 := by kernel_rfl
def ir28 : IFun := ⟨24, (.seq (.region [oz 3 (.mv (.c .nilfunc))])
 (.seq (.region [oz 8 (.fa (.t 1) 0),
 oz 9 (.ld true 6 (.t 8)),
 oz 10 (.call (.c (.func 29 [] [])) [.t 9]),
 oz 7 (.mv (.t 10)),
 oz 11 (.ext (.t 7) 0),
 oz 12 (.ext (.t 7) 1),
 oz 13 (.ext (.t 7) 2),
 oz 4 (.alloc .nilslice),
 oz 5 (.alloc .nilslice),
 ⟨none, .st 1 (.t 4) (.t 11), none⟩,
 ⟨none, .st 1 (.t 5) (.t 12), none⟩,
 oz 6 (.mv (.t 13))])
 (.seq (.region [oz 14 (.mv (.t 0)),
 oz 15 (.ld false 1 (.t 4)),
 oz 16 (.call (.c (.func 20 [] [])) [.t 14, .t 15])])
 (.seq (.region [oz 17 (.mv (.t 0)),
 oz 18 (.ld false 1 (.t 5)),
 oz 19 (.call (.c (.func 20 [] [])) [.t 17, .t 18])])
 (.seq (.region [oz 20 (.mv (.t 0)),
 oz 21 (.mv (.t 6)),
 oz 22 (.call (.c (.func 9 [] [])) [.t 20, .t 21])])
 (.seq (.region [oz 23 (.mkfn 30 [] [.t 4, .t 5]),
 oz 3 (.mv (.t 23))])
 .ret)))))), [.tmp 3]⟩
theorem c28 : compFun Tryz.prog Tryz.f28 = some ir28 := by kernel_rfl
def ir29 : IFun := ⟨68, (.seq (.region [oz 1 (.box (.t 0)),
 oz 2 (.mv (.c .nilslice)),
 oz 3 (.mv (.c .nilslice)),
 oz 4 (.mv (.c (.int .i64 0)))])
 (.seq (.region [oz 12 (.ld true 6 (.t 1)),
 oz 13 (.call (.c (.func 24 [] [])) [.t 12]),
 oz 11 (.mv (.t 13)),
 oz 14 (.ext (.t 11) 0),
 oz 15 (.ext (.t 11) 1),
 oz 5 (.mv (.t 14)),
 oz 4 (.mv (.t 15))])
 (.seq (.block 0
 (.seq (.region [oz 17 (.mv (.t 4)),
 oz 18 (.bin .neq (.t 17) (.c (.int .i64 0))),
 oz 16 (.mv (.t 18))])
 (.cond (.t 16)
 (.seq (.region [oz 19 (.mv (.t 4)),
 oz 2 (.mv (.c .nilslice)),
 oz 3 (.mv (.c .nilslice)),
 oz 4 (.mv (.t 19))])
 .ret)
 (.seq (.region [oz 21 (.mv (.t 5)),
 oz 22 (.len false (.t 21)),
 oz 23 (.bin .eql (.t 22) (.c (.int .i64 0))),
 oz 20 (.mv (.t 23))])
 (.cond (.t 20)
 (.seq (.region [oz 2 (.mv (.c .nilslice)),
 oz 3 (.mv (.c .nilslice)),
 oz 4 (.mv (.c (.int .i64 9)))])
 .ret)
 .skip)))))
 (.seq (.seq (.region [oz 24 (.fa (.t 1) 4),
 oz 25 (.ld false 1 (.t 24)),
 oz 26 (.len false (.t 25)),
 oz 27 (.mv (.c (.int .i64 0)))])
 (.block 1
 (.loop
 (.seq (.region [oz 28 (.bin .lss (.t 27) (.t 26))])
 (.seq (.cond (.t 28)
 .skip
 (.exit 1))
 (.seq (.block 2
 (.seq (.region [oz 29 (.mv (.t 27)),
 oz 6 (.mv (.t 29))])
 (.seq (.region [oz 7 (.mv (.c (.int .i64 0))),
 oz 8 (.mv (.c (.int .i64 0)))])
 (.seq (.seq (.region [oz 30 (.mv (.t 5)),
 oz 31 (.len false (.t 30)),
 oz 32 (.mv (.c (.int .i64 0)))])
 (.block 3
 (.loop
 (.seq (.region [oz 33 (.bin .lss (.t 32) (.t 31))])
 (.seq (.cond (.t 33)
 .skip
 (.exit 3))
 (.seq (.block 4
 (.seq (.region [oz 34 (.ia 1 (.t 30) (.t 32)),
 oz 35 (.ld false 1 (.t 34)),
 oz 10 (.mv (.t 35))])
 (.seq (.region [oz 36 (.mv (.t 10)),
 oz 37 (.mv (.t 6)),
 oz 38 (.call (.c (.func 61 [] [])) [.t 36, .t 37])])
 (.cond (.t 38)
 (.seq (.region [oz 39 (.mv (.t 7)),
 oz 40 (.bin .add (.t 39) (.c (.int .i64 1))),
 oz 7 (.mv (.t 40))])
 (.seq (.region [oz 41 (.mv (.t 10)),
 oz 42 (.len false (.t 41)),
 oz 43 (.mv (.t 5)),
 oz 44 (.ia 1 (.t 43) (.c (.int .i64 0))),
 oz 45 (.ld false 1 (.t 44)),
 oz 46 (.len false (.t 45)),
 oz 47 (.bin .eql (.t 42) (.t 46))])
 (.cond (.t 47)
 (.region [oz 48 (.mv (.t 8)),
 oz 49 (.bin .add (.t 48) (.c (.int .i64 1))),
 oz 8 (.mv (.t 49))])
 .skip)))
 .skip))))
 (.region [oz 50 (.bin .add (.t 32) (.c (.int .i64 1))),
 oz 32 (.mv (.t 50))])))))))
 (.seq (.seq (.region [oz 51 (.mv (.t 7)),
 oz 52 (.mv (.t 5)),
 oz 53 (.len false (.t 52)),
 oz 54 (.bin .eql (.t 51) (.t 53))])
 (.cond (.t 54)
 (.region [oz 55 (.mv (.t 2)),
 oz 56 (.mv (.t 6)),
 oz 57 (.bldS 1 1 [(.int .i64 0)] [(0, 1, (.t 56))]),
 oz 58 (.app 1 8 (.t 55) (.t 57)),
 oz 2 (.mv (.t 58))])
 .skip))
 (.seq (.region [oz 59 (.mv (.t 8)),
 oz 60 (.bin .gtr (.t 59) (.c (.int .i64 0)))])
 (.cond (.t 60)
 (.region [oz 61 (.mv (.t 3)),
 oz 62 (.mv (.t 6)),
 oz 63 (.bldS 1 1 [(.int .i64 0)] [(0, 1, (.t 62))]),
 oz 64 (.app 1 8 (.t 61) (.t 63)),
 oz 3 (.mv (.t 64))])
 .skip)))))))
 (.region [oz 65 (.bin .add (.t 27) (.c (.int .i64 1))),
 oz 27 (.mv (.t 65))])))))))
 (.seq (.region [oz 66 (.mv (.t 2)),
 oz 67 (.mv (.t 3)),
 oz 2 (.mv (.t 66)),
 oz 3 (.mv (.t 67)),
 oz 4 (.mv (.c (.int .i64 0)))])
 .ret))))), [.tmp 2, .tmp 3, .tmp 4]⟩
theorem c29 : compFun Tryz.prog Tryz.f29 = some ir29 := by kernel_rfl
def ir30 : IFun := ⟨4, (.seq (.region [oz 2 (.call (.c (.func 22 [] [])) [.t 0])])
 (.region [oz 3 (.call (.c (.func 22 [] [])) [.t 1])])), []⟩
theorem c30 : compFun Tryz.prog Tryz.f30 = some ir30 := by kernel_rfl
def ir31 : IFun := ⟨23, (.seq (.region [oz 3 (.mv (.c .nilfunc))])
 (.seq (.region [oz 8 (.fa (.t 1) 0),
 oz 9 (.ld true 6 (.t 8)),
 oz 10 (.call (.c (.func 32 [] [])) [.t 9]),
 oz 7 (.mv (.t 10)),
 oz 11 (.ext (.t 7) 0),
 oz 12 (.ext (.t 7) 1),
 oz 13 (.ext (.t 7) 2),
 oz 4 (.mv (.t 11)),
 oz 5 (.mv (.t 12)),
 oz 6 (.mv (.t 13))])
 (.seq (.region [oz 14 (.mv (.t 0)),
 oz 15 (.mv (.t 4)),
 oz 16 (.call (.c (.func 8 [] [])) [.t 14, .t 15])])
 (.seq (.region [oz 17 (.mv (.t 0)),
 oz 18 (.mv (.t 5)),
 oz 19 (.call (.c (.func 8 [] [])) [.t 17, .t 18])])
 (.seq (.region [oz 20 (.mv (.t 0)),
 oz 21 (.mv (.t 6)),
 oz 22 (.call (.c (.func 9 [] [])) [.t 20, .t 21])])
 (.seq (.region [oz 3 (.mv (.c (.func 10 [] [])))])
 .ret)))))), [.tmp 3]⟩
theorem c31 : compFun Tryz.prog Tryz.f31 = some ir31 := by kernel_rfl
def ir32 : IFun := ⟨57, (.seq (.region [oz 1 (.box (.t 0)),
 oz 2 (.mv (.c (.int .i64 0))),
 oz 3 (.mv (.c (.int .i64 0))),
 oz 4 (.mv (.c (.int .i64 0)))])
 (.seq (.region [oz 9 (.ld true 6 (.t 1)),
 oz 10 (.call (.c (.func 48 [] [])) [.t 9, (.c (.int .i64 0))]),
 oz 8 (.mv (.t 10)),
 oz 11 (.ext (.t 8) 0),
 oz 12 (.ext (.t 8) 1),
 oz 5 (.mv (.t 11)),
 oz 4 (.mv (.t 12))])
 (.seq (.block 0
 (.seq (.region [oz 14 (.mv (.t 4)),
 oz 15 (.bin .neq (.t 14) (.c (.int .i64 0))),
 oz 13 (.mv (.t 15))])
 (.cond (.t 13)
 (.seq (.region [oz 16 (.mv (.t 4)),
 oz 2 (.mv (.c (.int .i64 0))),
 oz 3 (.mv (.c (.int .i64 0))),
 oz 4 (.mv (.t 16))])
 .ret)
 (.seq (.region [oz 18 (.mv (.t 5)),
 oz 19 (.call (.c (.func 58 [] [])) [.t 18, (.c .nilslice)]),
 oz 17 (.mv (.t 19))])
 (.cond (.t 17)
 (.seq (.region [oz 2 (.mv (.c (.int .i64 0))),
 oz 3 (.mv (.c (.int .i64 0))),
 oz 4 (.mv (.c (.int .i64 4)))])
 .ret)
 .skip)))))
 (.seq (.seq (.region [oz 20 (.mv (.c (.int .i64 0)))])
 (.block 1
 (.loop
 (.seq (.region [oz 21 (.bin .lss (.t 20) (.c (.int .i64 40)))])
 (.seq (.cond (.t 21)
 .skip
 (.exit 1))
 (.seq (.block 2
 (.seq (.region [oz 22 (.mv (.t 20)),
 oz 6 (.mv (.t 22))])
 (.seq (.region [oz 23 (.mv (.c (.int .i64 0)))])
 (.block 3
 (.loop
 (.seq (.region [oz 24 (.bin .lss (.t 23) (.c (.int .i64 3)))])
 (.seq (.cond (.t 24)
 .skip
 (.exit 3))
 (.seq (.block 4
 (.seq (.region [oz 25 (.mv (.t 23)),
 oz 7 (.mv (.t 25))])
 (.seq (.region [oz 26 (.mv (.t 5)),
 oz 27 (.fa (.t 1) 0),
 oz 28 (.ld true 3 (.t 27)),
 oz 29 (.nilck (.t 26)),
 oz 30 (.fa (.t 29) 0),
 oz 31 (.fa (.t 30) 0),
 ⟨none, .st 3 (.t 31) (.t 28), none⟩])
 (.seq (.draw [dz (oz 32 (.mv (.t 5))),
 dz (oz 33 (.mv (.t 7))),
 dz (oz 34 (.nilck (.t 32))),
 dz (oz 35 (.fa (.t 34) 0)),
 dz (oz 36 (.fa (.t 35) 0)),
 dz (oz 37 (.iaa 3 1 (.t 36) (.t 33))),
 ⟨oz 38 (.ld false 1 (.t 37)), false, [oz 38 (.ld false 1 (.t 37))], []⟩,
 dz (oz 39 (.mv (.t 6))),
 dz (oz 40 (.bin .add (.t 39) (.c (.int .i64 1)))),
 dz (oz 41 (.bin .add (.t 38) (.t 40))),
 dz (oz 42 (.nilck (.t 32))),
 dz (oz 43 (.fa (.t 42) 0)),
 dz (oz 44 (.fa (.t 43) 0)),
 dz (oz 45 (.iaa 3 1 (.t 44) (.t 33))),
 ⟨⟨none, .st 1 (.t 45) (.t 41), none⟩, true, [], []⟩])
 (.seq (.region [oz 46 (.mv (.t 5)),
 oz 47 (.nilck (.t 46)),
 oz 48 (.fa (.t 47) 26),
 oz 49 (.ld false 1 (.t 48)),
 ⟨none, .clr (.t 49), none⟩])
 (.seq (.region [oz 50 (.mv (.t 5)),
 oz 51 (.call (.c (.func 58 [] [])) [.t 50, (.c .nilslice)])])
 (.cond (.t 51)
 (.seq (.region [oz 52 (.mv (.t 7)),
 oz 53 (.mv (.t 6)),
 oz 54 (.bin .add (.t 53) (.c (.int .i64 1))),
 oz 2 (.mv (.t 52)),
 oz 3 (.mv (.t 54)),
 oz 4 (.mv (.c (.int .i64 0)))])
 .ret)
 .skip)))))))
 (.region [oz 55 (.bin .add (.t 23) (.c (.int .i64 1))),
 oz 23 (.mv (.t 55))])))))))))
 (.region [oz 56 (.bin .add (.t 20) (.c (.int .i64 1))),
 oz 20 (.mv (.t 56))])))))))
 (.seq (.region [oz 2 (.mv (.c (.int .i64 0))),
 oz 3 (.mv (.c (.int .i64 0))),
 oz 4 (.mv (.c (.int .i64 9)))])
 .ret))))), [.tmp 2, .tmp 3, .tmp 4]⟩
theorem c32 : compFun Tryz.prog Tryz.f32 = some ir32 := by kernel_rfl
def ir33 : IFun := ⟨18, (.seq (.region [oz 3 (.mv (.c .nilfunc))])
 (.seq (.region [oz 7 (.fa (.t 1) 0),
 oz 8 (.ld true 6 (.t 7)),
 oz 9 (.call (.c (.func 34 [] [])) [.t 8]),
 oz 6 (.mv (.t 9)),
 oz 10 (.ext (.t 6) 0),
 oz 11 (.ext (.t 6) 1),
 oz 4 (.mv (.t 10)),
 oz 5 (.mv (.t 11))])
 (.seq (.region [oz 12 (.mv (.t 0)),
 oz 13 (.mv (.t 4)),
 oz 14 (.call (.c (.func 8 [] [])) [.t 12, .t 13])])
 (.seq (.region [oz 15 (.mv (.t 0)),
 oz 16 (.mv (.t 5)),
 oz 17 (.call (.c (.func 9 [] [])) [.t 15, .t 16])])
 (.seq (.region [oz 3 (.mv (.c (.func 10 [] [])))])
 .ret))))), [.tmp 3]⟩
theorem c33 : compFun Tryz.prog Tryz.f33 = some ir33 := by kernel_rfl
def ir34 : IFun := ⟨46, (.seq (.region [oz 1 (.box (.t 0)),
 oz 2 (.mv (.c (.int .i64 0))),
 oz 3 (.mv (.c (.int .i64 0)))])
 (.seq (.region [oz 10 (.ld true 6 (.t 1)),
 oz 11 (.call (.c (.func 48 [] [])) [.t 10, (.c (.int .i64 0))]),
 oz 9 (.mv (.t 11)),
 oz 12 (.ext (.t 9) 0),
 oz 13 (.ext (.t 9) 1),
 oz 4 (.mv (.t 12)),
 oz 5 (.mv (.t 13))])
 (.seq (.block 0
 (.seq (.region [oz 15 (.mv (.t 5)),
 oz 16 (.bin .neq (.t 15) (.c (.int .i64 0))),
 oz 14 (.mv (.t 16))])
 (.cond (.t 14)
 (.seq (.region [oz 17 (.mv (.t 5)),
 oz 2 (.mv (.c (.int .i64 0))),
 oz 3 (.mv (.t 17))])
 .ret)
 (.seq (.region [oz 19 (.mv (.t 4)),
 oz 20 (.call (.c (.func 62 [] [])) [.t 19]),
 oz 21 (.un .not (.t 20)),
 oz 18 (.mv (.t 21))])
 (.cond (.t 18)
 (.seq (.region [oz 2 (.mv (.c (.int .i64 0))),
 oz 3 (.mv (.c (.int .i64 9)))])
 .ret)
 .skip)))))
 (.seq (.seq (.region [oz 6 (.mv (.c (.int .i64 1)))])
 (.block 1
 (.loop
 (.seq (.seq (.region [oz 22 (.mv (.t 6)),
 oz 23 (.bin .leq (.t 22) (.c (.int .i64 364)))])
 (.cond (.t 23)
 .skip
 (.exit 1)))
 (.seq (.block 2
 (.seq (.region [oz 27 (.ld true 6 (.t 1)),
 oz 28 (.mv (.t 6)),
 oz 29 (.call (.c (.func 48 [] [])) [.t 27, .t 28]),
 oz 26 (.mv (.t 29)),
 oz 30 (.ext (.t 26) 0),
 oz 31 (.ext (.t 26) 1),
 oz 7 (.mv (.t 30)),
 oz 8 (.mv (.t 31))])
 (.seq (.seq (.draw [dz (oz 32 (.mv (.t 7))),
 dz (oz 33 (.nilck (.t 32))),
 dz (oz 34 (.fa (.t 33) 7)),
 ⟨oz 35 (.ld true 18 (.t 34)), false, [oz 35 (.ld true 18 (.t 34))], []⟩,
 dz (oz 36 (.mv (.t 4))),
 dz (oz 37 (.nilck (.t 36))),
 dz (oz 38 (.fa (.t 37) 7)),
 ⟨oz 39 (.ld true 18 (.t 38)), false, [oz 39 (.ld true 18 (.t 38))], []⟩,
 dz (oz 40 (.eqv (.ag [.i, .i, .i, .i, .i, .i, .i, .i, .i, .i, .i, .i, .i, .i, .i, .i, .i, .i]) false (.t 35) (.t 39)))])
 (.cond (.t 40)
 (.exit 2)
 .skip))
 (.seq (.region [oz 41 (.mv (.t 7)),
 oz 4 (.mv (.t 41))])
 (.seq (.region [oz 42 (.mv (.t 4)),
 oz 43 (.call (.c (.func 62 [] [])) [.t 42]),
 oz 44 (.un .not (.t 43))])
 (.cond (.t 44)
 (.seq (.region [oz 45 (.mv (.t 6)),
 oz 2 (.mv (.t 45)),
 oz 3 (.mv (.c (.int .i64 0)))])
 .ret)
 .skip))))))
 (.region [oz 24 (.mv (.t 6)),
 oz 25 (.bin .add (.t 24) (.c (.int .i64 1))),
 oz 6 (.mv (.t 25))]))))))
 (.seq (.region [oz 2 (.mv (.c (.int .i64 0))),
 oz 3 (.mv (.c (.int .i64 4)))])
 .ret))))), [.tmp 2, .tmp 3]⟩
theorem c34 : compFun Tryz.prog Tryz.f34 = some ir34 := by kernel_rfl
def ir35 : IFun := ⟨59, (.seq (.region [oz 2 (.box (.t 0)),
 oz 3 (.box (.t 1)),
 oz 4 (.mv (.c (.bool false)))])
 (.seq (.seq (.region [oz 7 (.fa (.t 2) 0),
 oz 8 (.ld false 1 (.t 7)),
 oz 9 (.len false (.t 8)),
 oz 10 (.fa (.t 3) 0),
 oz 11 (.ld false 1 (.t 10)),
 oz 12 (.len false (.t 11)),
 oz 13 (.bin .neq (.t 9) (.t 12)),
 oz 14 (.mv (.t 13)),
 og 15 (.fa (.t 2) 1) 14 false,
 og 16 (.ld false 1 (.t 15)) 14 false,
 og 17 (.len false (.t 16)) 14 false,
 og 18 (.fa (.t 3) 1) 14 false,
 og 19 (.ld false 1 (.t 18)) 14 false,
 og 20 (.len false (.t 19)) 14 false,
 og 21 (.bin .neq (.t 17) (.t 20)) 14 false,
 oz 22 (.pick (.t 14) (.c (.bool true)) (.t 21))])
 (.cond (.t 22)
 (.seq (.region [oz 4 (.mv (.c (.bool false)))])
 .ret)
 .skip))
 (.seq (.seq (.region [oz 5 (.mv (.c (.int .i64 0)))])
 (.block 0
 (.loop
 (.seq (.seq (.region [oz 23 (.mv (.t 5)),
 oz 24 (.fa (.t 2) 0),
 oz 25 (.ld false 1 (.t 24)),
 oz 26 (.len false (.t 25)),
 oz 27 (.bin .lss (.t 23) (.t 26))])
 (.cond (.t 27)
 .skip
 (.exit 0)))
 (.seq (.block 1
 (.seq (.draw [dz (oz 30 (.fa (.t 2) 0)),
 ⟨oz 31 (.ld false 1 (.t 30)), false, [oz 31 (.ld false 1 (.t 30))], []⟩,
 dz (oz 32 (.mv (.t 5))),
 dz (oz 33 (.ia 1 (.t 31) (.t 32))),
 ⟨oz 34 (.ld false 1 (.t 33)), false, [oz 34 (.ld false 1 (.t 33))], []⟩,
 dz (oz 35 (.fa (.t 3) 0)),
 ⟨oz 36 (.ld false 1 (.t 35)), false, [oz 36 (.ld false 1 (.t 35))], []⟩,
 dz (oz 37 (.mv (.t 5))),
 dz (oz 38 (.ia 1 (.t 36) (.t 37))),
 ⟨oz 39 (.ld false 1 (.t 38)), false, [oz 39 (.ld false 1 (.t 38))], []⟩,
 dz (oz 40 (.bin .neq (.t 34) (.t 39)))])
 (.cond (.t 40)
 (.seq (.region [oz 4 (.mv (.c (.bool false)))])
 .ret)
 .skip)))
 (.region [oz 28 (.mv (.t 5)),
 oz 29 (.bin .add (.t 28) (.c (.int .i64 1))),
 oz 5 (.mv (.t 29))]))))))
 (.seq (.seq (.region [oz 6 (.mv (.c (.int .i64 0)))])
 (.block 2
 (.loop
 (.seq (.seq (.region [oz 41 (.mv (.t 6)),
 oz 42 (.fa (.t 2) 1),
 oz 43 (.ld false 1 (.t 42)),
 oz 44 (.len false (.t 43)),
 oz 45 (.bin .lss (.t 41) (.t 44))])
 (.cond (.t 45)
 .skip
 (.exit 2)))
 (.seq (.block 3
 (.seq (.draw [dz (oz 48 (.fa (.t 2) 1)),
 ⟨oz 49 (.ld false 1 (.t 48)), false, [oz 49 (.ld false 1 (.t 48))], []⟩,
 dz (oz 50 (.mv (.t 6))),
 dz (oz 51 (.ia 1 (.t 49) (.t 50))),
 ⟨oz 52 (.ld false 1 (.t 51)), false, [oz 52 (.ld false 1 (.t 51))], []⟩,
 dz (oz 53 (.fa (.t 3) 1)),
 ⟨oz 54 (.ld false 1 (.t 53)), false, [oz 54 (.ld false 1 (.t 53))], []⟩,
 dz (oz 55 (.mv (.t 6))),
 dz (oz 56 (.ia 1 (.t 54) (.t 55))),
 ⟨oz 57 (.ld false 1 (.t 56)), false, [oz 57 (.ld false 1 (.t 56))], []⟩,
 dz (oz 58 (.bin .neq (.t 52) (.t 57)))])
 (.cond (.t 58)
 (.seq (.region [oz 4 (.mv (.c (.bool false)))])
 .ret)
 .skip)))
 (.region [oz 46 (.mv (.t 6)),
 oz 47 (.bin .add (.t 46) (.c (.int .i64 1))),
 oz 6 (.mv (.t 47))]))))))
 (.seq (.region [oz 4 (.mv (.c (.bool true)))])
 .ret))))), [.tmp 4]⟩
theorem c35 : compFun Tryz.prog Tryz.f35 = some ir35 := by kernel_rfl
def ir36 : IFun := ⟨178, (.seq (.region [oz 0 (.mv (.c (.bool false)))])
 (.seq (.region [oz 25 (.call (.c (.func 63 [] [])) [(.c (.bool false))]),
 oz 1 (.alloc (.agg [(.int .i64 0), (.int .i64 0), (.int .i64 0), (.int .i64 0), .nilslice, .nilslice])),
 ⟨none, .st 6 (.t 1) (.t 25), none⟩])
 (.seq (.region [oz 27 (.ld true 6 (.t 1)),
 oz 28 (.call (.c (.func 12 [] [])) [.t 27, (.c (.int .i64 0))]),
 oz 26 (.mv (.t 28)),
 oz 29 (.ext (.t 26) 0),
 oz 30 (.ext (.t 26) 1),
 oz 2 (.alloc (.agg [(.int .i64 0), (.int .i64 0), (.int .i64 0)])),
 ⟨none, .st 3 (.t 2) (.t 29), none⟩,
 oz 3 (.mv (.t 30))])
 (.seq (.draw [⟨oz 32 (.ld true 6 (.t 1)), false, [oz 32 (.ld true 6 (.t 1))], []⟩,
 ⟨oz 34 (.call (.c (.func 64 [] [])) [(.c (.int .i64 5)), (.c (.int .i64 2)), (.c (.int .i64 1))]), true, [oz 32 (.ld true 6 (.t 1))], []⟩,
 dz (oz 33 (.bldS 1 1 [(.int .i64 0)] [(0, 1, (.c (.int .i64 0)))])),
 ⟨oz 35 (.call (.c (.func 15 [] [])) [.t 32, .t 33, .t 34]), true, [], []⟩,
 dz (oz 31 (.mv (.t 35))),
 dz (oz 36 (.ext (.t 31) 0)),
 dz (oz 37 (.ext (.t 31) 1)),
 dz (oz 4 (.alloc (.agg [(.int .i64 0), (.int .i64 0), (.int .i64 0)]))),
 ⟨⟨none, .st 3 (.t 4) (.t 36), none⟩, true, [], []⟩,
 dz (oz 5 (.mv (.t 37)))])
 (.seq (.draw [⟨oz 39 (.ld true 6 (.t 1)), false, [oz 39 (.ld true 6 (.t 1))], []⟩,
 ⟨oz 41 (.call (.c (.func 64 [] [])) [(.c (.int .i64 5)), (.c (.int .i64 2)), (.c (.int .i64 1))]), true, [oz 39 (.ld true 6 (.t 1))], []⟩,
 dz (oz 40 (.bldS 1 1 [(.int .i64 0)] [(0, 1, (.c (.int .i64 0)))])),
 ⟨oz 42 (.call (.c (.func 17 [] [])) [.t 39, .t 40, .t 41]), true, [], []⟩,
 dz (oz 38 (.mv (.t 42))),
 dz (oz 43 (.ext (.t 38) 0)),
 dz (oz 44 (.ext (.t 38) 1)),
 dz (oz 6 (.mv (.t 43))),
 dz (oz 7 (.mv (.t 44)))])
 (.seq (.draw [⟨oz 46 (.ld true 6 (.t 1)), false, [oz 46 (.ld true 6 (.t 1))], []⟩,
 ⟨oz 47 (.call (.c (.func 64 [] [])) [(.c (.int .i64 10)), (.c (.int .i64 4)), (.c (.int .i64 2))]), true, [oz 46 (.ld true 6 (.t 1))], []⟩,
 ⟨oz 48 (.call (.c (.func 17 [] [])) [.t 46, (.c .nilslice), .t 47]), true, [], []⟩,
 dz (oz 45 (.mv (.t 48))),
 dz (oz 49 (.ext (.t 45) 0)),
 dz (oz 50 (.ext (.t 45) 1)),
 dz (oz 8 (.mv (.t 49))),
 dz (oz 9 (.mv (.t 50)))])
 (.seq (.draw [⟨oz 52 (.ld true 6 (.t 1)), false, [oz 52 (.ld true 6 (.t 1))], []⟩,
 ⟨oz 54 (.call (.c (.func 64 [] [])) [(.c (.int .i64 10)), (.c (.int .i64 0)), (.c (.int .i64 0))]), true, [oz 52 (.ld true 6 (.t 1))], []⟩,
 dz (oz 53 (.bldS 1 1 [(.int .i64 0)] [(0, 1, (.c (.int .i64 0)))])),
 ⟨oz 55 (.call (.c (.func 17 [] [])) [.t 52, .t 53, .t 54]), true, [], []⟩,
 dz (oz 51 (.mv (.t 55))),
 dz (oz 56 (.ext (.t 51) 0)),
 dz (oz 57 (.ext (.t 51) 1)),
 dz (oz 10 (.mv (.t 56))),
 dz (oz 11 (.mv (.t 57)))])
 (.seq (.region [oz 59 (.ld true 6 (.t 1)),
 oz 60 (.call (.c (.func 19 [] [])) [.t 59]),
 oz 58 (.mv (.t 60)),
 oz 61 (.ext (.t 58) 0),
 oz 62 (.ext (.t 58) 1),
 oz 63 (.ext (.t 58) 2),
 oz 13 (.alloc (.agg [(.int .i64 0), (.int .i64 0), (.int .i64 0)])),
 oz 12 (.mv (.t 61)),
 ⟨none, .st 3 (.t 13) (.t 62), none⟩,
 oz 14 (.mv (.t 63))])
 (.seq (.region [oz 65 (.ld true 6 (.t 1)),
 oz 66 (.call (.c (.func 24 [] [])) [.t 65]),
 oz 64 (.mv (.t 66)),
 oz 67 (.ext (.t 64) 0),
 oz 68 (.ext (.t 64) 1),
 oz 15 (.mv (.t 67)),
 oz 16 (.mv (.t 68))])
 (.seq (.region [oz 70 (.ld true 6 (.t 1)),
 oz 71 (.call (.c (.func 29 [] [])) [.t 70]),
 oz 69 (.mv (.t 71)),
 oz 72 (.ext (.t 69) 0),
 oz 73 (.ext (.t 69) 1),
 oz 74 (.ext (.t 69) 2),
 oz 17 (.mv (.t 72)),
 oz 18 (.mv (.t 73)),
 oz 19 (.mv (.t 74))])
 (.seq (.region [oz 76 (.ld true 6 (.t 1)),
 oz 77 (.call (.c (.func 32 [] [])) [.t 76]),
 oz 75 (.mv (.t 77)),
 oz 78 (.ext (.t 75) 0),
 oz 79 (.ext (.t 75) 1),
 oz 80 (.ext (.t 75) 2),
 oz 20 (.mv (.t 78)),
 oz 21 (.mv (.t 79)),
 oz 22 (.mv (.t 80))])
 (.seq (.region [oz 82 (.call (.c (.func 63 [] [])) [(.c (.bool true))]),
 oz 83 (.call (.c (.func 34 [] [])) [.t 82]),
 oz 81 (.mv (.t 83)),
 oz 84 (.ext (.t 81) 0),
 oz 85 (.ext (.t 81) 1),
 oz 23 (.mv (.t 84)),
 oz 24 (.mv (.t 85))])
 (.seq (.draw [dz (oz 86 (.mv (.t 3))),
 dz (oz 87 (.bin .eql (.t 86) (.c (.int .i64 0)))),
 dz (oz 88 (.mv (.t 87))),
 dz (og 89 (.mv (.t 5)) 88 true),
 dz (og 90 (.bin .eql (.t 89) (.c (.int .i64 0))) 88 true),
 dz (oz 91 (.pick (.t 88) (.t 90) (.c (.bool false)))),
 dz (oz 92 (.mv (.t 91))),
 dz (og 93 (.mv (.t 7)) 92 true),
 dz (og 94 (.bin .eql (.t 93) (.c (.int .i64 4))) 92 true),
 dz (oz 95 (.pick (.t 92) (.t 94) (.c (.bool false)))),
 dz (oz 96 (.mv (.t 95))),
 dz (og 97 (.mv (.t 9)) 96 true),
 dz (og 98 (.bin .eql (.t 97) (.c (.int .i64 9))) 96 true),
 dz (oz 99 (.pick (.t 96) (.t 98) (.c (.bool false)))),
 dz (oz 100 (.mv (.t 99))),
 dz (og 101 (.mv (.t 11)) 100 true),
 dz (og 102 (.bin .eql (.t 101) (.c (.int .i64 0))) 100 true),
 dz (oz 103 (.pick (.t 100) (.t 102) (.c (.bool false)))),
 dz (oz 104 (.mv (.t 103))),
 dz (og 105 (.mv (.t 14)) 104 true),
 dz (og 106 (.bin .eql (.t 105) (.c (.int .i64 0))) 104 true),
 dz (oz 107 (.pick (.t 104) (.t 106) (.c (.bool false)))),
 dz (oz 108 (.mv (.t 107))),
 dz (og 109 (.mv (.t 16)) 108 true),
 dz (og 110 (.bin .eql (.t 109) (.c (.int .i64 0))) 108 true),
 dz (oz 111 (.pick (.t 108) (.t 110) (.c (.bool false)))),
 dz (oz 112 (.mv (.t 111))),
 dz (og 113 (.mv (.t 19)) 112 true),
 dz (og 114 (.bin .eql (.t 113) (.c (.int .i64 0))) 112 true),
 dz (oz 115 (.pick (.t 112) (.t 114) (.c (.bool false)))),
 dz (oz 116 (.mv (.t 115))),
 dz (og 117 (.mv (.t 22)) 116 true),
 dz (og 118 (.bin .eql (.t 117) (.c (.int .i64 0))) 116 true),
 dz (oz 119 (.pick (.t 116) (.t 118) (.c (.bool false)))),
 dz (oz 120 (.mv (.t 119))),
 dz (og 121 (.mv (.t 24)) 120 true),
 dz (og 122 (.bin .eql (.t 121) (.c (.int .i64 0))) 120 true),
 dz (oz 123 (.pick (.t 120) (.t 122) (.c (.bool false)))),
 dz (oz 124 (.mv (.t 123))),
 ⟨og 125 (.ld true 3 (.t 2)) 124 true, false, [og 125 (.ld true 3 (.t 2)) 124 true], []⟩,
 ⟨og 126 (.call (.c (.func 64 [] [])) [(.c (.int .i64 7)), (.c (.int .i64 2)), (.c (.int .i64 1))]) 124 true, true, [og 125 (.ld true 3 (.t 2)) 124 true], []⟩,
 dz (og 127 (.eqv (.ag [.i, .i, .i]) false (.t 125) (.t 126)) 124 true),
 dz (oz 128 (.pick (.t 124) (.t 127) (.c (.bool false)))),
 dz (oz 129 (.mv (.t 128))),
 ⟨og 130 (.ld true 3 (.t 4)) 129 true, false, [og 130 (.ld true 3 (.t 4)) 129 true], []⟩,
 ⟨og 131 (.call (.c (.func 64 [] [])) [(.c (.int .i64 12)), (.c (.int .i64 4)), (.c (.int .i64 2))]) 129 true, true, [og 130 (.ld true 3 (.t 4)) 129 true], []⟩,
 dz (og 132 (.eqv (.ag [.i, .i, .i]) false (.t 130) (.t 131)) 129 true),
 dz (oz 133 (.pick (.t 129) (.t 132) (.c (.bool false)))),
 dz (oz 134 (.mv (.t 133))),
 dz (og 135 (.mv (.t 10)) 134 true),
 dz (og 136 (.bin .eql (.t 135) (.c (.int .i64 1))) 134 true),
 dz (oz 137 (.pick (.t 134) (.t 136) (.c (.bool false)))),
 dz (oz 138 (.mv (.t 137))),
 dz (og 139 (.mv (.t 12)) 138 true),
 dz (og 140 (.bldS 1 1 [(.int .i64 0)] [(0, 1, (.c (.int .i64 0)))]) 138 true),
 ⟨og 141 (.call (.c (.func 65 [] [])) [.t 139, .t 140]) 138 true, true, [], []⟩,
 dz (oz 142 (.pick (.t 138) (.t 141) (.c (.bool false)))),
 dz (oz 143 (.mv (.t 142))),
 ⟨og 144 (.ld true 3 (.t 13)) 143 true, false, [og 144 (.ld true 3 (.t 13)) 143 true], []⟩,
 ⟨og 145 (.call (.c (.func 64 [] [])) [(.c (.int .i64 5)), (.c (.int .i64 2)), (.c (.int .i64 1))]) 143 true, true, [og 144 (.ld true 3 (.t 13)) 143 true], []⟩,
 dz (og 146 (.eqv (.ag [.i, .i, .i]) false (.t 144) (.t 145)) 143 true),
 dz (oz 147 (.pick (.t 143) (.t 146) (.c (.bool false)))),
 dz (oz 148 (.mv (.t 147))),
 dz (og 149 (.mv (.t 15)) 148 true),
 dz (og 150 (.bldS 1 1 [(.int .i64 0)] [(0, 1, (.c (.int .i64 0)))]) 148 true),
 dz (og 151 (.bldS 1 1 [(.int .i64 0)] [(0, 1, (.c (.int .i64 1)))]) 148 true),
 dz (og 152 (.bldS 1 2 [(.int .i64 0)] [(0, 1, (.c (.int .i64 0))), (1, 1, (.c (.int .i64 1)))]) 148 true),
 dz (og 153 (.bldS 1 3 [.nilslice] [(0, 1, (.t 150)), (1, 1, (.t 151)), (2, 1, (.t 152))]) 148 true),
 ⟨og 154 (.call (.c (.func 66 [] [])) [.t 149, .t 153]) 148 true, true, [], []⟩,
 dz (oz 155 (.pick (.t 148) (.t 154) (.c (.bool false)))),
 dz (oz 156 (.mv (.t 155))),
 dz (og 157 (.mv (.t 17)) 156 true),
 dz (og 158 (.len false (.t 157)) 156 true),
 dz (og 159 (.bin .eql (.t 158) (.c (.int .i64 0))) 156 true),
 dz (oz 160 (.pick (.t 156) (.t 159) (.c (.bool false)))),
 dz (oz 161 (.mv (.t 160))),
 dz (og 162 (.mv (.t 18)) 161 true),
 dz (og 163 (.bldS 1 2 [(.int .i64 0)] [(0, 1, (.c (.int .i64 0))), (1, 1, (.c (.int .i64 1)))]) 161 true),
 ⟨og 164 (.call (.c (.func 65 [] [])) [.t 162, .t 163]) 161 true, true, [], []⟩,
 dz (oz 165 (.pick (.t 161) (.t 164) (.c (.bool false)))),
 dz (oz 166 (.mv (.t 165))),
 dz (og 167 (.mv (.t 20)) 166 true),
 dz (og 168 (.bin .eql (.t 167) (.c (.int .i64 0))) 166 true),
 dz (oz 169 (.pick (.t 166) (.t 168) (.c (.bool false)))),
 dz (oz 170 (.mv (.t 169))),
 dz (og 171 (.mv (.t 21)) 170 true),
 dz (og 172 (.bin .eql (.t 171) (.c (.int .i64 2))) 170 true),
 dz (oz 173 (.pick (.t 170) (.t 172) (.c (.bool false)))),
 dz (oz 174 (.mv (.t 173))),
 dz (og 175 (.mv (.t 23)) 174 true),
 dz (og 176 (.bin .eql (.t 175) (.c (.int .i64 15))) 174 true),
 dz (oz 177 (.pick (.t 174) (.t 176) (.c (.bool false)))),
 dz (oz 0 (.mv (.t 177)))])
 .ret))))))))))))), [.tmp 0]⟩
theorem c36 : compFun Tryz.prog Tryz.f36 = some ir36 := by kernel_rfl
def ir37 : IFun := ⟨20, (.seq (.region [oz 3 (.box (.t 1))])
 (.seq (.region [oz 4 (.mv (.t 0)),
 oz 5 (.fa (.t 3) 0),
 oz 6 (.ld true 3 (.t 5)),
 oz 7 (.call (.c (.func 13 [] [])) [.t 4, .t 6])])
 (.seq (.region [oz 8 (.mv (.t 0)),
 oz 9 (.fa (.t 3) 3),
 oz 10 (.ld false 1 (.t 9)),
 oz 11 (.call (.c (.func 8 [] [])) [.t 8, .t 10])])
 (.seq (.region [oz 12 (.mv (.t 0)),
 oz 13 (.fa (.t 3) 4),
 oz 14 (.ld false 1 (.t 13)),
 oz 15 (.call (.c (.func 67 [] [])) [.t 12, .t 14])])
 (.region [oz 16 (.mv (.t 0)),
 oz 17 (.fa (.t 3) 5),
 oz 18 (.ld false 1 (.t 17)),
 oz 19 (.call (.c (.func 68 [] [])) [.t 16, .t 18])]))))), []⟩
theorem c37 : compFun Tryz.prog Tryz.f37 = some ir37 := by kernel_rfl
def ir38 : IFun := ⟨10, (.seq (.region [oz 3 (.box (.t 0)),
 oz 4 (.box (.t 1)),
 oz 6 (.mv (.c (.bool false)))])
 (.seq (.region [oz 7 (.mv (.t 2)),
 oz 8 (.mkfn 70 [] [.t 3, .t 4]),
 oz 9 (.call (.c (.func 69 [] [])) [.t 7, .t 8]),
 oz 6 (.mv (.t 9))])
 .ret)), [.tmp 6]⟩
theorem c38 : compFun Tryz.prog Tryz.f38 = some ir38 := by kernel_rfl
def ir39 : IFun := ⟨25, (.seq (.region [oz 4 (.mv (.c (.int .i64 0))),
 oz 5 (.mv (.c (.int .i64 0)))])
 (.seq (.seq (.region [oz 9 (.mv (.t 0)),
 oz 10 (.len false (.t 9)),
 oz 11 (.mv (.c (.int .i64 0)))])
 (.block 0
 (.loop
 (.seq (.region [oz 12 (.bin .lss (.t 11) (.t 10))])
 (.seq (.cond (.t 12)
 .skip
 (.exit 0))
 (.seq (.block 1
 (.seq (.region [oz 13 (.mv (.t 11)),
 oz 14 (.ia 6 (.t 9) (.t 11)),
 oz 15 (.ld true 6 (.t 14)),
 oz 7 (.alloc (.agg [(.str []), (.int .i64 0), (.int .i64 0), (.int .i64 0), (.int .i64 0), (.bool false)])),
 oz 6 (.mv (.t 13)),
 ⟨none, .st 6 (.t 7) (.t 15), none⟩])
 (.seq (.region [oz 16 (.mv (.t 1)),
 oz 17 (.mv (.t 6)),
 oz 18 (.ld true 6 (.t 7)),
 oz 19 (.call (.t 16) [.t 17, .t 18]),
 oz 8 (.mv (.t 19))])
 (.seq (.region [oz 20 (.mv (.t 8)),
 oz 21 (.bin .neq (.t 20) (.c (.int .i64 0)))])
 (.cond (.t 21)
 (.seq (.region [oz 22 (.mv (.t 6)),
 oz 23 (.mv (.t 8)),
 oz 4 (.mv (.t 22)),
 oz 5 (.mv (.t 23))])
 .ret)
 .skip)))))
 (.region [oz 24 (.bin .add (.t 11) (.c (.int .i64 1))),
 oz 11 (.mv (.t 24))])))))))
 (.seq (.region [oz 4 (.mv (.c (.int .i64 0))),
 oz 5 (.mv (.c (.int .i64 0)))])
 .ret))), [.tmp 4, .tmp 5]⟩
theorem c39 : compFun Tryz.prog Tryz.f39 = some ir39 := by kernel_rfl
def ir40 : IFun := ⟨28, (.seq (.region [oz 4 (.box (.t 1)),
 oz 5 (.mv (.c (.int .i64 0)))])
 (.seq (.block 0
 (.seq (.region [oz 7 (.fa (.t 4) 0),
 oz 8 (.ld false 1 (.t 7)),
 oz 9 (.call (.c (.func 41 [] [])) [.t 8]),
 oz 10 (.un .not (.t 9)),
 oz 6 (.mv (.t 10))])
 (.cond (.t 6)
 (.seq (.region [oz 5 (.mv (.c (.int .i64 6)))])
 .ret)
 (.seq (.region [oz 12 (.fa (.t 2) 4),
 oz 13 (.ld false 1 (.t 12)),
 oz 14 (.mv (.t 0)),
 oz 15 (.slc 6 (.t 13) none (some (.t 14)) none),
 oz 16 (.mkfn 43 [] [.t 4]),
 oz 17 (.call (.c (.func 42 [] [])) [.t 15, .t 16]),
 oz 11 (.mv (.t 17))])
 (.cond (.t 11)
 (.seq (.region [oz 5 (.mv (.c (.int .i64 5)))])
 .ret)
 (.seq (.region [oz 19 (.fa (.t 4) 1),
 oz 20 (.slca 3 1 (.t 19) none none none),
 oz 21 (.call (.c (.func 38 [] [])) [(.c (.int .i64 0)), (.c (.int .i64 40)), .t 20]),
 oz 22 (.mv (.t 21)),
 og 23 (.fa (.t 4) 4) 22 false,
 og 24 (.ld false 1 (.t 23)) 22 false,
 og 25 (.bldS 1 1 [(.int .i64 0)] [(0, 1, (.t 24))]) 22 false,
 og 26 (.call (.c (.func 38 [] [])) [(.c (.int .i64 0)), (.c (.int .i64 364)), .t 25]) 22 false,
 oz 27 (.pick (.t 22) (.c (.bool true)) (.t 26)),
 oz 18 (.mv (.t 27))])
 (.cond (.t 18)
 (.seq (.region [oz 5 (.mv (.c (.int .i64 7)))])
 .ret)
 .skip)))))))
 (.seq (.region [oz 5 (.mv (.c (.int .i64 0)))])
 .ret))), [.tmp 5]⟩
theorem c40 : compFun Tryz.prog Tryz.f40 = some ir40 := by kernel_rfl
def ir41 : IFun := ⟨43, (.seq (.region [oz 2 (.mv (.c (.bool false)))])
 (.seq (.seq (.region [oz 6 (.mv (.t 0)),
 oz 7 (.rng (.t 6))])
 (.block 0
 (.loop
 (.seq (.region [oz 8 (.nxt (.t 7)),
 oz 9 (.ext (.t 8) 0)])
 (.seq (.cond (.t 9)
 .skip
 (.exit 0))
 (.block 1
 (.seq (.region [oz 10 (.ext (.t 8) 1),
 oz 11 (.ext (.t 8) 2),
 oz 3 (.mv (.t 10)),
 oz 4 (.mv (.t 11))])
 (.seq (.region [oz 12 (.mv (.t 4)),
 oz 13 (.bin .leq (.c (.int .i32 97)) (.t 12)),
 oz 14 (.mv (.t 13)),
 og 15 (.mv (.t 4)) 14 true,
 og 16 (.bin .leq (.t 15) (.c (.int .i32 122))) 14 true,
 oz 17 (.pick (.t 14) (.t 16) (.c (.bool false))),
 oz 5 (.mv (.t 17))])
 (.seq (.region [oz 18 (.mv (.t 5)),
 oz 19 (.un .not (.t 18)),
 oz 20 (.mv (.t 19)),
 og 21 (.mv (.t 3)) 20 true,
 og 22 (.bin .eql (.t 21) (.c (.int .i64 0))) 20 true,
 og 23 (.mv (.t 22)) 20 true,
 og 24 (.mv (.t 4)) 23 false,
 og 25 (.bin .neq (.t 24) (.c (.int .i32 46))) 23 false,
 og 26 (.mv (.t 25)) 23 false,
 og 27 (.mv (.t 4)) 26 true,
 og 28 (.bin .lss (.t 27) (.c (.int .i32 48))) 26 true,
 og 29 (.mv (.t 28)) 26 true,
 og 30 (.mv (.t 4)) 29 false,
 og 31 (.bin .gtr (.t 30) (.c (.int .i32 57))) 29 false,
 og 32 (.pick (.t 29) (.c (.bool true)) (.t 31)) 26 true,
 og 33 (.pick (.t 26) (.t 32) (.c (.bool false))) 23 false,
 og 34 (.pick (.t 23) (.c (.bool true)) (.t 33)) 20 true,
 oz 35 (.pick (.t 20) (.t 34) (.c (.bool false)))])
 (.cond (.t 35)
 (.seq (.region [oz 2 (.mv (.c (.bool false)))])
 .ret)
 .skip))))))))))
 (.seq (.region [oz 36 (.mv (.t 0)),
 oz 37 (.bin .neq (.t 36) (.c (.str []))),
 oz 38 (.mv (.t 37)),
 og 39 (.mv (.t 0)) 38 true,
 og 40 (.len true (.t 39)) 38 true,
 og 41 (.bin .leq (.t 40) (.c (.int .i64 16))) 38 true,
 oz 42 (.pick (.t 38) (.t 41) (.c (.bool false))),
 oz 2 (.mv (.t 42))])
 .ret))), [.tmp 2]⟩
theorem c41 : compFun Tryz.prog Tryz.f41 = some ir41 := by kernel_rfl
def ir42 : IFun := ⟨9, (.seq (.region [oz 4 (.mv (.c (.bool false)))])
 (.seq (.region [oz 5 (.mv (.t 0)),
 oz 6 (.mv (.t 1)),
 oz 7 (.call (.c (.func 71 [] [])) [.t 5, .t 6]),
 oz 8 (.bin .geq (.t 7) (.c (.int .i64 0))),
 oz 4 (.mv (.t 8))])
 .ret)), [.tmp 4]⟩
theorem c42 : compFun Tryz.prog Tryz.f42 = some ir42 := by kernel_rfl
def ir43 : IFun := ⟨9, (.seq (.region [oz 2 (.box (.t 0)),
 oz 3 (.mv (.c (.bool false)))])
 (.seq (.region [oz 4 (.fa (.t 2) 0),
 oz 5 (.ld false 1 (.t 4)),
 oz 6 (.fa (.t 1) 0),
 oz 7 (.ld false 1 (.t 6)),
 oz 8 (.bin .eql (.t 5) (.t 7)),
 oz 3 (.mv (.t 8))])
 .ret)), [.tmp 3]⟩
theorem c43 : compFun Tryz.prog Tryz.f43 = some ir43 := by kernel_rfl
def ir44 : IFun := ⟨25, (.seq (.region [oz 4 (.mv (.c (.int .i64 0))),
 oz 5 (.mv (.c (.int .i64 0)))])
 (.seq (.seq (.region [oz 9 (.mv (.t 0)),
 oz 10 (.len false (.t 9)),
 oz 11 (.mv (.c (.int .i64 0)))])
 (.block 0
 (.loop
 (.seq (.region [oz 12 (.bin .lss (.t 11) (.t 10))])
 (.seq (.cond (.t 12)
 .skip
 (.exit 0))
 (.seq (.block 1
 (.seq (.region [oz 13 (.mv (.t 11)),
 oz 14 (.ia 6 (.t 9) (.t 11)),
 oz 15 (.ld true 6 (.t 14)),
 oz 7 (.alloc (.agg [(.str []), (.int .i64 0), (.int .i64 0), (.int .i64 0), (.int .i64 0), (.int .i64 0)])),
 oz 6 (.mv (.t 13)),
 ⟨none, .st 6 (.t 7) (.t 15), none⟩])
 (.seq (.region [oz 16 (.mv (.t 1)),
 oz 17 (.mv (.t 6)),
 oz 18 (.ld true 6 (.t 7)),
 oz 19 (.call (.t 16) [.t 17, .t 18]),
 oz 8 (.mv (.t 19))])
 (.seq (.region [oz 20 (.mv (.t 8)),
 oz 21 (.bin .neq (.t 20) (.c (.int .i64 0)))])
 (.cond (.t 21)
 (.seq (.region [oz 22 (.mv (.t 6)),
 oz 23 (.mv (.t 8)),
 oz 4 (.mv (.t 22)),
 oz 5 (.mv (.t 23))])
 .ret)
 .skip)))))
 (.region [oz 24 (.bin .add (.t 11) (.c (.int .i64 1))),
 oz 11 (.mv (.t 24))])))))))
 (.seq (.region [oz 4 (.mv (.c (.int .i64 0))),
 oz 5 (.mv (.c (.int .i64 0)))])
 .ret))), [.tmp 4, .tmp 5]⟩
theorem c44 : compFun Tryz.prog Tryz.f44 = some ir44 := by kernel_rfl
def ir45 : IFun := ⟨56, (.seq (.region [oz 4 (.box (.t 1)),
 oz 5 (.mv (.c (.int .i64 0)))])
 (.seq (.block 0
 (.seq (.region [oz 7 (.fa (.t 4) 0),
 oz 8 (.ld false 1 (.t 7)),
 oz 9 (.call (.c (.func 41 [] [])) [.t 8]),
 oz 10 (.un .not (.t 9)),
 oz 6 (.mv (.t 10))])
 (.cond (.t 6)
 (.seq (.region [oz 5 (.mv (.c (.int .i64 6)))])
 .ret)
 (.seq (.region [oz 12 (.fa (.t 2) 5),
 oz 13 (.ld false 1 (.t 12)),
 oz 14 (.mv (.t 0)),
 oz 15 (.slc 6 (.t 13) none (some (.t 14)) none),
 oz 16 (.mkfn 47 [] [.t 4]),
 oz 17 (.call (.c (.func 46 [] [])) [.t 15, .t 16]),
 oz 11 (.mv (.t 17))])
 (.cond (.t 11)
 (.seq (.region [oz 5 (.mv (.c (.int .i64 5)))])
 .ret)
 (.seq (.region [oz 19 (.fa (.t 4) 1),
 oz 20 (.ld false 1 (.t 19)),
 oz 21 (.bldS 1 1 [(.int .i64 0)] [(0, 1, (.t 20))]),
 oz 22 (.call (.c (.func 38 [] [])) [(.c (.int .i64 1)), (.c (.int .i64 60)), .t 21]),
 oz 23 (.mv (.t 22)),
 og 24 (.fa (.t 4) 2) 23 false,
 og 25 (.fa (.t 24) 0) 23 false,
 og 26 (.ld false 1 (.t 25)) 23 false,
 og 27 (.fa (.t 4) 2) 23 false,
 og 28 (.fa (.t 27) 1) 23 false,
 og 29 (.ld false 1 (.t 28)) 23 false,
 og 30 (.fa (.t 4) 4) 23 false,
 og 31 (.fa (.t 30) 0) 23 false,
 og 32 (.ld false 1 (.t 31)) 23 false,
 og 33 (.fa (.t 4) 4) 23 false,
 og 34 (.fa (.t 33) 1) 23 false,
 og 35 (.ld false 1 (.t 34)) 23 false,
 og 36 (.bldS 1 4 [(.int .i64 0)] [(0, 1, (.t 26)), (1, 1, (.t 29)), (2, 1, (.t 32)), (3, 1, (.t 35))]) 23 false,
 og 37 (.call (.c (.func 38 [] [])) [(.c (.int .i64 0)), (.c (.int .i64 1000)), .t 36]) 23 false,
 oz 38 (.pick (.t 23) (.c (.bool true)) (.t 37)),
 oz 18 (.mv (.t 38))])
 (.cond (.t 18)
 (.seq (.region [oz 5 (.mv (.c (.int .i64 7)))])
 .ret)
 (.seq (.region [oz 40 (.fa (.t 4) 2),
 oz 41 (.fa (.t 40) 0),
 oz 42 (.ld false 1 (.t 41)),
 oz 43 (.fa (.t 4) 2),
 oz 44 (.fa (.t 43) 1),
 oz 45 (.ld false 1 (.t 44)),
 oz 46 (.bin .gtr (.t 42) (.t 45)),
 oz 47 (.mv (.t 46)),
 og 48 (.fa (.t 4) 4) 47 false,
 og 49 (.fa (.t 48) 0) 47 false,
 og 50 (.ld false 1 (.t 49)) 47 false,
 og 51 (.fa (.t 4) 4) 47 false,
 og 52 (.fa (.t 51) 1) 47 false,
 og 53 (.ld false 1 (.t 52)) 47 false,
 og 54 (.bin .gtr (.t 50) (.t 53)) 47 false,
 oz 55 (.pick (.t 47) (.c (.bool true)) (.t 54)),
 oz 39 (.mv (.t 55))])
 (.cond (.t 39)
 (.seq (.region [oz 5 (.mv (.c (.int .i64 2)))])
 .ret)
 .skip)))))))))
 (.seq (.region [oz 5 (.mv (.c (.int .i64 0)))])
 .ret))), [.tmp 5]⟩
theorem c45 : compFun Tryz.prog Tryz.f45 = some ir45 := by kernel_rfl
def ir46 : IFun := ⟨9, (.seq (.region [oz 4 (.mv (.c (.bool false)))])
 (.seq (.region [oz 5 (.mv (.t 0)),
 oz 6 (.mv (.t 1)),
 oz 7 (.call (.c (.func 72 [] [])) [.t 5, .t 6]),
 oz 8 (.bin .geq (.t 7) (.c (.int .i64 0))),
 oz 4 (.mv (.t 8))])
 .ret)), [.tmp 4]⟩
theorem c46 : compFun Tryz.prog Tryz.f46 = some ir46 := by kernel_rfl
def ir47 : IFun := ⟨9, (.seq (.region [oz 2 (.box (.t 0)),
 oz 3 (.mv (.c (.bool false)))])
 (.seq (.region [oz 4 (.fa (.t 2) 0),
 oz 5 (.ld false 1 (.t 4)),
 oz 6 (.fa (.t 1) 0),
 oz 7 (.ld false 1 (.t 6)),
 oz 8 (.bin .eql (.t 5) (.t 7)),
 oz 3 (.mv (.t 8))])
 .ret)), [.tmp 3]⟩
theorem c47 : compFun Tryz.prog Tryz.f47 = some ir47 := by kernel_rfl
def ir48 : IFun := ⟨105, (.seq (.region [oz 2 (.box (.t 0)),
 oz 4 (.mv (.c .nilptr)),
 oz 5 (.mv (.c (.int .i64 0)))])
 (.seq (.seq (.region [oz 16 (.ld true 6 (.t 2)),
 oz 17 (.call (.c (.func 7 [] [])) [.t 16]),
 oz 15 (.mv (.t 17)),
 oz 18 (.ext (.t 15) 0),
 oz 19 (.ext (.t 15) 1),
 oz 20 (.ext (.t 15) 2),
 oz 6 (.mv (.t 18)),
 oz 7 (.mv (.t 19)),
 oz 8 (.mv (.t 20))])
 (.seq (.region [oz 21 (.mv (.t 8)),
 oz 22 (.bin .neq (.t 21) (.c (.int .i64 0)))])
 (.cond (.t 22)
 (.seq (.region [oz 23 (.mv (.t 8)),
 oz 4 (.mv (.c .nilptr)),
 oz 5 (.mv (.t 23))])
 .ret)
 .skip)))
 (.seq (.region [oz 24 (.ld true 6 (.t 2)),
 ⟨(some 25), .mkmap, none⟩,
 oz 26 (.bld [(.int .i64 0), (.int .i64 0), (.int .i64 0), (.int .i64 0), .nilslice, .nilslice, (.int .i64 0), (.int .i64 0), (.int .i64 0), (.int .i64 0), (.int .i64 0), (.int .i64 0), (.int .i64 0), (.int .i64 0), (.int .i64 0), (.int .i64 0), (.int .i64 0), (.int .i64 0), (.int .i64 0), (.int .i64 0), (.int .i64 0), (.int .i64 0), (.int .i64 0), (.int .i64 0), (.int .i64 0), .nilslice, .nilmap] [(0, 6, (.t 24)), (26, 1, (.t 25))]),
 oz 27 (.box (.t 26)),
 oz 9 (.mv (.t 27))])
 (.seq (.region [oz 28 (.mv (.t 9)),
 oz 29 (.bld [(.int .i64 0), .nilfunc] [(0, 1, (.c (.int .i64 1))), (1, 1, (.c (.func 73 [] [])))]),
 oz 30 (.bld [(.int .i64 0), .nilfunc] [(0, 1, (.c (.int .i64 2))), (1, 1, (.c (.func 74 [] [])))]),
 oz 31 (.bldS 2 2 [(.int .i64 0), .nilfunc] [(0, 2, (.t 29)), (2, 2, (.t 30))]),
 oz 32 (.nilck (.t 28)),
 oz 33 (.fa (.t 32) 25),
 ⟨none, .st 1 (.t 33) (.t 31), none⟩])
 (.seq (.seq (.region [oz 34 (.fa (.t 2) 5),
 oz 35 (.ld false 1 (.t 34)),
 oz 36 (.len false (.t 35)),
 oz 37 (.mv (.c (.int .i64 0)))])
 (.block 0
 (.loop
 (.seq (.region [oz 38 (.bin .lss (.t 37) (.t 36))])
 (.seq (.cond (.t 38)
 .skip
 (.exit 0))
 (.seq (.block 1
 (.seq (.region [oz 39 (.ia 6 (.t 35) (.t 37)),
 oz 40 (.ld true 6 (.t 39)),
 oz 11 (.alloc (.agg [(.str []), (.int .i64 0), (.int .i64 0), (.int .i64 0), (.int .i64 0), (.int .i64 0)])),
 ⟨none, .st 6 (.t 11) (.t 40), none⟩])
 (.draw [dz (oz 41 (.mv (.t 9))),
 dz (oz 42 (.nilck (.t 41))),
 dz (oz 43 (.fa (.t 42) 6)),
 ⟨oz 44 (.ld false 1 (.t 43)), false, [oz 44 (.ld false 1 (.t 43))], []⟩,
 dz (oz 45 (.fa (.t 11) 1)),
 ⟨oz 46 (.ld false 1 (.t 45)), false, [oz 46 (.ld false 1 (.t 45))], []⟩,
 dz (oz 47 (.bin .add (.t 44) (.t 46))),
 dz (oz 48 (.nilck (.t 41))),
 dz (oz 49 (.fa (.t 48) 6)),
 ⟨⟨none, .st 1 (.t 49) (.t 47), none⟩, true, [], []⟩])))
 (.region [oz 50 (.bin .add (.t 37) (.c (.int .i64 1))),
 oz 37 (.mv (.t 50))])))))))
 (.seq (.seq (.region [oz 51 (.fa (.t 2) 4),
 oz 52 (.ld false 1 (.t 51)),
 oz 53 (.len false (.t 52)),
 oz 54 (.mv (.c (.int .i64 0)))])
 (.block 2
 (.loop
 (.seq (.region [oz 55 (.bin .lss (.t 54) (.t 53))])
 (.seq (.cond (.t 55)
 .skip
 (.exit 2))
 (.seq (.block 3
 (.seq (.region [oz 56 (.mv (.t 54)),
 oz 57 (.ia 6 (.t 52) (.t 54)),
 oz 58 (.ld true 6 (.t 57)),
 oz 13 (.alloc (.agg [(.str []), (.int .i64 0), (.int .i64 0), (.int .i64 0), (.int .i64 0), (.bool false)])),
 oz 12 (.mv (.t 56)),
 ⟨none, .st 6 (.t 13) (.t 58), none⟩])
 (.seq (.draw [dz (oz 59 (.fa (.t 13) 4)),
 ⟨oz 60 (.ld false 1 (.t 59)), false, [oz 60 (.ld false 1 (.t 59))], []⟩,
 dz (oz 61 (.mv (.t 1))),
 dz (oz 62 (.bin .add (.t 60) (.t 61))),
 dz (oz 63 (.fa (.t 2) 3)),
 ⟨oz 64 (.ld false 1 (.t 63)), false, [oz 64 (.ld false 1 (.t 63))], []⟩,
 dz (oz 65 (.bin .quo (.t 62) (.t 64))),
 dz (oz 66 (.fa (.t 13) 1)),
 dz (oz 67 (.iaa 3 1 (.t 66) (.c (.int .i64 2)))),
 ⟨oz 68 (.ld false 1 (.t 67)), false, [oz 68 (.ld false 1 (.t 67))], []⟩,
 dz (oz 69 (.mn (.t 65) [.t 68])),
 dz (oz 14 (.mv (.t 69)))])
 (.seq (.draw [dz (oz 70 (.mv (.t 9))),
 dz (oz 71 (.mv (.t 12))),
 dz (oz 72 (.fa (.t 13) 1)),
 ⟨oz 73 (.ld true 3 (.t 72)), false, [oz 73 (.ld true 3 (.t 72))], []⟩,
 dz (oz 74 (.nilck (.t 70))),
 dz (oz 75 (.fa (.t 74) 7)),
 dz (oz 76 (.iaa 6 3 (.t 75) (.t 71))),
 ⟨⟨none, .st 3 (.t 76) (.t 73), none⟩, true, [], []⟩])
 (.seq (.draw [dz (oz 77 (.mv (.t 9))),
 dz (oz 78 (.mv (.t 12))),
 dz (oz 79 (.nilck (.t 77))),
 dz (oz 80 (.fa (.t 79) 7)),
 dz (oz 81 (.iaa 6 3 (.t 80) (.t 78))),
 dz (oz 82 (.iaa 3 1 (.t 81) (.c (.int .i64 2)))),
 ⟨oz 83 (.ld false 1 (.t 82)), false, [oz 83 (.ld false 1 (.t 82))], []⟩,
 dz (oz 84 (.mv (.t 14))),
 dz (oz 85 (.bin .sub (.t 83) (.t 84))),
 dz (oz 86 (.nilck (.t 77))),
 dz (oz 87 (.fa (.t 86) 7)),
 dz (oz 88 (.iaa 6 3 (.t 87) (.t 78))),
 dz (oz 89 (.iaa 3 1 (.t 88) (.c (.int .i64 2)))),
 ⟨⟨none, .st 1 (.t 89) (.t 85), none⟩, true, [], []⟩])
 (.draw [dz (oz 90 (.mv (.t 9))),
 dz (oz 91 (.mv (.t 12))),
 dz (oz 92 (.nilck (.t 90))),
 dz (oz 93 (.fa (.t 92) 7)),
 dz (oz 94 (.iaa 6 3 (.t 93) (.t 91))),
 dz (oz 95 (.iaa 3 1 (.t 94) (.c (.int .i64 0)))),
 ⟨oz 96 (.ld false 1 (.t 95)), false, [oz 96 (.ld false 1 (.t 95))], []⟩,
 dz (oz 97 (.mv (.t 14))),
 dz (oz 98 (.bin .add (.t 96) (.t 97))),
 dz (oz 99 (.nilck (.t 90))),
 dz (oz 100 (.fa (.t 99) 7)),
 dz (oz 101 (.iaa 6 3 (.t 100) (.t 91))),
 dz (oz 102 (.iaa 3 1 (.t 101) (.c (.int .i64 0)))),
 ⟨⟨none, .st 1 (.t 102) (.t 98), none⟩, true, [], []⟩]))))))
 (.region [oz 103 (.bin .add (.t 54) (.c (.int .i64 1))),
 oz 54 (.mv (.t 103))])))))))
 (.seq (.region [oz 104 (.mv (.t 9)),
 oz 4 (.mv (.t 104)),
 oz 5 (.mv (.c (.int .i64 0)))])
 .ret))))))), [.tmp 4, .tmp 5]⟩
theorem c48 : compFun Tryz.prog Tryz.f48 = some ir48 := by kernel_rfl
def ir49 : IFun := ⟨31, (.seq (.region [oz 7 (.mv (.t 0)),
 oz 8 (.mv (.t 0)),
 oz 9 (.nilck (.t 8)),
 oz 10 (.fa (.t 9) 0),
 oz 11 (.ld false 1 (.t 10)),
 oz 12 (.mv (.t 1)),
 oz 13 (.len false (.t 12)),
 oz 14 (.bldS 1 1 [(.int .i64 0)] [(0, 1, (.t 13))]),
 oz 15 (.app 1 8 (.t 11) (.t 14)),
 oz 16 (.nilck (.t 7)),
 oz 17 (.fa (.t 16) 0),
 ⟨none, .st 1 (.t 17) (.t 15), none⟩])
 (.seq (.region [oz 6 (.mv (.c (.int .i64 0)))])
 (.block 0
 (.loop
 (.seq (.seq (.region [oz 18 (.mv (.t 6)),
 oz 19 (.mv (.t 1)),
 oz 20 (.len false (.t 19)),
 oz 21 (.bin .lss (.t 18) (.t 20))])
 (.cond (.t 21)
 .skip
 (.exit 0)))
 (.seq (.block 1
 (.region [oz 24 (.mv (.t 2)),
 oz 25 (.mv (.t 0)),
 oz 26 (.mv (.t 1)),
 oz 27 (.mv (.t 6)),
 oz 28 (.ia 1 (.t 26) (.t 27)),
 oz 29 (.ld false 1 (.t 28)),
 oz 30 (.call (.t 24) [.t 25, .t 29])]))
 (.region [oz 22 (.mv (.t 6)),
 oz 23 (.bin .add (.t 22) (.c (.int .i64 1))),
 oz 6 (.mv (.t 23))]))))))), []⟩
theorem c49 : compFun Tryz.prog Tryz.f49 = some ir49 := by kernel_rfl
def ir50 : IFun := ⟨78, (.seq (.region [oz 3 (.box (.t 0)),
 oz 5 (.box (.t 2)),
 oz 6 (.mv (.c .nilptr)),
 oz 7 (.alloc (.agg [(.int .i64 0), (.int .i64 0), (.int .i64 0)])),
 oz 8 (.mv (.c (.int .i64 0)))])
 (.seq (.region [oz 14 (.ld true 6 (.t 3)),
 oz 15 (.call (.c (.func 48 [] [])) [.t 14, (.c (.int .i64 0))]),
 oz 13 (.mv (.t 15)),
 oz 16 (.ext (.t 13) 0),
 oz 17 (.ext (.t 13) 1),
 oz 6 (.mv (.t 16)),
 oz 8 (.mv (.t 17))])
 (.seq (.block 0
 (.seq (.region [oz 19 (.mv (.t 8)),
 oz 20 (.bin .neq (.t 19) (.c (.int .i64 0))),
 oz 18 (.mv (.t 20))])
 (.cond (.t 18)
 (.seq (.draw [⟨oz 21 (.ld true 3 (.t 7)), false, [oz 21 (.ld true 3 (.t 7))], []⟩,
 dz (oz 22 (.mv (.t 8))),
 dz (oz 6 (.mv (.c .nilptr))),
 ⟨⟨none, .st 3 (.t 7) (.t 21), none⟩, true, [], []⟩,
 dz (oz 8 (.mv (.t 22)))])
 .ret)
 (.seq (.region [oz 24 (.fa (.t 3) 4),
 oz 25 (.ld false 1 (.t 24)),
 oz 26 (.len false (.t 25)),
 oz 27 (.bin .sub (.t 26) (.c (.int .i64 1))),
 oz 28 (.mv (.t 1)),
 oz 29 (.call (.c (.func 38 [] [])) [(.c (.int .i64 0)), .t 27, .t 28]),
 oz 23 (.mv (.t 29))])
 (.cond (.t 23)
 (.seq (.draw [⟨oz 30 (.ld true 3 (.t 7)), false, [oz 30 (.ld true 3 (.t 7))], []⟩,
 dz (oz 6 (.mv (.c .nilptr))),
 ⟨⟨none, .st 3 (.t 7) (.t 30), none⟩, true, [], []⟩,
 dz (oz 8 (.mv (.c (.int .i64 4))))])
 .ret)
 .skip)))))
 (.seq (.seq (.region [oz 31 (.mv (.t 1)),
 oz 32 (.len false (.t 31)),
 oz 33 (.mv (.c (.int .i64 0)))])
 (.block 1
 (.loop
 (.seq (.region [oz 34 (.bin .lss (.t 33) (.t 32))])
 (.seq (.cond (.t 34)
 .skip
 (.exit 1))
 (.seq (.block 2
 (.seq (.region [oz 35 (.mv (.t 33)),
 oz 36 (.ia 1 (.t 31) (.t 33)),
 oz 37 (.ld false 1 (.t 36)),
 oz 9 (.mv (.t 35)),
 oz 10 (.mv (.t 37))])
 (.seq (.region [oz 38 (.mv (.t 9)),
 oz 39 (.bin .gtr (.t 38) (.c (.int .i64 0))),
 oz 40 (.mv (.t 39)),
 og 41 (.mv (.t 10)) 40 true,
 og 42 (.mv (.t 1)) 40 true,
 og 43 (.mv (.t 9)) 40 true,
 og 44 (.bin .sub (.t 43) (.c (.int .i64 1))) 40 true,
 og 45 (.ia 1 (.t 42) (.t 44)) 40 true,
 og 46 (.ld false 1 (.t 45)) 40 true,
 og 47 (.bin .leq (.t 41) (.t 46)) 40 true,
 oz 48 (.pick (.t 40) (.t 47) (.c (.bool false))),
 oz 49 (.mv (.t 48)),
 og 50 (.fa (.t 3) 4) 49 false,
 og 51 (.ld false 1 (.t 50)) 49 false,
 og 52 (.mv (.t 10)) 49 false,
 og 53 (.ia 6 (.t 51) (.t 52)) 49 false,
 og 54 (.fa (.t 53) 5) 49 false,
 og 55 (.ld false 1 (.t 54)) 49 false,
 oz 56 (.pick (.t 49) (.c (.bool true)) (.t 55))])
 (.cond (.t 56)
 (.seq (.draw [⟨oz 57 (.ld true 3 (.t 7)), false, [oz 57 (.ld true 3 (.t 7))], []⟩,
 dz (oz 6 (.mv (.c .nilptr))),
 ⟨⟨none, .st 3 (.t 7) (.t 57), none⟩, true, [], []⟩,
 dz (oz 8 (.mv (.c (.int .i64 2))))])
 .ret)
 .skip))))
 (.region [oz 58 (.bin .add (.t 33) (.c (.int .i64 1))),
 oz 33 (.mv (.t 58))])))))))
 (.seq (.seq (.region [oz 59 (.ld true 3 (.t 5)),
 oz 60 (.mv (.c (.int .i64 0)))])
 (.block 3
 (.loop
 (.seq (.region [oz 61 (.bin .lss (.t 60) (.c (.int .i64 3)))])
 (.seq (.cond (.t 61)
 .skip
 (.exit 3))
 (.seq (.block 4
 (.seq (.region [oz 62 (.mv (.t 60)),
 oz 63 (.ix 3 1 false (.t 59) (.t 60)),
 oz 11 (.mv (.t 62)),
 oz 12 (.mv (.t 63))])
 (.seq (.region [oz 64 (.mv (.t 11)),
 oz 65 (.fa (.t 3) 0),
 oz 66 (.iaa 3 1 (.t 65) (.t 64)),
 oz 67 (.ld false 1 (.t 66)),
 oz 68 (.mv (.t 12)),
 oz 69 (.bldS 1 1 [(.int .i64 0)] [(0, 1, (.t 68))]),
 oz 70 (.call (.c (.func 38 [] [])) [(.c (.int .i64 0)), .t 67, .t 69])])
 (.cond (.t 70)
 (.seq (.draw [⟨oz 71 (.ld true 3 (.t 7)), false, [oz 71 (.ld true 3 (.t 7))], []⟩,
 dz (oz 6 (.mv (.c .nilptr))),
 ⟨⟨none, .st 3 (.t 7) (.t 71), none⟩, true, [], []⟩,
 dz (oz 8 (.mv (.c (.int .i64 7))))])
 .ret)
 .skip))))
 (.region [oz 72 (.bin .add (.t 60) (.c (.int .i64 1))),
 oz 60 (.mv (.t 72))])))))))
 (.seq (.region [oz 73 (.mv (.t 6)),
 oz 74 (.mv (.t 6)),
 oz 75 (.ld true 3 (.t 5)),
 oz 76 (.mv (.t 1)),
 oz 77 (.call (.c (.func 55 [] [])) [.t 74, .t 75, .t 76]),
 oz 6 (.mv (.t 73)),
 ⟨none, .st 3 (.t 7) (.t 77), none⟩,
 oz 8 (.mv (.c (.int .i64 0)))])
 .ret)))))), [.tmp 6, .cell 7 true 3, .tmp 8]⟩
theorem c50 : compFun Tryz.prog Tryz.f50 = some ir50 := by kernel_rfl
def ir51 : IFun := ⟨42, (.seq (.region [oz 4 (.box (.t 1)),
 oz 5 (.box (.t 2)),
 oz 6 (.mv (.c (.bool false)))])
 (.seq (.seq (.region [oz 9 (.mv (.t 0)),
 oz 10 (.nilck (.t 9)),
 oz 11 (.fa (.t 10) 25),
 oz 12 (.ld false 1 (.t 11)),
 oz 13 (.len false (.t 12)),
 oz 14 (.mv (.c (.int .i64 0)))])
 (.block 0
 (.loop
 (.seq (.region [oz 15 (.bin .lss (.t 14) (.t 13))])
 (.seq (.cond (.t 15)
 .skip
 (.exit 0))
 (.seq (.block 1
 (.seq (.region [oz 16 (.ia 2 (.t 12) (.t 14)),
 oz 17 (.ld true 2 (.t 16)),
 oz 8 (.alloc (.agg [(.int .i64 0), .nilfunc])),
 ⟨none, .st 2 (.t 8) (.t 17), none⟩])
 (.seq (.draw [dz (oz 18 (.fa (.t 8) 1)),
 ⟨oz 19 (.ld false 1 (.t 18)), false, [oz 19 (.ld false 1 (.t 18))], []⟩,
 ⟨oz 20 (.ld true 6 (.t 5)), false, [oz 20 (.ld true 6 (.t 5))], []⟩,
 ⟨oz 21 (.call (.t 19) [.t 20]), true, [], []⟩,
 dz (oz 22 (.fld false 0 1 (.t 21))),
 ⟨oz 23 (.ld true 3 (.t 4)), false, [oz 23 (.ld true 3 (.t 4))], [3]⟩,
 ⟨oz 24 (.call (.c (.func 52 [] [])) [.t 23]), true, [], []⟩,
 dz (oz 25 (.bin .mul (.t 22) (.t 24))),
 dz (oz 26 (.fa (.t 8) 1)),
 ⟨oz 27 (.ld false 1 (.t 26)), false, [oz 27 (.ld false 1 (.t 26))], [3, 6]⟩,
 ⟨oz 28 (.ld true 6 (.t 5)), false, [oz 28 (.ld true 6 (.t 5))], [3, 6]⟩,
 ⟨oz 29 (.call (.t 27) [.t 28]), true, [], []⟩,
 dz (oz 30 (.fld false 1 1 (.t 29))),
 ⟨oz 31 (.ld true 3 (.t 4)), false, [oz 31 (.ld true 3 (.t 4))], [3, 6, 11]⟩,
 ⟨oz 32 (.call (.c (.func 52 [] [])) [.t 31]), true, [], []⟩,
 dz (oz 33 (.bin .mul (.t 30) (.t 32))),
 dz (oz 34 (.fa (.t 8) 0)),
 ⟨oz 35 (.ld false 1 (.t 34)), false, [oz 35 (.ld false 1 (.t 34))], [3, 6, 11, 14]⟩,
 dz (oz 36 (.iaa 3 1 (.t 4) (.t 35))),
 ⟨oz 37 (.ld false 1 (.t 36)), false, [oz 37 (.ld false 1 (.t 36))], [3, 6, 11, 14]⟩,
 dz (oz 38 (.bin .mul (.c (.int .i64 1000)) (.t 37))),
 dz (oz 39 (.bldS 1 1 [(.int .i64 0)] [(0, 1, (.t 38))])),
 ⟨oz 40 (.call (.c (.func 38 [] [])) [.t 25, .t 33, .t 39]), true, [], []⟩])
 (.cond (.t 40)
 (.seq (.region [oz 6 (.mv (.c (.bool false)))])
 .ret)
 .skip))))
 (.region [oz 41 (.bin .add (.t 14) (.c (.int .i64 1))),
 oz 14 (.mv (.t 41))])))))))
 (.seq (.region [oz 6 (.mv (.c (.bool true)))])
 .ret))), [.tmp 6]⟩
theorem c51 : compFun Tryz.prog Tryz.f51 = some ir51 := by kernel_rfl
def ir52 : IFun := ⟨11, (.seq (.region [oz 1 (.box (.t 0)),
 oz 2 (.mv (.c (.int .i64 0)))])
 (.seq (.region [oz 3 (.iaa 3 1 (.t 1) (.c (.int .i64 0))),
 oz 4 (.ld false 1 (.t 3)),
 oz 5 (.iaa 3 1 (.t 1) (.c (.int .i64 1))),
 oz 6 (.ld false 1 (.t 5)),
 oz 7 (.bin .add (.t 4) (.t 6)),
 oz 8 (.iaa 3 1 (.t 1) (.c (.int .i64 2))),
 oz 9 (.ld false 1 (.t 8)),
 oz 10 (.bin .add (.t 7) (.t 9)),
 oz 2 (.mv (.t 10))])
 .ret)), [.tmp 2]⟩
theorem c52 : compFun Tryz.prog Tryz.f52 = some ir52 := by kernel_rfl
def ir53 : IFun := ⟨4, (.seq (.region [oz 1 (.box (.t 0)),
 oz 2 (.mv (.c .nilfunc))])
 (.seq (.region [oz 3 (.mkfn 75 [] [.t 1]),
 oz 2 (.mv (.t 3))])
 .ret)), [.tmp 2]⟩
theorem c53 : compFun Tryz.prog Tryz.f53 = some ir53 := by kernel_rfl
def ir54 : IFun := ⟨106, (.seq (.region [oz 3 (.box (.t 1)),
 oz 4 (.alloc (.agg [(.int .i64 0), (.int .i64 0), (.int .i64 0), (.bool false)]))])
 (.seq (.seq (.draw [dz (oz 16 (.mv (.t 0))),
 dz (oz 17 (.nilck (.t 16))),
 dz (oz 18 (.fa (.t 17) 26)),
 ⟨oz 19 (.ld false 1 (.t 18)), false, [oz 19 (.ld false 1 (.t 18))], []⟩,
 ⟨oz 20 (.ld true 3 (.t 3)), false, [oz 20 (.ld true 3 (.t 3))], []⟩,
 ⟨oz 21 (.lkp (.ag [.i, .i, .i]) (.agg [(.int .i64 0), (.int .i64 0), (.int .i64 0), (.bool false)]) true (.t 19) (.t 20)), false, [oz 21 (.lkp (.ag [.i, .i, .i]) (.agg [(.int .i64 0), (.int .i64 0), (.int .i64 0), (.bool false)]) true (.t 19) (.t 20))], []⟩,
 dz (oz 15 (.mv (.t 21))),
 dz (oz 22 (.ext (.t 15) 0)),
 dz (oz 23 (.ext (.t 15) 1)),
 dz (oz 5 (.alloc (.agg [(.int .i64 0), (.int .i64 0), (.int .i64 0), (.bool false)]))),
 ⟨⟨none, .st 4 (.t 5) (.t 22), none⟩, true, [], []⟩,
 dz (oz 6 (.mv (.t 23)))])
 (.seq (.region [oz 24 (.mv (.t 6))])
 (.cond (.t 24)
 (.seq (.region [oz 25 (.ld true 4 (.t 5)),
 ⟨none, .st 4 (.t 4) (.t 25), none⟩])
 .ret)
 .skip)))
 (.seq (.region [oz 7 (.alloc (.agg [(.int .i64 0), (.int .i64 0), (.int .i64 0), (.bool false)]))])
 (.seq (.seq (.region [oz 26 (.mv (.t 0)),
 oz 27 (.nilck (.t 26)),
 oz 28 (.fa (.t 27) 0),
 oz 29 (.fa (.t 28) 0),
 oz 30 (.iaa 3 1 (.t 29) (.c (.int .i64 1))),
 oz 31 (.ld false 1 (.t 30)),
 oz 32 (.bin .add (.t 31) (.c (.int .i64 1))),
 oz 33 (.mv (.c (.int .i64 0)))])
 (.block 0
 (.loop
 (.seq (.region [oz 34 (.bin .lss (.t 33) (.t 32))])
 (.seq (.cond (.t 34)
 .skip
 (.exit 0))
 (.seq (.block 1
 (.seq (.region [oz 35 (.mv (.t 33)),
 oz 8 (.mv (.t 35))])
 (.scope (.seq .skip
 (.seq (.region [oz 36 (.mv (.t 0)),
 oz 37 (.nilck (.t 36)),
 oz 38 (.fa (.t 37) 0),
 oz 39 (.fa (.t 38) 0),
 oz 40 (.iaa 3 1 (.t 39) (.c (.int .i64 2))),
 oz 41 (.ld false 1 (.t 40)),
 oz 42 (.bin .add (.t 41) (.c (.int .i64 1))),
 oz 43 (.mv (.c (.int .i64 0)))])
 (.block 2
 (.loop
 (.seq (.region [oz 44 (.bin .lss (.t 43) (.t 42))])
 (.seq (.cond (.t 44)
 .skip
 (.exit 2))
 (.seq (.block 3
 (.seq (.region [oz 45 (.mv (.t 43)),
 oz 9 (.mv (.t 45))])
 (.seq (.region [oz 46 (.ld true 3 (.t 3)),
 oz 10 (.alloc (.agg [(.int .i64 0), (.int .i64 0), (.int .i64 0)])),
 ⟨none, .st 3 (.t 10) (.t 46), none⟩])
 (.seq (.region [oz 47 (.iaa 3 1 (.t 10) (.c (.int .i64 1))),
 oz 48 (.ld false 1 (.t 47)),
 oz 49 (.mv (.t 8)),
 oz 50 (.bin .add (.t 48) (.t 49)),
 oz 51 (.iaa 3 1 (.t 10) (.c (.int .i64 1))),
 ⟨none, .st 1 (.t 51) (.t 50), none⟩])
 (.seq (.region [oz 52 (.iaa 3 1 (.t 10) (.c (.int .i64 2))),
 oz 53 (.ld false 1 (.t 52)),
 oz 54 (.mv (.t 9)),
 oz 55 (.bin .add (.t 53) (.t 54)),
 oz 56 (.iaa 3 1 (.t 10) (.c (.int .i64 2))),
 ⟨none, .st 1 (.t 56) (.t 55), none⟩])
 (.seq (.region [oz 58 (.mv (.t 0)),
 oz 59 (.ld true 3 (.t 10)),
 oz 60 (.call (.c (.func 81 [] [])) [.t 58, .t 59]),
 oz 57 (.mv (.t 60)),
 oz 61 (.ext (.t 57) 0),
 oz 62 (.ext (.t 57) 1),
 oz 11 (.mv (.t 61)),
 oz 12 (.mv (.t 62))])
 (.seq (.seq (.region [oz 63 (.mv (.t 12)),
 oz 64 (.un .not (.t 63))])
 (.cond (.t 64)
 (.exit 3)
 .skip))
 (.seq (.region [oz 65 (.mv (.t 11)),
 oz 66 (.mv (.t 8)),
 oz 67 (.mv (.t 9)),
 oz 68 (.bld [(.int .i64 0), (.int .i64 0), (.int .i64 0)] [(0, 1, (.t 65)), (1, 1, (.t 66)), (2, 1, (.t 67))]),
 oz 69 (.bld [(.int .i64 0), (.int .i64 0), (.int .i64 0), (.bool false)] [(0, 3, (.t 68)), (3, 1, (.c (.bool true)))]),
 oz 13 (.alloc (.agg [(.int .i64 0), (.int .i64 0), (.int .i64 0), (.bool false)])),
 ⟨none, .st 4 (.t 13) (.t 69), none⟩])
 (.seq (.draw [dz (oz 70 (.fa (.t 13) 0)),
 ⟨oz 71 (.ld true 3 (.t 70)), false, [oz 71 (.ld true 3 (.t 70))], []⟩,
 ⟨oz 72 (.call (.c (.func 52 [] [])) [.t 71]), true, [], []⟩,
 dz (oz 73 (.fa (.t 7) 0)),
 ⟨oz 74 (.ld true 3 (.t 73)), false, [oz 74 (.ld true 3 (.t 73))], [2]⟩,
 ⟨oz 75 (.call (.c (.func 52 [] [])) [.t 74]), true, [], []⟩,
 dz (oz 76 (.bin .sub (.t 72) (.t 75))),
 dz (oz 14 (.mv (.t 76)))])
 (.seq (.draw [⟨oz 77 (.ld true 4 (.t 7)), false, [oz 77 (.ld true 4 (.t 7))], []⟩,
 dz (oz 78 (.bld [(.int .i64 0), (.int .i64 0), (.int .i64 0), (.bool false)] [])),
 dz (oz 79 (.eqv (.ag [.i, .i, .i, .b]) false (.t 77) (.t 78))),
 dz (oz 80 (.mv (.t 79))),
 dz (og 81 (.mv (.t 14)) 80 false),
 dz (og 82 (.bin .lss (.t 81) (.c (.int .i64 0))) 80 false),
 dz (oz 83 (.pick (.t 80) (.c (.bool true)) (.t 82))),
 dz (oz 84 (.mv (.t 83))),
 dz (og 85 (.mv (.t 14)) 84 false),
 dz (og 86 (.bin .eql (.t 85) (.c (.int .i64 0))) 84 false),
 dz (og 87 (.mv (.t 86)) 84 false),
 dz (og 88 (.fa (.t 13) 0) 87 true),
 ⟨og 89 (.slca 3 1 (.t 88) none none none) 87 true, false, [og 89 (.slca 3 1 (.t 88) none none none) 87 true], []⟩,
 dz (og 90 (.fa (.t 7) 0) 87 true),
 ⟨og 91 (.slca 3 1 (.t 90) none none none) 87 true, false, [og 91 (.slca 3 1 (.t 90) none none none) 87 true], []⟩,
 ⟨og 92 (.call (.c (.func 80 [] [])) [.t 89, .t 91]) 87 true, true, [], []⟩,
 dz (og 93 (.bin .lss (.t 92) (.c (.int .i64 0))) 87 true),
 dz (og 94 (.pick (.t 87) (.t 93) (.c (.bool false))) 84 false),
 dz (oz 95 (.pick (.t 84) (.c (.bool true)) (.t 94)))])
 (.cond (.t 95)
 (.region [oz 96 (.ld true 4 (.t 13)),
 ⟨none, .st 4 (.t 7) (.t 96), none⟩])
 .skip)))))))))))
 (.region [oz 97 (.bin .add (.t 43) (.c (.int .i64 1))),
 oz 43 (.mv (.t 97))])))))))))))
 (.region [oz 98 (.bin .add (.t 33) (.c (.int .i64 1))),
 oz 33 (.mv (.t 98))])))))))
 (.seq (.draw [dz (oz 99 (.mv (.t 0))),
 dz (oz 100 (.nilck (.t 99))),
 dz (oz 101 (.fa (.t 100) 26)),
 ⟨oz 102 (.ld false 1 (.t 101)), false, [oz 102 (.ld false 1 (.t 101))], []⟩,
 ⟨oz 103 (.ld true 3 (.t 3)), false, [oz 103 (.ld true 3 (.t 3))], []⟩,
 ⟨oz 104 (.ld true 4 (.t 7)), false, [oz 104 (.ld true 4 (.t 7))], []⟩,
 ⟨⟨none, .mapup (.ag [.i, .i, .i]) (.t 102) (.t 103) (.t 104), none⟩, true, [], []⟩])
 (.seq (.region [oz 105 (.ld true 4 (.t 7)),
 ⟨none, .st 4 (.t 4) (.t 105), none⟩])
 .ret)))))), [.cell 4 true 4]⟩
theorem c54 : compFun Tryz.prog Tryz.f54 = some ir54 := by kernel_rfl
def ir55 : IFun := ⟨36, (.seq (.region [oz 4 (.box (.t 1)),
 oz 6 (.alloc (.agg [(.int .i64 0), (.int .i64 0), (.int .i64 0)]))])
 (.seq (.seq (.region [oz 11 (.mv (.t 2)),
 oz 12 (.len false (.t 11)),
 oz 13 (.mv (.c (.int .i64 0)))])
 (.block 0
 (.loop
 (.seq (.region [oz 14 (.bin .lss (.t 13) (.t 12))])
 (.seq (.cond (.t 14)
 .skip
 (.exit 0))
 (.seq (.block 1
 (.seq (.region [oz 15 (.ia 1 (.t 11) (.t 13)),
 oz 16 (.ld false 1 (.t 15)),
 oz 8 (.mv (.t 16))])
 (.seq (.region [oz 17 (.mv (.t 0)),
 oz 18 (.mv (.t 8)),
 oz 19 (.nilck (.t 17)),
 oz 20 (.fa (.t 19) 7),
 oz 21 (.iaa 6 3 (.t 20) (.t 18)),
 oz 22 (.ld true 3 (.t 21)),
 oz 23 (.mv (.c (.int .i64 0)))])
 (.block 2
 (.loop
 (.seq (.region [oz 24 (.bin .lss (.t 23) (.c (.int .i64 3)))])
 (.seq (.cond (.t 24)
 .skip
 (.exit 2))
 (.seq (.block 3
 (.seq (.region [oz 25 (.mv (.t 23)),
 oz 26 (.ix 3 1 false (.t 22) (.t 23)),
 oz 9 (.mv (.t 25)),
 oz 10 (.mv (.t 26))])
 (.region [oz 27 (.mv (.t 9)),
 oz 28 (.iaa 3 1 (.t 4) (.t 27)),
 oz 29 (.ld false 1 (.t 28)),
 oz 30 (.mv (.t 10)),
 oz 31 (.bin .add (.t 29) (.t 30)),
 oz 32 (.iaa 3 1 (.t 4) (.t 27)),
 ⟨none, .st 1 (.t 32) (.t 31), none⟩])))
 (.region [oz 33 (.bin .add (.t 23) (.c (.int .i64 1))),
 oz 23 (.mv (.t 33))])))))))))
 (.region [oz 34 (.bin .add (.t 13) (.c (.int .i64 1))),
 oz 13 (.mv (.t 34))])))))))
 (.seq (.region [oz 35 (.ld true 3 (.t 4)),
 ⟨none, .st 3 (.t 6) (.t 35), none⟩])
 .ret))), [.cell 6 true 3]⟩
theorem c55 : compFun Tryz.prog Tryz.f55 = some ir55 := by kernel_rfl
def ir56 : IFun := ⟨16, (.seq (.region [oz 4 (.mv (.c (.int .i64 0)))])
 (.block 0
 (.loop
 (.seq (.seq (.region [oz 5 (.mv (.t 4)),
 oz 6 (.mv (.t 0)),
 oz 7 (.len false (.t 6)),
 oz 8 (.bin .lss (.t 5) (.t 7))])
 (.cond (.t 8)
 .skip
 (.exit 0)))
 (.seq (.block 1
 (.region [oz 11 (.mv (.t 1)),
 oz 12 (.mv (.t 0)),
 oz 13 (.mv (.t 4)),
 oz 14 (.ia 1 (.t 12) (.t 13)),
 oz 15 (.call (.t 11) [.t 14])]))
 (.region [oz 9 (.mv (.t 4)),
 oz 10 (.bin .add (.t 9) (.c (.int .i64 1))),
 oz 4 (.mv (.t 10))])))))), []⟩
theorem c56 : compFun Tryz.prog Tryz.f56 = some ir56 := by kernel_rfl
def ir57 : IFun := ⟨4, (.region [oz 2 (.mv (.t 0)),
 oz 3 (.nilck (.t 2)),
 ⟨none, .st 1 (.t 3) (.c (.int .i64 (-77))), none⟩]), []⟩
theorem c57 : compFun Tryz.prog Tryz.f57 = some ir57 := by kernel_rfl
def ir58 : IFun := ⟨12, (.seq (.region [oz 4 (.mv (.c (.bool false)))])
 (.seq (.region [oz 5 (.mv (.t 0)),
 oz 6 (.mv (.t 0)),
 oz 7 (.bld [(.int .i64 0), (.int .i64 0), (.int .i64 0)] []),
 oz 8 (.mv (.t 1)),
 oz 9 (.call (.c (.func 55 [] [])) [.t 6, .t 7, .t 8]),
 oz 10 (.call (.c (.func 54 [] [])) [.t 5, .t 9]),
 oz 11 (.fld false 3 1 (.t 10)),
 oz 4 (.mv (.t 11))])
 .ret)), [.tmp 4]⟩
theorem c58 : compFun Tryz.prog Tryz.f58 = some ir58 := by kernel_rfl
def ir59 : IFun := ⟨31, (.seq (.region [oz 7 (.mv (.t 0)),
 oz 8 (.mv (.t 0)),
 oz 9 (.nilck (.t 8)),
 oz 10 (.fa (.t 9) 0),
 oz 11 (.ld false 1 (.t 10)),
 oz 12 (.mv (.t 1)),
 oz 13 (.len false (.t 12)),
 oz 14 (.bldS 1 1 [(.int .i64 0)] [(0, 1, (.t 13))]),
 oz 15 (.app 1 8 (.t 11) (.t 14)),
 oz 16 (.nilck (.t 7)),
 oz 17 (.fa (.t 16) 0),
 ⟨none, .st 1 (.t 17) (.t 15), none⟩])
 (.seq (.region [oz 6 (.mv (.c (.int .i64 0)))])
 (.block 0
 (.loop
 (.seq (.seq (.region [oz 18 (.mv (.t 6)),
 oz 19 (.mv (.t 1)),
 oz 20 (.len false (.t 19)),
 oz 21 (.bin .lss (.t 18) (.t 20))])
 (.cond (.t 21)
 .skip
 (.exit 0)))
 (.seq (.block 1
 (.region [oz 24 (.mv (.t 2)),
 oz 25 (.mv (.t 0)),
 oz 26 (.mv (.t 1)),
 oz 27 (.mv (.t 6)),
 oz 28 (.ia 1 (.t 26) (.t 27)),
 oz 29 (.ld false 1 (.t 28)),
 oz 30 (.call (.t 24) [.t 25, .t 29])]))
 (.region [oz 22 (.mv (.t 6)),
 oz 23 (.bin .add (.t 22) (.c (.int .i64 1))),
 oz 6 (.mv (.t 23))]))))))), []⟩
theorem c59 : compFun Tryz.prog Tryz.f59 = some ir59 := by kernel_rfl
def ir60 : IFun := ⟨16, (.seq (.region [oz 4 (.mv (.c (.int .i64 0)))])
 (.block 0
 (.loop
 (.seq (.seq (.region [oz 5 (.mv (.t 4)),
 oz 6 (.mv (.t 0)),
 oz 7 (.len false (.t 6)),
 oz 8 (.bin .lss (.t 5) (.t 7))])
 (.cond (.t 8)
 .skip
 (.exit 0)))
 (.seq (.block 1
 (.region [oz 11 (.mv (.t 1)),
 oz 12 (.mv (.t 0)),
 oz 13 (.mv (.t 4)),
 oz 14 (.ia 1 (.t 12) (.t 13)),
 oz 15 (.call (.t 11) [.t 14])]))
 (.region [oz 9 (.mv (.t 4)),
 oz 10 (.bin .add (.t 9) (.c (.int .i64 1))),
 oz 4 (.mv (.t 10))])))))), []⟩
theorem c60 : compFun Tryz.prog Tryz.f60 = some ir60 := by kernel_rfl
def ir61 : IFun := ⟨9, (.seq (.region [oz 4 (.mv (.c (.bool false)))])
 (.seq (.region [oz 5 (.mv (.t 0)),
 oz 6 (.mv (.t 1)),
 oz 7 (.call (.c (.func 82 [] [])) [.t 5, .t 6]),
 oz 8 (.bin .geq (.t 7) (.c (.int .i64 0))),
 oz 4 (.mv (.t 8))])
 .ret)), [.tmp 4]⟩
theorem c61 : compFun Tryz.prog Tryz.f61 = some ir61 := by kernel_rfl
def ir62 : IFun := ⟨10, (.seq (.region [oz 1 (.box (.t 0)),
 oz 2 (.alloc (.bool false))])
 (.seq (.seq (.region [oz 4 (.ld false 1 (.t 1)),
 oz 5 (.call (.c (.func 53 [] [])) [.t 4])])
 (.block 0
 (.rangef (.t 5) [6]
 (.region [oz 3 (.mv (.t 6))])
 (.block 1
 (.seq (.region [oz 7 (.ld false 1 (.t 1)),
 oz 8 (.mv (.t 3)),
 oz 9 (.call (.c (.func 58 [] [])) [.t 7, .t 8])])
 (.cond (.t 9)
 (.seq (.region [⟨none, .st 1 (.t 2) (.c (.bool true)), none⟩])
 .ret)
 .skip))))))
 (.seq (.region [⟨none, .st 1 (.t 2) (.c (.bool false)), none⟩])
 .ret))), [.cell 2 false 1]⟩
theorem c62 : compFun Tryz.prog Tryz.f62 = some ir62 := by kernel_rfl
def ir63 : IFun := ⟨24, (.seq (.region [oz 2 (.alloc (.agg [(.int .i64 0), (.int .i64 0), (.int .i64 0), (.int .i64 0), .nilslice, .nilslice]))])
 (.seq (.region [oz 4 (.call (.c (.func 64 [] [])) [(.c (.int .i64 10)), (.c (.int .i64 4)), (.c (.int .i64 2))]),
 oz 5 (.call (.c (.func 64 [] [])) [(.c (.int .i64 6)), (.c (.int .i64 2)), (.c (.int .i64 2))]),
 oz 6 (.bld [(.str []), (.int .i64 0), (.int .i64 0), (.int .i64 0), (.int .i64 0), (.bool false)] [(0, 1, (.c (.str [100, 117, 107, 101]))), (1, 3, (.t 5)), (4, 1, (.c (.int .i64 45)))]),
 oz 7 (.call (.c (.func 64 [] [])) [(.c (.int .i64 8)), (.c (.int .i64 4)), (.c (.int .i64 0))]),
 oz 8 (.bld [(.str []), (.int .i64 0), (.int .i64 0), (.int .i64 0), (.int .i64 0), (.bool false)] [(0, 1, (.c (.str [116, 104, 105, 101, 102]))), (1, 3, (.t 7))]),
 oz 9 (.call (.c (.func 64 [] [])) [(.c (.int .i64 9)), (.c (.int .i64 1)), (.c (.int .i64 2))]),
 oz 10 (.bld [(.str []), (.int .i64 0), (.int .i64 0), (.int .i64 0), (.int .i64 0), (.bool false)] [(0, 1, (.c (.str [113, 117, 101, 101, 110]))), (1, 3, (.t 9)), (5, 1, (.c (.bool true)))]),
 oz 11 (.bldS 6 3 [(.str []), (.int .i64 0), (.int .i64 0), (.int .i64 0), (.int .i64 0), (.bool false)] [(0, 6, (.t 6)), (6, 6, (.t 8)), (12, 6, (.t 10))]),
 oz 12 (.call (.c (.func 83 [] [])) [(.c (.int .i64 100)), (.c (.int .i64 300))]),
 oz 13 (.call (.c (.func 83 [] [])) [(.c (.int .i64 50)), (.c (.int .i64 150))]),
 oz 14 (.bld [(.str []), (.int .i64 0), (.int .i64 0), (.int .i64 0), (.int .i64 0), (.int .i64 0)] [(0, 1, (.c (.str [98, 105, 115, 104, 111, 112]))), (1, 1, (.c (.int .i64 12))), (2, 2, (.t 12)), (4, 2, (.t 13))]),
 oz 15 (.call (.c (.func 83 [] [])) [(.c (.int .i64 150)), (.c (.int .i64 250))]),
 oz 16 (.call (.c (.func 83 [] [])) [(.c (.int .i64 50)), (.c (.int .i64 200))]),
 oz 17 (.bld [(.str []), (.int .i64 0), (.int .i64 0), (.int .i64 0), (.int .i64 0), (.int .i64 0)] [(0, 1, (.c (.str [99, 108, 111, 119, 110]))), (1, 1, (.c (.int .i64 6))), (2, 2, (.t 15)), (4, 2, (.t 16))]),
 oz 18 (.bldS 6 2 [(.str []), (.int .i64 0), (.int .i64 0), (.int .i64 0), (.int .i64 0), (.int .i64 0)] [(0, 6, (.t 14)), (6, 6, (.t 17))]),
 oz 19 (.bld [(.int .i64 0), (.int .i64 0), (.int .i64 0), (.int .i64 0), .nilslice, .nilslice] [(0, 3, (.t 4)), (3, 1, (.c (.int .i64 30))), (4, 1, (.t 11)), (5, 1, (.t 18))]),
 oz 3 (.alloc (.agg [(.int .i64 0), (.int .i64 0), (.int .i64 0), (.int .i64 0), .nilslice, .nilslice])),
 ⟨none, .st 6 (.t 3) (.t 19), none⟩])
 (.seq (.seq (.region [oz 20 (.mv (.t 0))])
 (.cond (.t 20)
 (.region [oz 21 (.call (.c (.func 64 [] [])) [(.c (.int .i64 10)), (.c (.int .i64 4)), (.c (.int .i64 0))]),
 oz 22 (.fa (.t 3) 0),
 ⟨none, .st 3 (.t 22) (.t 21), none⟩])
 .skip))
 (.seq (.region [oz 23 (.ld true 6 (.t 3)),
 ⟨none, .st 6 (.t 2) (.t 23), none⟩])
 .ret)))), [.cell 2 true 6]⟩
theorem c63 : compFun Tryz.prog Tryz.f63 = some ir63 := by kernel_rfl
def ir64 : IFun := ⟨11, (.seq (.region [oz 6 (.alloc (.agg [(.int .i64 0), (.int .i64 0), (.int .i64 0)]))])
 (.seq (.region [oz 7 (.mv (.t 0)),
 oz 8 (.mv (.t 1)),
 oz 9 (.mv (.t 2)),
 oz 10 (.bld [(.int .i64 0), (.int .i64 0), (.int .i64 0)] [(0, 1, (.t 7)), (1, 1, (.t 8)), (2, 1, (.t 9))]),
 ⟨none, .st 3 (.t 6) (.t 10), none⟩])
 .ret)), [.cell 6 true 3]⟩
theorem c64 : compFun Tryz.prog Tryz.f64 = some ir64 := by kernel_rfl
def ir65 : IFun := ⟨31, (.seq (.region [oz 4 (.mv (.c (.bool false)))])
 (.seq (.region [oz 7 (.mv (.t 0)),
 oz 8 (.len false (.t 7)),
 oz 9 (.mv (.t 1)),
 oz 10 (.len false (.t 9)),
 oz 11 (.bin .eql (.t 8) (.t 10)),
 oz 5 (.mv (.t 11))])
 (.seq (.seq (.region [oz 6 (.mv (.c (.int .i64 0)))])
 (.block 0
 (.loop
 (.seq (.seq (.region [oz 12 (.mv (.t 5)),
 oz 13 (.mv (.t 12)),
 og 14 (.mv (.t 6)) 13 true,
 og 15 (.mv (.t 0)) 13 true,
 og 16 (.len false (.t 15)) 13 true,
 og 17 (.bin .lss (.t 14) (.t 16)) 13 true,
 oz 18 (.pick (.t 13) (.t 17) (.c (.bool false)))])
 (.cond (.t 18)
 .skip
 (.exit 0)))
 (.seq (.block 1
 (.draw [dz (oz 21 (.mv (.t 0))),
 dz (oz 22 (.mv (.t 6))),
 dz (oz 23 (.ia 1 (.t 21) (.t 22))),
 ⟨oz 24 (.ld false 1 (.t 23)), false, [oz 24 (.ld false 1 (.t 23))], []⟩,
 dz (oz 25 (.mv (.t 1))),
 dz (oz 26 (.mv (.t 6))),
 dz (oz 27 (.ia 1 (.t 25) (.t 26))),
 ⟨oz 28 (.ld false 1 (.t 27)), false, [oz 28 (.ld false 1 (.t 27))], []⟩,
 dz (oz 29 (.bin .eql (.t 24) (.t 28))),
 dz (oz 5 (.mv (.t 29)))]))
 (.region [oz 19 (.mv (.t 6)),
 oz 20 (.bin .add (.t 19) (.c (.int .i64 1))),
 oz 6 (.mv (.t 20))]))))))
 (.seq (.region [oz 30 (.mv (.t 5)),
 oz 4 (.mv (.t 30))])
 .ret)))), [.tmp 4]⟩
theorem c65 : compFun Tryz.prog Tryz.f65 = some ir65 := by kernel_rfl
def ir66 : IFun := ⟨31, (.seq (.region [oz 4 (.mv (.c (.bool false)))])
 (.seq (.region [oz 7 (.mv (.t 0)),
 oz 8 (.len false (.t 7)),
 oz 9 (.mv (.t 1)),
 oz 10 (.len false (.t 9)),
 oz 11 (.bin .eql (.t 8) (.t 10)),
 oz 5 (.mv (.t 11))])
 (.seq (.seq (.region [oz 6 (.mv (.c (.int .i64 0)))])
 (.block 0
 (.loop
 (.seq (.seq (.region [oz 12 (.mv (.t 5)),
 oz 13 (.mv (.t 12)),
 og 14 (.mv (.t 6)) 13 true,
 og 15 (.mv (.t 0)) 13 true,
 og 16 (.len false (.t 15)) 13 true,
 og 17 (.bin .lss (.t 14) (.t 16)) 13 true,
 oz 18 (.pick (.t 13) (.t 17) (.c (.bool false)))])
 (.cond (.t 18)
 .skip
 (.exit 0)))
 (.seq (.block 1
 (.draw [dz (oz 21 (.mv (.t 0))),
 dz (oz 22 (.mv (.t 6))),
 dz (oz 23 (.ia 1 (.t 21) (.t 22))),
 ⟨oz 24 (.ld false 1 (.t 23)), false, [oz 24 (.ld false 1 (.t 23))], []⟩,
 dz (oz 25 (.mv (.t 1))),
 dz (oz 26 (.mv (.t 6))),
 dz (oz 27 (.ia 1 (.t 25) (.t 26))),
 ⟨oz 28 (.ld false 1 (.t 27)), false, [oz 28 (.ld false 1 (.t 27))], []⟩,
 ⟨oz 29 (.call (.c (.func 65 [] [])) [.t 24, .t 28]), true, [], []⟩,
 dz (oz 5 (.mv (.t 29)))]))
 (.region [oz 19 (.mv (.t 6)),
 oz 20 (.bin .add (.t 19) (.c (.int .i64 1))),
 oz 6 (.mv (.t 20))]))))))
 (.seq (.region [oz 30 (.mv (.t 5)),
 oz 4 (.mv (.t 30))])
 .ret)))), [.tmp 4]⟩
theorem c66 : compFun Tryz.prog Tryz.f66 = some ir66 := by kernel_rfl
def ir67 : IFun := ⟨7, (.region [oz 4 (.mv (.t 0)),
 oz 5 (.mv (.t 1)),
 oz 6 (.call (.c (.func 84 [] [])) [.t 4, .t 5, (.c (.func 85 [] []))])]), []⟩
theorem c67 : compFun Tryz.prog Tryz.f67 = some ir67 := by kernel_rfl
def ir68 : IFun := ⟨7, (.region [oz 4 (.mv (.t 0)),
 oz 5 (.mv (.t 1)),
 oz 6 (.call (.c (.func 86 [] [])) [.t 4, .t 5, (.c (.func 87 [] []))])]), []⟩
theorem c68 : compFun Tryz.prog Tryz.f68 = some ir68 := by kernel_rfl
def ir69 : IFun := ⟨9, (.seq (.region [oz 4 (.mv (.c (.bool false)))])
 (.seq (.region [oz 5 (.mv (.t 0)),
 oz 6 (.mv (.t 1)),
 oz 7 (.call (.c (.func 88 [] [])) [.t 5, .t 6]),
 oz 8 (.bin .geq (.t 7) (.c (.int .i64 0))),
 oz 4 (.mv (.t 8))])
 .ret)), [.tmp 4]⟩
theorem c69 : compFun Tryz.prog Tryz.f69 = some ir69 := by kernel_rfl
def ir70 : IFun := ⟨13, (.seq (.region [oz 4 (.mv (.c (.bool false)))])
 (.seq (.region [oz 5 (.mv (.t 0)),
 oz 6 (.ld false 1 (.t 1)),
 oz 7 (.bin .lss (.t 5) (.t 6)),
 oz 8 (.mv (.t 7)),
 og 9 (.mv (.t 0)) 8 false,
 og 10 (.ld false 1 (.t 2)) 8 false,
 og 11 (.bin .gtr (.t 9) (.t 10)) 8 false,
 oz 12 (.pick (.t 8) (.c (.bool true)) (.t 11)),
 oz 4 (.mv (.t 12))])
 .ret)), [.tmp 4]⟩
theorem c70 : compFun Tryz.prog Tryz.f70 = some ir70 := by kernel_rfl
def ir71 : IFun := ⟨19, (.seq (.region [oz 4 (.mv (.c (.int .i64 0)))])
 (.seq (.seq (.region [oz 6 (.mv (.t 0)),
 oz 7 (.len false (.t 6)),
 oz 8 (.mv (.c (.int .i64 0)))])
 (.block 0
 (.loop
 (.seq (.region [oz 9 (.bin .lss (.t 8) (.t 7))])
 (.seq (.cond (.t 9)
 .skip
 (.exit 0))
 (.seq (.block 1
 (.seq (.region [oz 10 (.mv (.t 8)),
 oz 5 (.mv (.t 10))])
 (.seq (.region [oz 11 (.mv (.t 1)),
 oz 12 (.mv (.t 0)),
 oz 13 (.mv (.t 5)),
 oz 14 (.ia 6 (.t 12) (.t 13)),
 oz 15 (.ld true 6 (.t 14)),
 oz 16 (.call (.t 11) [.t 15])])
 (.cond (.t 16)
 (.seq (.region [oz 17 (.mv (.t 5)),
 oz 4 (.mv (.t 17))])
 .ret)
 .skip))))
 (.region [oz 18 (.bin .add (.t 8) (.c (.int .i64 1))),
 oz 8 (.mv (.t 18))])))))))
 (.seq (.region [oz 4 (.mv (.c (.int .i64 (-1))))])
 .ret))), [.tmp 4]⟩
theorem c71 : compFun Tryz.prog Tryz.f71 = some ir71 := by kernel_rfl
def ir72 : IFun := ⟨19, (.seq (.region [oz 4 (.mv (.c (.int .i64 0)))])
 (.seq (.seq (.region [oz 6 (.mv (.t 0)),
 oz 7 (.len false (.t 6)),
 oz 8 (.mv (.c (.int .i64 0)))])
 (.block 0
 (.loop
 (.seq (.region [oz 9 (.bin .lss (.t 8) (.t 7))])
 (.seq (.cond (.t 9)
 .skip
 (.exit 0))
 (.seq (.block 1
 (.seq (.region [oz 10 (.mv (.t 8)),
 oz 5 (.mv (.t 10))])
 (.seq (.region [oz 11 (.mv (.t 1)),
 oz 12 (.mv (.t 0)),
 oz 13 (.mv (.t 5)),
 oz 14 (.ia 6 (.t 12) (.t 13)),
 oz 15 (.ld true 6 (.t 14)),
 oz 16 (.call (.t 11) [.t 15])])
 (.cond (.t 16)
 (.seq (.region [oz 17 (.mv (.t 5)),
 oz 4 (.mv (.t 17))])
 .ret)
 .skip))))
 (.region [oz 18 (.bin .add (.t 8) (.c (.int .i64 1))),
 oz 8 (.mv (.t 18))])))))))
 (.seq (.region [oz 4 (.mv (.c (.int .i64 (-1))))])
 .ret))), [.tmp 4]⟩
theorem c72 : compFun Tryz.prog Tryz.f72 = some ir72 := by kernel_rfl
def ir73 : IFun := ⟨5, (.seq (.region [oz 1 (.box (.t 0)),
 oz 2 (.alloc (.agg [(.int .i64 0), (.int .i64 0)]))])
 (.seq (.region [oz 3 (.fa (.t 1) 2),
 oz 4 (.ld true 2 (.t 3)),
 ⟨none, .st 2 (.t 2) (.t 4), none⟩])
 .ret)), [.cell 2 true 2]⟩
theorem c73 : compFun Tryz.prog Tryz.f73 = some ir73 := by kernel_rfl
def ir74 : IFun := ⟨5, (.seq (.region [oz 1 (.box (.t 0)),
 oz 2 (.alloc (.agg [(.int .i64 0), (.int .i64 0)]))])
 (.seq (.region [oz 3 (.fa (.t 1) 4),
 oz 4 (.ld true 2 (.t 3)),
 ⟨none, .st 2 (.t 2) (.t 4), none⟩])
 .ret)), [.cell 2 true 2]⟩
theorem c74 : compFun Tryz.prog Tryz.f74 = some ir74 := by kernel_rfl
def ir75 : IFun := ⟨42, (.seq (.region [oz 3 (.mv (.c .nilslice))])
 (.seq (.seq (.region [oz 8 (.ld false 1 (.t 1)),
 oz 9 (.nilck (.t 8)),
 oz 10 (.fa (.t 9) 0),
 oz 11 (.fa (.t 10) 4),
 oz 12 (.ld false 1 (.t 11)),
 oz 13 (.len false (.t 12)),
 oz 14 (.bin .shl (.c (.int .i64 1)) (.t 13)),
 oz 15 (.mv (.c (.int .i64 0)))])
 (.block 0
 (.loop
 (.seq (.region [oz 16 (.bin .lss (.t 15) (.t 14))])
 (.seq (.cond (.t 16)
 .skip
 (.exit 0))
 (.seq (.block 1
 (.seq (.region [oz 17 (.mv (.t 15)),
 oz 4 (.mv (.t 17))])
 (.seq (.region [oz 18 (.mv (.t 4)),
 oz 19 (.call (.c (.func 76 [] [])) [.t 18]),
 oz 5 (.mv (.t 19))])
 (.seq (.region [oz 20 (.mv (.t 5)),
 oz 21 (.mkfn 77 [] [.t 1]),
 oz 22 (.call (.c (.func 69 [] [])) [.t 20, .t 21]),
 oz 23 (.un .not (.t 22))])
 (.cond (.t 23)
 (.region [oz 24 (.mv (.t 3)),
 oz 25 (.mv (.t 5)),
 oz 26 (.bldS 1 1 [.nilslice] [(0, 1, (.t 25))]),
 oz 27 (.app 1 24 (.t 24) (.t 26)),
 oz 3 (.mv (.t 27))])
 .skip)))))
 (.region [oz 28 (.bin .add (.t 15) (.c (.int .i64 1))),
 oz 15 (.mv (.t 28))])))))))
 (.seq (.region [oz 29 (.mv (.t 3)),
 oz 30 (.call (.c (.func 78 [] [])) [.t 29, (.c (.func 79 [] []))])])
 (.seq (.region [oz 31 (.mv (.t 3)),
 oz 32 (.len false (.t 31)),
 oz 33 (.mv (.c (.int .i64 0)))])
 (.block 2
 (.loop
 (.seq (.region [oz 34 (.bin .lss (.t 33) (.t 32))])
 (.seq (.cond (.t 34)
 .skip
 (.exit 2))
 (.seq (.block 3
 (.seq (.region [oz 35 (.ia 1 (.t 31) (.t 33)),
 oz 36 (.ld false 1 (.t 35)),
 oz 7 (.mv (.t 36))])
 (.seq (.region [oz 37 (.mv (.t 0)),
 oz 38 (.mv (.t 7)),
 oz 39 (.call (.t 37) [.t 38]),
 oz 40 (.un .not (.t 39))])
 (.cond (.t 40)
 .ret
 .skip))))
 (.region [oz 41 (.bin .add (.t 33) (.c (.int .i64 1))),
 oz 33 (.mv (.t 41))])))))))))), []⟩
theorem c75 : compFun Tryz.prog Tryz.f75 = some ir75 := by kernel_rfl
def ir76 : IFun := ⟨16, (.seq (.region [oz 2 (.mv (.c .nilslice))])
 (.seq (.block 0
 (.loop
 (.seq (.seq (.region [oz 3 (.mv (.t 0)),
 oz 4 (.bin .neq (.t 3) (.c (.int .i64 0)))])
 (.cond (.t 4)
 .skip
 (.exit 0)))
 (.seq (.block 1
 (.region [oz 9 (.mv (.t 2)),
 oz 10 (.mv (.t 0)),
 oz 11 (.conv .u64 (.t 10)),
 oz 12 (.call (.c (.func 89 [] [])) [.t 11]),
 oz 13 (.bldS 1 1 [(.int .i64 0)] [(0, 1, (.t 12))]),
 oz 14 (.app 1 8 (.t 9) (.t 13)),
 oz 2 (.mv (.t 14))]))
 (.region [oz 5 (.mv (.t 0)),
 oz 6 (.mv (.t 0)),
 oz 7 (.bin .sub (.t 6) (.c (.int .i64 1))),
 oz 8 (.bin .and (.t 5) (.t 7)),
 oz 0 (.mv (.t 8))])))))
 (.seq (.region [oz 15 (.mv (.t 2)),
 oz 2 (.mv (.t 15))])
 .ret))), [.tmp 2]⟩
theorem c76 : compFun Tryz.prog Tryz.f76 = some ir76 := by kernel_rfl
def ir77 : IFun := ⟨13, (.seq (.region [oz 3 (.mv (.c (.bool false)))])
 (.seq (.region [oz 4 (.ld false 1 (.t 1)),
 oz 5 (.nilck (.t 4)),
 oz 6 (.fa (.t 5) 0),
 oz 7 (.fa (.t 6) 4),
 oz 8 (.ld false 1 (.t 7)),
 oz 9 (.mv (.t 0)),
 oz 10 (.ia 6 (.t 8) (.t 9)),
 oz 11 (.fa (.t 10) 5),
 oz 12 (.ld false 1 (.t 11)),
 oz 3 (.mv (.t 12))])
 .ret)), [.tmp 3]⟩
theorem c77 : compFun Tryz.prog Tryz.f77 = some ir77 := by kernel_rfl
def ir78 : IFun := ⟨14, (.seq (.region [oz 5 (.mv (.t 0)),
 oz 6 (.len false (.t 5)),
 oz 4 (.mv (.t 6))])
 (.region [oz 7 (.mv (.t 0)),
 oz 8 (.mv (.t 4)),
 oz 9 (.mv (.t 4)),
 oz 10 (.conv .u64 (.t 9)),
 oz 11 (.call (.c (.func 91 [] [])) [.t 10]),
 oz 12 (.mv (.t 1)),
 oz 13 (.call (.c (.func 90 [] [])) [.t 7, (.c (.int .i64 0)), .t 8, .t 11, .t 12])])), []⟩
theorem c78 : compFun Tryz.prog Tryz.f78 = some ir78 := by kernel_rfl
def ir79 : IFun := ⟨18, (.seq (.region [oz 4 (.mv (.c (.int .i64 0)))])
 (.seq (.seq (.region [oz 5 (.mv (.t 0)),
 oz 6 (.len false (.t 5)),
 oz 7 (.mv (.t 1)),
 oz 8 (.len false (.t 7)),
 oz 9 (.bin .neq (.t 6) (.t 8))])
 (.cond (.t 9)
 (.seq (.region [oz 10 (.mv (.t 0)),
 oz 11 (.len false (.t 10)),
 oz 12 (.mv (.t 1)),
 oz 13 (.len false (.t 12)),
 oz 14 (.bin .sub (.t 11) (.t 13)),
 oz 4 (.mv (.t 14))])
 .ret)
 .skip))
 (.seq (.region [oz 15 (.mv (.t 0)),
 oz 16 (.mv (.t 1)),
 oz 17 (.call (.c (.func 80 [] [])) [.t 15, .t 16]),
 oz 4 (.mv (.t 17))])
 .ret))), [.tmp 4]⟩
theorem c79 : compFun Tryz.prog Tryz.f79 = some ir79 := by kernel_rfl
def ir80 : IFun := ⟨36, (.seq (.region [oz 4 (.mv (.c (.int .i64 0)))])
 (.seq (.seq (.region [oz 9 (.mv (.t 0)),
 oz 10 (.len false (.t 9)),
 oz 11 (.mv (.c (.int .i64 0)))])
 (.block 0
 (.loop
 (.seq (.region [oz 12 (.bin .lss (.t 11) (.t 10))])
 (.seq (.cond (.t 12)
 .skip
 (.exit 0))
 (.seq (.block 1
 (.seq (.region [oz 13 (.mv (.t 11)),
 oz 14 (.ia 1 (.t 9) (.t 11)),
 oz 15 (.ld false 1 (.t 14)),
 oz 5 (.mv (.t 13)),
 oz 6 (.mv (.t 15))])
 (.seq (.seq (.region [oz 16 (.mv (.t 5)),
 oz 17 (.mv (.t 1)),
 oz 18 (.len false (.t 17)),
 oz 19 (.bin .geq (.t 16) (.t 18))])
 (.cond (.t 19)
 (.seq (.region [oz 4 (.mv (.c (.int .i64 1)))])
 .ret)
 .skip))
 (.seq (.region [oz 20 (.mv (.t 1)),
 oz 21 (.mv (.t 5)),
 oz 22 (.ia 1 (.t 20) (.t 21)),
 oz 23 (.ld false 1 (.t 22)),
 oz 7 (.mv (.t 23))])
 (.seq (.region [oz 24 (.mv (.t 6)),
 oz 25 (.mv (.t 7)),
 oz 26 (.call (.c (.func 92 [] [])) [.t 24, .t 25]),
 oz 8 (.mv (.t 26))])
 (.seq (.region [oz 27 (.mv (.t 8)),
 oz 28 (.bin .neq (.t 27) (.c (.int .i64 0)))])
 (.cond (.t 28)
 (.seq (.region [oz 29 (.mv (.t 8)),
 oz 4 (.mv (.t 29))])
 .ret)
 .skip)))))))
 (.region [oz 30 (.bin .add (.t 11) (.c (.int .i64 1))),
 oz 11 (.mv (.t 30))])))))))
 (.seq (.seq (.region [oz 31 (.mv (.t 0)),
 oz 32 (.len false (.t 31)),
 oz 33 (.mv (.t 1)),
 oz 34 (.len false (.t 33)),
 oz 35 (.bin .lss (.t 32) (.t 34))])
 (.cond (.t 35)
 (.seq (.region [oz 4 (.mv (.c (.int .i64 (-1))))])
 .ret)
 .skip))
 (.seq (.region [oz 4 (.mv (.c (.int .i64 0)))])
 .ret)))), [.tmp 4]⟩
theorem c80 : compFun Tryz.prog Tryz.f80 = some ir80 := by kernel_rfl
def ir81 : IFun := ⟨118, (.seq (.region [oz 3 (.box (.t 1)),
 oz 4 (.mv (.c (.int .i64 0))),
 oz 5 (.mv (.c (.bool false)))])
 (.seq (.draw [⟨oz 17 (.ld true 3 (.t 3)), false, [oz 17 (.ld true 3 (.t 3))], []⟩,
 ⟨oz 18 (.call (.c (.func 52 [] [])) [.t 17]), true, [], []⟩,
 dz (oz 19 (.mv (.t 0))),
 dz (oz 20 (.nilck (.t 19))),
 dz (oz 21 (.fa (.t 20) 6)),
 ⟨oz 22 (.ld false 1 (.t 21)), false, [oz 22 (.ld false 1 (.t 21))], [1]⟩,
 dz (oz 23 (.mx (.t 18) [.t 22])),
 dz (oz 6 (.mv (.t 23)))])
 (.seq (.seq (.region [oz 24 (.mv (.t 0)),
 oz 25 (.nilck (.t 24)),
 oz 26 (.fa (.t 25) 25),
 oz 27 (.ld false 1 (.t 26)),
 oz 28 (.len false (.t 27)),
 oz 29 (.mv (.c (.int .i64 0)))])
 (.block 0
 (.loop
 (.seq (.region [oz 30 (.bin .lss (.t 29) (.t 28))])
 (.seq (.cond (.t 30)
 .skip
 (.exit 0))
 (.seq (.block 1
 (.seq (.region [oz 31 (.ia 2 (.t 27) (.t 29)),
 oz 32 (.ld true 2 (.t 31)),
 oz 8 (.alloc (.agg [(.int .i64 0), .nilfunc])),
 ⟨none, .st 2 (.t 8) (.t 32), none⟩])
 (.seq (.region [oz 33 (.mv (.t 0)),
 oz 34 (.nilck (.t 33)),
 oz 35 (.fa (.t 34) 0),
 oz 36 (.fa (.t 35) 5),
 oz 37 (.ld false 1 (.t 36)),
 oz 38 (.len false (.t 37)),
 oz 39 (.mv (.c (.int .i64 0)))])
 (.block 2
 (.loop
 (.seq (.region [oz 40 (.bin .lss (.t 39) (.t 38))])
 (.seq (.cond (.t 40)
 .skip
 (.exit 2))
 (.seq (.block 3
 (.seq (.region [oz 41 (.ia 6 (.t 37) (.t 39)),
 oz 42 (.ld true 6 (.t 41)),
 oz 10 (.alloc (.agg [(.str []), (.int .i64 0), (.int .i64 0), (.int .i64 0), (.int .i64 0), (.int .i64 0)])),
 ⟨none, .st 6 (.t 10) (.t 42), none⟩])
 (.seq (.region [oz 43 (.fa (.t 8) 1),
 oz 44 (.ld false 1 (.t 43)),
 oz 45 (.ld true 6 (.t 10)),
 oz 46 (.call (.t 44) [.t 45]),
 oz 47 (.fld false 1 1 (.t 46)),
 oz 11 (.mv (.t 47))])
 (.block 4
 (.seq (.region [oz 49 (.mv (.t 11)),
 oz 50 (.bin .gtr (.t 49) (.c (.int .i64 0))),
 oz 48 (.mv (.t 50))])
 (.cond (.t 48)
 (.region [oz 51 (.mv (.t 6)),
 oz 52 (.fa (.t 8) 0),
 oz 53 (.ld false 1 (.t 52)),
 oz 54 (.iaa 3 1 (.t 3) (.t 53)),
 oz 55 (.ld false 1 (.t 54)),
 oz 56 (.bin .mul (.c (.int .i64 1000)) (.t 55)),
 oz 57 (.mv (.t 11)),
 oz 58 (.bin .add (.t 56) (.t 57)),
 oz 59 (.bin .sub (.t 58) (.c (.int .i64 1))),
 oz 60 (.mv (.t 11)),
 oz 61 (.bin .quo (.t 59) (.t 60)),
 oz 62 (.mx (.t 51) [.t 61]),
 oz 6 (.mv (.t 62))])
 (.seq (.region [oz 64 (.fa (.t 8) 0),
 oz 65 (.ld false 1 (.t 64)),
 oz 66 (.iaa 3 1 (.t 3) (.t 65)),
 oz 67 (.ld false 1 (.t 66)),
 oz 68 (.bin .gtr (.t 67) (.c (.int .i64 0))),
 oz 63 (.mv (.t 68))])
 (.cond (.t 63)
 (.seq (.region [oz 4 (.mv (.c (.int .i64 0))),
 oz 5 (.mv (.c (.bool false)))])
 .ret)
 .skip))))))))
 (.region [oz 69 (.bin .add (.t 39) (.c (.int .i64 1))),
 oz 39 (.mv (.t 69))])))))))))
 (.region [oz 70 (.bin .add (.t 29) (.c (.int .i64 1))),
 oz 29 (.mv (.t 70))])))))))
 (.seq (.seq (.region [oz 71 (.mv (.t 0)),
 oz 72 (.nilck (.t 71)),
 oz 73 (.fa (.t 72) 25),
 oz 74 (.ld false 1 (.t 73)),
 oz 75 (.len false (.t 74)),
 oz 76 (.mv (.c (.int .i64 0)))])
 (.block 5
 (.loop
 (.seq (.region [oz 77 (.bin .lss (.t 76) (.t 75))])
 (.seq (.cond (.t 77)
 .skip
 (.exit 5))
 (.seq (.block 6
 (.seq (.region [oz 78 (.ia 2 (.t 74) (.t 76)),
 oz 79 (.ld true 2 (.t 78)),
 oz 13 (.alloc (.agg [(.int .i64 0), .nilfunc])),
 ⟨none, .st 2 (.t 13) (.t 79), none⟩])
 (.seq (.region [oz 80 (.mv (.t 0)),
 oz 81 (.nilck (.t 80)),
 oz 82 (.fa (.t 81) 0),
 oz 83 (.fa (.t 82) 5),
 oz 84 (.ld false 1 (.t 83)),
 oz 85 (.len false (.t 84)),
 oz 86 (.mv (.c (.int .i64 0)))])
 (.block 7
 (.loop
 (.seq (.region [oz 87 (.bin .lss (.t 86) (.t 85))])
 (.seq (.cond (.t 87)
 .skip
 (.exit 7))
 (.seq (.block 8
 (.seq (.region [oz 88 (.ia 6 (.t 84) (.t 86)),
 oz 89 (.ld true 6 (.t 88)),
 oz 15 (.alloc (.agg [(.str []), (.int .i64 0), (.int .i64 0), (.int .i64 0), (.int .i64 0), (.int .i64 0)])),
 ⟨none, .st 6 (.t 15) (.t 89), none⟩])
 (.seq (.draw [dz (oz 90 (.fa (.t 13) 0)),
 ⟨oz 91 (.ld false 1 (.t 90)), false, [oz 91 (.ld false 1 (.t 90))], []⟩,
 dz (oz 92 (.iaa 3 1 (.t 3) (.t 91))),
 ⟨oz 93 (.ld false 1 (.t 92)), false, [oz 93 (.ld false 1 (.t 92))], []⟩,
 dz (oz 94 (.bin .mul (.c (.int .i64 1000)) (.t 93))),
 dz (oz 95 (.fa (.t 13) 1)),
 ⟨oz 96 (.ld false 1 (.t 95)), false, [oz 96 (.ld false 1 (.t 95))], []⟩,
 ⟨oz 97 (.ld true 6 (.t 15)), false, [oz 97 (.ld true 6 (.t 15))], []⟩,
 ⟨oz 98 (.call (.t 96) [.t 97]), true, [oz 91 (.ld false 1 (.t 90)), oz 93 (.ld false 1 (.t 92))], []⟩,
 dz (oz 99 (.fld false 0 1 (.t 98))),
 dz (oz 100 (.mv (.t 6))),
 dz (oz 101 (.bin .mul (.t 99) (.t 100))),
 dz (oz 102 (.bin .lss (.t 94) (.t 101)))])
 (.cond (.t 102)
 (.seq (.region [oz 4 (.mv (.c (.int .i64 0))),
 oz 5 (.mv (.c (.bool false)))])
 .ret)
 .skip))))
 (.region [oz 103 (.bin .add (.t 86) (.c (.int .i64 1))),
 oz 86 (.mv (.t 103))])))))))))
 (.region [oz 104 (.bin .add (.t 76) (.c (.int .i64 1))),
 oz 76 (.mv (.t 104))])))))))
 (.seq (.region [oz 105 (.mv (.t 6)),
 oz 106 (.ld true 3 (.t 3)),
 oz 107 (.call (.c (.func 52 [] [])) [.t 106]),
 oz 108 (.bin .sub (.t 105) (.t 107)),
 oz 16 (.mv (.t 108))])
 (.seq (.draw [dz (oz 109 (.mv (.t 16))),
 dz (oz 110 (.mv (.t 16))),
 dz (oz 111 (.mv (.t 0))),
 dz (oz 112 (.nilck (.t 111))),
 dz (oz 113 (.fa (.t 112) 0)),
 dz (oz 114 (.fa (.t 113) 0)),
 dz (oz 115 (.iaa 3 1 (.t 114) (.c (.int .i64 0)))),
 ⟨oz 116 (.ld false 1 (.t 115)), false, [oz 116 (.ld false 1 (.t 115))], []⟩,
 dz (oz 117 (.bin .leq (.t 110) (.t 116))),
 dz (oz 4 (.mv (.t 109))),
 dz (oz 5 (.mv (.t 117)))])
 .ret)))))), [.tmp 4, .tmp 5]⟩
theorem c81 : compFun Tryz.prog Tryz.f81 = some ir81 := by kernel_rfl
def ir82 : IFun := ⟨19, (.seq (.region [oz 4 (.mv (.c (.int .i64 0)))])
 (.seq (.seq (.region [oz 6 (.mv (.t 0)),
 oz 7 (.len false (.t 6)),
 oz 8 (.mv (.c (.int .i64 0)))])
 (.block 0
 (.loop
 (.seq (.region [oz 9 (.bin .lss (.t 8) (.t 7))])
 (.seq (.cond (.t 9)
 .skip
 (.exit 0))
 (.seq (.block 1
 (.seq (.region [oz 10 (.mv (.t 8)),
 oz 5 (.mv (.t 10))])
 (.seq (.region [oz 11 (.mv (.t 1)),
 oz 12 (.mv (.t 0)),
 oz 13 (.mv (.t 5)),
 oz 14 (.ia 1 (.t 12) (.t 13)),
 oz 15 (.ld false 1 (.t 14)),
 oz 16 (.bin .eql (.t 11) (.t 15))])
 (.cond (.t 16)
 (.seq (.region [oz 17 (.mv (.t 5)),
 oz 4 (.mv (.t 17))])
 .ret)
 .skip))))
 (.region [oz 18 (.bin .add (.t 8) (.c (.int .i64 1))),
 oz 8 (.mv (.t 18))])))))))
 (.seq (.region [oz 4 (.mv (.c (.int .i64 (-1))))])
 .ret))), [.tmp 4]⟩
theorem c82 : compFun Tryz.prog Tryz.f82 = some ir82 := by kernel_rfl
def ir83 : IFun := ⟨8, (.seq (.region [oz 4 (.alloc (.agg [(.int .i64 0), (.int .i64 0)]))])
 (.seq (.region [oz 5 (.mv (.t 0)),
 oz 6 (.mv (.t 1)),
 oz 7 (.bld [(.int .i64 0), (.int .i64 0)] [(0, 1, (.t 5)), (1, 1, (.t 6))]),
 ⟨none, .st 2 (.t 4) (.t 7), none⟩])
 .ret)), [.cell 4 true 2]⟩
theorem c83 : compFun Tryz.prog Tryz.f83 = some ir83 := by kernel_rfl
def ir84 : IFun := ⟨31, (.seq (.region [oz 7 (.mv (.t 0)),
 oz 8 (.mv (.t 0)),
 oz 9 (.nilck (.t 8)),
 oz 10 (.fa (.t 9) 0),
 oz 11 (.ld false 1 (.t 10)),
 oz 12 (.mv (.t 1)),
 oz 13 (.len false (.t 12)),
 oz 14 (.bldS 1 1 [(.int .i64 0)] [(0, 1, (.t 13))]),
 oz 15 (.app 1 8 (.t 11) (.t 14)),
 oz 16 (.nilck (.t 7)),
 oz 17 (.fa (.t 16) 0),
 ⟨none, .st 1 (.t 17) (.t 15), none⟩])
 (.seq (.region [oz 6 (.mv (.c (.int .i64 0)))])
 (.block 0
 (.loop
 (.seq (.seq (.region [oz 18 (.mv (.t 6)),
 oz 19 (.mv (.t 1)),
 oz 20 (.len false (.t 19)),
 oz 21 (.bin .lss (.t 18) (.t 20))])
 (.cond (.t 21)
 .skip
 (.exit 0)))
 (.seq (.block 1
 (.region [oz 24 (.mv (.t 2)),
 oz 25 (.mv (.t 0)),
 oz 26 (.mv (.t 1)),
 oz 27 (.mv (.t 6)),
 oz 28 (.ia 6 (.t 26) (.t 27)),
 oz 29 (.ld true 6 (.t 28)),
 oz 30 (.call (.t 24) [.t 25, .t 29])]))
 (.region [oz 22 (.mv (.t 6)),
 oz 23 (.bin .add (.t 22) (.c (.int .i64 1))),
 oz 6 (.mv (.t 23))]))))))), []⟩
theorem c84 : compFun Tryz.prog Tryz.f84 = some ir84 := by kernel_rfl
def ir85 : IFun := ⟨20, (.seq (.region [oz 3 (.box (.t 1))])
 (.seq (.region [oz 4 (.mv (.t 0)),
 oz 5 (.fa (.t 3) 0),
 oz 6 (.ld false 1 (.t 5)),
 oz 7 (.call (.c (.func 93 [] [])) [.t 4, .t 6])])
 (.seq (.region [oz 8 (.mv (.t 0)),
 oz 9 (.fa (.t 3) 1),
 oz 10 (.ld true 3 (.t 9)),
 oz 11 (.call (.c (.func 13 [] [])) [.t 8, .t 10])])
 (.seq (.region [oz 12 (.mv (.t 0)),
 oz 13 (.fa (.t 3) 4),
 oz 14 (.ld false 1 (.t 13)),
 oz 15 (.call (.c (.func 8 [] [])) [.t 12, .t 14])])
 (.region [oz 16 (.mv (.t 0)),
 oz 17 (.fa (.t 3) 5),
 oz 18 (.ld false 1 (.t 17)),
 oz 19 (.call (.c (.func 94 [] [])) [.t 16, .t 18])]))))), []⟩
theorem c85 : compFun Tryz.prog Tryz.f85 = some ir85 := by kernel_rfl
def ir86 : IFun := ⟨31, (.seq (.region [oz 7 (.mv (.t 0)),
 oz 8 (.mv (.t 0)),
 oz 9 (.nilck (.t 8)),
 oz 10 (.fa (.t 9) 0),
 oz 11 (.ld false 1 (.t 10)),
 oz 12 (.mv (.t 1)),
 oz 13 (.len false (.t 12)),
 oz 14 (.bldS 1 1 [(.int .i64 0)] [(0, 1, (.t 13))]),
 oz 15 (.app 1 8 (.t 11) (.t 14)),
 oz 16 (.nilck (.t 7)),
 oz 17 (.fa (.t 16) 0),
 ⟨none, .st 1 (.t 17) (.t 15), none⟩])
 (.seq (.region [oz 6 (.mv (.c (.int .i64 0)))])
 (.block 0
 (.loop
 (.seq (.seq (.region [oz 18 (.mv (.t 6)),
 oz 19 (.mv (.t 1)),
 oz 20 (.len false (.t 19)),
 oz 21 (.bin .lss (.t 18) (.t 20))])
 (.cond (.t 21)
 .skip
 (.exit 0)))
 (.seq (.block 1
 (.region [oz 24 (.mv (.t 2)),
 oz 25 (.mv (.t 0)),
 oz 26 (.mv (.t 1)),
 oz 27 (.mv (.t 6)),
 oz 28 (.ia 6 (.t 26) (.t 27)),
 oz 29 (.ld true 6 (.t 28)),
 oz 30 (.call (.t 24) [.t 25, .t 29])]))
 (.region [oz 22 (.mv (.t 6)),
 oz 23 (.bin .add (.t 22) (.c (.int .i64 1))),
 oz 6 (.mv (.t 23))]))))))), []⟩
theorem c86 : compFun Tryz.prog Tryz.f86 = some ir86 := by kernel_rfl
def ir87 : IFun := ⟨20, (.seq (.region [oz 3 (.box (.t 1))])
 (.seq (.region [oz 4 (.mv (.t 0)),
 oz 5 (.fa (.t 3) 0),
 oz 6 (.ld false 1 (.t 5)),
 oz 7 (.call (.c (.func 93 [] [])) [.t 4, .t 6])])
 (.seq (.region [oz 8 (.mv (.t 0)),
 oz 9 (.fa (.t 3) 1),
 oz 10 (.ld false 1 (.t 9)),
 oz 11 (.call (.c (.func 8 [] [])) [.t 8, .t 10])])
 (.seq (.region [oz 12 (.mv (.t 0)),
 oz 13 (.fa (.t 3) 2),
 oz 14 (.ld true 2 (.t 13)),
 oz 15 (.call (.c (.func 95 [] [])) [.t 12, .t 14])])
 (.region [oz 16 (.mv (.t 0)),
 oz 17 (.fa (.t 3) 4),
 oz 18 (.ld true 2 (.t 17)),
 oz 19 (.call (.c (.func 95 [] [])) [.t 16, .t 18])]))))), []⟩
theorem c87 : compFun Tryz.prog Tryz.f87 = some ir87 := by kernel_rfl
def ir88 : IFun := ⟨19, (.seq (.region [oz 4 (.mv (.c (.int .i64 0)))])
 (.seq (.seq (.region [oz 6 (.mv (.t 0)),
 oz 7 (.len false (.t 6)),
 oz 8 (.mv (.c (.int .i64 0)))])
 (.block 0
 (.loop
 (.seq (.region [oz 9 (.bin .lss (.t 8) (.t 7))])
 (.seq (.cond (.t 9)
 .skip
 (.exit 0))
 (.seq (.block 1
 (.seq (.region [oz 10 (.mv (.t 8)),
 oz 5 (.mv (.t 10))])
 (.seq (.region [oz 11 (.mv (.t 1)),
 oz 12 (.mv (.t 0)),
 oz 13 (.mv (.t 5)),
 oz 14 (.ia 1 (.t 12) (.t 13)),
 oz 15 (.ld false 1 (.t 14)),
 oz 16 (.call (.t 11) [.t 15])])
 (.cond (.t 16)
 (.seq (.region [oz 17 (.mv (.t 5)),
 oz 4 (.mv (.t 17))])
 .ret)
 .skip))))
 (.region [oz 18 (.bin .add (.t 8) (.c (.int .i64 1))),
 oz 8 (.mv (.t 18))])))))))
 (.seq (.region [oz 4 (.mv (.c (.int .i64 (-1))))])
 .ret))), [.tmp 4]⟩
theorem c88 : compFun Tryz.prog Tryz.f88 = some ir88 := by kernel_rfl
def ir89 : IFun := ⟨8, (.seq (.region [oz 2 (.mv (.c (.int .i64 0)))])
 (.seq (.cond (.c (.bool false))
 (.seq (.region [oz 3 (.mv (.t 0)),
 oz 4 (.conv .u32 (.t 3)),
 oz 5 (.call (.c (.func 96 [] [])) [.t 4]),
 oz 2 (.mv (.t 5))])
 .ret)
 .skip)
 (.seq (.region [oz 6 (.mv (.t 0)),
 oz 7 (.call (.c (.func 97 [] [])) [.t 6]),
 oz 2 (.mv (.t 7))])
 .ret))), [.tmp 2]⟩
theorem c89 : compFun Tryz.prog Tryz.f89 = some ir89 := by kernel_rfl
def ir90 : IFun := ⟨148, (.seq (.region [oz 10 (.mv (.c (.bool true)))])
 (.seq (.region [oz 11 (.mv (.c (.bool true)))])
 (.block 0
 (.loop
 (.block 1
 (.seq (.region [oz 21 (.mv (.t 2)),
 oz 22 (.mv (.t 1)),
 oz 23 (.bin .sub (.t 21) (.t 22)),
 oz 12 (.mv (.t 23))])
 (.seq (.seq (.region [oz 24 (.mv (.t 12)),
 oz 25 (.bin .leq (.t 24) (.c (.int .i64 12)))])
 (.cond (.t 25)
 (.seq (.region [oz 26 (.mv (.t 0)),
 oz 27 (.mv (.t 1)),
 oz 28 (.mv (.t 2)),
 oz 29 (.mv (.t 4)),
 oz 30 (.call (.c (.func 98 [] [])) [.t 26, .t 27, .t 28, .t 29])])
 .ret)
 .skip))
 (.seq (.seq (.region [oz 31 (.mv (.t 3)),
 oz 32 (.bin .eql (.t 31) (.c (.int .i64 0)))])
 (.cond (.t 32)
 (.seq (.region [oz 33 (.mv (.t 0)),
 oz 34 (.mv (.t 1)),
 oz 35 (.mv (.t 2)),
 oz 36 (.mv (.t 4)),
 oz 37 (.call (.c (.func 99 [] [])) [.t 33, .t 34, .t 35, .t 36])])
 .ret)
 .skip))
 (.seq (.seq (.region [oz 38 (.mv (.t 10)),
 oz 39 (.un .not (.t 38))])
 (.cond (.t 39)
 (.seq (.region [oz 40 (.mv (.t 0)),
 oz 41 (.mv (.t 1)),
 oz 42 (.mv (.t 2)),
 oz 43 (.mv (.t 4)),
 oz 44 (.call (.c (.func 100 [] [])) [.t 40, .t 41, .t 42, .t 43])])
 (.region [oz 45 (.mv (.t 3)),
 oz 46 (.bin .sub (.t 45) (.c (.int .i64 1))),
 oz 3 (.mv (.t 46))]))
 .skip))
 (.seq (.region [oz 48 (.mv (.t 0)),
 oz 49 (.mv (.t 1)),
 oz 50 (.mv (.t 2)),
 oz 51 (.mv (.t 4)),
 oz 52 (.call (.c (.func 101 [] [])) [.t 48, .t 49, .t 50, .t 51]),
 oz 47 (.mv (.t 52)),
 oz 53 (.ext (.t 47) 0),
 oz 54 (.ext (.t 47) 1),
 oz 13 (.mv (.t 53)),
 oz 14 (.mv (.t 54))])
 (.seq (.seq (.region [oz 55 (.mv (.t 14)),
 oz 56 (.bin .eql (.t 55) (.c (.int .i64 2)))])
 (.cond (.t 56)
 (.seq (.region [oz 57 (.mv (.t 0)),
 oz 58 (.mv (.t 1)),
 oz 59 (.mv (.t 2)),
 oz 60 (.mv (.t 4)),
 oz 61 (.call (.c (.func 102 [] [])) [.t 57, .t 58, .t 59, .t 60])])
 (.seq (.region [oz 62 (.mv (.t 2)),
 oz 63 (.bin .sub (.t 62) (.c (.int .i64 1))),
 oz 64 (.mv (.t 13)),
 oz 65 (.mv (.t 1)),
 oz 66 (.bin .sub (.t 64) (.t 65)),
 oz 67 (.bin .sub (.t 63) (.t 66)),
 oz 13 (.mv (.t 67))])
 (.region [oz 14 (.mv (.c (.int .i64 1)))])))
 .skip))
 (.seq (.seq (.region [oz 68 (.mv (.t 10)),
 oz 69 (.mv (.t 68)),
 og 70 (.mv (.t 11)) 69 true,
 oz 71 (.pick (.t 69) (.t 70) (.c (.bool false))),
 oz 72 (.mv (.t 71)),
 og 73 (.mv (.t 14)) 72 true,
 og 74 (.bin .eql (.t 73) (.c (.int .i64 1))) 72 true,
 oz 75 (.pick (.t 72) (.t 74) (.c (.bool false)))])
 (.cond (.t 75)
 (.seq (.region [oz 76 (.mv (.t 0)),
 oz 77 (.mv (.t 1)),
 oz 78 (.mv (.t 2)),
 oz 79 (.mv (.t 4)),
 oz 80 (.call (.c (.func 103 [] [])) [.t 76, .t 77, .t 78, .t 79])])
 (.cond (.t 80)
 .ret
 .skip))
 .skip))
 (.seq (.seq (.draw [dz (oz 81 (.mv (.t 1))),
 dz (oz 82 (.bin .gtr (.t 81) (.c (.int .i64 0)))),
 dz (oz 83 (.mv (.t 82))),
 dz (og 84 (.mv (.t 4)) 83 true),
 dz (og 85 (.mv (.t 0)) 83 true),
 dz (og 86 (.mv (.t 1)) 83 true),
 dz (og 87 (.bin .sub (.t 86) (.c (.int .i64 1))) 83 true),
 dz (og 88 (.ia 1 (.t 85) (.t 87)) 83 true),
 ⟨og 89 (.ld false 1 (.t 88)) 83 true, false, [og 89 (.ld false 1 (.t 88)) 83 true], []⟩,
 dz (og 90 (.mv (.t 0)) 83 true),
 dz (og 91 (.mv (.t 13)) 83 true),
 dz (og 92 (.ia 1 (.t 90) (.t 91)) 83 true),
 ⟨og 93 (.ld false 1 (.t 92)) 83 true, false, [og 93 (.ld false 1 (.t 92)) 83 true], []⟩,
 ⟨og 94 (.call (.t 84) [.t 89, .t 93]) 83 true, true, [], []⟩,
 dz (og 95 (.bin .lss (.t 94) (.c (.int .i64 0))) 83 true),
 dz (og 96 (.un .not (.t 95)) 83 true),
 dz (oz 97 (.pick (.t 83) (.t 96) (.c (.bool false))))])
 (.cond (.t 97)
 (.seq (.region [oz 98 (.mv (.t 0)),
 oz 99 (.mv (.t 1)),
 oz 100 (.mv (.t 2)),
 oz 101 (.mv (.t 13)),
 oz 102 (.mv (.t 4)),
 oz 103 (.call (.c (.func 104 [] [])) [.t 98, .t 99, .t 100, .t 101, .t 102]),
 oz 15 (.mv (.t 103))])
 (.seq (.region [oz 104 (.mv (.t 15)),
 oz 1 (.mv (.t 104))])
 (.exit 1)))
 .skip))
 (.seq (.region [oz 106 (.mv (.t 0)),
 oz 107 (.mv (.t 1)),
 oz 108 (.mv (.t 2)),
 oz 109 (.mv (.t 13)),
 oz 110 (.mv (.t 4)),
 oz 111 (.call (.c (.func 105 [] [])) [.t 106, .t 107, .t 108, .t 109, .t 110]),
 oz 105 (.mv (.t 111)),
 oz 112 (.ext (.t 105) 0),
 oz 113 (.ext (.t 105) 1),
 oz 16 (.mv (.t 112)),
 oz 17 (.mv (.t 113))])
 (.seq (.region [oz 114 (.mv (.t 17)),
 oz 11 (.mv (.t 114))])
 (.seq (.region [oz 115 (.mv (.t 16)),
 oz 116 (.mv (.t 1)),
 oz 117 (.bin .sub (.t 115) (.t 116)),
 oz 118 (.mv (.t 2)),
 oz 119 (.mv (.t 16)),
 oz 120 (.bin .sub (.t 118) (.t 119)),
 oz 18 (.mv (.t 117)),
 oz 19 (.mv (.t 120))])
 (.seq (.region [oz 121 (.mv (.t 12)),
 oz 122 (.bin .quo (.t 121) (.c (.int .i64 8))),
 oz 20 (.mv (.t 122))])
 (.seq (.region [oz 123 (.mv (.t 18)),
 oz 124 (.mv (.t 19)),
 oz 125 (.bin .lss (.t 123) (.t 124))])
 (.cond (.t 125)
 (.seq (.region [oz 126 (.mv (.t 18)),
 oz 127 (.mv (.t 20)),
 oz 128 (.bin .geq (.t 126) (.t 127)),
 oz 10 (.mv (.t 128))])
 (.seq (.region [oz 129 (.mv (.t 0)),
 oz 130 (.mv (.t 1)),
 oz 131 (.mv (.t 16)),
 oz 132 (.mv (.t 3)),
 oz 133 (.mv (.t 4)),
 oz 134 (.call (.c (.func 90 [] [])) [.t 129, .t 130, .t 131, .t 132, .t 133])])
 (.region [oz 135 (.mv (.t 16)),
 oz 136 (.bin .add (.t 135) (.c (.int .i64 1))),
 oz 1 (.mv (.t 136))])))
 (.seq (.region [oz 137 (.mv (.t 19)),
 oz 138 (.mv (.t 20)),
 oz 139 (.bin .geq (.t 137) (.t 138)),
 oz 10 (.mv (.t 139))])
 (.seq (.region [oz 140 (.mv (.t 0)),
 oz 141 (.mv (.t 16)),
 oz 142 (.bin .add (.t 141) (.c (.int .i64 1))),
 oz 143 (.mv (.t 2)),
 oz 144 (.mv (.t 3)),
 oz 145 (.mv (.t 4)),
 oz 146 (.call (.c (.func 90 [] [])) [.t 140, .t 142, .t 143, .t 144, .t 145])])
 (.region [oz 147 (.mv (.t 16)),
 oz 2 (.mv (.t 147))])))))))))))))))))))))), []⟩
theorem c90 : compFun Tryz.prog Tryz.f90 = some ir90 := by kernel_rfl
def ir91 : IFun := ⟨8, (.seq (.region [oz 2 (.mv (.c (.int .i64 0)))])
 (.seq (.cond (.c (.bool false))
 (.seq (.region [oz 3 (.mv (.t 0)),
 oz 4 (.conv .u32 (.t 3)),
 oz 5 (.call (.c (.func 106 [] [])) [.t 4]),
 oz 2 (.mv (.t 5))])
 .ret)
 .skip)
 (.seq (.region [oz 6 (.mv (.t 0)),
 oz 7 (.call (.c (.func 107 [] [])) [.t 6]),
 oz 2 (.mv (.t 7))])
 .ret))), [.tmp 2]⟩
theorem c91 : compFun Tryz.prog Tryz.f91 = some ir91 := by kernel_rfl
def ir92 : IFun := ⟨20, (.seq (.region [oz 4 (.mv (.c (.int .i64 0)))])
 (.seq (.region [oz 7 (.mv (.t 0)),
 oz 8 (.call (.c (.func 108 [] [])) [.t 7]),
 oz 5 (.mv (.t 8))])
 (.seq (.region [oz 9 (.mv (.t 1)),
 oz 10 (.call (.c (.func 108 [] [])) [.t 9]),
 oz 6 (.mv (.t 10))])
 (.seq (.seq (.region [oz 11 (.mv (.t 5))])
 (.cond (.t 11)
 (.seq (.seq (.region [oz 12 (.mv (.t 6))])
 (.cond (.t 12)
 (.seq (.region [oz 4 (.mv (.c (.int .i64 0)))])
 .ret)
 .skip))
 (.seq (.region [oz 4 (.mv (.c (.int .i64 (-1))))])
 .ret))
 .skip))
 (.seq (.seq (.region [oz 13 (.mv (.t 6))])
 (.cond (.t 13)
 (.seq (.region [oz 4 (.mv (.c (.int .i64 1)))])
 .ret)
 .skip))
 (.seq (.seq (.region [oz 14 (.mv (.t 0)),
 oz 15 (.mv (.t 1)),
 oz 16 (.bin .lss (.t 14) (.t 15))])
 (.cond (.t 16)
 (.seq (.region [oz 4 (.mv (.c (.int .i64 (-1))))])
 .ret)
 .skip))
 (.seq (.seq (.region [oz 17 (.mv (.t 0)),
 oz 18 (.mv (.t 1)),
 oz 19 (.bin .gtr (.t 17) (.t 18))])
 (.cond (.t 19)
 (.seq (.region [oz 4 (.mv (.c (.int .i64 1)))])
 .ret)
 .skip))
 (.seq (.region [oz 4 (.mv (.c (.int .i64 0)))])
 .ret)))))))), [.tmp 4]⟩
theorem c92 : compFun Tryz.prog Tryz.f92 = some ir92 := by kernel_rfl
def ir93 : IFun := ⟨14, (.region [oz 4 (.mv (.t 0)),
 oz 5 (.mv (.t 0)),
 oz 6 (.nilck (.t 5)),
 oz 7 (.fa (.t 6) 1),
 oz 8 (.ld false 1 (.t 7)),
 oz 9 (.mv (.t 1)),
 oz 10 (.bldS 1 1 [(.str [])] [(0, 1, (.t 9))]),
 oz 11 (.app 1 16 (.t 8) (.t 10)),
 oz 12 (.nilck (.t 4)),
 oz 13 (.fa (.t 12) 1),
 ⟨none, .st 1 (.t 13) (.t 11), none⟩]), []⟩
theorem c93 : compFun Tryz.prog Tryz.f93 = some ir93 := by kernel_rfl
def ir94 : IFun := ⟨16, (.seq (.region [oz 4 (.mv (.c (.int .i64 0)))])
 (.seq (.seq (.region [oz 5 (.mv (.t 1))])
 (.cond (.t 5)
 (.region [oz 4 (.mv (.c (.int .i64 1)))])
 .skip))
 (.region [oz 6 (.mv (.t 0)),
 oz 7 (.mv (.t 0)),
 oz 8 (.nilck (.t 7)),
 oz 9 (.fa (.t 8) 0),
 oz 10 (.ld false 1 (.t 9)),
 oz 11 (.mv (.t 4)),
 oz 12 (.bldS 1 1 [(.int .i64 0)] [(0, 1, (.t 11))]),
 oz 13 (.app 1 8 (.t 10) (.t 12)),
 oz 14 (.nilck (.t 6)),
 oz 15 (.fa (.t 14) 0),
 ⟨none, .st 1 (.t 15) (.t 13), none⟩]))), []⟩
theorem c94 : compFun Tryz.prog Tryz.f94 = some ir94 := by kernel_rfl
def ir95 : IFun := ⟨12, (.seq (.region [oz 3 (.box (.t 1))])
 (.seq (.region [oz 4 (.mv (.t 0)),
 oz 5 (.fa (.t 3) 0),
 oz 6 (.ld false 1 (.t 5)),
 oz 7 (.call (.c (.func 8 [] [])) [.t 4, .t 6])])
 (.region [oz 8 (.mv (.t 0)),
 oz 9 (.fa (.t 3) 1),
 oz 10 (.ld false 1 (.t 9)),
 oz 11 (.call (.c (.func 8 [] [])) [.t 8, .t 10])]))), []⟩
theorem c95 : compFun Tryz.prog Tryz.f95 = some ir95 := by kernel_rfl
def ir97 : IFun := ⟨14, (.seq (.region [oz 2 (.mv (.c (.int .i64 0)))])
 (.seq (.seq (.region [oz 3 (.mv (.t 0)),
 oz 4 (.bin .eql (.t 3) (.c (.int .u64 0)))])
 (.cond (.t 4)
 (.seq (.region [oz 2 (.mv (.c (.int .i64 64)))])
 .ret)
 .skip))
 (.seq (.region [oz 5 (.mv (.t 0)),
 oz 6 (.mv (.t 0)),
 oz 7 (.un .neg (.t 6)),
 oz 8 (.bin .and (.t 5) (.t 7)),
 oz 9 (.bin .mul (.t 8) (.c (.int .u64 285870213051353865))),
 oz 10 (.bin .shr (.t 9) (.c (.int .u64 58))),
 oz 11 (.iaa 64 1 (.c (.ptr 1 0)) (.t 10)),
 oz 12 (.ld false 1 (.t 11)),
 oz 13 (.conv .i64 (.t 12)),
 oz 2 (.mv (.t 13))])
 .ret))), [.tmp 2]⟩
theorem c97 : compFun Tryz.prog Tryz.f97 = some ir97 := by kernel_rfl
def ir98 : IFun := ⟨53, (.seq (.region [oz 10 (.mv (.t 1)),
 oz 11 (.bin .add (.t 10) (.c (.int .i64 1))),
 oz 8 (.mv (.t 11))])
 (.block 0
 (.loop
 (.seq (.seq (.region [oz 12 (.mv (.t 8)),
 oz 13 (.mv (.t 2)),
 oz 14 (.bin .lss (.t 12) (.t 13))])
 (.cond (.t 14)
 .skip
 (.exit 0)))
 (.seq (.block 1
 (.seq (.region [oz 17 (.mv (.t 8)),
 oz 9 (.mv (.t 17))])
 (.block 2
 (.loop
 (.seq (.seq (.draw [dz (oz 18 (.mv (.t 9))),
 dz (oz 19 (.mv (.t 1))),
 dz (oz 20 (.bin .gtr (.t 18) (.t 19))),
 dz (oz 21 (.mv (.t 20))),
 dz (og 22 (.mv (.t 3)) 21 true),
 dz (og 23 (.mv (.t 0)) 21 true),
 dz (og 24 (.mv (.t 9)) 21 true),
 dz (og 25 (.ia 1 (.t 23) (.t 24)) 21 true),
 ⟨og 26 (.ld false 1 (.t 25)) 21 true, false, [og 26 (.ld false 1 (.t 25)) 21 true], []⟩,
 dz (og 27 (.mv (.t 0)) 21 true),
 dz (og 28 (.mv (.t 9)) 21 true),
 dz (og 29 (.bin .sub (.t 28) (.c (.int .i64 1))) 21 true),
 dz (og 30 (.ia 1 (.t 27) (.t 29)) 21 true),
 ⟨og 31 (.ld false 1 (.t 30)) 21 true, false, [og 31 (.ld false 1 (.t 30)) 21 true], []⟩,
 ⟨og 32 (.call (.t 22) [.t 26, .t 31]) 21 true, true, [], []⟩,
 dz (og 33 (.bin .lss (.t 32) (.c (.int .i64 0))) 21 true),
 dz (oz 34 (.pick (.t 21) (.t 33) (.c (.bool false))))])
 (.cond (.t 34)
 .skip
 (.exit 2)))
 (.seq (.block 3
 (.draw [dz (oz 37 (.mv (.t 0))),
 dz (oz 38 (.mv (.t 9))),
 dz (oz 39 (.mv (.t 0))),
 dz (oz 40 (.mv (.t 9))),
 dz (oz 41 (.bin .sub (.t 40) (.c (.int .i64 1)))),
 dz (oz 42 (.mv (.t 0))),
 dz (oz 43 (.mv (.t 9))),
 dz (oz 44 (.bin .sub (.t 43) (.c (.int .i64 1)))),
 dz (oz 45 (.ia 1 (.t 42) (.t 44))),
 ⟨oz 46 (.ld false 1 (.t 45)), false, [oz 46 (.ld false 1 (.t 45))], []⟩,
 dz (oz 47 (.mv (.t 0))),
 dz (oz 48 (.mv (.t 9))),
 dz (oz 49 (.ia 1 (.t 47) (.t 48))),
 ⟨oz 50 (.ld false 1 (.t 49)), false, [oz 50 (.ld false 1 (.t 49))], []⟩,
 dz (oz 51 (.ia 1 (.t 37) (.t 38))),
 ⟨⟨none, .st 1 (.t 51) (.t 46), none⟩, true, [], []⟩,
 dz (oz 52 (.ia 1 (.t 39) (.t 41))),
 ⟨⟨none, .st 1 (.t 52) (.t 50), none⟩, true, [], []⟩]))
 (.region [oz 35 (.mv (.t 9)),
 oz 36 (.bin .sub (.t 35) (.c (.int .i64 1))),
 oz 9 (.mv (.t 36))])))))))
 (.region [oz 15 (.mv (.t 8)),
 oz 16 (.bin .add (.t 15) (.c (.int .i64 1))),
 oz 8 (.mv (.t 16))])))))), []⟩
theorem c98 : compFun Tryz.prog Tryz.f98 = some ir98 := by kernel_rfl
def ir99 : IFun := ⟨60, (.seq (.region [oz 13 (.mv (.t 1)),
 oz 8 (.mv (.t 13))])
 (.seq (.region [oz 9 (.mv (.c (.int .i64 0)))])
 (.seq (.region [oz 14 (.mv (.t 2)),
 oz 15 (.mv (.t 1)),
 oz 16 (.bin .sub (.t 14) (.t 15)),
 oz 10 (.mv (.t 16))])
 (.seq (.seq (.region [oz 17 (.mv (.t 10)),
 oz 18 (.bin .sub (.t 17) (.c (.int .i64 1))),
 oz 19 (.bin .quo (.t 18) (.c (.int .i64 2))),
 oz 11 (.mv (.t 19))])
 (.block 0
 (.loop
 (.seq (.seq (.region [oz 20 (.mv (.t 11)),
 oz 21 (.bin .geq (.t 20) (.c (.int .i64 0)))])
 (.cond (.t 21)
 .skip
 (.exit 0)))
 (.seq (.block 1
 (.region [oz 24 (.mv (.t 0)),
 oz 25 (.mv (.t 11)),
 oz 26 (.mv (.t 10)),
 oz 27 (.mv (.t 8)),
 oz 28 (.mv (.t 3)),
 oz 29 (.call (.c (.func 109 [] [])) [.t 24, .t 25, .t 26, .t 27, .t 28])]))
 (.region [oz 22 (.mv (.t 11)),
 oz 23 (.bin .sub (.t 22) (.c (.int .i64 1))),
 oz 11 (.mv (.t 23))]))))))
 (.seq (.region [oz 30 (.mv (.t 10)),
 oz 31 (.bin .sub (.t 30) (.c (.int .i64 1))),
 oz 12 (.mv (.t 31))])
 (.block 2
 (.loop
 (.seq (.seq (.region [oz 32 (.mv (.t 12)),
 oz 33 (.bin .geq (.t 32) (.c (.int .i64 0)))])
 (.cond (.t 33)
 .skip
 (.exit 2)))
 (.seq (.block 3
 (.seq (.draw [dz (oz 36 (.mv (.t 0))),
 dz (oz 37 (.mv (.t 8))),
 dz (oz 38 (.mv (.t 0))),
 dz (oz 39 (.mv (.t 8))),
 dz (oz 40 (.mv (.t 12))),
 dz (oz 41 (.bin .add (.t 39) (.t 40))),
 dz (oz 42 (.mv (.t 0))),
 dz (oz 43 (.mv (.t 8))),
 dz (oz 44 (.mv (.t 12))),
 dz (oz 45 (.bin .add (.t 43) (.t 44))),
 dz (oz 46 (.ia 1 (.t 42) (.t 45))),
 ⟨oz 47 (.ld false 1 (.t 46)), false, [oz 47 (.ld false 1 (.t 46))], []⟩,
 dz (oz 48 (.mv (.t 0))),
 dz (oz 49 (.mv (.t 8))),
 dz (oz 50 (.ia 1 (.t 48) (.t 49))),
 ⟨oz 51 (.ld false 1 (.t 50)), false, [oz 51 (.ld false 1 (.t 50))], []⟩,
 dz (oz 52 (.ia 1 (.t 36) (.t 37))),
 ⟨⟨none, .st 1 (.t 52) (.t 47), none⟩, true, [], []⟩,
 dz (oz 53 (.ia 1 (.t 38) (.t 41))),
 ⟨⟨none, .st 1 (.t 53) (.t 51), none⟩, true, [], []⟩])
 (.region [oz 54 (.mv (.t 0)),
 oz 55 (.mv (.t 9)),
 oz 56 (.mv (.t 12)),
 oz 57 (.mv (.t 8)),
 oz 58 (.mv (.t 3)),
 oz 59 (.call (.c (.func 109 [] [])) [.t 54, .t 55, .t 56, .t 57, .t 58])])))
 (.region [oz 34 (.mv (.t 12)),
 oz 35 (.bin .sub (.t 34) (.c (.int .i64 1))),
 oz 12 (.mv (.t 35))])))))))))), []⟩
theorem c99 : compFun Tryz.prog Tryz.f99 = some ir99 := by kernel_rfl
def ir100 : IFun := ⟨67, (.seq (.region [oz 13 (.mv (.t 2)),
 oz 14 (.mv (.t 1)),
 oz 15 (.bin .sub (.t 13) (.t 14)),
 oz 8 (.mv (.t 15))])
 (.seq (.region [oz 16 (.mv (.t 8)),
 oz 17 (.bin .geq (.t 16) (.c (.int .i64 8)))])
 (.cond (.t 17)
 (.seq (.region [oz 18 (.mv (.t 8)),
 oz 19 (.conv .u64 (.t 18)),
 oz 9 (.alloc (.int .u64 0)),
 ⟨none, .st 1 (.t 9) (.t 19), none⟩])
 (.seq (.region [oz 20 (.mv (.t 8)),
 oz 21 (.call (.c (.func 110 [] [])) [.t 20]),
 oz 10 (.mv (.t 21))])
 (.seq (.region [oz 22 (.mv (.t 1)),
 oz 23 (.mv (.t 8)),
 oz 24 (.bin .quo (.t 23) (.c (.int .i64 4))),
 oz 25 (.bin .mul (.t 24) (.c (.int .i64 2))),
 oz 26 (.bin .add (.t 22) (.t 25)),
 oz 27 (.bin .sub (.t 26) (.c (.int .i64 1))),
 oz 11 (.mv (.t 27))])
 (.block 0
 (.loop
 (.seq (.seq (.region [oz 28 (.mv (.t 11)),
 oz 29 (.mv (.t 1)),
 oz 30 (.mv (.t 8)),
 oz 31 (.bin .quo (.t 30) (.c (.int .i64 4))),
 oz 32 (.bin .mul (.t 31) (.c (.int .i64 2))),
 oz 33 (.bin .add (.t 29) (.t 32)),
 oz 34 (.bin .add (.t 33) (.c (.int .i64 1))),
 oz 35 (.bin .leq (.t 28) (.t 34))])
 (.cond (.t 35)
 .skip
 (.exit 0)))
 (.seq (.block 1
 (.seq (.region [oz 38 (.call (.c (.func 111 [] [])) [.t 9]),
 oz 39 (.mv (.t 10)),
 oz 40 (.bin .sub (.t 39) (.c (.int .u64 1))),
 oz 41 (.bin .and (.t 38) (.t 40)),
 oz 42 (.conv .i64 (.t 41)),
 oz 12 (.mv (.t 42))])
 (.seq (.seq (.region [oz 43 (.mv (.t 12)),
 oz 44 (.mv (.t 8)),
 oz 45 (.bin .geq (.t 43) (.t 44))])
 (.cond (.t 45)
 (.region [oz 46 (.mv (.t 12)),
 oz 47 (.mv (.t 8)),
 oz 48 (.bin .sub (.t 46) (.t 47)),
 oz 12 (.mv (.t 48))])
 .skip))
 (.draw [dz (oz 49 (.mv (.t 0))),
 dz (oz 50 (.mv (.t 11))),
 dz (oz 51 (.mv (.t 0))),
 dz (oz 52 (.mv (.t 1))),
 dz (oz 53 (.mv (.t 12))),
 dz (oz 54 (.bin .add (.t 52) (.t 53))),
 dz (oz 55 (.mv (.t 0))),
 dz (oz 56 (.mv (.t 1))),
 dz (oz 57 (.mv (.t 12))),
 dz (oz 58 (.bin .add (.t 56) (.t 57))),
 dz (oz 59 (.ia 1 (.t 55) (.t 58))),
 ⟨oz 60 (.ld false 1 (.t 59)), false, [oz 60 (.ld false 1 (.t 59))], []⟩,
 dz (oz 61 (.mv (.t 0))),
 dz (oz 62 (.mv (.t 11))),
 dz (oz 63 (.ia 1 (.t 61) (.t 62))),
 ⟨oz 64 (.ld false 1 (.t 63)), false, [oz 64 (.ld false 1 (.t 63))], []⟩,
 dz (oz 65 (.ia 1 (.t 49) (.t 50))),
 ⟨⟨none, .st 1 (.t 65) (.t 60), none⟩, true, [], []⟩,
 dz (oz 66 (.ia 1 (.t 51) (.t 54))),
 ⟨⟨none, .st 1 (.t 66) (.t 64), none⟩, true, [], []⟩]))))
 (.region [oz 36 (.mv (.t 11)),
 oz 37 (.bin .add (.t 36) (.c (.int .i64 1))),
 oz 11 (.mv (.t 37))]))))))))
 .skip))), []⟩
theorem c100 : compFun Tryz.prog Tryz.f100 = some ir100 := by kernel_rfl
def ir101 : IFun := ⟨63, (.seq (.region [oz 8 (.mv (.c (.int .i64 0))),
 oz 9 (.mv (.c (.int .i64 0)))])
 (.seq (.region [oz 15 (.mv (.t 2)),
 oz 16 (.mv (.t 1)),
 oz 17 (.bin .sub (.t 15) (.t 16)),
 oz 10 (.mv (.t 17))])
 (.seq (.region [oz 11 (.alloc (.int .i64 0))])
 (.seq (.region [oz 18 (.mv (.t 1)),
 oz 19 (.mv (.t 10)),
 oz 20 (.bin .quo (.t 19) (.c (.int .i64 4))),
 oz 21 (.bin .mul (.t 20) (.c (.int .i64 1))),
 oz 22 (.bin .add (.t 18) (.t 21)),
 oz 12 (.mv (.t 22))])
 (.seq (.region [oz 23 (.mv (.t 1)),
 oz 24 (.mv (.t 10)),
 oz 25 (.bin .quo (.t 24) (.c (.int .i64 4))),
 oz 26 (.bin .mul (.t 25) (.c (.int .i64 2))),
 oz 27 (.bin .add (.t 23) (.t 26)),
 oz 13 (.mv (.t 27))])
 (.seq (.region [oz 28 (.mv (.t 1)),
 oz 29 (.mv (.t 10)),
 oz 30 (.bin .quo (.t 29) (.c (.int .i64 4))),
 oz 31 (.bin .mul (.t 30) (.c (.int .i64 3))),
 oz 32 (.bin .add (.t 28) (.t 31)),
 oz 14 (.mv (.t 32))])
 (.seq (.seq (.region [oz 33 (.mv (.t 10)),
 oz 34 (.bin .geq (.t 33) (.c (.int .i64 8)))])
 (.cond (.t 34)
 (.seq (.seq (.region [oz 35 (.mv (.t 10)),
 oz 36 (.bin .geq (.t 35) (.c (.int .i64 50)))])
 (.cond (.t 36)
 (.seq (.region [oz 37 (.mv (.t 0)),
 oz 38 (.mv (.t 12)),
 oz 39 (.mv (.t 3)),
 oz 40 (.call (.c (.func 112 [] [])) [.t 37, .t 38, .t 11, .t 39]),
 oz 12 (.mv (.t 40))])
 (.seq (.region [oz 41 (.mv (.t 0)),
 oz 42 (.mv (.t 13)),
 oz 43 (.mv (.t 3)),
 oz 44 (.call (.c (.func 112 [] [])) [.t 41, .t 42, .t 11, .t 43]),
 oz 13 (.mv (.t 44))])
 (.region [oz 45 (.mv (.t 0)),
 oz 46 (.mv (.t 14)),
 oz 47 (.mv (.t 3)),
 oz 48 (.call (.c (.func 112 [] [])) [.t 45, .t 46, .t 11, .t 47]),
 oz 14 (.mv (.t 48))])))
 .skip))
 (.region [oz 49 (.mv (.t 0)),
 oz 50 (.mv (.t 12)),
 oz 51 (.mv (.t 13)),
 oz 52 (.mv (.t 14)),
 oz 53 (.mv (.t 3)),
 oz 54 (.call (.c (.func 113 [] [])) [.t 49, .t 50, .t 51, .t 52, .t 11, .t 53]),
 oz 13 (.mv (.t 54))]))
 .skip))
 (.seq (.region [oz 55 (.ld false 1 (.t 11))])
 (.block 0
 (.seq (.region [oz 58 (.bin .eql (.t 55) (.c (.int .i64 0))),
 oz 57 (.mv (.t 58))])
 (.cond (.t 57)
 (.seq (.region [oz 59 (.mv (.t 13)),
 oz 8 (.mv (.t 59)),
 oz 9 (.mv (.c (.int .i64 1)))])
 .ret)
 (.seq (.region [oz 61 (.bin .eql (.t 55) (.c (.int .i64 12))),
 oz 60 (.mv (.t 61))])
 (.cond (.t 60)
 (.seq (.region [oz 62 (.mv (.t 13)),
 oz 8 (.mv (.t 62)),
 oz 9 (.mv (.c (.int .i64 2)))])
 .ret)
 (.seq (.region [oz 56 (.mv (.t 13)),
 oz 8 (.mv (.t 56)),
 oz 9 (.mv (.c (.int .i64 0)))])
 .ret)))))))))))))), [.tmp 8, .tmp 9]⟩
theorem c101 : compFun Tryz.prog Tryz.f101 = some ir101 := by kernel_rfl
def ir102 : IFun := ⟨34, (.seq (.region [oz 10 (.mv (.t 1)),
 oz 8 (.mv (.t 10))])
 (.seq (.region [oz 11 (.mv (.t 2)),
 oz 12 (.bin .sub (.t 11) (.c (.int .i64 1))),
 oz 9 (.mv (.t 12))])
 (.block 0
 (.loop
 (.seq (.seq (.region [oz 13 (.mv (.t 8)),
 oz 14 (.mv (.t 9)),
 oz 15 (.bin .lss (.t 13) (.t 14))])
 (.cond (.t 15)
 .skip
 (.exit 0)))
 (.block 1
 (.seq (.draw [dz (oz 16 (.mv (.t 0))),
 dz (oz 17 (.mv (.t 8))),
 dz (oz 18 (.mv (.t 0))),
 dz (oz 19 (.mv (.t 9))),
 dz (oz 20 (.mv (.t 0))),
 dz (oz 21 (.mv (.t 9))),
 dz (oz 22 (.ia 1 (.t 20) (.t 21))),
 ⟨oz 23 (.ld false 1 (.t 22)), false, [oz 23 (.ld false 1 (.t 22))], []⟩,
 dz (oz 24 (.mv (.t 0))),
 dz (oz 25 (.mv (.t 8))),
 dz (oz 26 (.ia 1 (.t 24) (.t 25))),
 ⟨oz 27 (.ld false 1 (.t 26)), false, [oz 27 (.ld false 1 (.t 26))], []⟩,
 dz (oz 28 (.ia 1 (.t 16) (.t 17))),
 ⟨⟨none, .st 1 (.t 28) (.t 23), none⟩, true, [], []⟩,
 dz (oz 29 (.ia 1 (.t 18) (.t 19))),
 ⟨⟨none, .st 1 (.t 29) (.t 27), none⟩, true, [], []⟩])
 (.seq (.region [oz 30 (.mv (.t 8)),
 oz 31 (.bin .add (.t 30) (.c (.int .i64 1))),
 oz 8 (.mv (.t 31))])
 (.region [oz 32 (.mv (.t 9)),
 oz 33 (.bin .sub (.t 32) (.c (.int .i64 1))),
 oz 9 (.mv (.t 33))]))))))))), []⟩
theorem c102 : compFun Tryz.prog Tryz.f102 = some ir102 := by kernel_rfl
def ir103 : IFun := ⟨141, (.seq (.region [oz 8 (.mv (.c (.bool false)))])
 (.seq (.region [oz 13 (.mv (.t 1)),
 oz 14 (.bin .add (.t 13) (.c (.int .i64 1))),
 oz 9 (.mv (.t 14))])
 (.seq (.seq (.region [oz 10 (.mv (.c (.int .i64 0)))])
 (.block 0
 (.loop
 (.seq (.seq (.region [oz 15 (.mv (.t 10)),
 oz 16 (.bin .lss (.t 15) (.c (.int .i64 5)))])
 (.cond (.t 16)
 .skip
 (.exit 0)))
 (.seq (.block 1
 (.seq (.block 2
 (.loop
 (.seq (.seq (.draw [dz (oz 19 (.mv (.t 9))),
 dz (oz 20 (.mv (.t 2))),
 dz (oz 21 (.bin .lss (.t 19) (.t 20))),
 dz (oz 22 (.mv (.t 21))),
 dz (og 23 (.mv (.t 3)) 22 true),
 dz (og 24 (.mv (.t 0)) 22 true),
 dz (og 25 (.mv (.t 9)) 22 true),
 dz (og 26 (.ia 1 (.t 24) (.t 25)) 22 true),
 ⟨og 27 (.ld false 1 (.t 26)) 22 true, false, [og 27 (.ld false 1 (.t 26)) 22 true], []⟩,
 dz (og 28 (.mv (.t 0)) 22 true),
 dz (og 29 (.mv (.t 9)) 22 true),
 dz (og 30 (.bin .sub (.t 29) (.c (.int .i64 1))) 22 true),
 dz (og 31 (.ia 1 (.t 28) (.t 30)) 22 true),
 ⟨og 32 (.ld false 1 (.t 31)) 22 true, false, [og 32 (.ld false 1 (.t 31)) 22 true], []⟩,
 ⟨og 33 (.call (.t 23) [.t 27, .t 32]) 22 true, true, [], []⟩,
 dz (og 34 (.bin .lss (.t 33) (.c (.int .i64 0))) 22 true),
 dz (og 35 (.un .not (.t 34)) 22 true),
 dz (oz 36 (.pick (.t 22) (.t 35) (.c (.bool false))))])
 (.cond (.t 36)
 .skip
 (.exit 2)))
 (.block 3
 (.region [oz 37 (.mv (.t 9)),
 oz 38 (.bin .add (.t 37) (.c (.int .i64 1))),
 oz 9 (.mv (.t 38))])))))
 (.seq (.seq (.region [oz 39 (.mv (.t 9)),
 oz 40 (.mv (.t 2)),
 oz 41 (.bin .eql (.t 39) (.t 40))])
 (.cond (.t 41)
 (.seq (.region [oz 8 (.mv (.c (.bool true)))])
 .ret)
 .skip))
 (.seq (.seq (.region [oz 42 (.mv (.t 2)),
 oz 43 (.mv (.t 1)),
 oz 44 (.bin .sub (.t 42) (.t 43)),
 oz 45 (.bin .lss (.t 44) (.c (.int .i64 50)))])
 (.cond (.t 45)
 (.seq (.region [oz 8 (.mv (.c (.bool false)))])
 .ret)
 .skip))
 (.seq (.draw [dz (oz 46 (.mv (.t 0))),
 dz (oz 47 (.mv (.t 9))),
 dz (oz 48 (.mv (.t 0))),
 dz (oz 49 (.mv (.t 9))),
 dz (oz 50 (.bin .sub (.t 49) (.c (.int .i64 1)))),
 dz (oz 51 (.mv (.t 0))),
 dz (oz 52 (.mv (.t 9))),
 dz (oz 53 (.bin .sub (.t 52) (.c (.int .i64 1)))),
 dz (oz 54 (.ia 1 (.t 51) (.t 53))),
 ⟨oz 55 (.ld false 1 (.t 54)), false, [oz 55 (.ld false 1 (.t 54))], []⟩,
 dz (oz 56 (.mv (.t 0))),
 dz (oz 57 (.mv (.t 9))),
 dz (oz 58 (.ia 1 (.t 56) (.t 57))),
 ⟨oz 59 (.ld false 1 (.t 58)), false, [oz 59 (.ld false 1 (.t 58))], []⟩,
 dz (oz 60 (.ia 1 (.t 46) (.t 47))),
 ⟨⟨none, .st 1 (.t 60) (.t 55), none⟩, true, [], []⟩,
 dz (oz 61 (.ia 1 (.t 48) (.t 50))),
 ⟨⟨none, .st 1 (.t 61) (.t 59), none⟩, true, [], []⟩])
 (.seq (.seq (.region [oz 62 (.mv (.t 9)),
 oz 63 (.mv (.t 1)),
 oz 64 (.bin .sub (.t 62) (.t 63)),
 oz 65 (.bin .geq (.t 64) (.c (.int .i64 2)))])
 (.cond (.t 65)
 (.seq (.region [oz 66 (.mv (.t 9)),
 oz 67 (.bin .sub (.t 66) (.c (.int .i64 1))),
 oz 11 (.mv (.t 67))])
 (.block 4
 (.loop
 (.seq (.seq (.region [oz 68 (.mv (.t 11)),
 oz 69 (.bin .geq (.t 68) (.c (.int .i64 1)))])
 (.cond (.t 69)
 .skip
 (.exit 4)))
 (.seq (.block 5
 (.seq (.seq (.draw [dz (oz 72 (.mv (.t 3))),
 dz (oz 73 (.mv (.t 0))),
 dz (oz 74 (.mv (.t 11))),
 dz (oz 75 (.ia 1 (.t 73) (.t 74))),
 ⟨oz 76 (.ld false 1 (.t 75)), false, [oz 76 (.ld false 1 (.t 75))], []⟩,
 dz (oz 77 (.mv (.t 0))),
 dz (oz 78 (.mv (.t 11))),
 dz (oz 79 (.bin .sub (.t 78) (.c (.int .i64 1)))),
 dz (oz 80 (.ia 1 (.t 77) (.t 79))),
 ⟨oz 81 (.ld false 1 (.t 80)), false, [oz 81 (.ld false 1 (.t 80))], []⟩,
 ⟨oz 82 (.call (.t 72) [.t 76, .t 81]), true, [], []⟩,
 dz (oz 83 (.bin .lss (.t 82) (.c (.int .i64 0)))),
 dz (oz 84 (.un .not (.t 83)))])
 (.cond (.t 84)
 (.exit 4)
 .skip))
 (.draw [dz (oz 85 (.mv (.t 0))),
 dz (oz 86 (.mv (.t 11))),
 dz (oz 87 (.mv (.t 0))),
 dz (oz 88 (.mv (.t 11))),
 dz (oz 89 (.bin .sub (.t 88) (.c (.int .i64 1)))),
 dz (oz 90 (.mv (.t 0))),
 dz (oz 91 (.mv (.t 11))),
 dz (oz 92 (.bin .sub (.t 91) (.c (.int .i64 1)))),
 dz (oz 93 (.ia 1 (.t 90) (.t 92))),
 ⟨oz 94 (.ld false 1 (.t 93)), false, [oz 94 (.ld false 1 (.t 93))], []⟩,
 dz (oz 95 (.mv (.t 0))),
 dz (oz 96 (.mv (.t 11))),
 dz (oz 97 (.ia 1 (.t 95) (.t 96))),
 ⟨oz 98 (.ld false 1 (.t 97)), false, [oz 98 (.ld false 1 (.t 97))], []⟩,
 dz (oz 99 (.ia 1 (.t 85) (.t 86))),
 ⟨⟨none, .st 1 (.t 99) (.t 94), none⟩, true, [], []⟩,
 dz (oz 100 (.ia 1 (.t 87) (.t 89))),
 ⟨⟨none, .st 1 (.t 100) (.t 98), none⟩, true, [], []⟩])))
 (.region [oz 70 (.mv (.t 11)),
 oz 71 (.bin .sub (.t 70) (.c (.int .i64 1))),
 oz 11 (.mv (.t 71))]))))))
 .skip))
 (.seq (.region [oz 101 (.mv (.t 2)),
 oz 102 (.mv (.t 9)),
 oz 103 (.bin .sub (.t 101) (.t 102)),
 oz 104 (.bin .geq (.t 103) (.c (.int .i64 2)))])
 (.cond (.t 104)
 (.seq (.region [oz 105 (.mv (.t 9)),
 oz 106 (.bin .add (.t 105) (.c (.int .i64 1))),
 oz 12 (.mv (.t 106))])
 (.block 6
 (.loop
 (.seq (.seq (.region [oz 107 (.mv (.t 12)),
 oz 108 (.mv (.t 2)),
 oz 109 (.bin .lss (.t 107) (.t 108))])
 (.cond (.t 109)
 .skip
 (.exit 6)))
 (.seq (.block 7
 (.seq (.seq (.draw [dz (oz 112 (.mv (.t 3))),
 dz (oz 113 (.mv (.t 0))),
 dz (oz 114 (.mv (.t 12))),
 dz (oz 115 (.ia 1 (.t 113) (.t 114))),
 ⟨oz 116 (.ld false 1 (.t 115)), false, [oz 116 (.ld false 1 (.t 115))], []⟩,
 dz (oz 117 (.mv (.t 0))),
 dz (oz 118 (.mv (.t 12))),
 dz (oz 119 (.bin .sub (.t 118) (.c (.int .i64 1)))),
 dz (oz 120 (.ia 1 (.t 117) (.t 119))),
 ⟨oz 121 (.ld false 1 (.t 120)), false, [oz 121 (.ld false 1 (.t 120))], []⟩,
 ⟨oz 122 (.call (.t 112) [.t 116, .t 121]), true, [], []⟩,
 dz (oz 123 (.bin .lss (.t 122) (.c (.int .i64 0)))),
 dz (oz 124 (.un .not (.t 123)))])
 (.cond (.t 124)
 (.exit 6)
 .skip))
 (.draw [dz (oz 125 (.mv (.t 0))),
 dz (oz 126 (.mv (.t 12))),
 dz (oz 127 (.mv (.t 0))),
 dz (oz 128 (.mv (.t 12))),
 dz (oz 129 (.bin .sub (.t 128) (.c (.int .i64 1)))),
 dz (oz 130 (.mv (.t 0))),
 dz (oz 131 (.mv (.t 12))),
 dz (oz 132 (.bin .sub (.t 131) (.c (.int .i64 1)))),
 dz (oz 133 (.ia 1 (.t 130) (.t 132))),
 ⟨oz 134 (.ld false 1 (.t 133)), false, [oz 134 (.ld false 1 (.t 133))], []⟩,
 dz (oz 135 (.mv (.t 0))),
 dz (oz 136 (.mv (.t 12))),
 dz (oz 137 (.ia 1 (.t 135) (.t 136))),
 ⟨oz 138 (.ld false 1 (.t 137)), false, [oz 138 (.ld false 1 (.t 137))], []⟩,
 dz (oz 139 (.ia 1 (.t 125) (.t 126))),
 ⟨⟨none, .st 1 (.t 139) (.t 134), none⟩, true, [], []⟩,
 dz (oz 140 (.ia 1 (.t 127) (.t 129))),
 ⟨⟨none, .st 1 (.t 140) (.t 138), none⟩, true, [], []⟩])))
 (.region [oz 110 (.mv (.t 12)),
 oz 111 (.bin .add (.t 110) (.c (.int .i64 1))),
 oz 12 (.mv (.t 111))]))))))
 .skip))))))))
 (.region [oz 17 (.mv (.t 10)),
 oz 18 (.bin .add (.t 17) (.c (.int .i64 1))),
 oz 10 (.mv (.t 18))]))))))
 (.seq (.region [oz 8 (.mv (.c (.bool false)))])
 .ret)))), [.tmp 8]⟩
theorem c103 : compFun Tryz.prog Tryz.f103 = some ir103 := by kernel_rfl
def ir104 : IFun := ⟨90, (.seq (.region [oz 10 (.mv (.c (.int .i64 0)))])
 (.seq (.draw [dz (oz 13 (.mv (.t 0))),
 dz (oz 14 (.mv (.t 1))),
 dz (oz 15 (.mv (.t 0))),
 dz (oz 16 (.mv (.t 3))),
 dz (oz 17 (.mv (.t 0))),
 dz (oz 18 (.mv (.t 3))),
 dz (oz 19 (.ia 1 (.t 17) (.t 18))),
 ⟨oz 20 (.ld false 1 (.t 19)), false, [oz 20 (.ld false 1 (.t 19))], []⟩,
 dz (oz 21 (.mv (.t 0))),
 dz (oz 22 (.mv (.t 1))),
 dz (oz 23 (.ia 1 (.t 21) (.t 22))),
 ⟨oz 24 (.ld false 1 (.t 23)), false, [oz 24 (.ld false 1 (.t 23))], []⟩,
 dz (oz 25 (.ia 1 (.t 13) (.t 14))),
 ⟨⟨none, .st 1 (.t 25) (.t 20), none⟩, true, [], []⟩,
 dz (oz 26 (.ia 1 (.t 15) (.t 16))),
 ⟨⟨none, .st 1 (.t 26) (.t 24), none⟩, true, [], []⟩])
 (.seq (.region [oz 27 (.mv (.t 1)),
 oz 28 (.bin .add (.t 27) (.c (.int .i64 1))),
 oz 29 (.mv (.t 2)),
 oz 30 (.bin .sub (.t 29) (.c (.int .i64 1))),
 oz 11 (.mv (.t 28)),
 oz 12 (.mv (.t 30))])
 (.seq (.block 0
 (.loop
 (.block 1
 (.seq (.block 2
 (.loop
 (.seq (.seq (.draw [dz (oz 31 (.mv (.t 11))),
 dz (oz 32 (.mv (.t 12))),
 dz (oz 33 (.bin .leq (.t 31) (.t 32))),
 dz (oz 34 (.mv (.t 33))),
 dz (og 35 (.mv (.t 4)) 34 true),
 dz (og 36 (.mv (.t 0)) 34 true),
 dz (og 37 (.mv (.t 1)) 34 true),
 dz (og 38 (.ia 1 (.t 36) (.t 37)) 34 true),
 ⟨og 39 (.ld false 1 (.t 38)) 34 true, false, [og 39 (.ld false 1 (.t 38)) 34 true], []⟩,
 dz (og 40 (.mv (.t 0)) 34 true),
 dz (og 41 (.mv (.t 11)) 34 true),
 dz (og 42 (.ia 1 (.t 40) (.t 41)) 34 true),
 ⟨og 43 (.ld false 1 (.t 42)) 34 true, false, [og 43 (.ld false 1 (.t 42)) 34 true], []⟩,
 ⟨og 44 (.call (.t 35) [.t 39, .t 43]) 34 true, true, [], []⟩,
 dz (og 45 (.bin .lss (.t 44) (.c (.int .i64 0))) 34 true),
 dz (og 46 (.un .not (.t 45)) 34 true),
 dz (oz 47 (.pick (.t 34) (.t 46) (.c (.bool false))))])
 (.cond (.t 47)
 .skip
 (.exit 2)))
 (.block 3
 (.region [oz 48 (.mv (.t 11)),
 oz 49 (.bin .add (.t 48) (.c (.int .i64 1))),
 oz 11 (.mv (.t 49))])))))
 (.seq (.block 4
 (.loop
 (.seq (.seq (.draw [dz (oz 50 (.mv (.t 11))),
 dz (oz 51 (.mv (.t 12))),
 dz (oz 52 (.bin .leq (.t 50) (.t 51))),
 dz (oz 53 (.mv (.t 52))),
 dz (og 54 (.mv (.t 4)) 53 true),
 dz (og 55 (.mv (.t 0)) 53 true),
 dz (og 56 (.mv (.t 1)) 53 true),
 dz (og 57 (.ia 1 (.t 55) (.t 56)) 53 true),
 ⟨og 58 (.ld false 1 (.t 57)) 53 true, false, [og 58 (.ld false 1 (.t 57)) 53 true], []⟩,
 dz (og 59 (.mv (.t 0)) 53 true),
 dz (og 60 (.mv (.t 12)) 53 true),
 dz (og 61 (.ia 1 (.t 59) (.t 60)) 53 true),
 ⟨og 62 (.ld false 1 (.t 61)) 53 true, false, [og 62 (.ld false 1 (.t 61)) 53 true], []⟩,
 ⟨og 63 (.call (.t 54) [.t 58, .t 62]) 53 true, true, [], []⟩,
 dz (og 64 (.bin .lss (.t 63) (.c (.int .i64 0))) 53 true),
 dz (oz 65 (.pick (.t 53) (.t 64) (.c (.bool false))))])
 (.cond (.t 65)
 .skip
 (.exit 4)))
 (.block 5
 (.region [oz 66 (.mv (.t 12)),
 oz 67 (.bin .sub (.t 66) (.c (.int .i64 1))),
 oz 12 (.mv (.t 67))])))))
 (.seq (.seq (.region [oz 68 (.mv (.t 11)),
 oz 69 (.mv (.t 12)),
 oz 70 (.bin .gtr (.t 68) (.t 69))])
 (.cond (.t 70)
 (.exit 0)
 .skip))
 (.seq (.draw [dz (oz 71 (.mv (.t 0))),
 dz (oz 72 (.mv (.t 11))),
 dz (oz 73 (.mv (.t 0))),
 dz (oz 74 (.mv (.t 12))),
 dz (oz 75 (.mv (.t 0))),
 dz (oz 76 (.mv (.t 12))),
 dz (oz 77 (.ia 1 (.t 75) (.t 76))),
 ⟨oz 78 (.ld false 1 (.t 77)), false, [oz 78 (.ld false 1 (.t 77))], []⟩,
 dz (oz 79 (.mv (.t 0))),
 dz (oz 80 (.mv (.t 11))),
 dz (oz 81 (.ia 1 (.t 79) (.t 80))),
 ⟨oz 82 (.ld false 1 (.t 81)), false, [oz 82 (.ld false 1 (.t 81))], []⟩,
 dz (oz 83 (.ia 1 (.t 71) (.t 72))),
 ⟨⟨none, .st 1 (.t 83) (.t 78), none⟩, true, [], []⟩,
 dz (oz 84 (.ia 1 (.t 73) (.t 74))),
 ⟨⟨none, .st 1 (.t 84) (.t 82), none⟩, true, [], []⟩])
 (.seq (.region [oz 85 (.mv (.t 11)),
 oz 86 (.bin .add (.t 85) (.c (.int .i64 1))),
 oz 11 (.mv (.t 86))])
 (.region [oz 87 (.mv (.t 12)),
 oz 88 (.bin .sub (.t 87) (.c (.int .i64 1))),
 oz 12 (.mv (.t 88))])))))))))
 (.seq (.region [oz 89 (.mv (.t 11)),
 oz 10 (.mv (.t 89))])
 .ret))))), [.tmp 10]⟩
theorem c104 : compFun Tryz.prog Tryz.f104 = some ir104 := by kernel_rfl
def ir105 : IFun := ⟨178, (.seq (.region [oz 10 (.mv (.c (.int .i64 0))),
 oz 11 (.mv (.c (.bool false)))])
 (.seq (.draw [dz (oz 14 (.mv (.t 0))),
 dz (oz 15 (.mv (.t 1))),
 dz (oz 16 (.mv (.t 0))),
 dz (oz 17 (.mv (.t 3))),
 dz (oz 18 (.mv (.t 0))),
 dz (oz 19 (.mv (.t 3))),
 dz (oz 20 (.ia 1 (.t 18) (.t 19))),
 ⟨oz 21 (.ld false 1 (.t 20)), false, [oz 21 (.ld false 1 (.t 20))], []⟩,
 dz (oz 22 (.mv (.t 0))),
 dz (oz 23 (.mv (.t 1))),
 dz (oz 24 (.ia 1 (.t 22) (.t 23))),
 ⟨oz 25 (.ld false 1 (.t 24)), false, [oz 25 (.ld false 1 (.t 24))], []⟩,
 dz (oz 26 (.ia 1 (.t 14) (.t 15))),
 ⟨⟨none, .st 1 (.t 26) (.t 21), none⟩, true, [], []⟩,
 dz (oz 27 (.ia 1 (.t 16) (.t 17))),
 ⟨⟨none, .st 1 (.t 27) (.t 25), none⟩, true, [], []⟩])
 (.seq (.region [oz 28 (.mv (.t 1)),
 oz 29 (.bin .add (.t 28) (.c (.int .i64 1))),
 oz 30 (.mv (.t 2)),
 oz 31 (.bin .sub (.t 30) (.c (.int .i64 1))),
 oz 12 (.mv (.t 29)),
 oz 13 (.mv (.t 31))])
 (.seq (.block 0
 (.loop
 (.seq (.seq (.draw [dz (oz 32 (.mv (.t 12))),
 dz (oz 33 (.mv (.t 13))),
 dz (oz 34 (.bin .leq (.t 32) (.t 33))),
 dz (oz 35 (.mv (.t 34))),
 dz (og 36 (.mv (.t 4)) 35 true),
 dz (og 37 (.mv (.t 0)) 35 true),
 dz (og 38 (.mv (.t 12)) 35 true),
 dz (og 39 (.ia 1 (.t 37) (.t 38)) 35 true),
 ⟨og 40 (.ld false 1 (.t 39)) 35 true, false, [og 40 (.ld false 1 (.t 39)) 35 true], []⟩,
 dz (og 41 (.mv (.t 0)) 35 true),
 dz (og 42 (.mv (.t 1)) 35 true),
 dz (og 43 (.ia 1 (.t 41) (.t 42)) 35 true),
 ⟨og 44 (.ld false 1 (.t 43)) 35 true, false, [og 44 (.ld false 1 (.t 43)) 35 true], []⟩,
 ⟨og 45 (.call (.t 36) [.t 40, .t 44]) 35 true, true, [], []⟩,
 dz (og 46 (.bin .lss (.t 45) (.c (.int .i64 0))) 35 true),
 dz (oz 47 (.pick (.t 35) (.t 46) (.c (.bool false))))])
 (.cond (.t 47)
 .skip
 (.exit 0)))
 (.block 1
 (.region [oz 48 (.mv (.t 12)),
 oz 49 (.bin .add (.t 48) (.c (.int .i64 1))),
 oz 12 (.mv (.t 49))])))))
 (.seq (.block 2
 (.loop
 (.seq (.seq (.draw [dz (oz 50 (.mv (.t 12))),
 dz (oz 51 (.mv (.t 13))),
 dz (oz 52 (.bin .leq (.t 50) (.t 51))),
 dz (oz 53 (.mv (.t 52))),
 dz (og 54 (.mv (.t 4)) 53 true),
 dz (og 55 (.mv (.t 0)) 53 true),
 dz (og 56 (.mv (.t 13)) 53 true),
 dz (og 57 (.ia 1 (.t 55) (.t 56)) 53 true),
 ⟨og 58 (.ld false 1 (.t 57)) 53 true, false, [og 58 (.ld false 1 (.t 57)) 53 true], []⟩,
 dz (og 59 (.mv (.t 0)) 53 true),
 dz (og 60 (.mv (.t 1)) 53 true),
 dz (og 61 (.ia 1 (.t 59) (.t 60)) 53 true),
 ⟨og 62 (.ld false 1 (.t 61)) 53 true, false, [og 62 (.ld false 1 (.t 61)) 53 true], []⟩,
 ⟨og 63 (.call (.t 54) [.t 58, .t 62]) 53 true, true, [], []⟩,
 dz (og 64 (.bin .lss (.t 63) (.c (.int .i64 0))) 53 true),
 dz (og 65 (.un .not (.t 64)) 53 true),
 dz (oz 66 (.pick (.t 53) (.t 65) (.c (.bool false))))])
 (.cond (.t 66)
 .skip
 (.exit 2)))
 (.block 3
 (.region [oz 67 (.mv (.t 13)),
 oz 68 (.bin .sub (.t 67) (.c (.int .i64 1))),
 oz 13 (.mv (.t 68))])))))
 (.seq (.seq (.region [oz 69 (.mv (.t 12)),
 oz 70 (.mv (.t 13)),
 oz 71 (.bin .gtr (.t 69) (.t 70))])
 (.cond (.t 71)
 (.seq (.draw [dz (oz 72 (.mv (.t 0))),
 dz (oz 73 (.mv (.t 13))),
 dz (oz 74 (.mv (.t 0))),
 dz (oz 75 (.mv (.t 1))),
 dz (oz 76 (.mv (.t 0))),
 dz (oz 77 (.mv (.t 1))),
 dz (oz 78 (.ia 1 (.t 76) (.t 77))),
 ⟨oz 79 (.ld false 1 (.t 78)), false, [oz 79 (.ld false 1 (.t 78))], []⟩,
 dz (oz 80 (.mv (.t 0))),
 dz (oz 81 (.mv (.t 13))),
 dz (oz 82 (.ia 1 (.t 80) (.t 81))),
 ⟨oz 83 (.ld false 1 (.t 82)), false, [oz 83 (.ld false 1 (.t 82))], []⟩,
 dz (oz 84 (.ia 1 (.t 72) (.t 73))),
 ⟨⟨none, .st 1 (.t 84) (.t 79), none⟩, true, [], []⟩,
 dz (oz 85 (.ia 1 (.t 74) (.t 75))),
 ⟨⟨none, .st 1 (.t 85) (.t 83), none⟩, true, [], []⟩])
 (.seq (.region [oz 86 (.mv (.t 13)),
 oz 10 (.mv (.t 86)),
 oz 11 (.mv (.c (.bool true)))])
 .ret))
 .skip))
 (.seq (.draw [dz (oz 87 (.mv (.t 0))),
 dz (oz 88 (.mv (.t 12))),
 dz (oz 89 (.mv (.t 0))),
 dz (oz 90 (.mv (.t 13))),
 dz (oz 91 (.mv (.t 0))),
 dz (oz 92 (.mv (.t 13))),
 dz (oz 93 (.ia 1 (.t 91) (.t 92))),
 ⟨oz 94 (.ld false 1 (.t 93)), false, [oz 94 (.ld false 1 (.t 93))], []⟩,
 dz (oz 95 (.mv (.t 0))),
 dz (oz 96 (.mv (.t 12))),
 dz (oz 97 (.ia 1 (.t 95) (.t 96))),
 ⟨oz 98 (.ld false 1 (.t 97)), false, [oz 98 (.ld false 1 (.t 97))], []⟩,
 dz (oz 99 (.ia 1 (.t 87) (.t 88))),
 ⟨⟨none, .st 1 (.t 99) (.t 94), none⟩, true, [], []⟩,
 dz (oz 100 (.ia 1 (.t 89) (.t 90))),
 ⟨⟨none, .st 1 (.t 100) (.t 98), none⟩, true, [], []⟩])
 (.seq (.region [oz 101 (.mv (.t 12)),
 oz 102 (.bin .add (.t 101) (.c (.int .i64 1))),
 oz 12 (.mv (.t 102))])
 (.seq (.region [oz 103 (.mv (.t 13)),
 oz 104 (.bin .sub (.t 103) (.c (.int .i64 1))),
 oz 13 (.mv (.t 104))])
 (.seq (.block 4
 (.loop
 (.block 5
 (.seq (.block 6
 (.loop
 (.seq (.seq (.draw [dz (oz 105 (.mv (.t 12))),
 dz (oz 106 (.mv (.t 13))),
 dz (oz 107 (.bin .leq (.t 105) (.t 106))),
 dz (oz 108 (.mv (.t 107))),
 dz (og 109 (.mv (.t 4)) 108 true),
 dz (og 110 (.mv (.t 0)) 108 true),
 dz (og 111 (.mv (.t 12)) 108 true),
 dz (og 112 (.ia 1 (.t 110) (.t 111)) 108 true),
 ⟨og 113 (.ld false 1 (.t 112)) 108 true, false, [og 113 (.ld false 1 (.t 112)) 108 true], []⟩,
 dz (og 114 (.mv (.t 0)) 108 true),
 dz (og 115 (.mv (.t 1)) 108 true),
 dz (og 116 (.ia 1 (.t 114) (.t 115)) 108 true),
 ⟨og 117 (.ld false 1 (.t 116)) 108 true, false, [og 117 (.ld false 1 (.t 116)) 108 true], []⟩,
 ⟨og 118 (.call (.t 109) [.t 113, .t 117]) 108 true, true, [], []⟩,
 dz (og 119 (.bin .lss (.t 118) (.c (.int .i64 0))) 108 true),
 dz (oz 120 (.pick (.t 108) (.t 119) (.c (.bool false))))])
 (.cond (.t 120)
 .skip
 (.exit 6)))
 (.block 7
 (.region [oz 121 (.mv (.t 12)),
 oz 122 (.bin .add (.t 121) (.c (.int .i64 1))),
 oz 12 (.mv (.t 122))])))))
 (.seq (.block 8
 (.loop
 (.seq (.seq (.draw [dz (oz 123 (.mv (.t 12))),
 dz (oz 124 (.mv (.t 13))),
 dz (oz 125 (.bin .leq (.t 123) (.t 124))),
 dz (oz 126 (.mv (.t 125))),
 dz (og 127 (.mv (.t 4)) 126 true),
 dz (og 128 (.mv (.t 0)) 126 true),
 dz (og 129 (.mv (.t 13)) 126 true),
 dz (og 130 (.ia 1 (.t 128) (.t 129)) 126 true),
 ⟨og 131 (.ld false 1 (.t 130)) 126 true, false, [og 131 (.ld false 1 (.t 130)) 126 true], []⟩,
 dz (og 132 (.mv (.t 0)) 126 true),
 dz (og 133 (.mv (.t 1)) 126 true),
 dz (og 134 (.ia 1 (.t 132) (.t 133)) 126 true),
 ⟨og 135 (.ld false 1 (.t 134)) 126 true, false, [og 135 (.ld false 1 (.t 134)) 126 true], []⟩,
 ⟨og 136 (.call (.t 127) [.t 131, .t 135]) 126 true, true, [], []⟩,
 dz (og 137 (.bin .lss (.t 136) (.c (.int .i64 0))) 126 true),
 dz (og 138 (.un .not (.t 137)) 126 true),
 dz (oz 139 (.pick (.t 126) (.t 138) (.c (.bool false))))])
 (.cond (.t 139)
 .skip
 (.exit 8)))
 (.block 9
 (.region [oz 140 (.mv (.t 13)),
 oz 141 (.bin .sub (.t 140) (.c (.int .i64 1))),
 oz 13 (.mv (.t 141))])))))
 (.seq (.seq (.region [oz 142 (.mv (.t 12)),
 oz 143 (.mv (.t 13)),
 oz 144 (.bin .gtr (.t 142) (.t 143))])
 (.cond (.t 144)
 (.exit 4)
 .skip))
 (.seq (.draw [dz (oz 145 (.mv (.t 0))),
 dz (oz 146 (.mv (.t 12))),
 dz (oz 147 (.mv (.t 0))),
 dz (oz 148 (.mv (.t 13))),
 dz (oz 149 (.mv (.t 0))),
 dz (oz 150 (.mv (.t 13))),
 dz (oz 151 (.ia 1 (.t 149) (.t 150))),
 ⟨oz 152 (.ld false 1 (.t 151)), false, [oz 152 (.ld false 1 (.t 151))], []⟩,
 dz (oz 153 (.mv (.t 0))),
 dz (oz 154 (.mv (.t 12))),
 dz (oz 155 (.ia 1 (.t 153) (.t 154))),
 ⟨oz 156 (.ld false 1 (.t 155)), false, [oz 156 (.ld false 1 (.t 155))], []⟩,
 dz (oz 157 (.ia 1 (.t 145) (.t 146))),
 ⟨⟨none, .st 1 (.t 157) (.t 152), none⟩, true, [], []⟩,
 dz (oz 158 (.ia 1 (.t 147) (.t 148))),
 ⟨⟨none, .st 1 (.t 158) (.t 156), none⟩, true, [], []⟩])
 (.seq (.region [oz 159 (.mv (.t 12)),
 oz 160 (.bin .add (.t 159) (.c (.int .i64 1))),
 oz 12 (.mv (.t 160))])
 (.region [oz 161 (.mv (.t 13)),
 oz 162 (.bin .sub (.t 161) (.c (.int .i64 1))),
 oz 13 (.mv (.t 162))])))))))))
 (.seq (.draw [dz (oz 163 (.mv (.t 0))),
 dz (oz 164 (.mv (.t 13))),
 dz (oz 165 (.mv (.t 0))),
 dz (oz 166 (.mv (.t 1))),
 dz (oz 167 (.mv (.t 0))),
 dz (oz 168 (.mv (.t 1))),
 dz (oz 169 (.ia 1 (.t 167) (.t 168))),
 ⟨oz 170 (.ld false 1 (.t 169)), false, [oz 170 (.ld false 1 (.t 169))], []⟩,
 dz (oz 171 (.mv (.t 0))),
 dz (oz 172 (.mv (.t 13))),
 dz (oz 173 (.ia 1 (.t 171) (.t 172))),
 ⟨oz 174 (.ld false 1 (.t 173)), false, [oz 174 (.ld false 1 (.t 173))], []⟩,
 dz (oz 175 (.ia 1 (.t 163) (.t 164))),
 ⟨⟨none, .st 1 (.t 175) (.t 170), none⟩, true, [], []⟩,
 dz (oz 176 (.ia 1 (.t 165) (.t 166))),
 ⟨⟨none, .st 1 (.t 176) (.t 174), none⟩, true, [], []⟩])
 (.seq (.region [oz 177 (.mv (.t 13)),
 oz 10 (.mv (.t 177)),
 oz 11 (.mv (.c (.bool false)))])
 .ret)))))))))))), [.tmp 10, .tmp 11]⟩
theorem c105 : compFun Tryz.prog Tryz.f105 = some ir105 := by kernel_rfl
def ir107 : IFun := ⟨25, (.seq (.region [oz 2 (.mv (.c (.int .i64 0)))])
 (.seq (.seq (.region [oz 3 (.mv (.t 0)),
 oz 4 (.bin .geq (.t 3) (.c (.int .u64 4294967296)))])
 (.cond (.t 4)
 (.seq (.region [oz 5 (.mv (.t 0)),
 oz 6 (.bin .shr (.t 5) (.c (.int .u64 32))),
 oz 0 (.mv (.t 6))])
 (.region [oz 2 (.mv (.c (.int .i64 32)))]))
 .skip))
 (.seq (.seq (.region [oz 7 (.mv (.t 0)),
 oz 8 (.bin .geq (.t 7) (.c (.int .u64 65536)))])
 (.cond (.t 8)
 (.seq (.region [oz 9 (.mv (.t 0)),
 oz 10 (.bin .shr (.t 9) (.c (.int .u64 16))),
 oz 0 (.mv (.t 10))])
 (.region [oz 11 (.mv (.t 2)),
 oz 12 (.bin .add (.t 11) (.c (.int .i64 16))),
 oz 2 (.mv (.t 12))]))
 .skip))
 (.seq (.seq (.region [oz 13 (.mv (.t 0)),
 oz 14 (.bin .geq (.t 13) (.c (.int .u64 256)))])
 (.cond (.t 14)
 (.seq (.region [oz 15 (.mv (.t 0)),
 oz 16 (.bin .shr (.t 15) (.c (.int .u64 8))),
 oz 0 (.mv (.t 16))])
 (.region [oz 17 (.mv (.t 2)),
 oz 18 (.bin .add (.t 17) (.c (.int .i64 8))),
 oz 2 (.mv (.t 18))]))
 .skip))
 (.seq (.region [oz 19 (.mv (.t 2)),
 oz 20 (.mv (.t 0)),
 oz 21 (.conv .u8 (.t 20)),
 oz 22 (.ixs (.c (.str [0, 1, 2, 2, 3, 3, 3, 3, 4, 4, 4, 4, 4, 4, 4, 4, 5, 5, 5, 5, 5, 5, 5, 5, 5, 5, 5, 5, 5, 5, 5, 5, 6, 6, 6, 6, 6, 6, 6, 6, 6, 6, 6, 6, 6, 6, 6, 6, 6, 6, 6, 6, 6, 6, 6, 6, 6, 6, 6, 6, 6, 6, 6, 6, 7, 7, 7, 7, 7, 7, 7, 7, 7, 7, 7, 7, 7, 7, 7, 7, 7, 7, 7, 7, 7, 7, 7, 7, 7, 7, 7, 7, 7, 7, 7, 7, 7, 7, 7, 7, 7, 7, 7, 7, 7, 7, 7, 7, 7, 7, 7, 7, 7, 7, 7, 7, 7, 7, 7, 7, 7, 7, 7, 7, 7, 7, 7, 7, 8, 8, 8, 8, 8, 8, 8, 8, 8, 8, 8, 8, 8, 8, 8, 8, 8, 8, 8, 8, 8, 8, 8, 8, 8, 8, 8, 8, 8, 8, 8, 8, 8, 8, 8, 8, 8, 8, 8, 8, 8, 8, 8, 8, 8, 8, 8, 8, 8, 8, 8, 8, 8, 8, 8, 8, 8, 8, 8, 8, 8, 8, 8, 8, 8, 8, 8, 8, 8, 8, 8, 8, 8, 8, 8, 8, 8, 8, 8, 8, 8, 8, 8, 8, 8, 8, 8, 8, 8, 8, 8, 8, 8, 8, 8, 8, 8, 8, 8, 8, 8, 8, 8, 8, 8, 8, 8, 8, 8, 8, 8, 8, 8, 8, 8, 8, 8, 8, 8, 8, 8, 8, 8, 8, 8, 8, 8, 8])) (.t 21)),
 oz 23 (.conv .i64 (.t 22)),
 oz 24 (.bin .add (.t 19) (.t 23)),
 oz 2 (.mv (.t 24))])
 .ret))))), [.tmp 2]⟩
theorem c107 : compFun Tryz.prog Tryz.f107 = some ir107 := by kernel_rfl
def ir108 : IFun := ⟨6, (.seq (.region [oz 2 (.mv (.c (.bool false)))])
 (.seq (.region [oz 3 (.mv (.t 0)),
 oz 4 (.mv (.t 0)),
 oz 5 (.bin .neq (.t 3) (.t 4)),
 oz 2 (.mv (.t 5))])
 .ret)), [.tmp 2]⟩
theorem c108 : compFun Tryz.prog Tryz.f108 = some ir108 := by kernel_rfl
def ir109 : IFun := ⟨82, (.seq (.region [oz 12 (.mv (.t 1)),
 oz 10 (.mv (.t 12))])
 (.block 0
 (.loop
 (.block 1
 (.seq (.region [oz 13 (.mv (.t 10)),
 oz 14 (.bin .mul (.c (.int .i64 2)) (.t 13)),
 oz 15 (.bin .add (.t 14) (.c (.int .i64 1))),
 oz 11 (.mv (.t 15))])
 (.seq (.seq (.region [oz 16 (.mv (.t 11)),
 oz 17 (.mv (.t 2)),
 oz 18 (.bin .geq (.t 16) (.t 17))])
 (.cond (.t 18)
 (.exit 0)
 .skip))
 (.seq (.seq (.draw [dz (oz 19 (.mv (.t 11))),
 dz (oz 20 (.bin .add (.t 19) (.c (.int .i64 1)))),
 dz (oz 21 (.mv (.t 2))),
 dz (oz 22 (.bin .lss (.t 20) (.t 21))),
 dz (oz 23 (.mv (.t 22))),
 dz (og 24 (.mv (.t 4)) 23 true),
 dz (og 25 (.mv (.t 0)) 23 true),
 dz (og 26 (.mv (.t 3)) 23 true),
 dz (og 27 (.mv (.t 11)) 23 true),
 dz (og 28 (.bin .add (.t 26) (.t 27)) 23 true),
 dz (og 29 (.ia 1 (.t 25) (.t 28)) 23 true),
 ⟨og 30 (.ld false 1 (.t 29)) 23 true, false, [og 30 (.ld false 1 (.t 29)) 23 true], []⟩,
 dz (og 31 (.mv (.t 0)) 23 true),
 dz (og 32 (.mv (.t 3)) 23 true),
 dz (og 33 (.mv (.t 11)) 23 true),
 dz (og 34 (.bin .add (.t 32) (.t 33)) 23 true),
 dz (og 35 (.bin .add (.t 34) (.c (.int .i64 1))) 23 true),
 dz (og 36 (.ia 1 (.t 31) (.t 35)) 23 true),
 ⟨og 37 (.ld false 1 (.t 36)) 23 true, false, [og 37 (.ld false 1 (.t 36)) 23 true], []⟩,
 ⟨og 38 (.call (.t 24) [.t 30, .t 37]) 23 true, true, [], []⟩,
 dz (og 39 (.bin .lss (.t 38) (.c (.int .i64 0))) 23 true),
 dz (oz 40 (.pick (.t 23) (.t 39) (.c (.bool false))))])
 (.cond (.t 40)
 (.region [oz 41 (.mv (.t 11)),
 oz 42 (.bin .add (.t 41) (.c (.int .i64 1))),
 oz 11 (.mv (.t 42))])
 .skip))
 (.seq (.seq (.draw [dz (oz 43 (.mv (.t 4))),
 dz (oz 44 (.mv (.t 0))),
 dz (oz 45 (.mv (.t 3))),
 dz (oz 46 (.mv (.t 10))),
 dz (oz 47 (.bin .add (.t 45) (.t 46))),
 dz (oz 48 (.ia 1 (.t 44) (.t 47))),
 ⟨oz 49 (.ld false 1 (.t 48)), false, [oz 49 (.ld false 1 (.t 48))], []⟩,
 dz (oz 50 (.mv (.t 0))),
 dz (oz 51 (.mv (.t 3))),
 dz (oz 52 (.mv (.t 11))),
 dz (oz 53 (.bin .add (.t 51) (.t 52))),
 dz (oz 54 (.ia 1 (.t 50) (.t 53))),
 ⟨oz 55 (.ld false 1 (.t 54)), false, [oz 55 (.ld false 1 (.t 54))], []⟩,
 ⟨oz 56 (.call (.t 43) [.t 49, .t 55]), true, [], []⟩,
 dz (oz 57 (.bin .lss (.t 56) (.c (.int .i64 0)))),
 dz (oz 58 (.un .not (.t 57)))])
 (.cond (.t 58)
 .ret
 .skip))
 (.seq (.draw [dz (oz 59 (.mv (.t 0))),
 dz (oz 60 (.mv (.t 3))),
 dz (oz 61 (.mv (.t 10))),
 dz (oz 62 (.bin .add (.t 60) (.t 61))),
 dz (oz 63 (.mv (.t 0))),
 dz (oz 64 (.mv (.t 3))),
 dz (oz 65 (.mv (.t 11))),
 dz (oz 66 (.bin .add (.t 64) (.t 65))),
 dz (oz 67 (.mv (.t 0))),
 dz (oz 68 (.mv (.t 3))),
 dz (oz 69 (.mv (.t 11))),
 dz (oz 70 (.bin .add (.t 68) (.t 69))),
 dz (oz 71 (.ia 1 (.t 67) (.t 70))),
 ⟨oz 72 (.ld false 1 (.t 71)), false, [oz 72 (.ld false 1 (.t 71))], []⟩,
 dz (oz 73 (.mv (.t 0))),
 dz (oz 74 (.mv (.t 3))),
 dz (oz 75 (.mv (.t 10))),
 dz (oz 76 (.bin .add (.t 74) (.t 75))),
 dz (oz 77 (.ia 1 (.t 73) (.t 76))),
 ⟨oz 78 (.ld false 1 (.t 77)), false, [oz 78 (.ld false 1 (.t 77))], []⟩,
 dz (oz 79 (.ia 1 (.t 59) (.t 62))),
 ⟨⟨none, .st 1 (.t 79) (.t 72), none⟩, true, [], []⟩,
 dz (oz 80 (.ia 1 (.t 63) (.t 66))),
 ⟨⟨none, .st 1 (.t 80) (.t 78), none⟩, true, [], []⟩])
 (.region [oz 81 (.mv (.t 11)),
 oz 10 (.mv (.t 81))])))))))))), []⟩
theorem c109 : compFun Tryz.prog Tryz.f109 = some ir109 := by kernel_rfl
def ir110 : IFun := ⟨7, (.seq (.region [oz 2 (.mv (.c (.int .u64 0)))])
 (.seq (.region [oz 3 (.mv (.t 0)),
 oz 4 (.conv .u64 (.t 3)),
 oz 5 (.call (.c (.func 91 [] [])) [.t 4]),
 oz 6 (.bin .shl (.c (.int .u64 1)) (.t 5)),
 oz 2 (.mv (.t 6))])
 .ret)), [.tmp 2]⟩
theorem c110 : compFun Tryz.prog Tryz.f110 = some ir110 := by kernel_rfl
def ir111 : IFun := ⟨33, (.seq (.region [oz 2 (.mv (.c (.int .u64 0)))])
 (.seq (.draw [dz (oz 3 (.mv (.t 0))),
 dz (oz 4 (.nilck (.t 3))),
 ⟨oz 5 (.ld false 1 (.t 4)), false, [oz 5 (.ld false 1 (.t 4))], []⟩,
 dz (oz 6 (.mv (.t 0))),
 dz (oz 7 (.nilck (.t 6))),
 ⟨oz 8 (.ld false 1 (.t 7)), false, [oz 8 (.ld false 1 (.t 7))], []⟩,
 dz (oz 9 (.bin .shl (.t 8) (.c (.int .u64 13)))),
 dz (oz 10 (.bin .xor (.t 5) (.t 9))),
 dz (oz 11 (.nilck (.t 3))),
 ⟨⟨none, .st 1 (.t 11) (.t 10), none⟩, true, [], []⟩])
 (.seq (.draw [dz (oz 12 (.mv (.t 0))),
 dz (oz 13 (.nilck (.t 12))),
 ⟨oz 14 (.ld false 1 (.t 13)), false, [oz 14 (.ld false 1 (.t 13))], []⟩,
 dz (oz 15 (.mv (.t 0))),
 dz (oz 16 (.nilck (.t 15))),
 ⟨oz 17 (.ld false 1 (.t 16)), false, [oz 17 (.ld false 1 (.t 16))], []⟩,
 dz (oz 18 (.bin .shr (.t 17) (.c (.int .u64 7)))),
 dz (oz 19 (.bin .xor (.t 14) (.t 18))),
 dz (oz 20 (.nilck (.t 12))),
 ⟨⟨none, .st 1 (.t 20) (.t 19), none⟩, true, [], []⟩])
 (.seq (.draw [dz (oz 21 (.mv (.t 0))),
 dz (oz 22 (.nilck (.t 21))),
 ⟨oz 23 (.ld false 1 (.t 22)), false, [oz 23 (.ld false 1 (.t 22))], []⟩,
 dz (oz 24 (.mv (.t 0))),
 dz (oz 25 (.nilck (.t 24))),
 ⟨oz 26 (.ld false 1 (.t 25)), false, [oz 26 (.ld false 1 (.t 25))], []⟩,
 dz (oz 27 (.bin .shl (.t 26) (.c (.int .u64 17)))),
 dz (oz 28 (.bin .xor (.t 23) (.t 27))),
 dz (oz 29 (.nilck (.t 21))),
 ⟨⟨none, .st 1 (.t 29) (.t 28), none⟩, true, [], []⟩])
 (.seq (.region [oz 30 (.mv (.t 0)),
 oz 31 (.nilck (.t 30)),
 oz 32 (.ld false 1 (.t 31)),
 oz 2 (.mv (.t 32))])
 .ret))))), [.tmp 2]⟩
theorem c111 : compFun Tryz.prog Tryz.f111 = some ir111 := by kernel_rfl
def ir112 : IFun := ⟨18, (.seq (.region [oz 8 (.mv (.c (.int .i64 0)))])
 (.seq (.region [oz 9 (.mv (.t 0)),
 oz 10 (.mv (.t 1)),
 oz 11 (.bin .sub (.t 10) (.c (.int .i64 1))),
 oz 12 (.mv (.t 1)),
 oz 13 (.mv (.t 1)),
 oz 14 (.bin .add (.t 13) (.c (.int .i64 1))),
 oz 15 (.mv (.t 2)),
 oz 16 (.mv (.t 3)),
 oz 17 (.call (.c (.func 113 [] [])) [.t 9, .t 11, .t 12, .t 14, .t 15, .t 16]),
 oz 8 (.mv (.t 17))])
 .ret)), [.tmp 8]⟩
theorem c112 : compFun Tryz.prog Tryz.f112 = some ir112 := by kernel_rfl
def ir113 : IFun := ⟨41, (.seq (.region [oz 12 (.mv (.c (.int .i64 0)))])
 (.seq (.region [oz 14 (.mv (.t 0)),
 oz 15 (.mv (.t 1)),
 oz 16 (.mv (.t 2)),
 oz 17 (.mv (.t 4)),
 oz 18 (.mv (.t 5)),
 oz 19 (.call (.c (.func 114 [] [])) [.t 14, .t 15, .t 16, .t 17, .t 18]),
 oz 13 (.mv (.t 19)),
 oz 20 (.ext (.t 13) 0),
 oz 21 (.ext (.t 13) 1),
 oz 1 (.mv (.t 20)),
 oz 2 (.mv (.t 21))])
 (.seq (.region [oz 23 (.mv (.t 0)),
 oz 24 (.mv (.t 2)),
 oz 25 (.mv (.t 3)),
 oz 26 (.mv (.t 4)),
 oz 27 (.mv (.t 5)),
 oz 28 (.call (.c (.func 114 [] [])) [.t 23, .t 24, .t 25, .t 26, .t 27]),
 oz 22 (.mv (.t 28)),
 oz 29 (.ext (.t 22) 0),
 oz 30 (.ext (.t 22) 1),
 oz 2 (.mv (.t 29)),
 oz 3 (.mv (.t 30))])
 (.seq (.region [oz 32 (.mv (.t 0)),
 oz 33 (.mv (.t 1)),
 oz 34 (.mv (.t 2)),
 oz 35 (.mv (.t 4)),
 oz 36 (.mv (.t 5)),
 oz 37 (.call (.c (.func 114 [] [])) [.t 32, .t 33, .t 34, .t 35, .t 36]),
 oz 31 (.mv (.t 37)),
 oz 38 (.ext (.t 31) 0),
 oz 39 (.ext (.t 31) 1),
 oz 1 (.mv (.t 38)),
 oz 2 (.mv (.t 39))])
 (.seq (.region [oz 40 (.mv (.t 2)),
 oz 12 (.mv (.t 40))])
 .ret))))), [.tmp 12]⟩
theorem c113 : compFun Tryz.prog Tryz.f113 = some ir113 := by kernel_rfl
def ir114 : IFun := ⟨32, (.seq (.region [oz 10 (.mv (.c (.int .i64 0))),
 oz 11 (.mv (.c (.int .i64 0)))])
 (.seq (.seq (.draw [dz (oz 12 (.mv (.t 4))),
 dz (oz 13 (.mv (.t 0))),
 dz (oz 14 (.mv (.t 2))),
 dz (oz 15 (.ia 1 (.t 13) (.t 14))),
 ⟨oz 16 (.ld false 1 (.t 15)), false, [oz 16 (.ld false 1 (.t 15))], []⟩,
 dz (oz 17 (.mv (.t 0))),
 dz (oz 18 (.mv (.t 1))),
 dz (oz 19 (.ia 1 (.t 17) (.t 18))),
 ⟨oz 20 (.ld false 1 (.t 19)), false, [oz 20 (.ld false 1 (.t 19))], []⟩,
 ⟨oz 21 (.call (.t 12) [.t 16, .t 20]), true, [], []⟩,
 dz (oz 22 (.bin .lss (.t 21) (.c (.int .i64 0))))])
 (.cond (.t 22)
 (.seq (.region [oz 23 (.mv (.t 3)),
 oz 24 (.nilck (.t 23)),
 oz 25 (.ld false 1 (.t 24)),
 oz 26 (.bin .add (.t 25) (.c (.int .i64 1))),
 oz 27 (.nilck (.t 23)),
 ⟨none, .st 1 (.t 27) (.t 26), none⟩])
 (.seq (.region [oz 28 (.mv (.t 2)),
 oz 29 (.mv (.t 1)),
 oz 10 (.mv (.t 28)),
 oz 11 (.mv (.t 29))])
 .ret))
 .skip))
 (.seq (.region [oz 30 (.mv (.t 1)),
 oz 31 (.mv (.t 2)),
 oz 10 (.mv (.t 30)),
 oz 11 (.mv (.t 31))])
 .ret))), [.tmp 10, .tmp 11]⟩
theorem c114 : compFun Tryz.prog Tryz.f114 = some ir114 := by kernel_rfl
def ir135 : IFun := ⟨2, (.seq (.region [oz 0 (.bld [(.int .u8 0), (.int .u8 0), (.int .u8 0), (.int .u8 0), (.int .u8 0), (.int .u8 0), (.int .u8 0), (.int .u8 0), (.int .u8 0), (.int .u8 0), (.int .u8 0), (.int .u8 0), (.int .u8 0), (.int .u8 0), (.int .u8 0), (.int .u8 0), (.int .u8 0), (.int .u8 0), (.int .u8 0), (.int .u8 0), (.int .u8 0), (.int .u8 0), (.int .u8 0), (.int .u8 0), (.int .u8 0), (.int .u8 0), (.int .u8 0), (.int .u8 0), (.int .u8 0), (.int .u8 0), (.int .u8 0), (.int .u8 0)] [(0, 1, (.c (.int .u8 0))), (1, 1, (.c (.int .u8 1))), (2, 1, (.c (.int .u8 28))), (3, 1, (.c (.int .u8 2))), (4, 1, (.c (.int .u8 29))), (5, 1, (.c (.int .u8 14))), (6, 1, (.c (.int .u8 24))), (7, 1, (.c (.int .u8 3))), (8, 1, (.c (.int .u8 30))), (9, 1, (.c (.int .u8 22))), (10, 1, (.c (.int .u8 20))), (11, 1, (.c (.int .u8 15))), (12, 1, (.c (.int .u8 25))), (13, 1, (.c (.int .u8 17))), (14, 1, (.c (.int .u8 4))), (15, 1, (.c (.int .u8 8))), (16, 1, (.c (.int .u8 31))), (17, 1, (.c (.int .u8 27))), (18, 1, (.c (.int .u8 13))), (19, 1, (.c (.int .u8 23))), (20, 1, (.c (.int .u8 21))), (21, 1, (.c (.int .u8 19))), (22, 1, (.c (.int .u8 16))), (23, 1, (.c (.int .u8 7))), (24, 1, (.c (.int .u8 26))), (25, 1, (.c (.int .u8 12))), (26, 1, (.c (.int .u8 18))), (27, 1, (.c (.int .u8 6))), (28, 1, (.c (.int .u8 11))), (29, 1, (.c (.int .u8 5))), (30, 1, (.c (.int .u8 10))), (31, 1, (.c (.int .u8 9)))]),
 ⟨none, .st 32 (.c (.ptr 0 0)) (.t 0), none⟩])
 (.region [oz 1 (.bld [(.int .u8 0), (.int .u8 0), (.int .u8 0), (.int .u8 0), (.int .u8 0), (.int .u8 0), (.int .u8 0), (.int .u8 0), (.int .u8 0), (.int .u8 0), (.int .u8 0), (.int .u8 0), (.int .u8 0), (.int .u8 0), (.int .u8 0), (.int .u8 0), (.int .u8 0), (.int .u8 0), (.int .u8 0), (.int .u8 0), (.int .u8 0), (.int .u8 0), (.int .u8 0), (.int .u8 0), (.int .u8 0), (.int .u8 0), (.int .u8 0), (.int .u8 0), (.int .u8 0), (.int .u8 0), (.int .u8 0), (.int .u8 0), (.int .u8 0), (.int .u8 0), (.int .u8 0), (.int .u8 0), (.int .u8 0), (.int .u8 0), (.int .u8 0), (.int .u8 0), (.int .u8 0), (.int .u8 0), (.int .u8 0), (.int .u8 0), (.int .u8 0), (.int .u8 0), (.int .u8 0), (.int .u8 0), (.int .u8 0), (.int .u8 0), (.int .u8 0), (.int .u8 0), (.int .u8 0), (.int .u8 0), (.int .u8 0), (.int .u8 0), (.int .u8 0), (.int .u8 0), (.int .u8 0), (.int .u8 0), (.int .u8 0), (.int .u8 0), (.int .u8 0), (.int .u8 0)] [(0, 1, (.c (.int .u8 0))), (1, 1, (.c (.int .u8 1))), (2, 1, (.c (.int .u8 56))), (3, 1, (.c (.int .u8 2))), (4, 1, (.c (.int .u8 57))), (5, 1, (.c (.int .u8 49))), (6, 1, (.c (.int .u8 28))), (7, 1, (.c (.int .u8 3))), (8, 1, (.c (.int .u8 61))), (9, 1, (.c (.int .u8 58))), (10, 1, (.c (.int .u8 42))), (11, 1, (.c (.int .u8 50))), (12, 1, (.c (.int .u8 38))), (13, 1, (.c (.int .u8 29))), (14, 1, (.c (.int .u8 17))), (15, 1, (.c (.int .u8 4))), (16, 1, (.c (.int .u8 62))), (17, 1, (.c (.int .u8 47))), (18, 1, (.c (.int .u8 59))), (19, 1, (.c (.int .u8 36))), (20, 1, (.c (.int .u8 45))), (21, 1, (.c (.int .u8 43))), (22, 1, (.c (.int .u8 51))), (23, 1, (.c (.int .u8 22))), (24, 1, (.c (.int .u8 53))), (25, 1, (.c (.int .u8 39))), (26, 1, (.c (.int .u8 33))), (27, 1, (.c (.int .u8 30))), (28, 1, (.c (.int .u8 24))), (29, 1, (.c (.int .u8 18))), (30, 1, (.c (.int .u8 12))), (31, 1, (.c (.int .u8 5))), (32, 1, (.c (.int .u8 63))), (33, 1, (.c (.int .u8 55))), (34, 1, (.c (.int .u8 48))), (35, 1, (.c (.int .u8 27))), (36, 1, (.c (.int .u8 60))), (37, 1, (.c (.int .u8 41))), (38, 1, (.c (.int .u8 37))), (39, 1, (.c (.int .u8 16))), (40, 1, (.c (.int .u8 46))), (41, 1, (.c (.int .u8 35))), (42, 1, (.c (.int .u8 44))), (43, 1, (.c (.int .u8 21))), (44, 1, (.c (.int .u8 52))), (45, 1, (.c (.int .u8 32))), (46, 1, (.c (.int .u8 23))), (47, 1, (.c (.int .u8 11))), (48, 1, (.c (.int .u8 54))), (49, 1, (.c (.int .u8 26))), (50, 1, (.c (.int .u8 40))), (51, 1, (.c (.int .u8 15))), (52, 1, (.c (.int .u8 34))), (53, 1, (.c (.int .u8 20))), (54, 1, (.c (.int .u8 31))), (55, 1, (.c (.int .u8 10))), (56, 1, (.c (.int .u8 25))), (57, 1, (.c (.int .u8 14))), (58, 1, (.c (.int .u8 19))), (59, 1, (.c (.int .u8 9))), (60, 1, (.c (.int .u8 13))), (61, 1, (.c (.int .u8 8))), (62, 1, (.c (.int .u8 7))), (63, 1, (.c (.int .u8 6)))]),
 ⟨none, .st 64 (.c (.ptr 1 0)) (.t 1), none⟩])), []⟩
theorem c135 : compFun Tryz.prog Tryz.f135 = some ir135 := by kernel_rfl
def tbl : Nat → Option IFun
  | 2 => some ir2
  | 3 => some ir3
  | 4 => some ir4
  | 6 => some ir6
  | 7 => some ir7
  | 8 => some ir8
  | 9 => some ir9
  | 10 => some ir10
  | 11 => some ir11
  | 12 => some ir12
  | 13 => some ir13
  | 14 => some ir14
  | 15 => some ir15
  | 16 => some ir16
  | 17 => some ir17
  | 18 => some ir18
  | 19 => some ir19
  | 20 => some ir20
  | 21 => some ir21
  | 22 => some ir22
  | 23 => some ir23
  | 24 => some ir24
  | 25 => some ir25
  | 26 => some ir26
  | 27 => some ir27
  | 28 => some ir28
  | 29 => some ir29
  | 30 => some ir30
  | 31 => some ir31
  | 32 => some ir32
  | 33 => some ir33
  | 34 => some ir34
  | 35 => some ir35
  | 37 => some ir37
  | 38 => some ir38
  | 39 => some ir39
  | 40 => some ir40
  | 41 => some ir41
  | 42 => some ir42
  | 43 => some ir43
  | 44 => some ir44
  | 45 => some ir45
  | 46 => some ir46
  | 47 => some ir47
  | 48 => some ir48
  | 49 => some ir49
  | 50 => some ir50
  | 51 => some ir51
  | 52 => some ir52
  | 53 => some ir53
  | 54 => some ir54
  | 55 => some ir55
  | 56 => some ir56
  | 57 => some ir57
  | 58 => some ir58
  | 59 => some ir59
  | 60 => some ir60
  | 61 => some ir61
  | 62 => some ir62
  | 63 => some ir63
  | 64 => some ir64
  | 65 => some ir65
  | 66 => some ir66
  | 67 => some ir67
  | 68 => some ir68
  | 69 => some ir69
  | 70 => some ir70
  | 71 => some ir71
  | 72 => some ir72
  | 73 => some ir73
  | 74 => some ir74
  | 75 => some ir75
  | 76 => some ir76
  | 77 => some ir77
  | 78 => some ir78
  | 79 => some ir79
  | 80 => some ir80
  | 81 => some ir81
  | 82 => some ir82
  | 83 => some ir83
  | 84 => some ir84
  | 85 => some ir85
  | 86 => some ir86
  | 87 => some ir87
  | 88 => some ir88
  | 89 => some ir89
  | 90 => some ir90
  | 91 => some ir91
  | 92 => some ir92
  | 93 => some ir93
  | 94 => some ir94
  | 95 => some ir95
  | 97 => some ir97
  | 98 => some ir98
  | 99 => some ir99
  | 100 => some ir100
  | 101 => some ir101
  | 102 => some ir102
  | 103 => some ir103
  | 104 => some ir104
  | 105 => some ir105
  | 107 => some ir107
  | 108 => some ir108
  | 109 => some ir109
  | 110 => some ir110
  | 111 => some ir111
  | 112 => some ir112
  | 113 => some ir113
  | 114 => some ir114
  | 135 => some ir135
  | _ => none
theorem tblOk : TblOk Tryz.prog tbl := by
  intro f ifn h
  unfold tbl at h
  split at h
  · cases h; exact ⟨_, Tryz.func2, c2⟩
  · cases h; exact ⟨_, Tryz.func3, c3⟩
  · cases h; exact ⟨_, Tryz.func4, c4⟩
  · cases h; exact ⟨_, Tryz.func6, c6⟩
  · cases h; exact ⟨_, Tryz.func7, c7⟩
  · cases h; exact ⟨_, Tryz.func8, c8⟩
  · cases h; exact ⟨_, Tryz.func9, c9⟩
  · cases h; exact ⟨_, Tryz.func10, c10⟩
  · cases h; exact ⟨_, Tryz.func11, c11⟩
  · cases h; exact ⟨_, Tryz.func12, c12⟩
  · cases h; exact ⟨_, Tryz.func13, c13⟩
  · cases h; exact ⟨_, Tryz.func14, c14⟩
  · cases h; exact ⟨_, Tryz.func15, c15⟩
  · cases h; exact ⟨_, Tryz.func16, c16⟩
  · cases h; exact ⟨_, Tryz.func17, c17⟩
  · cases h; exact ⟨_, Tryz.func18, c18⟩
  · cases h; exact ⟨_, Tryz.func19, c19⟩
  · cases h; exact ⟨_, Tryz.func20, c20⟩
  · cases h; exact ⟨_, Tryz.func21, c21⟩
  · cases h; exact ⟨_, Tryz.func22, c22⟩
  · cases h; exact ⟨_, Tryz.func23, c23⟩
  · cases h; exact ⟨_, Tryz.func24, c24⟩
  · cases h; exact ⟨_, Tryz.func25, c25⟩
  · cases h; exact ⟨_, Tryz.func26, c26⟩
  · cases h; exact ⟨_, Tryz.func27, c27⟩
  · cases h; exact ⟨_, Tryz.func28, c28⟩
  · cases h; exact ⟨_, Tryz.func29, c29⟩
  · cases h; exact ⟨_, Tryz.func30, c30⟩
  · cases h; exact ⟨_, Tryz.func31, c31⟩
  · cases h; exact ⟨_, Tryz.func32, c32⟩
  · cases h; exact ⟨_, Tryz.func33, c33⟩
  · cases h; exact ⟨_, Tryz.func34, c34⟩
  · cases h; exact ⟨_, Tryz.func35, c35⟩
  · cases h; exact ⟨_, Tryz.func37, c37⟩
  · cases h; exact ⟨_, Tryz.func38, c38⟩
  · cases h; exact ⟨_, Tryz.func39, c39⟩
  · cases h; exact ⟨_, Tryz.func40, c40⟩
  · cases h; exact ⟨_, Tryz.func41, c41⟩
  · cases h; exact ⟨_, Tryz.func42, c42⟩
  · cases h; exact ⟨_, Tryz.func43, c43⟩
  · cases h; exact ⟨_, Tryz.func44, c44⟩
  · cases h; exact ⟨_, Tryz.func45, c45⟩
  · cases h; exact ⟨_, Tryz.func46, c46⟩
  · cases h; exact ⟨_, Tryz.func47, c47⟩
  · cases h; exact ⟨_, Tryz.func48, c48⟩
  · cases h; exact ⟨_, Tryz.func49, c49⟩
  · cases h; exact ⟨_, Tryz.func50, c50⟩
  · cases h; exact ⟨_, Tryz.func51, c51⟩
  · cases h; exact ⟨_, Tryz.func52, c52⟩
  · cases h; exact ⟨_, Tryz.func53, c53⟩
  · cases h; exact ⟨_, Tryz.func54, c54⟩
  · cases h; exact ⟨_, Tryz.func55, c55⟩
  · cases h; exact ⟨_, Tryz.func56, c56⟩
  · cases h; exact ⟨_, Tryz.func57, c57⟩
  · cases h; exact ⟨_, Tryz.func58, c58⟩
  · cases h; exact ⟨_, Tryz.func59, c59⟩
  · cases h; exact ⟨_, Tryz.func60, c60⟩
  · cases h; exact ⟨_, Tryz.func61, c61⟩
  · cases h; exact ⟨_, Tryz.func62, c62⟩
  · cases h; exact ⟨_, Tryz.func63, c63⟩
  · cases h; exact ⟨_, Tryz.func64, c64⟩
  · cases h; exact ⟨_, Tryz.func65, c65⟩
  · cases h; exact ⟨_, Tryz.func66, c66⟩
  · cases h; exact ⟨_, Tryz.func67, c67⟩
  · cases h; exact ⟨_, Tryz.func68, c68⟩
  · cases h; exact ⟨_, Tryz.func69, c69⟩
  · cases h; exact ⟨_, Tryz.func70, c70⟩
  · cases h; exact ⟨_, Tryz.func71, c71⟩
  · cases h; exact ⟨_, Tryz.func72, c72⟩
  · cases h; exact ⟨_, Tryz.func73, c73⟩
  · cases h; exact ⟨_, Tryz.func74, c74⟩
  · cases h; exact ⟨_, Tryz.func75, c75⟩
  · cases h; exact ⟨_, Tryz.func76, c76⟩
  · cases h; exact ⟨_, Tryz.func77, c77⟩
  · cases h; exact ⟨_, Tryz.func78, c78⟩
  · cases h; exact ⟨_, Tryz.func79, c79⟩
  · cases h; exact ⟨_, Tryz.func80, c80⟩
  · cases h; exact ⟨_, Tryz.func81, c81⟩
  · cases h; exact ⟨_, Tryz.func82, c82⟩
  · cases h; exact ⟨_, Tryz.func83, c83⟩
  · cases h; exact ⟨_, Tryz.func84, c84⟩
  · cases h; exact ⟨_, Tryz.func85, c85⟩
  · cases h; exact ⟨_, Tryz.func86, c86⟩
  · cases h; exact ⟨_, Tryz.func87, c87⟩
  · cases h; exact ⟨_, Tryz.func88, c88⟩
  · cases h; exact ⟨_, Tryz.func89, c89⟩
  · cases h; exact ⟨_, Tryz.func90, c90⟩
  · cases h; exact ⟨_, Tryz.func91, c91⟩
  · cases h; exact ⟨_, Tryz.func92, c92⟩
  · cases h; exact ⟨_, Tryz.func93, c93⟩
  · cases h; exact ⟨_, Tryz.func94, c94⟩
  · cases h; exact ⟨_, Tryz.func95, c95⟩
  · cases h; exact ⟨_, Tryz.func97, c97⟩
  · cases h; exact ⟨_, Tryz.func98, c98⟩
  · cases h; exact ⟨_, Tryz.func99, c99⟩
  · cases h; exact ⟨_, Tryz.func100, c100⟩
  · cases h; exact ⟨_, Tryz.func101, c101⟩
  · cases h; exact ⟨_, Tryz.func102, c102⟩
  · cases h; exact ⟨_, Tryz.func103, c103⟩
  · cases h; exact ⟨_, Tryz.func104, c104⟩
  · cases h; exact ⟨_, Tryz.func105, c105⟩
  · cases h; exact ⟨_, Tryz.func107, c107⟩
  · cases h; exact ⟨_, Tryz.func108, c108⟩
  · cases h; exact ⟨_, Tryz.func109, c109⟩
  · cases h; exact ⟨_, Tryz.func110, c110⟩
  · cases h; exact ⟨_, Tryz.func111, c111⟩
  · cases h; exact ⟨_, Tryz.func112, c112⟩
  · cases h; exact ⟨_, Tryz.func113, c113⟩
  · cases h; exact ⟨_, Tryz.func114, c114⟩
  · cases h; exact ⟨_, Tryz.func135, c135⟩
  · cases h
def tblA (f : Nat) : Option IFun := if f = 5 then some ir5 else if f = 36 then some ir36 else tbl f
end Go.Ax.Ir
end
