import Derived.Test.YtaljoffbabgmgaaGreatDoorA5
import Derived.Test.YtaljoffbabgmgaaGreatDoorB
import Derived.KernelRfl
set_option linter.unusedSectionVars false
set_option linter.unusedVariables false
set_option linter.unusedSimpArgs false
section
namespace Go.Ax.Kr
open Go.Ax.Ir Go.Ax.K
set_option maxRecDepth 100000
set_option maxHeartbeats 8000000
noncomputable section
def b7 : KC := (kSeq (kRegion [kS d1 (oBox t0),
 kS d2 (oMv (gI 0)),
 kS d3 (oMv (gI 0)),
 kS d4 (oMv (gI 0))])
 (kSeq (kSeq (kRegion [kS d5 (oFa t1 0),
 kS d6 (oLd true 2 t5),
 kS d7 (oCall (gC (.func 41 [] [])) [t6, (gI (-100)), (gI 100)]),
 kS d4 (oMv t7)])
 (kSeq (kRegion [kS d8 (oMv t4),
 kS d9 (oBin .neq t8 (gI 0))])
 (kCond t9 (kSeq (kRegion [kS d10 (oMv t4),
 kS d2 (oMv (gI 1)),
 kS d3 (oMv (gI 0)),
 kS d4 (oMv t10)])
 kRet)
 kSkip)))
 (kSeq (kSeq (kRegion [kS d11 (oFa t1 2),
 kS d12 (oLd false 1 t11),
 kS d13 (oBldS 1 1 [(.int .i64 0)] [(0, 1, t12)]),
 kS d14 (oCall (gC (.func 42 [] [])) [(gI 0), (gI 3), t13])])
 (kCond t14 (kSeq (kRegion [kS d2 (oMv (gI 2)),
 kS d3 (oMv (gI 0)),
 kS d4 (oMv (gI 7))])
 kRet)
 kSkip))
 (kSeq (kSeq (kDraw [⟨kS d16 (oFa t1 3), ⟨(some 16), (.fa (.t 1) 3), none⟩, false, [], []⟩,
 ⟨kS d17 (oLd false 1 t16), ⟨(some 17), (.ld false 1 (.t 16)), none⟩, false, [⟨(some 17), (.ld false 1 (.t 16)), none⟩], []⟩,
 ⟨kS d18 (oCall (gC (.func 44 [] [])) [(gI 0), (gI 2000)]), ⟨(some 18), (.call (.c (.func 44 [] [])) [(.c (.int .i64 0)), (.c (.int .i64 2000))]), none⟩, true, [⟨(some 17), (.ld false 1 (.t 16)), none⟩], []⟩,
 ⟨kS d19 (oCall (gC (.func 43 [] [])) [t17, (gI 4), t18]), ⟨(some 19), (.call (.c (.func 43 [] [])) [(.t 17), (.c (.int .i64 4)), (.t 18)]), none⟩, true, [], []⟩,
 ⟨kS d15 (oMv t19), ⟨(some 15), (.mv (.t 19)), none⟩, false, [], []⟩,
 ⟨kS d20 (oExt t15 0), ⟨(some 20), (.ext (.t 15) 0), none⟩, false, [], []⟩,
 ⟨kS d21 (oExt t15 1), ⟨(some 21), (.ext (.t 15) 1), none⟩, false, [], []⟩,
 ⟨kS d3 (oMv t20), ⟨(some 3), (.mv (.t 20)), none⟩, false, [], []⟩,
 ⟨kS d4 (oMv t21), ⟨(some 4), (.mv (.t 21)), none⟩, false, [], []⟩])
 (kSeq (kRegion [kS d22 (oMv t4),
 kS d23 (oBin .neq t22 (gI 0))])
 (kCond t23 (kSeq (kRegion [kS d24 (oMv t3),
 kS d25 (oMv t4),
 kS d2 (oMv (gI 3)),
 kS d3 (oMv t24),
 kS d4 (oMv t25)])
 kRet)
 kSkip)))
 (kSeq (kRegion [kS d27 (oFa t1 4),
 kS d28 (oLd false 1 t27),
 kS d29 (oMkfn 46 [] [t1]),
 kS d30 (oCall (gC (.func 45 [] [])) [t28, (gI 5), t29]),
 kS d26 (oMv t30),
 kS d31 (oExt t26 0),
 kS d32 (oExt t26 1),
 kS d3 (oMv t31),
 kS d4 (oMv t32)])
 (kSeq (kSeq (kRegion [kS d33 (oMv t4),
 kS d34 (oBin .neq t33 (gI 0))])
 (kCond t34 (kSeq (kRegion [kS d35 (oMv t3),
 kS d36 (oMv t4),
 kS d2 (oMv (gI 4)),
 kS d3 (oMv t35),
 kS d4 (oMv t36)])
 kRet)
 kSkip))
 (kSeq (kRegion [kS d38 (oFa t1 5),
 kS d39 (oLd false 1 t38),
 kS d40 (oMkfn 53 [] [t1]),
 kS d41 (oCall (gC (.func 52 [] [])) [t39, (gI 5), t40]),
 kS d37 (oMv t41),
 kS d42 (oExt t37 0),
 kS d43 (oExt t37 1),
 kS d3 (oMv t42),
 kS d4 (oMv t43)])
 (kSeq (kSeq (kRegion [kS d44 (oMv t4),
 kS d45 (oBin .neq t44 (gI 0))])
 (kCond t45 (kSeq (kRegion [kS d46 (oMv t3),
 kS d47 (oMv t4),
 kS d2 (oMv (gI 5)),
 kS d3 (oMv t46),
 kS d4 (oMv t47)])
 kRet)
 kSkip))
 (kSeq (kSeq (kDraw [⟨kS d49 (oFa t1 6), ⟨(some 49), (.fa (.t 1) 6), none⟩, false, [], []⟩,
 ⟨kS d50 (oLd false 1 t49), ⟨(some 50), (.ld false 1 (.t 49)), none⟩, false, [⟨(some 50), (.ld false 1 (.t 49)), none⟩], []⟩,
 ⟨kS d51 (oCall (gC (.func 44 [] [])) [(gI 0), (gI 9)]), ⟨(some 51), (.call (.c (.func 44 [] [])) [(.c (.int .i64 0)), (.c (.int .i64 9))]), none⟩, true, [⟨(some 50), (.ld false 1 (.t 49)), none⟩], []⟩,
 ⟨kS d52 (oCall (gC (.func 43 [] [])) [t50, (gI 3), t51]), ⟨(some 52), (.call (.c (.func 43 [] [])) [(.t 50), (.c (.int .i64 3)), (.t 51)]), none⟩, true, [], []⟩,
 ⟨kS d48 (oMv t52), ⟨(some 48), (.mv (.t 52)), none⟩, false, [], []⟩,
 ⟨kS d53 (oExt t48 0), ⟨(some 53), (.ext (.t 48) 0), none⟩, false, [], []⟩,
 ⟨kS d54 (oExt t48 1), ⟨(some 54), (.ext (.t 48) 1), none⟩, false, [], []⟩,
 ⟨kS d3 (oMv t53), ⟨(some 3), (.mv (.t 53)), none⟩, false, [], []⟩,
 ⟨kS d4 (oMv t54), ⟨(some 4), (.mv (.t 54)), none⟩, false, [], []⟩])
 (kSeq (kRegion [kS d55 (oMv t4),
 kS d56 (oBin .neq t55 (gI 0))])
 (kCond t56 (kSeq (kRegion [kS d57 (oMv t3),
 kS d58 (oMv t4),
 kS d2 (oMv (gI 6)),
 kS d3 (oMv t57),
 kS d4 (oMv t58)])
 kRet)
 kSkip)))
 (kSeq (kRegion [kS d2 (oMv (gI 0)),
 kS d3 (oMv (gI 0)),
 kS d4 (oMv (gI 0))])
 kRet))))))))))
theorem e7 : b7 = comp ir7.code := by kernel_rfl
def k7 : KF := ⟨59, b7, [.tmp 2, .tmp 3, .tmp 4]⟩
def b12 : KC := (kSeq (kRegion [kS d3 (oBox t0),
 kS d6 (oAlloc (.agg [(.int .i64 0), (.int .i64 0)])),
 kS d7 (oMv (gI 0))])
 (kSeq (kRegion [kS d11 (oLd true 7 t3),
 kS d12 (oCall (gC (.func 56 [] [])) [t11]),
 kS d10 (oMv t12),
 kS d13 (oExt t10 0),
 kS d14 (oExt t10 1),
 kS d8 (oMv t13),
 kS d9 (oMv t14)])
 (kSeq (kSeq (kRegion [kS d15 (oMv t9),
 kS d16 (oBin .eql t15 (gI 0))])
 (kCond t16 (kRegion [kS d17 (oMv t8),
 kS d18 (oMv t1),
 kS d19 (oMv t2),
 kS d20 (oCall (gC (.func 57 [] [])) [t17, t18, t19]),
 kS d9 (oMv t20)])
 kSkip))
 (kSeq (kSeq (kRegion [kS d21 (oMv t9),
 kS d22 (oBin .neq t21 (gI 0))])
 (kCond t22 (kSeq (kRegion [kS d23 (oBld [(.int .i64 0), (.int .i64 0)] []),
 kS d24 (oMv t9),
 kN (oSt 2 t6 t23),
 kS d7 (oMv t24)])
 kRet)
 kSkip))
 (kSeq (kRegion [kS d25 (oMv t8),
 kS d26 (oMv t1),
 kS d27 (oMv t2),
 kS d28 (oCall (gC (.func 58 [] [])) [t25, t26, t27]),
 kN (oSt 2 t6 t28),
 kS d7 (oMv (gI 0))])
 kRet)))))
theorem e12 : b12 = comp ir12.code := by kernel_rfl
def k12 : KF := ⟨29, b12, [.cell 6 true 2, .tmp 7]⟩
def b15 : KC := (kSeq (kRegion [kS d4 (oBox t0),
 kS d8 (oMv (gI 0)),
 kS d9 (oMv (gI 0))])
 (kSeq (kRegion [kS d13 (oLd true 7 t4),
 kS d14 (oCall (gC (.func 56 [] [])) [t13]),
 kS d12 (oMv t14),
 kS d15 (oExt t12 0),
 kS d16 (oExt t12 1),
 kS d10 (oMv t15),
 kS d11 (oMv t16)])
 (kSeq (kBlock 0 (kSeq (kRegion [kS d18 (oMv t11),
 kS d19 (oBin .neq t18 (gI 0)),
 kS d17 (oMv t19)])
 (kCond t17 (kSeq (kRegion [kS d20 (oMv t11),
 kS d8 (oMv (gI 0)),
 kS d9 (oMv t20)])
 kRet)
 (kSeq (kRegion [kS d22 (oFa t4 5),
 kS d23 (oLd false 1 t22),
 kS d24 (oLen false t23),
 kS d25 (oBin .sub t24 (gI 1)),
 kS d26 (oMv t1),
 kS d27 (oBldS 1 1 [(.int .i64 0)] [(0, 1, t26)]),
 kS d28 (oCall (gC (.func 42 [] [])) [(gI 0), t25, t27]),
 kS d21 (oMv t28)])
 (kCond t21 (kSeq (kRegion [kS d8 (oMv (gI 0)),
 kS d9 (oMv (gI 4))])
 kRet)
 kSkip)))))
 (kSeq (kSeq (kRegion [kS d29 (oMv t10),
 kS d30 (oMv t2),
 kS d31 (oMv t3),
 kS d32 (oCall (gC (.func 57 [] [])) [t29, t30, t31]),
 kS d11 (oMv t32)])
 (kSeq (kRegion [kS d33 (oMv t11),
 kS d34 (oBin .neq t33 (gI 0))])
 (kCond t34 (kSeq (kRegion [kS d35 (oMv t11),
 kS d8 (oMv (gI 0)),
 kS d9 (oMv t35)])
 kRet)
 kSkip)))
 (kSeq (kRegion [kS d36 (oMv t10),
 kS d37 (oMv t1),
 kS d38 (oMv t2),
 kS d39 (oMv t3),
 kS d40 (oCall (gC (.func 59 [] [])) [t36, t37, t38, t39]),
 kS d8 (oMv t40),
 kS d9 (oMv (gI 0))])
 kRet)))))
theorem e15 : b15 = comp ir15.code := by kernel_rfl
def k15 : KF := ⟨41, b15, [.tmp 8, .tmp 9]⟩
def b17 : KC := (kSeq (kRegion [kS d2 (oBox t0),
 kS d3 (oBox t1),
 kS d4 (oMv (gC .nilslice)),
 kS d5 (oMv (gI 0))])
 (kSeq (kRegion [kS d11 (oLd true 7 t2),
 kS d12 (oLd true 2 t3),
 kS d13 (oCall (gC (.func 60 [] [])) [t11, t12]),
 kS d10 (oMv t13),
 kS d14 (oExt t10 0),
 kS d15 (oExt t10 1),
 kS d16 (oExt t10 2),
 kS d7 (oAlloc (.agg [(.int .i64 0), (.int .i64 0), (.int .i64 0), (.int .i64 0), (.int .i64 0), (.int .i64 0)])),
 kS d6 (oMv t14),
 kN (oSt 6 t7 t15),
 kS d8 (oMv t16)])
 (kSeq (kSeq (kRegion [kS d17 (oMv t8),
 kS d18 (oBin .neq t17 (gI 0))])
 (kCond t18 (kSeq (kRegion [kS d19 (oMv t8),
 kS d4 (oMv (gC .nilslice)),
 kS d5 (oMv t19)])
 kRet)
 kSkip))
 (kSeq (kRegion [kS d20 (oMv t6),
 kS d21 (oFa t7 1),
 kS d22 (oLd true 5 t21),
 kS d23 (oCall (gC (.func 61 [] [])) [t20, t22]),
 kS d9 (oAlloc (.agg [(.int .i64 0), (.int .i64 0), (.int .i64 0), (.int .i64 0)])),
 kN (oSt 4 t9 t23)])
 (kSeq (kRegion [kS d24 (oFa t2 3),
 kS d25 (oLd false 1 t24),
 kS d26 (oLen false t25),
 kS d27 (oGen (.slca 4 1 (.t 9) none (some (.t 26)) none)),
 kS d28 (oCall (gC (.func 62 [] [])) [t27]),
 kS d4 (oMv t28),
 kS d5 (oMv (gI 0))])
 kRet)))))
theorem e17 : b17 = comp ir17.code := by kernel_rfl
def k17 : KF := ⟨29, b17, [.tmp 4, .tmp 5]⟩
def b22 : KC := (kSeq (kRegion [kS d2 (oBox t0),
 kS d3 (oBox t1),
 kS d4 (oMv (gI 0)),
 kS d5 (oMv (gI 0))])
 (kSeq (kRegion [kS d10 (oLd true 7 t2),
 kS d11 (oLd true 2 t3),
 kS d12 (oCall (gC (.func 66 [] [])) [t10, t11]),
 kS d9 (oMv t12),
 kS d13 (oExt t9 0),
 kS d14 (oExt t9 1),
 kS d15 (oExt t9 2),
 kS d7 (oAlloc (.agg [(.int .i64 0), (.int .i64 0), (.int .i64 0), (.int .i64 0), (.int .i64 0), (.int .i64 0)])),
 kS d6 (oMv t13),
 kN (oSt 6 t7 t14),
 kS d8 (oMv t15)])
 (kSeq (kSeq (kRegion [kS d16 (oMv t8),
 kS d17 (oBin .neq t16 (gI 0))])
 (kCond t17 (kSeq (kRegion [kS d18 (oMv t8),
 kS d4 (oMv (gI 0)),
 kS d5 (oMv t18)])
 kRet)
 kSkip))
 (kSeq (kRegion [kS d19 (oMv t6),
 kS d20 (oFa t7 1),
 kS d21 (oLd true 5 t20),
 kS d22 (oCall (gC (.func 67 [] [])) [t19, t21]),
 kS d4 (oMv t22),
 kS d5 (oMv (gI 0))])
 kRet))))
theorem e22 : b22 = comp ir22.code := by kernel_rfl
def k22 : KF := ⟨23, b22, [.tmp 4, .tmp 5]⟩
def b24 : KC := (kSeq (kRegion [kS d1 (oBox t0),
 kS d2 (oAlloc (.agg [(.int .i64 0), .nilslice])),
 kS d3 (oAlloc (.int .i64 0)),
 kS d4 (oMv (gI 0))])
 (kSeq (kRegion [kS d12 (oLd true 7 t1),
 kS d13 (oCall (gC (.func 56 [] [])) [t12]),
 kS d11 (oMv t13),
 kS d14 (oExt t11 0),
 kS d15 (oExt t11 1),
 kS d5 (oAlloc .nilptr),
 kN (oSt 1 t5 t14),
 kS d4 (oMv t15)])
 (kSeq (kSeq (kRegion [kS d16 (oMv t4),
 kS d17 (oBin .neq t16 (gI 0))])
 (kCond t17 (kSeq (kRegion [kS d18 (oLd true 2 t2),
 kS d19 (oMv t4),
 kN (oSt 2 t2 t18),
 kN (oSt 1 t3 (gI 0)),
 kS d4 (oMv t19)])
 kRet)
 kSkip))
 (kSeq (kRegion [kN (oSt 1 t3 (gI (-1)))])
 (kSeq (kRegion [kS d6 (oAlloc (.agg [(.int .i64 0), (.int .i64 0), (.int .i64 0), (.int .i64 0), (.int .i64 0), (.int .i64 0)]))])
 (kSeq (kSeq (kRegion [kS d20 (oLd false 1 t5),
 kS d21 (oCall (gC (.func 68 [] [])) [t20])])
 (kBlock 0 (kRange t21 [22]
 (ICode.region [⟨(some 7), (.alloc (.agg [(.int .i64 0), (.int .i64 0), (.int .i64 0), (.int .i64 0), (.int .i64 0), (.int .i64 0)])), none⟩,
 ⟨none, (.st 6 (.t 7) (.t 22)), none⟩])
 (ICode.block 1
 (ICode.seq (ICode.region [⟨(some 23), (.ld false 1 (.t 5)), none⟩,
 ⟨(some 24), (.fa (.t 7) 1), none⟩,
 ⟨(some 25), (.ld true 5 (.t 24)), none⟩,
 ⟨(some 26), (.call (.c (.func 67 [] [])) [(.t 23), (.t 25)]), none⟩,
 ⟨(some 8), (.mv (.t 26)), none⟩])
 (ICode.seq (ICode.region [⟨(some 27), (.mv (.t 8)), none⟩,
 ⟨(some 28), (.ld false 1 (.t 3)), none⟩,
 ⟨(some 29), (.bin .gtr (.t 27) (.t 28)), none⟩])
 (ICode.cond (.t 29)
 (ICode.region [⟨(some 30), (.ld true 6 (.t 7)), none⟩,
 ⟨(some 31), (.mv (.t 8)), none⟩,
 ⟨none, (.st 6 (.t 6) (.t 30)), none⟩,
 ⟨none, (.st 1 (.t 3) (.t 31)), none⟩])
 ICode.skip)))))))
 (kSeq (kSeq (kRegion [kS d32 (oLd false 1 t3),
 kS d33 (oBin .lss t32 (gI 0))])
 (kCond t33 (kSeq (kRegion [kS d34 (oLd true 2 t2),
 kN (oSt 2 t2 t34),
 kN (oSt 1 t3 (gI 0)),
 kS d4 (oMv (gI 9))])
 kRet)
 kSkip))
 (kSeq (kRegion [kS d35 (oFa t1 5),
 kS d36 (oLd false 1 t35),
 kS d37 (oLen false t36),
 kS d38 (oGen (.mksl 1 8 [(.int .i64 0)] (.t 37) (.t 37))),
 kS d9 (oMv t38)])
 (kSeq (kRegion [kS d39 (oMv t9),
 kS d40 (oFa t6 1),
 kS d41 (oGen (.slca 5 1 (.t 40) none none none)),
 kS d42 (oGen (.cpy 1 (.t 39) (.t 41)))])
 (kSeq (kSeq (kRegion [kS d43 (oMv t9),
 kS d44 (oLen false t43),
 kS d45 (oMv (gI 0))])
 (kBlock 2 (kLoop (kSeq (kRegion [kS d46 (oBin .lss t45 t44)])
 (kSeq (kCond t46 kSkip
 (kExit 2))
 (kSeq (kBlock 3 (kSeq (kRegion [kS d47 (oMv t45),
 kS d10 (oMv t47)])
 (kRegion [kS d48 (oMv t9),
 kS d49 (oMv t10),
 kS d50 (oIa 1 t48 t49),
 kS d51 (oLd false 1 t50),
 kS d52 (oBin .sub t51 (gI 1)),
 kS d53 (oIa 1 t48 t49),
 kN (oSt 1 t53 t52)])))
 (kRegion [kS d54 (oBin .add t45 (gI 1)),
 kS d45 (oMv t54)])))))))
 (kSeq (kDraw [⟨kS d55 (oFa t6 0), ⟨(some 55), (.fa (.t 6) 0), none⟩, false, [], []⟩,
 ⟨kS d56 (oLd false 1 t55), ⟨(some 56), (.ld false 1 (.t 55)), none⟩, false, [⟨(some 56), (.ld false 1 (.t 55)), none⟩], []⟩,
 ⟨kS d57 (oMv t9), ⟨(some 57), (.mv (.t 9)), none⟩, false, [], []⟩,
 ⟨kS d58 (oBld [(.int .i64 0), .nilslice] [(0, 1, t56), (1, 1, t57)]), ⟨(some 58), (.bld [(.int .i64 0), .nilslice] [(0, 1, (.t 56)), (1, 1, (.t 57))]), none⟩, false, [], []⟩,
 ⟨kS d59 (oLd false 1 t3), ⟨(some 59), (.ld false 1 (.t 3)), none⟩, false, [⟨(some 59), (.ld false 1 (.t 3)), none⟩], []⟩,
 ⟨kN (oSt 2 t2 t58), ⟨none, (.st 2 (.t 2) (.t 58)), none⟩, true, [⟨(some 59), (.ld false 1 (.t 3)), none⟩], []⟩,
 ⟨kN (oSt 1 t3 t59), ⟨none, (.st 1 (.t 3) (.t 59)), none⟩, true, [], []⟩,
 ⟨kS d4 (oMv (gI 0)), ⟨(some 4), (.mv (.c (.int .i64 0))), none⟩, false, [], []⟩])
 kRet)))))))))))
theorem e24 : b24 = comp ir24.code := by kernel_rfl
def k24 : KF := ⟨60, b24, [.cell 2 true 2, .cell 3 false 1, .tmp 4]⟩
def b29 : KC := (kSeq (kRegion [kS d1 (oBox t0),
 kS d2 (oMv (gC .nilslice)),
 kS d3 (oMv (gI 0))])
 (kSeq (kRegion [kS d11 (oLd true 7 t1),
 kS d12 (oCall (gC (.func 56 [] [])) [t11]),
 kS d10 (oMv t12),
 kS d13 (oExt t10 0),
 kS d14 (oExt t10 1),
 kS d4 (oMv t13),
 kS d3 (oMv t14)])
 (kSeq (kSeq (kRegion [kS d15 (oMv t3),
 kS d16 (oBin .neq t15 (gI 0))])
 (kCond t16 (kSeq (kRegion [kS d17 (oMv t3),
 kS d2 (oMv (gC .nilslice)),
 kS d3 (oMv t17)])
 kRet)
 kSkip))
 (kSeq (kRegion [kS d5 (oMv (gC (.bool false)))])
 (kSeq (kSeq (kRegion [kS d18 (oFa t1 6),
 kS d19 (oLd false 1 t18),
 kS d20 (oLen false t19),
 kS d21 (oBin .shl (gI 1) t20),
 kS d22 (oMv (gI 0))])
 (kBlock 0 (kLoop (kSeq (kRegion [kS d23 (oBin .lss t22 t21)])
 (kSeq (kCond t23 kSkip
 (kExit 0))
 (kSeq (kBlock 1 (kSeq (kRegion [kS d24 (oMv t22),
 kS d6 (oMv t24)])
 (kSeq (kRegion [kS d25 (oMv t6),
 kS d26 (oCall (gC (.func 69 [] [])) [t25]),
 kS d7 (oMv t26)])
 (kSeq (kSeq (kRegion [kS d27 (oMv t5),
 kS d28 (oMv t27),
 kG t28 true d29 (oMv t7),
 kG t28 true d30 (oLen false t29),
 kG t28 true d31 (oMv t2),
 kG t28 true d32 (oLen false t31),
 kG t28 true d33 (oBin .gtr t30 t32),
 kG t28 true d34 (oMv t33),
 kG t34 false d35 (oMv t7),
 kG t34 false d36 (oLen false t35),
 kG t34 false d37 (oMv t2),
 kG t34 false d38 (oLen false t37),
 kG t34 false d39 (oBin .eql t36 t38),
 kG t34 false d40 (oMv t39),
 kG t40 true d41 (oMv t7),
 kG t40 true d42 (oMv t2),
 kG t40 true d43 (oCall (gC (.func 70 [] [])) [t41, t42]),
 kG t40 true d44 (oBin .gtr t43 (gI 0)),
 kG t34 false d45 (oPick t40 t44 (gC (.bool false))),
 kG t28 true d46 (oPick t34 (gC (.bool true)) t45),
 kS d47 (oPick t28 t46 (gC (.bool false)))])
 (kCond t47 (kExit 1)
 kSkip))
 (kSeq (kRegion [kS d48 (oMv t4),
 kS d49 (oNilck t48),
 kS d50 (oFa t49 0),
 kS d51 (oFa t50 6),
 kN (oSt 1 t51 (gC .nilslice))])
 (kSeq (kSeq (kRegion [kS d52 (oFa t1 6),
 kS d53 (oLd false 1 t52),
 kS d54 (oLen false t53),
 kS d55 (oMv (gI 0))])
 (kBlock 2 (kLoop (kSeq (kRegion [kS d56 (oBin .lss t55 t54)])
 (kSeq (kCond t56 kSkip
 (kExit 2))
 (kSeq (kBlock 3 (kSeq (kRegion [kS d57 (oMv t55),
 kS d58 (oIa 1 t53 t55),
 kS d59 (oLd false 1 t58),
 kS d8 (oMv t57),
 kS d9 (oMv t59)])
 (kSeq (kRegion [kS d60 (oMv t6),
 kS d61 (oMv t8),
 kS d62 (oBin .shr t60 t61),
 kS d63 (oBin .and t62 (gI 1)),
 kS d64 (oBin .eql t63 (gI 0))])
 (kCond t64 (kRegion [kS d65 (oMv t4),
 kS d66 (oMv t4),
 kS d67 (oNilck t66),
 kS d68 (oFa t67 0),
 kS d69 (oFa t68 6),
 kS d70 (oLd false 1 t69),
 kS d71 (oMv t9),
 kS d72 (oBldS 1 1 [(.int .i64 0)] [(0, 1, t71)]),
 kS d73 (oGen (.app 1 8 (.t 70) (.t 72))),
 kS d74 (oNilck t65),
 kS d75 (oFa t74 0),
 kS d76 (oFa t75 6),
 kN (oSt 1 t76 t73)])
 kSkip))))
 (kRegion [kS d77 (oBin .add t55 (gI 1)),
 kS d55 (oMv t77)])))))))
 (kSeq (kRegion [kS d78 (oMv t4),
 kS d79 (oCall (gC (.func 71 [] [])) [t78])])
 (kCond t79 (kRegion [kS d80 (oMv t7),
 kS d2 (oMv t80),
 kS d5 (oMv (gC (.bool true)))])
 kSkip))))))))
 (kRegion [kS d81 (oBin .add t22 (gI 1)),
 kS d22 (oMv t81)])))))))
 (kSeq (kRegion [kS d82 (oMv t2),
 kS d2 (oMv t82),
 kS d3 (oMv (gI 0))])
 kRet))))))
theorem e29 : b29 = comp ir29.code := by kernel_rfl
def k29 : KF := ⟨83, b29, [.tmp 2, .tmp 3]⟩
def b32 : KC := (kSeq (kRegion [kS d1 (oBox t0),
 kS d2 (oMv (gC .nilslice)),
 kS d3 (oMv (gI 0))])
 (kSeq (kRegion [kS d12 (oLd true 7 t1),
 kS d13 (oCall (gC (.func 56 [] [])) [t12]),
 kS d11 (oMv t13),
 kS d14 (oExt t11 0),
 kS d15 (oExt t11 1),
 kS d4 (oMv t14),
 kS d3 (oMv t15)])
 (kSeq (kSeq (kRegion [kS d16 (oMv t3),
 kS d17 (oBin .neq t16 (gI 0))])
 (kCond t17 (kSeq (kRegion [kS d18 (oMv t3),
 kS d2 (oMv (gC .nilslice)),
 kS d3 (oMv t18)])
 kRet)
 kSkip))
 (kSeq (kRegion [kS d5 (oAlloc (.int .i64 0)),
 kN (oSt 1 t5 (gI 0))])
 (kSeq (kRegion [kS d6 (oAlloc (.agg [(.int .i64 0), (.int .i64 0), (.int .i64 0), (.int .i64 0), (.int .i64 0)]))])
 (kSeq (kSeq (kRegion [kS d19 (oMv t4),
 kS d20 (oCall (gC (.func 68 [] [])) [t19])])
 (kBlock 0 (kRange t20 [21]
 (ICode.region [⟨(some 7), (.alloc (.agg [(.int .i64 0), (.int .i64 0), (.int .i64 0), (.int .i64 0), (.int .i64 0), (.int .i64 0)])), none⟩,
 ⟨none, (.st 6 (.t 7) (.t 21)), none⟩])
 (ICode.block 1
 (ICode.seq (ICode.region [⟨(some 22), (.ld false 1 (.t 5)), none⟩,
 ⟨(some 23), (.bin .add (.t 22) (.c (.int .i64 1))), none⟩,
 ⟨none, (.st 1 (.t 5) (.t 23)), none⟩])
 (ICode.seq (ICode.region [⟨(some 24), (.fa (.t 7) 1), none⟩,
 ⟨(some 25), (.ld true 5 (.t 24)), none⟩,
 ⟨(some 26), (.mv (.c (.int .i64 0))), none⟩])
 (ICode.block 2
 (ICode.loop
 (ICode.seq (ICode.region [⟨(some 27), (.bin .lss (.t 26) (.c (.int .i64 5))), none⟩])
 (ICode.seq (ICode.cond (.t 27)
 ICode.skip
 (ICode.exit 2))
 (ICode.seq (ICode.block 3
 (ICode.seq (ICode.region [⟨(some 28), (.mv (.t 26)), none⟩,
 ⟨(some 29), (.ix 5 1 false (.t 25) (.t 26)), none⟩,
 ⟨(some 8), (.mv (.t 28)), none⟩,
 ⟨(some 9), (.mv (.t 29)), none⟩])
 (ICode.region [⟨(some 30), (.mv (.t 8)), none⟩,
 ⟨(some 31), (.mv (.t 8)), none⟩,
 ⟨(some 32), (.iaa 5 1 (.t 6) (.t 31)), none⟩,
 ⟨(some 33), (.ld false 1 (.t 32)), none⟩,
 ⟨(some 34), (.mv (.t 9)), none⟩,
 ⟨(some 35), (.mx (.t 33) [(.t 34)]), none⟩,
 ⟨(some 36), (.iaa 5 1 (.t 6) (.t 30)), none⟩,
 ⟨none, (.st 1 (.t 36) (.t 35)), none⟩])))
 (ICode.region [⟨(some 37), (.bin .add (.t 26) (.c (.int .i64 1))), none⟩,
 ⟨(some 26), (.mv (.t 37)), none⟩]))))))))))))
 (kSeq (kSeq (kRegion [kS d38 (oLd false 1 t5),
 kS d39 (oBin .eql t38 (gI 0))])
 (kCond t39 (kSeq (kRegion [kS d2 (oMv (gC .nilslice)),
 kS d3 (oMv (gI 9))])
 kRet)
 kSkip))
 (kSeq (kSeq (kRegion [kS d40 (oFa t1 5),
 kS d41 (oLd false 1 t40),
 kS d42 (oLen false t41),
 kS d43 (oMv (gI 0))])
 (kBlock 4 (kLoop (kSeq (kRegion [kS d44 (oBin .lss t43 t42)])
 (kSeq (kCond t44 kSkip
 (kExit 4))
 (kSeq (kBlock 5 (kSeq (kRegion [kS d45 (oMv t43),
 kS d10 (oMv t45)])
 (kSeq (kRegion [kS d46 (oMv t10),
 kS d47 (oIaa 5 1 t6 t46),
 kS d48 (oLd false 1 t47),
 kS d49 (oBin .eql t48 (gI 0))])
 (kCond t49 (kRegion [kS d50 (oMv t2),
 kS d51 (oMv t10),
 kS d52 (oBldS 1 1 [(.int .i64 0)] [(0, 1, t51)]),
 kS d53 (oGen (.app 1 8 (.t 50) (.t 52))),
 kS d2 (oMv t53)])
 kSkip))))
 (kRegion [kS d54 (oBin .add t43 (gI 1)),
 kS d43 (oMv t54)])))))))
 (kSeq (kRegion [kS d55 (oMv t2),
 kS d2 (oMv t55),
 kS d3 (oMv (gI 0))])
 kRet)))))))))
theorem e32 : b32 = comp ir32.code := by kernel_rfl
def k32 : KF := ⟨56, b32, [.tmp 2, .tmp 3]⟩
def b35 : KC := (kSeq (kRegion [kS d2 (oBox t0),
 kS d4 (oMv (gI 0)),
 kS d5 (oMv (gI 0))])
 (kSeq (kRegion [kS d12 (oLd true 7 t2),
 kS d13 (oCall (gC (.func 56 [] [])) [t12]),
 kS d11 (oMv t13),
 kS d14 (oExt t11 0),
 kS d15 (oExt t11 1),
 kS d6 (oMv t14),
 kS d7 (oMv t15)])
 (kSeq (kBlock 0 (kSeq (kRegion [kS d17 (oMv t7),
 kS d18 (oBin .neq t17 (gI 0)),
 kS d16 (oMv t18)])
 (kCond t16 (kSeq (kRegion [kS d19 (oMv t7),
 kS d4 (oMv (gI 0)),
 kS d5 (oMv t19)])
 kRet)
 (kSeq (kRegion [kS d21 (oFa t2 5),
 kS d22 (oLd false 1 t21),
 kS d23 (oLen false t22),
 kS d24 (oBin .sub t23 (gI 1)),
 kS d25 (oMv t1),
 kS d26 (oBldS 1 1 [(.int .i64 0)] [(0, 1, t25)]),
 kS d27 (oCall (gC (.func 42 [] [])) [(gI 0), t24, t26]),
 kS d20 (oMv t27)])
 (kCond t20 (kSeq (kRegion [kS d4 (oMv (gI 0)),
 kS d5 (oMv (gI 4))])
 kRet)
 kSkip)))))
 (kSeq (kRegion [kS d8 (oMv (gI (-1)))])
 (kSeq (kSeq (kRegion [kS d28 (oFa t2 2),
 kS d29 (oLd false 1 t28),
 kS d30 (oBin .shl (gI 1) t29),
 kS d31 (oMv (gI 0))])
 (kBlock 1 (kLoop (kSeq (kRegion [kS d32 (oBin .lss t31 t30)])
 (kSeq (kCond t32 kSkip
 (kExit 1))
 (kSeq (kBlock 2 (kSeq (kRegion [kS d33 (oMv t31),
 kS d9 (oMv t33)])
 (kSeq (kSeq (kRegion [kS d34 (oMv t8),
 kS d35 (oBin .geq t34 (gI 0)),
 kS d36 (oMv t35),
 kG t36 true d37 (oMv t9),
 kG t36 true d38 (oGen (.conv .u64 (.t 37))),
 kG t36 true d39 (oCall (gC (.func 72 [] [])) [t38]),
 kG t36 true d40 (oMv t8),
 kG t36 true d41 (oGen (.conv .u64 (.t 40))),
 kG t36 true d42 (oCall (gC (.func 72 [] [])) [t41]),
 kG t36 true d43 (oBin .geq t39 t42),
 kS d44 (oPick t36 t43 (gC (.bool false)))])
 (kCond t44 (kExit 2)
 kSkip))
 (kSeq (kRegion [kS d45 (oFa t2 4),
 kS d46 (oLd false 1 t45),
 kS d47 (oLen false t46),
 kS d48 (oMv (gI 0))])
 (kBlock 3 (kLoop (kSeq (kRegion [kS d49 (oBin .lss t48 t47)])
 (kSeq (kCond t49 kSkip
 (kExit 3))
 (kSeq (kBlock 4 (kSeq (kRegion [kS d50 (oMv t48),
 kS d10 (oMv t50)])
 (kSeq (kRegion [kS d51 (oMv t6),
 kS d52 (oMv t1),
 kS d53 (oMv t10),
 kS d54 (oMv t9),
 kS d55 (oCall (gC (.func 59 [] [])) [t51, t52, t53, t54]),
 kS d56 (oBin .eql t55 (gI 1))])
 (kCond t56 (kRegion [kS d57 (oMv t9),
 kS d8 (oMv t57)])
 kSkip))))
 (kRegion [kS d58 (oBin .add t48 (gI 1)),
 kS d48 (oMv t58)]))))))))))
 (kRegion [kS d59 (oBin .add t31 (gI 1)),
 kS d31 (oMv t59)])))))))
 (kSeq (kSeq (kRegion [kS d60 (oMv t8),
 kS d61 (oBin .lss t60 (gI 0))])
 (kCond t61 (kSeq (kRegion [kS d4 (oMv (gI 0)),
 kS d5 (oMv (gI 9))])
 kRet)
 kSkip))
 (kSeq (kRegion [kS d62 (oMv t8),
 kS d4 (oMv t62),
 kS d5 (oMv (gI 0))])
 kRet)))))))
theorem e35 : b35 = comp ir35.code := by kernel_rfl
def k35 : KF := ⟨63, b35, [.tmp 4, .tmp 5]⟩
def b37 : KC := (kSeq (kRegion [kS d2 (oBox t0),
 kS d3 (oBox t1),
 kS d4 (oMv (gI 0)),
 kS d5 (oMv (gI 0)),
 kS d6 (oMv (gI 0))])
 (kSeq (kRegion [kS d15 (oLd true 7 t2),
 kS d16 (oLd true 2 t3),
 kS d17 (oCall (gC (.func 66 [] [])) [t15, t16]),
 kS d14 (oMv t17),
 kS d18 (oExt t14 0),
 kS d19 (oExt t14 1),
 kS d20 (oExt t14 2),
 kS d8 (oAlloc (.agg [(.int .i64 0), (.int .i64 0), (.int .i64 0), (.int .i64 0), (.int .i64 0), (.int .i64 0)])),
 kS d7 (oMv t18),
 kN (oSt 6 t8 t19),
 kS d6 (oMv t20)])
 (kSeq (kSeq (kRegion [kS d21 (oMv t6),
 kS d22 (oBin .neq t21 (gI 0))])
 (kCond t22 (kSeq (kRegion [kS d23 (oMv t6),
 kS d4 (oMv (gI 0)),
 kS d5 (oMv (gI 0)),
 kS d6 (oMv t23)])
 kRet)
 kSkip))
 (kSeq (kRegion [kS d4 (oMv (gI (-1)))])
 (kSeq (kSeq (kRegion [kS d24 (oFa t8 1),
 kS d25 (oLd true 5 t24),
 kS d26 (oMv (gI 0))])
 (kBlock 0 (kLoop (kSeq (kRegion [kS d27 (oBin .lss t26 (gI 5))])
 (kSeq (kCond t27 kSkip
 (kExit 0))
 (kSeq (kBlock 1 (kSeq (kRegion [kS d28 (oMv t26),
 kS d29 (oIx 5 1 false t25 t26),
 kS d9 (oMv t28),
 kS d10 (oMv t29)])
 (kSeq (kSeq (kRegion [kS d30 (oMv t10),
 kS d31 (oBin .eql t30 (gI 0))])
 (kCond t31 (kExit 1)
 kSkip))
 (kSeq (kDraw [⟨kS d32 (oMv t7), ⟨(some 32), (.mv (.t 7)), none⟩, false, [], []⟩,
 ⟨kS d33 (oMv t10), ⟨(some 33), (.mv (.t 10)), none⟩, false, [], []⟩,
 ⟨kS d34 (oBin .sub t33 (gI 1)), ⟨(some 34), (.bin .sub (.t 33) (.c (.int .i64 1))), none⟩, false, [], []⟩,
 ⟨kS d35 (oFa t8 0), ⟨(some 35), (.fa (.t 8) 0), none⟩, false, [], []⟩,
 ⟨kS d36 (oLd false 1 t35), ⟨(some 36), (.ld false 1 (.t 35)), none⟩, false, [⟨(some 36), (.ld false 1 (.t 35)), none⟩], []⟩,
 ⟨kS d37 (oCall (gC (.func 58 [] [])) [t32, t34, t36]), ⟨(some 37), (.call (.c (.func 58 [] [])) [(.t 32), (.t 34), (.t 36)]), none⟩, true, [], []⟩,
 ⟨kS d38 (oMv t7), ⟨(some 38), (.mv (.t 7)), none⟩, false, [], []⟩,
 ⟨kS d39 (oNilck t38), ⟨(some 39), (.nilck (.t 38)), none⟩, false, [], []⟩,
 ⟨kS d40 (oFa t39 0), ⟨(some 40), (.fa (.t 39) 0), none⟩, false, [], []⟩,
 ⟨kS d41 (oFa t40 5), ⟨(some 41), (.fa (.t 40) 5), none⟩, false, [], []⟩,
 ⟨kS d42 (oLd false 1 t41), ⟨(some 42), (.ld false 1 (.t 41)), none⟩, false, [⟨(some 42), (.ld false 1 (.t 41)), none⟩], [5]⟩,
 ⟨kS d43 (oMv t9), ⟨(some 43), (.mv (.t 9)), none⟩, false, [], []⟩,
 ⟨kS d44 (oIa 6 t42 t43), ⟨(some 44), (.ia 6 (.t 42) (.t 43)), none⟩, false, [], []⟩,
 ⟨kS d45 (oLd true 6 t44), ⟨(some 45), (.ld true 6 (.t 44)), none⟩, false, [⟨(some 45), (.ld true 6 (.t 44)), none⟩], [5]⟩,
 ⟨kS d11 (oAlloc (.agg [(.int .i64 0), (.int .i64 0)])), ⟨(some 11), (.alloc (.agg [(.int .i64 0), (.int .i64 0)])), none⟩, false, [], []⟩,
 ⟨kS d12 (oAlloc (.agg [(.str []), (.int .i64 0), (.int .i64 0), (.int .i64 0), (.int .i64 0), (.int .i64 0)])), ⟨(some 12), (.alloc (.agg [(.str []), (.int .i64 0), (.int .i64 0), (.int .i64 0), (.int .i64 0), (.int .i64 0)])), none⟩, false, [], []⟩,
 ⟨kN (oSt 2 t11 t37), ⟨none, (.st 2 (.t 11) (.t 37)), none⟩, true, [⟨(some 42), (.ld false 1 (.t 41)), none⟩, ⟨(some 45), (.ld true 6 (.t 44)), none⟩], []⟩,
 ⟨kN (oSt 6 t12 t45), ⟨none, (.st 6 (.t 12) (.t 45)), none⟩, true, [], []⟩])
 (kSeq (kRegion [kS d46 (oFa t11 0),
 kS d47 (oLd false 1 t46),
 kS d48 (oFa t12 3),
 kS d49 (oLd false 1 t48),
 kS d50 (oBin .sub t47 t49),
 kS d51 (oFa t12 4),
 kS d52 (oLd false 1 t51),
 kS d53 (oFa t11 1),
 kS d54 (oLd false 1 t53),
 kS d55 (oBin .sub t52 t54),
 kS d56 (oGen (.mn (.t 50) [(.t 55)])),
 kS d13 (oMv t56)])
 (kSeq (kRegion [kS d57 (oMv t4),
 kS d58 (oBin .lss t57 (gI 0)),
 kS d59 (oMv t58),
 kG t59 false d60 (oMv t13),
 kG t59 false d61 (oMv t5),
 kG t59 false d62 (oBin .lss t60 t61),
 kS d63 (oPick t59 (gC (.bool true)) t62)])
 (kCond t63 (kRegion [kS d64 (oMv t9),
 kS d65 (oMv t13),
 kS d4 (oMv t64),
 kS d5 (oMv t65)])
 kSkip)))))))
 (kRegion [kS d66 (oBin .add t26 (gI 1)),
 kS d26 (oMv t66)])))))))
 (kSeq (kSeq (kRegion [kS d67 (oMv t4),
 kS d68 (oBin .lss t67 (gI 0))])
 (kCond t68 (kSeq (kRegion [kS d4 (oMv (gI 0)),
 kS d5 (oMv (gI 0)),
 kS d6 (oMv (gI 4))])
 kRet)
 kSkip))
 (kSeq (kRegion [kS d69 (oMv t4),
 kS d70 (oMv t5),
 kS d4 (oMv t69),
 kS d5 (oMv t70),
 kS d6 (oMv (gI 0))])
 kRet)))))))
theorem e37 : b37 = comp ir37.code := by kernel_rfl
def k37 : KF := ⟨71, b37, [.tmp 4, .tmp 5, .tmp 6]⟩
def b39 : KC := (kSeq (kRegion [kS d0 (oMv (gC (.bool false)))])
 (kSeq (kRegion [kS d27 (oBldS 1 1 [(.int .i64 0)] [(0, 1, (gI 3))]),
 kS d28 (oCall (gC (.func 73 [] [])) [t27]),
 kS d29 (oCall (gC (.func 73 [] [])) [(gC .nilslice)]),
 kS d1 (oAlloc (.agg [(.int .i64 0), (.int .i64 0), (.int .i64 0), .nilslice, .nilslice, .nilslice, .nilslice])),
 kS d2 (oAlloc (.agg [(.int .i64 0), (.int .i64 0), (.int .i64 0), .nilslice, .nilslice, .nilslice, .nilslice])),
 kN (oSt 7 t1 t28),
 kN (oSt 7 t2 t29)])
 (kSeq (kRegion [kS d31 (oLd true 7 t1),
 kS d32 (oCall (gC (.func 12 [] [])) [t31, (gI 1), (gI 1)]),
 kS d30 (oMv t32),
 kS d33 (oExt t30 0),
 kS d34 (oExt t30 1),
 kS d3 (oAlloc (.agg [(.int .i64 0), (.int .i64 0)])),
 kN (oSt 2 t3 t33),
 kS d4 (oMv t34)])
 (kSeq (kRegion [kS d36 (oLd true 7 t1),
 kS d37 (oCall (gC (.func 15 [] [])) [t36, (gI 0), (gI 1), (gI 1)]),
 kS d35 (oMv t37),
 kS d38 (oExt t35 0),
 kS d39 (oExt t35 1),
 kS d5 (oMv t38),
 kS d6 (oMv t39)])
 (kSeq (kRegion [kS d41 (oLd true 7 t1),
 kS d42 (oCall (gC (.func 15 [] [])) [t41, (gI 2), (gI 1), (gI 1)]),
 kS d40 (oMv t42),
 kS d43 (oExt t40 0),
 kS d44 (oExt t40 1),
 kS d7 (oMv t43),
 kS d8 (oMv t44)])
 (kSeq (kRegion [kS d46 (oLd true 7 t1),
 kS d47 (oCall (gC (.func 24 [] [])) [t46]),
 kS d45 (oMv t47),
 kS d48 (oExt t45 0),
 kS d49 (oExt t45 1),
 kS d50 (oExt t45 2),
 kS d9 (oAlloc (.agg [(.int .i64 0), .nilslice])),
 kN (oSt 2 t9 t48),
 kS d10 (oMv t49),
 kS d11 (oMv t50)])
 (kSeq (kDraw [⟨kS d52 (oLd true 7 t1), ⟨(some 52), (.ld true 7 (.t 1)), none⟩, false, [⟨(some 52), (.ld true 7 (.t 1)), none⟩], []⟩,
 ⟨kS d53 (oBldS 1 3 [(.int .i64 0)] [(0, 1, (gI 1)), (1, 1, (gI (-1))), (2, 1, (gI 2))]), ⟨(some 53), (.bldS 1 3 [(.int .i64 0)] [(0, 1, (.c (.int .i64 1))), (1, 1, (.c (.int .i64 (-1)))), (2, 1, (.c (.int .i64 2)))]), none⟩, false, [], []⟩,
 ⟨kS d54 (oCall (gC (.func 74 [] [])) [(gI 1), t53]), ⟨(some 54), (.call (.c (.func 74 [] [])) [(.c (.int .i64 1)), (.t 53)]), none⟩, true, [⟨(some 52), (.ld true 7 (.t 1)), none⟩], []⟩,
 ⟨kS d55 (oCall (gC (.func 22 [] [])) [t52, t54]), ⟨(some 55), (.call (.c (.func 22 [] [])) [(.t 52), (.t 54)]), none⟩, true, [], []⟩,
 ⟨kS d51 (oMv t55), ⟨(some 51), (.mv (.t 55)), none⟩, false, [], []⟩,
 ⟨kS d56 (oExt t51 0), ⟨(some 56), (.ext (.t 51) 0), none⟩, false, [], []⟩,
 ⟨kS d57 (oExt t51 1), ⟨(some 57), (.ext (.t 51) 1), none⟩, false, [], []⟩,
 ⟨kS d12 (oMv t56), ⟨(some 12), (.mv (.t 56)), none⟩, false, [], []⟩,
 ⟨kS d13 (oMv t57), ⟨(some 13), (.mv (.t 57)), none⟩, false, [], []⟩])
 (kSeq (kDraw [⟨kS d59 (oLd true 7 t1), ⟨(some 59), (.ld true 7 (.t 1)), none⟩, false, [⟨(some 59), (.ld true 7 (.t 1)), none⟩], []⟩,
 ⟨kS d60 (oBldS 1 3 [(.int .i64 0)] [(0, 1, (gI 1)), (1, 1, (gI 0)), (2, 1, (gI 2))]), ⟨(some 60), (.bldS 1 3 [(.int .i64 0)] [(0, 1, (.c (.int .i64 1))), (1, 1, (.c (.int .i64 0))), (2, 1, (.c (.int .i64 2)))]), none⟩, false, [], []⟩,
 ⟨kS d61 (oCall (gC (.func 74 [] [])) [(gI 1), t60]), ⟨(some 61), (.call (.c (.func 74 [] [])) [(.c (.int .i64 1)), (.t 60)]), none⟩, true, [⟨(some 59), (.ld true 7 (.t 1)), none⟩], []⟩,
 ⟨kS d62 (oCall (gC (.func 17 [] [])) [t59, t61]), ⟨(some 62), (.call (.c (.func 17 [] [])) [(.t 59), (.t 61)]), none⟩, true, [], []⟩,
 ⟨kS d58 (oMv t62), ⟨(some 58), (.mv (.t 62)), none⟩, false, [], []⟩,
 ⟨kS d63 (oExt t58 0), ⟨(some 63), (.ext (.t 58) 0), none⟩, false, [], []⟩,
 ⟨kS d64 (oExt t58 1), ⟨(some 64), (.ext (.t 58) 1), none⟩, false, [], []⟩,
 ⟨kS d14 (oMv t63), ⟨(some 14), (.mv (.t 63)), none⟩, false, [], []⟩,
 ⟨kS d15 (oMv t64), ⟨(some 15), (.mv (.t 64)), none⟩, false, [], []⟩])
 (kSeq (kRegion [kS d66 (oBldS 1 2 [(.int .i64 0)] [(0, 1, (gI 1)), (1, 1, (gI 3))]),
 kS d67 (oCall (gC (.func 73 [] [])) [t66]),
 kS d68 (oCall (gC (.func 29 [] [])) [t67]),
 kS d65 (oMv t68),
 kS d69 (oExt t65 0),
 kS d70 (oExt t65 1),
 kS d16 (oMv t69),
 kS d17 (oMv t70)])
 (kSeq (kRegion [kS d72 (oLd true 7 t1),
 kS d73 (oCall (gC (.func 32 [] [])) [t72]),
 kS d71 (oMv t73),
 kS d74 (oExt t71 0),
 kS d75 (oExt t71 1),
 kS d18 (oMv t74),
 kS d19 (oMv t75)])
 (kSeq (kRegion [kS d77 (oLd true 7 t2),
 kS d78 (oCall (gC (.func 32 [] [])) [t77]),
 kS d76 (oMv t78),
 kS d79 (oExt t76 0),
 kS d80 (oExt t76 1),
 kS d20 (oMv t79),
 kS d21 (oMv t80)])
 (kSeq (kRegion [kS d82 (oLd true 7 t1),
 kS d83 (oCall (gC (.func 35 [] [])) [t82, (gI 0)]),
 kS d81 (oMv t83),
 kS d84 (oExt t81 0),
 kS d85 (oExt t81 1),
 kS d22 (oMv t84),
 kS d23 (oMv t85)])
 (kSeq (kRegion [kS d87 (oLd true 7 t1),
 kS d88 (oLd true 2 t9),
 kS d89 (oCall (gC (.func 37 [] [])) [t87, t88]),
 kS d86 (oMv t89),
 kS d90 (oExt t86 0),
 kS d91 (oExt t86 1),
 kS d92 (oExt t86 2),
 kS d24 (oMv t90),
 kS d25 (oMv t91),
 kS d26 (oMv t92)])
 (kSeq (kDraw [⟨kS d93 (oMv t4), ⟨(some 93), (.mv (.t 4)), none⟩, false, [], []⟩,
 ⟨kS d94 (oBin .eql t93 (gI 0)), ⟨(some 94), (.bin .eql (.t 93) (.c (.int .i64 0))), none⟩, false, [], []⟩,
 ⟨kS d95 (oMv t94), ⟨(some 95), (.mv (.t 94)), none⟩, false, [], []⟩,
 ⟨kG t95 true d96 (oMv t6), ⟨(some 96), (.mv (.t 6)), (some (95, true))⟩, false, [], []⟩,
 ⟨kG t95 true d97 (oBin .eql t96 (gI 0)), ⟨(some 97), (.bin .eql (.t 96) (.c (.int .i64 0))), (some (95, true))⟩, false, [], []⟩,
 ⟨kS d98 (oPick t95 t97 (gC (.bool false))), ⟨(some 98), (.pick (.t 95) (.t 97) (.c (.bool false))), none⟩, false, [], []⟩,
 ⟨kS d99 (oMv t98), ⟨(some 99), (.mv (.t 98)), none⟩, false, [], []⟩,
 ⟨kG t99 true d100 (oMv t8), ⟨(some 100), (.mv (.t 8)), (some (99, true))⟩, false, [], []⟩,
 ⟨kG t99 true d101 (oBin .eql t100 (gI 0)), ⟨(some 101), (.bin .eql (.t 100) (.c (.int .i64 0))), (some (99, true))⟩, false, [], []⟩,
 ⟨kS d102 (oPick t99 t101 (gC (.bool false))), ⟨(some 102), (.pick (.t 99) (.t 101) (.c (.bool false))), none⟩, false, [], []⟩,
 ⟨kS d103 (oMv t102), ⟨(some 103), (.mv (.t 102)), none⟩, false, [], []⟩,
 ⟨kG t103 true d104 (oMv t11), ⟨(some 104), (.mv (.t 11)), (some (103, true))⟩, false, [], []⟩,
 ⟨kG t103 true d105 (oBin .eql t104 (gI 0)), ⟨(some 105), (.bin .eql (.t 104) (.c (.int .i64 0))), (some (103, true))⟩, false, [], []⟩,
 ⟨kS d106 (oPick t103 t105 (gC (.bool false))), ⟨(some 106), (.pick (.t 103) (.t 105) (.c (.bool false))), none⟩, false, [], []⟩,
 ⟨kS d107 (oMv t106), ⟨(some 107), (.mv (.t 106)), none⟩, false, [], []⟩,
 ⟨kG t107 true d108 (oMv t13), ⟨(some 108), (.mv (.t 13)), (some (107, true))⟩, false, [], []⟩,
 ⟨kG t107 true d109 (oBin .eql t108 (gI 9)), ⟨(some 109), (.bin .eql (.t 108) (.c (.int .i64 9))), (some (107, true))⟩, false, [], []⟩,
 ⟨kS d110 (oPick t107 t109 (gC (.bool false))), ⟨(some 110), (.pick (.t 107) (.t 109) (.c (.bool false))), none⟩, false, [], []⟩,
 ⟨kS d111 (oMv t110), ⟨(some 111), (.mv (.t 110)), none⟩, false, [], []⟩,
 ⟨kG t111 true d112 (oMv t15), ⟨(some 112), (.mv (.t 15)), (some (111, true))⟩, false, [], []⟩,
 ⟨kG t111 true d113 (oBin .eql t112 (gI 0)), ⟨(some 113), (.bin .eql (.t 112) (.c (.int .i64 0))), (some (111, true))⟩, false, [], []⟩,
 ⟨kS d114 (oPick t111 t113 (gC (.bool false))), ⟨(some 114), (.pick (.t 111) (.t 113) (.c (.bool false))), none⟩, false, [], []⟩,
 ⟨kS d115 (oMv t114), ⟨(some 115), (.mv (.t 114)), none⟩, false, [], []⟩,
 ⟨kG t115 true d116 (oMv t17), ⟨(some 116), (.mv (.t 17)), (some (115, true))⟩, false, [], []⟩,
 ⟨kG t115 true d117 (oBin .eql t116 (gI 0)), ⟨(some 117), (.bin .eql (.t 116) (.c (.int .i64 0))), (some (115, true))⟩, false, [], []⟩,
 ⟨kS d118 (oPick t115 t117 (gC (.bool false))), ⟨(some 118), (.pick (.t 115) (.t 117) (.c (.bool false))), none⟩, false, [], []⟩,
 ⟨kS d119 (oMv t118), ⟨(some 119), (.mv (.t 118)), none⟩, false, [], []⟩,
 ⟨kG t119 true d120 (oMv t19), ⟨(some 120), (.mv (.t 19)), (some (119, true))⟩, false, [], []⟩,
 ⟨kG t119 true d121 (oBin .eql t120 (gI 0)), ⟨(some 121), (.bin .eql (.t 120) (.c (.int .i64 0))), (some (119, true))⟩, false, [], []⟩,
 ⟨kS d122 (oPick t119 t121 (gC (.bool false))), ⟨(some 122), (.pick (.t 119) (.t 121) (.c (.bool false))), none⟩, false, [], []⟩,
 ⟨kS d123 (oMv t122), ⟨(some 123), (.mv (.t 122)), none⟩, false, [], []⟩,
 ⟨kG t123 true d124 (oMv t21), ⟨(some 124), (.mv (.t 21)), (some (123, true))⟩, false, [], []⟩,
 ⟨kG t123 true d125 (oBin .eql t124 (gI 0)), ⟨(some 125), (.bin .eql (.t 124) (.c (.int .i64 0))), (some (123, true))⟩, false, [], []⟩,
 ⟨kS d126 (oPick t123 t125 (gC (.bool false))), ⟨(some 126), (.pick (.t 123) (.t 125) (.c (.bool false))), none⟩, false, [], []⟩,
 ⟨kS d127 (oMv t126), ⟨(some 127), (.mv (.t 126)), none⟩, false, [], []⟩,
 ⟨kG t127 true d128 (oMv t23), ⟨(some 128), (.mv (.t 23)), (some (127, true))⟩, false, [], []⟩,
 ⟨kG t127 true d129 (oBin .eql t128 (gI 0)), ⟨(some 129), (.bin .eql (.t 128) (.c (.int .i64 0))), (some (127, true))⟩, false, [], []⟩,
 ⟨kS d130 (oPick t127 t129 (gC (.bool false))), ⟨(some 130), (.pick (.t 127) (.t 129) (.c (.bool false))), none⟩, false, [], []⟩,
 ⟨kS d131 (oMv t130), ⟨(some 131), (.mv (.t 130)), none⟩, false, [], []⟩,
 ⟨kG t131 true d132 (oMv t26), ⟨(some 132), (.mv (.t 26)), (some (131, true))⟩, false, [], []⟩,
 ⟨kG t131 true d133 (oBin .eql t132 (gI 0)), ⟨(some 133), (.bin .eql (.t 132) (.c (.int .i64 0))), (some (131, true))⟩, false, [], []⟩,
 ⟨kS d134 (oPick t131 t133 (gC (.bool false))), ⟨(some 134), (.pick (.t 131) (.t 133) (.c (.bool false))), none⟩, false, [], []⟩,
 ⟨kS d135 (oMv t134), ⟨(some 135), (.mv (.t 134)), none⟩, false, [], []⟩,
 ⟨kG t135 true d136 (oLd true 2 t3), ⟨(some 136), (.ld true 2 (.t 3)), (some (135, true))⟩, false, [⟨(some 136), (.ld true 2 (.t 3)), (some (135, true))⟩], []⟩,
 ⟨kG t135 true d137 (oCall (gC (.func 75 [] [])) [(gI 45), (gI 70)]), ⟨(some 137), (.call (.c (.func 75 [] [])) [(.c (.int .i64 45)), (.c (.int .i64 70))]), (some (135, true))⟩, true, [⟨(some 136), (.ld true 2 (.t 3)), (some (135, true))⟩], []⟩,
 ⟨kG t135 true d138 (oEqv (.ag [.i, .i]) false t136 t137), ⟨(some 138), (.eqv (.ag [.i, .i]) false (.t 136) (.t 137)), (some (135, true))⟩, false, [], []⟩,
 ⟨kS d139 (oPick t135 t138 (gC (.bool false))), ⟨(some 139), (.pick (.t 135) (.t 138) (.c (.bool false))), none⟩, false, [], []⟩,
 ⟨kS d140 (oMv t139), ⟨(some 140), (.mv (.t 139)), none⟩, false, [], []⟩,
 ⟨kG t140 true d141 (oMv t5), ⟨(some 141), (.mv (.t 5)), (some (140, true))⟩, false, [], []⟩,
 ⟨kG t140 true d142 (oBin .eql t141 (gI 1)), ⟨(some 142), (.bin .eql (.t 141) (.c (.int .i64 1))), (some (140, true))⟩, false, [], []⟩,
 ⟨kS d143 (oPick t140 t142 (gC (.bool false))), ⟨(some 143), (.pick (.t 140) (.t 142) (.c (.bool false))), none⟩, false, [], []⟩,
 ⟨kS d144 (oMv t143), ⟨(some 144), (.mv (.t 143)), none⟩, false, [], []⟩,
 ⟨kG t144 true d145 (oMv t7), ⟨(some 145), (.mv (.t 7)), (some (144, true))⟩, false, [], []⟩,
 ⟨kG t144 true d146 (oBin .eql t145 (gI 0)), ⟨(some 146), (.bin .eql (.t 145) (.c (.int .i64 0))), (some (144, true))⟩, false, [], []⟩,
 ⟨kS d147 (oPick t144 t146 (gC (.bool false))), ⟨(some 147), (.pick (.t 144) (.t 146) (.c (.bool false))), none⟩, false, [], []⟩,
 ⟨kS d148 (oMv t147), ⟨(some 148), (.mv (.t 147)), none⟩, false, [], []⟩,
 ⟨kG t148 true d149 (oLd true 2 t9), ⟨(some 149), (.ld true 2 (.t 9)), (some (148, true))⟩, false, [⟨(some 149), (.ld true 2 (.t 9)), (some (148, true))⟩], []⟩,
 ⟨kG t148 true d150 (oBldS 1 3 [(.int .i64 0)] [(0, 1, (gI (-1))), (1, 1, (gI 0)), (2, 1, (gI 2))]), ⟨(some 150), (.bldS 1 3 [(.int .i64 0)] [(0, 1, (.c (.int .i64 (-1)))), (1, 1, (.c (.int .i64 0))), (2, 1, (.c (.int .i64 2)))]), (some (148, true))⟩, false, [], []⟩,
 ⟨kG t148 true d151 (oCall (gC (.func 74 [] [])) [(gI 1), t150]), ⟨(some 151), (.call (.c (.func 74 [] [])) [(.c (.int .i64 1)), (.t 150)]), (some (148, true))⟩, true, [⟨(some 149), (.ld true 2 (.t 9)), (some (148, true))⟩], []⟩,
 ⟨kG t148 true d152 (oCall (gC (.func 76 [] [])) [t149, t151]), ⟨(some 152), (.call (.c (.func 76 [] [])) [(.t 149), (.t 151)]), (some (148, true))⟩, true, [], []⟩,
 ⟨kS d153 (oPick t148 t152 (gC (.bool false))), ⟨(some 153), (.pick (.t 148) (.t 152) (.c (.bool false))), none⟩, false, [], []⟩,
 ⟨kS d154 (oMv t153), ⟨(some 154), (.mv (.t 153)), none⟩, false, [], []⟩,
 ⟨kG t154 true d155 (oMv t10), ⟨(some 155), (.mv (.t 10)), (some (154, true))⟩, false, [], []⟩,
 ⟨kG t154 true d156 (oBin .eql t155 (gI 12)), ⟨(some 156), (.bin .eql (.t 155) (.c (.int .i64 12))), (some (154, true))⟩, false, [], []⟩,
 ⟨kS d157 (oPick t154 t156 (gC (.bool false))), ⟨(some 157), (.pick (.t 154) (.t 156) (.c (.bool false))), none⟩, false, [], []⟩,
 ⟨kS d158 (oMv t157), ⟨(some 158), (.mv (.t 157)), none⟩, false, [], []⟩,
 ⟨kG t158 true d159 (oMv t14), ⟨(some 159), (.mv (.t 14)), (some (158, true))⟩, false, [], []⟩,
 ⟨kG t158 true d160 (oBldS 1 2 [(.int .i64 0)] [(0, 1, (gI 350)), (1, 1, (gI 320))]), ⟨(some 160), (.bldS 1 2 [(.int .i64 0)] [(0, 1, (.c (.int .i64 350))), (1, 1, (.c (.int .i64 320)))]), (some (158, true))⟩, false, [], []⟩,
 ⟨kG t158 true d161 (oCall (gC (.func 77 [] [])) [t159, t160]), ⟨(some 161), (.call (.c (.func 77 [] [])) [(.t 159), (.t 160)]), (some (158, true))⟩, true, [], []⟩,
 ⟨kS d162 (oPick t158 t161 (gC (.bool false))), ⟨(some 162), (.pick (.t 158) (.t 161) (.c (.bool false))), none⟩, false, [], []⟩,
 ⟨kS d163 (oMv t162), ⟨(some 163), (.mv (.t 162)), none⟩, false, [], []⟩,
 ⟨kG t163 true d164 (oMv t16), ⟨(some 164), (.mv (.t 16)), (some (163, true))⟩, false, [], []⟩,
 ⟨kG t163 true d165 (oBldS 1 1 [(.int .i64 0)] [(0, 1, (gI 0))]), ⟨(some 165), (.bldS 1 1 [(.int .i64 0)] [(0, 1, (.c (.int .i64 0)))]), (some (163, true))⟩, false, [], []⟩,
 ⟨kG t163 true d166 (oCall (gC (.func 77 [] [])) [t164, t165]), ⟨(some 166), (.call (.c (.func 77 [] [])) [(.t 164), (.t 165)]), (some (163, true))⟩, true, [], []⟩,
 ⟨kS d167 (oPick t163 t166 (gC (.bool false))), ⟨(some 167), (.pick (.t 163) (.t 166) (.c (.bool false))), none⟩, false, [], []⟩,
 ⟨kS d168 (oMv t167), ⟨(some 168), (.mv (.t 167)), none⟩, false, [], []⟩,
 ⟨kG t168 true d169 (oMv t18), ⟨(some 169), (.mv (.t 18)), (some (168, true))⟩, false, [], []⟩,
 ⟨kG t168 true d170 (oBldS 1 1 [(.int .i64 0)] [(0, 1, (gI 0))]), ⟨(some 170), (.bldS 1 1 [(.int .i64 0)] [(0, 1, (.c (.int .i64 0)))]), (some (168, true))⟩, false, [], []⟩,
 ⟨kG t168 true d171 (oCall (gC (.func 77 [] [])) [t169, t170]), ⟨(some 171), (.call (.c (.func 77 [] [])) [(.t 169), (.t 170)]), (some (168, true))⟩, true, [], []⟩,
 ⟨kS d172 (oPick t168 t171 (gC (.bool false))), ⟨(some 172), (.pick (.t 168) (.t 171) (.c (.bool false))), none⟩, false, [], []⟩,
 ⟨kS d173 (oMv t172), ⟨(some 173), (.mv (.t 172)), none⟩, false, [], []⟩,
 ⟨kG t173 true d174 (oMv t20), ⟨(some 174), (.mv (.t 20)), (some (173, true))⟩, false, [], []⟩,
 ⟨kG t173 true d175 (oLen false t174), ⟨(some 175), (.len false (.t 174)), (some (173, true))⟩, false, [], []⟩,
 ⟨kG t173 true d176 (oBin .eql t175 (gI 0)), ⟨(some 176), (.bin .eql (.t 175) (.c (.int .i64 0))), (some (173, true))⟩, false, [], []⟩,
 ⟨kS d177 (oPick t173 t176 (gC (.bool false))), ⟨(some 177), (.pick (.t 173) (.t 176) (.c (.bool false))), none⟩, false, [], []⟩,
 ⟨kS d178 (oMv t177), ⟨(some 178), (.mv (.t 177)), none⟩, false, [], []⟩,
 ⟨kG t178 true d179 (oMv t22), ⟨(some 179), (.mv (.t 22)), (some (178, true))⟩, false, [], []⟩,
 ⟨kG t178 true d180 (oBin .eql t179 (gI 1)), ⟨(some 180), (.bin .eql (.t 179) (.c (.int .i64 1))), (some (178, true))⟩, false, [], []⟩,
 ⟨kS d181 (oPick t178 t180 (gC (.bool false))), ⟨(some 181), (.pick (.t 178) (.t 180) (.c (.bool false))), none⟩, false, [], []⟩,
 ⟨kS d182 (oMv t181), ⟨(some 182), (.mv (.t 181)), none⟩, false, [], []⟩,
 ⟨kG t182 true d183 (oMv t24), ⟨(some 183), (.mv (.t 24)), (some (182, true))⟩, false, [], []⟩,
 ⟨kG t182 true d184 (oBin .eql t183 (gI 1)), ⟨(some 184), (.bin .eql (.t 183) (.c (.int .i64 1))), (some (182, true))⟩, false, [], []⟩,
 ⟨kS d185 (oPick t182 t184 (gC (.bool false))), ⟨(some 185), (.pick (.t 182) (.t 184) (.c (.bool false))), none⟩, false, [], []⟩,
 ⟨kS d186 (oMv t185), ⟨(some 186), (.mv (.t 185)), none⟩, false, [], []⟩,
 ⟨kG t186 true d187 (oMv t25), ⟨(some 187), (.mv (.t 25)), (some (186, true))⟩, false, [], []⟩,
 ⟨kG t186 true d188 (oBin .eql t187 (gI 0)), ⟨(some 188), (.bin .eql (.t 187) (.c (.int .i64 0))), (some (186, true))⟩, false, [], []⟩,
 ⟨kS d189 (oPick t186 t188 (gC (.bool false))), ⟨(some 189), (.pick (.t 186) (.t 188) (.c (.bool false))), none⟩, false, [], []⟩,
 ⟨kS d0 (oMv t189), ⟨(some 0), (.mv (.t 189)), none⟩, false, [], []⟩])
 kRet))))))))))))))
theorem e39 : b39 = comp ir39.code := by kernel_rfl
def k39 : KF := ⟨190, b39, [.tmp 0]⟩
def b41 : KC := (kSeq (kRegion [kS d3 (oBox t0),
 kS d6 (oMv (gI 0))])
 (kSeq (kBlock 0 (kSeq (kRegion [kS d8 (oMv t1),
 kS d9 (oMv t2),
 kS d10 (oFa t3 0),
 kS d11 (oLd false 1 t10),
 kS d12 (oFa t3 1),
 kS d13 (oLd false 1 t12),
 kS d14 (oBldS 1 2 [(.int .i64 0)] [(0, 1, t11), (1, 1, t13)]),
 kS d15 (oCall (gC (.func 42 [] [])) [t8, t9, t14]),
 kS d7 (oMv t15)])
 (kCond t7 (kSeq (kRegion [kS d6 (oMv (gI 7))])
 kRet)
 (kSeq (kRegion [kS d17 (oFa t3 0),
 kS d18 (oLd false 1 t17),
 kS d19 (oFa t3 1),
 kS d20 (oLd false 1 t19),
 kS d21 (oBin .gtr t18 t20),
 kS d16 (oMv t21)])
 (kCond t16 (kSeq (kRegion [kS d6 (oMv (gI 2))])
 kRet)
 kSkip)))))
 (kSeq (kRegion [kS d6 (oMv (gI 0))])
 kRet)))
theorem e41 : b41 = comp ir41.code := by kernel_rfl
def k41 : KF := ⟨22, b41, [.tmp 6]⟩
def b42 : KC := (kSeq (kRegion [kS d3 (oBox t0),
 kS d4 (oBox t1),
 kS d6 (oMv (gC (.bool false)))])
 (kSeq (kRegion [kS d7 (oMv t2),
 kS d8 (oMkfn 81 [] [t3, t4]),
 kS d9 (oCall (gC (.func 80 [] [])) [t7, t8]),
 kS d6 (oMv t9)])
 kRet))
theorem e42 : b42 = comp ir42.code := by kernel_rfl
def k42 : KF := ⟨10, b42, [.tmp 6]⟩
def b43 : KC := (kSeq (kRegion [kS d6 (oMv (gI 0)),
 kS d7 (oMv (gI 0))])
 (kSeq (kSeq (kRegion [kS d11 (oMv t0),
 kS d12 (oLen false t11),
 kS d13 (oMv t1),
 kS d14 (oBin .gtr t12 t13)])
 (kCond t14 (kSeq (kRegion [kS d6 (oMv (gI 0)),
 kS d7 (oMv (gI 3))])
 kRet)
 kSkip))
 (kSeq (kSeq (kRegion [kS d15 (oMv t0),
 kS d16 (oLen false t15),
 kS d17 (oMv (gI 0))])
 (kBlock 0 (kLoop (kSeq (kRegion [kS d18 (oBin .lss t17 t16)])
 (kSeq (kCond t18 kSkip
 (kExit 0))
 (kSeq (kBlock 1 (kSeq (kRegion [kS d19 (oMv t17),
 kS d20 (oIa 1 t15 t17),
 kS d21 (oLd false 1 t20),
 kS d8 (oMv t19),
 kS d9 (oMv t21)])
 (kSeq (kRegion [kS d22 (oMv t2),
 kS d23 (oMv t8),
 kS d24 (oMv t9),
 kS d25 (oCall t22 [t23, t24]),
 kS d10 (oMv t25)])
 (kSeq (kRegion [kS d26 (oMv t10),
 kS d27 (oBin .neq t26 (gI 0))])
 (kCond t27 (kSeq (kRegion [kS d28 (oMv t8),
 kS d29 (oMv t10),
 kS d6 (oMv t28),
 kS d7 (oMv t29)])
 kRet)
 kSkip)))))
 (kRegion [kS d30 (oBin .add t17 (gI 1)),
 kS d17 (oMv t30)])))))))
 (kSeq (kRegion [kS d6 (oMv (gI 0)),
 kS d7 (oMv (gI 0))])
 kRet))))
theorem e43 : b43 = comp ir43.code := by kernel_rfl
def k43 : KF := ⟨31, b43, [.tmp 6, .tmp 7]⟩
def b44 : KC := (kSeq (kRegion [kS d2 (oBox t0),
 kS d3 (oBox t1),
 kS d4 (oMv (gC .nilfunc))])
 (kSeq (kRegion [kS d5 (oMkfn 82 [] [t2, t3]),
 kS d4 (oMv t5)])
 kRet))
theorem e44 : b44 = comp ir44.code := by kernel_rfl
def k44 : KF := ⟨6, b44, [.tmp 4]⟩
def b45 : KC := (kSeq (kRegion [kS d6 (oMv (gI 0)),
 kS d7 (oMv (gI 0))])
 (kSeq (kSeq (kRegion [kS d11 (oMv t0),
 kS d12 (oLen false t11),
 kS d13 (oMv t1),
 kS d14 (oBin .gtr t12 t13)])
 (kCond t14 (kSeq (kRegion [kS d6 (oMv (gI 0)),
 kS d7 (oMv (gI 3))])
 kRet)
 kSkip))
 (kSeq (kSeq (kRegion [kS d15 (oMv t0),
 kS d16 (oLen false t15),
 kS d17 (oMv (gI 0))])
 (kBlock 0 (kLoop (kSeq (kRegion [kS d18 (oBin .lss t17 t16)])
 (kSeq (kCond t18 kSkip
 (kExit 0))
 (kSeq (kBlock 1 (kSeq (kRegion [kS d19 (oMv t17),
 kS d20 (oIa 4 t15 t17),
 kS d21 (oLd true 4 t20),
 kS d9 (oAlloc (.agg [(.str []), (.bool false), .nilslice, (.int .i64 0)])),
 kS d8 (oMv t19),
 kN (oSt 4 t9 t21)])
 (kSeq (kRegion [kS d22 (oMv t2),
 kS d23 (oMv t8),
 kS d24 (oLd true 4 t9),
 kS d25 (oCall t22 [t23, t24]),
 kS d10 (oMv t25)])
 (kSeq (kRegion [kS d26 (oMv t10),
 kS d27 (oBin .neq t26 (gI 0))])
 (kCond t27 (kSeq (kRegion [kS d28 (oMv t8),
 kS d29 (oMv t10),
 kS d6 (oMv t28),
 kS d7 (oMv t29)])
 kRet)
 kSkip)))))
 (kRegion [kS d30 (oBin .add t17 (gI 1)),
 kS d17 (oMv t30)])))))))
 (kSeq (kRegion [kS d6 (oMv (gI 0)),
 kS d7 (oMv (gI 0))])
 kRet))))
theorem e45 : b45 = comp ir45.code := by kernel_rfl
def k45 : KF := ⟨31, b45, [.tmp 6, .tmp 7]⟩
def b46 : KC := (kSeq (kRegion [kS d4 (oBox t1),
 kS d5 (oMv (gI 0))])
 (kSeq (kBlock 0 (kSeq (kRegion [kS d9 (oFa t4 0),
 kS d10 (oLd false 1 t9),
 kS d11 (oCall (gC (.func 47 [] [])) [t10]),
 kS d12 (oNot t11),
 kS d8 (oMv t12)])
 (kCond t8 (kSeq (kRegion [kS d5 (oMv (gI 6))])
 kRet)
 (kSeq (kRegion [kS d14 (oFa t2 4),
 kS d15 (oLd false 1 t14),
 kS d16 (oMv t0),
 kS d17 (oGen (.slc 4 (.t 15) none (some (.t 16)) none)),
 kS d18 (oMkfn 49 [] [t4]),
 kS d19 (oCall (gC (.func 48 [] [])) [t17, t18]),
 kS d13 (oMv t19)])
 (kCond t13 (kSeq (kRegion [kS d5 (oMv (gI 5))])
 kRet)
 (kSeq (kRegion [kS d21 (oFa t4 2),
 kS d22 (oLd false 1 t21),
 kS d23 (oLen false t22),
 kS d24 (oFa t2 2),
 kS d25 (oLd false 1 t24),
 kS d26 (oBin .neq t23 t25),
 kS d20 (oMv t26)])
 (kCond t20 (kSeq (kRegion [kS d5 (oMv (gI 3))])
 kRet)
 kSkip)))))))
 (kSeq (kSeq (kRegion [kS d28 (oFa t4 2),
 kS d29 (oLd false 1 t28),
 kS d30 (oFa t2 2),
 kS d31 (oLd false 1 t30),
 kS d32 (oCall (gC (.func 50 [] [])) [t29, t31, (gC (.func 51 [] []))]),
 kS d27 (oMv t32),
 kS d33 (oExt t27 0),
 kS d34 (oExt t27 1),
 kS d6 (oMv t33),
 kS d7 (oMv t34)])
 (kSeq (kRegion [kS d35 (oMv t7),
 kS d36 (oBin .neq t35 (gI 0))])
 (kCond t36 (kSeq (kRegion [kS d37 (oMv t7),
 kS d5 (oMv t37)])
 kRet)
 kSkip)))
 (kSeq (kSeq (kDraw [⟨kS d38 (oFa t2 3), ⟨(some 38), (.fa (.t 2) 3), none⟩, false, [], []⟩,
 ⟨kS d39 (oLd false 1 t38), ⟨(some 39), (.ld false 1 (.t 38)), none⟩, false, [⟨(some 39), (.ld false 1 (.t 38)), none⟩], []⟩,
 ⟨kS d40 (oLen false t39), ⟨(some 40), (.len false (.t 39)), none⟩, false, [], []⟩,
 ⟨kS d41 (oBin .shl (gI 1) t40), ⟨(some 41), (.bin .shl (.c (.int .i64 1)) (.t 40)), none⟩, false, [], []⟩,
 ⟨kS d42 (oBin .sub t41 (gI 1)), ⟨(some 42), (.bin .sub (.t 41) (.c (.int .i64 1))), none⟩, false, [], []⟩,
 ⟨kS d43 (oFa t4 3), ⟨(some 43), (.fa (.t 4) 3), none⟩, false, [], []⟩,
 ⟨kS d44 (oLd false 1 t43), ⟨(some 44), (.ld false 1 (.t 43)), none⟩, false, [⟨(some 44), (.ld false 1 (.t 43)), none⟩], []⟩,
 ⟨kS d45 (oBldS 1 1 [(.int .i64 0)] [(0, 1, t44)]), ⟨(some 45), (.bldS 1 1 [(.int .i64 0)] [(0, 1, (.t 44))]), none⟩, false, [], []⟩,
 ⟨kS d46 (oCall (gC (.func 42 [] [])) [(gI 0), t42, t45]), ⟨(some 46), (.call (.c (.func 42 [] [])) [(.c (.int .i64 0)), (.t 42), (.t 45)]), none⟩, true, [], []⟩])
 (kCond t46 (kSeq (kRegion [kS d5 (oMv (gI 4))])
 kRet)
 kSkip))
 (kSeq (kRegion [kS d5 (oMv (gI 0))])
 kRet)))))
theorem e46 : b46 = comp ir46.code := by kernel_rfl
def k46 : KF := ⟨47, b46, [.tmp 5]⟩
def b47 : KC := (kSeq (kRegion [kS d2 (oMv (gC (.bool false)))])
 (kSeq (kSeq (kRegion [kS d6 (oMv t0),
 kS d7 (oGen (.rng (.t 6)))])
 (kBlock 0 (kLoop (kSeq (kRegion [kS d8 (oGen (.nxt (.t 7))),
 kS d9 (oExt t8 0)])
 (kSeq (kCond t9 kSkip
 (kExit 0))
 (kBlock 1 (kSeq (kRegion [kS d10 (oExt t8 1),
 kS d11 (oExt t8 2),
 kS d3 (oMv t10),
 kS d4 (oMv t11)])
 (kSeq (kRegion [kS d12 (oMv t4),
 kS d13 (oBin .leq (gC (.int .i32 97)) t12),
 kS d14 (oMv t13),
 kG t14 true d15 (oMv t4),
 kG t14 true d16 (oBin .leq t15 (gC (.int .i32 122))),
 kS d17 (oPick t14 t16 (gC (.bool false))),
 kS d5 (oMv t17)])
 (kSeq (kRegion [kS d18 (oMv t5),
 kS d19 (oNot t18),
 kS d20 (oMv t19),
 kG t20 true d21 (oMv t3),
 kG t20 true d22 (oBin .eql t21 (gI 0)),
 kG t20 true d23 (oMv t22),
 kG t23 false d24 (oMv t4),
 kG t23 false d25 (oBin .neq t24 (gC (.int .i32 46))),
 kG t23 false d26 (oMv t25),
 kG t26 true d27 (oMv t4),
 kG t26 true d28 (oBin .lss t27 (gC (.int .i32 48))),
 kG t26 true d29 (oMv t28),
 kG t29 false d30 (oMv t4),
 kG t29 false d31 (oBin .gtr t30 (gC (.int .i32 57))),
 kG t26 true d32 (oPick t29 (gC (.bool true)) t31),
 kG t23 false d33 (oPick t26 t32 (gC (.bool false))),
 kG t20 true d34 (oPick t23 (gC (.bool true)) t33),
 kS d35 (oPick t20 t34 (gC (.bool false)))])
 (kCond t35 (kSeq (kRegion [kS d2 (oMv (gC (.bool false)))])
 kRet)
 kSkip))))))))))
 (kSeq (kRegion [kS d36 (oMv t0),
 kS d37 (oBin .neq t36 (gC (.str []))),
 kS d38 (oMv t37),
 kG t38 true d39 (oMv t0),
 kG t38 true d40 (oLen true t39),
 kG t38 true d41 (oBin .leq t40 (gI 16)),
 kS d42 (oPick t38 t41 (gC (.bool false))),
 kS d2 (oMv t42)])
 kRet)))
theorem e47 : b47 = comp ir47.code := by kernel_rfl
def k47 : KF := ⟨43, b47, [.tmp 2]⟩
def b48 : KC := (kSeq (kRegion [kS d4 (oMv (gC (.bool false)))])
 (kSeq (kRegion [kS d5 (oMv t0),
 kS d6 (oMv t1),
 kS d7 (oCall (gC (.func 83 [] [])) [t5, t6]),
 kS d8 (oBin .geq t7 (gI 0)),
 kS d4 (oMv t8)])
 kRet))
theorem e48 : b48 = comp ir48.code := by kernel_rfl
def k48 : KF := ⟨9, b48, [.tmp 4]⟩
def b49 : KC := (kSeq (kRegion [kS d2 (oBox t0),
 kS d3 (oMv (gC (.bool false)))])
 (kSeq (kRegion [kS d4 (oFa t2 0),
 kS d5 (oLd false 1 t4),
 kS d6 (oFa t1 0),
 kS d7 (oLd false 1 t6),
 kS d8 (oBin .eql t5 t7),
 kS d3 (oMv t8)])
 kRet))
theorem e49 : b49 = comp ir49.code := by kernel_rfl
def k49 : KF := ⟨9, b49, [.tmp 3]⟩
def b50 : KC := (kSeq (kRegion [kS d6 (oMv (gI 0)),
 kS d7 (oMv (gI 0))])
 (kSeq (kSeq (kRegion [kS d11 (oMv t0),
 kS d12 (oLen false t11),
 kS d13 (oMv t1),
 kS d14 (oBin .gtr t12 t13)])
 (kCond t14 (kSeq (kRegion [kS d6 (oMv (gI 0)),
 kS d7 (oMv (gI 3))])
 kRet)
 kSkip))
 (kSeq (kSeq (kRegion [kS d15 (oMv t0),
 kS d16 (oLen false t15),
 kS d17 (oMv (gI 0))])
 (kBlock 0 (kLoop (kSeq (kRegion [kS d18 (oBin .lss t17 t16)])
 (kSeq (kCond t18 kSkip
 (kExit 0))
 (kSeq (kBlock 1 (kSeq (kRegion [kS d19 (oMv t17),
 kS d20 (oIa 2 t15 t17),
 kS d21 (oLd true 2 t20),
 kS d9 (oAlloc (.agg [(.int .i64 0), (.int .i64 0)])),
 kS d8 (oMv t19),
 kN (oSt 2 t9 t21)])
 (kSeq (kRegion [kS d22 (oMv t2),
 kS d23 (oMv t8),
 kS d24 (oLd true 2 t9),
 kS d25 (oCall t22 [t23, t24]),
 kS d10 (oMv t25)])
 (kSeq (kRegion [kS d26 (oMv t10),
 kS d27 (oBin .neq t26 (gI 0))])
 (kCond t27 (kSeq (kRegion [kS d28 (oMv t8),
 kS d29 (oMv t10),
 kS d6 (oMv t28),
 kS d7 (oMv t29)])
 kRet)
 kSkip)))))
 (kRegion [kS d30 (oBin .add t17 (gI 1)),
 kS d17 (oMv t30)])))))))
 (kSeq (kRegion [kS d6 (oMv (gI 0)),
 kS d7 (oMv (gI 0))])
 kRet))))
theorem e50 : b50 = comp ir50.code := by kernel_rfl
def k50 : KF := ⟨31, b50, [.tmp 6, .tmp 7]⟩
def b51 : KC := (kSeq (kRegion [kS d3 (oBox t1),
 kS d4 (oMv (gI 0))])
 (kSeq (kRegion [kS d5 (oLd true 2 t3),
 kS d6 (oCall (gC (.func 41 [] [])) [t5, (gI 0), (gI 60)]),
 kS d4 (oMv t6)])
 kRet))
theorem e51 : b51 = comp ir51.code := by kernel_rfl
def k51 : KF := ⟨7, b51, [.tmp 4]⟩
def b52 : KC := (kSeq (kRegion [kS d6 (oMv (gI 0)),
 kS d7 (oMv (gI 0))])
 (kSeq (kSeq (kRegion [kS d11 (oMv t0),
 kS d12 (oLen false t11),
 kS d13 (oMv t1),
 kS d14 (oBin .gtr t12 t13)])
 (kCond t14 (kSeq (kRegion [kS d6 (oMv (gI 0)),
 kS d7 (oMv (gI 3))])
 kRet)
 kSkip))
 (kSeq (kSeq (kRegion [kS d15 (oMv t0),
 kS d16 (oLen false t15),
 kS d17 (oMv (gI 0))])
 (kBlock 0 (kLoop (kSeq (kRegion [kS d18 (oBin .lss t17 t16)])
 (kSeq (kCond t18 kSkip
 (kExit 0))
 (kSeq (kBlock 1 (kSeq (kRegion [kS d19 (oMv t17),
 kS d20 (oIa 6 t15 t17),
 kS d21 (oLd true 6 t20),
 kS d9 (oAlloc (.agg [(.str []), (.int .i64 0), (.int .i64 0), (.int .i64 0), (.int .i64 0), (.int .i64 0)])),
 kS d8 (oMv t19),
 kN (oSt 6 t9 t21)])
 (kSeq (kRegion [kS d22 (oMv t2),
 kS d23 (oMv t8),
 kS d24 (oLd true 6 t9),
 kS d25 (oCall t22 [t23, t24]),
 kS d10 (oMv t25)])
 (kSeq (kRegion [kS d26 (oMv t10),
 kS d27 (oBin .neq t26 (gI 0))])
 (kCond t27 (kSeq (kRegion [kS d28 (oMv t8),
 kS d29 (oMv t10),
 kS d6 (oMv t28),
 kS d7 (oMv t29)])
 kRet)
 kSkip)))))
 (kRegion [kS d30 (oBin .add t17 (gI 1)),
 kS d17 (oMv t30)])))))))
 (kSeq (kRegion [kS d6 (oMv (gI 0)),
 kS d7 (oMv (gI 0))])
 kRet))))
theorem e52 : b52 = comp ir52.code := by kernel_rfl
def k52 : KF := ⟨31, b52, [.tmp 6, .tmp 7]⟩
def b53 : KC := (kSeq (kRegion [kS d4 (oBox t1),
 kS d5 (oMv (gI 0))])
 (kSeq (kBlock 0 (kSeq (kRegion [kS d7 (oFa t4 0),
 kS d8 (oLd false 1 t7),
 kS d9 (oCall (gC (.func 47 [] [])) [t8]),
 kS d10 (oNot t9),
 kS d6 (oMv t10)])
 (kCond t6 (kSeq (kRegion [kS d5 (oMv (gI 6))])
 kRet)
 (kSeq (kRegion [kS d12 (oFa t2 5),
 kS d13 (oLd false 1 t12),
 kS d14 (oMv t0),
 kS d15 (oGen (.slc 6 (.t 13) none (some (.t 14)) none)),
 kS d16 (oMkfn 55 [] [t4]),
 kS d17 (oCall (gC (.func 54 [] [])) [t15, t16]),
 kS d11 (oMv t17)])
 (kCond t11 (kSeq (kRegion [kS d5 (oMv (gI 5))])
 kRet)
 (kSeq (kRegion [kS d19 (oFa t4 1),
 kS d20 (oLd false 1 t19),
 kS d21 (oBldS 1 1 [(.int .i64 0)] [(0, 1, t20)]),
 kS d22 (oCall (gC (.func 42 [] [])) [(gI 0), (gI 9), t21]),
 kS d23 (oMv t22),
 kG t23 false d24 (oFa t4 2),
 kG t23 false d25 (oLd false 1 t24),
 kG t23 false d26 (oBldS 1 1 [(.int .i64 0)] [(0, 1, t25)]),
 kG t23 false d27 (oCall (gC (.func 42 [] [])) [(gI 1), (gI 500), t26]),
 kS d28 (oPick t23 (gC (.bool true)) t27),
 kS d29 (oMv t28),
 kG t29 false d30 (oFa t4 5),
 kG t29 false d31 (oLd false 1 t30),
 kG t29 false d32 (oBldS 1 1 [(.int .i64 0)] [(0, 1, t31)]),
 kG t29 false d33 (oCall (gC (.func 42 [] [])) [(gI 0), (gI 100), t32]),
 kS d34 (oPick t29 (gC (.bool true)) t33),
 kS d18 (oMv t34)])
 (kCond t18 (kSeq (kRegion [kS d5 (oMv (gI 7))])
 kRet)
 kSkip)))))))
 (kSeq (kRegion [kS d35 (oFa t4 3),
 kS d36 (oLd false 1 t35),
 kS d37 (oFa t4 4),
 kS d38 (oLd false 1 t37),
 kS d39 (oBld [(.int .i64 0), (.int .i64 0)] [(0, 1, t36), (1, 1, t38)]),
 kS d40 (oCall (gC (.func 41 [] [])) [t39, (gI (-100)), (gI 100)]),
 kS d5 (oMv t40)])
 kRet)))
theorem e53 : b53 = comp ir53.code := by kernel_rfl
def k53 : KF := ⟨41, b53, [.tmp 5]⟩
def b54 : KC := (kSeq (kRegion [kS d4 (oMv (gC (.bool false)))])
 (kSeq (kRegion [kS d5 (oMv t0),
 kS d6 (oMv t1),
 kS d7 (oCall (gC (.func 84 [] [])) [t5, t6]),
 kS d8 (oBin .geq t7 (gI 0)),
 kS d4 (oMv t8)])
 kRet))
theorem e54 : b54 = comp ir54.code := by kernel_rfl
def k54 : KF := ⟨9, b54, [.tmp 4]⟩
def b55 : KC := (kSeq (kRegion [kS d2 (oBox t0),
 kS d3 (oMv (gC (.bool false)))])
 (kSeq (kRegion [kS d4 (oFa t2 0),
 kS d5 (oLd false 1 t4),
 kS d6 (oFa t1 0),
 kS d7 (oLd false 1 t6),
 kS d8 (oBin .eql t5 t7),
 kS d3 (oMv t8)])
 kRet))
theorem e55 : b55 = comp ir55.code := by kernel_rfl
def k55 : KF := ⟨9, b55, [.tmp 3]⟩
def b56 : KC := (kSeq (kRegion [kS d1 (oBox t0),
 kS d2 (oMv (gC .nilptr)),
 kS d3 (oMv (gI 0))])
 (kSeq (kRegion [kS d8 (oLd true 7 t1),
 kS d9 (oCall (gC (.func 7 [] [])) [t8]),
 kS d7 (oMv t9),
 kS d10 (oExt t7 0),
 kS d11 (oExt t7 1),
 kS d12 (oExt t7 2),
 kS d4 (oMv t10),
 kS d5 (oMv t11),
 kS d6 (oMv t12)])
 (kSeq (kRegion [kS d13 (oLd true 7 t1),
 kS d14 (oBld [(.bool false), .nilfunc] [(0, 1, (gC (.bool false))), (1, 1, (gC (.func 85 [] [])))]),
 kS d15 (oBld [(.bool false), .nilfunc] [(0, 1, (gC (.bool true))), (1, 1, (gC (.func 86 [] [])))]),
 kS d16 (oBldS 2 2 [(.bool false), .nilfunc] [(0, 2, t14), (2, 2, t15)]),
 kS d17 (oBld [(.int .i64 0), (.int .i64 0), (.int .i64 0), .nilslice, .nilslice, .nilslice, .nilslice, .nilslice] [(0, 7, t13), (7, 1, t16)]),
 kS d18 (oBox t17),
 kS d19 (oMv t6),
 kS d2 (oMv t18),
 kS d3 (oMv t19)])
 kRet)))
theorem e56 : b56 = comp ir56.code := by kernel_rfl
def k56 : KF := ⟨20, b56, [.tmp 2, .tmp 3]⟩
def b57 : KC := (kSeq (kRegion [kS d6 (oMv (gI 0))])
 (kSeq (kBlock 0 (kSeq (kRegion [kS d8 (oMv t0),
 kS d9 (oNilck t8),
 kS d10 (oFa t9 0),
 kS d11 (oFa t10 4),
 kS d12 (oLd false 1 t11),
 kS d13 (oLen false t12),
 kS d14 (oBin .sub t13 (gI 1)),
 kS d15 (oMv t1),
 kS d16 (oBldS 1 1 [(.int .i64 0)] [(0, 1, t15)]),
 kS d17 (oCall (gC (.func 42 [] [])) [(gI 0), t14, t16]),
 kS d7 (oMv t17)])
 (kCond t7 (kSeq (kRegion [kS d6 (oMv (gI 4))])
 kRet)
 (kSeq (kRegion [kS d19 (oMv t0),
 kS d20 (oNilck t19),
 kS d21 (oFa t20 0),
 kS d22 (oFa t21 2),
 kS d23 (oLd false 1 t22),
 kS d24 (oBin .shl (gI 1) t23),
 kS d25 (oBin .sub t24 (gI 1)),
 kS d26 (oMv t2),
 kS d27 (oBldS 1 1 [(.int .i64 0)] [(0, 1, t26)]),
 kS d28 (oCall (gC (.func 42 [] [])) [(gI 0), t25, t27]),
 kS d18 (oMv t28)])
 (kCond t18 (kSeq (kRegion [kS d6 (oMv (gI 7))])
 kRet)
 kSkip)))))
 (kSeq (kRegion [kS d6 (oMv (gI 0))])
 kRet)))
theorem e57 : b57 = comp ir57.code := by kernel_rfl
def k57 : KF := ⟨29, b57, [.tmp 6]⟩
def b58 : KC := (kSeq (kRegion [kS d6 (oAlloc (.agg [(.int .i64 0), (.int .i64 0)]))])
 (kSeq (kRegion [kS d10 (oMv t0),
 kS d11 (oNilck t10),
 kS d12 (oFa t11 0),
 kS d13 (oFa t12 0),
 kS d14 (oLd true 2 t13),
 kS d7 (oAlloc (.agg [(.int .i64 0), (.int .i64 0)])),
 kN (oSt 2 t7 t14)])
 (kSeq (kSeq (kRegion [kS d15 (oMv t0),
 kS d16 (oNilck t15),
 kS d17 (oFa t16 0),
 kS d18 (oFa t17 4),
 kS d19 (oLd false 1 t18),
 kS d20 (oMv t1),
 kS d21 (oIa 4 t19 t20),
 kS d22 (oFa t21 2),
 kS d23 (oLd false 1 t22),
 kS d24 (oLen false t23),
 kS d25 (oMv (gI 0))])
 (kBlock 0 (kLoop (kSeq (kRegion [kS d26 (oBin .lss t25 t24)])
 (kSeq (kCond t26 kSkip
 (kExit 0))
 (kSeq (kBlock 1 (kSeq (kRegion [kS d27 (oMv t25),
 kS d28 (oIa 2 t23 t25),
 kS d29 (oLd true 2 t28),
 kS d9 (oAlloc (.agg [(.int .i64 0), (.int .i64 0)])),
 kS d8 (oMv t27),
 kN (oSt 2 t9 t29)])
 (kSeq (kRegion [kS d30 (oMv t2),
 kS d31 (oMv t8),
 kS d32 (oBin .shr t30 t31),
 kS d33 (oBin .and t32 (gI 1)),
 kS d34 (oBin .eql t33 (gI 1))])
 (kCond t34 (kSeq (kRegion [kS d35 (oFa t7 0),
 kS d36 (oLd false 1 t35),
 kS d37 (oFa t9 0),
 kS d38 (oLd false 1 t37),
 kS d39 (oBin .add t36 t38),
 kS d40 (oFa t7 0),
 kN (oSt 1 t40 t39)])
 (kRegion [kS d41 (oFa t7 1),
 kS d42 (oLd false 1 t41),
 kS d43 (oFa t9 1),
 kS d44 (oLd false 1 t43),
 kS d45 (oBin .add t42 t44),
 kS d46 (oFa t7 1),
 kN (oSt 1 t46 t45)]))
 kSkip))))
 (kRegion [kS d47 (oBin .add t25 (gI 1)),
 kS d25 (oMv t47)])))))))
 (kSeq (kRegion [kS d48 (oLd true 2 t7),
 kN (oSt 2 t6 t48)])
 kRet))))
theorem e58 : b58 = comp ir58.code := by kernel_rfl
def k58 : KF := ⟨49, b58, [.cell 6 true 2]⟩
def b59 : KC := (kSeq (kRegion [kS d8 (oMv (gI 0))])
 (kSeq (kDraw [⟨kS d12 (oMv t0), ⟨(some 12), (.mv (.t 0)), none⟩, false, [], []⟩,
 ⟨kS d13 (oMv t2), ⟨(some 13), (.mv (.t 2)), none⟩, false, [], []⟩,
 ⟨kS d14 (oMv t3), ⟨(some 14), (.mv (.t 3)), none⟩, false, [], []⟩,
 ⟨kS d15 (oCall (gC (.func 58 [] [])) [t12, t13, t14]), ⟨(some 15), (.call (.c (.func 58 [] [])) [(.t 12), (.t 13), (.t 14)]), none⟩, true, [], []⟩,
 ⟨kS d16 (oMv t0), ⟨(some 16), (.mv (.t 0)), none⟩, false, [], []⟩,
 ⟨kS d17 (oNilck t16), ⟨(some 17), (.nilck (.t 16)), none⟩, false, [], []⟩,
 ⟨kS d18 (oFa t17 0), ⟨(some 18), (.fa (.t 17) 0), none⟩, false, [], []⟩,
 ⟨kS d19 (oFa t18 5), ⟨(some 19), (.fa (.t 18) 5), none⟩, false, [], []⟩,
 ⟨kS d20 (oLd false 1 t19), ⟨(some 20), (.ld false 1 (.t 19)), none⟩, false, [⟨(some 20), (.ld false 1 (.t 19)), none⟩], [3]⟩,
 ⟨kS d21 (oMv t1), ⟨(some 21), (.mv (.t 1)), none⟩, false, [], []⟩,
 ⟨kS d22 (oIa 6 t20 t21), ⟨(some 22), (.ia 6 (.t 20) (.t 21)), none⟩, false, [], []⟩,
 ⟨kS d23 (oLd true 6 t22), ⟨(some 23), (.ld true 6 (.t 22)), none⟩, false, [⟨(some 23), (.ld true 6 (.t 22)), none⟩], [3]⟩,
 ⟨kS d9 (oAlloc (.agg [(.int .i64 0), (.int .i64 0)])), ⟨(some 9), (.alloc (.agg [(.int .i64 0), (.int .i64 0)])), none⟩, false, [], []⟩,
 ⟨kS d10 (oAlloc (.agg [(.str []), (.int .i64 0), (.int .i64 0), (.int .i64 0), (.int .i64 0), (.int .i64 0)])), ⟨(some 10), (.alloc (.agg [(.str []), (.int .i64 0), (.int .i64 0), (.int .i64 0), (.int .i64 0), (.int .i64 0)])), none⟩, false, [], []⟩,
 ⟨kN (oSt 2 t9 t15), ⟨none, (.st 2 (.t 9) (.t 15)), none⟩, true, [⟨(some 20), (.ld false 1 (.t 19)), none⟩, ⟨(some 23), (.ld true 6 (.t 22)), none⟩], []⟩,
 ⟨kN (oSt 6 t10 t23), ⟨none, (.st 6 (.t 10) (.t 23)), none⟩, true, [], []⟩])
 (kSeq (kRegion [kS d24 (oFa t9 0),
 kS d25 (oLd false 1 t24),
 kS d26 (oFa t10 3),
 kS d27 (oLd false 1 t26),
 kS d28 (oGen (.mx (.t 25) [(.t 27)])),
 kS d29 (oFa t9 1),
 kS d30 (oLd false 1 t29),
 kS d31 (oFa t10 4),
 kS d32 (oLd false 1 t31),
 kS d33 (oGen (.mn (.t 30) [(.t 32)])),
 kS d34 (oBld [(.int .i64 0), (.int .i64 0)] [(0, 1, t28), (1, 1, t33)]),
 kS d11 (oAlloc (.agg [(.int .i64 0), (.int .i64 0)])),
 kN (oSt 2 t11 t34)])
 (kSeq (kBlock 0 (kSeq (kRegion [kS d36 (oLd true 2 t11),
 kS d37 (oLd true 2 t9),
 kS d38 (oEqv (.ag [.i, .i]) false t36 t37),
 kS d35 (oMv t38)])
 (kCond t35 (kSeq (kRegion [kS d8 (oMv (gI 1))])
 kRet)
 (kSeq (kRegion [kS d40 (oFa t11 0),
 kS d41 (oLd false 1 t40),
 kS d42 (oFa t11 1),
 kS d43 (oLd false 1 t42),
 kS d44 (oBin .gtr t41 t43),
 kS d39 (oMv t44)])
 (kCond t39 (kSeq (kRegion [kS d8 (oMv (gI 2))])
 kRet)
 kSkip)))))
 (kSeq (kRegion [kS d8 (oMv (gI 0))])
 kRet)))))
theorem e59 : b59 = comp ir59.code := by kernel_rfl
def k59 : KF := ⟨45, b59, [.tmp 8]⟩
def b60 : KC := (kSeq (kRegion [kS d2 (oBox t0),
 kS d3 (oBox t1),
 kS d4 (oMv (gC .nilptr)),
 kS d5 (oAlloc (.agg [(.int .i64 0), (.int .i64 0), (.int .i64 0), (.int .i64 0), (.int .i64 0), (.int .i64 0)])),
 kS d6 (oMv (gI 0))])
 (kSeq (kRegion [kS d10 (oLd true 7 t2),
 kS d11 (oCall (gC (.func 56 [] [])) [t10]),
 kS d9 (oMv t11),
 kS d12 (oExt t9 0),
 kS d13 (oExt t9 1),
 kS d4 (oMv t12),
 kS d6 (oMv t13)])
 (kSeq (kBlock 0 (kSeq (kRegion [kS d15 (oMv t6),
 kS d16 (oBin .neq t15 (gI 0)),
 kS d14 (oMv t16)])
 (kCond t14 (kSeq (kDraw [⟨kS d17 (oLd true 6 t5), ⟨(some 17), (.ld true 6 (.t 5)), none⟩, false, [⟨(some 17), (.ld true 6 (.t 5)), none⟩], []⟩,
 ⟨kS d18 (oMv t6), ⟨(some 18), (.mv (.t 6)), none⟩, false, [], []⟩,
 ⟨kS d4 (oMv (gC .nilptr)), ⟨(some 4), (.mv (.c .nilptr)), none⟩, false, [], []⟩,
 ⟨kN (oSt 6 t5 t17), ⟨none, (.st 6 (.t 5) (.t 17)), none⟩, true, [], []⟩,
 ⟨kS d6 (oMv t18), ⟨(some 6), (.mv (.t 18)), none⟩, false, [], []⟩])
 kRet)
 (kSeq (kDraw [⟨kS d20 (oFa t2 2), ⟨(some 20), (.fa (.t 2) 2), none⟩, false, [], []⟩,
 ⟨kS d21 (oLd false 1 t20), ⟨(some 21), (.ld false 1 (.t 20)), none⟩, false, [⟨(some 21), (.ld false 1 (.t 20)), none⟩], []⟩,
 ⟨kS d22 (oBin .shl (gI 1) t21), ⟨(some 22), (.bin .shl (.c (.int .i64 1)) (.t 21)), none⟩, false, [], []⟩,
 ⟨kS d23 (oBin .sub t22 (gI 1)), ⟨(some 23), (.bin .sub (.t 22) (.c (.int .i64 1))), none⟩, false, [], []⟩,
 ⟨kS d24 (oFa t3 0), ⟨(some 24), (.fa (.t 3) 0), none⟩, false, [], []⟩,
 ⟨kS d25 (oLd false 1 t24), ⟨(some 25), (.ld false 1 (.t 24)), none⟩, false, [⟨(some 25), (.ld false 1 (.t 24)), none⟩], []⟩,
 ⟨kS d26 (oBldS 1 1 [(.int .i64 0)] [(0, 1, t25)]), ⟨(some 26), (.bldS 1 1 [(.int .i64 0)] [(0, 1, (.t 25))]), none⟩, false, [], []⟩,
 ⟨kS d27 (oCall (gC (.func 42 [] [])) [(gI 0), t23, t26]), ⟨(some 27), (.call (.c (.func 42 [] [])) [(.c (.int .i64 0)), (.t 23), (.t 26)]), none⟩, true, [], []⟩,
 ⟨kS d19 (oMv t27), ⟨(some 19), (.mv (.t 27)), none⟩, false, [], []⟩])
 (kCond t19 (kSeq (kDraw [⟨kS d28 (oLd true 6 t5), ⟨(some 28), (.ld true 6 (.t 5)), none⟩, false, [⟨(some 28), (.ld true 6 (.t 5)), none⟩], []⟩,
 ⟨kS d4 (oMv (gC .nilptr)), ⟨(some 4), (.mv (.c .nilptr)), none⟩, false, [], []⟩,
 ⟨kN (oSt 6 t5 t28), ⟨none, (.st 6 (.t 5) (.t 28)), none⟩, true, [], []⟩,
 ⟨kS d6 (oMv (gI 7)), ⟨(some 6), (.mv (.c (.int .i64 7))), none⟩, false, [], []⟩])
 kRet)
 (kSeq (kRegion [kS d30 (oFa t3 1),
 kS d31 (oLd false 1 t30),
 kS d32 (oLen false t31),
 kS d33 (oFa t2 5),
 kS d34 (oLd false 1 t33),
 kS d35 (oLen false t34),
 kS d36 (oBin .neq t32 t35),
 kS d29 (oMv t36)])
 (kCond t29 (kSeq (kDraw [⟨kS d37 (oLd true 6 t5), ⟨(some 37), (.ld true 6 (.t 5)), none⟩, false, [⟨(some 37), (.ld true 6 (.t 5)), none⟩], []⟩,
 ⟨kS d4 (oMv (gC .nilptr)), ⟨(some 4), (.mv (.c .nilptr)), none⟩, false, [], []⟩,
 ⟨kN (oSt 6 t5 t37), ⟨none, (.st 6 (.t 5) (.t 37)), none⟩, true, [], []⟩,
 ⟨kS d6 (oMv (gI 3)), ⟨(some 6), (.mv (.c (.int .i64 3))), none⟩, false, [], []⟩])
 kRet)
 (kSeq (kRegion [kS d39 (oFa t2 4),
 kS d40 (oLd false 1 t39),
 kS d41 (oLen false t40),
 kS d42 (oBin .sub t41 (gI 1)),
 kS d43 (oFa t3 1),
 kS d44 (oLd false 1 t43),
 kS d45 (oCall (gC (.func 42 [] [])) [(gI (-1)), t42, t44]),
 kS d38 (oMv t45)])
 (kCond t38 (kSeq (kDraw [⟨kS d46 (oLd true 6 t5), ⟨(some 46), (.ld true 6 (.t 5)), none⟩, false, [⟨(some 46), (.ld true 6 (.t 5)), none⟩], []⟩,
 ⟨kS d4 (oMv (gC .nilptr)), ⟨(some 4), (.mv (.c .nilptr)), none⟩, false, [], []⟩,
 ⟨kN (oSt 6 t5 t46), ⟨none, (.st 6 (.t 5) (.t 46)), none⟩, true, [], []⟩,
 ⟨kS d6 (oMv (gI 4)), ⟨(some 6), (.mv (.c (.int .i64 4))), none⟩, false, [], []⟩])
 kRet)
 kSkip)))))))))
 (kSeq (kRegion [kS d47 (oFa t3 0),
 kS d48 (oLd false 1 t47),
 kS d49 (oFa t5 0),
 kN (oSt 1 t49 t48)])
 (kSeq (kSeq (kRegion [kS d50 (oFa t3 1),
 kS d51 (oLd false 1 t50),
 kS d52 (oLen false t51),
 kS d53 (oMv (gI 0))])
 (kBlock 1 (kLoop (kSeq (kRegion [kS d54 (oBin .lss t53 t52)])
 (kSeq (kCond t54 kSkip
 (kExit 1))
 (kSeq (kBlock 2 (kSeq (kRegion [kS d55 (oMv t53),
 kS d56 (oIa 1 t51 t53),
 kS d57 (oLd false 1 t56),
 kS d7 (oMv t55),
 kS d8 (oMv t57)])
 (kSeq (kSeq (kRegion [kS d58 (oMv t8),
 kS d59 (oBin .neq t58 (gI (-1))),
 kS d60 (oMv t59),
 kG t60 true d61 (oFa t3 1),
 kG t60 true d62 (oLd false 1 t61),
 kG t60 true d63 (oMv t7),
 kG t60 true d64 (oGen (.slc 1 (.t 62) none (some (.t 63)) none)),
 kG t60 true d65 (oMv t8),
 kG t60 true d66 (oCall (gC (.func 87 [] [])) [t64, t65]),
 kS d67 (oPick t60 t66 (gC (.bool false)))])
 (kCond t67 (kSeq (kRegion [kS d68 (oBld [(.int .i64 0), (.int .i64 0), (.int .i64 0), (.int .i64 0), (.int .i64 0), (.int .i64 0)] []),
 kS d4 (oMv (gC .nilptr)),
 kN (oSt 6 t5 t68),
 kS d6 (oMv (gI 5))])
 kRet)
 kSkip))
 (kRegion [kS d69 (oMv t7),
 kS d70 (oMv t8),
 kS d71 (oBin .add t70 (gI 1)),
 kS d72 (oFa t5 1),
 kS d73 (oIaa 5 1 t72 t69),
 kN (oSt 1 t73 t71)]))))
 (kRegion [kS d74 (oBin .add t53 (gI 1)),
 kS d53 (oMv t74)])))))))
 (kSeq (kDraw [⟨kS d75 (oMv t4), ⟨(some 75), (.mv (.t 4)), none⟩, false, [], []⟩,
 ⟨kS d76 (oLd true 6 t5), ⟨(some 76), (.ld true 6 (.t 5)), none⟩, false, [⟨(some 76), (.ld true 6 (.t 5)), none⟩], []⟩,
 ⟨kS d4 (oMv t75), ⟨(some 4), (.mv (.t 75)), none⟩, false, [], []⟩,
 ⟨kN (oSt 6 t5 t76), ⟨none, (.st 6 (.t 5) (.t 76)), none⟩, true, [], []⟩,
 ⟨kS d6 (oMv (gI 0)), ⟨(some 6), (.mv (.c (.int .i64 0))), none⟩, false, [], []⟩])
 kRet))))))
theorem e60 : b60 = comp ir60.code := by kernel_rfl
def k60 : KF := ⟨77, b60, [.tmp 4, .cell 5 true 6, .tmp 6]⟩
def b61 : KC := (kSeq (kRegion [kS d3 (oBox t1),
 kS d4 (oAlloc (.agg [(.int .i64 0), (.int .i64 0), (.int .i64 0), (.int .i64 0)]))])
 (kSeq (kSeq (kRegion [kS d8 (oLd true 5 t3),
 kS d9 (oMv (gI 0))])
 (kBlock 0 (kLoop (kSeq (kRegion [kS d10 (oBin .lss t9 (gI 5))])
 (kSeq (kCond t10 kSkip
 (kExit 0))
 (kSeq (kBlock 1 (kSeq (kRegion [kS d11 (oMv t9),
 kS d12 (oIx 5 1 false t8 t9),
 kS d5 (oMv t11),
 kS d6 (oMv t12)])
 (kSeq (kSeq (kRegion [kS d13 (oMv t6),
 kS d14 (oBin .eql t13 (gI 0))])
 (kCond t14 (kExit 1)
 kSkip))
 (kSeq (kRegion [kS d15 (oMv t0),
 kS d16 (oNilck t15),
 kS d17 (oFa t16 0),
 kS d18 (oFa t17 3),
 kS d19 (oLd false 1 t18),
 kS d20 (oLen false t19),
 kS d21 (oMv (gI 0))])
 (kBlock 2 (kLoop (kSeq (kRegion [kS d22 (oBin .lss t21 t20)])
 (kSeq (kCond t22 kSkip
 (kExit 2))
 (kSeq (kBlock 3 (kSeq (kRegion [kS d23 (oMv t21),
 kS d7 (oMv t23)])
 (kSeq (kRegion [kS d24 (oMv t0),
 kS d25 (oNilck t24),
 kS d26 (oFa t25 0),
 kS d27 (oFa t26 4),
 kS d28 (oLd false 1 t27),
 kS d29 (oMv t6),
 kS d30 (oBin .sub t29 (gI 1)),
 kS d31 (oIa 4 t28 t30),
 kS d32 (oFa t31 3),
 kS d33 (oLd false 1 t32),
 kS d34 (oMv t7),
 kS d35 (oBin .shr t33 t34),
 kS d36 (oBin .and t35 (gI 1)),
 kS d37 (oBin .eql t36 (gI 1))])
 (kCond t37 (kDraw [⟨kS d38 (oMv t7), ⟨(some 38), (.mv (.t 7)), none⟩, false, [], []⟩,
 ⟨kS d39 (oIaa 4 1 t4 t38), ⟨(some 39), (.iaa 4 1 (.t 4) (.t 38)), none⟩, false, [], []⟩,
 ⟨kS d40 (oLd false 1 t39), ⟨(some 40), (.ld false 1 (.t 39)), none⟩, false, [⟨(some 40), (.ld false 1 (.t 39)), none⟩], []⟩,
 ⟨kS d41 (oMv t0), ⟨(some 41), (.mv (.t 0)), none⟩, false, [], []⟩,
 ⟨kS d42 (oNilck t41), ⟨(some 42), (.nilck (.t 41)), none⟩, false, [], []⟩,
 ⟨kS d43 (oFa t42 0), ⟨(some 43), (.fa (.t 42) 0), none⟩, false, [], []⟩,
 ⟨kS d44 (oFa t43 5), ⟨(some 44), (.fa (.t 43) 5), none⟩, false, [], []⟩,
 ⟨kS d45 (oLd false 1 t44), ⟨(some 45), (.ld false 1 (.t 44)), none⟩, false, [⟨(some 45), (.ld false 1 (.t 44)), none⟩], []⟩,
 ⟨kS d46 (oMv t5), ⟨(some 46), (.mv (.t 5)), none⟩, false, [], []⟩,
 ⟨kS d47 (oIa 6 t45 t46), ⟨(some 47), (.ia 6 (.t 45) (.t 46)), none⟩, false, [], []⟩,
 ⟨kS d48 (oFa t47 2), ⟨(some 48), (.fa (.t 47) 2), none⟩, false, [], []⟩,
 ⟨kS d49 (oLd false 1 t48), ⟨(some 49), (.ld false 1 (.t 48)), none⟩, false, [⟨(some 49), (.ld false 1 (.t 48)), none⟩], []⟩,
 ⟨kS d50 (oBin .add t40 t49), ⟨(some 50), (.bin .add (.t 40) (.t 49)), none⟩, false, [], []⟩,
 ⟨kS d51 (oIaa 4 1 t4 t38), ⟨(some 51), (.iaa 4 1 (.t 4) (.t 38)), none⟩, false, [], []⟩,
 ⟨kN (oSt 1 t51 t50), ⟨none, (.st 1 (.t 51) (.t 50)), none⟩, true, [], []⟩])
 kSkip))))
 (kRegion [kS d52 (oBin .add t21 (gI 1)),
 kS d21 (oMv t52)]))))))))))
 (kRegion [kS d53 (oBin .add t9 (gI 1)),
 kS d9 (oMv t53)])))))))
 (kSeq (kRegion [kS d54 (oLd true 4 t4),
 kN (oSt 4 t4 t54)])
 kRet)))
theorem e61 : b61 = comp ir61.code := by kernel_rfl
def k61 : KF := ⟨55, b61, [.cell 4 true 4]⟩
def b62 : KC := (kSeq (kRegion [kS d2 (oMv (gC .nilslice))])
 (kSeq (kSeq (kRegion [kS d3 (oMv t0),
 kS d4 (oEqv .sl false t3 (gC .nilslice))])
 (kCond t4 (kSeq (kRegion [kS d2 (oMv (gC .nilslice))])
 kRet)
 kSkip))
 (kSeq (kRegion [kS d5 (oBldS 1 0 [(.int .i64 0)] []),
 kS d6 (oMv t0),
 kS d7 (oGen (.app 1 8 (.t 5) (.t 6))),
 kS d2 (oMv t7)])
 kRet)))
theorem e62 : b62 = comp ir62.code := by kernel_rfl
def k62 : KF := ⟨8, b62, [.tmp 2]⟩
def b66 : KC := (kSeq (kRegion [kS d2 (oBox t0),
 kS d3 (oBox t1),
 kS d4 (oMv (gC .nilptr)),
 kS d5 (oAlloc (.agg [(.int .i64 0), (.int .i64 0), (.int .i64 0), (.int .i64 0), (.int .i64 0), (.int .i64 0)])),
 kS d6 (oMv (gI 0))])
 (kSeq (kRegion [kS d13 (oLd true 7 t2),
 kS d14 (oLd true 2 t3),
 kS d15 (oCall (gC (.func 60 [] [])) [t13, t14]),
 kS d12 (oMv t15),
 kS d16 (oExt t12 0),
 kS d17 (oExt t12 1),
 kS d18 (oExt t12 2),
 kS d8 (oAlloc (.agg [(.int .i64 0), (.int .i64 0), (.int .i64 0), (.int .i64 0), (.int .i64 0), (.int .i64 0)])),
 kS d7 (oMv t16),
 kN (oSt 6 t8 t17),
 kS d9 (oMv t18)])
 (kSeq (kSeq (kRegion [kS d19 (oMv t9),
 kS d20 (oBin .neq t19 (gI 0))])
 (kCond t20 (kSeq (kDraw [⟨kS d21 (oLd true 6 t8), ⟨(some 21), (.ld true 6 (.t 8)), none⟩, false, [⟨(some 21), (.ld true 6 (.t 8)), none⟩], []⟩,
 ⟨kS d22 (oMv t9), ⟨(some 22), (.mv (.t 9)), none⟩, false, [], []⟩,
 ⟨kS d4 (oMv (gC .nilptr)), ⟨(some 4), (.mv (.c .nilptr)), none⟩, false, [], []⟩,
 ⟨kN (oSt 6 t5 t21), ⟨none, (.st 6 (.t 5) (.t 21)), none⟩, true, [], []⟩,
 ⟨kS d6 (oMv t22), ⟨(some 6), (.mv (.t 22)), none⟩, false, [], []⟩])
 kRet)
 kSkip))
 (kSeq (kSeq (kRegion [kS d23 (oFa t8 1),
 kS d24 (oLd true 5 t23),
 kS d25 (oMv (gI 0))])
 (kBlock 0 (kLoop (kSeq (kRegion [kS d26 (oBin .lss t25 (gI 5))])
 (kSeq (kCond t26 kSkip
 (kExit 0))
 (kSeq (kBlock 1 (kSeq (kRegion [kS d27 (oMv t25),
 kS d28 (oIx 5 1 false t24 t25),
 kS d10 (oMv t27),
 kS d11 (oMv t28)])
 (kSeq (kRegion [kS d29 (oMv t11),
 kS d30 (oBin .gtr t29 (gI 0)),
 kS d31 (oMv t30),
 kG t31 true d32 (oMv t7),
 kG t31 true d33 (oMv t10),
 kG t31 true d34 (oMv t11),
 kG t31 true d35 (oBin .sub t34 (gI 1)),
 kG t31 true d36 (oFa t8 0),
 kG t31 true d37 (oLd false 1 t36),
 kG t31 true d38 (oCall (gC (.func 59 [] [])) [t32, t33, t35, t37]),
 kG t31 true d39 (oBin .neq t38 (gI 1)),
 kS d40 (oPick t31 t39 (gC (.bool false)))])
 (kCond t40 (kSeq (kDraw [⟨kS d41 (oLd true 6 t8), ⟨(some 41), (.ld true 6 (.t 8)), none⟩, false, [⟨(some 41), (.ld true 6 (.t 8)), none⟩], []⟩,
 ⟨kS d4 (oMv (gC .nilptr)), ⟨(some 4), (.mv (.c .nilptr)), none⟩, false, [], []⟩,
 ⟨kN (oSt 6 t5 t41), ⟨none, (.st 6 (.t 5) (.t 41)), none⟩, true, [], []⟩,
 ⟨kS d6 (oMv (gI 9)), ⟨(some 6), (.mv (.c (.int .i64 9))), none⟩, false, [], []⟩])
 kRet)
 kSkip))))
 (kRegion [kS d42 (oBin .add t25 (gI 1)),
 kS d25 (oMv t42)])))))))
 (kSeq (kSeq (kRegion [kS d43 (oMv t7),
 kS d44 (oFa t8 1),
 kS d45 (oLd true 5 t44),
 kS d46 (oCall (gC (.func 88 [] [])) [t43, t45, (gC (.bool true))]),
 kS d47 (oNot t46)])
 (kCond t47 (kSeq (kDraw [⟨kS d48 (oLd true 6 t8), ⟨(some 48), (.ld true 6 (.t 8)), none⟩, false, [⟨(some 48), (.ld true 6 (.t 8)), none⟩], []⟩,
 ⟨kS d4 (oMv (gC .nilptr)), ⟨(some 4), (.mv (.c .nilptr)), none⟩, false, [], []⟩,
 ⟨kN (oSt 6 t5 t48), ⟨none, (.st 6 (.t 5) (.t 48)), none⟩, true, [], []⟩,
 ⟨kS d6 (oMv (gI 9)), ⟨(some 6), (.mv (.c (.int .i64 9))), none⟩, false, [], []⟩])
 kRet)
 kSkip))
 (kSeq (kDraw [⟨kS d49 (oMv t7), ⟨(some 49), (.mv (.t 7)), none⟩, false, [], []⟩,
 ⟨kS d50 (oLd true 6 t8), ⟨(some 50), (.ld true 6 (.t 8)), none⟩, false, [⟨(some 50), (.ld true 6 (.t 8)), none⟩], []⟩,
 ⟨kS d4 (oMv t49), ⟨(some 4), (.mv (.t 49)), none⟩, false, [], []⟩,
 ⟨kN (oSt 6 t5 t50), ⟨none, (.st 6 (.t 5) (.t 50)), none⟩, true, [], []⟩,
 ⟨kS d6 (oMv (gI 0)), ⟨(some 6), (.mv (.c (.int .i64 0))), none⟩, false, [], []⟩])
 kRet))))))
theorem e66 : b66 = comp ir66.code := by kernel_rfl
def k66 : KF := ⟨51, b66, [.tmp 4, .cell 5 true 6, .tmp 6]⟩
def b67 : KC := (kSeq (kRegion [kS d3 (oBox t1),
 kS d4 (oMv (gI 0))])
 (kSeq (kSeq (kRegion [kS d7 (oLd true 5 t3),
 kS d8 (oMv (gI 0))])
 (kBlock 0 (kLoop (kSeq (kRegion [kS d9 (oBin .lss t8 (gI 5))])
 (kSeq (kCond t9 kSkip
 (kExit 0))
 (kSeq (kBlock 1 (kSeq (kRegion [kS d10 (oMv t8),
 kS d11 (oIx 5 1 false t7 t8),
 kS d5 (oMv t10),
 kS d6 (oMv t11)])
 (kSeq (kRegion [kS d12 (oMv t6),
 kS d13 (oBin .gtr t12 (gI 0))])
 (kCond t13 (kRegion [kS d14 (oMv t4),
 kS d15 (oMv t0),
 kS d16 (oNilck t15),
 kS d17 (oFa t16 0),
 kS d18 (oFa t17 5),
 kS d19 (oLd false 1 t18),
 kS d20 (oMv t5),
 kS d21 (oIa 6 t19 t20),
 kS d22 (oFa t21 5),
 kS d23 (oLd false 1 t22),
 kS d24 (oBin .add t14 t23),
 kS d4 (oMv t24)])
 kSkip))))
 (kRegion [kS d25 (oBin .add t8 (gI 1)),
 kS d8 (oMv t25)])))))))
 (kSeq (kRegion [kS d26 (oMv t4),
 kS d4 (oMv t26)])
 kRet)))
theorem e67 : b67 = comp ir67.code := by kernel_rfl
def k67 : KF := ⟨27, b67, [.tmp 4]⟩
def b68 : KC := (kSeq (kRegion [kS d1 (oBox t0),
 kS d2 (oMv (gC .nilfunc))])
 (kSeq (kRegion [kS d3 (oMkfn 89 [] [t1]),
 kS d2 (oMv t3)])
 kRet))
theorem e68 : b68 = comp ir68.code := by kernel_rfl
def k68 : KF := ⟨4, b68, [.tmp 2]⟩
def b69 : KC := (kSeq (kRegion [kS d2 (oMv (gC .nilslice))])
 (kSeq (kBlock 0 (kLoop (kSeq (kSeq (kRegion [kS d3 (oMv t0),
 kS d4 (oBin .neq t3 (gI 0))])
 (kCond t4 kSkip
 (kExit 0)))
 (kSeq (kBlock 1 (kRegion [kS d9 (oMv t2),
 kS d10 (oMv t0),
 kS d11 (oGen (.conv .u64 (.t 10))),
 kS d12 (oCall (gC (.func 91 [] [])) [t11]),
 kS d13 (oBldS 1 1 [(.int .i64 0)] [(0, 1, t12)]),
 kS d14 (oGen (.app 1 8 (.t 9) (.t 13))),
 kS d2 (oMv t14)]))
 (kRegion [kS d5 (oMv t0),
 kS d6 (oMv t0),
 kS d7 (oBin .sub t6 (gI 1)),
 kS d8 (oBin .and t5 t7),
 kS d0 (oMv t8)])))))
 (kSeq (kRegion [kS d15 (oMv t2),
 kS d2 (oMv t15)])
 kRet)))
theorem e69 : b69 = comp ir69.code := by kernel_rfl
def k69 : KF := ⟨16, b69, [.tmp 2]⟩
def b70 : KC := (kSeq (kRegion [kS d4 (oMv (gI 0))])
 (kSeq (kSeq (kRegion [kS d9 (oMv t0),
 kS d10 (oLen false t9),
 kS d11 (oMv (gI 0))])
 (kBlock 0 (kLoop (kSeq (kRegion [kS d12 (oBin .lss t11 t10)])
 (kSeq (kCond t12 kSkip
 (kExit 0))
 (kSeq (kBlock 1 (kSeq (kRegion [kS d13 (oMv t11),
 kS d14 (oIa 1 t9 t11),
 kS d15 (oLd false 1 t14),
 kS d5 (oMv t13),
 kS d6 (oMv t15)])
 (kSeq (kSeq (kRegion [kS d16 (oMv t5),
 kS d17 (oMv t1),
 kS d18 (oLen false t17),
 kS d19 (oBin .geq t16 t18)])
 (kCond t19 (kSeq (kRegion [kS d4 (oMv (gI 1))])
 kRet)
 kSkip))
 (kSeq (kRegion [kS d20 (oMv t1),
 kS d21 (oMv t5),
 kS d22 (oIa 1 t20 t21),
 kS d23 (oLd false 1 t22),
 kS d7 (oMv t23)])
 (kSeq (kRegion [kS d24 (oMv t6),
 kS d25 (oMv t7),
 kS d26 (oCall (gC (.func 92 [] [])) [t24, t25]),
 kS d8 (oMv t26)])
 (kSeq (kRegion [kS d27 (oMv t8),
 kS d28 (oBin .neq t27 (gI 0))])
 (kCond t28 (kSeq (kRegion [kS d29 (oMv t8),
 kS d4 (oMv t29)])
 kRet)
 kSkip)))))))
 (kRegion [kS d30 (oBin .add t11 (gI 1)),
 kS d11 (oMv t30)])))))))
 (kSeq (kSeq (kRegion [kS d31 (oMv t0),
 kS d32 (oLen false t31),
 kS d33 (oMv t1),
 kS d34 (oLen false t33),
 kS d35 (oBin .lss t32 t34)])
 (kCond t35 (kSeq (kRegion [kS d4 (oMv (gI (-1)))])
 kRet)
 kSkip))
 (kSeq (kRegion [kS d4 (oMv (gI 0))])
 kRet))))
theorem e70 : b70 = comp ir70.code := by kernel_rfl
def k70 : KF := ⟨36, b70, [.tmp 4]⟩
def b71 : KC := (kSeq (kRegion [kS d2 (oAlloc (.bool false))])
 (kSeq (kSeq (kRegion [kS d3 (oMv t0),
 kS d4 (oCall (gC (.func 68 [] [])) [t3])])
 (kBlock 0 (kRange t4 [5]
 ICode.skip
 (ICode.block 1
 (ICode.seq (ICode.region [⟨none, (.st 1 (.t 2) (.c (.bool true))), none⟩])
 ICode.ret)))))
 (kSeq (kRegion [kN (oSt 1 t2 (gC (.bool false)))])
 kRet)))
theorem e71 : b71 = comp ir71.code := by kernel_rfl
def k71 : KF := ⟨6, b71, [.cell 2 false 1]⟩
def b72 : KC := (kSeq (kRegion [kS d2 (oMv (gI 0))])
 (kSeq (kCond (gC (.bool false)) (kSeq (kRegion [kS d3 (oMv t0),
 kS d4 (oGen (.conv .u32 (.t 3))),
 kS d5 (oCall (gC (.func 93 [] [])) [t4]),
 kS d2 (oMv t5)])
 kRet)
 kSkip)
 (kSeq (kRegion [kS d6 (oMv t0),
 kS d7 (oCall (gC (.func 94 [] [])) [t6]),
 kS d2 (oMv t7)])
 kRet)))
theorem e72 : b72 = comp ir72.code := by kernel_rfl
def k72 : KF := ⟨8, b72, [.tmp 2]⟩
def b73 : KC := (kSeq (kRegion [kS d2 (oAlloc (.agg [(.int .i64 0), (.int .i64 0), (.int .i64 0), .nilslice, .nilslice, .nilslice, .nilslice]))])
 (kSeq (kRegion [kS d3 (oCall (gC (.func 75 [] [])) [(gI 30), (gI 50)]),
 kS d4 (oBldS 1 2 [(.int .i64 0)] [(0, 1, (gI 300)), (1, 1, (gI 250))]),
 kS d5 (oCall (gC (.func 75 [] [])) [(gI 0), (gI 2)]),
 kS d6 (oBldS 2 1 [(.int .i64 0), (.int .i64 0)] [(0, 2, t5)]),
 kS d7 (oBld [(.str []), (.bool false), .nilslice, (.int .i64 0)] [(0, 1, (gC (.str [100, 111, 111, 114]))), (2, 1, t6), (3, 1, (gI 1))]),
 kS d8 (oCall (gC (.func 75 [] [])) [(gI 15), (gI 20)]),
 kS d9 (oBldS 2 1 [(.int .i64 0), (.int .i64 0)] [(0, 2, t8)]),
 kS d10 (oBld [(.str []), (.bool false), .nilslice, (.int .i64 0)] [(0, 1, (gC (.str [104, 101, 97, 114, 116, 104]))), (1, 1, (gC (.bool true))), (2, 1, t9), (3, 1, (gI 3))]),
 kS d11 (oCall (gC (.func 75 [] [])) [(gI 8), (gI 10)]),
 kS d12 (oBldS 2 1 [(.int .i64 0), (.int .i64 0)] [(0, 2, t11)]),
 kS d13 (oBld [(.str []), (.bool false), .nilslice, (.int .i64 0)] [(0, 1, (gC (.str [110, 105, 99, 104, 101]))), (1, 1, (gC (.bool true))), (2, 1, t12), (3, 1, (gI 2))]),
 kS d14 (oBldS 4 3 [(.str []), (.bool false), .nilslice, (.int .i64 0)] [(0, 4, t7), (4, 4, t10), (8, 4, t13)]),
 kS d15 (oCall (gC (.func 75 [] [])) [(gI 40), (gI 75)]),
 kS d16 (oCall (gC (.func 95 [] [])) [(gC (.str [107, 105, 110, 103])), (gI 1), (gI 200), t15, (gI 9)]),
 kS d17 (oCall (gC (.func 75 [] [])) [(gI 30), (gI 60)]),
 kS d18 (oCall (gC (.func 95 [] [])) [(gC (.str [110, 117, 110])), (gI 2), (gI 150), t17, (gI 5)]),
 kS d19 (oCall (gC (.func 75 [] [])) [(gI 35), (gI 65)]),
 kS d20 (oCall (gC (.func 95 [] [])) [(gC (.str [116, 104, 105, 101, 102])), (gI 3), (gI 120), t19, (gI 7)]),
 kS d21 (oBldS 6 3 [(.str []), (.int .i64 0), (.int .i64 0), (.int .i64 0), (.int .i64 0), (.int .i64 0)] [(0, 6, t16), (6, 6, t18), (12, 6, t20)]),
 kS d22 (oMv t0),
 kS d23 (oBld [(.int .i64 0), (.int .i64 0), (.int .i64 0), .nilslice, .nilslice, .nilslice, .nilslice] [(0, 2, t3), (2, 1, (gI 1)), (3, 1, t4), (4, 1, t14), (5, 1, t21), (6, 1, t22)]),
 kN (oSt 7 t2 t23)])
 kRet))
theorem e73 : b73 = comp ir73.code := by kernel_rfl
def k73 : KF := ⟨24, b73, [.cell 2 true 7]⟩
def b74 : KC := (kSeq (kRegion [kS d4 (oAlloc (.agg [(.int .i64 0), .nilslice]))])
 (kSeq (kRegion [kS d5 (oMv t0),
 kS d6 (oMv t1),
 kS d7 (oBld [(.int .i64 0), .nilslice] [(0, 1, t5), (1, 1, t6)]),
 kN (oSt 2 t4 t7)])
 kRet))
theorem e74 : b74 = comp ir74.code := by kernel_rfl
def k74 : KF := ⟨8, b74, [.cell 4 true 2]⟩
def b75 : KC := (kSeq (kRegion [kS d4 (oAlloc (.agg [(.int .i64 0), (.int .i64 0)]))])
 (kSeq (kRegion [kS d5 (oMv t0),
 kS d6 (oMv t1),
 kS d7 (oBld [(.int .i64 0), (.int .i64 0)] [(0, 1, t5), (1, 1, t6)]),
 kN (oSt 2 t4 t7)])
 kRet))
theorem e75 : b75 = comp ir75.code := by kernel_rfl
def k75 : KF := ⟨8, b75, [.cell 4 true 2]⟩
def b76 : KC := (kSeq (kRegion [kS d2 (oBox t0),
 kS d3 (oBox t1),
 kS d4 (oMv (gC (.bool false)))])
 (kSeq (kRegion [kS d5 (oFa t2 0),
 kS d6 (oLd false 1 t5),
 kS d7 (oFa t3 0),
 kS d8 (oLd false 1 t7),
 kS d9 (oBin .eql t6 t8),
 kS d10 (oMv t9),
 kG t10 true d11 (oFa t2 1),
 kG t10 true d12 (oLd false 1 t11),
 kG t10 true d13 (oFa t3 1),
 kG t10 true d14 (oLd false 1 t13),
 kG t10 true d15 (oCall (gC (.func 77 [] [])) [t12, t14]),
 kS d16 (oPick t10 t15 (gC (.bool false))),
 kS d4 (oMv t16)])
 kRet))
theorem e76 : b76 = comp ir76.code := by kernel_rfl
def k76 : KF := ⟨17, b76, [.tmp 4]⟩
def b77 : KC := (kSeq (kRegion [kS d4 (oMv (gC (.bool false)))])
 (kSeq (kRegion [kS d7 (oMv t0),
 kS d8 (oLen false t7),
 kS d9 (oMv t1),
 kS d10 (oLen false t9),
 kS d11 (oBin .eql t8 t10),
 kS d5 (oMv t11)])
 (kSeq (kSeq (kRegion [kS d6 (oMv (gI 0))])
 (kBlock 0 (kLoop (kSeq (kSeq (kRegion [kS d12 (oMv t5),
 kS d13 (oMv t12),
 kG t13 true d14 (oMv t6),
 kG t13 true d15 (oMv t0),
 kG t13 true d16 (oLen false t15),
 kG t13 true d17 (oBin .lss t14 t16),
 kS d18 (oPick t13 t17 (gC (.bool false)))])
 (kCond t18 kSkip
 (kExit 0)))
 (kSeq (kBlock 1 (kDraw [⟨kS d21 (oMv t0), ⟨(some 21), (.mv (.t 0)), none⟩, false, [], []⟩,
 ⟨kS d22 (oMv t6), ⟨(some 22), (.mv (.t 6)), none⟩, false, [], []⟩,
 ⟨kS d23 (oIa 1 t21 t22), ⟨(some 23), (.ia 1 (.t 21) (.t 22)), none⟩, false, [], []⟩,
 ⟨kS d24 (oLd false 1 t23), ⟨(some 24), (.ld false 1 (.t 23)), none⟩, false, [⟨(some 24), (.ld false 1 (.t 23)), none⟩], []⟩,
 ⟨kS d25 (oMv t1), ⟨(some 25), (.mv (.t 1)), none⟩, false, [], []⟩,
 ⟨kS d26 (oMv t6), ⟨(some 26), (.mv (.t 6)), none⟩, false, [], []⟩,
 ⟨kS d27 (oIa 1 t25 t26), ⟨(some 27), (.ia 1 (.t 25) (.t 26)), none⟩, false, [], []⟩,
 ⟨kS d28 (oLd false 1 t27), ⟨(some 28), (.ld false 1 (.t 27)), none⟩, false, [⟨(some 28), (.ld false 1 (.t 27)), none⟩], []⟩,
 ⟨kS d29 (oBin .eql t24 t28), ⟨(some 29), (.bin .eql (.t 24) (.t 28)), none⟩, false, [], []⟩,
 ⟨kS d5 (oMv t29), ⟨(some 5), (.mv (.t 29)), none⟩, false, [], []⟩]))
 (kRegion [kS d19 (oMv t6),
 kS d20 (oBin .add t19 (gI 1)),
 kS d6 (oMv t20)]))))))
 (kSeq (kRegion [kS d30 (oMv t5),
 kS d4 (oMv t30)])
 kRet))))
theorem e77 : b77 = comp ir77.code := by kernel_rfl
def k77 : KF := ⟨31, b77, [.tmp 4]⟩
def b80 : KC := (kSeq (kRegion [kS d4 (oMv (gC (.bool false)))])
 (kSeq (kRegion [kS d5 (oMv t0),
 kS d6 (oMv t1),
 kS d7 (oCall (gC (.func 100 [] [])) [t5, t6]),
 kS d8 (oBin .geq t7 (gI 0)),
 kS d4 (oMv t8)])
 kRet))
theorem e80 : b80 = comp ir80.code := by kernel_rfl
def k80 : KF := ⟨9, b80, [.tmp 4]⟩
def b81 : KC := (kSeq (kRegion [kS d4 (oMv (gC (.bool false)))])
 (kSeq (kRegion [kS d5 (oMv t0),
 kS d6 (oLd false 1 t1),
 kS d7 (oBin .lss t5 t6),
 kS d8 (oMv t7),
 kG t8 false d9 (oMv t0),
 kG t8 false d10 (oLd false 1 t2),
 kG t8 false d11 (oBin .gtr t9 t10),
 kS d12 (oPick t8 (gC (.bool true)) t11),
 kS d4 (oMv t12)])
 kRet))
theorem e81 : b81 = comp ir81.code := by kernel_rfl
def k81 : KF := ⟨13, b81, [.tmp 4]⟩
def b82 : KC := (kSeq (kRegion [kS d6 (oMv (gI 0))])
 (kSeq (kSeq (kRegion [kS d7 (oLd false 1 t2),
 kS d8 (oLd false 1 t3),
 kS d9 (oMv t1),
 kS d10 (oBldS 1 1 [(.int .i64 0)] [(0, 1, t9)]),
 kS d11 (oCall (gC (.func 42 [] [])) [t7, t8, t10])])
 (kCond t11 (kSeq (kRegion [kS d6 (oMv (gI 7))])
 kRet)
 kSkip))
 (kSeq (kRegion [kS d6 (oMv (gI 0))])
 kRet)))
theorem e82 : b82 = comp ir82.code := by kernel_rfl
def k82 : KF := ⟨12, b82, [.tmp 6]⟩
def b83 : KC := (kSeq (kRegion [kS d4 (oMv (gI 0))])
 (kSeq (kSeq (kRegion [kS d6 (oMv t0),
 kS d7 (oLen false t6),
 kS d8 (oMv (gI 0))])
 (kBlock 0 (kLoop (kSeq (kRegion [kS d9 (oBin .lss t8 t7)])
 (kSeq (kCond t9 kSkip
 (kExit 0))
 (kSeq (kBlock 1 (kSeq (kRegion [kS d10 (oMv t8),
 kS d5 (oMv t10)])
 (kSeq (kRegion [kS d11 (oMv t1),
 kS d12 (oMv t0),
 kS d13 (oMv t5),
 kS d14 (oIa 4 t12 t13),
 kS d15 (oLd true 4 t14),
 kS d16 (oCall t11 [t15])])
 (kCond t16 (kSeq (kRegion [kS d17 (oMv t5),
 kS d4 (oMv t17)])
 kRet)
 kSkip))))
 (kRegion [kS d18 (oBin .add t8 (gI 1)),
 kS d8 (oMv t18)])))))))
 (kSeq (kRegion [kS d4 (oMv (gI (-1)))])
 kRet)))
theorem e83 : b83 = comp ir83.code := by kernel_rfl
def k83 : KF := ⟨19, b83, [.tmp 4]⟩
def b84 : KC := (kSeq (kRegion [kS d4 (oMv (gI 0))])
 (kSeq (kSeq (kRegion [kS d6 (oMv t0),
 kS d7 (oLen false t6),
 kS d8 (oMv (gI 0))])
 (kBlock 0 (kLoop (kSeq (kRegion [kS d9 (oBin .lss t8 t7)])
 (kSeq (kCond t9 kSkip
 (kExit 0))
 (kSeq (kBlock 1 (kSeq (kRegion [kS d10 (oMv t8),
 kS d5 (oMv t10)])
 (kSeq (kRegion [kS d11 (oMv t1),
 kS d12 (oMv t0),
 kS d13 (oMv t5),
 kS d14 (oIa 6 t12 t13),
 kS d15 (oLd true 6 t14),
 kS d16 (oCall t11 [t15])])
 (kCond t16 (kSeq (kRegion [kS d17 (oMv t5),
 kS d4 (oMv t17)])
 kRet)
 kSkip))))
 (kRegion [kS d18 (oBin .add t8 (gI 1)),
 kS d8 (oMv t18)])))))))
 (kSeq (kRegion [kS d4 (oMv (gI (-1)))])
 kRet)))
theorem e84 : b84 = comp ir84.code := by kernel_rfl
def k84 : KF := ⟨19, b84, [.tmp 4]⟩
def b85 : KC := (kSeq (kRegion [kS d3 (oBox t1),
 kS d4 (oMv (gC (.bool false)))])
 (kSeq (kSeq (kRegion [kS d7 (oMv t0),
 kS d8 (oLd true 5 t3),
 kS d9 (oCall (gC (.func 61 [] [])) [t7, t8]),
 kS d10 (oMv (gI 0))])
 (kBlock 0 (kLoop (kSeq (kRegion [kS d11 (oBin .lss t10 (gI 4))])
 (kSeq (kCond t11 kSkip
 (kExit 0))
 (kSeq (kBlock 1 (kSeq (kRegion [kS d12 (oMv t10),
 kS d13 (oIx 4 1 false t9 t10),
 kS d5 (oMv t12),
 kS d6 (oMv t13)])
 (kSeq (kRegion [kS d14 (oMv t5),
 kS d15 (oMv t0),
 kS d16 (oNilck t15),
 kS d17 (oFa t16 0),
 kS d18 (oFa t17 3),
 kS d19 (oLd false 1 t18),
 kS d20 (oLen false t19),
 kS d21 (oBin .lss t14 t20),
 kS d22 (oMv t21),
 kG t22 true d23 (oMv t6),
 kG t22 true d24 (oMv t0),
 kG t22 true d25 (oNilck t24),
 kG t22 true d26 (oFa t25 0),
 kG t22 true d27 (oFa t26 3),
 kG t22 true d28 (oLd false 1 t27),
 kG t22 true d29 (oMv t5),
 kG t22 true d30 (oIa 1 t28 t29),
 kG t22 true d31 (oLd false 1 t30),
 kG t22 true d32 (oBin .gtr t23 t31),
 kS d33 (oPick t22 t32 (gC (.bool false)))])
 (kCond t33 (kSeq (kRegion [kS d4 (oMv (gC (.bool false)))])
 kRet)
 kSkip))))
 (kRegion [kS d34 (oBin .add t10 (gI 1)),
 kS d10 (oMv t34)])))))))
 (kSeq (kRegion [kS d4 (oMv (gC (.bool true)))])
 kRet)))
theorem e85 : b85 = comp ir85.code := by kernel_rfl
def k85 : KF := ⟨35, b85, [.tmp 4]⟩
def b86 : KC := (kSeq (kRegion [kS d3 (oBox t1),
 kS d4 (oMv (gC (.bool false)))])
 (kSeq (kSeq (kRegion [kS d10 (oLd true 5 t3),
 kS d11 (oBld [(.int .i64 0), (.int .i64 0), (.int .i64 0), (.int .i64 0), (.int .i64 0)] []),
 kS d12 (oEqv (.ag [.i, .i, .i, .i, .i]) false t10 t11)])
 (kCond t12 (kSeq (kRegion [kS d13 (oMv t0),
 kS d14 (oNilck t13),
 kS d15 (oFa t14 0),
 kS d16 (oFa t15 6),
 kS d17 (oLd false 1 t16),
 kS d18 (oLen false t17),
 kS d19 (oBin .eql t18 (gI 0)),
 kS d4 (oMv t19)])
 kRet)
 kSkip))
 (kSeq (kRegion [kS d20 (oGen .mkmap),
 kS d5 (oMv t20)])
 (kSeq (kSeq (kRegion [kS d21 (oLd true 5 t3),
 kS d22 (oMv (gI 0))])
 (kBlock 0 (kLoop (kSeq (kRegion [kS d23 (oBin .lss t22 (gI 5))])
 (kSeq (kCond t23 kSkip
 (kExit 0))
 (kSeq (kBlock 1 (kSeq (kRegion [kS d24 (oMv t22),
 kS d25 (oIx 5 1 false t21 t22),
 kS d6 (oMv t24),
 kS d7 (oMv t25)])
 (kSeq (kRegion [kS d26 (oMv t7),
 kS d27 (oBin .gtr t26 (gI 0)),
 kS d28 (oMv t27),
 kG t28 true d29 (oMv t0),
 kG t28 true d30 (oNilck t29),
 kG t28 true d31 (oFa t30 0),
 kG t28 true d32 (oFa t31 4),
 kG t28 true d33 (oLd false 1 t32),
 kG t28 true d34 (oMv t7),
 kG t28 true d35 (oBin .sub t34 (gI 1)),
 kG t28 true d36 (oIa 4 t33 t35),
 kG t28 true d37 (oFa t36 1),
 kG t28 true d38 (oLd false 1 t37),
 kS d39 (oPick t28 t38 (gC (.bool false)))])
 (kCond t39 (kRegion [kS d40 (oMv t5),
 kS d41 (oMv t0),
 kS d42 (oNilck t41),
 kS d43 (oFa t42 0),
 kS d44 (oFa t43 5),
 kS d45 (oLd false 1 t44),
 kS d46 (oMv t6),
 kS d47 (oIa 6 t45 t46),
 kS d48 (oFa t47 1),
 kS d49 (oLd false 1 t48),
 kS d50 (oGen (.lkp (.sc .i) (.int .i64 0) false (.t 40) (.t 49))),
 kS d51 (oBin .add t50 (gI 1)),
 kN (oGen (.mapup (.sc .i) (.t 40) (.t 49) (.t 51)))])
 kSkip))))
 (kRegion [kS d52 (oBin .add t22 (gI 1)),
 kS d22 (oMv t52)])))))))
 (kSeq (kSeq (kRegion [kS d53 (oMv t0),
 kS d54 (oNilck t53),
 kS d55 (oFa t54 0),
 kS d56 (oFa t55 6),
 kS d57 (oLd false 1 t56),
 kS d58 (oLen false t57),
 kS d59 (oMv (gI 0))])
 (kBlock 2 (kLoop (kSeq (kRegion [kS d60 (oBin .lss t59 t58)])
 (kSeq (kCond t60 kSkip
 (kExit 2))
 (kSeq (kBlock 3 (kSeq (kRegion [kS d61 (oIa 1 t57 t59),
 kS d62 (oLd false 1 t61),
 kS d9 (oMv t62)])
 (kSeq (kRegion [kS d63 (oMv t5),
 kS d64 (oMv t9),
 kS d65 (oGen (.lkp (.sc .i) (.int .i64 0) false (.t 63) (.t 64))),
 kS d66 (oBin .sub t65 (gI 1)),
 kN (oGen (.mapup (.sc .i) (.t 63) (.t 64) (.t 66)))])
 (kSeq (kRegion [kS d67 (oMv t5),
 kS d68 (oMv t9),
 kS d69 (oGen (.lkp (.sc .i) (.int .i64 0) false (.t 67) (.t 68))),
 kS d70 (oBin .lss t69 (gI 0))])
 (kCond t70 (kSeq (kRegion [kS d4 (oMv (gC (.bool false)))])
 kRet)
 kSkip)))))
 (kRegion [kS d71 (oBin .add t59 (gI 1)),
 kS d59 (oMv t71)])))))))
 (kSeq (kRegion [kS d4 (oMv (gC (.bool true)))])
 kRet))))))
theorem e86 : b86 = comp ir86.code := by kernel_rfl
def k86 : KF := ⟨72, b86, [.tmp 4]⟩
def b87 : KC := (kSeq (kRegion [kS d4 (oMv (gC (.bool false)))])
 (kSeq (kRegion [kS d5 (oMv t0),
 kS d6 (oMv t1),
 kS d7 (oCall (gC (.func 101 [] [])) [t5, t6]),
 kS d8 (oBin .geq t7 (gI 0)),
 kS d4 (oMv t8)])
 kRet))
theorem e87 : b87 = comp ir87.code := by kernel_rfl
def k87 : KF := ⟨9, b87, [.tmp 4]⟩
def b88 : KC := (kSeq (kRegion [kS d4 (oBox t1),
 kS d6 (oMv (gC (.bool false)))])
 (kSeq (kSeq (kRegion [kS d9 (oMv t0),
 kS d10 (oNilck t9),
 kS d11 (oFa t10 7),
 kS d12 (oLd false 1 t11),
 kS d13 (oLen false t12),
 kS d14 (oMv (gI 0))])
 (kBlock 0 (kLoop (kSeq (kRegion [kS d15 (oBin .lss t14 t13)])
 (kSeq (kCond t15 kSkip
 (kExit 0))
 (kSeq (kBlock 1 (kSeq (kRegion [kS d16 (oIa 2 t12 t14),
 kS d17 (oLd true 2 t16),
 kS d8 (oAlloc (.agg [(.bool false), .nilfunc])),
 kN (oSt 2 t8 t17)])
 (kSeq (kRegion [kS d18 (oMv t2),
 kS d19 (oMv t18),
 kG t19 false d20 (oFa t8 0),
 kG t19 false d21 (oLd false 1 t20),
 kG t19 false d22 (oNot t21),
 kS d23 (oPick t19 (gC (.bool true)) t22),
 kS d24 (oMv t23),
 kG t24 true d25 (oFa t8 1),
 kG t24 true d26 (oLd false 1 t25),
 kG t24 true d27 (oMv t0),
 kG t24 true d28 (oLd true 5 t4),
 kG t24 true d29 (oCall t26 [t27, t28]),
 kG t24 true d30 (oNot t29),
 kS d31 (oPick t24 t30 (gC (.bool false)))])
 (kCond t31 (kSeq (kRegion [kS d6 (oMv (gC (.bool false)))])
 kRet)
 kSkip))))
 (kRegion [kS d32 (oBin .add t14 (gI 1)),
 kS d14 (oMv t32)])))))))
 (kSeq (kRegion [kS d6 (oMv (gC (.bool true)))])
 kRet)))
theorem e88 : b88 = comp ir88.code := by kernel_rfl
def k88 : KF := ⟨33, b88, [.tmp 6]⟩
def b89 : KC := (kSeq (kRegion [kS d2 (oBox t0)])
 (kSeq (kRegion [kS d7 (oLd false 1 t1),
 kS d8 (oMkfn 59 [t7] []),
 kS d3 (oAlloc .nilfunc),
 kN (oSt 1 t3 t8)])
 (kSeq (kRegion [kS d9 (oLd false 1 t1),
 kS d10 (oNilck t9),
 kS d11 (oFa t10 0),
 kS d12 (oFa t11 2),
 kS d13 (oLd false 1 t12),
 kS d14 (oBin .shl (gI 1) t13),
 kS d15 (oMv (gI 0))])
 (kBlock 0 (kLoop (kSeq (kRegion [kS d16 (oBin .lss t15 t14)])
 (kSeq (kCond t16 kSkip
 (kExit 0))
 (kSeq (kBlock 1 (kSeq (kRegion [kS d17 (oMv t15),
 kS d4 (oAlloc (.int .i64 0)),
 kN (oSt 1 t4 t17)])
 (kSeq (kRegion [kS d5 (oAlloc (.agg [(.int .i64 0), (.int .i64 0), (.int .i64 0), (.int .i64 0), (.int .i64 0)]))])
 (kSeq (kRegion [kS d6 (oAlloc .nilfunc)])
 (kSeq (kRegion [kS d18 (oMkfn 90 [] [t1, t5, t2, t4, t3, t6]),
 kN (oSt 1 t6 t18)])
 (kSeq (kRegion [kS d19 (oLd false 1 t6),
 kS d20 (oCall t19 [(gI 0), (gI 0)]),
 kS d21 (oNot t20)])
 (kCond t21 kRet
 kSkip)))))))
 (kRegion [kS d22 (oBin .add t15 (gI 1)),
 kS d15 (oMv t22)])))))))))
theorem e89 : b89 = comp ir89.code := by kernel_rfl
def k89 : KF := ⟨23, b89, []⟩
def b90 : KC := (kSeq (kRegion [kS d10 (oMv (gC (.bool false)))])
 (kSeq (kSeq (kRegion [kS d12 (oMv t0),
 kS d13 (oLd false 1 t2),
 kS d14 (oNilck t13),
 kS d15 (oFa t14 0),
 kS d16 (oFa t15 5),
 kS d17 (oLd false 1 t16),
 kS d18 (oLen false t17),
 kS d19 (oBin .eql t12 t18)])
 (kCond t19 (kSeq (kRegion [kS d20 (oLd false 1 t2),
 kS d21 (oLd true 5 t3),
 kS d22 (oCall (gC (.func 88 [] [])) [t20, t21, (gC (.bool true))]),
 kS d23 (oNot t22),
 kS d24 (oMv t23),
 kG t24 false d25 (oLd false 1 t4),
 kG t24 false d26 (oLd false 1 t5),
 kG t24 false d27 (oLd true 5 t3),
 kG t24 false d28 (oBld [(.int .i64 0), (.int .i64 0), (.int .i64 0), (.int .i64 0), (.int .i64 0), (.int .i64 0)] [(0, 1, t26), (1, 5, t27)]),
 kG t24 false d29 (oCall t25 [t28]),
 kS d30 (oPick t24 (gC (.bool true)) t29),
 kS d10 (oMv t30)])
 kRet)
 kSkip))
 (kSeq kSkip
 (kSeq (kSeq (kRegion [kS d31 (oLd false 1 t2),
 kS d32 (oNilck t31),
 kS d33 (oFa t32 0),
 kS d34 (oFa t33 4),
 kS d35 (oLd false 1 t34),
 kS d36 (oLen false t35),
 kS d37 (oMv (gI 0))])
 (kBlock 0 (kLoop (kSeq (kRegion [kS d38 (oBin .lss t37 t36)])
 (kSeq (kCond t38 kSkip
 (kExit 0))
 (kSeq (kBlock 1 (kSeq (kRegion [kS d39 (oMv t37),
 kS d11 (oMv t39)])
 (kSeq (kSeq (kRegion [kS d40 (oMv t1),
 kS d41 (oMv t11),
 kS d42 (oBin .shr t40 t41),
 kS d43 (oBin .and t42 (gI 1)),
 kS d44 (oBin .eql t43 (gI 1)),
 kS d45 (oMv t44),
 kG t45 false d46 (oLd false 1 t6),
 kG t45 false d47 (oMv t0),
 kG t45 false d48 (oMv t11),
 kG t45 false d49 (oLd false 1 t5),
 kG t45 false d50 (oCall t46 [t47, t48, t49]),
 kG t45 false d51 (oBin .neq t50 (gI 1)),
 kS d52 (oPick t45 (gC (.bool true)) t51)])
 (kCond t52 (kExit 1)
 kSkip))
 (kSeq (kRegion [kS d53 (oMv t0),
 kS d54 (oMv t11),
 kS d55 (oBin .add t54 (gI 1)),
 kS d56 (oIaa 5 1 t3 t53),
 kN (oSt 1 t56 t55)])
 (kSeq (kDraw [⟨kS d57 (oLd false 1 t2), ⟨(some 57), (.ld false 1 (.t 2)), none⟩, false, [⟨(some 57), (.ld false 1 (.t 2)), none⟩], []⟩,
 ⟨kS d58 (oLd true 5 t3), ⟨(some 58), (.ld true 5 (.t 3)), none⟩, false, [⟨(some 58), (.ld true 5 (.t 3)), none⟩], []⟩,
 ⟨kS d59 (oCall (gC (.func 88 [] [])) [t57, t58, (gC (.bool false))]), ⟨(some 59), (.call (.c (.func 88 [] [])) [(.t 57), (.t 58), (.c (.bool false))]), none⟩, true, [], []⟩,
 ⟨kS d60 (oMv t59), ⟨(some 60), (.mv (.t 59)), none⟩, false, [], []⟩,
 ⟨kG t60 true d61 (oLd false 1 t7), ⟨(some 61), (.ld false 1 (.t 7)), (some (60, true))⟩, false, [⟨(some 61), (.ld false 1 (.t 7)), (some (60, true))⟩], []⟩,
 ⟨kG t60 true d62 (oMv t0), ⟨(some 62), (.mv (.t 0)), (some (60, true))⟩, false, [], []⟩,
 ⟨kG t60 true d63 (oBin .add t62 (gI 1)), ⟨(some 63), (.bin .add (.t 62) (.c (.int .i64 1))), (some (60, true))⟩, false, [], []⟩,
 ⟨kG t60 true d64 (oMv t1), ⟨(some 64), (.mv (.t 1)), (some (60, true))⟩, false, [], []⟩,
 ⟨kG t60 true d65 (oMv t11), ⟨(some 65), (.mv (.t 11)), (some (60, true))⟩, false, [], []⟩,
 ⟨kG t60 true d66 (oBin .shl (gI 1) t65), ⟨(some 66), (.bin .shl (.c (.int .i64 1)) (.t 65)), (some (60, true))⟩, false, [], []⟩,
 ⟨kG t60 true d67 (oBin .or t64 t66), ⟨(some 67), (.bin .or (.t 64) (.t 66)), (some (60, true))⟩, false, [], []⟩,
 ⟨kG t60 true d68 (oCall t61 [t63, t67]), ⟨(some 68), (.call (.t 61) [(.t 63), (.t 67)]), (some (60, true))⟩, true, [], []⟩,
 ⟨kG t60 true d69 (oNot t68), ⟨(some 69), (.un .not (.t 68)), (some (60, true))⟩, false, [], []⟩,
 ⟨kS d70 (oPick t60 t69 (gC (.bool false))), ⟨(some 70), (.pick (.t 60) (.t 69) (.c (.bool false))), none⟩, false, [], []⟩])
 (kCond t70 (kSeq (kRegion [kS d10 (oMv (gC (.bool false)))])
 kRet)
 kSkip))))))
 (kRegion [kS d71 (oBin .add t37 (gI 1)),
 kS d37 (oMv t71)])))))))
 (kSeq (kRegion [kS d72 (oMv t0),
 kS d73 (oIaa 5 1 t3 t72),
 kN (oSt 1 t73 (gI 0))])
 (kSeq (kRegion [kS d74 (oLd false 1 t7),
 kS d75 (oMv t0),
 kS d76 (oBin .add t75 (gI 1)),
 kS d77 (oMv t1),
 kS d78 (oCall t74 [t76, t77]),
 kS d10 (oMv t78)])
 kRet))))))
theorem e90 : b90 = comp ir90.code := by kernel_rfl
def k90 : KF := ⟨79, b90, [.tmp 10]⟩
def b91 : KC := (kSeq (kRegion [kS d2 (oMv (gI 0))])
 (kSeq (kCond (gC (.bool false)) (kSeq (kRegion [kS d3 (oMv t0),
 kS d4 (oGen (.conv .u32 (.t 3))),
 kS d5 (oCall (gC (.func 102 [] [])) [t4]),
 kS d2 (oMv t5)])
 kRet)
 kSkip)
 (kSeq (kRegion [kS d6 (oMv t0),
 kS d7 (oCall (gC (.func 103 [] [])) [t6]),
 kS d2 (oMv t7)])
 kRet)))
theorem e91 : b91 = comp ir91.code := by kernel_rfl
def k91 : KF := ⟨8, b91, [.tmp 2]⟩
def b92 : KC := (kSeq (kRegion [kS d4 (oMv (gI 0))])
 (kSeq (kRegion [kS d7 (oMv t0),
 kS d8 (oCall (gC (.func 104 [] [])) [t7]),
 kS d5 (oMv t8)])
 (kSeq (kRegion [kS d9 (oMv t1),
 kS d10 (oCall (gC (.func 104 [] [])) [t9]),
 kS d6 (oMv t10)])
 (kSeq (kSeq (kRegion [kS d11 (oMv t5)])
 (kCond t11 (kSeq (kSeq (kRegion [kS d12 (oMv t6)])
 (kCond t12 (kSeq (kRegion [kS d4 (oMv (gI 0))])
 kRet)
 kSkip))
 (kSeq (kRegion [kS d4 (oMv (gI (-1)))])
 kRet))
 kSkip))
 (kSeq (kSeq (kRegion [kS d13 (oMv t6)])
 (kCond t13 (kSeq (kRegion [kS d4 (oMv (gI 1))])
 kRet)
 kSkip))
 (kSeq (kSeq (kRegion [kS d14 (oMv t0),
 kS d15 (oMv t1),
 kS d16 (oBin .lss t14 t15)])
 (kCond t16 (kSeq (kRegion [kS d4 (oMv (gI (-1)))])
 kRet)
 kSkip))
 (kSeq (kSeq (kRegion [kS d17 (oMv t0),
 kS d18 (oMv t1),
 kS d19 (oBin .gtr t17 t18)])
 (kCond t19 (kSeq (kRegion [kS d4 (oMv (gI 1))])
 kRet)
 kSkip))
 (kSeq (kRegion [kS d4 (oMv (gI 0))])
 kRet))))))))
theorem e92 : b92 = comp ir92.code := by kernel_rfl
def k92 : KF := ⟨20, b92, [.tmp 4]⟩
def b93 : KC := (kSeq (kRegion [kS d2 (oMv (gI 0))])
 (kSeq (kDraw [⟨kS d3 (oMv t0), ⟨(some 3), (.mv (.t 0)), none⟩, false, [], []⟩,
 ⟨kS d4 (oBin .shr t3 (gC (.int .u64 24))), ⟨(some 4), (.bin .shr (.t 3) (.c (.int .u64 24))), none⟩, false, [], []⟩,
 ⟨kS d5 (oIxs (gC (.str [0, 1, 1, 2, 1, 2, 2, 3, 1, 2, 2, 3, 2, 3, 3, 4, 1, 2, 2, 3, 2, 3, 3, 4, 2, 3, 3, 4, 3, 4, 4, 5, 1, 2, 2, 3, 2, 3, 3, 4, 2, 3, 3, 4, 3, 4, 4, 5, 2, 3, 3, 4, 3, 4, 4, 5, 3, 4, 4, 5, 4, 5, 5, 6, 1, 2, 2, 3, 2, 3, 3, 4, 2, 3, 3, 4, 3, 4, 4, 5, 2, 3, 3, 4, 3, 4, 4, 5, 3, 4, 4, 5, 4, 5, 5, 6, 2, 3, 3, 4, 3, 4, 4, 5, 3, 4, 4, 5, 4, 5, 5, 6, 3, 4, 4, 5, 4, 5, 5, 6, 4, 5, 5, 6, 5, 6, 6, 7, 1, 2, 2, 3, 2, 3, 3, 4, 2, 3, 3, 4, 3, 4, 4, 5, 2, 3, 3, 4, 3, 4, 4, 5, 3, 4, 4, 5, 4, 5, 5, 6, 2, 3, 3, 4, 3, 4, 4, 5, 3, 4, 4, 5, 4, 5, 5, 6, 3, 4, 4, 5, 4, 5, 5, 6, 4, 5, 5, 6, 5, 6, 6, 7, 2, 3, 3, 4, 3, 4, 4, 5, 3, 4, 4, 5, 4, 5, 5, 6, 3, 4, 4, 5, 4, 5, 5, 6, 4, 5, 5, 6, 5, 6, 6, 7, 3, 4, 4, 5, 4, 5, 5, 6, 4, 5, 5, 6, 5, 6, 6, 7, 4, 5, 5, 6, 5, 6, 6, 7, 5, 6, 6, 7, 6, 7, 7, 8])) t4), ⟨(some 5), (.ixs (.c (.str [0, 1, 1, 2, 1, 2, 2, 3, 1, 2, 2, 3, 2, 3, 3, 4, 1, 2, 2, 3, 2, 3, 3, 4, 2, 3, 3, 4, 3, 4, 4, 5, 1, 2, 2, 3, 2, 3, 3, 4, 2, 3, 3, 4, 3, 4, 4, 5, 2, 3, 3, 4, 3, 4, 4, 5, 3, 4, 4, 5, 4, 5, 5, 6, 1, 2, 2, 3, 2, 3, 3, 4, 2, 3, 3, 4, 3, 4, 4, 5, 2, 3, 3, 4, 3, 4, 4, 5, 3, 4, 4, 5, 4, 5, 5, 6, 2, 3, 3, 4, 3, 4, 4, 5, 3, 4, 4, 5, 4, 5, 5, 6, 3, 4, 4, 5, 4, 5, 5, 6, 4, 5, 5, 6, 5, 6, 6, 7, 1, 2, 2, 3, 2, 3, 3, 4, 2, 3, 3, 4, 3, 4, 4, 5, 2, 3, 3, 4, 3, 4, 4, 5, 3, 4, 4, 5, 4, 5, 5, 6, 2, 3, 3, 4, 3, 4, 4, 5, 3, 4, 4, 5, 4, 5, 5, 6, 3, 4, 4, 5, 4, 5, 5, 6, 4, 5, 5, 6, 5, 6, 6, 7, 2, 3, 3, 4, 3, 4, 4, 5, 3, 4, 4, 5, 4, 5, 5, 6, 3, 4, 4, 5, 4, 5, 5, 6, 4, 5, 5, 6, 5, 6, 6, 7, 3, 4, 4, 5, 4, 5, 5, 6, 4, 5, 5, 6, 5, 6, 6, 7, 4, 5, 5, 6, 5, 6, 6, 7, 5, 6, 6, 7, 6, 7, 7, 8])) (.t 4)), none⟩, false, [], []⟩,
 ⟨kS d6 (oMv t0), ⟨(some 6), (.mv (.t 0)), none⟩, false, [], []⟩,
 ⟨kS d7 (oBin .shr t6 (gC (.int .u64 16))), ⟨(some 7), (.bin .shr (.t 6) (.c (.int .u64 16))), none⟩, false, [], []⟩,
 ⟨kS d8 (oBin .and t7 (gC (.int .u32 255))), ⟨(some 8), (.bin .and (.t 7) (.c (.int .u32 255))), none⟩, false, [], []⟩,
 ⟨kS d9 (oIxs (gC (.str [0, 1, 1, 2, 1, 2, 2, 3, 1, 2, 2, 3, 2, 3, 3, 4, 1, 2, 2, 3, 2, 3, 3, 4, 2, 3, 3, 4, 3, 4, 4, 5, 1, 2, 2, 3, 2, 3, 3, 4, 2, 3, 3, 4, 3, 4, 4, 5, 2, 3, 3, 4, 3, 4, 4, 5, 3, 4, 4, 5, 4, 5, 5, 6, 1, 2, 2, 3, 2, 3, 3, 4, 2, 3, 3, 4, 3, 4, 4, 5, 2, 3, 3, 4, 3, 4, 4, 5, 3, 4, 4, 5, 4, 5, 5, 6, 2, 3, 3, 4, 3, 4, 4, 5, 3, 4, 4, 5, 4, 5, 5, 6, 3, 4, 4, 5, 4, 5, 5, 6, 4, 5, 5, 6, 5, 6, 6, 7, 1, 2, 2, 3, 2, 3, 3, 4, 2, 3, 3, 4, 3, 4, 4, 5, 2, 3, 3, 4, 3, 4, 4, 5, 3, 4, 4, 5, 4, 5, 5, 6, 2, 3, 3, 4, 3, 4, 4, 5, 3, 4, 4, 5, 4, 5, 5, 6, 3, 4, 4, 5, 4, 5, 5, 6, 4, 5, 5, 6, 5, 6, 6, 7, 2, 3, 3, 4, 3, 4, 4, 5, 3, 4, 4, 5, 4, 5, 5, 6, 3, 4, 4, 5, 4, 5, 5, 6, 4, 5, 5, 6, 5, 6, 6, 7, 3, 4, 4, 5, 4, 5, 5, 6, 4, 5, 5, 6, 5, 6, 6, 7, 4, 5, 5, 6, 5, 6, 6, 7, 5, 6, 6, 7, 6, 7, 7, 8])) t8), ⟨(some 9), (.ixs (.c (.str [0, 1, 1, 2, 1, 2, 2, 3, 1, 2, 2, 3, 2, 3, 3, 4, 1, 2, 2, 3, 2, 3, 3, 4, 2, 3, 3, 4, 3, 4, 4, 5, 1, 2, 2, 3, 2, 3, 3, 4, 2, 3, 3, 4, 3, 4, 4, 5, 2, 3, 3, 4, 3, 4, 4, 5, 3, 4, 4, 5, 4, 5, 5, 6, 1, 2, 2, 3, 2, 3, 3, 4, 2, 3, 3, 4, 3, 4, 4, 5, 2, 3, 3, 4, 3, 4, 4, 5, 3, 4, 4, 5, 4, 5, 5, 6, 2, 3, 3, 4, 3, 4, 4, 5, 3, 4, 4, 5, 4, 5, 5, 6, 3, 4, 4, 5, 4, 5, 5, 6, 4, 5, 5, 6, 5, 6, 6, 7, 1, 2, 2, 3, 2, 3, 3, 4, 2, 3, 3, 4, 3, 4, 4, 5, 2, 3, 3, 4, 3, 4, 4, 5, 3, 4, 4, 5, 4, 5, 5, 6, 2, 3, 3, 4, 3, 4, 4, 5, 3, 4, 4, 5, 4, 5, 5, 6, 3, 4, 4, 5, 4, 5, 5, 6, 4, 5, 5, 6, 5, 6, 6, 7, 2, 3, 3, 4, 3, 4, 4, 5, 3, 4, 4, 5, 4, 5, 5, 6, 3, 4, 4, 5, 4, 5, 5, 6, 4, 5, 5, 6, 5, 6, 6, 7, 3, 4, 4, 5, 4, 5, 5, 6, 4, 5, 5, 6, 5, 6, 6, 7, 4, 5, 5, 6, 5, 6, 6, 7, 5, 6, 6, 7, 6, 7, 7, 8])) (.t 8)), none⟩, false, [], []⟩,
 ⟨kS d10 (oBin .add t5 t9), ⟨(some 10), (.bin .add (.t 5) (.t 9)), none⟩, false, [], []⟩,
 ⟨kS d11 (oMv t0), ⟨(some 11), (.mv (.t 0)), none⟩, false, [], []⟩,
 ⟨kS d12 (oBin .shr t11 (gC (.int .u64 8))), ⟨(some 12), (.bin .shr (.t 11) (.c (.int .u64 8))), none⟩, false, [], []⟩,
 ⟨kS d13 (oBin .and t12 (gC (.int .u32 255))), ⟨(some 13), (.bin .and (.t 12) (.c (.int .u32 255))), none⟩, false, [], []⟩,
 ⟨kS d14 (oIxs (gC (.str [0, 1, 1, 2, 1, 2, 2, 3, 1, 2, 2, 3, 2, 3, 3, 4, 1, 2, 2, 3, 2, 3, 3, 4, 2, 3, 3, 4, 3, 4, 4, 5, 1, 2, 2, 3, 2, 3, 3, 4, 2, 3, 3, 4, 3, 4, 4, 5, 2, 3, 3, 4, 3, 4, 4, 5, 3, 4, 4, 5, 4, 5, 5, 6, 1, 2, 2, 3, 2, 3, 3, 4, 2, 3, 3, 4, 3, 4, 4, 5, 2, 3, 3, 4, 3, 4, 4, 5, 3, 4, 4, 5, 4, 5, 5, 6, 2, 3, 3, 4, 3, 4, 4, 5, 3, 4, 4, 5, 4, 5, 5, 6, 3, 4, 4, 5, 4, 5, 5, 6, 4, 5, 5, 6, 5, 6, 6, 7, 1, 2, 2, 3, 2, 3, 3, 4, 2, 3, 3, 4, 3, 4, 4, 5, 2, 3, 3, 4, 3, 4, 4, 5, 3, 4, 4, 5, 4, 5, 5, 6, 2, 3, 3, 4, 3, 4, 4, 5, 3, 4, 4, 5, 4, 5, 5, 6, 3, 4, 4, 5, 4, 5, 5, 6, 4, 5, 5, 6, 5, 6, 6, 7, 2, 3, 3, 4, 3, 4, 4, 5, 3, 4, 4, 5, 4, 5, 5, 6, 3, 4, 4, 5, 4, 5, 5, 6, 4, 5, 5, 6, 5, 6, 6, 7, 3, 4, 4, 5, 4, 5, 5, 6, 4, 5, 5, 6, 5, 6, 6, 7, 4, 5, 5, 6, 5, 6, 6, 7, 5, 6, 6, 7, 6, 7, 7, 8])) t13), ⟨(some 14), (.ixs (.c (.str [0, 1, 1, 2, 1, 2, 2, 3, 1, 2, 2, 3, 2, 3, 3, 4, 1, 2, 2, 3, 2, 3, 3, 4, 2, 3, 3, 4, 3, 4, 4, 5, 1, 2, 2, 3, 2, 3, 3, 4, 2, 3, 3, 4, 3, 4, 4, 5, 2, 3, 3, 4, 3, 4, 4, 5, 3, 4, 4, 5, 4, 5, 5, 6, 1, 2, 2, 3, 2, 3, 3, 4, 2, 3, 3, 4, 3, 4, 4, 5, 2, 3, 3, 4, 3, 4, 4, 5, 3, 4, 4, 5, 4, 5, 5, 6, 2, 3, 3, 4, 3, 4, 4, 5, 3, 4, 4, 5, 4, 5, 5, 6, 3, 4, 4, 5, 4, 5, 5, 6, 4, 5, 5, 6, 5, 6, 6, 7, 1, 2, 2, 3, 2, 3, 3, 4, 2, 3, 3, 4, 3, 4, 4, 5, 2, 3, 3, 4, 3, 4, 4, 5, 3, 4, 4, 5, 4, 5, 5, 6, 2, 3, 3, 4, 3, 4, 4, 5, 3, 4, 4, 5, 4, 5, 5, 6, 3, 4, 4, 5, 4, 5, 5, 6, 4, 5, 5, 6, 5, 6, 6, 7, 2, 3, 3, 4, 3, 4, 4, 5, 3, 4, 4, 5, 4, 5, 5, 6, 3, 4, 4, 5, 4, 5, 5, 6, 4, 5, 5, 6, 5, 6, 6, 7, 3, 4, 4, 5, 4, 5, 5, 6, 4, 5, 5, 6, 5, 6, 6, 7, 4, 5, 5, 6, 5, 6, 6, 7, 5, 6, 6, 7, 6, 7, 7, 8])) (.t 13)), none⟩, false, [], []⟩,
 ⟨kS d15 (oBin .add t10 t14), ⟨(some 15), (.bin .add (.t 10) (.t 14)), none⟩, false, [], []⟩,
 ⟨kS d16 (oMv t0), ⟨(some 16), (.mv (.t 0)), none⟩, false, [], []⟩,
 ⟨kS d17 (oBin .and t16 (gC (.int .u32 255))), ⟨(some 17), (.bin .and (.t 16) (.c (.int .u32 255))), none⟩, false, [], []⟩,
 ⟨kS d18 (oIxs (gC (.str [0, 1, 1, 2, 1, 2, 2, 3, 1, 2, 2, 3, 2, 3, 3, 4, 1, 2, 2, 3, 2, 3, 3, 4, 2, 3, 3, 4, 3, 4, 4, 5, 1, 2, 2, 3, 2, 3, 3, 4, 2, 3, 3, 4, 3, 4, 4, 5, 2, 3, 3, 4, 3, 4, 4, 5, 3, 4, 4, 5, 4, 5, 5, 6, 1, 2, 2, 3, 2, 3, 3, 4, 2, 3, 3, 4, 3, 4, 4, 5, 2, 3, 3, 4, 3, 4, 4, 5, 3, 4, 4, 5, 4, 5, 5, 6, 2, 3, 3, 4, 3, 4, 4, 5, 3, 4, 4, 5, 4, 5, 5, 6, 3, 4, 4, 5, 4, 5, 5, 6, 4, 5, 5, 6, 5, 6, 6, 7, 1, 2, 2, 3, 2, 3, 3, 4, 2, 3, 3, 4, 3, 4, 4, 5, 2, 3, 3, 4, 3, 4, 4, 5, 3, 4, 4, 5, 4, 5, 5, 6, 2, 3, 3, 4, 3, 4, 4, 5, 3, 4, 4, 5, 4, 5, 5, 6, 3, 4, 4, 5, 4, 5, 5, 6, 4, 5, 5, 6, 5, 6, 6, 7, 2, 3, 3, 4, 3, 4, 4, 5, 3, 4, 4, 5, 4, 5, 5, 6, 3, 4, 4, 5, 4, 5, 5, 6, 4, 5, 5, 6, 5, 6, 6, 7, 3, 4, 4, 5, 4, 5, 5, 6, 4, 5, 5, 6, 5, 6, 6, 7, 4, 5, 5, 6, 5, 6, 6, 7, 5, 6, 6, 7, 6, 7, 7, 8])) t17), ⟨(some 18), (.ixs (.c (.str [0, 1, 1, 2, 1, 2, 2, 3, 1, 2, 2, 3, 2, 3, 3, 4, 1, 2, 2, 3, 2, 3, 3, 4, 2, 3, 3, 4, 3, 4, 4, 5, 1, 2, 2, 3, 2, 3, 3, 4, 2, 3, 3, 4, 3, 4, 4, 5, 2, 3, 3, 4, 3, 4, 4, 5, 3, 4, 4, 5, 4, 5, 5, 6, 1, 2, 2, 3, 2, 3, 3, 4, 2, 3, 3, 4, 3, 4, 4, 5, 2, 3, 3, 4, 3, 4, 4, 5, 3, 4, 4, 5, 4, 5, 5, 6, 2, 3, 3, 4, 3, 4, 4, 5, 3, 4, 4, 5, 4, 5, 5, 6, 3, 4, 4, 5, 4, 5, 5, 6, 4, 5, 5, 6, 5, 6, 6, 7, 1, 2, 2, 3, 2, 3, 3, 4, 2, 3, 3, 4, 3, 4, 4, 5, 2, 3, 3, 4, 3, 4, 4, 5, 3, 4, 4, 5, 4, 5, 5, 6, 2, 3, 3, 4, 3, 4, 4, 5, 3, 4, 4, 5, 4, 5, 5, 6, 3, 4, 4, 5, 4, 5, 5, 6, 4, 5, 5, 6, 5, 6, 6, 7, 2, 3, 3, 4, 3, 4, 4, 5, 3, 4, 4, 5, 4, 5, 5, 6, 3, 4, 4, 5, 4, 5, 5, 6, 4, 5, 5, 6, 5, 6, 6, 7, 3, 4, 4, 5, 4, 5, 5, 6, 4, 5, 5, 6, 5, 6, 6, 7, 4, 5, 5, 6, 5, 6, 6, 7, 5, 6, 6, 7, 6, 7, 7, 8])) (.t 17)), none⟩, false, [], []⟩,
 ⟨kS d19 (oBin .add t15 t18), ⟨(some 19), (.bin .add (.t 15) (.t 18)), none⟩, false, [], []⟩,
 ⟨kS d20 (oGen (.conv .i64 (.t 19))), ⟨(some 20), (.conv .i64 (.t 19)), none⟩, false, [], []⟩,
 ⟨kS d2 (oMv t20), ⟨(some 2), (.mv (.t 20)), none⟩, false, [], []⟩])
 kRet))
theorem e93 : b93 = comp ir93.code := by kernel_rfl
def k93 : KF := ⟨21, b93, [.tmp 2]⟩
def b94 : KC := (kSeq (kRegion [kS d2 (oMv (gI 0))])
 (kSeq (kRegion [kS d3 (oMv t0),
 kS d4 (oBin .shr t3 (gC (.int .u64 1))),
 kS d5 (oBin .and t4 (gC (.int .u64 6148914691236517205))),
 kS d6 (oMv t0),
 kS d7 (oBin .and t6 (gC (.int .u64 6148914691236517205))),
 kS d8 (oBin .add t5 t7),
 kS d0 (oMv t8)])
 (kSeq (kRegion [kS d9 (oMv t0),
 kS d10 (oBin .shr t9 (gC (.int .u64 2))),
 kS d11 (oBin .and t10 (gC (.int .u64 3689348814741910323))),
 kS d12 (oMv t0),
 kS d13 (oBin .and t12 (gC (.int .u64 3689348814741910323))),
 kS d14 (oBin .add t11 t13),
 kS d0 (oMv t14)])
 (kSeq (kRegion [kS d15 (oMv t0),
 kS d16 (oBin .shr t15 (gC (.int .u64 4))),
 kS d17 (oMv t0),
 kS d18 (oBin .add t16 t17),
 kS d19 (oBin .and t18 (gC (.int .u64 1085102592571150095))),
 kS d0 (oMv t19)])
 (kSeq (kRegion [kS d20 (oMv t0),
 kS d21 (oMv t0),
 kS d22 (oBin .shr t21 (gC (.int .u64 8))),
 kS d23 (oBin .add t20 t22),
 kS d0 (oMv t23)])
 (kSeq (kRegion [kS d24 (oMv t0),
 kS d25 (oMv t0),
 kS d26 (oBin .shr t25 (gC (.int .u64 16))),
 kS d27 (oBin .add t24 t26),
 kS d0 (oMv t27)])
 (kSeq (kRegion [kS d28 (oMv t0),
 kS d29 (oMv t0),
 kS d30 (oBin .shr t29 (gC (.int .u64 32))),
 kS d31 (oBin .add t28 t30),
 kS d0 (oMv t31)])
 (kSeq (kRegion [kS d32 (oMv t0),
 kS d33 (oGen (.conv .i64 (.t 32))),
 kS d34 (oBin .and t33 (gI 127)),
 kS d2 (oMv t34)])
 kRet))))))))
theorem e94 : b94 = comp ir94.code := by kernel_rfl
def k94 : KF := ⟨35, b94, [.tmp 2]⟩
def b95 : KC := (kSeq (kRegion [kS d8 (oBox t3),
 kS d10 (oAlloc (.agg [(.str []), (.int .i64 0), (.int .i64 0), (.int .i64 0), (.int .i64 0), (.int .i64 0)]))])
 (kSeq (kRegion [kS d11 (oMv t0),
 kS d12 (oMv t1),
 kS d13 (oMv t2),
 kS d14 (oFa t8 0),
 kS d15 (oLd false 1 t14),
 kS d16 (oFa t8 1),
 kS d17 (oLd false 1 t16),
 kS d18 (oMv t4),
 kS d19 (oBld [(.str []), (.int .i64 0), (.int .i64 0), (.int .i64 0), (.int .i64 0), (.int .i64 0)] [(0, 1, t11), (1, 1, t12), (2, 1, t13), (3, 1, t15), (4, 1, t17), (5, 1, t18)]),
 kN (oSt 6 t10 t19)])
 kRet))
theorem e95 : b95 = comp ir95.code := by kernel_rfl
def k95 : KF := ⟨20, b95, [.cell 10 true 6]⟩
def b100 : KC := (kSeq (kRegion [kS d4 (oMv (gI 0))])
 (kSeq (kSeq (kRegion [kS d6 (oMv t0),
 kS d7 (oLen false t6),
 kS d8 (oMv (gI 0))])
 (kBlock 0 (kLoop (kSeq (kRegion [kS d9 (oBin .lss t8 t7)])
 (kSeq (kCond t9 kSkip
 (kExit 0))
 (kSeq (kBlock 1 (kSeq (kRegion [kS d10 (oMv t8),
 kS d5 (oMv t10)])
 (kSeq (kRegion [kS d11 (oMv t1),
 kS d12 (oMv t0),
 kS d13 (oMv t5),
 kS d14 (oIa 1 t12 t13),
 kS d15 (oLd false 1 t14),
 kS d16 (oCall t11 [t15])])
 (kCond t16 (kSeq (kRegion [kS d17 (oMv t5),
 kS d4 (oMv t17)])
 kRet)
 kSkip))))
 (kRegion [kS d18 (oBin .add t8 (gI 1)),
 kS d8 (oMv t18)])))))))
 (kSeq (kRegion [kS d4 (oMv (gI (-1)))])
 kRet)))
theorem e100 : b100 = comp ir100.code := by kernel_rfl
def k100 : KF := ⟨19, b100, [.tmp 4]⟩
def b101 : KC := (kSeq (kRegion [kS d4 (oMv (gI 0))])
 (kSeq (kSeq (kRegion [kS d6 (oMv t0),
 kS d7 (oLen false t6),
 kS d8 (oMv (gI 0))])
 (kBlock 0 (kLoop (kSeq (kRegion [kS d9 (oBin .lss t8 t7)])
 (kSeq (kCond t9 kSkip
 (kExit 0))
 (kSeq (kBlock 1 (kSeq (kRegion [kS d10 (oMv t8),
 kS d5 (oMv t10)])
 (kSeq (kRegion [kS d11 (oMv t1),
 kS d12 (oMv t0),
 kS d13 (oMv t5),
 kS d14 (oIa 1 t12 t13),
 kS d15 (oLd false 1 t14),
 kS d16 (oBin .eql t11 t15)])
 (kCond t16 (kSeq (kRegion [kS d17 (oMv t5),
 kS d4 (oMv t17)])
 kRet)
 kSkip))))
 (kRegion [kS d18 (oBin .add t8 (gI 1)),
 kS d8 (oMv t18)])))))))
 (kSeq (kRegion [kS d4 (oMv (gI (-1)))])
 kRet)))
theorem e101 : b101 = comp ir101.code := by kernel_rfl
def k101 : KF := ⟨19, b101, [.tmp 4]⟩
def b102 : KC := (kSeq (kRegion [kS d2 (oMv (gI 0))])
 (kSeq (kSeq (kRegion [kS d3 (oMv t0),
 kS d4 (oBin .eql t3 (gC (.int .u32 0)))])
 (kCond t4 (kSeq (kRegion [kS d2 (oMv (gI 32))])
 kRet)
 kSkip))
 (kSeq (kRegion [kS d5 (oMv t0),
 kS d6 (oMv t0),
 kS d7 (oGen (.un .neg (.t 6))),
 kS d8 (oBin .and t5 t7),
 kS d9 (oBin .mul t8 (gC (.int .u32 125613361))),
 kS d10 (oBin .shr t9 (gC (.int .u64 27))),
 kS d11 (oIaa 32 1 (gC (.ptr 0 0)) t10),
 kS d12 (oLd false 1 t11),
 kS d13 (oGen (.conv .i64 (.t 12))),
 kS d2 (oMv t13)])
 kRet)))
theorem e102 : b102 = comp ir102.code := by kernel_rfl
def k102 : KF := ⟨14, b102, [.tmp 2]⟩
def b103 : KC := (kSeq (kRegion [kS d2 (oMv (gI 0))])
 (kSeq (kSeq (kRegion [kS d3 (oMv t0),
 kS d4 (oBin .eql t3 (gC (.int .u64 0)))])
 (kCond t4 (kSeq (kRegion [kS d2 (oMv (gI 64))])
 kRet)
 kSkip))
 (kSeq (kRegion [kS d5 (oMv t0),
 kS d6 (oMv t0),
 kS d7 (oGen (.un .neg (.t 6))),
 kS d8 (oBin .and t5 t7),
 kS d9 (oBin .mul t8 (gC (.int .u64 285870213051353865))),
 kS d10 (oBin .shr t9 (gC (.int .u64 58))),
 kS d11 (oIaa 64 1 (gC (.ptr 1 0)) t10),
 kS d12 (oLd false 1 t11),
 kS d13 (oGen (.conv .i64 (.t 12))),
 kS d2 (oMv t13)])
 kRet)))
theorem e103 : b103 = comp ir103.code := by kernel_rfl
def k103 : KF := ⟨14, b103, [.tmp 2]⟩
def b104 : KC := (kSeq (kRegion [kS d2 (oMv (gC (.bool false)))])
 (kSeq (kRegion [kS d3 (oMv t0),
 kS d4 (oMv t0),
 kS d5 (oBin .neq t3 t4),
 kS d2 (oMv t5)])
 kRet))
theorem e104 : b104 = comp ir104.code := by kernel_rfl
def k104 : KF := ⟨6, b104, [.tmp 2]⟩
def tk : Nat → Option KF
  | 7 => some k7
  | 12 => some k12
  | 15 => some k15
  | 17 => some k17
  | 22 => some k22
  | 24 => some k24
  | 29 => some k29
  | 32 => some k32
  | 35 => some k35
  | 37 => some k37
  | 39 => some k39
  | 41 => some k41
  | 42 => some k42
  | 43 => some k43
  | 44 => some k44
  | 45 => some k45
  | 46 => some k46
  | 47 => some k47
  | 48 => some k48
  | 49 => some k49
  | 50 => some k50
  | 51 => some k51
  | 52 => some k52
  | 53 => some k53
  | 54 => some k54
  | 55 => some k55
  | 56 => some k56
  | 57 => some k57
  | 58 => some k58
  | 59 => some k59
  | 60 => some k60
  | 61 => some k61
  | 62 => some k62
  | 66 => some k66
  | 67 => some k67
  | 68 => some k68
  | 69 => some k69
  | 70 => some k70
  | 71 => some k71
  | 72 => some k72
  | 73 => some k73
  | 74 => some k74
  | 75 => some k75
  | 76 => some k76
  | 77 => some k77
  | 80 => some k80
  | 81 => some k81
  | 82 => some k82
  | 83 => some k83
  | 84 => some k84
  | 85 => some k85
  | 86 => some k86
  | 87 => some k87
  | 88 => some k88
  | 89 => some k89
  | 90 => some k90
  | 91 => some k91
  | 92 => some k92
  | 93 => some k93
  | 94 => some k94
  | 95 => some k95
  | 100 => some k100
  | 101 => some k101
  | 102 => some k102
  | 103 => some k103
  | 104 => some k104
  | _ => none
end
theorem tkOk : TabS tk (tblA : FT S16) := by
  refine ⟨fun _ _ _ => rfl, fun f kf h => ?_⟩
  unfold tk at h
  split at h
  · cases h; exact ⟨ir7, rfl, by show KF.mk _ b7 _ = _; rw [e7]; rfl⟩
  · cases h; exact ⟨ir12, rfl, by show KF.mk _ b12 _ = _; rw [e12]; rfl⟩
  · cases h; exact ⟨ir15, rfl, by show KF.mk _ b15 _ = _; rw [e15]; rfl⟩
  · cases h; exact ⟨ir17, rfl, by show KF.mk _ b17 _ = _; rw [e17]; rfl⟩
  · cases h; exact ⟨ir22, rfl, by show KF.mk _ b22 _ = _; rw [e22]; rfl⟩
  · cases h; exact ⟨ir24, rfl, by show KF.mk _ b24 _ = _; rw [e24]; rfl⟩
  · cases h; exact ⟨ir29, rfl, by show KF.mk _ b29 _ = _; rw [e29]; rfl⟩
  · cases h; exact ⟨ir32, rfl, by show KF.mk _ b32 _ = _; rw [e32]; rfl⟩
  · cases h; exact ⟨ir35, rfl, by show KF.mk _ b35 _ = _; rw [e35]; rfl⟩
  · cases h; exact ⟨ir37, rfl, by show KF.mk _ b37 _ = _; rw [e37]; rfl⟩
  · cases h; exact ⟨ir39, rfl, by show KF.mk _ b39 _ = _; rw [e39]; rfl⟩
  · cases h; exact ⟨ir41, rfl, by show KF.mk _ b41 _ = _; rw [e41]; rfl⟩
  · cases h; exact ⟨ir42, rfl, by show KF.mk _ b42 _ = _; rw [e42]; rfl⟩
  · cases h; exact ⟨ir43, rfl, by show KF.mk _ b43 _ = _; rw [e43]; rfl⟩
  · cases h; exact ⟨ir44, rfl, by show KF.mk _ b44 _ = _; rw [e44]; rfl⟩
  · cases h; exact ⟨ir45, rfl, by show KF.mk _ b45 _ = _; rw [e45]; rfl⟩
  · cases h; exact ⟨ir46, rfl, by show KF.mk _ b46 _ = _; rw [e46]; rfl⟩
  · cases h; exact ⟨ir47, rfl, by show KF.mk _ b47 _ = _; rw [e47]; rfl⟩
  · cases h; exact ⟨ir48, rfl, by show KF.mk _ b48 _ = _; rw [e48]; rfl⟩
  · cases h; exact ⟨ir49, rfl, by show KF.mk _ b49 _ = _; rw [e49]; rfl⟩
  · cases h; exact ⟨ir50, rfl, by show KF.mk _ b50 _ = _; rw [e50]; rfl⟩
  · cases h; exact ⟨ir51, rfl, by show KF.mk _ b51 _ = _; rw [e51]; rfl⟩
  · cases h; exact ⟨ir52, rfl, by show KF.mk _ b52 _ = _; rw [e52]; rfl⟩
  · cases h; exact ⟨ir53, rfl, by show KF.mk _ b53 _ = _; rw [e53]; rfl⟩
  · cases h; exact ⟨ir54, rfl, by show KF.mk _ b54 _ = _; rw [e54]; rfl⟩
  · cases h; exact ⟨ir55, rfl, by show KF.mk _ b55 _ = _; rw [e55]; rfl⟩
  · cases h; exact ⟨ir56, rfl, by show KF.mk _ b56 _ = _; rw [e56]; rfl⟩
  · cases h; exact ⟨ir57, rfl, by show KF.mk _ b57 _ = _; rw [e57]; rfl⟩
  · cases h; exact ⟨ir58, rfl, by show KF.mk _ b58 _ = _; rw [e58]; rfl⟩
  · cases h; exact ⟨ir59, rfl, by show KF.mk _ b59 _ = _; rw [e59]; rfl⟩
  · cases h; exact ⟨ir60, rfl, by show KF.mk _ b60 _ = _; rw [e60]; rfl⟩
  · cases h; exact ⟨ir61, rfl, by show KF.mk _ b61 _ = _; rw [e61]; rfl⟩
  · cases h; exact ⟨ir62, rfl, by show KF.mk _ b62 _ = _; rw [e62]; rfl⟩
  · cases h; exact ⟨ir66, rfl, by show KF.mk _ b66 _ = _; rw [e66]; rfl⟩
  · cases h; exact ⟨ir67, rfl, by show KF.mk _ b67 _ = _; rw [e67]; rfl⟩
  · cases h; exact ⟨ir68, rfl, by show KF.mk _ b68 _ = _; rw [e68]; rfl⟩
  · cases h; exact ⟨ir69, rfl, by show KF.mk _ b69 _ = _; rw [e69]; rfl⟩
  · cases h; exact ⟨ir70, rfl, by show KF.mk _ b70 _ = _; rw [e70]; rfl⟩
  · cases h; exact ⟨ir71, rfl, by show KF.mk _ b71 _ = _; rw [e71]; rfl⟩
  · cases h; exact ⟨ir72, rfl, by show KF.mk _ b72 _ = _; rw [e72]; rfl⟩
  · cases h; exact ⟨ir73, rfl, by show KF.mk _ b73 _ = _; rw [e73]; rfl⟩
  · cases h; exact ⟨ir74, rfl, by show KF.mk _ b74 _ = _; rw [e74]; rfl⟩
  · cases h; exact ⟨ir75, rfl, by show KF.mk _ b75 _ = _; rw [e75]; rfl⟩
  · cases h; exact ⟨ir76, rfl, by show KF.mk _ b76 _ = _; rw [e76]; rfl⟩
  · cases h; exact ⟨ir77, rfl, by show KF.mk _ b77 _ = _; rw [e77]; rfl⟩
  · cases h; exact ⟨ir80, rfl, by show KF.mk _ b80 _ = _; rw [e80]; rfl⟩
  · cases h; exact ⟨ir81, rfl, by show KF.mk _ b81 _ = _; rw [e81]; rfl⟩
  · cases h; exact ⟨ir82, rfl, by show KF.mk _ b82 _ = _; rw [e82]; rfl⟩
  · cases h; exact ⟨ir83, rfl, by show KF.mk _ b83 _ = _; rw [e83]; rfl⟩
  · cases h; exact ⟨ir84, rfl, by show KF.mk _ b84 _ = _; rw [e84]; rfl⟩
  · cases h; exact ⟨ir85, rfl, by show KF.mk _ b85 _ = _; rw [e85]; rfl⟩
  · cases h; exact ⟨ir86, rfl, by show KF.mk _ b86 _ = _; rw [e86]; rfl⟩
  · cases h; exact ⟨ir87, rfl, by show KF.mk _ b87 _ = _; rw [e87]; rfl⟩
  · cases h; exact ⟨ir88, rfl, by show KF.mk _ b88 _ = _; rw [e88]; rfl⟩
  · cases h; exact ⟨ir89, rfl, by show KF.mk _ b89 _ = _; rw [e89]; rfl⟩
  · cases h; exact ⟨ir90, rfl, by show KF.mk _ b90 _ = _; rw [e90]; rfl⟩
  · cases h; exact ⟨ir91, rfl, by show KF.mk _ b91 _ = _; rw [e91]; rfl⟩
  · cases h; exact ⟨ir92, rfl, by show KF.mk _ b92 _ = _; rw [e92]; rfl⟩
  · cases h; exact ⟨ir93, rfl, by show KF.mk _ b93 _ = _; rw [e93]; rfl⟩
  · cases h; exact ⟨ir94, rfl, by show KF.mk _ b94 _ = _; rw [e94]; rfl⟩
  · cases h; exact ⟨ir95, rfl, by show KF.mk _ b95 _ = _; rw [e95]; rfl⟩
  · cases h; exact ⟨ir100, rfl, by show KF.mk _ b100 _ = _; rw [e100]; rfl⟩
  · cases h; exact ⟨ir101, rfl, by show KF.mk _ b101 _ = _; rw [e101]; rfl⟩
  · cases h; exact ⟨ir102, rfl, by show KF.mk _ b102 _ = _; rw [e102]; rfl⟩
  · cases h; exact ⟨ir103, rfl, by show KF.mk _ b103 _ = _; rw [e103]; rfl⟩
  · cases h; exact ⟨ir104, rfl, by show KF.mk _ b104 _ = _; rw [e104]; rfl⟩
  · cases h
end Go.Ax.Kr
end
