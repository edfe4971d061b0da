import Derived.Test.YtofcejekdppbnaaA5
import Derived.Test.YtofcejekdppbnaaB
import Derived.KernelRfl
set_option linter.unusedSectionVars false
set_option linter.unusedVariables false
set_option linter.unusedSimpArgs false
section
namespace Go.Ax.Kr
open Go.Ax.Ir Go.Ax.K
set_option maxRecDepth 100000
set_option maxHeartbeats 8000000
noncomputable section
def b7 : KC := (kSeq (kRegion [kS d1 (oBox t0),
 kS d2 (oMv (gI 0)),
 kS d3 (oMv (gI 0)),
 kS d4 (oMv (gI 0))])
 (kSeq (kSeq (kRegion [kS d9 (oFa t1 1),
 kS d10 (oLd false 1 t9),
 kS d11 (oBldS 1 1 [(.int .i64 0)] [(0, 1, t10)]),
 kS d12 (oCall (gC (.func 40 [] [])) [(gI 1), (gI 3), t11]),
 kS d13 (oMv t12),
 kG t13 false d14 (oFa t1 2),
 kG t13 false d15 (oLd false 1 t14),
 kG t13 false d16 (oBldS 1 1 [(.int .i64 0)] [(0, 1, t15)]),
 kG t13 false d17 (oCall (gC (.func 40 [] [])) [(gI 0), (gI 60), t16]),
 kS d18 (oPick t13 (gC (.bool true)) t17)])
 (kCond t18 (kSeq (kRegion [kS d2 (oMv (gI 1)),
 kS d3 (oMv (gI 0)),
 kS d4 (oMv (gI 7))])
 kRet)
 kSkip))
 (kSeq (kRegion [kS d19 (oLd true 5 t1),
 kS d20 (oBld [.nilslice, (.int .i64 0), (.int .i64 0), .nilslice, .nilslice, .nilmap] [(0, 5, t19)]),
 kS d21 (oBox t20),
 kS d5 (oMv t21)])
 (kSeq (kSeq (kRegion [kS d22 (oFa t1 0),
 kS d23 (oLd false 1 t22),
 kS d24 (oLen false t23),
 kS d25 (oMv t5),
 kS d26 (oMkfn 41 [t25] []),
 kS d27 (oBld [(.int .i64 0), (.int .i64 0), (.int .i64 0), (.int .i64 0), .nilfunc] [(0, 1, (gI 2)), (1, 1, (gI 1)), (2, 1, (gI 3)), (3, 1, t24), (4, 1, t26)]),
 kS d28 (oFa t1 3),
 kS d29 (oLd false 1 t28),
 kS d30 (oLen false t29),
 kS d31 (oMv t5),
 kS d32 (oMkfn 42 [t31] []),
 kS d33 (oBld [(.int .i64 0), (.int .i64 0), (.int .i64 0), (.int .i64 0), .nilfunc] [(0, 1, (gI 3)), (1, 1, (gI 0)), (2, 1, (gI 6)), (3, 1, t30), (4, 1, t32)]),
 kS d34 (oFa t1 4),
 kS d35 (oLd false 1 t34),
 kS d36 (oLen false t35),
 kS d37 (oMv t5),
 kS d38 (oMkfn 43 [t37] []),
 kS d39 (oBld [(.int .i64 0), (.int .i64 0), (.int .i64 0), (.int .i64 0), .nilfunc] [(0, 1, (gI 4)), (1, 1, (gI 0)), (2, 1, (gI 4)), (3, 1, t36), (4, 1, t38)]),
 kS d40 (oBldS 5 3 [(.int .i64 0), (.int .i64 0), (.int .i64 0), (.int .i64 0), .nilfunc] [(0, 5, t27), (5, 5, t33), (10, 5, t39)]),
 kS d41 (oLen false t40),
 kS d42 (oMv (gI 0))])
 (kBlock 0 (kLoop (kSeq (kRegion [kS d43 (oBin .lss t42 t41)])
 (kSeq (kCond t43 kSkip
 (kExit 0))
 (kSeq (kBlock 1 (kSeq (kRegion [kS d44 (oIa 5 t40 t42),
 kS d45 (oLd true 5 t44),
 kS d7 (oAlloc (.agg [(.int .i64 0), (.int .i64 0), (.int .i64 0), (.int .i64 0), .nilfunc])),
 kN (oSt 5 t7 t45)])
 (kSeq (kSeq (kRegion [kS d46 (oFa t7 1),
 kS d47 (oLd false 1 t46),
 kS d48 (oFa t7 2),
 kS d49 (oLd false 1 t48),
 kS d50 (oFa t7 3),
 kS d51 (oLd false 1 t50),
 kS d52 (oBldS 1 1 [(.int .i64 0)] [(0, 1, t51)]),
 kS d53 (oCall (gC (.func 40 [] [])) [t47, t49, t52])])
 (kCond t53 (kSeq (kRegion [kS d54 (oFa t7 0),
 kS d55 (oLd false 1 t54),
 kS d2 (oMv t55),
 kS d3 (oMv (gI 0)),
 kS d4 (oMv (gI 3))])
 kRet)
 kSkip))
 (kSeq (kRegion [kS d56 (oFa t7 3),
 kS d57 (oLd false 1 t56),
 kS d58 (oMv (gI 0))])
 (kBlock 2 (kLoop (kSeq (kRegion [kS d59 (oBin .lss t58 t57)])
 (kSeq (kCond t59 kSkip
 (kExit 2))
 (kSeq (kBlock 3 (kSeq (kRegion [kS d60 (oMv t58),
 kS d8 (oMv t60)])
 (kSeq (kRegion [kS d61 (oFa t7 4),
 kS d62 (oLd false 1 t61),
 kS d63 (oMv t8),
 kS d64 (oCall t62 [t63]),
 kS d4 (oMv t64)])
 (kSeq (kRegion [kS d65 (oMv t4),
 kS d66 (oBin .neq t65 (gI 0))])
 (kCond t66 (kSeq (kRegion [kS d67 (oFa t7 0),
 kS d68 (oLd false 1 t67),
 kS d69 (oMv t8),
 kS d70 (oMv t4),
 kS d2 (oMv t68),
 kS d3 (oMv t69),
 kS d4 (oMv t70)])
 kRet)
 kSkip)))))
 (kRegion [kS d71 (oBin .add t58 (gI 1)),
 kS d58 (oMv t71)]))))))))))
 (kRegion [kS d72 (oBin .add t42 (gI 1)),
 kS d42 (oMv t72)])))))))
 (kSeq (kRegion [kS d2 (oMv (gI 0)),
 kS d3 (oMv (gI 0)),
 kS d4 (oMv (gI 0))])
 kRet)))))
theorem e7 : b7 = comp ir7.code := by kernel_rfl
def k7 : KF := ⟨73, b7, [.tmp 2, .tmp 3, .tmp 4]⟩
def b12 : KC := (kSeq (kRegion [kS d3 (oBox t0),
 kS d6 (oMv (gC .nilslice)),
 kS d7 (oMv (gI 0))])
 (kSeq (kRegion [kS d12 (oLd true 5 t3),
 kS d13 (oMv t1),
 kS d14 (oCall (gC (.func 44 [] [])) [t12, t13]),
 kS d11 (oMv t14),
 kS d15 (oExt t11 0),
 kS d16 (oExt t11 1),
 kS d17 (oExt t11 2),
 kS d9 (oAlloc (.agg [(.int .i64 0), (.int .i64 0), (.int .i64 0), (.int .i64 0), (.int .i64 0), (.int .i64 0)])),
 kS d8 (oMv t15),
 kN (oSt 6 t9 t16),
 kS d10 (oMv t17)])
 (kSeq (kBlock 0 (kSeq (kRegion [kS d19 (oMv t10),
 kS d20 (oBin .neq t19 (gI 0)),
 kS d18 (oMv t20)])
 (kCond t18 (kSeq (kRegion [kS d21 (oMv t10),
 kS d6 (oMv (gC .nilslice)),
 kS d7 (oMv t21)])
 kRet)
 (kSeq (kRegion [kS d23 (oFa t3 0),
 kS d24 (oLd false 1 t23),
 kS d25 (oLen false t24),
 kS d26 (oBin .sub t25 (gI 1)),
 kS d27 (oMv t2),
 kS d28 (oBldS 1 1 [(.int .i64 0)] [(0, 1, t27)]),
 kS d29 (oCall (gC (.func 40 [] [])) [(gI 0), t26, t28]),
 kS d22 (oMv t29)])
 (kCond t22 (kSeq (kRegion [kS d6 (oMv (gC .nilslice)),
 kS d7 (oMv (gI 4))])
 kRet)
 kSkip)))))
 (kSeq (kRegion [kS d30 (oMv t8),
 kS d31 (oLd true 6 t9),
 kS d32 (oMv t2),
 kS d33 (oCall (gC (.func 45 [] [])) [t30, t31, t32]),
 kS d6 (oMv t33),
 kS d7 (oMv (gI 0))])
 kRet))))
theorem e12 : b12 = comp ir12.code := by kernel_rfl
def k12 : KF := ⟨34, b12, [.tmp 6, .tmp 7]⟩
def b17 : KC := (kSeq (kRegion [kS d3 (oBox t0),
 kS d6 (oMv (gC .nilslice)),
 kS d7 (oMv (gI 0))])
 (kSeq (kRegion [kS d12 (oLd true 5 t3),
 kS d13 (oMv t1),
 kS d14 (oCall (gC (.func 44 [] [])) [t12, t13]),
 kS d11 (oMv t14),
 kS d15 (oExt t11 0),
 kS d16 (oExt t11 1),
 kS d17 (oExt t11 2),
 kS d9 (oAlloc (.agg [(.int .i64 0), (.int .i64 0), (.int .i64 0), (.int .i64 0), (.int .i64 0), (.int .i64 0)])),
 kS d8 (oMv t15),
 kN (oSt 6 t9 t16),
 kS d10 (oMv t17)])
 (kSeq (kBlock 0 (kSeq (kRegion [kS d19 (oMv t10),
 kS d20 (oBin .neq t19 (gI 0)),
 kS d18 (oMv t20)])
 (kCond t18 (kSeq (kRegion [kS d21 (oMv t10),
 kS d6 (oMv (gC .nilslice)),
 kS d7 (oMv t21)])
 kRet)
 (kSeq (kRegion [kS d23 (oFa t3 0),
 kS d24 (oLd false 1 t23),
 kS d25 (oLen false t24),
 kS d26 (oBin .sub t25 (gI 1)),
 kS d27 (oMv t2),
 kS d28 (oBldS 1 1 [(.int .i64 0)] [(0, 1, t27)]),
 kS d29 (oCall (gC (.func 40 [] [])) [(gI 0), t26, t28]),
 kS d22 (oMv t29)])
 (kCond t22 (kSeq (kRegion [kS d6 (oMv (gC .nilslice)),
 kS d7 (oMv (gI 4))])
 kRet)
 kSkip)))))
 (kSeq (kRegion [kS d30 (oMv t8),
 kS d31 (oLd true 6 t9),
 kS d32 (oMv t2),
 kS d33 (oCall (gC (.func 49 [] [])) [t30, t31, t32]),
 kS d6 (oMv t33),
 kS d7 (oMv (gI 0))])
 kRet))))
theorem e17 : b17 = comp ir17.code := by kernel_rfl
def k17 : KF := ⟨34, b17, [.tmp 6, .tmp 7]⟩
def b22 : KC := (kSeq (kRegion [kS d3 (oBox t0),
 kS d6 (oMv (gI 0)),
 kS d7 (oMv (gI 0))])
 (kSeq (kRegion [kS d12 (oLd true 5 t3),
 kS d13 (oMv t1),
 kS d14 (oCall (gC (.func 44 [] [])) [t12, t13]),
 kS d11 (oMv t14),
 kS d15 (oExt t11 0),
 kS d16 (oExt t11 1),
 kS d17 (oExt t11 2),
 kS d9 (oAlloc (.agg [(.int .i64 0), (.int .i64 0), (.int .i64 0), (.int .i64 0), (.int .i64 0), (.int .i64 0)])),
 kS d8 (oMv t15),
 kN (oSt 6 t9 t16),
 kS d10 (oMv t17)])
 (kSeq (kBlock 0 (kSeq (kRegion [kS d19 (oMv t10),
 kS d20 (oBin .neq t19 (gI 0)),
 kS d18 (oMv t20)])
 (kCond t18 (kSeq (kRegion [kS d21 (oMv t10),
 kS d6 (oMv (gI 0)),
 kS d7 (oMv t21)])
 kRet)
 (kSeq (kRegion [kS d23 (oFa t3 3),
 kS d24 (oLd false 1 t23),
 kS d25 (oLen false t24),
 kS d26 (oBin .sub t25 (gI 1)),
 kS d27 (oMv t2),
 kS d28 (oBldS 1 1 [(.int .i64 0)] [(0, 1, t27)]),
 kS d29 (oCall (gC (.func 40 [] [])) [(gI 0), t26, t28]),
 kS d22 (oMv t29)])
 (kCond t22 (kSeq (kRegion [kS d6 (oMv (gI 0)),
 kS d7 (oMv (gI 4))])
 kRet)
 kSkip)))))
 (kSeq (kRegion [kS d30 (oMv t8),
 kS d31 (oLd true 6 t9),
 kS d32 (oMv t2),
 kS d33 (oCall (gC (.func 54 [] [])) [t30, t31, t32]),
 kS d6 (oMv t33),
 kS d7 (oMv (gI 0))])
 kRet))))
theorem e22 : b22 = comp ir22.code := by kernel_rfl
def k22 : KF := ⟨34, b22, [.tmp 6, .tmp 7]⟩
def b24 : KC := (kSeq (kRegion [kS d5 (oBox t0),
 kS d10 (oMv (gC .nilslice)),
 kS d11 (oMv (gI 0))])
 (kSeq (kRegion [kS d23 (oLd true 5 t5),
 kS d24 (oMv t1),
 kS d25 (oCall (gC (.func 44 [] [])) [t23, t24]),
 kS d22 (oMv t25),
 kS d26 (oExt t22 0),
 kS d27 (oExt t22 1),
 kS d28 (oExt t22 2),
 kS d13 (oAlloc (.agg [(.int .i64 0), (.int .i64 0), (.int .i64 0), (.int .i64 0), (.int .i64 0), (.int .i64 0)])),
 kS d12 (oMv t26),
 kN (oSt 6 t13 t27),
 kS d14 (oMv t28)])
 (kSeq (kBlock 0 (kSeq (kRegion [kS d30 (oMv t14),
 kS d31 (oBin .neq t30 (gI 0)),
 kS d29 (oMv t31)])
 (kCond t29 (kSeq (kRegion [kS d32 (oMv t14),
 kS d10 (oMv (gC .nilslice)),
 kS d11 (oMv t32)])
 kRet)
 (kSeq (kRegion [kS d34 (oFa t5 0),
 kS d35 (oLd false 1 t34),
 kS d36 (oLen false t35),
 kS d37 (oBin .sub t36 (gI 1)),
 kS d38 (oMv t2),
 kS d39 (oBldS 1 1 [(.int .i64 0)] [(0, 1, t38)]),
 kS d40 (oCall (gC (.func 40 [] [])) [(gI 0), t37, t39]),
 kS d41 (oMv t40),
 kG t41 false d42 (oFa t5 1),
 kG t41 false d43 (oLd false 1 t42),
 kG t41 false d44 (oBin .sub t43 (gI 1)),
 kG t41 false d45 (oMv t3),
 kG t41 false d46 (oBldS 1 1 [(.int .i64 0)] [(0, 1, t45)]),
 kG t41 false d47 (oCall (gC (.func 40 [] [])) [(gI 0), t44, t46]),
 kS d48 (oPick t41 (gC (.bool true)) t47),
 kS d33 (oMv t48)])
 (kCond t33 (kSeq (kRegion [kS d10 (oMv (gC .nilslice)),
 kS d11 (oMv (gI 4))])
 kRet)
 kSkip)))))
 (kSeq (kRegion [kS d49 (oMv t12),
 kS d50 (oLd true 6 t13),
 kS d51 (oMv t2),
 kS d52 (oCall (gC (.func 49 [] [])) [t49, t50, t51]),
 kS d15 (oMv t52)])
 (kSeq (kSeq (kDraw [⟨kS d53 (oMv t15), ⟨(some 53), (.mv (.t 15)), none⟩, false, [], []⟩,
 ⟨kS d54 (oMv t3), ⟨(some 54), (.mv (.t 3)), none⟩, false, [], []⟩,
 ⟨kS d55 (oIa 2 t53 t54), ⟨(some 55), (.ia 2 (.t 53) (.t 54)), none⟩, false, [], []⟩,
 ⟨kS d56 (oFa t55 0), ⟨(some 56), (.fa (.t 55) 0), none⟩, false, [], []⟩,
 ⟨kS d57 (oLd false 1 t56), ⟨(some 57), (.ld false 1 (.t 56)), none⟩, false, [⟨(some 57), (.ld false 1 (.t 56)), none⟩], []⟩,
 ⟨kS d58 (oMv t15), ⟨(some 58), (.mv (.t 15)), none⟩, false, [], []⟩,
 ⟨kS d59 (oMv t3), ⟨(some 59), (.mv (.t 3)), none⟩, false, [], []⟩,
 ⟨kS d60 (oIa 2 t58 t59), ⟨(some 60), (.ia 2 (.t 58) (.t 59)), none⟩, false, [], []⟩,
 ⟨kS d61 (oFa t60 1), ⟨(some 61), (.fa (.t 60) 1), none⟩, false, [], []⟩,
 ⟨kS d62 (oLd false 1 t61), ⟨(some 62), (.ld false 1 (.t 61)), none⟩, false, [⟨(some 62), (.ld false 1 (.t 61)), none⟩], []⟩,
 ⟨kS d63 (oMv t4), ⟨(some 63), (.mv (.t 4)), none⟩, false, [], []⟩,
 ⟨kS d64 (oBldS 1 1 [(.int .i64 0)] [(0, 1, t63)]), ⟨(some 64), (.bldS 1 1 [(.int .i64 0)] [(0, 1, (.t 63))]), none⟩, false, [], []⟩,
 ⟨kS d65 (oCall (gC (.func 40 [] [])) [t57, t62, t64]), ⟨(some 65), (.call (.c (.func 40 [] [])) [(.t 57), (.t 62), (.t 64)]), none⟩, true, [], []⟩])
 (kCond t65 (kSeq (kRegion [kS d10 (oMv (gC .nilslice)),
 kS d11 (oMv (gI 8))])
 kRet)
 kSkip))
 (kSeq (kRegion [kS d66 (oMv t15),
 kS d67 (oMv t3),
 kS d68 (oMv t4),
 kS d69 (oMv t4),
 kS d70 (oBld [(.int .i64 0), (.int .i64 0)] [(0, 1, t68), (1, 1, t69)]),
 kS d71 (oIa 2 t66 t67),
 kN (oSt 2 t71 t70)])
 (kSeq (kDraw [⟨kS d72 (oMv t12), ⟨(some 72), (.mv (.t 12)), none⟩, false, [], []⟩,
 ⟨kS d73 (oLd true 6 t13), ⟨(some 73), (.ld true 6 (.t 13)), none⟩, false, [⟨(some 73), (.ld true 6 (.t 13)), none⟩], []⟩,
 ⟨kS d74 (oMv t2), ⟨(some 74), (.mv (.t 2)), none⟩, false, [], []⟩,
 ⟨kS d75 (oCall (gC (.func 45 [] [])) [t72, t73, t74]), ⟨(some 75), (.call (.c (.func 45 [] [])) [(.t 72), (.t 73), (.t 74)]), none⟩, true, [], []⟩,
 ⟨kS d76 (oMv t12), ⟨(some 76), (.mv (.t 12)), none⟩, false, [], []⟩,
 ⟨kS d77 (oNilck t76), ⟨(some 77), (.nilck (.t 76)), none⟩, false, [], []⟩,
 ⟨kS d78 (oFa t77 0), ⟨(some 78), (.fa (.t 77) 0), none⟩, false, [], []⟩,
 ⟨kS d79 (oFa t78 0), ⟨(some 79), (.fa (.t 78) 0), none⟩, false, [], []⟩,
 ⟨kS d80 (oLd false 1 t79), ⟨(some 80), (.ld false 1 (.t 79)), none⟩, false, [⟨(some 80), (.ld false 1 (.t 79)), none⟩], [3]⟩,
 ⟨kS d81 (oMv t2), ⟨(some 81), (.mv (.t 2)), none⟩, false, [], []⟩,
 ⟨kS d82 (oIa 4 t80 t81), ⟨(some 82), (.ia 4 (.t 80) (.t 81)), none⟩, false, [], []⟩,
 ⟨kS d83 (oFa t82 3), ⟨(some 83), (.fa (.t 82) 3), none⟩, false, [], []⟩,
 ⟨kS d84 (oLd false 1 t83), ⟨(some 84), (.ld false 1 (.t 83)), none⟩, false, [⟨(some 84), (.ld false 1 (.t 83)), none⟩], [3]⟩,
 ⟨kS d16 (oMv t75), ⟨(some 16), (.mv (.t 75)), none⟩, false, [], []⟩,
 ⟨kS d17 (oMv t84), ⟨(some 17), (.mv (.t 84)), none⟩, false, [], []⟩])
 (kSeq (kSeq (kRegion [kS d85 (oMv t3),
 kS d86 (oBin .add t85 (gI 1)),
 kS d18 (oMv t86)])
 (kBlock 1 (kLoop (kSeq (kSeq (kRegion [kS d87 (oMv t18),
 kS d88 (oFa t5 1),
 kS d89 (oLd false 1 t88),
 kS d90 (oBin .lss t87 t89)])
 (kCond t90 kSkip
 (kExit 1)))
 (kSeq (kBlock 2 (kSeq (kDraw [⟨kS d93 (oMv t16), ⟨(some 93), (.mv (.t 16)), none⟩, false, [], []⟩,
 ⟨kS d94 (oMv t18), ⟨(some 94), (.mv (.t 18)), none⟩, false, [], []⟩,
 ⟨kS d95 (oBin .sub t94 (gI 1)), ⟨(some 95), (.bin .sub (.t 94) (.c (.int .i64 1))), none⟩, false, [], []⟩,
 ⟨kS d96 (oIa 1 t93 t95), ⟨(some 96), (.ia 1 (.t 93) (.t 95)), none⟩, false, [], []⟩,
 ⟨kS d97 (oLd false 1 t96), ⟨(some 97), (.ld false 1 (.t 96)), none⟩, false, [⟨(some 97), (.ld false 1 (.t 96)), none⟩], []⟩,
 ⟨kS d98 (oFa t5 2), ⟨(some 98), (.fa (.t 5) 2), none⟩, false, [], []⟩,
 ⟨kS d99 (oLd false 1 t98), ⟨(some 99), (.ld false 1 (.t 98)), none⟩, false, [⟨(some 99), (.ld false 1 (.t 98)), none⟩], []⟩,
 ⟨kS d100 (oBin .mul t97 t99), ⟨(some 100), (.bin .mul (.t 97) (.t 99)), none⟩, false, [], []⟩,
 ⟨kS d19 (oMv t100), ⟨(some 19), (.mv (.t 100)), none⟩, false, [], []⟩])
 (kDraw [⟨kS d101 (oMv t15), ⟨(some 101), (.mv (.t 15)), none⟩, false, [], []⟩,
 ⟨kS d102 (oMv t18), ⟨(some 102), (.mv (.t 18)), none⟩, false, [], []⟩,
 ⟨kS d103 (oMv t15), ⟨(some 103), (.mv (.t 15)), none⟩, false, [], []⟩,
 ⟨kS d104 (oMv t18), ⟨(some 104), (.mv (.t 18)), none⟩, false, [], []⟩,
 ⟨kS d105 (oBin .sub t104 (gI 1)), ⟨(some 105), (.bin .sub (.t 104) (.c (.int .i64 1))), none⟩, false, [], []⟩,
 ⟨kS d106 (oIa 2 t103 t105), ⟨(some 106), (.ia 2 (.t 103) (.t 105)), none⟩, false, [], []⟩,
 ⟨kS d107 (oFa t106 0), ⟨(some 107), (.fa (.t 106) 0), none⟩, false, [], []⟩,
 ⟨kS d108 (oLd false 1 t107), ⟨(some 108), (.ld false 1 (.t 107)), none⟩, false, [⟨(some 108), (.ld false 1 (.t 107)), none⟩], []⟩,
 ⟨kS d109 (oMv t19), ⟨(some 109), (.mv (.t 19)), none⟩, false, [], []⟩,
 ⟨kS d110 (oBin .add t108 t109), ⟨(some 110), (.bin .add (.t 108) (.t 109)), none⟩, false, [], []⟩,
 ⟨kS d111 (oMv t17), ⟨(some 111), (.mv (.t 17)), none⟩, false, [], []⟩,
 ⟨kS d112 (oMv t18), ⟨(some 112), (.mv (.t 18)), none⟩, false, [], []⟩,
 ⟨kS d113 (oIa 2 t111 t112), ⟨(some 113), (.ia 2 (.t 111) (.t 112)), none⟩, false, [], []⟩,
 ⟨kS d114 (oFa t113 0), ⟨(some 114), (.fa (.t 113) 0), none⟩, false, [], []⟩,
 ⟨kS d115 (oLd false 1 t114), ⟨(some 115), (.ld false 1 (.t 114)), none⟩, false, [⟨(some 115), (.ld false 1 (.t 114)), none⟩], []⟩,
 ⟨kS d116 (oBin .add t110 t115), ⟨(some 116), (.bin .add (.t 110) (.t 115)), none⟩, false, [], []⟩,
 ⟨kS d117 (oMv t15), ⟨(some 117), (.mv (.t 15)), none⟩, false, [], []⟩,
 ⟨kS d118 (oMv t18), ⟨(some 118), (.mv (.t 18)), none⟩, false, [], []⟩,
 ⟨kS d119 (oBin .sub t118 (gI 1)), ⟨(some 119), (.bin .sub (.t 118) (.c (.int .i64 1))), none⟩, false, [], []⟩,
 ⟨kS d120 (oIa 2 t117 t119), ⟨(some 120), (.ia 2 (.t 117) (.t 119)), none⟩, false, [], []⟩,
 ⟨kS d121 (oFa t120 1), ⟨(some 121), (.fa (.t 120) 1), none⟩, false, [], []⟩,
 ⟨kS d122 (oLd false 1 t121), ⟨(some 122), (.ld false 1 (.t 121)), none⟩, false, [⟨(some 122), (.ld false 1 (.t 121)), none⟩], []⟩,
 ⟨kS d123 (oMv t19), ⟨(some 123), (.mv (.t 19)), none⟩, false, [], []⟩,
 ⟨kS d124 (oBin .add t122 t123), ⟨(some 124), (.bin .add (.t 122) (.t 123)), none⟩, false, [], []⟩,
 ⟨kS d125 (oMv t17), ⟨(some 125), (.mv (.t 17)), none⟩, false, [], []⟩,
 ⟨kS d126 (oMv t18), ⟨(some 126), (.mv (.t 18)), none⟩, false, [], []⟩,
 ⟨kS d127 (oIa 2 t125 t126), ⟨(some 127), (.ia 2 (.t 125) (.t 126)), none⟩, false, [], []⟩,
 ⟨kS d128 (oFa t127 1), ⟨(some 128), (.fa (.t 127) 1), none⟩, false, [], []⟩,
 ⟨kS d129 (oLd false 1 t128), ⟨(some 129), (.ld false 1 (.t 128)), none⟩, false, [⟨(some 129), (.ld false 1 (.t 128)), none⟩], []⟩,
 ⟨kS d130 (oBin .add t124 t129), ⟨(some 130), (.bin .add (.t 124) (.t 129)), none⟩, false, [], []⟩,
 ⟨kS d131 (oBld [(.int .i64 0), (.int .i64 0)] [(0, 1, t116), (1, 1, t130)]), ⟨(some 131), (.bld [(.int .i64 0), (.int .i64 0)] [(0, 1, (.t 116)), (1, 1, (.t 130))]), none⟩, false, [], []⟩,
 ⟨kS d132 (oIa 2 t101 t102), ⟨(some 132), (.ia 2 (.t 101) (.t 102)), none⟩, false, [], []⟩,
 ⟨kN (oSt 2 t132 t131), ⟨none, (.st 2 (.t 132) (.t 131)), none⟩, true, [], []⟩])))
 (kRegion [kS d91 (oMv t18),
 kS d92 (oBin .add t91 (gI 1)),
 kS d18 (oMv t92)]))))))
 (kSeq (kSeq (kRegion [kS d133 (oMv t3),
 kS d134 (oBin .sub t133 (gI 1)),
 kS d20 (oMv t134)])
 (kBlock 3 (kLoop (kSeq (kSeq (kRegion [kS d135 (oMv t20),
 kS d136 (oBin .geq t135 (gI 0))])
 (kCond t136 kSkip
 (kExit 3)))
 (kSeq (kBlock 4 (kSeq (kDraw [⟨kS d139 (oMv t16), ⟨(some 139), (.mv (.t 16)), none⟩, false, [], []⟩,
 ⟨kS d140 (oMv t20), ⟨(some 140), (.mv (.t 20)), none⟩, false, [], []⟩,
 ⟨kS d141 (oIa 1 t139 t140), ⟨(some 141), (.ia 1 (.t 139) (.t 140)), none⟩, false, [], []⟩,
 ⟨kS d142 (oLd false 1 t141), ⟨(some 142), (.ld false 1 (.t 141)), none⟩, false, [⟨(some 142), (.ld false 1 (.t 141)), none⟩], []⟩,
 ⟨kS d143 (oFa t5 2), ⟨(some 143), (.fa (.t 5) 2), none⟩, false, [], []⟩,
 ⟨kS d144 (oLd false 1 t143), ⟨(some 144), (.ld false 1 (.t 143)), none⟩, false, [⟨(some 144), (.ld false 1 (.t 143)), none⟩], []⟩,
 ⟨kS d145 (oBin .mul t142 t144), ⟨(some 145), (.bin .mul (.t 142) (.t 144)), none⟩, false, [], []⟩,
 ⟨kS d21 (oMv t145), ⟨(some 21), (.mv (.t 145)), none⟩, false, [], []⟩])
 (kDraw [⟨kS d146 (oMv t15), ⟨(some 146), (.mv (.t 15)), none⟩, false, [], []⟩,
 ⟨kS d147 (oMv t20), ⟨(some 147), (.mv (.t 20)), none⟩, false, [], []⟩,
 ⟨kS d148 (oMv t15), ⟨(some 148), (.mv (.t 15)), none⟩, false, [], []⟩,
 ⟨kS d149 (oMv t20), ⟨(some 149), (.mv (.t 20)), none⟩, false, [], []⟩,
 ⟨kS d150 (oIa 2 t148 t149), ⟨(some 150), (.ia 2 (.t 148) (.t 149)), none⟩, false, [], []⟩,
 ⟨kS d151 (oFa t150 0), ⟨(some 151), (.fa (.t 150) 0), none⟩, false, [], []⟩,
 ⟨kS d152 (oLd false 1 t151), ⟨(some 152), (.ld false 1 (.t 151)), none⟩, false, [⟨(some 152), (.ld false 1 (.t 151)), none⟩], []⟩,
 ⟨kS d153 (oMv t15), ⟨(some 153), (.mv (.t 15)), none⟩, false, [], []⟩,
 ⟨kS d154 (oMv t20), ⟨(some 154), (.mv (.t 20)), none⟩, false, [], []⟩,
 ⟨kS d155 (oBin .add t154 (gI 1)), ⟨(some 155), (.bin .add (.t 154) (.c (.int .i64 1))), none⟩, false, [], []⟩,
 ⟨kS d156 (oIa 2 t153 t155), ⟨(some 156), (.ia 2 (.t 153) (.t 155)), none⟩, false, [], []⟩,
 ⟨kS d157 (oFa t156 0), ⟨(some 157), (.fa (.t 156) 0), none⟩, false, [], []⟩,
 ⟨kS d158 (oLd false 1 t157), ⟨(some 158), (.ld false 1 (.t 157)), none⟩, false, [⟨(some 158), (.ld false 1 (.t 157)), none⟩], []⟩,
 ⟨kS d159 (oMv t21), ⟨(some 159), (.mv (.t 21)), none⟩, false, [], []⟩,
 ⟨kS d160 (oBin .sub t158 t159), ⟨(some 160), (.bin .sub (.t 158) (.t 159)), none⟩, false, [], []⟩,
 ⟨kS d161 (oMv t17), ⟨(some 161), (.mv (.t 17)), none⟩, false, [], []⟩,
 ⟨kS d162 (oMv t20), ⟨(some 162), (.mv (.t 20)), none⟩, false, [], []⟩,
 ⟨kS d163 (oBin .add t162 (gI 1)), ⟨(some 163), (.bin .add (.t 162) (.c (.int .i64 1))), none⟩, false, [], []⟩,
 ⟨kS d164 (oIa 2 t161 t163), ⟨(some 164), (.ia 2 (.t 161) (.t 163)), none⟩, false, [], []⟩,
 ⟨kS d165 (oFa t164 1), ⟨(some 165), (.fa (.t 164) 1), none⟩, false, [], []⟩,
 ⟨kS d166 (oLd false 1 t165), ⟨(some 166), (.ld false 1 (.t 165)), none⟩, false, [⟨(some 166), (.ld false 1 (.t 165)), none⟩], []⟩,
 ⟨kS d167 (oBin .sub t160 t166), ⟨(some 167), (.bin .sub (.t 160) (.t 166)), none⟩, false, [], []⟩,
 ⟨kS d168 (oGen (.mx (.t 152) [(.t 167)])), ⟨(some 168), (.mx (.t 152) [(.t 167)]), none⟩, false, [], []⟩,
 ⟨kS d169 (oMv t15), ⟨(some 169), (.mv (.t 15)), none⟩, false, [], []⟩,
 ⟨kS d170 (oMv t20), ⟨(some 170), (.mv (.t 20)), none⟩, false, [], []⟩,
 ⟨kS d171 (oIa 2 t169 t170), ⟨(some 171), (.ia 2 (.t 169) (.t 170)), none⟩, false, [], []⟩,
 ⟨kS d172 (oFa t171 1), ⟨(some 172), (.fa (.t 171) 1), none⟩, false, [], []⟩,
 ⟨kS d173 (oLd false 1 t172), ⟨(some 173), (.ld false 1 (.t 172)), none⟩, false, [⟨(some 173), (.ld false 1 (.t 172)), none⟩], []⟩,
 ⟨kS d174 (oMv t15), ⟨(some 174), (.mv (.t 15)), none⟩, false, [], []⟩,
 ⟨kS d175 (oMv t20), ⟨(some 175), (.mv (.t 20)), none⟩, false, [], []⟩,
 ⟨kS d176 (oBin .add t175 (gI 1)), ⟨(some 176), (.bin .add (.t 175) (.c (.int .i64 1))), none⟩, false, [], []⟩,
 ⟨kS d177 (oIa 2 t174 t176), ⟨(some 177), (.ia 2 (.t 174) (.t 176)), none⟩, false, [], []⟩,
 ⟨kS d178 (oFa t177 1), ⟨(some 178), (.fa (.t 177) 1), none⟩, false, [], []⟩,
 ⟨kS d179 (oLd false 1 t178), ⟨(some 179), (.ld false 1 (.t 178)), none⟩, false, [⟨(some 179), (.ld false 1 (.t 178)), none⟩], []⟩,
 ⟨kS d180 (oMv t21), ⟨(some 180), (.mv (.t 21)), none⟩, false, [], []⟩,
 ⟨kS d181 (oBin .sub t179 t180), ⟨(some 181), (.bin .sub (.t 179) (.t 180)), none⟩, false, [], []⟩,
 ⟨kS d182 (oMv t17), ⟨(some 182), (.mv (.t 17)), none⟩, false, [], []⟩,
 ⟨kS d183 (oMv t20), ⟨(some 183), (.mv (.t 20)), none⟩, false, [], []⟩,
 ⟨kS d184 (oBin .add t183 (gI 1)), ⟨(some 184), (.bin .add (.t 183) (.c (.int .i64 1))), none⟩, false, [], []⟩,
 ⟨kS d185 (oIa 2 t182 t184), ⟨(some 185), (.ia 2 (.t 182) (.t 184)), none⟩, false, [], []⟩,
 ⟨kS d186 (oFa t185 0), ⟨(some 186), (.fa (.t 185) 0), none⟩, false, [], []⟩,
 ⟨kS d187 (oLd false 1 t186), ⟨(some 187), (.ld false 1 (.t 186)), none⟩, false, [⟨(some 187), (.ld false 1 (.t 186)), none⟩], []⟩,
 ⟨kS d188 (oBin .sub t181 t187), ⟨(some 188), (.bin .sub (.t 181) (.t 187)), none⟩, false, [], []⟩,
 ⟨kS d189 (oGen (.mn (.t 173) [(.t 188)])), ⟨(some 189), (.mn (.t 173) [(.t 188)]), none⟩, false, [], []⟩,
 ⟨kS d190 (oBld [(.int .i64 0), (.int .i64 0)] [(0, 1, t168), (1, 1, t189)]), ⟨(some 190), (.bld [(.int .i64 0), (.int .i64 0)] [(0, 1, (.t 168)), (1, 1, (.t 189))]), none⟩, false, [], []⟩,
 ⟨kS d191 (oIa 2 t146 t147), ⟨(some 191), (.ia 2 (.t 146) (.t 147)), none⟩, false, [], []⟩,
 ⟨kN (oSt 2 t191 t190), ⟨none, (.st 2 (.t 191) (.t 190)), none⟩, true, [], []⟩])))
 (kRegion [kS d137 (oMv t20),
 kS d138 (oBin .sub t137 (gI 1)),
 kS d20 (oMv t138)]))))))
 (kSeq (kRegion [kS d192 (oMv t15),
 kS d10 (oMv t192),
 kS d11 (oMv (gI 0))])
 kRet))))))))))
theorem e24 : b24 = comp ir24.code := by kernel_rfl
def k24 : KF := ⟨193, b24, [.tmp 10, .tmp 11]⟩
def b27 : KC := (kSeq (kRegion [kS d1 (oBox t0),
 kS d2 (oMv (gC .nilslice)),
 kS d3 (oMv (gI 0)),
 kS d4 (oMv (gI 0)),
 kS d5 (oMv (gI 0))])
 (kSeq (kRegion [kS d13 (oLd true 5 t1),
 kS d14 (oCall (gC (.func 55 [] [])) [t13]),
 kS d12 (oMv t14),
 kS d15 (oExt t12 0),
 kS d16 (oExt t12 1),
 kS d6 (oAlloc .nilptr),
 kN (oSt 1 t6 t15),
 kS d5 (oMv t16)])
 (kSeq (kSeq (kRegion [kS d17 (oMv t5),
 kS d18 (oBin .neq t17 (gI 0))])
 (kCond t18 (kSeq (kRegion [kS d19 (oMv t5),
 kS d2 (oMv (gC .nilslice)),
 kS d3 (oMv (gI 0)),
 kS d4 (oMv (gI 0)),
 kS d5 (oMv t19)])
 kRet)
 kSkip))
 (kSeq (kRegion [kS d7 (oAlloc (.agg [(.int .i64 0), (.int .i64 0), (.int .i64 0), (.int .i64 0), (.int .i64 0), (.int .i64 0)]))])
 (kSeq (kRegion [kS d20 (oBld [(.int .i64 0), (.int .i64 0), (.int .i64 0)] [(0, 1, (gI (-1)))]),
 kS d8 (oAlloc (.agg [(.int .i64 0), (.int .i64 0), (.int .i64 0)])),
 kN (oSt 3 t8 t20)])
 (kSeq (kSeq (kRegion [kS d21 (oLd false 1 t6),
 kS d22 (oCall (gC (.func 56 [] [])) [t21])])
 (kBlock 0 (kRange t22 [23]
 (ICode.region [⟨(some 9), (.alloc (.agg [(.int .i64 0), (.int .i64 0), (.int .i64 0), (.int .i64 0), (.int .i64 0), (.int .i64 0)])), none⟩,
 ⟨none, (.st 6 (.t 9) (.t 23)), none⟩])
 (ICode.block 1
 (ICode.seq (ICode.region [⟨(some 24), (.ld false 1 (.t 6)), none⟩,
 ⟨(some 25), (.ld true 6 (.t 9)), none⟩,
 ⟨(some 26), (.call (.c (.func 57 [] [])) [(.t 24), (.t 25)]), none⟩,
 ⟨(some 10), (.alloc (.agg [(.int .i64 0), (.int .i64 0), (.int .i64 0)])), none⟩,
 ⟨none, (.st 3 (.t 10) (.t 26)), none⟩])
 (ICode.seq (ICode.region [⟨(some 27), (.fa (.t 8) 0), none⟩,
 ⟨(some 28), (.ld false 1 (.t 27)), none⟩,
 ⟨(some 29), (.fa (.t 10) 0), none⟩,
 ⟨(some 30), (.ld false 1 (.t 29)), none⟩,
 ⟨(some 31), (.bin .sub (.t 28) (.t 30)), none⟩,
 ⟨(some 32), (.fa (.t 10) 1), none⟩,
 ⟨(some 33), (.ld false 1 (.t 32)), none⟩,
 ⟨(some 34), (.fa (.t 8) 1), none⟩,
 ⟨(some 35), (.ld false 1 (.t 34)), none⟩,
 ⟨(some 36), (.bin .sub (.t 33) (.t 35)), none⟩,
 ⟨(some 37), (.bldS 1 2 [(.int .i64 0)] [(0, 1, (.t 31)), (1, 1, (.t 36))]), none⟩,
 ⟨(some 38), (.call (.c (.func 58 [] [])) [(.t 37)]), none⟩,
 ⟨(some 39), (.bin .lss (.t 38) (.c (.int .i64 0))), none⟩])
 (ICode.cond (.t 39)
 (ICode.draw [⟨⟨(some 40), (.ld true 6 (.t 9)), none⟩, false, [⟨(some 40), (.ld true 6 (.t 9)), none⟩], []⟩,
 ⟨⟨(some 41), (.ld true 3 (.t 10)), none⟩, false, [⟨(some 41), (.ld true 3 (.t 10)), none⟩], []⟩,
 ⟨⟨none, (.st 6 (.t 7) (.t 40)), none⟩, true, [⟨(some 41), (.ld true 3 (.t 10)), none⟩], []⟩,
 ⟨⟨none, (.st 3 (.t 8) (.t 41)), none⟩, true, [], []⟩])
 ICode.skip)))))))
 (kSeq (kRegion [kS d42 (oFa t1 3),
 kS d43 (oLd false 1 t42),
 kS d44 (oLen false t43),
 kS d45 (oGen (.mksl 1 8 [(.int .i64 0)] (.t 44) (.t 44))),
 kS d2 (oMv t45)])
 (kSeq (kRegion [kS d46 (oMv t2),
 kS d47 (oGen (.slca 6 1 (.t 7) none none none)),
 kS d48 (oGen (.cpy 1 (.t 46) (.t 47)))])
 (kSeq (kSeq (kRegion [kS d49 (oMv t2),
 kS d50 (oLen false t49),
 kS d51 (oMv (gI 0))])
 (kBlock 2 (kLoop (kSeq (kRegion [kS d52 (oBin .lss t51 t50)])
 (kSeq (kCond t52 kSkip
 (kExit 2))
 (kSeq (kBlock 3 (kSeq (kRegion [kS d53 (oMv t51),
 kS d11 (oMv t53)])
 (kRegion [kS d54 (oMv t2),
 kS d55 (oMv t11),
 kS d56 (oIa 1 t54 t55),
 kS d57 (oLd false 1 t56),
 kS d58 (oBin .sub t57 (gI 1)),
 kS d59 (oIa 1 t54 t55),
 kN (oSt 1 t59 t58)])))
 (kRegion [kS d60 (oBin .add t51 (gI 1)),
 kS d51 (oMv t60)])))))))
 (kSeq (kDraw [⟨kS d61 (oMv t2), ⟨(some 61), (.mv (.t 2)), none⟩, false, [], []⟩,
 ⟨kS d62 (oFa t8 0), ⟨(some 62), (.fa (.t 8) 0), none⟩, false, [], []⟩,
 ⟨kS d63 (oLd false 1 t62), ⟨(some 63), (.ld false 1 (.t 62)), none⟩, false, [⟨(some 63), (.ld false 1 (.t 62)), none⟩], []⟩,
 ⟨kS d64 (oFa t8 1), ⟨(some 64), (.fa (.t 8) 1), none⟩, false, [], []⟩,
 ⟨kS d65 (oLd false 1 t64), ⟨(some 65), (.ld false 1 (.t 64)), none⟩, false, [⟨(some 65), (.ld false 1 (.t 64)), none⟩], []⟩,
 ⟨kS d2 (oMv t61), ⟨(some 2), (.mv (.t 61)), none⟩, false, [], []⟩,
 ⟨kS d3 (oMv t63), ⟨(some 3), (.mv (.t 63)), none⟩, false, [], []⟩,
 ⟨kS d4 (oMv t65), ⟨(some 4), (.mv (.t 65)), none⟩, false, [], []⟩,
 ⟨kS d5 (oMv (gI 0)), ⟨(some 5), (.mv (.c (.int .i64 0))), none⟩, false, [], []⟩])
 kRet))))))))))
theorem e27 : b27 = comp ir27.code := by kernel_rfl
def k27 : KF := ⟨66, b27, [.tmp 2, .tmp 3, .tmp 4, .tmp 5]⟩
def b30 : KC := (kSeq (kRegion [kS d1 (oBox t0),
 kS d2 (oMv (gC .nilslice)),
 kS d3 (oMv (gI 0))])
 (kSeq (kRegion [kS d9 (oLd true 5 t1),
 kS d10 (oCall (gC (.func 55 [] [])) [t9]),
 kS d8 (oMv t10),
 kS d11 (oExt t8 0),
 kS d12 (oExt t8 1),
 kS d4 (oMv t11),
 kS d3 (oMv t12)])
 (kSeq (kSeq (kRegion [kS d13 (oMv t3),
 kS d14 (oBin .neq t13 (gI 0))])
 (kCond t14 (kSeq (kRegion [kS d15 (oMv t3),
 kS d2 (oMv (gC .nilslice)),
 kS d3 (oMv t15)])
 kRet)
 kSkip))
 (kSeq kSkip
 (kSeq (kSeq (kRegion [kS d16 (oFa t1 3),
 kS d17 (oLd false 1 t16),
 kS d18 (oLen false t17),
 kS d19 (oMv (gI 0))])
 (kBlock 0 (kLoop (kSeq (kRegion [kS d20 (oBin .lss t19 t18)])
 (kSeq (kCond t20 kSkip
 (kExit 0))
 (kSeq (kBlock 1 (kSeq (kRegion [kS d21 (oMv t19),
 kS d5 (oMv t21)])
 (kSeq (kSeq (kRegion [kS d22 (oFa t1 0),
 kS d23 (oLd false 1 t22),
 kS d24 (oLen false t23),
 kS d25 (oMv (gI 0))])
 (kBlock 2 (kLoop (kSeq (kRegion [kS d26 (oBin .lss t25 t24)])
 (kSeq (kCond t26 kSkip
 (kExit 2))
 (kSeq (kBlock 3 (kSeq (kRegion [kS d27 (oMv t25),
 kS d6 (oMv t27)])
 (kSeq (kRegion [kS d7 (oAlloc (.agg [(.int .i64 0), (.int .i64 0), (.int .i64 0), (.int .i64 0), (.int .i64 0), (.int .i64 0)]))])
 (kSeq (kRegion [kS d28 (oMv t5),
 kS d29 (oMv t6),
 kS d30 (oBin .add t29 (gI 1)),
 kS d31 (oIaa 6 1 t7 t28),
 kN (oSt 1 t31 t30)])
 (kSeq (kRegion [kS d32 (oMv t4),
 kS d33 (oLd true 6 t7),
 kS d34 (oMv t5),
 kS d35 (oCall (gC (.func 59 [] [])) [t32, t33, t34]),
 kS d36 (oMv t35),
 kG t36 true d37 (oLd true 6 t7),
 kG t36 true d38 (oBld [(.int .i64 0), (.int .i64 0), (.int .i64 0), (.int .i64 0), (.int .i64 0), (.int .i64 0)] []),
 kG t36 true d39 (oEqv (.ag [.i, .i, .i, .i, .i, .i]) true t37 t38),
 kS d40 (oPick t36 t39 (gC (.bool false))),
 kS d41 (oMv t40),
 kG t41 true d42 (oMv t4),
 kG t41 true d43 (oLd true 6 t7),
 kG t41 true d44 (oMv t5),
 kG t41 true d45 (oCall (gC (.func 54 [] [])) [t42, t43, t44]),
 kG t41 true d46 (oBin .eql t45 (gI 1)),
 kS d47 (oPick t41 t46 (gC (.bool false)))])
 (kCond t47 (kExit 1)
 kSkip))))))
 (kRegion [kS d48 (oBin .add t25 (gI 1)),
 kS d25 (oMv t48)])))))))
 (kRegion [kS d49 (oMv t2),
 kS d50 (oMv t5),
 kS d51 (oBldS 1 1 [(.int .i64 0)] [(0, 1, t50)]),
 kS d52 (oGen (.app 1 8 (.t 49) (.t 51))),
 kS d2 (oMv t52)]))))
 (kRegion [kS d53 (oBin .add t19 (gI 1)),
 kS d19 (oMv t53)])))))))
 (kSeq (kRegion [kS d54 (oMv t2),
 kS d2 (oMv t54),
 kS d3 (oMv (gI 0))])
 kRet))))))
theorem e30 : b30 = comp ir30.code := by kernel_rfl
def k30 : KF := ⟨55, b30, [.tmp 2, .tmp 3]⟩
def b33 : KC := (kSeq (kRegion [kS d1 (oBox t0),
 kS d2 (oMv (gC .nilslice)),
 kS d3 (oMv (gI 0))])
 (kSeq (kRegion [kS d10 (oLd true 5 t1),
 kS d11 (oCall (gC (.func 55 [] [])) [t10]),
 kS d9 (oMv t11),
 kS d12 (oExt t9 0),
 kS d13 (oExt t9 1),
 kS d4 (oMv t12),
 kS d3 (oMv t13)])
 (kSeq (kSeq (kRegion [kS d14 (oMv t3),
 kS d15 (oBin .neq t14 (gI 0))])
 (kCond t15 (kSeq (kRegion [kS d16 (oMv t3),
 kS d2 (oMv (gC .nilslice)),
 kS d3 (oMv t16)])
 kRet)
 kSkip))
 (kSeq (kRegion [kS d5 (oMv (gC (.bool false)))])
 (kSeq (kSeq (kRegion [kS d17 (oFa t1 4),
 kS d18 (oLd false 1 t17),
 kS d19 (oLen false t18),
 kS d20 (oBin .shl (gI 1) t19),
 kS d21 (oMv (gI 0))])
 (kBlock 0 (kLoop (kSeq (kRegion [kS d22 (oBin .lss t21 t20)])
 (kSeq (kCond t22 kSkip
 (kExit 0))
 (kSeq (kBlock 1 (kSeq (kRegion [kS d23 (oMv t21),
 kS d6 (oMv t23)])
 (kSeq (kRegion [kS d7 (oMv (gC .nilslice))])
 (kSeq (kSeq (kRegion [kS d24 (oFa t1 4),
 kS d25 (oLd false 1 t24),
 kS d26 (oLen false t25),
 kS d27 (oMv (gI 0))])
 (kBlock 2 (kLoop (kSeq (kRegion [kS d28 (oBin .lss t27 t26)])
 (kSeq (kCond t28 kSkip
 (kExit 2))
 (kSeq (kBlock 3 (kSeq (kRegion [kS d29 (oMv t27),
 kS d8 (oMv t29)])
 (kSeq (kRegion [kS d30 (oMv t6),
 kS d31 (oMv t8),
 kS d32 (oBin .shr t30 t31),
 kS d33 (oBin .and t32 (gI 1)),
 kS d34 (oBin .eql t33 (gI 1))])
 (kCond t34 (kRegion [kS d35 (oMv t7),
 kS d36 (oMv t8),
 kS d37 (oBldS 1 1 [(.int .i64 0)] [(0, 1, t36)]),
 kS d38 (oGen (.app 1 8 (.t 35) (.t 37))),
 kS d7 (oMv t38)])
 kSkip))))
 (kRegion [kS d39 (oBin .add t27 (gI 1)),
 kS d27 (oMv t39)])))))))
 (kSeq (kSeq (kRegion [kS d40 (oMv t5),
 kS d41 (oMv t40),
 kG t41 true d42 (oMv t6),
 kG t41 true d43 (oGen (.conv .u64 (.t 42))),
 kG t41 true d44 (oCall (gC (.func 60 [] [])) [t43]),
 kG t41 true d45 (oMv t2),
 kG t41 true d46 (oLen false t45),
 kG t41 true d47 (oBin .gtr t44 t46),
 kG t41 true d48 (oMv t47),
 kG t48 false d49 (oMv t7),
 kG t48 false d50 (oLen false t49),
 kG t48 false d51 (oMv t2),
 kG t48 false d52 (oLen false t51),
 kG t48 false d53 (oBin .eql t50 t52),
 kG t48 false d54 (oMv t53),
 kG t54 true d55 (oMv t7),
 kG t54 true d56 (oMv t2),
 kG t54 true d57 (oCall (gC (.func 61 [] [])) [t55, t56]),
 kG t54 true d58 (oBin .gtr t57 (gI 0)),
 kG t48 false d59 (oPick t54 t58 (gC (.bool false))),
 kG t41 true d60 (oPick t48 (gC (.bool true)) t59),
 kS d61 (oPick t41 t60 (gC (.bool false)))])
 (kCond t61 (kExit 1)
 kSkip))
 (kSeq (kRegion [kS d62 (oMv t4),
 kS d63 (oMv t6),
 kS d64 (oCall (gC (.func 62 [] [])) [t62, t63])])
 (kCond t64 (kRegion [kS d65 (oMv t7),
 kS d2 (oMv t65),
 kS d5 (oMv (gC (.bool true)))])
 kSkip)))))))
 (kRegion [kS d66 (oBin .add t21 (gI 1)),
 kS d21 (oMv t66)])))))))
 (kSeq (kSeq (kRegion [kS d67 (oMv t5),
 kS d68 (oNot t67)])
 (kCond t68 (kSeq (kRegion [kS d2 (oMv (gC .nilslice)),
 kS d3 (oMv (gI 9))])
 kRet)
 kSkip))
 (kSeq (kRegion [kS d69 (oMv t2),
 kS d2 (oMv t69),
 kS d3 (oMv (gI 0))])
 kRet)))))))
theorem e33 : b33 = comp ir33.code := by kernel_rfl
def k33 : KF := ⟨70, b33, [.tmp 2, .tmp 3]⟩
def b36 : KC := (kSeq (kRegion [kS d1 (oBox t0),
 kS d2 (oMv (gI 0)),
 kS d3 (oMv (gI 0))])
 (kSeq (kRegion [kS d9 (oLd true 5 t1),
 kS d10 (oCall (gC (.func 55 [] [])) [t9]),
 kS d8 (oMv t10),
 kS d11 (oExt t8 0),
 kS d12 (oExt t8 1),
 kS d4 (oAlloc .nilptr),
 kN (oSt 1 t4 t11),
 kS d5 (oMv t12)])
 (kSeq (kSeq (kRegion [kS d13 (oMv t5),
 kS d14 (oBin .neq t13 (gI 0))])
 (kCond t14 (kSeq (kRegion [kS d15 (oMv t5),
 kS d2 (oMv (gI 0)),
 kS d3 (oMv t15)])
 kRet)
 kSkip))
 (kSeq (kRegion [kS d6 (oAlloc (.int .i64 0)),
 kN (oSt 1 t6 (gI 301))])
 (kSeq (kSeq (kRegion [kS d16 (oLd false 1 t4),
 kS d17 (oCall (gC (.func 56 [] [])) [t16])])
 (kBlock 0 (kRange t17 [18]
 (ICode.region [⟨(some 7), (.alloc (.agg [(.int .i64 0), (.int .i64 0), (.int .i64 0), (.int .i64 0), (.int .i64 0), (.int .i64 0)])), none⟩,
 ⟨none, (.st 6 (.t 7) (.t 18)), none⟩])
 (ICode.block 1
 (ICode.draw [⟨⟨(some 19), (.ld false 1 (.t 6)), none⟩, false, [⟨(some 19), (.ld false 1 (.t 6)), none⟩], []⟩,
 ⟨⟨(some 20), (.ld false 1 (.t 4)), none⟩, false, [⟨(some 20), (.ld false 1 (.t 4)), none⟩], []⟩,
 ⟨⟨(some 21), (.ld true 6 (.t 7)), none⟩, false, [⟨(some 21), (.ld true 6 (.t 7)), none⟩], []⟩,
 ⟨⟨(some 22), (.call (.c (.func 57 [] [])) [(.t 20), (.t 21)]), none⟩, true, [⟨(some 19), (.ld false 1 (.t 6)), none⟩], []⟩,
 ⟨⟨(some 23), (.fld false 2 1 (.t 22)), none⟩, false, [], []⟩,
 ⟨⟨(some 24), (.mn (.t 19) [(.t 23)]), none⟩, false, [], []⟩,
 ⟨⟨none, (.st 1 (.t 6) (.t 24)), none⟩, true, [], []⟩])))))
 (kSeq (kSeq (kRegion [kS d25 (oLd false 1 t6),
 kS d26 (oBin .gtr t25 (gI 300))])
 (kCond t26 (kSeq (kRegion [kS d2 (oMv (gI 0)),
 kS d3 (oMv (gI 9))])
 kRet)
 kSkip))
 (kSeq (kRegion [kS d27 (oLd false 1 t6),
 kS d2 (oMv t27),
 kS d3 (oMv (gI 0))])
 kRet)))))))
theorem e36 : b36 = comp ir36.code := by kernel_rfl
def k36 : KF := ⟨28, b36, [.tmp 2, .tmp 3]⟩
def b38 : KC := (kSeq (kRegion [kS d0 (oMv (gC (.bool false)))])
 (kSeq (kRegion [kS d26 (oCall (gC (.func 63 [] [])) []),
 kS d1 (oAlloc (.agg [.nilslice, (.int .i64 0), (.int .i64 0), .nilslice, .nilslice])),
 kN (oSt 5 t1 t26)])
 (kSeq (kDraw [⟨kS d28 (oLd true 5 t1), ⟨(some 28), (.ld true 5 (.t 1)), none⟩, false, [⟨(some 28), (.ld true 5 (.t 1)), none⟩], []⟩,
 ⟨kS d29 (oCall (gC (.func 64 [] [])) []), ⟨(some 29), (.call (.c (.func 64 [] [])) []), none⟩, true, [⟨(some 28), (.ld true 5 (.t 1)), none⟩], []⟩,
 ⟨kS d30 (oCall (gC (.func 12 [] [])) [t28, t29, (gI 0)]), ⟨(some 30), (.call (.c (.func 12 [] [])) [(.t 28), (.t 29), (.c (.int .i64 0))]), none⟩, true, [], []⟩,
 ⟨kS d27 (oMv t30), ⟨(some 27), (.mv (.t 30)), none⟩, false, [], []⟩,
 ⟨kS d31 (oExt t27 0), ⟨(some 31), (.ext (.t 27) 0), none⟩, false, [], []⟩,
 ⟨kS d32 (oExt t27 1), ⟨(some 32), (.ext (.t 27) 1), none⟩, false, [], []⟩,
 ⟨kS d2 (oMv t31), ⟨(some 2), (.mv (.t 31)), none⟩, false, [], []⟩,
 ⟨kS d3 (oMv t32), ⟨(some 3), (.mv (.t 32)), none⟩, false, [], []⟩])
 (kSeq (kDraw [⟨kS d34 (oLd true 5 t1), ⟨(some 34), (.ld true 5 (.t 1)), none⟩, false, [⟨(some 34), (.ld true 5 (.t 1)), none⟩], []⟩,
 ⟨kS d35 (oCall (gC (.func 64 [] [])) []), ⟨(some 35), (.call (.c (.func 64 [] [])) []), none⟩, true, [⟨(some 34), (.ld true 5 (.t 1)), none⟩], []⟩,
 ⟨kS d36 (oCall (gC (.func 17 [] [])) [t34, t35, (gI 0)]), ⟨(some 36), (.call (.c (.func 17 [] [])) [(.t 34), (.t 35), (.c (.int .i64 0))]), none⟩, true, [], []⟩,
 ⟨kS d33 (oMv t36), ⟨(some 33), (.mv (.t 36)), none⟩, false, [], []⟩,
 ⟨kS d37 (oExt t33 0), ⟨(some 37), (.ext (.t 33) 0), none⟩, false, [], []⟩,
 ⟨kS d38 (oExt t33 1), ⟨(some 38), (.ext (.t 33) 1), none⟩, false, [], []⟩,
 ⟨kS d4 (oMv t37), ⟨(some 4), (.mv (.t 37)), none⟩, false, [], []⟩,
 ⟨kS d5 (oMv t38), ⟨(some 5), (.mv (.t 38)), none⟩, false, [], []⟩])
 (kSeq (kDraw [⟨kS d40 (oLd true 5 t1), ⟨(some 40), (.ld true 5 (.t 1)), none⟩, false, [⟨(some 40), (.ld true 5 (.t 1)), none⟩], []⟩,
 ⟨kS d41 (oCall (gC (.func 64 [] [])) []), ⟨(some 41), (.call (.c (.func 64 [] [])) []), none⟩, true, [⟨(some 40), (.ld true 5 (.t 1)), none⟩], []⟩,
 ⟨kS d42 (oCall (gC (.func 22 [] [])) [t40, t41, (gI 0)]), ⟨(some 42), (.call (.c (.func 22 [] [])) [(.t 40), (.t 41), (.c (.int .i64 0))]), none⟩, true, [], []⟩,
 ⟨kS d39 (oMv t42), ⟨(some 39), (.mv (.t 42)), none⟩, false, [], []⟩,
 ⟨kS d43 (oExt t39 0), ⟨(some 43), (.ext (.t 39) 0), none⟩, false, [], []⟩,
 ⟨kS d44 (oExt t39 1), ⟨(some 44), (.ext (.t 39) 1), none⟩, false, [], []⟩,
 ⟨kS d6 (oMv t43), ⟨(some 6), (.mv (.t 43)), none⟩, false, [], []⟩,
 ⟨kS d7 (oMv t44), ⟨(some 7), (.mv (.t 44)), none⟩, false, [], []⟩])
 (kSeq (kDraw [⟨kS d46 (oLd true 5 t1), ⟨(some 46), (.ld true 5 (.t 1)), none⟩, false, [⟨(some 46), (.ld true 5 (.t 1)), none⟩], []⟩,
 ⟨kS d47 (oCall (gC (.func 64 [] [])) []), ⟨(some 47), (.call (.c (.func 64 [] [])) []), none⟩, true, [⟨(some 46), (.ld true 5 (.t 1)), none⟩], []⟩,
 ⟨kS d48 (oCall (gC (.func 22 [] [])) [t46, t47, (gI 3)]), ⟨(some 48), (.call (.c (.func 22 [] [])) [(.t 46), (.t 47), (.c (.int .i64 3))]), none⟩, true, [], []⟩,
 ⟨kS d45 (oMv t48), ⟨(some 45), (.mv (.t 48)), none⟩, false, [], []⟩,
 ⟨kS d49 (oExt t45 0), ⟨(some 49), (.ext (.t 45) 0), none⟩, false, [], []⟩,
 ⟨kS d50 (oExt t45 1), ⟨(some 50), (.ext (.t 45) 1), none⟩, false, [], []⟩,
 ⟨kS d8 (oMv t49), ⟨(some 8), (.mv (.t 49)), none⟩, false, [], []⟩,
 ⟨kS d9 (oMv t50), ⟨(some 9), (.mv (.t 50)), none⟩, false, [], []⟩])
 (kSeq (kDraw [⟨kS d52 (oLd true 5 t1), ⟨(some 52), (.ld true 5 (.t 1)), none⟩, false, [⟨(some 52), (.ld true 5 (.t 1)), none⟩], []⟩,
 ⟨kS d53 (oCall (gC (.func 64 [] [])) []), ⟨(some 53), (.call (.c (.func 64 [] [])) []), none⟩, true, [⟨(some 52), (.ld true 5 (.t 1)), none⟩], []⟩,
 ⟨kS d54 (oCall (gC (.func 24 [] [])) [t52, t53, (gI 0), (gI 1), (gI 222)]), ⟨(some 54), (.call (.c (.func 24 [] [])) [(.t 52), (.t 53), (.c (.int .i64 0)), (.c (.int .i64 1)), (.c (.int .i64 222))]), none⟩, true, [], []⟩,
 ⟨kS d51 (oMv t54), ⟨(some 51), (.mv (.t 54)), none⟩, false, [], []⟩,
 ⟨kS d55 (oExt t51 0), ⟨(some 55), (.ext (.t 51) 0), none⟩, false, [], []⟩,
 ⟨kS d56 (oExt t51 1), ⟨(some 56), (.ext (.t 51) 1), none⟩, false, [], []⟩,
 ⟨kS d10 (oMv t55), ⟨(some 10), (.mv (.t 55)), none⟩, false, [], []⟩,
 ⟨kS d11 (oMv t56), ⟨(some 11), (.mv (.t 56)), none⟩, false, [], []⟩])
 (kSeq (kRegion [kS d58 (oLd true 5 t1),
 kS d59 (oCall (gC (.func 27 [] [])) [t58]),
 kS d57 (oMv t59),
 kS d60 (oExt t57 0),
 kS d61 (oExt t57 1),
 kS d62 (oExt t57 2),
 kS d63 (oExt t57 3),
 kS d12 (oMv t60),
 kS d13 (oMv t61),
 kS d14 (oMv t62),
 kS d15 (oMv t63)])
 (kSeq (kRegion [kS d65 (oLd true 5 t1),
 kS d66 (oCall (gC (.func 30 [] [])) [t65]),
 kS d64 (oMv t66),
 kS d67 (oExt t64 0),
 kS d68 (oExt t64 1),
 kS d16 (oMv t67),
 kS d17 (oMv t68)])
 (kSeq (kRegion [kS d70 (oCall (gC (.func 65 [] [])) []),
 kS d71 (oCall (gC (.func 33 [] [])) [t70]),
 kS d69 (oMv t71),
 kS d72 (oExt t69 0),
 kS d73 (oExt t69 1),
 kS d18 (oMv t72),
 kS d19 (oMv t73)])
 (kSeq (kRegion [kS d75 (oLd true 5 t1),
 kS d76 (oCall (gC (.func 33 [] [])) [t75]),
 kS d74 (oMv t76),
 kS d77 (oExt t74 0),
 kS d78 (oExt t74 1),
 kS d20 (oMv t77),
 kS d21 (oMv t78)])
 (kSeq (kRegion [kS d80 (oLd true 5 t1),
 kS d81 (oCall (gC (.func 36 [] [])) [t80]),
 kS d79 (oMv t81),
 kS d82 (oExt t79 0),
 kS d83 (oExt t79 1),
 kS d22 (oMv t82),
 kS d23 (oMv t83)])
 (kSeq (kRegion [kS d85 (oLd true 5 t1),
 kS d86 (oMv t12),
 kS d87 (oCall (gC (.func 22 [] [])) [t85, t86, (gI 0)]),
 kS d84 (oMv t87),
 kS d88 (oExt t84 0),
 kS d89 (oExt t84 1),
 kS d24 (oMv t88),
 kS d25 (oMv t89)])
 (kSeq (kRegion [kS d90 (oMv t3),
 kS d91 (oBin .eql t90 (gI 0)),
 kS d92 (oMv t91),
 kG t92 true d93 (oMv t5),
 kG t92 true d94 (oBin .eql t93 (gI 0)),
 kS d95 (oPick t92 t94 (gC (.bool false))),
 kS d96 (oMv t95),
 kG t96 true d97 (oMv t7),
 kG t96 true d98 (oBin .eql t97 (gI 0)),
 kS d99 (oPick t96 t98 (gC (.bool false))),
 kS d100 (oMv t99),
 kG t100 true d101 (oMv t9),
 kG t100 true d102 (oBin .eql t101 (gI 0)),
 kS d103 (oPick t100 t102 (gC (.bool false))),
 kS d104 (oMv t103),
 kG t104 true d105 (oMv t11),
 kG t104 true d106 (oBin .eql t105 (gI 0)),
 kS d107 (oPick t104 t106 (gC (.bool false))),
 kS d108 (oMv t107),
 kG t108 true d109 (oMv t15),
 kG t108 true d110 (oBin .eql t109 (gI 0)),
 kS d111 (oPick t108 t110 (gC (.bool false))),
 kS d112 (oMv t111),
 kG t112 true d113 (oMv t17),
 kG t112 true d114 (oBin .eql t113 (gI 0)),
 kS d115 (oPick t112 t114 (gC (.bool false))),
 kS d116 (oMv t115),
 kG t116 true d117 (oMv t19),
 kG t116 true d118 (oBin .eql t117 (gI 0)),
 kS d119 (oPick t116 t118 (gC (.bool false))),
 kS d120 (oMv t119),
 kG t120 true d121 (oMv t21),
 kG t120 true d122 (oBin .eql t121 (gI 9)),
 kS d123 (oPick t120 t122 (gC (.bool false))),
 kS d124 (oMv t123),
 kG t124 true d125 (oMv t23),
 kG t124 true d126 (oBin .eql t125 (gI 0)),
 kS d127 (oPick t124 t126 (gC (.bool false))),
 kS d128 (oMv t127),
 kG t128 true d129 (oMv t2),
 kG t128 true d130 (oBldS 1 2 [(.int .i64 0)] [(0, 1, (gI 2)), (1, 1, (gI 0))]),
 kG t128 true d131 (oCall (gC (.func 66 [] [])) [t129, t130]),
 kS d132 (oPick t128 t131 (gC (.bool false))),
 kS d133 (oMv t132),
 kG t133 true d134 (oMv t4),
 kG t133 true d135 (oCall (gC (.func 68 [] [])) [(gI 160), (gI 180)]),
 kG t133 true d136 (oCall (gC (.func 68 [] [])) [(gI 210), (gI 250)]),
 kG t133 true d137 (oBldS 2 2 [(.int .i64 0), (.int .i64 0)] [(0, 2, t135), (2, 2, t136)]),
 kG t133 true d138 (oCall (gC (.func 67 [] [])) [t134, t137]),
 kS d139 (oPick t133 t138 (gC (.bool false))),
 kS d140 (oMv t139),
 kG t140 true d141 (oMv t6),
 kG t140 true d142 (oBin .eql t141 (gI 1)),
 kS d143 (oPick t140 t142 (gC (.bool false))),
 kS d144 (oMv t143),
 kG t144 true d145 (oMv t8),
 kG t144 true d146 (oBin .eql t145 (gI 0)),
 kS d147 (oPick t144 t146 (gC (.bool false))),
 kS d148 (oMv t147),
 kG t148 true d149 (oMv t10),
 kG t148 true d150 (oCall (gC (.func 68 [] [])) [(gI 160), (gI 172)]),
 kG t148 true d151 (oCall (gC (.func 68 [] [])) [(gI 222), (gI 222)]),
 kG t148 true d152 (oBldS 2 2 [(.int .i64 0), (.int .i64 0)] [(0, 2, t150), (2, 2, t151)]),
 kG t148 true d153 (oCall (gC (.func 67 [] [])) [t149, t152]),
 kS d154 (oPick t148 t153 (gC (.bool false))),
 kS d155 (oMv t154),
 kG t155 true d156 (oMv t12),
 kG t155 true d157 (oBldS 1 4 [(.int .i64 0)] [(0, 1, (gI (-1))), (1, 1, (gI 0)), (2, 1, (gI 1)), (3, 1, (gI 0))]),
 kG t155 true d158 (oCall (gC (.func 66 [] [])) [t156, t157]),
 kS d159 (oPick t155 t158 (gC (.bool false))),
 kS d160 (oMv t159),
 kG t160 true d161 (oMv t13),
 kG t160 true d162 (oBin .eql t161 (gI 3)),
 kS d163 (oPick t160 t162 (gC (.bool false))),
 kS d164 (oMv t163),
 kG t164 true d165 (oMv t14),
 kG t164 true d166 (oBin .eql t165 (gI 0)),
 kS d167 (oPick t164 t166 (gC (.bool false))),
 kS d168 (oMv t167),
 kG t168 true d169 (oMv t16),
 kG t168 true d170 (oLen false t169),
 kG t168 true d171 (oBin .eql t170 (gI 0)),
 kS d172 (oPick t168 t171 (gC (.bool false))),
 kS d173 (oMv t172),
 kG t173 true d174 (oMv t18),
 kG t173 true d175 (oBldS 1 1 [(.int .i64 0)] [(0, 1, (gI 0))]),
 kG t173 true d176 (oCall (gC (.func 66 [] [])) [t174, t175]),
 kS d177 (oPick t173 t176 (gC (.bool false))),
 kS d178 (oMv t177),
 kG t178 true d179 (oMv t22),
 kG t178 true d180 (oBin .eql t179 (gI 10)),
 kS d181 (oPick t178 t180 (gC (.bool false))),
 kS d182 (oMv t181),
 kG t182 true d183 (oMv t25),
 kG t182 true d184 (oBin .eql t183 (gI 0)),
 kS d185 (oPick t182 t184 (gC (.bool false))),
 kS d186 (oMv t185),
 kG t186 true d187 (oMv t24),
 kG t186 true d188 (oBin .eql t187 (gI 2)),
 kS d189 (oPick t186 t188 (gC (.bool false))),
 kS d0 (oMv t189)])
 kRet))))))))))))))
theorem e38 : b38 = comp ir38.code := by kernel_rfl
def k38 : KF := ⟨190, b38, [.tmp 0]⟩
def b40 : KC := (kSeq (kRegion [kS d3 (oBox t0),
 kS d4 (oBox t1),
 kS d6 (oMv (gC (.bool false)))])
 (kSeq (kRegion [kS d7 (oMv t2),
 kS d8 (oMkfn 73 [] [t3, t4]),
 kS d9 (oCall (gC (.func 72 [] [])) [t7, t8]),
 kS d6 (oMv t9)])
 kRet))
theorem e40 : b40 = comp ir40.code := by kernel_rfl
def k40 : KF := ⟨10, b40, [.tmp 6]⟩
def b41 : KC := (kSeq (kRegion [kS d4 (oMv (gI 0))])
 (kSeq (kRegion [kS d9 (oMv t0),
 kS d10 (oNilck t9),
 kS d11 (oFa t10 0),
 kS d12 (oFa t11 0),
 kS d13 (oLd false 1 t12),
 kS d14 (oMv t1),
 kS d15 (oIa 4 t13 t14),
 kS d16 (oLd true 4 t15),
 kS d5 (oAlloc (.agg [(.str []), (.int .i64 0), (.int .i64 0), .nilslice])),
 kN (oSt 4 t5 t16)])
 (kSeq (kRegion [kS d17 (oMv t0),
 kS d18 (oNilck t17),
 kS d19 (oFa t18 0),
 kS d20 (oFa t19 0),
 kS d21 (oLd false 1 t20),
 kS d22 (oMv t1),
 kS d23 (oCall (gC (.func 74 [] [])) [t21, t22, (gC (.func 75 [] []))]),
 kS d6 (oMv t23)])
 (kSeq (kBlock 0 (kSeq (kRegion [kS d25 (oMv t6),
 kS d26 (oBin .neq t25 (gI 0)),
 kS d24 (oMv t26)])
 (kCond t24 (kSeq (kRegion [kS d27 (oMv t6),
 kS d4 (oMv t27)])
 kRet)
 (kSeq (kRegion [kS d29 (oFa t5 1),
 kS d30 (oLd false 1 t29),
 kS d31 (oBldS 1 1 [(.int .i64 0)] [(0, 1, t30)]),
 kS d32 (oCall (gC (.func 40 [] [])) [(gI 0), (gI 20), t31]),
 kS d33 (oMv t32),
 kG t33 false d34 (oFa t5 2),
 kG t33 false d35 (oLd false 1 t34),
 kG t33 false d36 (oBldS 1 1 [(.int .i64 0)] [(0, 1, t35)]),
 kG t33 false d37 (oCall (gC (.func 40 [] [])) [(gI 0), (gI 5000), t36]),
 kS d38 (oPick t33 (gC (.bool true)) t37),
 kS d28 (oMv t38)])
 (kCond t28 (kSeq (kRegion [kS d4 (oMv (gI 7))])
 kRet)
 (kSeq (kDraw [⟨kS d40 (oFa t5 3), ⟨(some 40), (.fa (.t 5) 3), none⟩, false, [], []⟩,
 ⟨kS d41 (oLd false 1 t40), ⟨(some 41), (.ld false 1 (.t 40)), none⟩, false, [⟨(some 41), (.ld false 1 (.t 40)), none⟩], []⟩,
 ⟨kS d42 (oLen false t41), ⟨(some 42), (.len false (.t 41)), none⟩, false, [], []⟩,
 ⟨kS d43 (oMv t0), ⟨(some 43), (.mv (.t 0)), none⟩, false, [], []⟩,
 ⟨kS d44 (oNilck t43), ⟨(some 44), (.nilck (.t 43)), none⟩, false, [], []⟩,
 ⟨kS d45 (oFa t44 0), ⟨(some 45), (.fa (.t 44) 0), none⟩, false, [], []⟩,
 ⟨kS d46 (oFa t45 1), ⟨(some 46), (.fa (.t 45) 1), none⟩, false, [], []⟩,
 ⟨kS d47 (oLd false 1 t46), ⟨(some 47), (.ld false 1 (.t 46)), none⟩, false, [⟨(some 47), (.ld false 1 (.t 46)), none⟩], []⟩,
 ⟨kS d48 (oBin .neq t42 t47), ⟨(some 48), (.bin .neq (.t 42) (.t 47)), none⟩, false, [], []⟩,
 ⟨kS d39 (oMv t48), ⟨(some 39), (.mv (.t 48)), none⟩, false, [], []⟩])
 (kCond t39 (kSeq (kRegion [kS d4 (oMv (gI 3))])
 kRet)
 kSkip)))))))
 (kSeq (kSeq (kRegion [kS d49 (oFa t5 3),
 kS d50 (oLd false 1 t49),
 kS d51 (oLen false t50),
 kS d52 (oMv (gI 0))])
 (kBlock 1 (kLoop (kSeq (kRegion [kS d53 (oBin .lss t52 t51)])
 (kSeq (kCond t53 kSkip
 (kExit 1))
 (kSeq (kBlock 2 (kSeq (kRegion [kS d54 (oIa 2 t50 t52),
 kS d55 (oLd true 2 t54),
 kS d8 (oAlloc (.agg [(.int .i64 0), (.int .i64 0)])),
 kN (oSt 2 t8 t55)])
 (kBlock 3 (kSeq (kRegion [kS d57 (oFa t8 0),
 kS d58 (oLd false 1 t57),
 kS d59 (oFa t8 1),
 kS d60 (oLd false 1 t59),
 kS d61 (oBldS 1 2 [(.int .i64 0)] [(0, 1, t58), (1, 1, t60)]),
 kS d62 (oCall (gC (.func 40 [] [])) [(gI 0), (gI 600), t61]),
 kS d56 (oMv t62)])
 (kCond t56 (kSeq (kRegion [kS d4 (oMv (gI 7))])
 kRet)
 (kSeq (kRegion [kS d64 (oFa t8 0),
 kS d65 (oLd false 1 t64),
 kS d66 (oFa t8 1),
 kS d67 (oLd false 1 t66),
 kS d68 (oBin .gtr t65 t67),
 kS d63 (oMv t68)])
 (kCond t63 (kSeq (kRegion [kS d4 (oMv (gI 2))])
 kRet)
 kSkip)))))))
 (kRegion [kS d69 (oBin .add t52 (gI 1)),
 kS d52 (oMv t69)])))))))
 (kSeq (kRegion [kS d4 (oMv (gI 0))])
 kRet))))))
theorem e41 : b41 = comp ir41.code := by kernel_rfl
def k41 : KF := ⟨70, b41, [.tmp 4]⟩
def b42 : KC := (kSeq (kRegion [kS d4 (oMv (gI 0))])
 (kSeq (kRegion [kS d7 (oMv t0),
 kS d8 (oNilck t7),
 kS d9 (oFa t8 0),
 kS d10 (oFa t9 3),
 kS d11 (oLd false 1 t10),
 kS d12 (oMv t1),
 kS d13 (oIa 4 t11 t12),
 kS d14 (oLd true 4 t13),
 kS d5 (oAlloc (.agg [(.str []), (.int .i64 0), (.int .i64 0), (.int .i64 0)])),
 kN (oSt 4 t5 t14)])
 (kSeq (kRegion [kS d15 (oMv t0),
 kS d16 (oNilck t15),
 kS d17 (oFa t16 0),
 kS d18 (oFa t17 3),
 kS d19 (oLd false 1 t18),
 kS d20 (oMv t1),
 kS d21 (oCall (gC (.func 76 [] [])) [t19, t20, (gC (.func 77 [] []))]),
 kS d6 (oMv t21)])
 (kSeq (kSeq (kDraw [⟨kS d22 (oMv t6), ⟨(some 22), (.mv (.t 6)), none⟩, false, [], []⟩,
 ⟨kS d23 (oBin .eql t22 (gI 0)), ⟨(some 23), (.bin .eql (.t 22) (.c (.int .i64 0))), none⟩, false, [], []⟩,
 ⟨kS d24 (oMv t23), ⟨(some 24), (.mv (.t 23)), none⟩, false, [], []⟩,
 ⟨kG t24 true d25 (oFa t5 1), ⟨(some 25), (.fa (.t 5) 1), (some (24, true))⟩, false, [], []⟩,
 ⟨kG t24 true d26 (oLd false 1 t25), ⟨(some 26), (.ld false 1 (.t 25)), (some (24, true))⟩, false, [⟨(some 26), (.ld false 1 (.t 25)), (some (24, true))⟩], []⟩,
 ⟨kG t24 true d27 (oBldS 1 1 [(.int .i64 0)] [(0, 1, t26)]), ⟨(some 27), (.bldS 1 1 [(.int .i64 0)] [(0, 1, (.t 26))]), (some (24, true))⟩, false, [], []⟩,
 ⟨kG t24 true d28 (oCall (gC (.func 40 [] [])) [(gI 1), (gI 9), t27]), ⟨(some 28), (.call (.c (.func 40 [] [])) [(.c (.int .i64 1)), (.c (.int .i64 9)), (.t 27)]), (some (24, true))⟩, true, [], []⟩,
 ⟨kG t24 true d29 (oMv t28), ⟨(some 29), (.mv (.t 28)), (some (24, true))⟩, false, [], []⟩,
 ⟨kG t29 false d30 (oMv t0), ⟨(some 30), (.mv (.t 0)), (some (29, false))⟩, false, [], []⟩,
 ⟨kG t29 false d31 (oNilck t30), ⟨(some 31), (.nilck (.t 30)), (some (29, false))⟩, false, [], []⟩,
 ⟨kG t29 false d32 (oFa t31 0), ⟨(some 32), (.fa (.t 31) 0), (some (29, false))⟩, false, [], []⟩,
 ⟨kG t29 false d33 (oFa t32 1), ⟨(some 33), (.fa (.t 32) 1), (some (29, false))⟩, false, [], []⟩,
 ⟨kG t29 false d34 (oLd false 1 t33), ⟨(some 34), (.ld false 1 (.t 33)), (some (29, false))⟩, false, [⟨(some 34), (.ld false 1 (.t 33)), (some (29, false))⟩], []⟩,
 ⟨kG t29 false d35 (oBin .sub t34 (gI 1)), ⟨(some 35), (.bin .sub (.t 34) (.c (.int .i64 1))), (some (29, false))⟩, false, [], []⟩,
 ⟨kG t29 false d36 (oFa t5 2), ⟨(some 36), (.fa (.t 5) 2), (some (29, false))⟩, false, [], []⟩,
 ⟨kG t29 false d37 (oLd false 1 t36), ⟨(some 37), (.ld false 1 (.t 36)), (some (29, false))⟩, false, [⟨(some 37), (.ld false 1 (.t 36)), (some (29, false))⟩], []⟩,
 ⟨kG t29 false d38 (oBldS 1 1 [(.int .i64 0)] [(0, 1, t37)]), ⟨(some 38), (.bldS 1 1 [(.int .i64 0)] [(0, 1, (.t 37))]), (some (29, false))⟩, false, [], []⟩,
 ⟨kG t29 false d39 (oCall (gC (.func 40 [] [])) [(gI 0), t35, t38]), ⟨(some 39), (.call (.c (.func 40 [] [])) [(.c (.int .i64 0)), (.t 35), (.t 38)]), (some (29, false))⟩, true, [], []⟩,
 ⟨kG t24 true d40 (oPick t29 (gC (.bool true)) t39), ⟨(some 40), (.pick (.t 29) (.c (.bool true)) (.t 39)), (some (24, true))⟩, false, [], []⟩,
 ⟨kG t24 true d41 (oMv t40), ⟨(some 41), (.mv (.t 40)), (some (24, true))⟩, false, [], []⟩,
 ⟨kG t41 false d42 (oFa t5 3), ⟨(some 42), (.fa (.t 5) 3), (some (41, false))⟩, false, [], []⟩,
 ⟨kG t41 false d43 (oLd false 1 t42), ⟨(some 43), (.ld false 1 (.t 42)), (some (41, false))⟩, false, [⟨(some 43), (.ld false 1 (.t 42)), (some (41, false))⟩], []⟩,
 ⟨kG t41 false d44 (oBldS 1 1 [(.int .i64 0)] [(0, 1, t43)]), ⟨(some 44), (.bldS 1 1 [(.int .i64 0)] [(0, 1, (.t 43))]), (some (41, false))⟩, false, [], []⟩,
 ⟨kG t41 false d45 (oCall (gC (.func 40 [] [])) [(gI 0), (gI 5000), t44]), ⟨(some 45), (.call (.c (.func 40 [] [])) [(.c (.int .i64 0)), (.c (.int .i64 5000)), (.t 44)]), (some (41, false))⟩, true, [], []⟩,
 ⟨kG t24 true d46 (oPick t41 (gC (.bool true)) t45), ⟨(some 46), (.pick (.t 41) (.c (.bool true)) (.t 45)), (some (24, true))⟩, false, [], []⟩,
 ⟨kS d47 (oPick t24 t46 (gC (.bool false))), ⟨(some 47), (.pick (.t 24) (.t 46) (.c (.bool false))), none⟩, false, [], []⟩])
 (kCond t47 (kSeq (kRegion [kS d4 (oMv (gI 7))])
 kRet)
 kSkip))
 (kSeq (kRegion [kS d48 (oMv t6),
 kS d4 (oMv t48)])
 kRet)))))
theorem e42 : b42 = comp ir42.code := by kernel_rfl
def k42 : KF := ⟨49, b42, [.tmp 4]⟩
def b43 : KC := (kSeq (kRegion [kS d4 (oMv (gI 0))])
 (kSeq (kRegion [kS d6 (oMv t0),
 kS d7 (oNilck t6),
 kS d8 (oFa t7 0),
 kS d9 (oFa t8 4),
 kS d10 (oLd false 1 t9),
 kS d11 (oMv t1),
 kS d12 (oIa 2 t10 t11),
 kS d13 (oLd true 2 t12),
 kS d5 (oAlloc (.agg [(.int .i64 0), (.int .i64 0)])),
 kN (oSt 2 t5 t13)])
 (kSeq (kBlock 0 (kSeq (kDraw [⟨kS d15 (oMv t0), ⟨(some 15), (.mv (.t 0)), none⟩, false, [], []⟩,
 ⟨kS d16 (oNilck t15), ⟨(some 16), (.nilck (.t 15)), none⟩, false, [], []⟩,
 ⟨kS d17 (oFa t16 0), ⟨(some 17), (.fa (.t 16) 0), none⟩, false, [], []⟩,
 ⟨kS d18 (oFa t17 3), ⟨(some 18), (.fa (.t 17) 3), none⟩, false, [], []⟩,
 ⟨kS d19 (oLd false 1 t18), ⟨(some 19), (.ld false 1 (.t 18)), none⟩, false, [⟨(some 19), (.ld false 1 (.t 18)), none⟩], []⟩,
 ⟨kS d20 (oLen false t19), ⟨(some 20), (.len false (.t 19)), none⟩, false, [], []⟩,
 ⟨kS d21 (oBin .sub t20 (gI 1)), ⟨(some 21), (.bin .sub (.t 20) (.c (.int .i64 1))), none⟩, false, [], []⟩,
 ⟨kS d22 (oFa t5 0), ⟨(some 22), (.fa (.t 5) 0), none⟩, false, [], []⟩,
 ⟨kS d23 (oLd false 1 t22), ⟨(some 23), (.ld false 1 (.t 22)), none⟩, false, [⟨(some 23), (.ld false 1 (.t 22)), none⟩], []⟩,
 ⟨kS d24 (oFa t5 1), ⟨(some 24), (.fa (.t 5) 1), none⟩, false, [], []⟩,
 ⟨kS d25 (oLd false 1 t24), ⟨(some 25), (.ld false 1 (.t 24)), none⟩, false, [⟨(some 25), (.ld false 1 (.t 24)), none⟩], []⟩,
 ⟨kS d26 (oBldS 1 2 [(.int .i64 0)] [(0, 1, t23), (1, 1, t25)]), ⟨(some 26), (.bldS 1 2 [(.int .i64 0)] [(0, 1, (.t 23)), (1, 1, (.t 25))]), none⟩, false, [], []⟩,
 ⟨kS d27 (oCall (gC (.func 40 [] [])) [(gI 0), t21, t26]), ⟨(some 27), (.call (.c (.func 40 [] [])) [(.c (.int .i64 0)), (.t 21), (.t 26)]), none⟩, true, [], []⟩,
 ⟨kS d14 (oMv t27), ⟨(some 14), (.mv (.t 27)), none⟩, false, [], []⟩])
 (kCond t14 (kSeq (kRegion [kS d4 (oMv (gI 4))])
 kRet)
 (kSeq (kRegion [kS d29 (oFa t5 0),
 kS d30 (oLd false 1 t29),
 kS d31 (oFa t5 1),
 kS d32 (oLd false 1 t31),
 kS d33 (oBin .geq t30 t32),
 kS d28 (oMv t33)])
 (kCond t28 (kSeq (kRegion [kS d4 (oMv (gI 2))])
 kRet)
 kSkip)))))
 (kSeq (kRegion [kS d4 (oMv (gI 0))])
 kRet))))
theorem e43 : b43 = comp ir43.code := by kernel_rfl
def k43 : KF := ⟨34, b43, [.tmp 4]⟩
def b44 : KC := (kSeq (kRegion [kS d2 (oBox t0),
 kS d4 (oMv (gC .nilptr)),
 kS d5 (oAlloc (.agg [(.int .i64 0), (.int .i64 0), (.int .i64 0), (.int .i64 0), (.int .i64 0), (.int .i64 0)])),
 kS d6 (oMv (gI 0))])
 (kSeq (kRegion [kS d11 (oLd true 5 t2),
 kS d12 (oCall (gC (.func 55 [] [])) [t11]),
 kS d10 (oMv t12),
 kS d13 (oExt t10 0),
 kS d14 (oExt t10 1),
 kS d4 (oMv t13),
 kS d6 (oMv t14)])
 (kSeq (kBlock 0 (kSeq (kRegion [kS d16 (oMv t6),
 kS d17 (oBin .neq t16 (gI 0)),
 kS d15 (oMv t17)])
 (kCond t15 (kSeq (kDraw [⟨kS d18 (oLd true 6 t5), ⟨(some 18), (.ld true 6 (.t 5)), none⟩, false, [⟨(some 18), (.ld true 6 (.t 5)), none⟩], []⟩,
 ⟨kS d19 (oMv t6), ⟨(some 19), (.mv (.t 6)), none⟩, false, [], []⟩,
 ⟨kS d4 (oMv (gC .nilptr)), ⟨(some 4), (.mv (.c .nilptr)), none⟩, false, [], []⟩,
 ⟨kN (oSt 6 t5 t18), ⟨none, (.st 6 (.t 5) (.t 18)), none⟩, true, [], []⟩,
 ⟨kS d6 (oMv t19), ⟨(some 6), (.mv (.t 19)), none⟩, false, [], []⟩])
 kRet)
 (kSeq (kRegion [kS d21 (oMv t1),
 kS d22 (oLen false t21),
 kS d23 (oFa t2 3),
 kS d24 (oLd false 1 t23),
 kS d25 (oLen false t24),
 kS d26 (oBin .neq t22 t25),
 kS d20 (oMv t26)])
 (kCond t20 (kSeq (kDraw [⟨kS d27 (oLd true 6 t5), ⟨(some 27), (.ld true 6 (.t 5)), none⟩, false, [⟨(some 27), (.ld true 6 (.t 5)), none⟩], []⟩,
 ⟨kS d4 (oMv (gC .nilptr)), ⟨(some 4), (.mv (.c .nilptr)), none⟩, false, [], []⟩,
 ⟨kN (oSt 6 t5 t27), ⟨none, (.st 6 (.t 5) (.t 27)), none⟩, true, [], []⟩,
 ⟨kS d6 (oMv (gI 3)), ⟨(some 6), (.mv (.c (.int .i64 3))), none⟩, false, [], []⟩])
 kRet)
 (kSeq (kRegion [kS d29 (oFa t2 0),
 kS d30 (oLd false 1 t29),
 kS d31 (oLen false t30),
 kS d32 (oBin .sub t31 (gI 1)),
 kS d33 (oMv t1),
 kS d34 (oCall (gC (.func 40 [] [])) [(gI (-1)), t32, t33]),
 kS d28 (oMv t34)])
 (kCond t28 (kSeq (kDraw [⟨kS d35 (oLd true 6 t5), ⟨(some 35), (.ld true 6 (.t 5)), none⟩, false, [⟨(some 35), (.ld true 6 (.t 5)), none⟩], []⟩,
 ⟨kS d4 (oMv (gC .nilptr)), ⟨(some 4), (.mv (.c .nilptr)), none⟩, false, [], []⟩,
 ⟨kN (oSt 6 t5 t35), ⟨none, (.st 6 (.t 5) (.t 35)), none⟩, true, [], []⟩,
 ⟨kS d6 (oMv (gI 4)), ⟨(some 6), (.mv (.c (.int .i64 4))), none⟩, false, [], []⟩])
 kRet)
 kSkip)))))))
 (kSeq (kSeq (kRegion [kS d36 (oMv t1),
 kS d37 (oLen false t36),
 kS d38 (oMv (gI 0))])
 (kBlock 1 (kLoop (kSeq (kRegion [kS d39 (oBin .lss t38 t37)])
 (kSeq (kCond t39 kSkip
 (kExit 1))
 (kSeq (kBlock 2 (kSeq (kRegion [kS d40 (oMv t38),
 kS d41 (oIa 1 t36 t38),
 kS d42 (oLd false 1 t41),
 kS d7 (oMv t40),
 kS d8 (oMv t42)])
 (kRegion [kS d43 (oMv t7),
 kS d44 (oMv t8),
 kS d45 (oBin .add t44 (gI 1)),
 kS d46 (oIaa 6 1 t5 t43),
 kN (oSt 1 t46 t45)])))
 (kRegion [kS d47 (oBin .add t38 (gI 1)),
 kS d38 (oMv t47)])))))))
 (kSeq (kSeq (kRegion [kS d48 (oMv t1),
 kS d49 (oLen false t48),
 kS d50 (oMv (gI 0))])
 (kBlock 3 (kLoop (kSeq (kRegion [kS d51 (oBin .lss t50 t49)])
 (kSeq (kCond t51 kSkip
 (kExit 3))
 (kSeq (kBlock 4 (kSeq (kRegion [kS d52 (oMv t50),
 kS d9 (oMv t52)])
 (kSeq (kRegion [kS d53 (oMv t4),
 kS d54 (oLd true 6 t5),
 kS d55 (oMv t9),
 kS d56 (oCall (gC (.func 59 [] [])) [t53, t54, t55]),
 kS d57 (oNot t56)])
 (kCond t57 (kSeq (kDraw [⟨kS d58 (oLd true 6 t5), ⟨(some 58), (.ld true 6 (.t 5)), none⟩, false, [⟨(some 58), (.ld true 6 (.t 5)), none⟩], []⟩,
 ⟨kS d4 (oMv (gC .nilptr)), ⟨(some 4), (.mv (.c .nilptr)), none⟩, false, [], []⟩,
 ⟨kN (oSt 6 t5 t58), ⟨none, (.st 6 (.t 5) (.t 58)), none⟩, true, [], []⟩,
 ⟨kS d6 (oMv (gI 9)), ⟨(some 6), (.mv (.c (.int .i64 9))), none⟩, false, [], []⟩])
 kRet)
 kSkip))))
 (kRegion [kS d59 (oBin .add t50 (gI 1)),
 kS d50 (oMv t59)])))))))
 (kSeq (kDraw [⟨kS d60 (oMv t4), ⟨(some 60), (.mv (.t 4)), none⟩, false, [], []⟩,
 ⟨kS d61 (oLd true 6 t5), ⟨(some 61), (.ld true 6 (.t 5)), none⟩, false, [⟨(some 61), (.ld true 6 (.t 5)), none⟩], []⟩,
 ⟨kS d4 (oMv t60), ⟨(some 4), (.mv (.t 60)), none⟩, false, [], []⟩,
 ⟨kN (oSt 6 t5 t61), ⟨none, (.st 6 (.t 5) (.t 61)), none⟩, true, [], []⟩,
 ⟨kS d6 (oMv (gI 0)), ⟨(some 6), (.mv (.c (.int .i64 0))), none⟩, false, [], []⟩])
 kRet))))))
theorem e44 : b44 = comp ir44.code := by kernel_rfl
def k44 : KF := ⟨62, b44, [.tmp 4, .cell 5 true 6, .tmp 6]⟩
def b45 : KC := (kSeq (kRegion [kS d4 (oBox t1),
 kS d6 (oMv (gC .nilslice))])
 (kSeq (kRegion [kS d13 (oMv t0),
 kS d14 (oNilck t13),
 kS d15 (oFa t14 0),
 kS d16 (oFa t15 1),
 kS d17 (oLd false 1 t16),
 kS d18 (oGen (.mksl 1 8 [(.int .i64 0)] (.t 17) (.t 17))),
 kS d7 (oMv t18)])
 (kSeq (kSeq (kRegion [kS d19 (oMv t0),
 kS d20 (oNilck t19),
 kS d21 (oFa t20 0),
 kS d22 (oFa t21 3),
 kS d23 (oLd false 1 t22),
 kS d24 (oLen false t23),
 kS d25 (oMv (gI 0))])
 (kBlock 0 (kLoop (kSeq (kRegion [kS d26 (oBin .lss t25 t24)])
 (kSeq (kCond t26 kSkip
 (kExit 0))
 (kSeq (kBlock 1 (kSeq (kRegion [kS d27 (oMv t25),
 kS d28 (oIa 4 t23 t25),
 kS d29 (oLd true 4 t28),
 kS d9 (oAlloc (.agg [(.str []), (.int .i64 0), (.int .i64 0), (.int .i64 0)])),
 kS d8 (oMv t27),
 kN (oSt 4 t9 t29)])
 (kSeq (kSeq (kRegion [kS d30 (oMv t8),
 kS d31 (oIaa 6 1 t4 t30),
 kS d32 (oLd false 1 t31),
 kS d33 (oMv t2),
 kS d34 (oBin .add t33 (gI 1)),
 kS d35 (oBin .neq t32 t34)])
 (kCond t35 (kExit 1)
 kSkip))
 (kSeq (kRegion [kS d10 (oMv (gI 0))])
 (kSeq (kRegion [kS d36 (oMv t0),
 kS d37 (oNilck t36),
 kS d38 (oFa t37 0),
 kS d39 (oFa t38 3),
 kS d40 (oLd false 1 t39),
 kS d41 (oMv t8),
 kS d42 (oGen (.slc 4 (.t 40) none (some (.t 41)) none)),
 kS d43 (oLen false t42),
 kS d44 (oMv (gI 0))])
 (kBlock 2 (kLoop (kSeq (kRegion [kS d45 (oBin .lss t44 t43)])
 (kSeq (kCond t45 kSkip
 (kExit 2))
 (kSeq (kBlock 3 (kSeq (kRegion [kS d46 (oMv t44),
 kS d47 (oIa 4 t42 t44),
 kS d48 (oLd true 4 t47),
 kS d12 (oAlloc (.agg [(.str []), (.int .i64 0), (.int .i64 0), (.int .i64 0)])),
 kS d11 (oMv t46),
 kN (oSt 4 t12 t48)])
 (kSeq (kRegion [kS d49 (oMv t11),
 kS d50 (oIaa 6 1 t4 t49),
 kS d51 (oLd false 1 t50),
 kS d52 (oMv t2),
 kS d53 (oBin .add t52 (gI 1)),
 kS d54 (oBin .eql t51 t53),
 kS d55 (oMv t54),
 kG t55 true d56 (oFa t12 2),
 kG t55 true d57 (oLd false 1 t56),
 kG t55 true d58 (oFa t9 2),
 kG t55 true d59 (oLd false 1 t58),
 kG t55 true d60 (oBin .lss t57 t59),
 kS d61 (oPick t55 t60 (gC (.bool false))),
 kS d62 (oMv t61),
 kG t62 true d63 (oMv t10),
 kG t62 true d64 (oFa t12 2),
 kG t62 true d65 (oLd false 1 t64),
 kG t62 true d66 (oBin .shr t63 t65),
 kG t62 true d67 (oBin .and t66 (gI 1)),
 kG t62 true d68 (oBin .eql t67 (gI 0)),
 kS d69 (oPick t62 t68 (gC (.bool false)))])
 (kCond t69 (kSeq (kRegion [kS d70 (oMv t10),
 kS d71 (oFa t12 2),
 kS d72 (oLd false 1 t71),
 kS d73 (oBin .shl (gI 1) t72),
 kS d74 (oBin .or t70 t73),
 kS d10 (oMv t74)])
 (kRegion [kS d75 (oMv t7),
 kS d76 (oFa t12 2),
 kS d77 (oLd false 1 t76),
 kS d78 (oIa 1 t75 t77),
 kS d79 (oLd false 1 t78),
 kS d80 (oBin .add t79 (gI 1)),
 kS d81 (oIa 1 t75 t77),
 kN (oSt 1 t81 t80)]))
 kSkip))))
 (kRegion [kS d82 (oBin .add t44 (gI 1)),
 kS d44 (oMv t82)])))))))))))
 (kRegion [kS d83 (oBin .add t25 (gI 1)),
 kS d25 (oMv t83)])))))))
 (kSeq (kRegion [kS d84 (oMv t7),
 kS d6 (oMv t84)])
 kRet))))
theorem e45 : b45 = comp ir45.code := by kernel_rfl
def k45 : KF := ⟨85, b45, [.tmp 6]⟩
def b49 : KC := (kSeq (kRegion [kS d4 (oBox t1),
 kS d6 (oMv (gC .nilslice))])
 (kSeq (kDraw [⟨kS d11 (oMv t0), ⟨(some 11), (.mv (.t 0)), none⟩, false, [], []⟩,
 ⟨kS d12 (oNilck t11), ⟨(some 12), (.nilck (.t 11)), none⟩, false, [], []⟩,
 ⟨kS d13 (oFa t12 0), ⟨(some 13), (.fa (.t 12) 0), none⟩, false, [], []⟩,
 ⟨kS d14 (oFa t13 0), ⟨(some 14), (.fa (.t 13) 0), none⟩, false, [], []⟩,
 ⟨kS d15 (oLd false 1 t14), ⟨(some 15), (.ld false 1 (.t 14)), none⟩, false, [⟨(some 15), (.ld false 1 (.t 14)), none⟩], []⟩,
 ⟨kS d16 (oMv t2), ⟨(some 16), (.mv (.t 2)), none⟩, false, [], []⟩,
 ⟨kS d17 (oIa 4 t15 t16), ⟨(some 17), (.ia 4 (.t 15) (.t 16)), none⟩, false, [], []⟩,
 ⟨kS d18 (oFa t17 2), ⟨(some 18), (.fa (.t 17) 2), none⟩, false, [], []⟩,
 ⟨kS d19 (oLd false 1 t18), ⟨(some 19), (.ld false 1 (.t 18)), none⟩, false, [⟨(some 19), (.ld false 1 (.t 18)), none⟩], []⟩,
 ⟨kS d20 (oMv t0), ⟨(some 20), (.mv (.t 0)), none⟩, false, [], []⟩,
 ⟨kS d21 (oNilck t20), ⟨(some 21), (.nilck (.t 20)), none⟩, false, [], []⟩,
 ⟨kS d22 (oFa t21 0), ⟨(some 22), (.fa (.t 21) 0), none⟩, false, [], []⟩,
 ⟨kS d23 (oFa t22 0), ⟨(some 23), (.fa (.t 22) 0), none⟩, false, [], []⟩,
 ⟨kS d24 (oLd false 1 t23), ⟨(some 24), (.ld false 1 (.t 23)), none⟩, false, [⟨(some 24), (.ld false 1 (.t 23)), none⟩], []⟩,
 ⟨kS d25 (oMv t2), ⟨(some 25), (.mv (.t 2)), none⟩, false, [], []⟩,
 ⟨kS d26 (oIa 4 t24 t25), ⟨(some 26), (.ia 4 (.t 24) (.t 25)), none⟩, false, [], []⟩,
 ⟨kS d27 (oFa t26 2), ⟨(some 27), (.fa (.t 26) 2), none⟩, false, [], []⟩,
 ⟨kS d28 (oLd false 1 t27), ⟨(some 28), (.ld false 1 (.t 27)), none⟩, false, [⟨(some 28), (.ld false 1 (.t 27)), none⟩], []⟩,
 ⟨kS d29 (oBld [(.int .i64 0), (.int .i64 0)] [(0, 1, t19), (1, 1, t28)]), ⟨(some 29), (.bld [(.int .i64 0), (.int .i64 0)] [(0, 1, (.t 19)), (1, 1, (.t 28))]), none⟩, false, [], []⟩,
 ⟨kS d7 (oAlloc (.agg [(.int .i64 0), (.int .i64 0)])), ⟨(some 7), (.alloc (.agg [(.int .i64 0), (.int .i64 0)])), none⟩, false, [], []⟩,
 ⟨kN (oSt 2 t7 t29), ⟨none, (.st 2 (.t 7) (.t 29)), none⟩, true, [], []⟩])
 (kSeq (kRegion [kS d8 (oMv (gC .nilslice))])
 (kSeq (kSeq (kRegion [kS d30 (oMv t0),
 kS d31 (oLd true 6 t4),
 kS d32 (oMv t2),
 kS d33 (oCall (gC (.func 45 [] [])) [t30, t31, t32]),
 kS d34 (oLen false t33),
 kS d35 (oMv (gI 0))])
 (kBlock 0 (kLoop (kSeq (kRegion [kS d36 (oBin .lss t35 t34)])
 (kSeq (kCond t36 kSkip
 (kExit 0))
 (kSeq (kBlock 1 (kSeq (kRegion [kS d37 (oMv t35),
 kS d38 (oIa 1 t33 t35),
 kS d39 (oLd false 1 t38),
 kS d9 (oMv t37),
 kS d10 (oMv t39)])
 (kSeq (kDraw [⟨kS d40 (oFa t7 0), ⟨(some 40), (.fa (.t 7) 0), none⟩, false, [], []⟩,
 ⟨kS d41 (oLd false 1 t40), ⟨(some 41), (.ld false 1 (.t 40)), none⟩, false, [⟨(some 41), (.ld false 1 (.t 40)), none⟩], []⟩,
 ⟨kS d42 (oMv t0), ⟨(some 42), (.mv (.t 0)), none⟩, false, [], []⟩,
 ⟨kS d43 (oNilck t42), ⟨(some 43), (.nilck (.t 42)), none⟩, false, [], []⟩,
 ⟨kS d44 (oFa t43 0), ⟨(some 44), (.fa (.t 43) 0), none⟩, false, [], []⟩,
 ⟨kS d45 (oFa t44 0), ⟨(some 45), (.fa (.t 44) 0), none⟩, false, [], []⟩,
 ⟨kS d46 (oLd false 1 t45), ⟨(some 46), (.ld false 1 (.t 45)), none⟩, false, [⟨(some 46), (.ld false 1 (.t 45)), none⟩], []⟩,
 ⟨kS d47 (oMv t2), ⟨(some 47), (.mv (.t 2)), none⟩, false, [], []⟩,
 ⟨kS d48 (oIa 4 t46 t47), ⟨(some 48), (.ia 4 (.t 46) (.t 47)), none⟩, false, [], []⟩,
 ⟨kS d49 (oFa t48 3), ⟨(some 49), (.fa (.t 48) 3), none⟩, false, [], []⟩,
 ⟨kS d50 (oLd false 1 t49), ⟨(some 50), (.ld false 1 (.t 49)), none⟩, false, [⟨(some 50), (.ld false 1 (.t 49)), none⟩], []⟩,
 ⟨kS d51 (oMv t9), ⟨(some 51), (.mv (.t 9)), none⟩, false, [], []⟩,
 ⟨kS d52 (oIa 2 t50 t51), ⟨(some 52), (.ia 2 (.t 50) (.t 51)), none⟩, false, [], []⟩,
 ⟨kS d53 (oFa t52 0), ⟨(some 53), (.fa (.t 52) 0), none⟩, false, [], []⟩,
 ⟨kS d54 (oLd false 1 t53), ⟨(some 54), (.ld false 1 (.t 53)), none⟩, false, [⟨(some 54), (.ld false 1 (.t 53)), none⟩], []⟩,
 ⟨kS d55 (oBin .add t41 t54), ⟨(some 55), (.bin .add (.t 41) (.t 54)), none⟩, false, [], []⟩,
 ⟨kS d56 (oFa t7 0), ⟨(some 56), (.fa (.t 7) 0), none⟩, false, [], []⟩,
 ⟨kN (oSt 1 t56 t55), ⟨none, (.st 1 (.t 56) (.t 55)), none⟩, true, [], []⟩])
 (kSeq (kDraw [⟨kS d57 (oFa t7 1), ⟨(some 57), (.fa (.t 7) 1), none⟩, false, [], []⟩,
 ⟨kS d58 (oLd false 1 t57), ⟨(some 58), (.ld false 1 (.t 57)), none⟩, false, [⟨(some 58), (.ld false 1 (.t 57)), none⟩], []⟩,
 ⟨kS d59 (oMv t0), ⟨(some 59), (.mv (.t 0)), none⟩, false, [], []⟩,
 ⟨kS d60 (oNilck t59), ⟨(some 60), (.nilck (.t 59)), none⟩, false, [], []⟩,
 ⟨kS d61 (oFa t60 0), ⟨(some 61), (.fa (.t 60) 0), none⟩, false, [], []⟩,
 ⟨kS d62 (oFa t61 0), ⟨(some 62), (.fa (.t 61) 0), none⟩, false, [], []⟩,
 ⟨kS d63 (oLd false 1 t62), ⟨(some 63), (.ld false 1 (.t 62)), none⟩, false, [⟨(some 63), (.ld false 1 (.t 62)), none⟩], []⟩,
 ⟨kS d64 (oMv t2), ⟨(some 64), (.mv (.t 2)), none⟩, false, [], []⟩,
 ⟨kS d65 (oIa 4 t63 t64), ⟨(some 65), (.ia 4 (.t 63) (.t 64)), none⟩, false, [], []⟩,
 ⟨kS d66 (oFa t65 3), ⟨(some 66), (.fa (.t 65) 3), none⟩, false, [], []⟩,
 ⟨kS d67 (oLd false 1 t66), ⟨(some 67), (.ld false 1 (.t 66)), none⟩, false, [⟨(some 67), (.ld false 1 (.t 66)), none⟩], []⟩,
 ⟨kS d68 (oMv t9), ⟨(some 68), (.mv (.t 9)), none⟩, false, [], []⟩,
 ⟨kS d69 (oIa 2 t67 t68), ⟨(some 69), (.ia 2 (.t 67) (.t 68)), none⟩, false, [], []⟩,
 ⟨kS d70 (oFa t69 1), ⟨(some 70), (.fa (.t 69) 1), none⟩, false, [], []⟩,
 ⟨kS d71 (oLd false 1 t70), ⟨(some 71), (.ld false 1 (.t 70)), none⟩, false, [⟨(some 71), (.ld false 1 (.t 70)), none⟩], []⟩,
 ⟨kS d72 (oBin .add t58 t71), ⟨(some 72), (.bin .add (.t 58) (.t 71)), none⟩, false, [], []⟩,
 ⟨kS d73 (oFa t7 1), ⟨(some 73), (.fa (.t 7) 1), none⟩, false, [], []⟩,
 ⟨kN (oSt 1 t73 t72), ⟨none, (.st 1 (.t 73) (.t 72)), none⟩, true, [], []⟩])
 (kSeq (kRegion [kS d74 (oMv t8),
 kS d75 (oLd true 2 t7),
 kS d76 (oBldS 2 1 [(.int .i64 0), (.int .i64 0)] [(0, 2, t75)]),
 kS d77 (oGen (.app 2 16 (.t 74) (.t 76))),
 kS d8 (oMv t77)])
 (kSeq (kDraw [⟨kS d78 (oFa t7 0), ⟨(some 78), (.fa (.t 7) 0), none⟩, false, [], []⟩,
 ⟨kS d79 (oLd false 1 t78), ⟨(some 79), (.ld false 1 (.t 78)), none⟩, false, [⟨(some 79), (.ld false 1 (.t 78)), none⟩], []⟩,
 ⟨kS d80 (oMv t10), ⟨(some 80), (.mv (.t 10)), none⟩, false, [], []⟩,
 ⟨kS d81 (oMv t0), ⟨(some 81), (.mv (.t 0)), none⟩, false, [], []⟩,
 ⟨kS d82 (oNilck t81), ⟨(some 82), (.nilck (.t 81)), none⟩, false, [], []⟩,
 ⟨kS d83 (oFa t82 0), ⟨(some 83), (.fa (.t 82) 0), none⟩, false, [], []⟩,
 ⟨kS d84 (oFa t83 2), ⟨(some 84), (.fa (.t 83) 2), none⟩, false, [], []⟩,
 ⟨kS d85 (oLd false 1 t84), ⟨(some 85), (.ld false 1 (.t 84)), none⟩, false, [⟨(some 85), (.ld false 1 (.t 84)), none⟩], []⟩,
 ⟨kS d86 (oBin .mul t80 t85), ⟨(some 86), (.bin .mul (.t 80) (.t 85)), none⟩, false, [], []⟩,
 ⟨kS d87 (oBin .add t79 t86), ⟨(some 87), (.bin .add (.t 79) (.t 86)), none⟩, false, [], []⟩,
 ⟨kS d88 (oFa t7 0), ⟨(some 88), (.fa (.t 7) 0), none⟩, false, [], []⟩,
 ⟨kN (oSt 1 t88 t87), ⟨none, (.st 1 (.t 88) (.t 87)), none⟩, true, [], []⟩])
 (kDraw [⟨kS d89 (oFa t7 1), ⟨(some 89), (.fa (.t 7) 1), none⟩, false, [], []⟩,
 ⟨kS d90 (oLd false 1 t89), ⟨(some 90), (.ld false 1 (.t 89)), none⟩, false, [⟨(some 90), (.ld false 1 (.t 89)), none⟩], []⟩,
 ⟨kS d91 (oMv t10), ⟨(some 91), (.mv (.t 10)), none⟩, false, [], []⟩,
 ⟨kS d92 (oMv t0), ⟨(some 92), (.mv (.t 0)), none⟩, false, [], []⟩,
 ⟨kS d93 (oNilck t92), ⟨(some 93), (.nilck (.t 92)), none⟩, false, [], []⟩,
 ⟨kS d94 (oFa t93 0), ⟨(some 94), (.fa (.t 93) 0), none⟩, false, [], []⟩,
 ⟨kS d95 (oFa t94 2), ⟨(some 95), (.fa (.t 94) 2), none⟩, false, [], []⟩,
 ⟨kS d96 (oLd false 1 t95), ⟨(some 96), (.ld false 1 (.t 95)), none⟩, false, [⟨(some 96), (.ld false 1 (.t 95)), none⟩], []⟩,
 ⟨kS d97 (oBin .mul t91 t96), ⟨(some 97), (.bin .mul (.t 91) (.t 96)), none⟩, false, [], []⟩,
 ⟨kS d98 (oBin .add t90 t97), ⟨(some 98), (.bin .add (.t 90) (.t 97)), none⟩, false, [], []⟩,
 ⟨kS d99 (oFa t7 1), ⟨(some 99), (.fa (.t 7) 1), none⟩, false, [], []⟩,
 ⟨kN (oSt 1 t99 t98), ⟨none, (.st 1 (.t 99) (.t 98)), none⟩, true, [], []⟩])))))))
 (kRegion [kS d100 (oBin .add t35 (gI 1)),
 kS d35 (oMv t100)])))))))
 (kSeq (kRegion [kS d101 (oMv t8),
 kS d6 (oMv t101)])
 kRet)))))
theorem e49 : b49 = comp ir49.code := by kernel_rfl
def k49 : KF := ⟨102, b49, [.tmp 6]⟩
def b54 : KC := (kSeq (kRegion [kS d4 (oBox t1),
 kS d6 (oMv (gI 0))])
 (kSeq (kSeq (kRegion [kS d9 (oMv t2),
 kS d10 (oIaa 6 1 t4 t9),
 kS d11 (oLd false 1 t10),
 kS d12 (oBin .eql t11 (gI 0))])
 (kCond t12 (kSeq (kRegion [kS d6 (oMv (gI 2))])
 kRet)
 kSkip))
 (kSeq (kRegion [kS d13 (oMv t0),
 kS d14 (oNilck t13),
 kS d15 (oFa t14 0),
 kS d16 (oFa t15 3),
 kS d17 (oLd false 1 t16),
 kS d18 (oMv t2),
 kS d19 (oIa 4 t17 t18),
 kS d20 (oLd true 4 t19),
 kS d7 (oAlloc (.agg [(.str []), (.int .i64 0), (.int .i64 0), (.int .i64 0)])),
 kN (oSt 4 t7 t20)])
 (kSeq (kSeq (kDraw [⟨kS d21 (oMv t0), ⟨(some 21), (.mv (.t 0)), none⟩, false, [], []⟩,
 ⟨kS d22 (oLd true 6 t4), ⟨(some 22), (.ld true 6 (.t 4)), none⟩, false, [⟨(some 22), (.ld true 6 (.t 4)), none⟩], []⟩,
 ⟨kS d23 (oMv t2), ⟨(some 23), (.mv (.t 2)), none⟩, false, [], []⟩,
 ⟨kS d24 (oIaa 6 1 t4 t23), ⟨(some 24), (.iaa 6 1 (.t 4) (.t 23)), none⟩, false, [], []⟩,
 ⟨kS d25 (oLd false 1 t24), ⟨(some 25), (.ld false 1 (.t 24)), none⟩, false, [⟨(some 25), (.ld false 1 (.t 24)), none⟩], []⟩,
 ⟨kS d26 (oBin .sub t25 (gI 1)), ⟨(some 26), (.bin .sub (.t 25) (.c (.int .i64 1))), none⟩, false, [], []⟩,
 ⟨kS d27 (oCall (gC (.func 49 [] [])) [t21, t22, t26]), ⟨(some 27), (.call (.c (.func 49 [] [])) [(.t 21), (.t 22), (.t 26)]), none⟩, true, [], []⟩,
 ⟨kS d28 (oFa t7 2), ⟨(some 28), (.fa (.t 7) 2), none⟩, false, [], []⟩,
 ⟨kS d29 (oLd false 1 t28), ⟨(some 29), (.ld false 1 (.t 28)), none⟩, false, [⟨(some 29), (.ld false 1 (.t 28)), none⟩], [6]⟩,
 ⟨kS d30 (oIa 2 t27 t29), ⟨(some 30), (.ia 2 (.t 27) (.t 29)), none⟩, false, [], []⟩,
 ⟨kS d31 (oLd true 2 t30), ⟨(some 31), (.ld true 2 (.t 30)), none⟩, false, [⟨(some 31), (.ld true 2 (.t 30)), none⟩], []⟩,
 ⟨kS d8 (oAlloc (.agg [(.int .i64 0), (.int .i64 0)])), ⟨(some 8), (.alloc (.agg [(.int .i64 0), (.int .i64 0)])), none⟩, false, [], []⟩,
 ⟨kN (oSt 2 t8 t31), ⟨none, (.st 2 (.t 8) (.t 31)), none⟩, true, [], []⟩])
 (kBlock 0 (kSeq (kRegion [kS d33 (oFa t8 1),
 kS d34 (oLd false 1 t33),
 kS d35 (oFa t7 3),
 kS d36 (oLd false 1 t35),
 kS d37 (oBin .leq t34 t36),
 kS d32 (oMv t37)])
 (kCond t32 (kSeq (kRegion [kS d6 (oMv (gI 1))])
 kRet)
 (kSeq (kRegion [kS d39 (oFa t8 0),
 kS d40 (oLd false 1 t39),
 kS d41 (oFa t7 3),
 kS d42 (oLd false 1 t41),
 kS d43 (oBin .gtr t40 t42),
 kS d38 (oMv t43)])
 (kCond t38 (kSeq (kRegion [kS d6 (oMv (gI 2))])
 kRet)
 kSkip))))))
 (kSeq (kRegion [kS d6 (oMv (gI 0))])
 kRet)))))
theorem e54 : b54 = comp ir54.code := by kernel_rfl
def k54 : KF := ⟨44, b54, [.tmp 6]⟩
def b55 : KC := (kSeq (kRegion [kS d1 (oBox t0),
 kS d2 (oMv (gC .nilptr)),
 kS d3 (oMv (gI 0))])
 (kSeq (kSeq (kRegion [kS d8 (oLd true 5 t1),
 kS d9 (oCall (gC (.func 7 [] [])) [t8]),
 kS d7 (oMv t9),
 kS d10 (oExt t7 0),
 kS d11 (oExt t7 1),
 kS d12 (oExt t7 2),
 kS d4 (oMv t10),
 kS d5 (oMv t11),
 kS d6 (oMv t12)])
 (kSeq (kRegion [kS d13 (oMv t6),
 kS d14 (oBin .neq t13 (gI 0))])
 (kCond t14 (kSeq (kRegion [kS d15 (oMv t6),
 kS d2 (oMv (gC .nilptr)),
 kS d3 (oMv t15)])
 kRet)
 kSkip)))
 (kSeq (kRegion [kS d16 (oLd true 5 t1),
 kS d17 (oGen .mkmap),
 kS d18 (oBld [.nilslice, (.int .i64 0), (.int .i64 0), .nilslice, .nilslice, .nilmap] [(0, 5, t16), (5, 1, t17)]),
 kS d19 (oBox t18),
 kS d2 (oMv t19),
 kS d3 (oMv (gI 0))])
 kRet)))
theorem e55 : b55 = comp ir55.code := by kernel_rfl
def k55 : KF := ⟨20, b55, [.tmp 2, .tmp 3]⟩
def b56 : KC := (kSeq (kRegion [kS d1 (oBox t0),
 kS d2 (oMv (gC .nilfunc))])
 (kSeq (kRegion [kS d3 (oMkfn 78 [] [t1]),
 kS d2 (oMv t3)])
 kRet))
theorem e56 : b56 = comp ir56.code := by kernel_rfl
def k56 : KF := ⟨4, b56, [.tmp 2]⟩
def b57 : KC := (kSeq (kRegion [kS d3 (oBox t1),
 kS d4 (oAlloc (.agg [(.int .i64 0), (.int .i64 0), (.int .i64 0)]))])
 (kSeq (kSeq (kDraw [⟨kS d16 (oMv t0), ⟨(some 16), (.mv (.t 0)), none⟩, false, [], []⟩,
 ⟨kS d17 (oNilck t16), ⟨(some 17), (.nilck (.t 16)), none⟩, false, [], []⟩,
 ⟨kS d18 (oFa t17 5), ⟨(some 18), (.fa (.t 17) 5), none⟩, false, [], []⟩,
 ⟨kS d19 (oLd false 1 t18), ⟨(some 19), (.ld false 1 (.t 18)), none⟩, false, [⟨(some 19), (.ld false 1 (.t 18)), none⟩], []⟩,
 ⟨kS d20 (oLd true 6 t3), ⟨(some 20), (.ld true 6 (.t 3)), none⟩, false, [⟨(some 20), (.ld true 6 (.t 3)), none⟩], []⟩,
 ⟨kS d21 (oGen (.lkp (.ag [.i, .i, .i, .i, .i, .i]) (.agg [(.int .i64 0), (.int .i64 0), (.int .i64 0)]) true (.t 19) (.t 20))), ⟨(some 21), (.lkp (.ag [.i, .i, .i, .i, .i, .i]) (.agg [(.int .i64 0), (.int .i64 0), (.int .i64 0)]) true (.t 19) (.t 20)), none⟩, false, [⟨(some 21), (.lkp (.ag [.i, .i, .i, .i, .i, .i]) (.agg [(.int .i64 0), (.int .i64 0), (.int .i64 0)]) true (.t 19) (.t 20)), none⟩], []⟩,
 ⟨kS d15 (oMv t21), ⟨(some 15), (.mv (.t 21)), none⟩, false, [], []⟩,
 ⟨kS d22 (oExt t15 0), ⟨(some 22), (.ext (.t 15) 0), none⟩, false, [], []⟩,
 ⟨kS d23 (oExt t15 1), ⟨(some 23), (.ext (.t 15) 1), none⟩, false, [], []⟩,
 ⟨kS d5 (oAlloc (.agg [(.int .i64 0), (.int .i64 0), (.int .i64 0)])), ⟨(some 5), (.alloc (.agg [(.int .i64 0), (.int .i64 0), (.int .i64 0)])), none⟩, false, [], []⟩,
 ⟨kN (oSt 3 t5 t22), ⟨none, (.st 3 (.t 5) (.t 22)), none⟩, true, [], []⟩,
 ⟨kS d6 (oMv t23), ⟨(some 6), (.mv (.t 23)), none⟩, false, [], []⟩])
 (kSeq (kRegion [kS d24 (oMv t6)])
 (kCond t24 (kSeq (kRegion [kS d25 (oLd true 3 t5),
 kN (oSt 3 t4 t25)])
 kRet)
 kSkip)))
 (kSeq (kRegion [kS d7 (oAlloc (.agg [(.int .i64 0), (.int .i64 0), (.int .i64 0)]))])
 (kSeq (kRegion [kS d26 (oMv t0),
 kS d27 (oMkfn 54 [t26] []),
 kS d8 (oMv t27)])
 (kSeq (kRegion [kS d9 (oAlloc (.agg [.nilslice, .nilslice, .nilslice]))])
 (kSeq (kSeq (kRegion [kS d28 (oMv t0),
 kS d29 (oNilck t28),
 kS d30 (oFa t29 0),
 kS d31 (oFa t30 0),
 kS d32 (oLd false 1 t31),
 kS d33 (oLen false t32),
 kS d34 (oMv (gI 0))])
 (kBlock 0 (kLoop (kSeq (kRegion [kS d35 (oBin .lss t34 t33)])
 (kSeq (kCond t35 kSkip
 (kExit 0))
 (kSeq (kBlock 1 (kSeq (kRegion [kS d36 (oMv t34),
 kS d10 (oMv t36)])
 (kSeq (kRegion [kS d37 (oMv t10),
 kS d38 (oMv t0),
 kS d39 (oLd true 6 t3),
 kS d40 (oMv t10),
 kS d41 (oCall (gC (.func 49 [] [])) [t38, t39, t40]),
 kS d42 (oIaa 3 1 t9 t37),
 kN (oSt 1 t42 t41)])
 (kSeq (kRegion [kS d43 (oMv t0),
 kS d44 (oLd true 6 t3),
 kS d45 (oMv t10),
 kS d46 (oCall (gC (.func 45 [] [])) [t43, t44, t45]),
 kS d47 (oLen false t46),
 kS d48 (oMv (gI 0))])
 (kBlock 2 (kLoop (kSeq (kRegion [kS d49 (oBin .lss t48 t47)])
 (kSeq (kCond t49 kSkip
 (kExit 2))
 (kSeq (kBlock 3 (kSeq (kRegion [kS d50 (oIa 1 t46 t48),
 kS d51 (oLd false 1 t50),
 kS d12 (oMv t51)])
 (kRegion [kS d52 (oFa t7 1),
 kS d53 (oLd false 1 t52),
 kS d54 (oMv t12),
 kS d55 (oBin .add t53 t54),
 kS d56 (oFa t7 1),
 kN (oSt 1 t56 t55)])))
 (kRegion [kS d57 (oBin .add t48 (gI 1)),
 kS d48 (oMv t57)]))))))))))
 (kRegion [kS d58 (oBin .add t34 (gI 1)),
 kS d34 (oMv t58)])))))))
 (kSeq (kSeq (kRegion [kS d59 (oMv t0),
 kS d60 (oNilck t59),
 kS d61 (oFa t60 0),
 kS d62 (oFa t61 3),
 kS d63 (oLd false 1 t62),
 kS d64 (oLen false t63),
 kS d65 (oMv (gI 0))])
 (kBlock 4 (kLoop (kSeq (kRegion [kS d66 (oBin .lss t65 t64)])
 (kSeq (kCond t66 kSkip
 (kExit 4))
 (kSeq (kBlock 5 (kSeq (kRegion [kS d67 (oMv t65),
 kS d68 (oIa 4 t63 t65),
 kS d69 (oLd true 4 t68),
 kS d14 (oAlloc (.agg [(.str []), (.int .i64 0), (.int .i64 0), (.int .i64 0)])),
 kS d13 (oMv t67),
 kN (oSt 4 t14 t69)])
 (kSeq (kSeq (kRegion [kS d70 (oMv t8),
 kS d71 (oLd true 6 t3),
 kS d72 (oMv t13),
 kS d73 (oCall t70 [t71, t72]),
 kS d74 (oBin .eql t73 (gI 1))])
 (kCond t74 (kRegion [kS d75 (oFa t7 0),
 kS d76 (oLd false 1 t75),
 kS d77 (oBin .add t76 (gI 1)),
 kS d78 (oFa t7 0),
 kN (oSt 1 t78 t77)])
 kSkip))
 (kSeq (kRegion [kS d79 (oMv t13),
 kS d80 (oIaa 6 1 t3 t79),
 kS d81 (oLd false 1 t80),
 kS d82 (oBin .eql t81 (gI 0))])
 (kCond t82 (kRegion [kS d83 (oFa t7 2),
 kN (oSt 1 t83 (gI 301))])
 (kDraw [⟨kS d84 (oFa t7 2), ⟨(some 84), (.fa (.t 7) 2), none⟩, false, [], []⟩,
 ⟨kS d85 (oLd false 1 t84), ⟨(some 85), (.ld false 1 (.t 84)), none⟩, false, [⟨(some 85), (.ld false 1 (.t 84)), none⟩], []⟩,
 ⟨kS d86 (oMv t13), ⟨(some 86), (.mv (.t 13)), none⟩, false, [], []⟩,
 ⟨kS d87 (oIaa 6 1 t3 t86), ⟨(some 87), (.iaa 6 1 (.t 3) (.t 86)), none⟩, false, [], []⟩,
 ⟨kS d88 (oLd false 1 t87), ⟨(some 88), (.ld false 1 (.t 87)), none⟩, false, [⟨(some 88), (.ld false 1 (.t 87)), none⟩], []⟩,
 ⟨kS d89 (oBin .sub t88 (gI 1)), ⟨(some 89), (.bin .sub (.t 88) (.c (.int .i64 1))), none⟩, false, [], []⟩,
 ⟨kS d90 (oIaa 3 1 t9 t89), ⟨(some 90), (.iaa 3 1 (.t 9) (.t 89)), none⟩, false, [], []⟩,
 ⟨kS d91 (oLd false 1 t90), ⟨(some 91), (.ld false 1 (.t 90)), none⟩, false, [⟨(some 91), (.ld false 1 (.t 90)), none⟩], []⟩,
 ⟨kS d92 (oFa t14 2), ⟨(some 92), (.fa (.t 14) 2), none⟩, false, [], []⟩,
 ⟨kS d93 (oLd false 1 t92), ⟨(some 93), (.ld false 1 (.t 92)), none⟩, false, [⟨(some 93), (.ld false 1 (.t 92)), none⟩], []⟩,
 ⟨kS d94 (oIa 2 t91 t93), ⟨(some 94), (.ia 2 (.t 91) (.t 93)), none⟩, false, [], []⟩,
 ⟨kS d95 (oFa t94 1), ⟨(some 95), (.fa (.t 94) 1), none⟩, false, [], []⟩,
 ⟨kS d96 (oLd false 1 t95), ⟨(some 96), (.ld false 1 (.t 95)), none⟩, false, [⟨(some 96), (.ld false 1 (.t 95)), none⟩], []⟩,
 ⟨kS d97 (oFa t14 3), ⟨(some 97), (.fa (.t 14) 3), none⟩, false, [], []⟩,
 ⟨kS d98 (oLd false 1 t97), ⟨(some 98), (.ld false 1 (.t 97)), none⟩, false, [⟨(some 98), (.ld false 1 (.t 97)), none⟩], []⟩,
 ⟨kS d99 (oBin .sub t96 t98), ⟨(some 99), (.bin .sub (.t 96) (.t 98)), none⟩, false, [], []⟩,
 ⟨kS d100 (oGen (.mx (.t 85) [(.t 99)])), ⟨(some 100), (.mx (.t 85) [(.t 99)]), none⟩, false, [], []⟩,
 ⟨kS d101 (oFa t7 2), ⟨(some 101), (.fa (.t 7) 2), none⟩, false, [], []⟩,
 ⟨kN (oSt 1 t101 t100), ⟨none, (.st 1 (.t 101) (.t 100)), none⟩, true, [], []⟩]))))))
 (kRegion [kS d102 (oBin .add t65 (gI 1)),
 kS d65 (oMv t102)])))))))
 (kSeq (kDraw [⟨kS d103 (oMv t0), ⟨(some 103), (.mv (.t 0)), none⟩, false, [], []⟩,
 ⟨kS d104 (oNilck t103), ⟨(some 104), (.nilck (.t 103)), none⟩, false, [], []⟩,
 ⟨kS d105 (oFa t104 5), ⟨(some 105), (.fa (.t 104) 5), none⟩, false, [], []⟩,
 ⟨kS d106 (oLd false 1 t105), ⟨(some 106), (.ld false 1 (.t 105)), none⟩, false, [⟨(some 106), (.ld false 1 (.t 105)), none⟩], []⟩,
 ⟨kS d107 (oLd true 6 t3), ⟨(some 107), (.ld true 6 (.t 3)), none⟩, false, [⟨(some 107), (.ld true 6 (.t 3)), none⟩], []⟩,
 ⟨kS d108 (oLd true 3 t7), ⟨(some 108), (.ld true 3 (.t 7)), none⟩, false, [⟨(some 108), (.ld true 3 (.t 7)), none⟩], []⟩,
 ⟨kN (oGen (.mapup (.ag [.i, .i, .i, .i, .i, .i]) (.t 106) (.t 107) (.t 108))), ⟨none, (.mapup (.ag [.i, .i, .i, .i, .i, .i]) (.t 106) (.t 107) (.t 108)), none⟩, true, [], []⟩])
 (kSeq (kRegion [kS d109 (oLd true 3 t7),
 kN (oSt 3 t4 t109)])
 kRet)))))))))
theorem e57 : b57 = comp ir57.code := by kernel_rfl
def k57 : KF := ⟨110, b57, [.cell 4 true 3]⟩
def b58 : KC := (kSeq (kRegion [kS d2 (oMv (gI 0))])
 (kSeq (kRegion [kS d3 (oMv (gI 0))])
 (kSeq (kSeq (kRegion [kS d6 (oMv t0),
 kS d7 (oLen false t6),
 kS d8 (oMv (gI 0))])
 (kBlock 0 (kLoop (kSeq (kRegion [kS d9 (oBin .lss t8 t7)])
 (kSeq (kCond t9 kSkip
 (kExit 0))
 (kSeq (kBlock 1 (kSeq (kRegion [kS d10 (oIa 1 t6 t8),
 kS d11 (oLd false 1 t10),
 kS d5 (oMv t11)])
 (kSeq (kRegion [kS d12 (oMv t5),
 kS d13 (oMv t3),
 kS d14 (oBin .neq t12 t13)])
 (kCond t14 (kSeq (kRegion [kS d15 (oMv t5),
 kS d2 (oMv t15)])
 kRet)
 kSkip))))
 (kRegion [kS d16 (oBin .add t8 (gI 1)),
 kS d8 (oMv t16)])))))))
 (kSeq (kRegion [kS d17 (oMv t3),
 kS d2 (oMv t17)])
 kRet))))
theorem e58 : b58 = comp ir58.code := by kernel_rfl
def k58 : KF := ⟨18, b58, [.tmp 2]⟩
def b59 : KC := (kSeq (kRegion [kS d4 (oBox t1),
 kS d5 (oBox t2),
 kS d6 (oMv (gC (.bool false)))])
 (kSeq (kRegion [kS d10 (oLd false 1 t5),
 kS d11 (oIaa 6 1 t4 t10),
 kS d12 (oLd false 1 t11),
 kS d7 (oMv t12)])
 (kSeq (kSeq (kRegion [kS d13 (oMv t7),
 kS d14 (oBin .eql t13 (gI 0))])
 (kCond t14 (kSeq (kRegion [kS d6 (oMv (gC (.bool true)))])
 kRet)
 kSkip))
 (kSeq (kRegion [kS d8 (oMv (gI 0))])
 (kSeq (kSeq (kRegion [kS d15 (oLd false 1 t5),
 kS d16 (oBin .add t15 (gI 1)),
 kS d17 (oMv (gI 0))])
 (kBlock 0 (kLoop (kSeq (kRegion [kS d18 (oBin .lss t17 t16)])
 (kSeq (kCond t18 kSkip
 (kExit 0))
 (kSeq (kBlock 1 (kSeq (kRegion [kS d19 (oMv t17),
 kS d9 (oAlloc (.int .i64 0)),
 kN (oSt 1 t9 t19)])
 (kSeq (kSeq (kRegion [kS d20 (oLd false 1 t9),
 kS d21 (oIaa 6 1 t4 t20),
 kS d22 (oLd false 1 t21),
 kS d23 (oMv t7),
 kS d24 (oBin .neq t22 t23)])
 (kCond t24 (kExit 1)
 kSkip))
 (kSeq (kDraw [⟨kS d25 (oMv t8), ⟨(some 25), (.mv (.t 8)), none⟩, false, [], []⟩,
 ⟨kS d26 (oMv t0), ⟨(some 26), (.mv (.t 0)), none⟩, false, [], []⟩,
 ⟨kS d27 (oNilck t26), ⟨(some 27), (.nilck (.t 26)), none⟩, false, [], []⟩,
 ⟨kS d28 (oFa t27 0), ⟨(some 28), (.fa (.t 27) 0), none⟩, false, [], []⟩,
 ⟨kS d29 (oFa t28 3), ⟨(some 29), (.fa (.t 28) 3), none⟩, false, [], []⟩,
 ⟨kS d30 (oLd false 1 t29), ⟨(some 30), (.ld false 1 (.t 29)), none⟩, false, [⟨(some 30), (.ld false 1 (.t 29)), none⟩], []⟩,
 ⟨kS d31 (oLd false 1 t9), ⟨(some 31), (.ld false 1 (.t 9)), none⟩, false, [⟨(some 31), (.ld false 1 (.t 9)), none⟩], []⟩,
 ⟨kS d32 (oIa 4 t30 t31), ⟨(some 32), (.ia 4 (.t 30) (.t 31)), none⟩, false, [], []⟩,
 ⟨kS d33 (oFa t32 1), ⟨(some 33), (.fa (.t 32) 1), none⟩, false, [], []⟩,
 ⟨kS d34 (oLd false 1 t33), ⟨(some 34), (.ld false 1 (.t 33)), none⟩, false, [⟨(some 34), (.ld false 1 (.t 33)), none⟩], []⟩,
 ⟨kS d35 (oBin .add t25 t34), ⟨(some 35), (.bin .add (.t 25) (.t 34)), none⟩, false, [], []⟩,
 ⟨kS d8 (oMv t35), ⟨(some 8), (.mv (.t 35)), none⟩, false, [], []⟩])
 (kSeq (kRegion [kS d36 (oMv t0),
 kS d37 (oNilck t36),
 kS d38 (oFa t37 0),
 kS d39 (oFa t38 4),
 kS d40 (oLd false 1 t39),
 kS d41 (oMkfn 81 [] [t9, t5]),
 kS d42 (oCall (gC (.func 80 [] [])) [t40, t41])])
 (kCond t42 (kSeq (kRegion [kS d6 (oMv (gC (.bool false)))])
 kRet)
 kSkip))))))
 (kRegion [kS d43 (oBin .add t17 (gI 1)),
 kS d17 (oMv t43)])))))))
 (kSeq (kRegion [kS d44 (oMv t8),
 kS d45 (oMv t0),
 kS d46 (oNilck t45),
 kS d47 (oFa t46 0),
 kS d48 (oFa t47 0),
 kS d49 (oLd false 1 t48),
 kS d50 (oMv t7),
 kS d51 (oBin .sub t50 (gI 1)),
 kS d52 (oIa 4 t49 t51),
 kS d53 (oFa t52 1),
 kS d54 (oLd false 1 t53),
 kS d55 (oBin .leq t44 t54),
 kS d6 (oMv t55)])
 kRet))))))
theorem e59 : b59 = comp ir59.code := by kernel_rfl
def k59 : KF := ⟨56, b59, [.tmp 6]⟩
def b60 : KC := (kSeq (kRegion [kS d2 (oMv (gI 0))])
 (kSeq (kCond (gC (.bool false)) (kSeq (kRegion [kS d3 (oMv t0),
 kS d4 (oGen (.conv .u32 (.t 3))),
 kS d5 (oCall (gC (.func 82 [] [])) [t4]),
 kS d2 (oMv t5)])
 kRet)
 kSkip)
 (kSeq (kRegion [kS d6 (oMv t0),
 kS d7 (oCall (gC (.func 83 [] [])) [t6]),
 kS d2 (oMv t7)])
 kRet)))
theorem e60 : b60 = comp ir60.code := by kernel_rfl
def k60 : KF := ⟨8, b60, [.tmp 2]⟩
def b61 : KC := (kSeq (kRegion [kS d4 (oMv (gI 0))])
 (kSeq (kSeq (kRegion [kS d9 (oMv t0),
 kS d10 (oLen false t9),
 kS d11 (oMv (gI 0))])
 (kBlock 0 (kLoop (kSeq (kRegion [kS d12 (oBin .lss t11 t10)])
 (kSeq (kCond t12 kSkip
 (kExit 0))
 (kSeq (kBlock 1 (kSeq (kRegion [kS d13 (oMv t11),
 kS d14 (oIa 1 t9 t11),
 kS d15 (oLd false 1 t14),
 kS d5 (oMv t13),
 kS d6 (oMv t15)])
 (kSeq (kSeq (kRegion [kS d16 (oMv t5),
 kS d17 (oMv t1),
 kS d18 (oLen false t17),
 kS d19 (oBin .geq t16 t18)])
 (kCond t19 (kSeq (kRegion [kS d4 (oMv (gI 1))])
 kRet)
 kSkip))
 (kSeq (kRegion [kS d20 (oMv t1),
 kS d21 (oMv t5),
 kS d22 (oIa 1 t20 t21),
 kS d23 (oLd false 1 t22),
 kS d7 (oMv t23)])
 (kSeq (kRegion [kS d24 (oMv t6),
 kS d25 (oMv t7),
 kS d26 (oCall (gC (.func 84 [] [])) [t24, t25]),
 kS d8 (oMv t26)])
 (kSeq (kRegion [kS d27 (oMv t8),
 kS d28 (oBin .neq t27 (gI 0))])
 (kCond t28 (kSeq (kRegion [kS d29 (oMv t8),
 kS d4 (oMv t29)])
 kRet)
 kSkip)))))))
 (kRegion [kS d30 (oBin .add t11 (gI 1)),
 kS d11 (oMv t30)])))))))
 (kSeq (kSeq (kRegion [kS d31 (oMv t0),
 kS d32 (oLen false t31),
 kS d33 (oMv t1),
 kS d34 (oLen false t33),
 kS d35 (oBin .lss t32 t34)])
 (kCond t35 (kSeq (kRegion [kS d4 (oMv (gI (-1)))])
 kRet)
 kSkip))
 (kSeq (kRegion [kS d4 (oMv (gI 0))])
 kRet))))
theorem e61 : b61 = comp ir61.code := by kernel_rfl
def k61 : KF := ⟨36, b61, [.tmp 4]⟩
def b62 : KC := (kSeq (kRegion [kS d2 (oBox t0),
 kS d4 (oAlloc (.bool false))])
 (kSeq (kRegion [kS d9 (oLd false 1 t2),
 kS d10 (oNilck t9),
 kS d11 (oLd true 6 t10),
 kS d5 (oAlloc (.agg [.nilslice, (.int .i64 0), (.int .i64 0), .nilslice, .nilslice, .nilmap])),
 kN (oSt 6 t5 t11)])
 (kSeq (kRegion [kS d12 (oGen .mkmap),
 kS d13 (oFa t5 5),
 kN (oSt 1 t13 t12),
 kS d14 (oFa t5 0),
 kS d15 (oFa t14 4),
 kN (oSt 1 t15 (gC .nilslice))])
 (kSeq (kSeq (kRegion [kS d16 (oLd false 1 t2),
 kS d17 (oNilck t16),
 kS d18 (oFa t17 0),
 kS d19 (oFa t18 4),
 kS d20 (oLd false 1 t19),
 kS d21 (oLen false t20),
 kS d22 (oMv (gI 0))])
 (kBlock 0 (kLoop (kSeq (kRegion [kS d23 (oBin .lss t22 t21)])
 (kSeq (kCond t23 kSkip
 (kExit 0))
 (kSeq (kBlock 1 (kSeq (kRegion [kS d24 (oMv t22),
 kS d25 (oIa 2 t20 t22),
 kS d26 (oLd true 2 t25),
 kS d7 (oAlloc (.agg [(.int .i64 0), (.int .i64 0)])),
 kS d6 (oMv t24),
 kN (oSt 2 t7 t26)])
 (kSeq (kRegion [kS d27 (oMv t1),
 kS d28 (oMv t6),
 kS d29 (oBin .shr t27 t28),
 kS d30 (oBin .and t29 (gI 1)),
 kS d31 (oBin .eql t30 (gI 0))])
 (kCond t31 (kRegion [kS d32 (oFa t5 0),
 kS d33 (oFa t32 4),
 kS d34 (oLd false 1 t33),
 kS d35 (oLd true 2 t7),
 kS d36 (oBldS 2 1 [(.int .i64 0), (.int .i64 0)] [(0, 2, t35)]),
 kS d37 (oGen (.app 2 16 (.t 34) (.t 36))),
 kS d38 (oFa t5 0),
 kS d39 (oFa t38 4),
 kN (oSt 1 t39 t37)])
 kSkip))))
 (kRegion [kS d40 (oBin .add t22 (gI 1)),
 kS d22 (oMv t40)])))))))
 (kSeq (kSeq (kRegion [kS d41 (oCall (gC (.func 56 [] [])) [t5])])
 (kBlock 2 (kRange t41 [42]
 (ICode.region [⟨(some 8), (.alloc (.agg [(.int .i64 0), (.int .i64 0), (.int .i64 0), (.int .i64 0), (.int .i64 0), (.int .i64 0)])), none⟩,
 ⟨none, (.st 6 (.t 8) (.t 42)), none⟩])
 (ICode.block 3
 (ICode.seq (ICode.draw [⟨⟨(some 43), (.ld true 6 (.t 8)), none⟩, false, [⟨(some 43), (.ld true 6 (.t 8)), none⟩], []⟩,
 ⟨⟨(some 44), (.call (.c (.func 57 [] [])) [(.t 5), (.t 43)]), none⟩, true, [], []⟩,
 ⟨⟨(some 45), (.fld false 0 1 (.t 44)), none⟩, false, [], []⟩,
 ⟨⟨(some 46), (.ld false 1 (.t 2)), none⟩, false, [⟨(some 46), (.ld false 1 (.t 2)), none⟩], [1]⟩,
 ⟨⟨(some 47), (.nilck (.t 46)), none⟩, false, [], []⟩,
 ⟨⟨(some 48), (.fa (.t 47) 0), none⟩, false, [], []⟩,
 ⟨⟨(some 49), (.fa (.t 48) 3), none⟩, false, [], []⟩,
 ⟨⟨(some 50), (.ld false 1 (.t 49)), none⟩, false, [⟨(some 50), (.ld false 1 (.t 49)), none⟩], [1]⟩,
 ⟨⟨(some 51), (.len false (.t 50)), none⟩, false, [], []⟩,
 ⟨⟨(some 52), (.bin .eql (.t 45) (.t 51)), none⟩, false, [], []⟩])
 (ICode.cond (.t 52)
 (ICode.seq (ICode.region [⟨none, (.st 1 (.t 4) (.c (.bool true))), none⟩])
 ICode.ret)
 ICode.skip))))))
 (kSeq (kRegion [kN (oSt 1 t4 (gC (.bool false)))])
 kRet))))))
theorem e62 : b62 = comp ir62.code := by kernel_rfl
def k62 : KF := ⟨53, b62, [.cell 4 false 1]⟩
def b63 : KC := (kSeq (kRegion [kS d0 (oAlloc (.agg [.nilslice, (.int .i64 0), (.int .i64 0), .nilslice, .nilslice]))])
 (kSeq (kRegion [kS d1 (oCall (gC (.func 68 [] [])) [(gI 60), (gI 80)]),
 kS d2 (oCall (gC (.func 68 [] [])) [(gI 30), (gI 50)]),
 kS d3 (oBldS 2 2 [(.int .i64 0), (.int .i64 0)] [(0, 2, t1), (2, 2, t2)]),
 kS d4 (oBld [(.str []), (.int .i64 0), (.int .i64 0), .nilslice] [(0, 1, (gC (.str [114, 101, 100]))), (1, 1, (gI 5)), (2, 1, (gI 100)), (3, 1, t3)]),
 kS d5 (oCall (gC (.func 68 [] [])) [(gI 50), (gI 60)]),
 kS d6 (oCall (gC (.func 68 [] [])) [(gI 30), (gI 40)]),
 kS d7 (oBldS 2 2 [(.int .i64 0), (.int .i64 0)] [(0, 2, t5), (2, 2, t6)]),
 kS d8 (oBld [(.str []), (.int .i64 0), (.int .i64 0), .nilslice] [(0, 1, (gC (.str [98, 108, 117, 101]))), (1, 1, (gI 4)), (2, 1, (gI 160)), (3, 1, t7)]),
 kS d9 (oBldS 4 2 [(.str []), (.int .i64 0), (.int .i64 0), .nilslice] [(0, 4, t4), (4, 4, t8)]),
 kS d10 (oBld [(.str []), (.int .i64 0), (.int .i64 0), (.int .i64 0)] [(0, 1, (gC (.str [104, 101, 97, 100, 115]))), (1, 1, (gI 2)), (3, 1, (gI 190))]),
 kS d11 (oBld [(.str []), (.int .i64 0), (.int .i64 0), (.int .i64 0)] [(0, 1, (gC (.str [119, 105, 103, 115]))), (1, 1, (gI 1)), (2, 1, (gI 1)), (3, 1, (gI 250))]),
 kS d12 (oBld [(.str []), (.int .i64 0), (.int .i64 0), (.int .i64 0)] [(0, 1, (gC (.str [119, 97, 120]))), (1, 1, (gI 3)), (3, 1, (gI 230))]),
 kS d13 (oBld [(.str []), (.int .i64 0), (.int .i64 0), (.int .i64 0)] [(0, 1, (gC (.str [103, 108, 97, 115, 115]))), (1, 1, (gI 2)), (2, 1, (gI 1)), (3, 1, (gI 240))]),
 kS d14 (oBldS 4 4 [(.str []), (.int .i64 0), (.int .i64 0), (.int .i64 0)] [(0, 4, t10), (4, 4, t11), (8, 4, t12), (12, 4, t13)]),
 kS d15 (oBld [(.int .i64 0), (.int .i64 0)] [(0, 1, (gI 0)), (1, 1, (gI 2))]),
 kS d16 (oBldS 2 1 [(.int .i64 0), (.int .i64 0)] [(0, 2, t15)]),
 kS d17 (oBld [.nilslice, (.int .i64 0), (.int .i64 0), .nilslice, .nilslice] [(0, 1, t9), (1, 1, (gI 2)), (2, 1, (gI 10)), (3, 1, t14), (4, 1, t16)]),
 kN (oSt 5 t0 t17)])
 kRet))
theorem e63 : b63 = comp ir63.code := by kernel_rfl
def k63 : KF := ⟨18, b63, [.cell 0 true 5]⟩
def b64 : KC := (kSeq (kRegion [kS d0 (oMv (gC .nilslice))])
 (kSeq (kRegion [kS d1 (oBldS 1 4 [(.int .i64 0)] [(0, 1, (gI 0)), (1, 1, (gI 0)), (2, 1, (gI 1)), (3, 1, (gI 0))]),
 kS d0 (oMv t1)])
 kRet))
theorem e64 : b64 = comp ir64.code := by kernel_rfl
def k64 : KF := ⟨2, b64, [.tmp 0]⟩
def b65 : KC := (kSeq (kRegion [kS d0 (oAlloc (.agg [.nilslice, (.int .i64 0), (.int .i64 0), .nilslice, .nilslice]))])
 (kSeq (kRegion [kS d3 (oCall (gC (.func 63 [] [])) []),
 kS d1 (oAlloc (.agg [.nilslice, (.int .i64 0), (.int .i64 0), .nilslice, .nilslice])),
 kN (oSt 5 t1 t3)])
 (kSeq (kRegion [kS d4 (oFa t1 0),
 kS d5 (oLd false 1 t4),
 kS d6 (oGen (.slc 4 (.t 5) none (some (.c (.int .i64 1))) none)),
 kS d7 (oFa t1 0),
 kN (oSt 1 t7 t6)])
 (kSeq (kRegion [kS d8 (oFa t1 0),
 kS d9 (oLd false 1 t8),
 kS d10 (oIa 4 t9 (gI 0)),
 kS d11 (oFa t10 1),
 kN (oSt 1 t11 (gI 9))])
 (kSeq (kSeq (kRegion [kS d2 (oMv (gI 0))])
 (kBlock 0 (kLoop (kSeq (kSeq (kRegion [kS d12 (oMv t2),
 kS d13 (oFa t1 3),
 kS d14 (oLd false 1 t13),
 kS d15 (oLen false t14),
 kS d16 (oBin .lss t12 t15)])
 (kCond t16 kSkip
 (kExit 0)))
 (kSeq (kBlock 1 (kRegion [kS d19 (oFa t1 3),
 kS d20 (oLd false 1 t19),
 kS d21 (oMv t2),
 kS d22 (oIa 4 t20 t21),
 kS d23 (oFa t22 3),
 kN (oSt 1 t23 (gI 400))]))
 (kRegion [kS d17 (oMv t2),
 kS d18 (oBin .add t17 (gI 1)),
 kS d2 (oMv t18)]))))))
 (kSeq (kRegion [kS d24 (oLd true 5 t1),
 kN (oSt 5 t0 t24)])
 kRet))))))
theorem e65 : b65 = comp ir65.code := by kernel_rfl
def k65 : KF := ⟨25, b65, [.cell 0 true 5]⟩
def b66 : KC := (kSeq (kRegion [kS d4 (oMv (gC (.bool false)))])
 (kSeq (kRegion [kS d7 (oMv t0),
 kS d8 (oLen false t7),
 kS d9 (oMv t1),
 kS d10 (oLen false t9),
 kS d11 (oBin .eql t8 t10),
 kS d5 (oMv t11)])
 (kSeq (kSeq (kRegion [kS d6 (oMv (gI 0))])
 (kBlock 0 (kLoop (kSeq (kSeq (kRegion [kS d12 (oMv t5),
 kS d13 (oMv t12),
 kG t13 true d14 (oMv t6),
 kG t13 true d15 (oMv t0),
 kG t13 true d16 (oLen false t15),
 kG t13 true d17 (oBin .lss t14 t16),
 kS d18 (oPick t13 t17 (gC (.bool false)))])
 (kCond t18 kSkip
 (kExit 0)))
 (kSeq (kBlock 1 (kDraw [⟨kS d21 (oMv t0), ⟨(some 21), (.mv (.t 0)), none⟩, false, [], []⟩,
 ⟨kS d22 (oMv t6), ⟨(some 22), (.mv (.t 6)), none⟩, false, [], []⟩,
 ⟨kS d23 (oIa 1 t21 t22), ⟨(some 23), (.ia 1 (.t 21) (.t 22)), none⟩, false, [], []⟩,
 ⟨kS d24 (oLd false 1 t23), ⟨(some 24), (.ld false 1 (.t 23)), none⟩, false, [⟨(some 24), (.ld false 1 (.t 23)), none⟩], []⟩,
 ⟨kS d25 (oMv t1), ⟨(some 25), (.mv (.t 1)), none⟩, false, [], []⟩,
 ⟨kS d26 (oMv t6), ⟨(some 26), (.mv (.t 6)), none⟩, false, [], []⟩,
 ⟨kS d27 (oIa 1 t25 t26), ⟨(some 27), (.ia 1 (.t 25) (.t 26)), none⟩, false, [], []⟩,
 ⟨kS d28 (oLd false 1 t27), ⟨(some 28), (.ld false 1 (.t 27)), none⟩, false, [⟨(some 28), (.ld false 1 (.t 27)), none⟩], []⟩,
 ⟨kS d29 (oBin .eql t24 t28), ⟨(some 29), (.bin .eql (.t 24) (.t 28)), none⟩, false, [], []⟩,
 ⟨kS d5 (oMv t29), ⟨(some 5), (.mv (.t 29)), none⟩, false, [], []⟩]))
 (kRegion [kS d19 (oMv t6),
 kS d20 (oBin .add t19 (gI 1)),
 kS d6 (oMv t20)]))))))
 (kSeq (kRegion [kS d30 (oMv t5),
 kS d4 (oMv t30)])
 kRet))))
theorem e66 : b66 = comp ir66.code := by kernel_rfl
def k66 : KF := ⟨31, b66, [.tmp 4]⟩
def b67 : KC := (kSeq (kRegion [kS d4 (oMv (gC (.bool false)))])
 (kSeq (kRegion [kS d7 (oMv t0),
 kS d8 (oLen false t7),
 kS d9 (oMv t1),
 kS d10 (oLen false t9),
 kS d11 (oBin .eql t8 t10),
 kS d5 (oMv t11)])
 (kSeq (kSeq (kRegion [kS d6 (oMv (gI 0))])
 (kBlock 0 (kLoop (kSeq (kSeq (kRegion [kS d12 (oMv t5),
 kS d13 (oMv t12),
 kG t13 true d14 (oMv t6),
 kG t13 true d15 (oMv t0),
 kG t13 true d16 (oLen false t15),
 kG t13 true d17 (oBin .lss t14 t16),
 kS d18 (oPick t13 t17 (gC (.bool false)))])
 (kCond t18 kSkip
 (kExit 0)))
 (kSeq (kBlock 1 (kDraw [⟨kS d21 (oMv t0), ⟨(some 21), (.mv (.t 0)), none⟩, false, [], []⟩,
 ⟨kS d22 (oMv t6), ⟨(some 22), (.mv (.t 6)), none⟩, false, [], []⟩,
 ⟨kS d23 (oIa 2 t21 t22), ⟨(some 23), (.ia 2 (.t 21) (.t 22)), none⟩, false, [], []⟩,
 ⟨kS d24 (oLd true 2 t23), ⟨(some 24), (.ld true 2 (.t 23)), none⟩, false, [⟨(some 24), (.ld true 2 (.t 23)), none⟩], []⟩,
 ⟨kS d25 (oMv t1), ⟨(some 25), (.mv (.t 1)), none⟩, false, [], []⟩,
 ⟨kS d26 (oMv t6), ⟨(some 26), (.mv (.t 6)), none⟩, false, [], []⟩,
 ⟨kS d27 (oIa 2 t25 t26), ⟨(some 27), (.ia 2 (.t 25) (.t 26)), none⟩, false, [], []⟩,
 ⟨kS d28 (oLd true 2 t27), ⟨(some 28), (.ld true 2 (.t 27)), none⟩, false, [⟨(some 28), (.ld true 2 (.t 27)), none⟩], []⟩,
 ⟨kS d29 (oEqv (.ag [.i, .i]) false t24 t28), ⟨(some 29), (.eqv (.ag [.i, .i]) false (.t 24) (.t 28)), none⟩, false, [], []⟩,
 ⟨kS d5 (oMv t29), ⟨(some 5), (.mv (.t 29)), none⟩, false, [], []⟩]))
 (kRegion [kS d19 (oMv t6),
 kS d20 (oBin .add t19 (gI 1)),
 kS d6 (oMv t20)]))))))
 (kSeq (kRegion [kS d30 (oMv t5),
 kS d4 (oMv t30)])
 kRet))))
theorem e67 : b67 = comp ir67.code := by kernel_rfl
def k67 : KF := ⟨31, b67, [.tmp 4]⟩
def b68 : KC := (kSeq (kRegion [kS d4 (oAlloc (.agg [(.int .i64 0), (.int .i64 0)]))])
 (kSeq (kRegion [kS d5 (oMv t0),
 kS d6 (oMv t1),
 kS d7 (oBld [(.int .i64 0), (.int .i64 0)] [(0, 1, t5), (1, 1, t6)]),
 kN (oSt 2 t4 t7)])
 kRet))
theorem e68 : b68 = comp ir68.code := by kernel_rfl
def k68 : KF := ⟨8, b68, [.cell 4 true 2]⟩
def b72 : KC := (kSeq (kRegion [kS d4 (oMv (gC (.bool false)))])
 (kSeq (kRegion [kS d5 (oMv t0),
 kS d6 (oMv t1),
 kS d7 (oCall (gC (.func 91 [] [])) [t5, t6]),
 kS d8 (oBin .geq t7 (gI 0)),
 kS d4 (oMv t8)])
 kRet))
theorem e72 : b72 = comp ir72.code := by kernel_rfl
def k72 : KF := ⟨9, b72, [.tmp 4]⟩
def b73 : KC := (kSeq (kRegion [kS d4 (oMv (gC (.bool false)))])
 (kSeq (kRegion [kS d5 (oMv t0),
 kS d6 (oLd false 1 t1),
 kS d7 (oBin .lss t5 t6),
 kS d8 (oMv t7),
 kG t8 false d9 (oMv t0),
 kG t8 false d10 (oLd false 1 t2),
 kG t8 false d11 (oBin .gtr t9 t10),
 kS d12 (oPick t8 (gC (.bool true)) t11),
 kS d4 (oMv t12)])
 kRet))
theorem e73 : b73 = comp ir73.code := by kernel_rfl
def k73 : KF := ⟨13, b73, [.tmp 4]⟩
def b74 : KC := (kSeq (kRegion [kS d3 (oBox t0),
 kS d4 (oBox t1),
 kS d5 (oBox t2),
 kS d6 (oMv (gI 0))])
 (kSeq (kBlock 0 (kSeq (kDraw [⟨kS d8 (oLd false 1 t5), ⟨(some 8), (.ld false 1 (.t 5)), none⟩, false, [⟨(some 8), (.ld false 1 (.t 5)), none⟩], []⟩,
 ⟨kS d9 (oLd false 1 t3), ⟨(some 9), (.ld false 1 (.t 3)), none⟩, false, [⟨(some 9), (.ld false 1 (.t 3)), none⟩], []⟩,
 ⟨kS d10 (oLd false 1 t4), ⟨(some 10), (.ld false 1 (.t 4)), none⟩, false, [⟨(some 10), (.ld false 1 (.t 4)), none⟩], []⟩,
 ⟨kS d11 (oIa 4 t9 t10), ⟨(some 11), (.ia 4 (.t 9) (.t 10)), none⟩, false, [], []⟩,
 ⟨kS d12 (oLd true 4 t11), ⟨(some 12), (.ld true 4 (.t 11)), none⟩, false, [⟨(some 12), (.ld true 4 (.t 11)), none⟩], []⟩,
 ⟨kS d13 (oCall t8 [t12]), ⟨(some 13), (.call (.t 8) [(.t 12)]), none⟩, true, [], []⟩,
 ⟨kS d14 (oCall (gC (.func 92 [] [])) [t13]), ⟨(some 14), (.call (.c (.func 92 [] [])) [(.t 13)]), none⟩, true, [], []⟩,
 ⟨kS d15 (oNot t14), ⟨(some 15), (.un .not (.t 14)), none⟩, false, [], []⟩,
 ⟨kS d7 (oMv t15), ⟨(some 7), (.mv (.t 15)), none⟩, false, [], []⟩])
 (kCond t7 (kSeq (kRegion [kS d6 (oMv (gI 6))])
 kRet)
 (kSeq (kRegion [kS d17 (oLd false 1 t3),
 kS d18 (oLd false 1 t4),
 kS d19 (oGen (.slc 4 (.t 17) none (some (.t 18)) none)),
 kS d20 (oMkfn 94 [] [t5, t3, t4]),
 kS d21 (oCall (gC (.func 93 [] [])) [t19, t20]),
 kS d16 (oMv t21)])
 (kCond t16 (kSeq (kRegion [kS d6 (oMv (gI 5))])
 kRet)
 kSkip)))))
 (kSeq (kRegion [kS d6 (oMv (gI 0))])
 kRet)))
theorem e74 : b74 = comp ir74.code := by kernel_rfl
def k74 : KF := ⟨22, b74, [.tmp 6]⟩
def b75 : KC := (kSeq (kRegion [kS d1 (oBox t0),
 kS d2 (oMv (gC (.str [])))])
 (kSeq (kRegion [kS d3 (oFa t1 0),
 kS d4 (oLd false 1 t3),
 kS d2 (oMv t4)])
 kRet))
theorem e75 : b75 = comp ir75.code := by kernel_rfl
def k75 : KF := ⟨5, b75, [.tmp 2]⟩
def b76 : KC := (kSeq (kRegion [kS d3 (oBox t0),
 kS d4 (oBox t1),
 kS d5 (oBox t2),
 kS d6 (oMv (gI 0))])
 (kSeq (kBlock 0 (kSeq (kDraw [⟨kS d8 (oLd false 1 t5), ⟨(some 8), (.ld false 1 (.t 5)), none⟩, false, [⟨(some 8), (.ld false 1 (.t 5)), none⟩], []⟩,
 ⟨kS d9 (oLd false 1 t3), ⟨(some 9), (.ld false 1 (.t 3)), none⟩, false, [⟨(some 9), (.ld false 1 (.t 3)), none⟩], []⟩,
 ⟨kS d10 (oLd false 1 t4), ⟨(some 10), (.ld false 1 (.t 4)), none⟩, false, [⟨(some 10), (.ld false 1 (.t 4)), none⟩], []⟩,
 ⟨kS d11 (oIa 4 t9 t10), ⟨(some 11), (.ia 4 (.t 9) (.t 10)), none⟩, false, [], []⟩,
 ⟨kS d12 (oLd true 4 t11), ⟨(some 12), (.ld true 4 (.t 11)), none⟩, false, [⟨(some 12), (.ld true 4 (.t 11)), none⟩], []⟩,
 ⟨kS d13 (oCall t8 [t12]), ⟨(some 13), (.call (.t 8) [(.t 12)]), none⟩, true, [], []⟩,
 ⟨kS d14 (oCall (gC (.func 92 [] [])) [t13]), ⟨(some 14), (.call (.c (.func 92 [] [])) [(.t 13)]), none⟩, true, [], []⟩,
 ⟨kS d15 (oNot t14), ⟨(some 15), (.un .not (.t 14)), none⟩, false, [], []⟩,
 ⟨kS d7 (oMv t15), ⟨(some 7), (.mv (.t 15)), none⟩, false, [], []⟩])
 (kCond t7 (kSeq (kRegion [kS d6 (oMv (gI 6))])
 kRet)
 (kSeq (kRegion [kS d17 (oLd false 1 t3),
 kS d18 (oLd false 1 t4),
 kS d19 (oGen (.slc 4 (.t 17) none (some (.t 18)) none)),
 kS d20 (oMkfn 96 [] [t5, t3, t4]),
 kS d21 (oCall (gC (.func 95 [] [])) [t19, t20]),
 kS d16 (oMv t21)])
 (kCond t16 (kSeq (kRegion [kS d6 (oMv (gI 5))])
 kRet)
 kSkip)))))
 (kSeq (kRegion [kS d6 (oMv (gI 0))])
 kRet)))
theorem e76 : b76 = comp ir76.code := by kernel_rfl
def k76 : KF := ⟨22, b76, [.tmp 6]⟩
def b77 : KC := (kSeq (kRegion [kS d1 (oBox t0),
 kS d2 (oMv (gC (.str [])))])
 (kSeq (kRegion [kS d3 (oFa t1 0),
 kS d4 (oLd false 1 t3),
 kS d2 (oMv t4)])
 kRet))
theorem e77 : b77 = comp ir77.code := by kernel_rfl
def k77 : KF := ⟨5, b77, [.tmp 2]⟩
def b78 : KC := (kSeq (kRegion [kS d2 (oBox t0)])
 (kSeq (kRegion [kS d3 (oAlloc (.agg [(.int .i64 0), (.int .i64 0), (.int .i64 0), (.int .i64 0), (.int .i64 0), (.int .i64 0)]))])
 (kSeq (kRegion [kS d4 (oAlloc .nilfunc)])
 (kSeq (kRegion [kS d5 (oMkfn 79 [] [t1, t2, t3, t4]),
 kN (oSt 1 t4 t5)])
 (kRegion [kS d6 (oLd false 1 t4),
 kS d7 (oCall t6 [(gI 0)])])))))
theorem e78 : b78 = comp ir78.code := by kernel_rfl
def k78 : KF := ⟨8, b78, []⟩
def b79 : KC := (kSeq (kRegion [kS d6 (oMv (gC (.bool false)))])
 (kSeq (kSeq (kRegion [kS d8 (oMv t0),
 kS d9 (oLd false 1 t1),
 kS d10 (oNilck t9),
 kS d11 (oFa t10 0),
 kS d12 (oFa t11 3),
 kS d13 (oLd false 1 t12),
 kS d14 (oLen false t13),
 kS d15 (oBin .eql t8 t14)])
 (kCond t15 (kSeq (kRegion [kS d16 (oLd false 1 t2),
 kS d17 (oLd true 6 t3),
 kS d18 (oCall t16 [t17]),
 kS d6 (oMv t18)])
 kRet)
 kSkip))
 (kSeq (kSeq (kRegion [kS d19 (oLd false 1 t1),
 kS d20 (oNilck t19),
 kS d21 (oFa t20 0),
 kS d22 (oFa t21 0),
 kS d23 (oLd false 1 t22),
 kS d24 (oLen false t23),
 kS d25 (oBin .add t24 (gI 1)),
 kS d26 (oMv (gI 0))])
 (kBlock 0 (kLoop (kSeq (kRegion [kS d27 (oBin .lss t26 t25)])
 (kSeq (kCond t27 kSkip
 (kExit 0))
 (kSeq (kBlock 1 (kSeq (kRegion [kS d28 (oMv t26),
 kS d7 (oMv t28)])
 (kSeq (kRegion [kS d29 (oMv t0),
 kS d30 (oMv t7),
 kS d31 (oBin .add t30 (gI 1)),
 kS d32 (oLd false 1 t1),
 kS d33 (oNilck t32),
 kS d34 (oFa t33 0),
 kS d35 (oFa t34 0),
 kS d36 (oLd false 1 t35),
 kS d37 (oLen false t36),
 kS d38 (oBin .add t37 (gI 1)),
 kS d39 (oBin .rem t31 t38),
 kS d40 (oIaa 6 1 t3 t29),
 kN (oSt 1 t40 t39)])
 (kSeq (kRegion [kS d41 (oLd false 1 t1),
 kS d42 (oLd true 6 t3),
 kS d43 (oMv t0),
 kS d44 (oCall (gC (.func 59 [] [])) [t41, t42, t43]),
 kS d45 (oMv t44),
 kG t45 true d46 (oLd false 1 t4),
 kG t45 true d47 (oMv t0),
 kG t45 true d48 (oBin .add t47 (gI 1)),
 kG t45 true d49 (oCall t46 [t48]),
 kG t45 true d50 (oNot t49),
 kS d51 (oPick t45 t50 (gC (.bool false)))])
 (kCond t51 (kSeq (kRegion [kS d6 (oMv (gC (.bool false)))])
 kRet)
 kSkip)))))
 (kRegion [kS d52 (oBin .add t26 (gI 1)),
 kS d26 (oMv t52)])))))))
 (kSeq (kRegion [kS d53 (oMv t0),
 kS d54 (oIaa 6 1 t3 t53),
 kN (oSt 1 t54 (gI 0))])
 (kSeq (kRegion [kS d6 (oMv (gC (.bool true)))])
 kRet)))))
theorem e79 : b79 = comp ir79.code := by kernel_rfl
def k79 : KF := ⟨55, b79, [.tmp 6]⟩
def b80 : KC := (kSeq (kRegion [kS d4 (oMv (gC (.bool false)))])
 (kSeq (kRegion [kS d5 (oMv t0),
 kS d6 (oMv t1),
 kS d7 (oCall (gC (.func 97 [] [])) [t5, t6]),
 kS d8 (oBin .geq t7 (gI 0)),
 kS d4 (oMv t8)])
 kRet))
theorem e80 : b80 = comp ir80.code := by kernel_rfl
def k80 : KF := ⟨9, b80, [.tmp 4]⟩
def b81 : KC := (kSeq (kRegion [kS d3 (oBox t0),
 kS d4 (oMv (gC (.bool false)))])
 (kSeq (kRegion [kS d5 (oLd true 2 t3),
 kS d6 (oLd false 1 t1),
 kS d7 (oLd false 1 t2),
 kS d8 (oBld [(.int .i64 0), (.int .i64 0)] [(0, 1, t6), (1, 1, t7)]),
 kS d9 (oEqv (.ag [.i, .i]) false t5 t8),
 kS d4 (oMv t9)])
 kRet))
theorem e81 : b81 = comp ir81.code := by kernel_rfl
def k81 : KF := ⟨10, b81, [.tmp 4]⟩
def b82 : KC := (kSeq (kRegion [kS d2 (oMv (gI 0))])
 (kSeq (kDraw [⟨kS d3 (oMv t0), ⟨(some 3), (.mv (.t 0)), none⟩, false, [], []⟩,
 ⟨kS d4 (oBin .shr t3 (gC (.int .u64 24))), ⟨(some 4), (.bin .shr (.t 3) (.c (.int .u64 24))), none⟩, false, [], []⟩,
 ⟨kS d5 (oIxs (gC (.str [0, 1, 1, 2, 1, 2, 2, 3, 1, 2, 2, 3, 2, 3, 3, 4, 1, 2, 2, 3, 2, 3, 3, 4, 2, 3, 3, 4, 3, 4, 4, 5, 1, 2, 2, 3, 2, 3, 3, 4, 2, 3, 3, 4, 3, 4, 4, 5, 2, 3, 3, 4, 3, 4, 4, 5, 3, 4, 4, 5, 4, 5, 5, 6, 1, 2, 2, 3, 2, 3, 3, 4, 2, 3, 3, 4, 3, 4, 4, 5, 2, 3, 3, 4, 3, 4, 4, 5, 3, 4, 4, 5, 4, 5, 5, 6, 2, 3, 3, 4, 3, 4, 4, 5, 3, 4, 4, 5, 4, 5, 5, 6, 3, 4, 4, 5, 4, 5, 5, 6, 4, 5, 5, 6, 5, 6, 6, 7, 1, 2, 2, 3, 2, 3, 3, 4, 2, 3, 3, 4, 3, 4, 4, 5, 2, 3, 3, 4, 3, 4, 4, 5, 3, 4, 4, 5, 4, 5, 5, 6, 2, 3, 3, 4, 3, 4, 4, 5, 3, 4, 4, 5, 4, 5, 5, 6, 3, 4, 4, 5, 4, 5, 5, 6, 4, 5, 5, 6, 5, 6, 6, 7, 2, 3, 3, 4, 3, 4, 4, 5, 3, 4, 4, 5, 4, 5, 5, 6, 3, 4, 4, 5, 4, 5, 5, 6, 4, 5, 5, 6, 5, 6, 6, 7, 3, 4, 4, 5, 4, 5, 5, 6, 4, 5, 5, 6, 5, 6, 6, 7, 4, 5, 5, 6, 5, 6, 6, 7, 5, 6, 6, 7, 6, 7, 7, 8])) t4), ⟨(some 5), (.ixs (.c (.str [0, 1, 1, 2, 1, 2, 2, 3, 1, 2, 2, 3, 2, 3, 3, 4, 1, 2, 2, 3, 2, 3, 3, 4, 2, 3, 3, 4, 3, 4, 4, 5, 1, 2, 2, 3, 2, 3, 3, 4, 2, 3, 3, 4, 3, 4, 4, 5, 2, 3, 3, 4, 3, 4, 4, 5, 3, 4, 4, 5, 4, 5, 5, 6, 1, 2, 2, 3, 2, 3, 3, 4, 2, 3, 3, 4, 3, 4, 4, 5, 2, 3, 3, 4, 3, 4, 4, 5, 3, 4, 4, 5, 4, 5, 5, 6, 2, 3, 3, 4, 3, 4, 4, 5, 3, 4, 4, 5, 4, 5, 5, 6, 3, 4, 4, 5, 4, 5, 5, 6, 4, 5, 5, 6, 5, 6, 6, 7, 1, 2, 2, 3, 2, 3, 3, 4, 2, 3, 3, 4, 3, 4, 4, 5, 2, 3, 3, 4, 3, 4, 4, 5, 3, 4, 4, 5, 4, 5, 5, 6, 2, 3, 3, 4, 3, 4, 4, 5, 3, 4, 4, 5, 4, 5, 5, 6, 3, 4, 4, 5, 4, 5, 5, 6, 4, 5, 5, 6, 5, 6, 6, 7, 2, 3, 3, 4, 3, 4, 4, 5, 3, 4, 4, 5, 4, 5, 5, 6, 3, 4, 4, 5, 4, 5, 5, 6, 4, 5, 5, 6, 5, 6, 6, 7, 3, 4, 4, 5, 4, 5, 5, 6, 4, 5, 5, 6, 5, 6, 6, 7, 4, 5, 5, 6, 5, 6, 6, 7, 5, 6, 6, 7, 6, 7, 7, 8])) (.t 4)), none⟩, false, [], []⟩,
 ⟨kS d6 (oMv t0), ⟨(some 6), (.mv (.t 0)), none⟩, false, [], []⟩,
 ⟨kS d7 (oBin .shr t6 (gC (.int .u64 16))), ⟨(some 7), (.bin .shr (.t 6) (.c (.int .u64 16))), none⟩, false, [], []⟩,
 ⟨kS d8 (oBin .and t7 (gC (.int .u32 255))), ⟨(some 8), (.bin .and (.t 7) (.c (.int .u32 255))), none⟩, false, [], []⟩,
 ⟨kS d9 (oIxs (gC (.str [0, 1, 1, 2, 1, 2, 2, 3, 1, 2, 2, 3, 2, 3, 3, 4, 1, 2, 2, 3, 2, 3, 3, 4, 2, 3, 3, 4, 3, 4, 4, 5, 1, 2, 2, 3, 2, 3, 3, 4, 2, 3, 3, 4, 3, 4, 4, 5, 2, 3, 3, 4, 3, 4, 4, 5, 3, 4, 4, 5, 4, 5, 5, 6, 1, 2, 2, 3, 2, 3, 3, 4, 2, 3, 3, 4, 3, 4, 4, 5, 2, 3, 3, 4, 3, 4, 4, 5, 3, 4, 4, 5, 4, 5, 5, 6, 2, 3, 3, 4, 3, 4, 4, 5, 3, 4, 4, 5, 4, 5, 5, 6, 3, 4, 4, 5, 4, 5, 5, 6, 4, 5, 5, 6, 5, 6, 6, 7, 1, 2, 2, 3, 2, 3, 3, 4, 2, 3, 3, 4, 3, 4, 4, 5, 2, 3, 3, 4, 3, 4, 4, 5, 3, 4, 4, 5, 4, 5, 5, 6, 2, 3, 3, 4, 3, 4, 4, 5, 3, 4, 4, 5, 4, 5, 5, 6, 3, 4, 4, 5, 4, 5, 5, 6, 4, 5, 5, 6, 5, 6, 6, 7, 2, 3, 3, 4, 3, 4, 4, 5, 3, 4, 4, 5, 4, 5, 5, 6, 3, 4, 4, 5, 4, 5, 5, 6, 4, 5, 5, 6, 5, 6, 6, 7, 3, 4, 4, 5, 4, 5, 5, 6, 4, 5, 5, 6, 5, 6, 6, 7, 4, 5, 5, 6, 5, 6, 6, 7, 5, 6, 6, 7, 6, 7, 7, 8])) t8), ⟨(some 9), (.ixs (.c (.str [0, 1, 1, 2, 1, 2, 2, 3, 1, 2, 2, 3, 2, 3, 3, 4, 1, 2, 2, 3, 2, 3, 3, 4, 2, 3, 3, 4, 3, 4, 4, 5, 1, 2, 2, 3, 2, 3, 3, 4, 2, 3, 3, 4, 3, 4, 4, 5, 2, 3, 3, 4, 3, 4, 4, 5, 3, 4, 4, 5, 4, 5, 5, 6, 1, 2, 2, 3, 2, 3, 3, 4, 2, 3, 3, 4, 3, 4, 4, 5, 2, 3, 3, 4, 3, 4, 4, 5, 3, 4, 4, 5, 4, 5, 5, 6, 2, 3, 3, 4, 3, 4, 4, 5, 3, 4, 4, 5, 4, 5, 5, 6, 3, 4, 4, 5, 4, 5, 5, 6, 4, 5, 5, 6, 5, 6, 6, 7, 1, 2, 2, 3, 2, 3, 3, 4, 2, 3, 3, 4, 3, 4, 4, 5, 2, 3, 3, 4, 3, 4, 4, 5, 3, 4, 4, 5, 4, 5, 5, 6, 2, 3, 3, 4, 3, 4, 4, 5, 3, 4, 4, 5, 4, 5, 5, 6, 3, 4, 4, 5, 4, 5, 5, 6, 4, 5, 5, 6, 5, 6, 6, 7, 2, 3, 3, 4, 3, 4, 4, 5, 3, 4, 4, 5, 4, 5, 5, 6, 3, 4, 4, 5, 4, 5, 5, 6, 4, 5, 5, 6, 5, 6, 6, 7, 3, 4, 4, 5, 4, 5, 5, 6, 4, 5, 5, 6, 5, 6, 6, 7, 4, 5, 5, 6, 5, 6, 6, 7, 5, 6, 6, 7, 6, 7, 7, 8])) (.t 8)), none⟩, false, [], []⟩,
 ⟨kS d10 (oBin .add t5 t9), ⟨(some 10), (.bin .add (.t 5) (.t 9)), none⟩, false, [], []⟩,
 ⟨kS d11 (oMv t0), ⟨(some 11), (.mv (.t 0)), none⟩, false, [], []⟩,
 ⟨kS d12 (oBin .shr t11 (gC (.int .u64 8))), ⟨(some 12), (.bin .shr (.t 11) (.c (.int .u64 8))), none⟩, false, [], []⟩,
 ⟨kS d13 (oBin .and t12 (gC (.int .u32 255))), ⟨(some 13), (.bin .and (.t 12) (.c (.int .u32 255))), none⟩, false, [], []⟩,
 ⟨kS d14 (oIxs (gC (.str [0, 1, 1, 2, 1, 2, 2, 3, 1, 2, 2, 3, 2, 3, 3, 4, 1, 2, 2, 3, 2, 3, 3, 4, 2, 3, 3, 4, 3, 4, 4, 5, 1, 2, 2, 3, 2, 3, 3, 4, 2, 3, 3, 4, 3, 4, 4, 5, 2, 3, 3, 4, 3, 4, 4, 5, 3, 4, 4, 5, 4, 5, 5, 6, 1, 2, 2, 3, 2, 3, 3, 4, 2, 3, 3, 4, 3, 4, 4, 5, 2, 3, 3, 4, 3, 4, 4, 5, 3, 4, 4, 5, 4, 5, 5, 6, 2, 3, 3, 4, 3, 4, 4, 5, 3, 4, 4, 5, 4, 5, 5, 6, 3, 4, 4, 5, 4, 5, 5, 6, 4, 5, 5, 6, 5, 6, 6, 7, 1, 2, 2, 3, 2, 3, 3, 4, 2, 3, 3, 4, 3, 4, 4, 5, 2, 3, 3, 4, 3, 4, 4, 5, 3, 4, 4, 5, 4, 5, 5, 6, 2, 3, 3, 4, 3, 4, 4, 5, 3, 4, 4, 5, 4, 5, 5, 6, 3, 4, 4, 5, 4, 5, 5, 6, 4, 5, 5, 6, 5, 6, 6, 7, 2, 3, 3, 4, 3, 4, 4, 5, 3, 4, 4, 5, 4, 5, 5, 6, 3, 4, 4, 5, 4, 5, 5, 6, 4, 5, 5, 6, 5, 6, 6, 7, 3, 4, 4, 5, 4, 5, 5, 6, 4, 5, 5, 6, 5, 6, 6, 7, 4, 5, 5, 6, 5, 6, 6, 7, 5, 6, 6, 7, 6, 7, 7, 8])) t13), ⟨(some 14), (.ixs (.c (.str [0, 1, 1, 2, 1, 2, 2, 3, 1, 2, 2, 3, 2, 3, 3, 4, 1, 2, 2, 3, 2, 3, 3, 4, 2, 3, 3, 4, 3, 4, 4, 5, 1, 2, 2, 3, 2, 3, 3, 4, 2, 3, 3, 4, 3, 4, 4, 5, 2, 3, 3, 4, 3, 4, 4, 5, 3, 4, 4, 5, 4, 5, 5, 6, 1, 2, 2, 3, 2, 3, 3, 4, 2, 3, 3, 4, 3, 4, 4, 5, 2, 3, 3, 4, 3, 4, 4, 5, 3, 4, 4, 5, 4, 5, 5, 6, 2, 3, 3, 4, 3, 4, 4, 5, 3, 4, 4, 5, 4, 5, 5, 6, 3, 4, 4, 5, 4, 5, 5, 6, 4, 5, 5, 6, 5, 6, 6, 7, 1, 2, 2, 3, 2, 3, 3, 4, 2, 3, 3, 4, 3, 4, 4, 5, 2, 3, 3, 4, 3, 4, 4, 5, 3, 4, 4, 5, 4, 5, 5, 6, 2, 3, 3, 4, 3, 4, 4, 5, 3, 4, 4, 5, 4, 5, 5, 6, 3, 4, 4, 5, 4, 5, 5, 6, 4, 5, 5, 6, 5, 6, 6, 7, 2, 3, 3, 4, 3, 4, 4, 5, 3, 4, 4, 5, 4, 5, 5, 6, 3, 4, 4, 5, 4, 5, 5, 6, 4, 5, 5, 6, 5, 6, 6, 7, 3, 4, 4, 5, 4, 5, 5, 6, 4, 5, 5, 6, 5, 6, 6, 7, 4, 5, 5, 6, 5, 6, 6, 7, 5, 6, 6, 7, 6, 7, 7, 8])) (.t 13)), none⟩, false, [], []⟩,
 ⟨kS d15 (oBin .add t10 t14), ⟨(some 15), (.bin .add (.t 10) (.t 14)), none⟩, false, [], []⟩,
 ⟨kS d16 (oMv t0), ⟨(some 16), (.mv (.t 0)), none⟩, false, [], []⟩,
 ⟨kS d17 (oBin .and t16 (gC (.int .u32 255))), ⟨(some 17), (.bin .and (.t 16) (.c (.int .u32 255))), none⟩, false, [], []⟩,
 ⟨kS d18 (oIxs (gC (.str [0, 1, 1, 2, 1, 2, 2, 3, 1, 2, 2, 3, 2, 3, 3, 4, 1, 2, 2, 3, 2, 3, 3, 4, 2, 3, 3, 4, 3, 4, 4, 5, 1, 2, 2, 3, 2, 3, 3, 4, 2, 3, 3, 4, 3, 4, 4, 5, 2, 3, 3, 4, 3, 4, 4, 5, 3, 4, 4, 5, 4, 5, 5, 6, 1, 2, 2, 3, 2, 3, 3, 4, 2, 3, 3, 4, 3, 4, 4, 5, 2, 3, 3, 4, 3, 4, 4, 5, 3, 4, 4, 5, 4, 5, 5, 6, 2, 3, 3, 4, 3, 4, 4, 5, 3, 4, 4, 5, 4, 5, 5, 6, 3, 4, 4, 5, 4, 5, 5, 6, 4, 5, 5, 6, 5, 6, 6, 7, 1, 2, 2, 3, 2, 3, 3, 4, 2, 3, 3, 4, 3, 4, 4, 5, 2, 3, 3, 4, 3, 4, 4, 5, 3, 4, 4, 5, 4, 5, 5, 6, 2, 3, 3, 4, 3, 4, 4, 5, 3, 4, 4, 5, 4, 5, 5, 6, 3, 4, 4, 5, 4, 5, 5, 6, 4, 5, 5, 6, 5, 6, 6, 7, 2, 3, 3, 4, 3, 4, 4, 5, 3, 4, 4, 5, 4, 5, 5, 6, 3, 4, 4, 5, 4, 5, 5, 6, 4, 5, 5, 6, 5, 6, 6, 7, 3, 4, 4, 5, 4, 5, 5, 6, 4, 5, 5, 6, 5, 6, 6, 7, 4, 5, 5, 6, 5, 6, 6, 7, 5, 6, 6, 7, 6, 7, 7, 8])) t17), ⟨(some 18), (.ixs (.c (.str [0, 1, 1, 2, 1, 2, 2, 3, 1, 2, 2, 3, 2, 3, 3, 4, 1, 2, 2, 3, 2, 3, 3, 4, 2, 3, 3, 4, 3, 4, 4, 5, 1, 2, 2, 3, 2, 3, 3, 4, 2, 3, 3, 4, 3, 4, 4, 5, 2, 3, 3, 4, 3, 4, 4, 5, 3, 4, 4, 5, 4, 5, 5, 6, 1, 2, 2, 3, 2, 3, 3, 4, 2, 3, 3, 4, 3, 4, 4, 5, 2, 3, 3, 4, 3, 4, 4, 5, 3, 4, 4, 5, 4, 5, 5, 6, 2, 3, 3, 4, 3, 4, 4, 5, 3, 4, 4, 5, 4, 5, 5, 6, 3, 4, 4, 5, 4, 5, 5, 6, 4, 5, 5, 6, 5, 6, 6, 7, 1, 2, 2, 3, 2, 3, 3, 4, 2, 3, 3, 4, 3, 4, 4, 5, 2, 3, 3, 4, 3, 4, 4, 5, 3, 4, 4, 5, 4, 5, 5, 6, 2, 3, 3, 4, 3, 4, 4, 5, 3, 4, 4, 5, 4, 5, 5, 6, 3, 4, 4, 5, 4, 5, 5, 6, 4, 5, 5, 6, 5, 6, 6, 7, 2, 3, 3, 4, 3, 4, 4, 5, 3, 4, 4, 5, 4, 5, 5, 6, 3, 4, 4, 5, 4, 5, 5, 6, 4, 5, 5, 6, 5, 6, 6, 7, 3, 4, 4, 5, 4, 5, 5, 6, 4, 5, 5, 6, 5, 6, 6, 7, 4, 5, 5, 6, 5, 6, 6, 7, 5, 6, 6, 7, 6, 7, 7, 8])) (.t 17)), none⟩, false, [], []⟩,
 ⟨kS d19 (oBin .add t15 t18), ⟨(some 19), (.bin .add (.t 15) (.t 18)), none⟩, false, [], []⟩,
 ⟨kS d20 (oGen (.conv .i64 (.t 19))), ⟨(some 20), (.conv .i64 (.t 19)), none⟩, false, [], []⟩,
 ⟨kS d2 (oMv t20), ⟨(some 2), (.mv (.t 20)), none⟩, false, [], []⟩])
 kRet))
theorem e82 : b82 = comp ir82.code := by kernel_rfl
def k82 : KF := ⟨21, b82, [.tmp 2]⟩
def b83 : KC := (kSeq (kRegion [kS d2 (oMv (gI 0))])
 (kSeq (kRegion [kS d3 (oMv t0),
 kS d4 (oBin .shr t3 (gC (.int .u64 1))),
 kS d5 (oBin .and t4 (gC (.int .u64 6148914691236517205))),
 kS d6 (oMv t0),
 kS d7 (oBin .and t6 (gC (.int .u64 6148914691236517205))),
 kS d8 (oBin .add t5 t7),
 kS d0 (oMv t8)])
 (kSeq (kRegion [kS d9 (oMv t0),
 kS d10 (oBin .shr t9 (gC (.int .u64 2))),
 kS d11 (oBin .and t10 (gC (.int .u64 3689348814741910323))),
 kS d12 (oMv t0),
 kS d13 (oBin .and t12 (gC (.int .u64 3689348814741910323))),
 kS d14 (oBin .add t11 t13),
 kS d0 (oMv t14)])
 (kSeq (kRegion [kS d15 (oMv t0),
 kS d16 (oBin .shr t15 (gC (.int .u64 4))),
 kS d17 (oMv t0),
 kS d18 (oBin .add t16 t17),
 kS d19 (oBin .and t18 (gC (.int .u64 1085102592571150095))),
 kS d0 (oMv t19)])
 (kSeq (kRegion [kS d20 (oMv t0),
 kS d21 (oMv t0),
 kS d22 (oBin .shr t21 (gC (.int .u64 8))),
 kS d23 (oBin .add t20 t22),
 kS d0 (oMv t23)])
 (kSeq (kRegion [kS d24 (oMv t0),
 kS d25 (oMv t0),
 kS d26 (oBin .shr t25 (gC (.int .u64 16))),
 kS d27 (oBin .add t24 t26),
 kS d0 (oMv t27)])
 (kSeq (kRegion [kS d28 (oMv t0),
 kS d29 (oMv t0),
 kS d30 (oBin .shr t29 (gC (.int .u64 32))),
 kS d31 (oBin .add t28 t30),
 kS d0 (oMv t31)])
 (kSeq (kRegion [kS d32 (oMv t0),
 kS d33 (oGen (.conv .i64 (.t 32))),
 kS d34 (oBin .and t33 (gI 127)),
 kS d2 (oMv t34)])
 kRet))))))))
theorem e83 : b83 = comp ir83.code := by kernel_rfl
def k83 : KF := ⟨35, b83, [.tmp 2]⟩
def b84 : KC := (kSeq (kRegion [kS d4 (oMv (gI 0))])
 (kSeq (kRegion [kS d7 (oMv t0),
 kS d8 (oCall (gC (.func 98 [] [])) [t7]),
 kS d5 (oMv t8)])
 (kSeq (kRegion [kS d9 (oMv t1),
 kS d10 (oCall (gC (.func 98 [] [])) [t9]),
 kS d6 (oMv t10)])
 (kSeq (kSeq (kRegion [kS d11 (oMv t5)])
 (kCond t11 (kSeq (kSeq (kRegion [kS d12 (oMv t6)])
 (kCond t12 (kSeq (kRegion [kS d4 (oMv (gI 0))])
 kRet)
 kSkip))
 (kSeq (kRegion [kS d4 (oMv (gI (-1)))])
 kRet))
 kSkip))
 (kSeq (kSeq (kRegion [kS d13 (oMv t6)])
 (kCond t13 (kSeq (kRegion [kS d4 (oMv (gI 1))])
 kRet)
 kSkip))
 (kSeq (kSeq (kRegion [kS d14 (oMv t0),
 kS d15 (oMv t1),
 kS d16 (oBin .lss t14 t15)])
 (kCond t16 (kSeq (kRegion [kS d4 (oMv (gI (-1)))])
 kRet)
 kSkip))
 (kSeq (kSeq (kRegion [kS d17 (oMv t0),
 kS d18 (oMv t1),
 kS d19 (oBin .gtr t17 t18)])
 (kCond t19 (kSeq (kRegion [kS d4 (oMv (gI 1))])
 kRet)
 kSkip))
 (kSeq (kRegion [kS d4 (oMv (gI 0))])
 kRet))))))))
theorem e84 : b84 = comp ir84.code := by kernel_rfl
def k84 : KF := ⟨20, b84, [.tmp 4]⟩
def b91 : KC := (kSeq (kRegion [kS d4 (oMv (gI 0))])
 (kSeq (kSeq (kRegion [kS d6 (oMv t0),
 kS d7 (oLen false t6),
 kS d8 (oMv (gI 0))])
 (kBlock 0 (kLoop (kSeq (kRegion [kS d9 (oBin .lss t8 t7)])
 (kSeq (kCond t9 kSkip
 (kExit 0))
 (kSeq (kBlock 1 (kSeq (kRegion [kS d10 (oMv t8),
 kS d5 (oMv t10)])
 (kSeq (kRegion [kS d11 (oMv t1),
 kS d12 (oMv t0),
 kS d13 (oMv t5),
 kS d14 (oIa 1 t12 t13),
 kS d15 (oLd false 1 t14),
 kS d16 (oCall t11 [t15])])
 (kCond t16 (kSeq (kRegion [kS d17 (oMv t5),
 kS d4 (oMv t17)])
 kRet)
 kSkip))))
 (kRegion [kS d18 (oBin .add t8 (gI 1)),
 kS d8 (oMv t18)])))))))
 (kSeq (kRegion [kS d4 (oMv (gI (-1)))])
 kRet)))
theorem e91 : b91 = comp ir91.code := by kernel_rfl
def k91 : KF := ⟨19, b91, [.tmp 4]⟩
def b92 : KC := (kSeq (kRegion [kS d2 (oMv (gC (.bool false)))])
 (kSeq (kSeq (kRegion [kS d6 (oMv t0),
 kS d7 (oGen (.rng (.t 6)))])
 (kBlock 0 (kLoop (kSeq (kRegion [kS d8 (oGen (.nxt (.t 7))),
 kS d9 (oExt t8 0)])
 (kSeq (kCond t9 kSkip
 (kExit 0))
 (kBlock 1 (kSeq (kRegion [kS d10 (oExt t8 1),
 kS d11 (oExt t8 2),
 kS d3 (oMv t10),
 kS d4 (oMv t11)])
 (kSeq (kRegion [kS d12 (oMv t4),
 kS d13 (oBin .leq (gC (.int .i32 97)) t12),
 kS d14 (oMv t13),
 kG t14 true d15 (oMv t4),
 kG t14 true d16 (oBin .leq t15 (gC (.int .i32 122))),
 kS d17 (oPick t14 t16 (gC (.bool false))),
 kS d5 (oMv t17)])
 (kSeq (kRegion [kS d18 (oMv t5),
 kS d19 (oNot t18),
 kS d20 (oMv t19),
 kG t20 true d21 (oMv t3),
 kG t20 true d22 (oBin .eql t21 (gI 0)),
 kG t20 true d23 (oMv t22),
 kG t23 false d24 (oMv t4),
 kG t23 false d25 (oBin .neq t24 (gC (.int .i32 46))),
 kG t23 false d26 (oMv t25),
 kG t26 true d27 (oMv t4),
 kG t26 true d28 (oBin .lss t27 (gC (.int .i32 48))),
 kG t26 true d29 (oMv t28),
 kG t29 false d30 (oMv t4),
 kG t29 false d31 (oBin .gtr t30 (gC (.int .i32 57))),
 kG t26 true d32 (oPick t29 (gC (.bool true)) t31),
 kG t23 false d33 (oPick t26 t32 (gC (.bool false))),
 kG t20 true d34 (oPick t23 (gC (.bool true)) t33),
 kS d35 (oPick t20 t34 (gC (.bool false)))])
 (kCond t35 (kSeq (kRegion [kS d2 (oMv (gC (.bool false)))])
 kRet)
 kSkip))))))))))
 (kSeq (kRegion [kS d36 (oMv t0),
 kS d37 (oBin .neq t36 (gC (.str []))),
 kS d38 (oMv t37),
 kG t38 true d39 (oMv t0),
 kG t38 true d40 (oLen true t39),
 kG t38 true d41 (oBin .leq t40 (gI 16)),
 kS d42 (oPick t38 t41 (gC (.bool false))),
 kS d2 (oMv t42)])
 kRet)))
theorem e92 : b92 = comp ir92.code := by kernel_rfl
def k92 : KF := ⟨43, b92, [.tmp 2]⟩
def b93 : KC := (kSeq (kRegion [kS d4 (oMv (gC (.bool false)))])
 (kSeq (kRegion [kS d5 (oMv t0),
 kS d6 (oMv t1),
 kS d7 (oCall (gC (.func 100 [] [])) [t5, t6]),
 kS d8 (oBin .geq t7 (gI 0)),
 kS d4 (oMv t8)])
 kRet))
theorem e93 : b93 = comp ir93.code := by kernel_rfl
def k93 : KF := ⟨9, b93, [.tmp 4]⟩
def b94 : KC := (kSeq (kRegion [kS d4 (oBox t0),
 kS d5 (oMv (gC (.bool false)))])
 (kSeq (kDraw [⟨kS d6 (oLd false 1 t1), ⟨(some 6), (.ld false 1 (.t 1)), none⟩, false, [⟨(some 6), (.ld false 1 (.t 1)), none⟩], []⟩,
 ⟨kS d7 (oLd true 4 t4), ⟨(some 7), (.ld true 4 (.t 4)), none⟩, false, [⟨(some 7), (.ld true 4 (.t 4)), none⟩], []⟩,
 ⟨kS d8 (oCall t6 [t7]), ⟨(some 8), (.call (.t 6) [(.t 7)]), none⟩, true, [], []⟩,
 ⟨kS d9 (oLd false 1 t1), ⟨(some 9), (.ld false 1 (.t 1)), none⟩, false, [⟨(some 9), (.ld false 1 (.t 1)), none⟩], [2]⟩,
 ⟨kS d10 (oLd false 1 t2), ⟨(some 10), (.ld false 1 (.t 2)), none⟩, false, [⟨(some 10), (.ld false 1 (.t 2)), none⟩], [2]⟩,
 ⟨kS d11 (oLd false 1 t3), ⟨(some 11), (.ld false 1 (.t 3)), none⟩, false, [⟨(some 11), (.ld false 1 (.t 3)), none⟩], [2]⟩,
 ⟨kS d12 (oIa 4 t10 t11), ⟨(some 12), (.ia 4 (.t 10) (.t 11)), none⟩, false, [], []⟩,
 ⟨kS d13 (oLd true 4 t12), ⟨(some 13), (.ld true 4 (.t 12)), none⟩, false, [⟨(some 13), (.ld true 4 (.t 12)), none⟩], [2]⟩,
 ⟨kS d14 (oCall t9 [t13]), ⟨(some 14), (.call (.t 9) [(.t 13)]), none⟩, true, [], []⟩,
 ⟨kS d15 (oBin .eql t8 t14), ⟨(some 15), (.bin .eql (.t 8) (.t 14)), none⟩, false, [], []⟩,
 ⟨kS d5 (oMv t15), ⟨(some 5), (.mv (.t 15)), none⟩, false, [], []⟩])
 kRet))
theorem e94 : b94 = comp ir94.code := by kernel_rfl
def k94 : KF := ⟨16, b94, [.tmp 5]⟩
def b95 : KC := (kSeq (kRegion [kS d4 (oMv (gC (.bool false)))])
 (kSeq (kRegion [kS d5 (oMv t0),
 kS d6 (oMv t1),
 kS d7 (oCall (gC (.func 101 [] [])) [t5, t6]),
 kS d8 (oBin .geq t7 (gI 0)),
 kS d4 (oMv t8)])
 kRet))
theorem e95 : b95 = comp ir95.code := by kernel_rfl
def k95 : KF := ⟨9, b95, [.tmp 4]⟩
def b96 : KC := (kSeq (kRegion [kS d4 (oBox t0),
 kS d5 (oMv (gC (.bool false)))])
 (kSeq (kDraw [⟨kS d6 (oLd false 1 t1), ⟨(some 6), (.ld false 1 (.t 1)), none⟩, false, [⟨(some 6), (.ld false 1 (.t 1)), none⟩], []⟩,
 ⟨kS d7 (oLd true 4 t4), ⟨(some 7), (.ld true 4 (.t 4)), none⟩, false, [⟨(some 7), (.ld true 4 (.t 4)), none⟩], []⟩,
 ⟨kS d8 (oCall t6 [t7]), ⟨(some 8), (.call (.t 6) [(.t 7)]), none⟩, true, [], []⟩,
 ⟨kS d9 (oLd false 1 t1), ⟨(some 9), (.ld false 1 (.t 1)), none⟩, false, [⟨(some 9), (.ld false 1 (.t 1)), none⟩], [2]⟩,
 ⟨kS d10 (oLd false 1 t2), ⟨(some 10), (.ld false 1 (.t 2)), none⟩, false, [⟨(some 10), (.ld false 1 (.t 2)), none⟩], [2]⟩,
 ⟨kS d11 (oLd false 1 t3), ⟨(some 11), (.ld false 1 (.t 3)), none⟩, false, [⟨(some 11), (.ld false 1 (.t 3)), none⟩], [2]⟩,
 ⟨kS d12 (oIa 4 t10 t11), ⟨(some 12), (.ia 4 (.t 10) (.t 11)), none⟩, false, [], []⟩,
 ⟨kS d13 (oLd true 4 t12), ⟨(some 13), (.ld true 4 (.t 12)), none⟩, false, [⟨(some 13), (.ld true 4 (.t 12)), none⟩], [2]⟩,
 ⟨kS d14 (oCall t9 [t13]), ⟨(some 14), (.call (.t 9) [(.t 13)]), none⟩, true, [], []⟩,
 ⟨kS d15 (oBin .eql t8 t14), ⟨(some 15), (.bin .eql (.t 8) (.t 14)), none⟩, false, [], []⟩,
 ⟨kS d5 (oMv t15), ⟨(some 5), (.mv (.t 15)), none⟩, false, [], []⟩])
 kRet))
theorem e96 : b96 = comp ir96.code := by kernel_rfl
def k96 : KF := ⟨16, b96, [.tmp 5]⟩
def b97 : KC := (kSeq (kRegion [kS d4 (oMv (gI 0))])
 (kSeq (kSeq (kRegion [kS d6 (oMv t0),
 kS d7 (oLen false t6),
 kS d8 (oMv (gI 0))])
 (kBlock 0 (kLoop (kSeq (kRegion [kS d9 (oBin .lss t8 t7)])
 (kSeq (kCond t9 kSkip
 (kExit 0))
 (kSeq (kBlock 1 (kSeq (kRegion [kS d10 (oMv t8),
 kS d5 (oMv t10)])
 (kSeq (kRegion [kS d11 (oMv t1),
 kS d12 (oMv t0),
 kS d13 (oMv t5),
 kS d14 (oIa 2 t12 t13),
 kS d15 (oLd true 2 t14),
 kS d16 (oCall t11 [t15])])
 (kCond t16 (kSeq (kRegion [kS d17 (oMv t5),
 kS d4 (oMv t17)])
 kRet)
 kSkip))))
 (kRegion [kS d18 (oBin .add t8 (gI 1)),
 kS d8 (oMv t18)])))))))
 (kSeq (kRegion [kS d4 (oMv (gI (-1)))])
 kRet)))
theorem e97 : b97 = comp ir97.code := by kernel_rfl
def k97 : KF := ⟨19, b97, [.tmp 4]⟩
def b98 : KC := (kSeq (kRegion [kS d2 (oMv (gC (.bool false)))])
 (kSeq (kRegion [kS d3 (oMv t0),
 kS d4 (oMv t0),
 kS d5 (oBin .neq t3 t4),
 kS d2 (oMv t5)])
 kRet))
theorem e98 : b98 = comp ir98.code := by kernel_rfl
def k98 : KF := ⟨6, b98, [.tmp 2]⟩
def b100 : KC := (kSeq (kRegion [kS d4 (oMv (gI 0))])
 (kSeq (kSeq (kRegion [kS d6 (oMv t0),
 kS d7 (oLen false t6),
 kS d8 (oMv (gI 0))])
 (kBlock 0 (kLoop (kSeq (kRegion [kS d9 (oBin .lss t8 t7)])
 (kSeq (kCond t9 kSkip
 (kExit 0))
 (kSeq (kBlock 1 (kSeq (kRegion [kS d10 (oMv t8),
 kS d5 (oMv t10)])
 (kSeq (kRegion [kS d11 (oMv t1),
 kS d12 (oMv t0),
 kS d13 (oMv t5),
 kS d14 (oIa 4 t12 t13),
 kS d15 (oLd true 4 t14),
 kS d16 (oCall t11 [t15])])
 (kCond t16 (kSeq (kRegion [kS d17 (oMv t5),
 kS d4 (oMv t17)])
 kRet)
 kSkip))))
 (kRegion [kS d18 (oBin .add t8 (gI 1)),
 kS d8 (oMv t18)])))))))
 (kSeq (kRegion [kS d4 (oMv (gI (-1)))])
 kRet)))
theorem e100 : b100 = comp ir100.code := by kernel_rfl
def k100 : KF := ⟨19, b100, [.tmp 4]⟩
def b101 : KC := (kSeq (kRegion [kS d4 (oMv (gI 0))])
 (kSeq (kSeq (kRegion [kS d6 (oMv t0),
 kS d7 (oLen false t6),
 kS d8 (oMv (gI 0))])
 (kBlock 0 (kLoop (kSeq (kRegion [kS d9 (oBin .lss t8 t7)])
 (kSeq (kCond t9 kSkip
 (kExit 0))
 (kSeq (kBlock 1 (kSeq (kRegion [kS d10 (oMv t8),
 kS d5 (oMv t10)])
 (kSeq (kRegion [kS d11 (oMv t1),
 kS d12 (oMv t0),
 kS d13 (oMv t5),
 kS d14 (oIa 4 t12 t13),
 kS d15 (oLd true 4 t14),
 kS d16 (oCall t11 [t15])])
 (kCond t16 (kSeq (kRegion [kS d17 (oMv t5),
 kS d4 (oMv t17)])
 kRet)
 kSkip))))
 (kRegion [kS d18 (oBin .add t8 (gI 1)),
 kS d8 (oMv t18)])))))))
 (kSeq (kRegion [kS d4 (oMv (gI (-1)))])
 kRet)))
theorem e101 : b101 = comp ir101.code := by kernel_rfl
def k101 : KF := ⟨19, b101, [.tmp 4]⟩
def tk : Nat → Option KF
  | 7 => some k7
  | 12 => some k12
  | 17 => some k17
  | 22 => some k22
  | 24 => some k24
  | 27 => some k27
  | 30 => some k30
  | 33 => some k33
  | 36 => some k36
  | 38 => some k38
  | 40 => some k40
  | 41 => some k41
  | 42 => some k42
  | 43 => some k43
  | 44 => some k44
  | 45 => some k45
  | 49 => some k49
  | 54 => some k54
  | 55 => some k55
  | 56 => some k56
  | 57 => some k57
  | 58 => some k58
  | 59 => some k59
  | 60 => some k60
  | 61 => some k61
  | 62 => some k62
  | 63 => some k63
  | 64 => some k64
  | 65 => some k65
  | 66 => some k66
  | 67 => some k67
  | 68 => some k68
  | 72 => some k72
  | 73 => some k73
  | 74 => some k74
  | 75 => some k75
  | 76 => some k76
  | 77 => some k77
  | 78 => some k78
  | 79 => some k79
  | 80 => some k80
  | 81 => some k81
  | 82 => some k82
  | 83 => some k83
  | 84 => some k84
  | 91 => some k91
  | 92 => some k92
  | 93 => some k93
  | 94 => some k94
  | 95 => some k95
  | 96 => some k96
  | 97 => some k97
  | 98 => some k98
  | 100 => some k100
  | 101 => some k101
  | _ => none
end
theorem tkOk : TabS tk (tblA : FT S16) := by
  refine ⟨fun _ _ _ => rfl, fun f kf h => ?_⟩
  unfold tk at h
  split at h
  · cases h; exact ⟨ir7, rfl, by show KF.mk _ b7 _ = _; rw [e7]; rfl⟩
  · cases h; exact ⟨ir12, rfl, by show KF.mk _ b12 _ = _; rw [e12]; rfl⟩
  · cases h; exact ⟨ir17, rfl, by show KF.mk _ b17 _ = _; rw [e17]; rfl⟩
  · cases h; exact ⟨ir22, rfl, by show KF.mk _ b22 _ = _; rw [e22]; rfl⟩
  · cases h; exact ⟨ir24, rfl, by show KF.mk _ b24 _ = _; rw [e24]; rfl⟩
  · cases h; exact ⟨ir27, rfl, by show KF.mk _ b27 _ = _; rw [e27]; rfl⟩
  · cases h; exact ⟨ir30, rfl, by show KF.mk _ b30 _ = _; rw [e30]; rfl⟩
  · cases h; exact ⟨ir33, rfl, by show KF.mk _ b33 _ = _; rw [e33]; rfl⟩
  · cases h; exact ⟨ir36, rfl, by show KF.mk _ b36 _ = _; rw [e36]; rfl⟩
  · cases h; exact ⟨ir38, rfl, by show KF.mk _ b38 _ = _; rw [e38]; rfl⟩
  · cases h; exact ⟨ir40, rfl, by show KF.mk _ b40 _ = _; rw [e40]; rfl⟩
  · cases h; exact ⟨ir41, rfl, by show KF.mk _ b41 _ = _; rw [e41]; rfl⟩
  · cases h; exact ⟨ir42, rfl, by show KF.mk _ b42 _ = _; rw [e42]; rfl⟩
  · cases h; exact ⟨ir43, rfl, by show KF.mk _ b43 _ = _; rw [e43]; rfl⟩
  · cases h; exact ⟨ir44, rfl, by show KF.mk _ b44 _ = _; rw [e44]; rfl⟩
  · cases h; exact ⟨ir45, rfl, by show KF.mk _ b45 _ = _; rw [e45]; rfl⟩
  · cases h; exact ⟨ir49, rfl, by show KF.mk _ b49 _ = _; rw [e49]; rfl⟩
  · cases h; exact ⟨ir54, rfl, by show KF.mk _ b54 _ = _; rw [e54]; rfl⟩
  · cases h; exact ⟨ir55, rfl, by show KF.mk _ b55 _ = _; rw [e55]; rfl⟩
  · cases h; exact ⟨ir56, rfl, by show KF.mk _ b56 _ = _; rw [e56]; rfl⟩
  · cases h; exact ⟨ir57, rfl, by show KF.mk _ b57 _ = _; rw [e57]; rfl⟩
  · cases h; exact ⟨ir58, rfl, by show KF.mk _ b58 _ = _; rw [e58]; rfl⟩
  · cases h; exact ⟨ir59, rfl, by show KF.mk _ b59 _ = _; rw [e59]; rfl⟩
  · cases h; exact ⟨ir60, rfl, by show KF.mk _ b60 _ = _; rw [e60]; rfl⟩
  · cases h; exact ⟨ir61, rfl, by show KF.mk _ b61 _ = _; rw [e61]; rfl⟩
  · cases h; exact ⟨ir62, rfl, by show KF.mk _ b62 _ = _; rw [e62]; rfl⟩
  · cases h; exact ⟨ir63, rfl, by show KF.mk _ b63 _ = _; rw [e63]; rfl⟩
  · cases h; exact ⟨ir64, rfl, by show KF.mk _ b64 _ = _; rw [e64]; rfl⟩
  · cases h; exact ⟨ir65, rfl, by show KF.mk _ b65 _ = _; rw [e65]; rfl⟩
  · cases h; exact ⟨ir66, rfl, by show KF.mk _ b66 _ = _; rw [e66]; rfl⟩
  · cases h; exact ⟨ir67, rfl, by show KF.mk _ b67 _ = _; rw [e67]; rfl⟩
  · cases h; exact ⟨ir68, rfl, by show KF.mk _ b68 _ = _; rw [e68]; rfl⟩
  · cases h; exact ⟨ir72, rfl, by show KF.mk _ b72 _ = _; rw [e72]; rfl⟩
  · cases h; exact ⟨ir73, rfl, by show KF.mk _ b73 _ = _; rw [e73]; rfl⟩
  · cases h; exact ⟨ir74, rfl, by show KF.mk _ b74 _ = _; rw [e74]; rfl⟩
  · cases h; exact ⟨ir75, rfl, by show KF.mk _ b75 _ = _; rw [e75]; rfl⟩
  · cases h; exact ⟨ir76, rfl, by show KF.mk _ b76 _ = _; rw [e76]; rfl⟩
  · cases h; exact ⟨ir77, rfl, by show KF.mk _ b77 _ = _; rw [e77]; rfl⟩
  · cases h; exact ⟨ir78, rfl, by show KF.mk _ b78 _ = _; rw [e78]; rfl⟩
  · cases h; exact ⟨ir79, rfl, by show KF.mk _ b79 _ = _; rw [e79]; rfl⟩
  · cases h; exact ⟨ir80, rfl, by show KF.mk _ b80 _ = _; rw [e80]; rfl⟩
  · cases h; exact ⟨ir81, rfl, by show KF.mk _ b81 _ = _; rw [e81]; rfl⟩
  · cases h; exact ⟨ir82, rfl, by show KF.mk _ b82 _ = _; rw [e82]; rfl⟩
  · cases h; exact ⟨ir83, rfl, by show KF.mk _ b83 _ = _; rw [e83]; rfl⟩
  · cases h; exact ⟨ir84, rfl, by show KF.mk _ b84 _ = _; rw [e84]; rfl⟩
  · cases h; exact ⟨ir91, rfl, by show KF.mk _ b91 _ = _; rw [e91]; rfl⟩
  · cases h; exact ⟨ir92, rfl, by show KF.mk _ b92 _ = _; rw [e92]; rfl⟩
  · cases h; exact ⟨ir93, rfl, by show KF.mk _ b93 _ = _; rw [e93]; rfl⟩
  · cases h; exact ⟨ir94, rfl, by show KF.mk _ b94 _ = _; rw [e94]; rfl⟩
  · cases h; exact ⟨ir95, rfl, by show KF.mk _ b95 _ = _; rw [e95]; rfl⟩
  · cases h; exact ⟨ir96, rfl, by show KF.mk _ b96 _ = _; rw [e96]; rfl⟩
  · cases h; exact ⟨ir97, rfl, by show KF.mk _ b97 _ = _; rw [e97]; rfl⟩
  · cases h; exact ⟨ir98, rfl, by show KF.mk _ b98 _ = _; rw [e98]; rfl⟩
  · cases h; exact ⟨ir100, rfl, by show KF.mk _ b100 _ = _; rw [e100]; rfl⟩
  · cases h; exact ⟨ir101, rfl, by show KF.mk _ b101 _ = _; rw [e101]; rfl⟩
  · cases h
end Go.Ax.Kr
end
section
namespace Go.Ax.Kr
open Go.Ax.Ir Go.Ax.K
set_option maxRecDepth 100000
noncomputable section
def lv0 : LB := [(0, ar [.slice 7 0 2 (some 2) 4, iv 2, iv 10, .slice 8 0 4 (some 4) 4, .slice 9 0 1 (some 1) 2]),
 (1, ar [iv 60, iv 80]),
 (2, ar [iv 30, iv 50]),
 (3, ar [iv 60, iv 80, iv 30, iv 50]),
 (4, ar [iv 50, iv 60]),
 (5, ar [iv 30, iv 40]),
 (6, ar [iv 50, iv 60, iv 30, iv 40]),
 (7, .arr [.str [114, 101, 100], iv 5, iv 100, .slice 3 0 2 (some 2) 2, .str [98, 108, 117, 101], iv 4, iv 160, .slice 6 0 2 (some 2) 2] {}),
 (8, .arr [.str [104, 101, 97, 100, 115], iv 2, iv 0, iv 190, .str [119, 105, 103, 115], iv 1, iv 1, iv 250, .str [119, 97, 120], iv 3, iv 0, iv 230, .str [103, 108, 97, 115, 115], iv 2, iv 1, iv 240] {}),
 (9, ar [iv 0, iv 2]),
 (10, ar [.slice 7 0 2 (some 2) 4, iv 2, iv 10, .slice 8 0 4 (some 4) 4, .slice 9 0 1 (some 1) 2]),
 (11, ar [iv 0, iv 0, iv 1, iv 0])]
def lv1 : LB := [(0, ar [.slice 7 0 2 (some 2) 4, iv 2, iv 10, .slice 8 0 4 (some 4) 4, .slice 9 0 1 (some 1) 2]),
 (1, ar [iv 60, iv 80]),
 (2, ar [iv 30, iv 50]),
 (3, ar [iv 60, iv 80, iv 30, iv 50]),
 (4, ar [iv 50, iv 60]),
 (5, ar [iv 30, iv 40]),
 (6, ar [iv 50, iv 60, iv 30, iv 40]),
 (7, .arr [.str [114, 101, 100], iv 5, iv 100, .slice 3 0 2 (some 2) 2, .str [98, 108, 117, 101], iv 4, iv 160, .slice 6 0 2 (some 2) 2] {}),
 (8, .arr [.str [104, 101, 97, 100, 115], iv 2, iv 0, iv 190, .str [119, 105, 103, 115], iv 1, iv 1, iv 250, .str [119, 97, 120], iv 3, iv 0, iv 230, .str [103, 108, 97, 115, 115], iv 2, iv 1, iv 240] {}),
 (9, ar [iv 0, iv 2]),
 (10, ar [.slice 7 0 2 (some 2) 4, iv 2, iv 10, .slice 8 0 4 (some 4) 4, .slice 9 0 1 (some 1) 2]),
 (11, ar [iv 0, iv 0, iv 1, iv 0]),
 (196, ar [iv 2, iv 0])]
def en0 : Ent := ⟨12, [.agg [.slice 7 0 2 (some 2) 4, iv 2, iv 10, .slice 8 0 4 (some 4) 4, .slice 9 0 1 (some 1) 2], .slice 11 0 4 (some 4) 1, iv 0], 12, lv0, .tup [.slice 196 0 2 (some 2) 1, iv 0], 205, lv1⟩
def lv2 : LB := [(0, ar [.slice 7 0 2 (some 2) 4, iv 2, iv 10, .slice 8 0 4 (some 4) 4, .slice 9 0 1 (some 1) 2]),
 (1, ar [iv 60, iv 80]),
 (2, ar [iv 30, iv 50]),
 (3, ar [iv 60, iv 80, iv 30, iv 50]),
 (4, ar [iv 50, iv 60]),
 (5, ar [iv 30, iv 40]),
 (6, ar [iv 50, iv 60, iv 30, iv 40]),
 (7, .arr [.str [114, 101, 100], iv 5, iv 100, .slice 3 0 2 (some 2) 2, .str [98, 108, 117, 101], iv 4, iv 160, .slice 6 0 2 (some 2) 2] {}),
 (8, .arr [.str [104, 101, 97, 100, 115], iv 2, iv 0, iv 190, .str [119, 105, 103, 115], iv 1, iv 1, iv 250, .str [119, 97, 120], iv 3, iv 0, iv 230, .str [103, 108, 97, 115, 115], iv 2, iv 1, iv 240] {}),
 (9, ar [iv 0, iv 2]),
 (10, ar [.slice 7 0 2 (some 2) 4, iv 2, iv 10, .slice 8 0 4 (some 4) 4, .slice 9 0 1 (some 1) 2]),
 (11, ar [iv 0, iv 0, iv 1, iv 0]),
 (196, ar [iv 2, iv 0]),
 (205, ar [iv 0, iv 0, iv 1, iv 0])]
def lv3 : LB := [(0, ar [.slice 7 0 2 (some 2) 4, iv 2, iv 10, .slice 8 0 4 (some 4) 4, .slice 9 0 1 (some 1) 2]),
 (1, ar [iv 60, iv 80]),
 (2, ar [iv 30, iv 50]),
 (3, ar [iv 60, iv 80, iv 30, iv 50]),
 (4, ar [iv 50, iv 60]),
 (5, ar [iv 30, iv 40]),
 (6, ar [iv 50, iv 60, iv 30, iv 40]),
 (7, .arr [.str [114, 101, 100], iv 5, iv 100, .slice 3 0 2 (some 2) 2, .str [98, 108, 117, 101], iv 4, iv 160, .slice 6 0 2 (some 2) 2] {}),
 (8, .arr [.str [104, 101, 97, 100, 115], iv 2, iv 0, iv 190, .str [119, 105, 103, 115], iv 1, iv 1, iv 250, .str [119, 97, 120], iv 3, iv 0, iv 230, .str [103, 108, 97, 115, 115], iv 2, iv 1, iv 240] {}),
 (9, ar [iv 0, iv 2]),
 (10, ar [.slice 7 0 2 (some 2) 4, iv 2, iv 10, .slice 8 0 4 (some 4) 4, .slice 9 0 1 (some 1) 2]),
 (11, ar [iv 0, iv 0, iv 1, iv 0]),
 (196, ar [iv 2, iv 0]),
 (205, ar [iv 0, iv 0, iv 1, iv 0]),
 (404, ar [iv 160, iv 180, iv 210, iv 250])]
def en1 : Ent := ⟨17, [.agg [.slice 7 0 2 (some 2) 4, iv 2, iv 10, .slice 8 0 4 (some 4) 4, .slice 9 0 1 (some 1) 2], .slice 205 0 4 (some 4) 1, iv 0], 206, lv2, .tup [.slice 404 0 2 none 2, iv 0], 405, lv3⟩
def lv4 : LB := [(0, ar [.slice 7 0 2 (some 2) 4, iv 2, iv 10, .slice 8 0 4 (some 4) 4, .slice 9 0 1 (some 1) 2]),
 (1, ar [iv 60, iv 80]),
 (2, ar [iv 30, iv 50]),
 (3, ar [iv 60, iv 80, iv 30, iv 50]),
 (4, ar [iv 50, iv 60]),
 (5, ar [iv 30, iv 40]),
 (6, ar [iv 50, iv 60, iv 30, iv 40]),
 (7, .arr [.str [114, 101, 100], iv 5, iv 100, .slice 3 0 2 (some 2) 2, .str [98, 108, 117, 101], iv 4, iv 160, .slice 6 0 2 (some 2) 2] {}),
 (8, .arr [.str [104, 101, 97, 100, 115], iv 2, iv 0, iv 190, .str [119, 105, 103, 115], iv 1, iv 1, iv 250, .str [119, 97, 120], iv 3, iv 0, iv 230, .str [103, 108, 97, 115, 115], iv 2, iv 1, iv 240] {}),
 (9, ar [iv 0, iv 2]),
 (10, ar [.slice 7 0 2 (some 2) 4, iv 2, iv 10, .slice 8 0 4 (some 4) 4, .slice 9 0 1 (some 1) 2]),
 (11, ar [iv 0, iv 0, iv 1, iv 0]),
 (196, ar [iv 2, iv 0]),
 (205, ar [iv 0, iv 0, iv 1, iv 0]),
 (404, ar [iv 160, iv 180, iv 210, iv 250]),
 (405, ar [iv 0, iv 0, iv 1, iv 0])]
def en2 : Ent := ⟨22, [.agg [.slice 7 0 2 (some 2) 4, iv 2, iv 10, .slice 8 0 4 (some 4) 4, .slice 9 0 1 (some 1) 2], .slice 405 0 4 (some 4) 1, iv 0], 406, lv4, .tup [iv 1, iv 0], 608, lv4⟩
def lv5 : LB := [(0, ar [.slice 7 0 2 (some 2) 4, iv 2, iv 10, .slice 8 0 4 (some 4) 4, .slice 9 0 1 (some 1) 2]),
 (1, ar [iv 60, iv 80]),
 (2, ar [iv 30, iv 50]),
 (3, ar [iv 60, iv 80, iv 30, iv 50]),
 (4, ar [iv 50, iv 60]),
 (5, ar [iv 30, iv 40]),
 (6, ar [iv 50, iv 60, iv 30, iv 40]),
 (7, .arr [.str [114, 101, 100], iv 5, iv 100, .slice 3 0 2 (some 2) 2, .str [98, 108, 117, 101], iv 4, iv 160, .slice 6 0 2 (some 2) 2] {}),
 (8, .arr [.str [104, 101, 97, 100, 115], iv 2, iv 0, iv 190, .str [119, 105, 103, 115], iv 1, iv 1, iv 250, .str [119, 97, 120], iv 3, iv 0, iv 230, .str [103, 108, 97, 115, 115], iv 2, iv 1, iv 240] {}),
 (9, ar [iv 0, iv 2]),
 (10, ar [.slice 7 0 2 (some 2) 4, iv 2, iv 10, .slice 8 0 4 (some 4) 4, .slice 9 0 1 (some 1) 2]),
 (11, ar [iv 0, iv 0, iv 1, iv 0]),
 (196, ar [iv 2, iv 0]),
 (205, ar [iv 0, iv 0, iv 1, iv 0]),
 (404, ar [iv 160, iv 180, iv 210, iv 250]),
 (405, ar [iv 0, iv 0, iv 1, iv 0]),
 (608, ar [iv 0, iv 0, iv 1, iv 0])]
def en3 : Ent := ⟨22, [.agg [.slice 7 0 2 (some 2) 4, iv 2, iv 10, .slice 8 0 4 (some 4) 4, .slice 9 0 1 (some 1) 2], .slice 608 0 4 (some 4) 1, iv 3], 609, lv5, .tup [iv 0, iv 0], 811, lv5⟩
def lv6 : LB := [(0, ar [.slice 7 0 2 (some 2) 4, iv 2, iv 10, .slice 8 0 4 (some 4) 4, .slice 9 0 1 (some 1) 2]),
 (1, ar [iv 60, iv 80]),
 (2, ar [iv 30, iv 50]),
 (3, ar [iv 60, iv 80, iv 30, iv 50]),
 (4, ar [iv 50, iv 60]),
 (5, ar [iv 30, iv 40]),
 (6, ar [iv 50, iv 60, iv 30, iv 40]),
 (7, .arr [.str [114, 101, 100], iv 5, iv 100, .slice 3 0 2 (some 2) 2, .str [98, 108, 117, 101], iv 4, iv 160, .slice 6 0 2 (some 2) 2] {}),
 (8, .arr [.str [104, 101, 97, 100, 115], iv 2, iv 0, iv 190, .str [119, 105, 103, 115], iv 1, iv 1, iv 250, .str [119, 97, 120], iv 3, iv 0, iv 230, .str [103, 108, 97, 115, 115], iv 2, iv 1, iv 240] {}),
 (9, ar [iv 0, iv 2]),
 (10, ar [.slice 7 0 2 (some 2) 4, iv 2, iv 10, .slice 8 0 4 (some 4) 4, .slice 9 0 1 (some 1) 2]),
 (11, ar [iv 0, iv 0, iv 1, iv 0]),
 (196, ar [iv 2, iv 0]),
 (205, ar [iv 0, iv 0, iv 1, iv 0]),
 (404, ar [iv 160, iv 180, iv 210, iv 250]),
 (405, ar [iv 0, iv 0, iv 1, iv 0]),
 (608, ar [iv 0, iv 0, iv 1, iv 0]),
 (811, ar [iv 0, iv 0, iv 1, iv 0])]
def lv7 : LB := [(0, ar [.slice 7 0 2 (some 2) 4, iv 2, iv 10, .slice 8 0 4 (some 4) 4, .slice 9 0 1 (some 1) 2]),
 (1, ar [iv 60, iv 80]),
 (2, ar [iv 30, iv 50]),
 (3, ar [iv 60, iv 80, iv 30, iv 50]),
 (4, ar [iv 50, iv 60]),
 (5, ar [iv 30, iv 40]),
 (6, ar [iv 50, iv 60, iv 30, iv 40]),
 (7, .arr [.str [114, 101, 100], iv 5, iv 100, .slice 3 0 2 (some 2) 2, .str [98, 108, 117, 101], iv 4, iv 160, .slice 6 0 2 (some 2) 2] {}),
 (8, .arr [.str [104, 101, 97, 100, 115], iv 2, iv 0, iv 190, .str [119, 105, 103, 115], iv 1, iv 1, iv 250, .str [119, 97, 120], iv 3, iv 0, iv 230, .str [103, 108, 97, 115, 115], iv 2, iv 1, iv 240] {}),
 (9, ar [iv 0, iv 2]),
 (10, ar [.slice 7 0 2 (some 2) 4, iv 2, iv 10, .slice 8 0 4 (some 4) 4, .slice 9 0 1 (some 1) 2]),
 (11, ar [iv 0, iv 0, iv 1, iv 0]),
 (196, ar [iv 2, iv 0]),
 (205, ar [iv 0, iv 0, iv 1, iv 0]),
 (404, ar [iv 160, iv 180, iv 210, iv 250]),
 (405, ar [iv 0, iv 0, iv 1, iv 0]),
 (608, ar [iv 0, iv 0, iv 1, iv 0]),
 (811, ar [iv 0, iv 0, iv 1, iv 0]),
 (1013, ar [iv 160, iv 172, iv 222, iv 222])]
def en4 : Ent := ⟨24, [.agg [.slice 7 0 2 (some 2) 4, iv 2, iv 10, .slice 8 0 4 (some 4) 4, .slice 9 0 1 (some 1) 2], .slice 811 0 4 (some 4) 1, iv 0, iv 1, iv 222], 812, lv6, .tup [.slice 1013 0 2 none 2, iv 0], 1027, lv7⟩
def lv8 : LB := [(0, ar [.slice 7 0 2 (some 2) 4, iv 2, iv 10, .slice 8 0 4 (some 4) 4, .slice 9 0 1 (some 1) 2]),
 (1, ar [iv 60, iv 80]),
 (2, ar [iv 30, iv 50]),
 (3, ar [iv 60, iv 80, iv 30, iv 50]),
 (4, ar [iv 50, iv 60]),
 (5, ar [iv 30, iv 40]),
 (6, ar [iv 50, iv 60, iv 30, iv 40]),
 (7, .arr [.str [114, 101, 100], iv 5, iv 100, .slice 3 0 2 (some 2) 2, .str [98, 108, 117, 101], iv 4, iv 160, .slice 6 0 2 (some 2) 2] {}),
 (8, .arr [.str [104, 101, 97, 100, 115], iv 2, iv 0, iv 190, .str [119, 105, 103, 115], iv 1, iv 1, iv 250, .str [119, 97, 120], iv 3, iv 0, iv 230, .str [103, 108, 97, 115, 115], iv 2, iv 1, iv 240] {}),
 (9, ar [iv 0, iv 2]),
 (10, ar [.slice 7 0 2 (some 2) 4, iv 2, iv 10, .slice 8 0 4 (some 4) 4, .slice 9 0 1 (some 1) 2]),
 (11, ar [iv 0, iv 0, iv 1, iv 0]),
 (196, ar [iv 2, iv 0]),
 (205, ar [iv 0, iv 0, iv 1, iv 0]),
 (404, ar [iv 160, iv 180, iv 210, iv 250]),
 (405, ar [iv 0, iv 0, iv 1, iv 0]),
 (608, ar [iv 0, iv 0, iv 1, iv 0]),
 (811, ar [iv 0, iv 0, iv 1, iv 0]),
 (1013, ar [iv 160, iv 172, iv 222, iv 222]),
 (6870, ar [iv (-1), iv 0, iv 1, iv 0])]
def en5 : Ent := ⟨27, [.agg [.slice 7 0 2 (some 2) 4, iv 2, iv 10, .slice 8 0 4 (some 4) 4, .slice 9 0 1 (some 1) 2]], 1027, lv7, .tup [.slice 6870 0 4 (some 4) 1, iv 3, iv 0, iv 0], 6871, lv8⟩
def en6 : Ent := ⟨30, [.agg [.slice 7 0 2 (some 2) 4, iv 2, iv 10, .slice 8 0 4 (some 4) 4, .slice 9 0 1 (some 1) 2]], 6871, lv8, .tup [.nilslice, iv 0], 7113, lv8⟩
def lv9 : LB := [(0, ar [.slice 7 0 2 (some 2) 4, iv 2, iv 10, .slice 8 0 4 (some 4) 4, .slice 9 0 1 (some 1) 2]),
 (1, ar [iv 60, iv 80]),
 (2, ar [iv 30, iv 50]),
 (3, ar [iv 60, iv 80, iv 30, iv 50]),
 (4, ar [iv 50, iv 60]),
 (5, ar [iv 30, iv 40]),
 (6, ar [iv 50, iv 60, iv 30, iv 40]),
 (7, .arr [.str [114, 101, 100], iv 5, iv 100, .slice 3 0 2 (some 2) 2, .str [98, 108, 117, 101], iv 4, iv 160, .slice 6 0 2 (some 2) 2] {}),
 (8, .arr [.str [104, 101, 97, 100, 115], iv 2, iv 0, iv 190, .str [119, 105, 103, 115], iv 1, iv 1, iv 250, .str [119, 97, 120], iv 3, iv 0, iv 230, .str [103, 108, 97, 115, 115], iv 2, iv 1, iv 240] {}),
 (9, ar [iv 0, iv 2]),
 (10, ar [.slice 7 0 2 (some 2) 4, iv 2, iv 10, .slice 8 0 4 (some 4) 4, .slice 9 0 1 (some 1) 2]),
 (11, ar [iv 0, iv 0, iv 1, iv 0]),
 (196, ar [iv 2, iv 0]),
 (205, ar [iv 0, iv 0, iv 1, iv 0]),
 (404, ar [iv 160, iv 180, iv 210, iv 250]),
 (405, ar [iv 0, iv 0, iv 1, iv 0]),
 (608, ar [iv 0, iv 0, iv 1, iv 0]),
 (811, ar [iv 0, iv 0, iv 1, iv 0]),
 (1013, ar [iv 160, iv 172, iv 222, iv 222]),
 (6870, ar [iv (-1), iv 0, iv 1, iv 0]),
 (7113, ar [.slice 7121 0 1 (some 2) 4, iv 2, iv 10, .slice 7122 0 4 (some 4) 4, .slice 7123 0 1 (some 1) 2]),
 (7114, ar [.slice 7121 0 2 (some 2) 4, iv 2, iv 10, .slice 7122 0 4 (some 4) 4, .slice 7123 0 1 (some 1) 2]),
 (7115, ar [iv 60, iv 80]),
 (7116, ar [iv 30, iv 50]),
 (7117, ar [iv 60, iv 80, iv 30, iv 50]),
 (7118, ar [iv 50, iv 60]),
 (7119, ar [iv 30, iv 40]),
 (7120, ar [iv 50, iv 60, iv 30, iv 40]),
 (7121, .arr [.str [114, 101, 100], iv 9, iv 100, .slice 7117 0 2 (some 2) 2, .str [98, 108, 117, 101], iv 4, iv 160, .slice 7120 0 2 (some 2) 2] {}),
 (7122, .arr [.str [104, 101, 97, 100, 115], iv 2, iv 0, iv 400, .str [119, 105, 103, 115], iv 1, iv 1, iv 400, .str [119, 97, 120], iv 3, iv 0, iv 400, .str [103, 108, 97, 115, 115], iv 2, iv 1, iv 400] {}),
 (7123, ar [iv 0, iv 2]),
 (7124, ar [.slice 7121 0 1 (some 2) 4, iv 2, iv 10, .slice 7122 0 4 (some 4) 4, .slice 7123 0 1 (some 1) 2]),
 (7125, ar [.slice 7121 0 1 (some 2) 4, iv 2, iv 10, .slice 7122 0 4 (some 4) 4, .slice 7123 0 1 (some 1) 2]),
 (7126, ar [.slice 7121 0 1 (some 2) 4, iv 2, iv 10, .slice 7122 0 4 (some 4) 4, .slice 7123 0 1 (some 1) 2]),
 (7127, ar [.slice 7121 0 1 (some 2) 4, iv 2, iv 10, .slice 7122 0 4 (some 4) 4, .slice 7123 0 1 (some 1) 2]),
 (7128, ar [iv 2]),
 (7129, ar [iv 1]),
 (7130, ar [iv 3]),
 (7131, ar [iv 10]),
 (7132, ar [iv 0]),
 (7133, ar [iv 60]),
 (7134, ar [.slice 7121 0 1 (some 2) 4, iv 2, iv 10, .slice 7122 0 4 (some 4) 4, .slice 7123 0 1 (some 1) 2, .nilmap]),
 (7135, .arr [iv 2, iv 1, iv 3, iv 1, .func 41 [.ptr 7134 0] [], iv 3, iv 0, iv 6, iv 4, .func 42 [.ptr 7134 0] [], iv 4, iv 0, iv 4, iv 1, .func 43 [.ptr 7134 0] []] {}),
 (7136, .arr [iv 2, iv 1, iv 3, iv 1, .func 41 [.ptr 7134 0] []] {}),
 (7137, ar [iv 1]),
 (7138, ar [iv 1]),
 (7139, ar [iv 3]),
 (7140, .arr [.str [114, 101, 100], iv 9, iv 100, .slice 7117 0 2 (some 2) 2] {}),
 (7141, ar [.slice 7121 0 1 (some 2) 4]),
 (7142, ar [iv 0]),
 (7143, .arr [.func 75 [] []] {}),
 (7144, .arr [.str [114, 101, 100], iv 9, iv 100, .slice 7117 0 2 (some 2) 2] {}),
 (7146, ar [iv 9]),
 (7147, ar [iv 0]),
 (7148, ar [iv 20]),
 (7149, ar [iv 100]),
 (7150, ar [iv 0]),
 (7151, ar [iv 5000]),
 (7152, ar [iv 60, iv 80]),
 (7153, ar [iv 60, iv 80]),
 (7154, ar [iv 0]),
 (7155, ar [iv 600]),
 (7156, ar [iv 30, iv 50]),
 (7157, ar [iv 30, iv 50]),
 (7158, ar [iv 0]),
 (7159, ar [iv 600]),
 (7160, .arr [iv 3, iv 0, iv 6, iv 4, .func 42 [.ptr 7134 0] []] {}),
 (7161, ar [iv 4]),
 (7162, ar [iv 0]),
 (7163, ar [iv 6]),
 (7164, .arr [.str [104, 101, 97, 100, 115], iv 2, iv 0, iv 400] {}),
 (7165, ar [.slice 7122 0 4 (some 4) 4]),
 (7166, ar [iv 0]),
 (7167, .arr [.func 77 [] []] {}),
 (7168, .arr [.str [104, 101, 97, 100, 115], iv 2, iv 0, iv 400] {}),
 (7170, ar [iv 2]),
 (7171, ar [iv 1]),
 (7172, ar [iv 9]),
 (7173, ar [iv 0]),
 (7174, ar [iv 0]),
 (7175, ar [iv 1]),
 (7176, ar [iv 400]),
 (7177, ar [iv 0]),
 (7178, ar [iv 5000]),
 (7179, .arr [.str [119, 105, 103, 115], iv 1, iv 1, iv 400] {}),
 (7180, ar [.slice 7122 0 4 (some 4) 4]),
 (7181, ar [iv 1]),
 (7182, .arr [.func 77 [] []] {}),
 (7183, .arr [.str [119, 105, 103, 115], iv 1, iv 1, iv 400] {}),
 (7185, .arr [.str [104, 101, 97, 100, 115], iv 2, iv 0, iv 400] {}),
 (7186, .arr [.str [104, 101, 97, 100, 115], iv 2, iv 0, iv 400] {}),
 (7187, .arr [.str [119, 105, 103, 115], iv 1, iv 1, iv 400] {}),
 (7188, ar [iv 1]),
 (7189, ar [iv 1]),
 (7190, ar [iv 9]),
 (7191, ar [iv 1]),
 (7192, ar [iv 0]),
 (7193, ar [iv 1]),
 (7194, ar [iv 400]),
 (7195, ar [iv 0]),
 (7196, ar [iv 5000]),
 (7197, .arr [.str [119, 97, 120], iv 3, iv 0, iv 400] {}),
 (7198, ar [.slice 7122 0 4 (some 4) 4]),
 (7199, ar [iv 2]),
 (7200, .arr [.func 77 [] []] {}),
 (7201, .arr [.str [119, 97, 120], iv 3, iv 0, iv 400] {}),
 (7203, .arr [.str [104, 101, 97, 100, 115], iv 2, iv 0, iv 400] {}),
 (7204, .arr [.str [104, 101, 97, 100, 115], iv 2, iv 0, iv 400] {}),
 (7205, .arr [.str [119, 97, 120], iv 3, iv 0, iv 400] {}),
 (7206, .arr [.str [119, 105, 103, 115], iv 1, iv 1, iv 400] {}),
 (7207, .arr [.str [119, 105, 103, 115], iv 1, iv 1, iv 400] {}),
 (7208, .arr [.str [119, 97, 120], iv 3, iv 0, iv 400] {}),
 (7209, ar [iv 3]),
 (7210, ar [iv 1]),
 (7211, ar [iv 9]),
 (7212, ar [iv 0]),
 (7213, ar [iv 0]),
 (7214, ar [iv 1]),
 (7215, ar [iv 400]),
 (7216, ar [iv 0]),
 (7217, ar [iv 5000]),
 (7218, .arr [.str [103, 108, 97, 115, 115], iv 2, iv 1, iv 400] {}),
 (7219, ar [.slice 7122 0 4 (some 4) 4]),
 (7220, ar [iv 3]),
 (7221, .arr [.func 77 [] []] {}),
 (7222, .arr [.str [103, 108, 97, 115, 115], iv 2, iv 1, iv 400] {}),
 (7224, .arr [.str [104, 101, 97, 100, 115], iv 2, iv 0, iv 400] {}),
 (7225, .arr [.str [104, 101, 97, 100, 115], iv 2, iv 0, iv 400] {}),
 (7226, .arr [.str [103, 108, 97, 115, 115], iv 2, iv 1, iv 400] {}),
 (7227, .arr [.str [119, 105, 103, 115], iv 1, iv 1, iv 400] {}),
 (7228, .arr [.str [119, 105, 103, 115], iv 1, iv 1, iv 400] {}),
 (7229, .arr [.str [103, 108, 97, 115, 115], iv 2, iv 1, iv 400] {}),
 (7230, .arr [.str [119, 97, 120], iv 3, iv 0, iv 400] {}),
 (7231, .arr [.str [119, 97, 120], iv 3, iv 0, iv 400] {}),
 (7232, .arr [.str [103, 108, 97, 115, 115], iv 2, iv 1, iv 400] {}),
 (7233, ar [iv 2]),
 (7234, ar [iv 1]),
 (7235, ar [iv 9]),
 (7236, ar [iv 1]),
 (7237, ar [iv 0]),
 (7238, ar [iv 1]),
 (7239, ar [iv 400]),
 (7240, ar [iv 0]),
 (7241, ar [iv 5000]),
 (7242, .arr [iv 4, iv 0, iv 4, iv 1, .func 43 [.ptr 7134 0] []] {}),
 (7243, ar [iv 1]),
 (7244, ar [iv 0]),
 (7245, ar [iv 4]),
 (7246, ar [iv 0, iv 2]),
 (7247, ar [iv 0, iv 2]),
 (7248, ar [iv 0]),
 (7249, ar [iv 3]),
 (7250, .map [] 0),
 (7251, ar [.slice 7121 0 1 (some 2) 4, iv 2, iv 10, .slice 7122 0 4 (some 4) 4, .slice 7123 0 1 (some 1) 2, .map 7250])]
def en7 : Ent := ⟨62, [.ptr 7251 0, iv 0], 7252, lv9, .bool false, 8171, lv9⟩
def lv10 : LB := [(0, ar [.slice 7 0 2 (some 2) 4, iv 2, iv 10, .slice 8 0 4 (some 4) 4, .slice 9 0 1 (some 1) 2]),
 (1, ar [iv 60, iv 80]),
 (2, ar [iv 30, iv 50]),
 (3, ar [iv 60, iv 80, iv 30, iv 50]),
 (4, ar [iv 50, iv 60]),
 (5, ar [iv 30, iv 40]),
 (6, ar [iv 50, iv 60, iv 30, iv 40]),
 (7, .arr [.str [114, 101, 100], iv 5, iv 100, .slice 3 0 2 (some 2) 2, .str [98, 108, 117, 101], iv 4, iv 160, .slice 6 0 2 (some 2) 2] {}),
 (8, .arr [.str [104, 101, 97, 100, 115], iv 2, iv 0, iv 190, .str [119, 105, 103, 115], iv 1, iv 1, iv 250, .str [119, 97, 120], iv 3, iv 0, iv 230, .str [103, 108, 97, 115, 115], iv 2, iv 1, iv 240] {}),
 (9, ar [iv 0, iv 2]),
 (10, ar [.slice 7 0 2 (some 2) 4, iv 2, iv 10, .slice 8 0 4 (some 4) 4, .slice 9 0 1 (some 1) 2]),
 (11, ar [iv 0, iv 0, iv 1, iv 0]),
 (196, ar [iv 2, iv 0]),
 (205, ar [iv 0, iv 0, iv 1, iv 0]),
 (404, ar [iv 160, iv 180, iv 210, iv 250]),
 (405, ar [iv 0, iv 0, iv 1, iv 0]),
 (608, ar [iv 0, iv 0, iv 1, iv 0]),
 (811, ar [iv 0, iv 0, iv 1, iv 0]),
 (1013, ar [iv 160, iv 172, iv 222, iv 222]),
 (6870, ar [iv (-1), iv 0, iv 1, iv 0]),
 (7113, ar [.slice 7121 0 1 (some 2) 4, iv 2, iv 10, .slice 7122 0 4 (some 4) 4, .slice 7123 0 1 (some 1) 2]),
 (7114, ar [.slice 7121 0 2 (some 2) 4, iv 2, iv 10, .slice 7122 0 4 (some 4) 4, .slice 7123 0 1 (some 1) 2]),
 (7115, ar [iv 60, iv 80]),
 (7116, ar [iv 30, iv 50]),
 (7117, ar [iv 60, iv 80, iv 30, iv 50]),
 (7118, ar [iv 50, iv 60]),
 (7119, ar [iv 30, iv 40]),
 (7120, ar [iv 50, iv 60, iv 30, iv 40]),
 (7121, .arr [.str [114, 101, 100], iv 9, iv 100, .slice 7117 0 2 (some 2) 2, .str [98, 108, 117, 101], iv 4, iv 160, .slice 7120 0 2 (some 2) 2] {}),
 (7122, .arr [.str [104, 101, 97, 100, 115], iv 2, iv 0, iv 400, .str [119, 105, 103, 115], iv 1, iv 1, iv 400, .str [119, 97, 120], iv 3, iv 0, iv 400, .str [103, 108, 97, 115, 115], iv 2, iv 1, iv 400] {}),
 (7123, ar [iv 0, iv 2]),
 (7124, ar [.slice 7121 0 1 (some 2) 4, iv 2, iv 10, .slice 7122 0 4 (some 4) 4, .slice 7123 0 1 (some 1) 2]),
 (7125, ar [.slice 7121 0 1 (some 2) 4, iv 2, iv 10, .slice 7122 0 4 (some 4) 4, .slice 7123 0 1 (some 1) 2]),
 (7126, ar [.slice 7121 0 1 (some 2) 4, iv 2, iv 10, .slice 7122 0 4 (some 4) 4, .slice 7123 0 1 (some 1) 2]),
 (7127, ar [.slice 7121 0 1 (some 2) 4, iv 2, iv 10, .slice 7122 0 4 (some 4) 4, .slice 7123 0 1 (some 1) 2]),
 (7128, ar [iv 2]),
 (7129, ar [iv 1]),
 (7130, ar [iv 3]),
 (7131, ar [iv 10]),
 (7132, ar [iv 0]),
 (7133, ar [iv 60]),
 (7134, ar [.slice 7121 0 1 (some 2) 4, iv 2, iv 10, .slice 7122 0 4 (some 4) 4, .slice 7123 0 1 (some 1) 2, .nilmap]),
 (7135, .arr [iv 2, iv 1, iv 3, iv 1, .func 41 [.ptr 7134 0] [], iv 3, iv 0, iv 6, iv 4, .func 42 [.ptr 7134 0] [], iv 4, iv 0, iv 4, iv 1, .func 43 [.ptr 7134 0] []] {}),
 (7136, .arr [iv 2, iv 1, iv 3, iv 1, .func 41 [.ptr 7134 0] []] {}),
 (7137, ar [iv 1]),
 (7138, ar [iv 1]),
 (7139, ar [iv 3]),
 (7140, .arr [.str [114, 101, 100], iv 9, iv 100, .slice 7117 0 2 (some 2) 2] {}),
 (7141, ar [.slice 7121 0 1 (some 2) 4]),
 (7142, ar [iv 0]),
 (7143, .arr [.func 75 [] []] {}),
 (7144, .arr [.str [114, 101, 100], iv 9, iv 100, .slice 7117 0 2 (some 2) 2] {}),
 (7146, ar [iv 9]),
 (7147, ar [iv 0]),
 (7148, ar [iv 20]),
 (7149, ar [iv 100]),
 (7150, ar [iv 0]),
 (7151, ar [iv 5000]),
 (7152, ar [iv 60, iv 80]),
 (7153, ar [iv 60, iv 80]),
 (7154, ar [iv 0]),
 (7155, ar [iv 600]),
 (7156, ar [iv 30, iv 50]),
 (7157, ar [iv 30, iv 50]),
 (7158, ar [iv 0]),
 (7159, ar [iv 600]),
 (7160, .arr [iv 3, iv 0, iv 6, iv 4, .func 42 [.ptr 7134 0] []] {}),
 (7161, ar [iv 4]),
 (7162, ar [iv 0]),
 (7163, ar [iv 6]),
 (7164, .arr [.str [104, 101, 97, 100, 115], iv 2, iv 0, iv 400] {}),
 (7165, ar [.slice 7122 0 4 (some 4) 4]),
 (7166, ar [iv 0]),
 (7167, .arr [.func 77 [] []] {}),
 (7168, .arr [.str [104, 101, 97, 100, 115], iv 2, iv 0, iv 400] {}),
 (7170, ar [iv 2]),
 (7171, ar [iv 1]),
 (7172, ar [iv 9]),
 (7173, ar [iv 0]),
 (7174, ar [iv 0]),
 (7175, ar [iv 1]),
 (7176, ar [iv 400]),
 (7177, ar [iv 0]),
 (7178, ar [iv 5000]),
 (7179, .arr [.str [119, 105, 103, 115], iv 1, iv 1, iv 400] {}),
 (7180, ar [.slice 7122 0 4 (some 4) 4]),
 (7181, ar [iv 1]),
 (7182, .arr [.func 77 [] []] {}),
 (7183, .arr [.str [119, 105, 103, 115], iv 1, iv 1, iv 400] {}),
 (7185, .arr [.str [104, 101, 97, 100, 115], iv 2, iv 0, iv 400] {}),
 (7186, .arr [.str [104, 101, 97, 100, 115], iv 2, iv 0, iv 400] {}),
 (7187, .arr [.str [119, 105, 103, 115], iv 1, iv 1, iv 400] {}),
 (7188, ar [iv 1]),
 (7189, ar [iv 1]),
 (7190, ar [iv 9]),
 (7191, ar [iv 1]),
 (7192, ar [iv 0]),
 (7193, ar [iv 1]),
 (7194, ar [iv 400]),
 (7195, ar [iv 0]),
 (7196, ar [iv 5000]),
 (7197, .arr [.str [119, 97, 120], iv 3, iv 0, iv 400] {}),
 (7198, ar [.slice 7122 0 4 (some 4) 4]),
 (7199, ar [iv 2]),
 (7200, .arr [.func 77 [] []] {}),
 (7201, .arr [.str [119, 97, 120], iv 3, iv 0, iv 400] {}),
 (7203, .arr [.str [104, 101, 97, 100, 115], iv 2, iv 0, iv 400] {}),
 (7204, .arr [.str [104, 101, 97, 100, 115], iv 2, iv 0, iv 400] {}),
 (7205, .arr [.str [119, 97, 120], iv 3, iv 0, iv 400] {}),
 (7206, .arr [.str [119, 105, 103, 115], iv 1, iv 1, iv 400] {}),
 (7207, .arr [.str [119, 105, 103, 115], iv 1, iv 1, iv 400] {}),
 (7208, .arr [.str [119, 97, 120], iv 3, iv 0, iv 400] {}),
 (7209, ar [iv 3]),
 (7210, ar [iv 1]),
 (7211, ar [iv 9]),
 (7212, ar [iv 0]),
 (7213, ar [iv 0]),
 (7214, ar [iv 1]),
 (7215, ar [iv 400]),
 (7216, ar [iv 0]),
 (7217, ar [iv 5000]),
 (7218, .arr [.str [103, 108, 97, 115, 115], iv 2, iv 1, iv 400] {}),
 (7219, ar [.slice 7122 0 4 (some 4) 4]),
 (7220, ar [iv 3]),
 (7221, .arr [.func 77 [] []] {}),
 (7222, .arr [.str [103, 108, 97, 115, 115], iv 2, iv 1, iv 400] {}),
 (7224, .arr [.str [104, 101, 97, 100, 115], iv 2, iv 0, iv 400] {}),
 (7225, .arr [.str [104, 101, 97, 100, 115], iv 2, iv 0, iv 400] {}),
 (7226, .arr [.str [103, 108, 97, 115, 115], iv 2, iv 1, iv 400] {}),
 (7227, .arr [.str [119, 105, 103, 115], iv 1, iv 1, iv 400] {}),
 (7228, .arr [.str [119, 105, 103, 115], iv 1, iv 1, iv 400] {}),
 (7229, .arr [.str [103, 108, 97, 115, 115], iv 2, iv 1, iv 400] {}),
 (7230, .arr [.str [119, 97, 120], iv 3, iv 0, iv 400] {}),
 (7231, .arr [.str [119, 97, 120], iv 3, iv 0, iv 400] {}),
 (7232, .arr [.str [103, 108, 97, 115, 115], iv 2, iv 1, iv 400] {}),
 (7233, ar [iv 2]),
 (7234, ar [iv 1]),
 (7235, ar [iv 9]),
 (7236, ar [iv 1]),
 (7237, ar [iv 0]),
 (7238, ar [iv 1]),
 (7239, ar [iv 400]),
 (7240, ar [iv 0]),
 (7241, ar [iv 5000]),
 (7242, .arr [iv 4, iv 0, iv 4, iv 1, .func 43 [.ptr 7134 0] []] {}),
 (7243, ar [iv 1]),
 (7244, ar [iv 0]),
 (7245, ar [iv 4]),
 (7246, ar [iv 0, iv 2]),
 (7247, ar [iv 0, iv 2]),
 (7248, ar [iv 0]),
 (7249, ar [iv 3]),
 (7250, .map [] 0),
 (7251, ar [.slice 7121 0 1 (some 2) 4, iv 2, iv 10, .slice 7122 0 4 (some 4) 4, .slice 7123 0 1 (some 1) 2, .map 7250]),
 (8171, ar [iv 0]),
 (8172, ar [iv 0])]
def en8 : Ent := ⟨62, [.ptr 7251 0, iv 1], 8173, lv10, .bool true, 8325, lv10⟩
def lv11 : LB := [(0, ar [.slice 7 0 2 (some 2) 4, iv 2, iv 10, .slice 8 0 4 (some 4) 4, .slice 9 0 1 (some 1) 2]),
 (1, ar [iv 60, iv 80]),
 (2, ar [iv 30, iv 50]),
 (3, ar [iv 60, iv 80, iv 30, iv 50]),
 (4, ar [iv 50, iv 60]),
 (5, ar [iv 30, iv 40]),
 (6, ar [iv 50, iv 60, iv 30, iv 40]),
 (7, .arr [.str [114, 101, 100], iv 5, iv 100, .slice 3 0 2 (some 2) 2, .str [98, 108, 117, 101], iv 4, iv 160, .slice 6 0 2 (some 2) 2] {}),
 (8, .arr [.str [104, 101, 97, 100, 115], iv 2, iv 0, iv 190, .str [119, 105, 103, 115], iv 1, iv 1, iv 250, .str [119, 97, 120], iv 3, iv 0, iv 230, .str [103, 108, 97, 115, 115], iv 2, iv 1, iv 240] {}),
 (9, ar [iv 0, iv 2]),
 (10, ar [.slice 7 0 2 (some 2) 4, iv 2, iv 10, .slice 8 0 4 (some 4) 4, .slice 9 0 1 (some 1) 2]),
 (11, ar [iv 0, iv 0, iv 1, iv 0]),
 (196, ar [iv 2, iv 0]),
 (205, ar [iv 0, iv 0, iv 1, iv 0]),
 (404, ar [iv 160, iv 180, iv 210, iv 250]),
 (405, ar [iv 0, iv 0, iv 1, iv 0]),
 (608, ar [iv 0, iv 0, iv 1, iv 0]),
 (811, ar [iv 0, iv 0, iv 1, iv 0]),
 (1013, ar [iv 160, iv 172, iv 222, iv 222]),
 (6870, ar [iv (-1), iv 0, iv 1, iv 0]),
 (7113, ar [.slice 7121 0 1 (some 2) 4, iv 2, iv 10, .slice 7122 0 4 (some 4) 4, .slice 7123 0 1 (some 1) 2]),
 (7114, ar [.slice 7121 0 2 (some 2) 4, iv 2, iv 10, .slice 7122 0 4 (some 4) 4, .slice 7123 0 1 (some 1) 2]),
 (7115, ar [iv 60, iv 80]),
 (7116, ar [iv 30, iv 50]),
 (7117, ar [iv 60, iv 80, iv 30, iv 50]),
 (7118, ar [iv 50, iv 60]),
 (7119, ar [iv 30, iv 40]),
 (7120, ar [iv 50, iv 60, iv 30, iv 40]),
 (7121, .arr [.str [114, 101, 100], iv 9, iv 100, .slice 7117 0 2 (some 2) 2, .str [98, 108, 117, 101], iv 4, iv 160, .slice 7120 0 2 (some 2) 2] {}),
 (7122, .arr [.str [104, 101, 97, 100, 115], iv 2, iv 0, iv 400, .str [119, 105, 103, 115], iv 1, iv 1, iv 400, .str [119, 97, 120], iv 3, iv 0, iv 400, .str [103, 108, 97, 115, 115], iv 2, iv 1, iv 400] {}),
 (7123, ar [iv 0, iv 2]),
 (7124, ar [.slice 7121 0 1 (some 2) 4, iv 2, iv 10, .slice 7122 0 4 (some 4) 4, .slice 7123 0 1 (some 1) 2])]
def lv12 : LB := [(0, ar [.slice 7 0 2 (some 2) 4, iv 2, iv 10, .slice 8 0 4 (some 4) 4, .slice 9 0 1 (some 1) 2]),
 (1, ar [iv 60, iv 80]),
 (2, ar [iv 30, iv 50]),
 (3, ar [iv 60, iv 80, iv 30, iv 50]),
 (4, ar [iv 50, iv 60]),
 (5, ar [iv 30, iv 40]),
 (6, ar [iv 50, iv 60, iv 30, iv 40]),
 (7, .arr [.str [114, 101, 100], iv 5, iv 100, .slice 3 0 2 (some 2) 2, .str [98, 108, 117, 101], iv 4, iv 160, .slice 6 0 2 (some 2) 2] {}),
 (8, .arr [.str [104, 101, 97, 100, 115], iv 2, iv 0, iv 190, .str [119, 105, 103, 115], iv 1, iv 1, iv 250, .str [119, 97, 120], iv 3, iv 0, iv 230, .str [103, 108, 97, 115, 115], iv 2, iv 1, iv 240] {}),
 (9, ar [iv 0, iv 2]),
 (10, ar [.slice 7 0 2 (some 2) 4, iv 2, iv 10, .slice 8 0 4 (some 4) 4, .slice 9 0 1 (some 1) 2]),
 (11, ar [iv 0, iv 0, iv 1, iv 0]),
 (196, ar [iv 2, iv 0]),
 (205, ar [iv 0, iv 0, iv 1, iv 0]),
 (404, ar [iv 160, iv 180, iv 210, iv 250]),
 (405, ar [iv 0, iv 0, iv 1, iv 0]),
 (608, ar [iv 0, iv 0, iv 1, iv 0]),
 (811, ar [iv 0, iv 0, iv 1, iv 0]),
 (1013, ar [iv 160, iv 172, iv 222, iv 222]),
 (6870, ar [iv (-1), iv 0, iv 1, iv 0]),
 (7113, ar [.slice 7121 0 1 (some 2) 4, iv 2, iv 10, .slice 7122 0 4 (some 4) 4, .slice 7123 0 1 (some 1) 2]),
 (7114, ar [.slice 7121 0 2 (some 2) 4, iv 2, iv 10, .slice 7122 0 4 (some 4) 4, .slice 7123 0 1 (some 1) 2]),
 (7115, ar [iv 60, iv 80]),
 (7116, ar [iv 30, iv 50]),
 (7117, ar [iv 60, iv 80, iv 30, iv 50]),
 (7118, ar [iv 50, iv 60]),
 (7119, ar [iv 30, iv 40]),
 (7120, ar [iv 50, iv 60, iv 30, iv 40]),
 (7121, .arr [.str [114, 101, 100], iv 9, iv 100, .slice 7117 0 2 (some 2) 2, .str [98, 108, 117, 101], iv 4, iv 160, .slice 7120 0 2 (some 2) 2] {}),
 (7122, .arr [.str [104, 101, 97, 100, 115], iv 2, iv 0, iv 400, .str [119, 105, 103, 115], iv 1, iv 1, iv 400, .str [119, 97, 120], iv 3, iv 0, iv 400, .str [103, 108, 97, 115, 115], iv 2, iv 1, iv 400] {}),
 (7123, ar [iv 0, iv 2]),
 (7124, ar [.slice 7121 0 1 (some 2) 4, iv 2, iv 10, .slice 7122 0 4 (some 4) 4, .slice 7123 0 1 (some 1) 2]),
 (8172, ar [iv 0])]
def en9 : Ent := ⟨33, [.agg [.slice 7121 0 1 (some 2) 4, iv 2, iv 10, .slice 7122 0 4 (some 4) 4, .slice 7123 0 1 (some 1) 2]], 7125, lv11, .tup [.slice 8172 0 1 none 1, iv 0], 8325, lv12⟩
def lv13 : LB := [(0, ar [.slice 7 0 2 (some 2) 4, iv 2, iv 10, .slice 8 0 4 (some 4) 4, .slice 9 0 1 (some 1) 2]),
 (1, ar [iv 60, iv 80]),
 (2, ar [iv 30, iv 50]),
 (3, ar [iv 60, iv 80, iv 30, iv 50]),
 (4, ar [iv 50, iv 60]),
 (5, ar [iv 30, iv 40]),
 (6, ar [iv 50, iv 60, iv 30, iv 40]),
 (7, .arr [.str [114, 101, 100], iv 5, iv 100, .slice 3 0 2 (some 2) 2, .str [98, 108, 117, 101], iv 4, iv 160, .slice 6 0 2 (some 2) 2] {}),
 (8, .arr [.str [104, 101, 97, 100, 115], iv 2, iv 0, iv 190, .str [119, 105, 103, 115], iv 1, iv 1, iv 250, .str [119, 97, 120], iv 3, iv 0, iv 230, .str [103, 108, 97, 115, 115], iv 2, iv 1, iv 240] {}),
 (9, ar [iv 0, iv 2]),
 (10, ar [.slice 7 0 2 (some 2) 4, iv 2, iv 10, .slice 8 0 4 (some 4) 4, .slice 9 0 1 (some 1) 2]),
 (11, ar [iv 0, iv 0, iv 1, iv 0]),
 (196, ar [iv 2, iv 0]),
 (205, ar [iv 0, iv 0, iv 1, iv 0]),
 (404, ar [iv 160, iv 180, iv 210, iv 250]),
 (405, ar [iv 0, iv 0, iv 1, iv 0]),
 (608, ar [iv 0, iv 0, iv 1, iv 0]),
 (811, ar [iv 0, iv 0, iv 1, iv 0]),
 (1013, ar [iv 160, iv 172, iv 222, iv 222]),
 (6870, ar [iv (-1), iv 0, iv 1, iv 0]),
 (7113, ar [.slice 7121 0 1 (some 2) 4, iv 2, iv 10, .slice 7122 0 4 (some 4) 4, .slice 7123 0 1 (some 1) 2]),
 (7114, ar [.slice 7121 0 2 (some 2) 4, iv 2, iv 10, .slice 7122 0 4 (some 4) 4, .slice 7123 0 1 (some 1) 2]),
 (7115, ar [iv 60, iv 80]),
 (7116, ar [iv 30, iv 50]),
 (7117, ar [iv 60, iv 80, iv 30, iv 50]),
 (7118, ar [iv 50, iv 60]),
 (7119, ar [iv 30, iv 40]),
 (7120, ar [iv 50, iv 60, iv 30, iv 40]),
 (7121, .arr [.str [114, 101, 100], iv 9, iv 100, .slice 7117 0 2 (some 2) 2, .str [98, 108, 117, 101], iv 4, iv 160, .slice 7120 0 2 (some 2) 2] {}),
 (7122, .arr [.str [104, 101, 97, 100, 115], iv 2, iv 0, iv 400, .str [119, 105, 103, 115], iv 1, iv 1, iv 400, .str [119, 97, 120], iv 3, iv 0, iv 400, .str [103, 108, 97, 115, 115], iv 2, iv 1, iv 400] {}),
 (7123, ar [iv 0, iv 2]),
 (7124, ar [.slice 7121 0 1 (some 2) 4, iv 2, iv 10, .slice 7122 0 4 (some 4) 4, .slice 7123 0 1 (some 1) 2]),
 (8172, ar [iv 0]),
 (8325, ar [.slice 7 0 2 (some 2) 4, iv 2, iv 10, .slice 8 0 4 (some 4) 4, .slice 9 0 1 (some 1) 2]),
 (8326, ar [.slice 7 0 2 (some 2) 4, iv 2, iv 10, .slice 8 0 4 (some 4) 4, .slice 9 0 1 (some 1) 2]),
 (8327, ar [.slice 7 0 2 (some 2) 4, iv 2, iv 10, .slice 8 0 4 (some 4) 4, .slice 9 0 1 (some 1) 2]),
 (8328, ar [iv 2]),
 (8329, ar [iv 1]),
 (8330, ar [iv 3]),
 (8331, ar [iv 10]),
 (8332, ar [iv 0]),
 (8333, ar [iv 60]),
 (8334, ar [.slice 7 0 2 (some 2) 4, iv 2, iv 10, .slice 8 0 4 (some 4) 4, .slice 9 0 1 (some 1) 2, .nilmap]),
 (8335, .arr [iv 2, iv 1, iv 3, iv 2, .func 41 [.ptr 8334 0] [], iv 3, iv 0, iv 6, iv 4, .func 42 [.ptr 8334 0] [], iv 4, iv 0, iv 4, iv 1, .func 43 [.ptr 8334 0] []] {}),
 (8336, .arr [iv 2, iv 1, iv 3, iv 2, .func 41 [.ptr 8334 0] []] {}),
 (8337, ar [iv 2]),
 (8338, ar [iv 1]),
 (8339, ar [iv 3]),
 (8340, .arr [.str [114, 101, 100], iv 5, iv 100, .slice 3 0 2 (some 2) 2] {}),
 (8341, ar [.slice 7 0 2 (some 2) 4]),
 (8342, ar [iv 0]),
 (8343, .arr [.func 75 [] []] {}),
 (8344, .arr [.str [114, 101, 100], iv 5, iv 100, .slice 3 0 2 (some 2) 2] {}),
 (8346, ar [iv 5]),
 (8347, ar [iv 0]),
 (8348, ar [iv 20]),
 (8349, ar [iv 100]),
 (8350, ar [iv 0]),
 (8351, ar [iv 5000]),
 (8352, ar [iv 60, iv 80]),
 (8353, ar [iv 60, iv 80]),
 (8354, ar [iv 0]),
 (8355, ar [iv 600]),
 (8356, ar [iv 30, iv 50]),
 (8357, ar [iv 30, iv 50]),
 (8358, ar [iv 0]),
 (8359, ar [iv 600]),
 (8360, .arr [.str [98, 108, 117, 101], iv 4, iv 160, .slice 6 0 2 (some 2) 2] {}),
 (8361, ar [.slice 7 0 2 (some 2) 4]),
 (8362, ar [iv 1]),
 (8363, .arr [.func 75 [] []] {}),
 (8364, .arr [.str [98, 108, 117, 101], iv 4, iv 160, .slice 6 0 2 (some 2) 2] {}),
 (8366, .arr [.str [114, 101, 100], iv 5, iv 100, .slice 3 0 2 (some 2) 2] {}),
 (8367, .arr [.str [114, 101, 100], iv 5, iv 100, .slice 3 0 2 (some 2) 2] {}),
 (8368, .arr [.str [98, 108, 117, 101], iv 4, iv 160, .slice 6 0 2 (some 2) 2] {}),
 (8369, ar [iv 4]),
 (8370, ar [iv 0]),
 (8371, ar [iv 20]),
 (8372, ar [iv 160]),
 (8373, ar [iv 0]),
 (8374, ar [iv 5000]),
 (8375, ar [iv 50, iv 60]),
 (8376, ar [iv 50, iv 60]),
 (8377, ar [iv 0]),
 (8378, ar [iv 600]),
 (8379, ar [iv 30, iv 40]),
 (8380, ar [iv 30, iv 40]),
 (8381, ar [iv 0]),
 (8382, ar [iv 600]),
 (8383, .arr [iv 3, iv 0, iv 6, iv 4, .func 42 [.ptr 8334 0] []] {}),
 (8384, ar [iv 4]),
 (8385, ar [iv 0]),
 (8386, ar [iv 6]),
 (8387, .arr [.str [104, 101, 97, 100, 115], iv 2, iv 0, iv 190] {}),
 (8388, ar [.slice 8 0 4 (some 4) 4]),
 (8389, ar [iv 0]),
 (8390, .arr [.func 77 [] []] {}),
 (8391, .arr [.str [104, 101, 97, 100, 115], iv 2, iv 0, iv 190] {}),
 (8393, ar [iv 2]),
 (8394, ar [iv 1]),
 (8395, ar [iv 9]),
 (8396, ar [iv 0]),
 (8397, ar [iv 0]),
 (8398, ar [iv 1]),
 (8399, ar [iv 190]),
 (8400, ar [iv 0]),
 (8401, ar [iv 5000]),
 (8402, .arr [.str [119, 105, 103, 115], iv 1, iv 1, iv 250] {}),
 (8403, ar [.slice 8 0 4 (some 4) 4]),
 (8404, ar [iv 1]),
 (8405, .arr [.func 77 [] []] {}),
 (8406, .arr [.str [119, 105, 103, 115], iv 1, iv 1, iv 250] {}),
 (8408, .arr [.str [104, 101, 97, 100, 115], iv 2, iv 0, iv 190] {}),
 (8409, .arr [.str [104, 101, 97, 100, 115], iv 2, iv 0, iv 190] {}),
 (8410, .arr [.str [119, 105, 103, 115], iv 1, iv 1, iv 250] {}),
 (8411, ar [iv 1]),
 (8412, ar [iv 1]),
 (8413, ar [iv 9]),
 (8414, ar [iv 1]),
 (8415, ar [iv 0]),
 (8416, ar [iv 1]),
 (8417, ar [iv 250]),
 (8418, ar [iv 0]),
 (8419, ar [iv 5000]),
 (8420, .arr [.str [119, 97, 120], iv 3, iv 0, iv 230] {}),
 (8421, ar [.slice 8 0 4 (some 4) 4]),
 (8422, ar [iv 2]),
 (8423, .arr [.func 77 [] []] {}),
 (8424, .arr [.str [119, 97, 120], iv 3, iv 0, iv 230] {}),
 (8426, .arr [.str [104, 101, 97, 100, 115], iv 2, iv 0, iv 190] {}),
 (8427, .arr [.str [104, 101, 97, 100, 115], iv 2, iv 0, iv 190] {}),
 (8428, .arr [.str [119, 97, 120], iv 3, iv 0, iv 230] {}),
 (8429, .arr [.str [119, 105, 103, 115], iv 1, iv 1, iv 250] {}),
 (8430, .arr [.str [119, 105, 103, 115], iv 1, iv 1, iv 250] {}),
 (8431, .arr [.str [119, 97, 120], iv 3, iv 0, iv 230] {}),
 (8432, ar [iv 3]),
 (8433, ar [iv 1]),
 (8434, ar [iv 9]),
 (8435, ar [iv 0]),
 (8436, ar [iv 0]),
 (8437, ar [iv 1]),
 (8438, ar [iv 230]),
 (8439, ar [iv 0]),
 (8440, ar [iv 5000]),
 (8441, .arr [.str [103, 108, 97, 115, 115], iv 2, iv 1, iv 240] {}),
 (8442, ar [.slice 8 0 4 (some 4) 4]),
 (8443, ar [iv 3]),
 (8444, .arr [.func 77 [] []] {}),
 (8445, .arr [.str [103, 108, 97, 115, 115], iv 2, iv 1, iv 240] {}),
 (8447, .arr [.str [104, 101, 97, 100, 115], iv 2, iv 0, iv 190] {}),
 (8448, .arr [.str [104, 101, 97, 100, 115], iv 2, iv 0, iv 190] {}),
 (8449, .arr [.str [103, 108, 97, 115, 115], iv 2, iv 1, iv 240] {}),
 (8450, .arr [.str [119, 105, 103, 115], iv 1, iv 1, iv 250] {}),
 (8451, .arr [.str [119, 105, 103, 115], iv 1, iv 1, iv 250] {}),
 (8452, .arr [.str [103, 108, 97, 115, 115], iv 2, iv 1, iv 240] {}),
 (8453, .arr [.str [119, 97, 120], iv 3, iv 0, iv 230] {}),
 (8454, .arr [.str [119, 97, 120], iv 3, iv 0, iv 230] {}),
 (8455, .arr [.str [103, 108, 97, 115, 115], iv 2, iv 1, iv 240] {}),
 (8456, ar [iv 2]),
 (8457, ar [iv 1]),
 (8458, ar [iv 9]),
 (8459, ar [iv 1]),
 (8460, ar [iv 0]),
 (8461, ar [iv 1]),
 (8462, ar [iv 240]),
 (8463, ar [iv 0]),
 (8464, ar [iv 5000]),
 (8465, .arr [iv 4, iv 0, iv 4, iv 1, .func 43 [.ptr 8334 0] []] {}),
 (8466, ar [iv 1]),
 (8467, ar [iv 0]),
 (8468, ar [iv 4]),
 (8469, ar [iv 0, iv 2]),
 (8470, ar [iv 0, iv 2]),
 (8471, ar [iv 0]),
 (8472, ar [iv 3]),
 (8473, .map [] 0),
 (8474, ar [.slice 7 0 2 (some 2) 4, iv 2, iv 10, .slice 8 0 4 (some 4) 4, .slice 9 0 1 (some 1) 2, .map 8473])]
def en10 : Ent := ⟨62, [.ptr 8474 0, iv 0], 8475, lv13, .bool false, 14066, lv13⟩
def lv14 : LB := [(0, ar [.slice 7 0 2 (some 2) 4, iv 2, iv 10, .slice 8 0 4 (some 4) 4, .slice 9 0 1 (some 1) 2]),
 (1, ar [iv 60, iv 80]),
 (2, ar [iv 30, iv 50]),
 (3, ar [iv 60, iv 80, iv 30, iv 50]),
 (4, ar [iv 50, iv 60]),
 (5, ar [iv 30, iv 40]),
 (6, ar [iv 50, iv 60, iv 30, iv 40]),
 (7, .arr [.str [114, 101, 100], iv 5, iv 100, .slice 3 0 2 (some 2) 2, .str [98, 108, 117, 101], iv 4, iv 160, .slice 6 0 2 (some 2) 2] {}),
 (8, .arr [.str [104, 101, 97, 100, 115], iv 2, iv 0, iv 190, .str [119, 105, 103, 115], iv 1, iv 1, iv 250, .str [119, 97, 120], iv 3, iv 0, iv 230, .str [103, 108, 97, 115, 115], iv 2, iv 1, iv 240] {}),
 (9, ar [iv 0, iv 2]),
 (10, ar [.slice 7 0 2 (some 2) 4, iv 2, iv 10, .slice 8 0 4 (some 4) 4, .slice 9 0 1 (some 1) 2]),
 (11, ar [iv 0, iv 0, iv 1, iv 0]),
 (196, ar [iv 2, iv 0]),
 (205, ar [iv 0, iv 0, iv 1, iv 0]),
 (404, ar [iv 160, iv 180, iv 210, iv 250]),
 (405, ar [iv 0, iv 0, iv 1, iv 0]),
 (608, ar [iv 0, iv 0, iv 1, iv 0]),
 (811, ar [iv 0, iv 0, iv 1, iv 0]),
 (1013, ar [iv 160, iv 172, iv 222, iv 222]),
 (6870, ar [iv (-1), iv 0, iv 1, iv 0]),
 (7113, ar [.slice 7121 0 1 (some 2) 4, iv 2, iv 10, .slice 7122 0 4 (some 4) 4, .slice 7123 0 1 (some 1) 2]),
 (7114, ar [.slice 7121 0 2 (some 2) 4, iv 2, iv 10, .slice 7122 0 4 (some 4) 4, .slice 7123 0 1 (some 1) 2]),
 (7115, ar [iv 60, iv 80]),
 (7116, ar [iv 30, iv 50]),
 (7117, ar [iv 60, iv 80, iv 30, iv 50]),
 (7118, ar [iv 50, iv 60]),
 (7119, ar [iv 30, iv 40]),
 (7120, ar [iv 50, iv 60, iv 30, iv 40]),
 (7121, .arr [.str [114, 101, 100], iv 9, iv 100, .slice 7117 0 2 (some 2) 2, .str [98, 108, 117, 101], iv 4, iv 160, .slice 7120 0 2 (some 2) 2] {}),
 (7122, .arr [.str [104, 101, 97, 100, 115], iv 2, iv 0, iv 400, .str [119, 105, 103, 115], iv 1, iv 1, iv 400, .str [119, 97, 120], iv 3, iv 0, iv 400, .str [103, 108, 97, 115, 115], iv 2, iv 1, iv 400] {}),
 (7123, ar [iv 0, iv 2]),
 (7124, ar [.slice 7121 0 1 (some 2) 4, iv 2, iv 10, .slice 7122 0 4 (some 4) 4, .slice 7123 0 1 (some 1) 2]),
 (8172, ar [iv 0]),
 (8325, ar [.slice 7 0 2 (some 2) 4, iv 2, iv 10, .slice 8 0 4 (some 4) 4, .slice 9 0 1 (some 1) 2]),
 (8326, ar [.slice 7 0 2 (some 2) 4, iv 2, iv 10, .slice 8 0 4 (some 4) 4, .slice 9 0 1 (some 1) 2]),
 (8327, ar [.slice 7 0 2 (some 2) 4, iv 2, iv 10, .slice 8 0 4 (some 4) 4, .slice 9 0 1 (some 1) 2]),
 (8328, ar [iv 2]),
 (8329, ar [iv 1]),
 (8330, ar [iv 3]),
 (8331, ar [iv 10]),
 (8332, ar [iv 0]),
 (8333, ar [iv 60]),
 (8334, ar [.slice 7 0 2 (some 2) 4, iv 2, iv 10, .slice 8 0 4 (some 4) 4, .slice 9 0 1 (some 1) 2, .nilmap]),
 (8335, .arr [iv 2, iv 1, iv 3, iv 2, .func 41 [.ptr 8334 0] [], iv 3, iv 0, iv 6, iv 4, .func 42 [.ptr 8334 0] [], iv 4, iv 0, iv 4, iv 1, .func 43 [.ptr 8334 0] []] {}),
 (8336, .arr [iv 2, iv 1, iv 3, iv 2, .func 41 [.ptr 8334 0] []] {}),
 (8337, ar [iv 2]),
 (8338, ar [iv 1]),
 (8339, ar [iv 3]),
 (8340, .arr [.str [114, 101, 100], iv 5, iv 100, .slice 3 0 2 (some 2) 2] {}),
 (8341, ar [.slice 7 0 2 (some 2) 4]),
 (8342, ar [iv 0]),
 (8343, .arr [.func 75 [] []] {}),
 (8344, .arr [.str [114, 101, 100], iv 5, iv 100, .slice 3 0 2 (some 2) 2] {}),
 (8346, ar [iv 5]),
 (8347, ar [iv 0]),
 (8348, ar [iv 20]),
 (8349, ar [iv 100]),
 (8350, ar [iv 0]),
 (8351, ar [iv 5000]),
 (8352, ar [iv 60, iv 80]),
 (8353, ar [iv 60, iv 80]),
 (8354, ar [iv 0]),
 (8355, ar [iv 600]),
 (8356, ar [iv 30, iv 50]),
 (8357, ar [iv 30, iv 50]),
 (8358, ar [iv 0]),
 (8359, ar [iv 600]),
 (8360, .arr [.str [98, 108, 117, 101], iv 4, iv 160, .slice 6 0 2 (some 2) 2] {}),
 (8361, ar [.slice 7 0 2 (some 2) 4]),
 (8362, ar [iv 1]),
 (8363, .arr [.func 75 [] []] {}),
 (8364, .arr [.str [98, 108, 117, 101], iv 4, iv 160, .slice 6 0 2 (some 2) 2] {}),
 (8366, .arr [.str [114, 101, 100], iv 5, iv 100, .slice 3 0 2 (some 2) 2] {}),
 (8367, .arr [.str [114, 101, 100], iv 5, iv 100, .slice 3 0 2 (some 2) 2] {}),
 (8368, .arr [.str [98, 108, 117, 101], iv 4, iv 160, .slice 6 0 2 (some 2) 2] {}),
 (8369, ar [iv 4]),
 (8370, ar [iv 0]),
 (8371, ar [iv 20]),
 (8372, ar [iv 160]),
 (8373, ar [iv 0]),
 (8374, ar [iv 5000]),
 (8375, ar [iv 50, iv 60]),
 (8376, ar [iv 50, iv 60]),
 (8377, ar [iv 0]),
 (8378, ar [iv 600]),
 (8379, ar [iv 30, iv 40]),
 (8380, ar [iv 30, iv 40]),
 (8381, ar [iv 0]),
 (8382, ar [iv 600]),
 (8383, .arr [iv 3, iv 0, iv 6, iv 4, .func 42 [.ptr 8334 0] []] {}),
 (8384, ar [iv 4]),
 (8385, ar [iv 0]),
 (8386, ar [iv 6]),
 (8387, .arr [.str [104, 101, 97, 100, 115], iv 2, iv 0, iv 190] {}),
 (8388, ar [.slice 8 0 4 (some 4) 4]),
 (8389, ar [iv 0]),
 (8390, .arr [.func 77 [] []] {}),
 (8391, .arr [.str [104, 101, 97, 100, 115], iv 2, iv 0, iv 190] {}),
 (8393, ar [iv 2]),
 (8394, ar [iv 1]),
 (8395, ar [iv 9]),
 (8396, ar [iv 0]),
 (8397, ar [iv 0]),
 (8398, ar [iv 1]),
 (8399, ar [iv 190]),
 (8400, ar [iv 0]),
 (8401, ar [iv 5000]),
 (8402, .arr [.str [119, 105, 103, 115], iv 1, iv 1, iv 250] {}),
 (8403, ar [.slice 8 0 4 (some 4) 4]),
 (8404, ar [iv 1]),
 (8405, .arr [.func 77 [] []] {}),
 (8406, .arr [.str [119, 105, 103, 115], iv 1, iv 1, iv 250] {}),
 (8408, .arr [.str [104, 101, 97, 100, 115], iv 2, iv 0, iv 190] {}),
 (8409, .arr [.str [104, 101, 97, 100, 115], iv 2, iv 0, iv 190] {}),
 (8410, .arr [.str [119, 105, 103, 115], iv 1, iv 1, iv 250] {}),
 (8411, ar [iv 1]),
 (8412, ar [iv 1]),
 (8413, ar [iv 9]),
 (8414, ar [iv 1]),
 (8415, ar [iv 0]),
 (8416, ar [iv 1]),
 (8417, ar [iv 250]),
 (8418, ar [iv 0]),
 (8419, ar [iv 5000]),
 (8420, .arr [.str [119, 97, 120], iv 3, iv 0, iv 230] {}),
 (8421, ar [.slice 8 0 4 (some 4) 4]),
 (8422, ar [iv 2]),
 (8423, .arr [.func 77 [] []] {}),
 (8424, .arr [.str [119, 97, 120], iv 3, iv 0, iv 230] {}),
 (8426, .arr [.str [104, 101, 97, 100, 115], iv 2, iv 0, iv 190] {}),
 (8427, .arr [.str [104, 101, 97, 100, 115], iv 2, iv 0, iv 190] {}),
 (8428, .arr [.str [119, 97, 120], iv 3, iv 0, iv 230] {}),
 (8429, .arr [.str [119, 105, 103, 115], iv 1, iv 1, iv 250] {}),
 (8430, .arr [.str [119, 105, 103, 115], iv 1, iv 1, iv 250] {}),
 (8431, .arr [.str [119, 97, 120], iv 3, iv 0, iv 230] {}),
 (8432, ar [iv 3]),
 (8433, ar [iv 1]),
 (8434, ar [iv 9]),
 (8435, ar [iv 0]),
 (8436, ar [iv 0]),
 (8437, ar [iv 1]),
 (8438, ar [iv 230]),
 (8439, ar [iv 0]),
 (8440, ar [iv 5000]),
 (8441, .arr [.str [103, 108, 97, 115, 115], iv 2, iv 1, iv 240] {}),
 (8442, ar [.slice 8 0 4 (some 4) 4]),
 (8443, ar [iv 3]),
 (8444, .arr [.func 77 [] []] {}),
 (8445, .arr [.str [103, 108, 97, 115, 115], iv 2, iv 1, iv 240] {}),
 (8447, .arr [.str [104, 101, 97, 100, 115], iv 2, iv 0, iv 190] {}),
 (8448, .arr [.str [104, 101, 97, 100, 115], iv 2, iv 0, iv 190] {}),
 (8449, .arr [.str [103, 108, 97, 115, 115], iv 2, iv 1, iv 240] {}),
 (8450, .arr [.str [119, 105, 103, 115], iv 1, iv 1, iv 250] {}),
 (8451, .arr [.str [119, 105, 103, 115], iv 1, iv 1, iv 250] {}),
 (8452, .arr [.str [103, 108, 97, 115, 115], iv 2, iv 1, iv 240] {}),
 (8453, .arr [.str [119, 97, 120], iv 3, iv 0, iv 230] {}),
 (8454, .arr [.str [119, 97, 120], iv 3, iv 0, iv 230] {}),
 (8455, .arr [.str [103, 108, 97, 115, 115], iv 2, iv 1, iv 240] {}),
 (8456, ar [iv 2]),
 (8457, ar [iv 1]),
 (8458, ar [iv 9]),
 (8459, ar [iv 1]),
 (8460, ar [iv 0]),
 (8461, ar [iv 1]),
 (8462, ar [iv 240]),
 (8463, ar [iv 0]),
 (8464, ar [iv 5000]),
 (8465, .arr [iv 4, iv 0, iv 4, iv 1, .func 43 [.ptr 8334 0] []] {}),
 (8466, ar [iv 1]),
 (8467, ar [iv 0]),
 (8468, ar [iv 4]),
 (8469, ar [iv 0, iv 2]),
 (8470, ar [iv 0, iv 2]),
 (8471, ar [iv 0]),
 (8472, ar [iv 3]),
 (8473, .map [] 0),
 (8474, ar [.slice 7 0 2 (some 2) 4, iv 2, iv 10, .slice 8 0 4 (some 4) 4, .slice 9 0 1 (some 1) 2, .map 8473]),
 (14066, ar [iv 0]),
 (14067, ar [iv 0])]
def en11 : Ent := ⟨62, [.ptr 8474 0, iv 1], 14068, lv14, .bool false, 20013, lv14⟩
def en12 : Ent := ⟨33, [.agg [.slice 7 0 2 (some 2) 4, iv 2, iv 10, .slice 8 0 4 (some 4) 4, .slice 9 0 1 (some 1) 2]], 8325, lv12, .tup [.nilslice, iv 9], 20013, lv12⟩
def en13 : Ent := ⟨36, [.agg [.slice 7 0 2 (some 2) 4, iv 2, iv 10, .slice 8 0 4 (some 4) 4, .slice 9 0 1 (some 1) 2]], 20013, lv12, .tup [iv 10, iv 0], 25749, lv12⟩
def en14 : Ent := ⟨22, [.agg [.slice 7 0 2 (some 2) 4, iv 2, iv 10, .slice 8 0 4 (some 4) 4, .slice 9 0 1 (some 1) 2], .slice 6870 0 4 (some 4) 1, iv 0], 25749, lv12, .tup [iv 2, iv 0], 25929, lv12⟩
def ot0 (f : Nat) : List Ent := []
def ot33 (f : Nat) : List Ent := ifB (Nat.beq f 62) [en7, en8, en10, en11] ([])
def otA (f : Nat) : List Ent := ifB (Nat.beq f 12) [en0] (ifB (Nat.beq f 17) [en1] (ifB (Nat.beq f 22) [en2, en3, en14] (ifB (Nat.beq f 24) [en4] (ifB (Nat.beq f 27) [en5] (ifB (Nat.beq f 30) [en6] (ifB (Nat.beq f 33) [en9, en12] (ifB (Nat.beq f 36) [en13] ([]))))))))
theorem tkO : TabO tk tblA := fun f kf h => tkOk.2 f kf h
end
end Go.Ax.Kr
end
