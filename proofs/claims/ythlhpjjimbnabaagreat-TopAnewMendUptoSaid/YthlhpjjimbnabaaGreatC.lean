import Derived.Test.YthlhpjjimbnabaaGreatA5
import Derived.Test.YthlhpjjimbnabaaGreatB
import Derived.KernelRfl
set_option linter.unusedSectionVars false
set_option linter.unusedVariables false
set_option linter.unusedSimpArgs false
section
namespace Go.Ax.Kr
open Go.Ax.Ir Go.Ax.K
set_option maxRecDepth 100000
set_option maxHeartbeats 8000000
noncomputable section
def b7 : KC := (kSeq (kRegion [kS d1 (oBox t0),
 kS d2 (oMv (gI 0)),
 kS d3 (oMv (gI 0)),
 kS d4 (oMv (gI 0))])
 (kSeq (kSeq (kRegion [kS d6 (oFa t1 0),
 kS d7 (oLd false 1 t6),
 kS d8 (oLen false t7),
 kS d9 (oBin .gtr t8 (gI 5))])
 (kCond t9 (kSeq (kRegion [kS d2 (oMv (gI 1)),
 kS d3 (oMv (gI 0)),
 kS d4 (oMv (gI 3))])
 kRet)
 kSkip))
 (kSeq (kRegion [kS d11 (oFa t1 0),
 kS d12 (oLd false 1 t11),
 kS d13 (oMkfn 40 [] [t1]),
 kS d14 (oCall (gC (.func 39 [] [])) [t12, t13]),
 kS d10 (oMv t14),
 kS d15 (oExt t10 0),
 kS d16 (oExt t10 1),
 kS d3 (oMv t15),
 kS d4 (oMv t16)])
 (kSeq (kSeq (kRegion [kS d17 (oMv t4),
 kS d18 (oBin .neq t17 (gI 0))])
 (kCond t18 (kSeq (kRegion [kS d19 (oMv t3),
 kS d20 (oMv t4),
 kS d2 (oMv (gI 1)),
 kS d3 (oMv t19),
 kS d4 (oMv t20)])
 kRet)
 kSkip))
 (kSeq (kRegion [kS d21 (oFa t1 0),
 kS d22 (oLd false 1 t21),
 kS d23 (oLen false t22),
 kS d24 (oBin .sub t23 (gI 1)),
 kS d5 (oAlloc (.int .i64 0)),
 kN (oSt 1 t5 t24)])
 (kSeq (kRegion [kS d26 (oFa t1 1),
 kS d27 (oLd false 1 t26),
 kS d28 (oMkfn 46 [] [t5, t1]),
 kS d29 (oCall (gC (.func 45 [] [])) [t27, t28]),
 kS d25 (oMv t29),
 kS d30 (oExt t25 0),
 kS d31 (oExt t25 1),
 kS d3 (oMv t30),
 kS d4 (oMv t31)])
 (kSeq (kBlock 0 (kSeq (kRegion [kS d33 (oMv t4),
 kS d34 (oBin .neq t33 (gI 0)),
 kS d32 (oMv t34)])
 (kCond t32 (kSeq (kRegion [kS d35 (oMv t3),
 kS d36 (oMv t4),
 kS d2 (oMv (gI 2)),
 kS d3 (oMv t35),
 kS d4 (oMv t36)])
 kRet)
 (kSeq (kRegion [kS d38 (oLd false 1 t5),
 kS d39 (oFa t1 2),
 kS d40 (oLd false 1 t39),
 kS d41 (oBldS 1 1 [(.int .i64 0)] [(0, 1, t40)]),
 kS d42 (oCall (gC (.func 44 [] [])) [(gI (-1)), t38, t41]),
 kS d37 (oMv t42)])
 (kCond t37 (kSeq (kRegion [kS d2 (oMv (gI 3)),
 kS d3 (oMv (gI 0)),
 kS d4 (oMv (gI 4))])
 kRet)
 kSkip)))))
 (kSeq (kRegion [kS d2 (oMv (gI 0)),
 kS d3 (oMv (gI 0)),
 kS d4 (oMv (gI 0))])
 kRet))))))))
theorem e7 : b7 = comp ir7.code := by kernel_rfl
def k7 : KF := ⟨43, b7, [.tmp 2, .tmp 3, .tmp 4]⟩
def b12 : KC := (kSeq (kRegion [kS d1 (oBox t0),
 kS d2 (oMv (gC .nilslice)),
 kS d3 (oMv (gI 0))])
 (kSeq (kRegion [kS d7 (oLd true 3 t1),
 kS d8 (oCall (gC (.func 48 [] [])) [t7]),
 kS d6 (oMv t8),
 kS d9 (oExt t6 0),
 kS d10 (oExt t6 1),
 kS d4 (oMv t9),
 kS d5 (oMv t10)])
 (kSeq (kSeq (kRegion [kS d11 (oMv t5),
 kS d12 (oBin .neq t11 (gI 0))])
 (kCond t12 (kSeq (kRegion [kS d13 (oMv t5),
 kS d2 (oMv (gC .nilslice)),
 kS d3 (oMv t13)])
 kRet)
 kSkip))
 (kSeq (kRegion [kS d14 (oMv t4),
 kS d15 (oMv t4),
 kS d16 (oNilck t15),
 kS d17 (oFa t16 3),
 kS d18 (oLd true 10 t17),
 kS d19 (oCall (gC (.func 49 [] [])) [t14, t18]),
 kS d2 (oMv t19),
 kS d3 (oMv (gI 0))])
 kRet))))
theorem e12 : b12 = comp ir12.code := by kernel_rfl
def k12 : KF := ⟨20, b12, [.tmp 2, .tmp 3]⟩
def b17 : KC := (kSeq (kRegion [kS d2 (oBox t0),
 kS d4 (oAlloc (.agg [.nilslice, .nilslice, (.int .i64 0)])),
 kS d5 (oMv (gI 0))])
 (kSeq (kRegion [kS d13 (oLd true 3 t2),
 kS d14 (oCall (gC (.func 48 [] [])) [t13]),
 kS d12 (oMv t14),
 kS d15 (oExt t12 0),
 kS d16 (oExt t12 1),
 kS d6 (oMv t15),
 kS d7 (oMv t16)])
 (kSeq (kBlock 0 (kSeq (kRegion [kS d18 (oMv t7),
 kS d19 (oBin .neq t18 (gI 0)),
 kS d17 (oMv t19)])
 (kCond t17 (kSeq (kRegion [kS d20 (oBld [.nilslice, .nilslice, (.int .i64 0)] []),
 kS d21 (oMv t7),
 kN (oSt 3 t4 t20),
 kS d5 (oMv t21)])
 kRet)
 (kSeq (kRegion [kS d23 (oMv t1),
 kS d24 (oLen false t23),
 kS d25 (oBin .gtr t24 (gI 20)),
 kS d22 (oMv t25)])
 (kCond t22 (kSeq (kRegion [kS d26 (oBld [.nilslice, .nilslice, (.int .i64 0)] []),
 kN (oSt 3 t4 t26),
 kS d5 (oMv (gI 3))])
 kRet)
 kSkip)))))
 (kSeq (kRegion [kS d27 (oMv t6),
 kS d28 (oNilck t27),
 kS d29 (oFa t28 3),
 kS d30 (oLd true 10 t29),
 kS d8 (oAlloc (.agg [(.int .i64 0), (.bool false), (.int .i64 0), (.bool false), (.int .i64 0), (.bool false), (.int .i64 0), (.bool false), (.int .i64 0), (.bool false)])),
 kN (oSt 10 t8 t30)])
 (kSeq (kSeq (kRegion [kS d31 (oMv t1),
 kS d32 (oLen false t31),
 kS d33 (oMv (gI 0))])
 (kBlock 1 (kLoop (kSeq (kRegion [kS d34 (oBin .lss t33 t32)])
 (kSeq (kCond t34 kSkip
 (kExit 1))
 (kSeq (kBlock 2 (kSeq (kRegion [kS d35 (oIa 2 t31 t33),
 kS d36 (oLd true 2 t35),
 kS d10 (oAlloc (.agg [(.int .i64 0), (.int .i64 0)])),
 kN (oSt 2 t10 t36)])
 (kSeq (kRegion [kS d38 (oMv t6),
 kS d39 (oLd true 10 t8),
 kS d40 (oLd true 2 t10),
 kS d41 (oCall (gC (.func 53 [] [])) [t38, t39, t40]),
 kS d37 (oMv t41),
 kS d42 (oExt t37 0),
 kS d43 (oExt t37 1),
 kN (oSt 10 t8 t42),
 kS d7 (oMv t43)])
 (kSeq (kRegion [kS d44 (oMv t7),
 kS d45 (oBin .neq t44 (gI 0))])
 (kCond t45 (kSeq (kRegion [kS d46 (oBld [.nilslice, .nilslice, (.int .i64 0)] []),
 kS d47 (oMv t7),
 kN (oSt 3 t4 t46),
 kS d5 (oMv t47)])
 kRet)
 kSkip)))))
 (kRegion [kS d48 (oBin .add t33 (gI 1)),
 kS d33 (oMv t48)])))))))
 (kSeq (kDraw [⟨kS d49 (oFa t2 0), ⟨(some 49), (.fa (.t 2) 0), none⟩, false, [], []⟩,
 ⟨kS d50 (oLd false 1 t49), ⟨(some 50), (.ld false 1 (.t 49)), none⟩, false, [⟨(some 50), (.ld false 1 (.t 49)), none⟩], []⟩,
 ⟨kS d51 (oCall (gC (.func 54 [] [])) [t50]), ⟨(some 51), (.call (.c (.func 54 [] [])) [(.t 50)]), none⟩, true, [], []⟩,
 ⟨kS d52 (oFa t2 1), ⟨(some 52), (.fa (.t 2) 1), none⟩, false, [], []⟩,
 ⟨kS d53 (oLd false 1 t52), ⟨(some 53), (.ld false 1 (.t 52)), none⟩, false, [⟨(some 53), (.ld false 1 (.t 52)), none⟩], [2]⟩,
 ⟨kS d54 (oCall (gC (.func 55 [] [])) [t53]), ⟨(some 54), (.call (.c (.func 55 [] [])) [(.t 53)]), none⟩, true, [], []⟩,
 ⟨kS d55 (oFa t2 0), ⟨(some 55), (.fa (.t 2) 0), none⟩, false, [], []⟩,
 ⟨kN (oSt 1 t55 t51), ⟨none, (.st 1 (.t 55) (.t 51)), none⟩, true, [], []⟩,
 ⟨kS d56 (oFa t2 1), ⟨(some 56), (.fa (.t 2) 1), none⟩, false, [], []⟩,
 ⟨kN (oSt 1 t56 t54), ⟨none, (.st 1 (.t 56) (.t 54)), none⟩, true, [], []⟩])
 (kSeq (kSeq (kDraw [⟨kS d57 (oLd true 10 t8), ⟨(some 57), (.ld true 10 (.t 8)), none⟩, false, [⟨(some 57), (.ld true 10 (.t 8)), none⟩], []⟩,
 ⟨kS d58 (oMv t6), ⟨(some 58), (.mv (.t 6)), none⟩, false, [], []⟩,
 ⟨kS d59 (oNilck t58), ⟨(some 59), (.nilck (.t 58)), none⟩, false, [], []⟩,
 ⟨kS d60 (oFa t59 3), ⟨(some 60), (.fa (.t 59) 3), none⟩, false, [], []⟩,
 ⟨kS d61 (oLd true 10 t60), ⟨(some 61), (.ld true 10 (.t 60)), none⟩, false, [⟨(some 61), (.ld true 10 (.t 60)), none⟩], []⟩,
 ⟨kS d62 (oEqv (.ag [.i, .b, .i, .b, .i, .b, .i, .b, .i, .b]) false t57 t61), ⟨(some 62), (.eqv (.ag [.i, .b, .i, .b, .i, .b, .i, .b, .i, .b]) false (.t 57) (.t 61)), none⟩, false, [], []⟩])
 (kCond t62 (kSeq (kRegion [kS d63 (oLd true 3 t2),
 kN (oSt 3 t4 t63),
 kS d5 (oMv (gI 0))])
 kRet)
 kSkip))
 (kSeq (kSeq (kRegion [kS d64 (oFa t2 0),
 kS d65 (oLd false 1 t64),
 kS d66 (oLen false t65),
 kS d67 (oMv (gI 0))])
 (kBlock 3 (kLoop (kSeq (kRegion [kS d68 (oBin .lss t67 t66)])
 (kSeq (kCond t68 kSkip
 (kExit 3))
 (kSeq (kBlock 4 (kSeq (kRegion [kS d69 (oMv t67),
 kS d11 (oMv t69)])
 (kSeq (kDraw [⟨kS d70 (oFa t2 0), ⟨(some 70), (.fa (.t 2) 0), none⟩, false, [], []⟩,
 ⟨kS d71 (oLd false 1 t70), ⟨(some 71), (.ld false 1 (.t 70)), none⟩, false, [⟨(some 71), (.ld false 1 (.t 70)), none⟩], []⟩,
 ⟨kS d72 (oMv t11), ⟨(some 72), (.mv (.t 11)), none⟩, false, [], []⟩,
 ⟨kS d73 (oMv t11), ⟨(some 73), (.mv (.t 11)), none⟩, false, [], []⟩,
 ⟨kS d74 (oIaa 5 2 t8 t73), ⟨(some 74), (.iaa 5 2 (.t 8) (.t 73)), none⟩, false, [], []⟩,
 ⟨kS d75 (oFa t74 0), ⟨(some 75), (.fa (.t 74) 0), none⟩, false, [], []⟩,
 ⟨kS d76 (oLd false 1 t75), ⟨(some 76), (.ld false 1 (.t 75)), none⟩, false, [⟨(some 76), (.ld false 1 (.t 75)), none⟩], []⟩,
 ⟨kS d77 (oIa 4 t71 t72), ⟨(some 77), (.ia 4 (.t 71) (.t 72)), none⟩, false, [], []⟩,
 ⟨kS d78 (oFa t77 1), ⟨(some 78), (.fa (.t 77) 1), none⟩, false, [], []⟩,
 ⟨kN (oSt 1 t78 t76), ⟨none, (.st 1 (.t 78) (.t 76)), none⟩, true, [], []⟩])
 (kDraw [⟨kS d79 (oFa t2 0), ⟨(some 79), (.fa (.t 2) 0), none⟩, false, [], []⟩,
 ⟨kS d80 (oLd false 1 t79), ⟨(some 80), (.ld false 1 (.t 79)), none⟩, false, [⟨(some 80), (.ld false 1 (.t 79)), none⟩], []⟩,
 ⟨kS d81 (oMv t11), ⟨(some 81), (.mv (.t 11)), none⟩, false, [], []⟩,
 ⟨kS d82 (oMv t11), ⟨(some 82), (.mv (.t 11)), none⟩, false, [], []⟩,
 ⟨kS d83 (oIaa 5 2 t8 t82), ⟨(some 83), (.iaa 5 2 (.t 8) (.t 82)), none⟩, false, [], []⟩,
 ⟨kS d84 (oFa t83 1), ⟨(some 84), (.fa (.t 83) 1), none⟩, false, [], []⟩,
 ⟨kS d85 (oLd false 1 t84), ⟨(some 85), (.ld false 1 (.t 84)), none⟩, false, [⟨(some 85), (.ld false 1 (.t 84)), none⟩], []⟩,
 ⟨kS d86 (oIa 4 t80 t81), ⟨(some 86), (.ia 4 (.t 80) (.t 81)), none⟩, false, [], []⟩,
 ⟨kS d87 (oFa t86 2), ⟨(some 87), (.fa (.t 86) 2), none⟩, false, [], []⟩,
 ⟨kN (oSt 1 t87 t85), ⟨none, (.st 1 (.t 87) (.t 85)), none⟩, true, [], []⟩]))))
 (kRegion [kS d88 (oBin .add t67 (gI 1)),
 kS d67 (oMv t88)])))))))
 (kSeq (kRegion [kS d89 (oLd true 3 t2),
 kN (oSt 3 t4 t89),
 kS d5 (oMv (gI 0))])
 kRet)))))))))
theorem e17 : b17 = comp ir17.code := by kernel_rfl
def k17 : KF := ⟨90, b17, [.cell 4 true 3, .tmp 5]⟩
def b22 : KC := (kSeq (kRegion [kS d1 (oBox t0),
 kS d2 (oMv (gC .nilslice)),
 kS d3 (oMv (gI 0))])
 (kSeq (kRegion [kS d9 (oLd true 3 t1),
 kS d10 (oCall (gC (.func 48 [] [])) [t9]),
 kS d8 (oMv t10),
 kS d11 (oExt t8 0),
 kS d12 (oExt t8 1),
 kS d4 (oMv t11),
 kS d5 (oMv t12)])
 (kSeq (kSeq (kRegion [kS d13 (oMv t5),
 kS d14 (oBin .neq t13 (gI 0))])
 (kCond t14 (kSeq (kRegion [kS d15 (oMv t5),
 kS d2 (oMv (gC .nilslice)),
 kS d3 (oMv t15)])
 kRet)
 kSkip))
 (kSeq (kRegion [kS d17 (oMv t4),
 kS d18 (oCall (gC (.func 58 [] [])) [t17]),
 kS d16 (oMv t18),
 kS d19 (oExt t16 0),
 kS d20 (oExt t16 1),
 kS d6 (oMv t19),
 kS d7 (oMv t20)])
 (kSeq (kSeq (kRegion [kS d21 (oMv t7),
 kS d22 (oNot t21)])
 (kCond t22 (kSeq (kRegion [kS d2 (oMv (gC .nilslice)),
 kS d3 (oMv (gI 9))])
 kRet)
 kSkip))
 (kSeq (kRegion [kS d23 (oMv t6),
 kS d2 (oMv t23),
 kS d3 (oMv (gI 0))])
 kRet))))))
theorem e22 : b22 = comp ir22.code := by kernel_rfl
def k22 : KF := ⟨24, b22, [.tmp 2, .tmp 3]⟩
def b27 : KC := (kSeq (kRegion [kS d1 (oBox t0),
 kS d2 (oMv (gI 0)),
 kS d3 (oMv (gI 0)),
 kS d4 (oMv (gI 0))])
 (kSeq (kRegion [kS d11 (oLd true 3 t1),
 kS d12 (oCall (gC (.func 48 [] [])) [t11]),
 kS d10 (oMv t12),
 kS d13 (oExt t10 0),
 kS d14 (oExt t10 1),
 kS d5 (oMv t13),
 kS d4 (oMv t14)])
 (kSeq (kSeq (kRegion [kS d15 (oMv t4),
 kS d16 (oBin .neq t15 (gI 0))])
 (kCond t16 (kSeq (kRegion [kS d17 (oMv t4),
 kS d2 (oMv (gI 0)),
 kS d3 (oMv (gI 0)),
 kS d4 (oMv t17)])
 kRet)
 kSkip))
 (kSeq (kRegion [kS d18 (oBld [.nilslice, (.int .i64 0), .nilfunc] [(1, 1, (gI (-1))), (2, 1, (gC (.func 63 [] [])))]),
 kS d6 (oAlloc (.agg [.nilslice, (.int .i64 0), .nilfunc])),
 kN (oSt 3 t6 t18)])
 (kSeq (kRegion [kS d19 (oMv t5),
 kS d20 (oCall (gC (.func 64 [] [])) [t6, t19])])
 (kSeq (kSeq (kRegion [kS d21 (oFa t6 0),
 kS d22 (oLd false 1 t21),
 kS d23 (oLen false t22),
 kS d24 (oMv (gI 0))])
 (kBlock 0 (kLoop (kSeq (kRegion [kS d25 (oBin .lss t24 t23)])
 (kSeq (kCond t25 kSkip
 (kExit 0))
 (kSeq (kBlock 1 (kSeq (kRegion [kS d26 (oMv t24),
 kS d27 (oIa 14 t22 t24),
 kS d28 (oLd true 14 t27),
 kS d8 (oAlloc (.agg [(.int .i64 0), (.bool false), (.int .i64 0), (.bool false), (.int .i64 0), (.bool false), (.int .i64 0), (.bool false), (.int .i64 0), (.bool false), (.int .i64 0), (.int .i64 0), (.int .i64 0), (.int .i64 0)])),
 kS d7 (oMv t26),
 kN (oSt 14 t8 t28)])
 (kSeq (kRegion [kS d29 (oMv t5),
 kS d30 (oFa t8 0),
 kS d31 (oLd true 10 t30),
 kS d32 (oCall (gC (.func 49 [] [])) [t29, t31]),
 kS d33 (oLen false t32),
 kS d9 (oMv t33)])
 (kSeq (kRegion [kS d34 (oMv t7),
 kS d35 (oBin .eql t34 (gI 0)),
 kS d36 (oMv t35),
 kG t36 false d37 (oMv t9),
 kG t36 false d38 (oMv t2),
 kG t36 false d39 (oBin .lss t37 t38),
 kS d40 (oPick t36 (gC (.bool true)) t39)])
 (kCond t40 (kDraw [⟨kS d41 (oMv t9), ⟨(some 41), (.mv (.t 9)), none⟩, false, [], []⟩,
 ⟨kS d42 (oFa t8 13), ⟨(some 42), (.fa (.t 8) 13), none⟩, false, [], []⟩,
 ⟨kS d43 (oLd false 1 t42), ⟨(some 43), (.ld false 1 (.t 42)), none⟩, false, [⟨(some 43), (.ld false 1 (.t 42)), none⟩], []⟩,
 ⟨kS d2 (oMv t41), ⟨(some 2), (.mv (.t 41)), none⟩, false, [], []⟩,
 ⟨kS d3 (oMv t43), ⟨(some 3), (.mv (.t 43)), none⟩, false, [], []⟩])
 kSkip)))))
 (kRegion [kS d44 (oBin .add t24 (gI 1)),
 kS d24 (oMv t44)])))))))
 (kSeq (kRegion [kS d45 (oMv t2),
 kS d46 (oMv t3),
 kS d2 (oMv t45),
 kS d3 (oMv t46),
 kS d4 (oMv (gI 0))])
 kRet)))))))
theorem e27 : b27 = comp ir27.code := by kernel_rfl
def k27 : KF := ⟨47, b27, [.tmp 2, .tmp 3, .tmp 4]⟩
def b29 : KC := (kSeq (kRegion [kS d2 (oBox t0),
 kS d4 (oMv (gI 0)),
 kS d5 (oMv (gI 0))])
 (kSeq (kRegion [kS d10 (oLd true 3 t2),
 kS d11 (oCall (gC (.func 48 [] [])) [t10]),
 kS d9 (oMv t11),
 kS d12 (oExt t9 0),
 kS d13 (oExt t9 1),
 kS d6 (oMv t12),
 kS d7 (oMv t13)])
 (kSeq (kBlock 0 (kSeq (kRegion [kS d15 (oMv t7),
 kS d16 (oBin .neq t15 (gI 0)),
 kS d14 (oMv t16)])
 (kCond t14 (kSeq (kRegion [kS d17 (oMv t7),
 kS d4 (oMv (gI 0)),
 kS d5 (oMv t17)])
 kRet)
 (kSeq (kRegion [kS d19 (oMv t1),
 kS d20 (oBldS 1 1 [(.int .i64 0)] [(0, 1, t19)]),
 kS d21 (oCall (gC (.func 44 [] [])) [(gI 0), (gI 20), t20]),
 kS d18 (oMv t21)])
 (kCond t18 (kSeq (kRegion [kS d4 (oMv (gI 0)),
 kS d5 (oMv (gI 7))])
 kRet)
 kSkip)))))
 (kSeq (kRegion [kS d22 (oMv t1),
 kS d23 (oBld [.nilslice, (.int .i64 0), .nilfunc] [(1, 1, t22), (2, 1, (gC (.func 65 [] [])))]),
 kS d8 (oAlloc (.agg [.nilslice, (.int .i64 0), .nilfunc])),
 kN (oSt 3 t8 t23)])
 (kSeq (kRegion [kS d24 (oMv t6),
 kS d25 (oCall (gC (.func 64 [] [])) [t8, t24])])
 (kSeq (kRegion [kS d26 (oFa t8 0),
 kS d27 (oLd false 1 t26),
 kS d28 (oLen false t27),
 kS d4 (oMv t28),
 kS d5 (oMv (gI 0))])
 kRet))))))
theorem e29 : b29 = comp ir29.code := by kernel_rfl
def k29 : KF := ⟨29, b29, [.tmp 4, .tmp 5]⟩
def b31 : KC := (kSeq (kRegion [kS d1 (oBox t0),
 kS d2 (oMv (gC .nilslice)),
 kS d3 (oMv (gI 0))])
 (kSeq (kSeq (kRegion [kS d22 (oLd true 3 t1),
 kS d23 (oCall (gC (.func 7 [] [])) [t22]),
 kS d21 (oMv t23),
 kS d24 (oExt t21 0),
 kS d25 (oExt t21 1),
 kS d26 (oExt t21 2),
 kS d4 (oMv t24),
 kS d5 (oMv t25),
 kS d6 (oMv t26)])
 (kSeq (kRegion [kS d27 (oMv t6),
 kS d28 (oBin .neq t27 (gI 0))])
 (kCond t28 (kSeq (kRegion [kS d29 (oMv t6),
 kS d2 (oMv (gC .nilslice)),
 kS d3 (oMv t29)])
 kRet)
 kSkip)))
 (kSeq (kSeq (kRegion [kS d30 (oFa t1 0),
 kS d31 (oLd false 1 t30),
 kS d32 (oCall (gC (.func 42 [] [])) [t31, (gC (.func 66 [] []))])])
 (kCond t32 (kSeq (kRegion [kS d2 (oMv (gC .nilslice)),
 kS d3 (oMv (gI 8))])
 kRet)
 kSkip))
 (kSeq (kRegion [kS d33 (oGen .mkmap),
 kS d7 (oAlloc .nilmap),
 kN (oSt 1 t7 t33)])
 (kSeq (kSeq (kRegion [kS d34 (oFa t1 0),
 kS d35 (oLd false 1 t34),
 kS d36 (oLen false t35),
 kS d37 (oMv (gI 0))])
 (kBlock 0 (kLoop (kSeq (kRegion [kS d38 (oBin .lss t37 t36)])
 (kSeq (kCond t38 kSkip
 (kExit 0))
 (kSeq (kBlock 1 (kSeq (kRegion [kS d39 (oMv t37),
 kS d40 (oIa 4 t35 t37),
 kS d41 (oLd true 4 t40),
 kS d9 (oAlloc (.agg [(.str []), (.int .i64 0), (.bool false), (.int .i64 0)])),
 kS d8 (oMv t39),
 kN (oSt 4 t9 t41)])
 (kSeq (kSeq (kRegion [kS d43 (oLd false 1 t7),
 kS d44 (oFa t9 1),
 kS d45 (oLd false 1 t44),
 kS d46 (oGen (.lkp (.sc .i) (.int .i64 0) true (.t 43) (.t 45))),
 kS d42 (oMv t46),
 kS d47 (oExt t42 0),
 kS d48 (oExt t42 1),
 kS d10 (oMv t47),
 kS d11 (oMv t48)])
 (kSeq (kRegion [kS d49 (oMv t11)])
 (kCond t49 (kSeq (kRegion [kS d2 (oMv (gC .nilslice)),
 kS d3 (oMv (gI 5))])
 kRet)
 kSkip)))
 (kRegion [kS d50 (oLd false 1 t7),
 kS d51 (oFa t9 1),
 kS d52 (oLd false 1 t51),
 kS d53 (oMv t8),
 kN (oGen (.mapup (.sc .i) (.t 50) (.t 52) (.t 53)))]))))
 (kRegion [kS d54 (oBin .add t37 (gI 1)),
 kS d37 (oMv t54)])))))))
 (kSeq (kRegion [kS d55 (oGen .mkmap),
 kS d12 (oMv t55)])
 (kSeq (kSeq (kRegion [kS d56 (oFa t1 0),
 kS d57 (oLd false 1 t56),
 kS d58 (oLen false t57),
 kS d59 (oMv (gI 0))])
 (kBlock 2 (kLoop (kSeq (kRegion [kS d60 (oBin .lss t59 t58)])
 (kSeq (kCond t60 kSkip
 (kExit 2))
 (kSeq (kBlock 3 (kSeq (kRegion [kS d61 (oIa 4 t57 t59),
 kS d62 (oLd true 4 t61),
 kS d14 (oAlloc (.agg [(.str []), (.int .i64 0), (.bool false), (.int .i64 0)])),
 kN (oSt 4 t14 t62)])
 (kSeq (kSeq (kRegion [kS d64 (oLd false 1 t7),
 kS d65 (oFa t14 3),
 kS d66 (oLd false 1 t65),
 kS d67 (oGen (.lkp (.sc .i) (.int .i64 0) true (.t 64) (.t 66))),
 kS d63 (oMv t67),
 kS d68 (oExt t63 0),
 kS d69 (oExt t63 1),
 kS d15 (oMv t68),
 kS d16 (oMv t69)])
 (kSeq (kRegion [kS d70 (oMv t16),
 kS d71 (oNot t70)])
 (kCond t71 (kSeq (kRegion [kS d2 (oMv (gC .nilslice)),
 kS d3 (oMv (gI 9))])
 kRet)
 kSkip)))
 (kSeq (kRegion [kS d72 (oMv t12),
 kS d73 (oFa t14 3),
 kS d74 (oLd false 1 t73),
 kS d75 (oGen (.lkp (.sc .i) (.int .i64 0) false (.t 72) (.t 74))),
 kS d76 (oBin .add t75 (gI 1)),
 kN (oGen (.mapup (.sc .i) (.t 72) (.t 74) (.t 76)))])
 (kSeq (kRegion [kS d77 (oMv t12),
 kS d78 (oFa t14 3),
 kS d79 (oLd false 1 t78),
 kS d80 (oGen (.lkp (.sc .i) (.int .i64 0) false (.t 77) (.t 79))),
 kS d81 (oBin .gtr t80 (gI 1))])
 (kCond t81 (kSeq (kRegion [kS d2 (oMv (gC .nilslice)),
 kS d3 (oMv (gI 9))])
 kRet)
 kSkip))))))
 (kRegion [kS d82 (oBin .add t59 (gI 1)),
 kS d59 (oMv t82)])))))))
 (kSeq (kRegion [kS d17 (oAlloc (.int .i64 0)),
 kN (oSt 1 t17 (gI 0))])
 (kSeq (kRegion [kS d18 (oAlloc .nilfunc)])
 (kSeq (kRegion [kS d83 (oMkfn 67 [] [t17, t18, t7, t1]),
 kN (oSt 1 t18 t83)])
 (kSeq (kSeq (kRegion [kS d84 (oFa t1 0),
 kS d85 (oLd false 1 t84),
 kS d86 (oLen false t85),
 kS d87 (oMv (gI 0))])
 (kBlock 4 (kLoop (kSeq (kRegion [kS d88 (oBin .lss t87 t86)])
 (kSeq (kCond t88 kSkip
 (kExit 4))
 (kSeq (kBlock 5 (kSeq (kRegion [kS d89 (oMv t87),
 kS d19 (oMv t89)])
 (kSeq (kRegion [kS d90 (oLd false 1 t18),
 kS d91 (oMv t19),
 kS d92 (oCall t90 [t91]),
 kS d20 (oMv t92)])
 (kSeq (kRegion [kS d93 (oMv t20),
 kS d94 (oLen false t93),
 kS d95 (oBin .gtr t94 (gI 1))])
 (kCond t95 (kRegion [kS d96 (oMv t2),
 kS d97 (oMv t20),
 kS d98 (oBldS 1 1 [.nilslice] [(0, 1, t97)]),
 kS d99 (oGen (.app 1 24 (.t 96) (.t 98))),
 kS d2 (oMv t99)])
 kSkip)))))
 (kRegion [kS d100 (oBin .add t87 (gI 1)),
 kS d87 (oMv t100)])))))))
 (kSeq (kRegion [kS d101 (oMv t2),
 kS d2 (oMv t101),
 kS d3 (oMv (gI 0))])
 kRet))))))))))))
theorem e31 : b31 = comp ir31.code := by kernel_rfl
def k31 : KF := ⟨102, b31, [.tmp 2, .tmp 3]⟩
def b36 : KC := (kSeq (kRegion [kS d3 (oBox t0),
 kS d6 (oMv (gI 0)),
 kS d7 (oMv (gI 0))])
 (kSeq (kRegion [kS d16 (oLd true 3 t3),
 kS d17 (oCall (gC (.func 48 [] [])) [t16]),
 kS d15 (oMv t17),
 kS d18 (oExt t15 0),
 kS d19 (oExt t15 1),
 kS d8 (oMv t18),
 kS d9 (oMv t19)])
 (kSeq (kBlock 0 (kSeq (kRegion [kS d21 (oMv t9),
 kS d22 (oBin .neq t21 (gI 0)),
 kS d20 (oMv t22)])
 (kCond t20 (kSeq (kRegion [kS d23 (oMv t9),
 kS d6 (oMv (gI 0)),
 kS d7 (oMv t23)])
 kRet)
 (kSeq (kRegion [kS d25 (oFa t3 0),
 kS d26 (oLd false 1 t25),
 kS d27 (oLen false t26),
 kS d28 (oBin .sub t27 (gI 1)),
 kS d29 (oMv t1),
 kS d30 (oMv t2),
 kS d31 (oBldS 1 2 [(.int .i64 0)] [(0, 1, t29), (1, 1, t30)]),
 kS d32 (oCall (gC (.func 44 [] [])) [(gI 0), t28, t31]),
 kS d24 (oMv t32)])
 (kCond t24 (kSeq (kRegion [kS d6 (oMv (gI 0)),
 kS d7 (oMv (gI 4))])
 kRet)
 (kSeq (kRegion [kS d34 (oMv t1),
 kS d35 (oMv t2),
 kS d36 (oBin .geq t34 t35),
 kS d33 (oMv t36)])
 (kCond t33 (kSeq (kRegion [kS d6 (oMv (gI 0)),
 kS d7 (oMv (gI 2))])
 kRet)
 kSkip)))))))
 (kSeq (kRegion [kS d38 (oMv t8),
 kS d39 (oCall (gC (.func 58 [] [])) [t38]),
 kS d37 (oMv t39),
 kS d40 (oExt t37 0),
 kS d41 (oExt t37 1),
 kS d10 (oMv t40),
 kS d11 (oMv t41)])
 (kSeq (kSeq (kRegion [kS d42 (oMv t11),
 kS d43 (oNot t42)])
 (kCond t43 (kSeq (kRegion [kS d6 (oMv (gI 0)),
 kS d7 (oMv (gI 9))])
 kRet)
 kSkip))
 (kSeq (kSeq (kRegion [kS d44 (oMv t1),
 kS d45 (oMv t2),
 kS d46 (oBld [(.int .i64 0), (.int .i64 0)] [(0, 1, t44), (1, 1, t45)]),
 kS d12 (oAlloc (.agg [(.int .i64 0), (.int .i64 0)])),
 kN (oSt 2 t12 t46)])
 (kSeq (kDraw [⟨kS d47 (oMv t8), ⟨(some 47), (.mv (.t 8)), none⟩, false, [], []⟩,
 ⟨kS d48 (oNilck t47), ⟨(some 48), (.nilck (.t 47)), none⟩, false, [], []⟩,
 ⟨kS d49 (oFa t48 0), ⟨(some 49), (.fa (.t 48) 0), none⟩, false, [], []⟩,
 ⟨kS d50 (oFa t49 1), ⟨(some 50), (.fa (.t 49) 1), none⟩, false, [], []⟩,
 ⟨kS d51 (oLd false 1 t50), ⟨(some 51), (.ld false 1 (.t 50)), none⟩, false, [⟨(some 51), (.ld false 1 (.t 50)), none⟩], []⟩,
 ⟨kS d52 (oLd true 2 t12), ⟨(some 52), (.ld true 2 (.t 12)), none⟩, false, [⟨(some 52), (.ld true 2 (.t 12)), none⟩], []⟩,
 ⟨kS d53 (oCall (gC (.func 47 [] [])) [t51, t52]), ⟨(some 53), (.call (.c (.func 47 [] [])) [(.t 51), (.t 52)]), none⟩, true, [], []⟩,
 ⟨kS d54 (oNot t53), ⟨(some 54), (.un .not (.t 53)), none⟩, false, [], []⟩])
 (kCond t54 (kDraw [⟨kS d55 (oMv t8), ⟨(some 55), (.mv (.t 8)), none⟩, false, [], []⟩,
 ⟨kS d56 (oMv t8), ⟨(some 56), (.mv (.t 8)), none⟩, false, [], []⟩,
 ⟨kS d57 (oNilck t56), ⟨(some 57), (.nilck (.t 56)), none⟩, false, [], []⟩,
 ⟨kS d58 (oFa t57 0), ⟨(some 58), (.fa (.t 57) 0), none⟩, false, [], []⟩,
 ⟨kS d59 (oFa t58 1), ⟨(some 59), (.fa (.t 58) 1), none⟩, false, [], []⟩,
 ⟨kS d60 (oLd false 1 t59), ⟨(some 60), (.ld false 1 (.t 59)), none⟩, false, [⟨(some 60), (.ld false 1 (.t 59)), none⟩], []⟩,
 ⟨kS d61 (oCall (gC (.func 70 [] [])) [t60]), ⟨(some 61), (.call (.c (.func 70 [] [])) [(.t 60)]), none⟩, true, [], []⟩,
 ⟨kS d62 (oLd true 2 t12), ⟨(some 62), (.ld true 2 (.t 12)), none⟩, false, [⟨(some 62), (.ld true 2 (.t 12)), none⟩], [6]⟩,
 ⟨kS d63 (oBldS 2 1 [(.int .i64 0), (.int .i64 0)] [(0, 2, t62)]), ⟨(some 63), (.bldS 2 1 [(.int .i64 0), (.int .i64 0)] [(0, 2, (.t 62))]), none⟩, false, [], []⟩,
 ⟨kS d64 (oGen (.app 2 16 (.t 61) (.t 63))), ⟨(some 64), (.app 2 16 (.t 61) (.t 63)), none⟩, true, [], []⟩,
 ⟨kS d65 (oNilck t55), ⟨(some 65), (.nilck (.t 55)), none⟩, false, [], []⟩,
 ⟨kS d66 (oFa t65 0), ⟨(some 66), (.fa (.t 65) 0), none⟩, false, [], []⟩,
 ⟨kS d67 (oFa t66 1), ⟨(some 67), (.fa (.t 66) 1), none⟩, false, [], []⟩,
 ⟨kN (oSt 1 t67 t64), ⟨none, (.st 1 (.t 67) (.t 64)), none⟩, true, [], []⟩])
 kSkip)))
 (kSeq (kRegion [kS d69 (oMv t8),
 kS d70 (oCall (gC (.func 58 [] [])) [t69]),
 kS d68 (oMv t70),
 kS d71 (oExt t68 0),
 kS d72 (oExt t68 1),
 kS d13 (oMv t71),
 kS d14 (oMv t72)])
 (kSeq (kRegion [kS d73 (oMv t10),
 kS d74 (oLen false t73),
 kS d75 (oMv t13),
 kS d76 (oLen false t75),
 kS d77 (oBin .sub t74 t76),
 kS d6 (oMv t77),
 kS d7 (oMv (gI 0))])
 kRet))))))))
theorem e36 : b36 = comp ir36.code := by kernel_rfl
def k36 : KF := ⟨78, b36, [.tmp 6, .tmp 7]⟩
def b38 : KC := (kSeq (kRegion [kS d0 (oMv (gC (.bool false)))])
 (kSeq (kRegion [kS d26 (oCall (gC (.func 71 [] [])) [(gI 1)]),
 kS d27 (oCall (gC (.func 71 [] [])) [(gI (-1))]),
 kS d28 (oCall (gC (.func 72 [] [])) []),
 kS d1 (oAlloc (.agg [.nilslice, .nilslice, (.int .i64 0)])),
 kS d2 (oAlloc (.agg [.nilslice, .nilslice, (.int .i64 0)])),
 kS d3 (oAlloc (.agg [.nilslice, .nilslice, (.int .i64 0)])),
 kN (oSt 3 t1 t26),
 kN (oSt 3 t2 t27),
 kN (oSt 3 t3 t28)])
 (kSeq (kRegion [kS d30 (oLd true 3 t1),
 kS d31 (oCall (gC (.func 12 [] [])) [t30]),
 kS d29 (oMv t31),
 kS d32 (oExt t29 0),
 kS d33 (oExt t29 1),
 kS d4 (oMv t32),
 kS d5 (oMv t33)])
 (kSeq (kDraw [⟨kS d35 (oLd true 3 t1), ⟨(some 35), (.ld true 3 (.t 1)), none⟩, false, [⟨(some 35), (.ld true 3 (.t 1)), none⟩], []⟩,
 ⟨kS d36 (oBldS 1 6 [(.int .i64 0)] [(0, 1, (gI 2)), (1, 1, (gI 3)), (2, 1, (gI 1)), (3, 1, (gI 2)), (4, 1, (gI 1)), (5, 1, (gI 1))]), ⟨(some 36), (.bldS 1 6 [(.int .i64 0)] [(0, 1, (.c (.int .i64 2))), (1, 1, (.c (.int .i64 3))), (2, 1, (.c (.int .i64 1))), (3, 1, (.c (.int .i64 2))), (4, 1, (.c (.int .i64 1))), (5, 1, (.c (.int .i64 1)))]), none⟩, false, [], []⟩,
 ⟨kS d37 (oCall (gC (.func 73 [] [])) [t36]), ⟨(some 37), (.call (.c (.func 73 [] [])) [(.t 36)]), none⟩, true, [⟨(some 35), (.ld true 3 (.t 1)), none⟩], []⟩,
 ⟨kS d38 (oCall (gC (.func 17 [] [])) [t35, t37]), ⟨(some 38), (.call (.c (.func 17 [] [])) [(.t 35), (.t 37)]), none⟩, true, [], []⟩,
 ⟨kS d34 (oMv t38), ⟨(some 34), (.mv (.t 38)), none⟩, false, [], []⟩,
 ⟨kS d39 (oExt t34 0), ⟨(some 39), (.ext (.t 34) 0), none⟩, false, [], []⟩,
 ⟨kS d40 (oExt t34 1), ⟨(some 40), (.ext (.t 34) 1), none⟩, false, [], []⟩,
 ⟨kS d6 (oAlloc (.agg [.nilslice, .nilslice, (.int .i64 0)])), ⟨(some 6), (.alloc (.agg [.nilslice, .nilslice, (.int .i64 0)])), none⟩, false, [], []⟩,
 ⟨kN (oSt 3 t6 t39), ⟨none, (.st 3 (.t 6) (.t 39)), none⟩, true, [], []⟩,
 ⟨kS d7 (oMv t40), ⟨(some 7), (.mv (.t 40)), none⟩, false, [], []⟩])
 (kSeq (kRegion [kS d42 (oLd true 3 t6),
 kS d43 (oCall (gC (.func 74 [] [])) [t42]),
 kS d41 (oMv t43),
 kS d44 (oExt t41 0),
 kS d45 (oExt t41 1),
 kS d8 (oMv t44),
 kS d9 (oMv t45)])
 (kSeq (kRegion [kS d47 (oLd true 3 t1),
 kS d48 (oCall (gC (.func 22 [] [])) [t47]),
 kS d46 (oMv t48),
 kS d49 (oExt t46 0),
 kS d50 (oExt t46 1),
 kS d10 (oMv t49),
 kS d11 (oMv t50)])
 (kSeq (kRegion [kS d52 (oLd true 3 t2),
 kS d53 (oCall (gC (.func 22 [] [])) [t52]),
 kS d51 (oMv t53),
 kS d54 (oExt t51 0),
 kS d55 (oExt t51 1),
 kS d12 (oMv t54),
 kS d13 (oMv t55)])
 (kSeq (kRegion [kS d57 (oLd true 3 t1),
 kS d58 (oCall (gC (.func 27 [] [])) [t57]),
 kS d56 (oMv t58),
 kS d59 (oExt t56 0),
 kS d60 (oExt t56 1),
 kS d61 (oExt t56 2),
 kS d14 (oMv t59),
 kS d15 (oMv t60),
 kS d16 (oMv t61)])
 (kSeq (kRegion [kS d63 (oLd true 3 t2),
 kS d64 (oCall (gC (.func 27 [] [])) [t63]),
 kS d62 (oMv t64),
 kS d65 (oExt t62 0),
 kS d66 (oExt t62 1),
 kS d67 (oExt t62 2),
 kS d17 (oMv t65),
 kS d18 (oMv t66),
 kS d19 (oMv t67)])
 (kSeq (kRegion [kS d69 (oLd true 3 t1),
 kS d70 (oCall (gC (.func 29 [] [])) [t69, (gI 2)]),
 kS d68 (oMv t70),
 kS d71 (oExt t68 0),
 kS d72 (oExt t68 1),
 kS d20 (oMv t71),
 kS d21 (oMv t72)])
 (kSeq (kRegion [kS d74 (oLd true 3 t3),
 kS d75 (oCall (gC (.func 31 [] [])) [t74]),
 kS d73 (oMv t75),
 kS d76 (oExt t73 0),
 kS d77 (oExt t73 1),
 kS d22 (oMv t76),
 kS d23 (oMv t77)])
 (kSeq (kRegion [kS d79 (oCall (gC (.func 75 [] [])) []),
 kS d80 (oCall (gC (.func 36 [] [])) [t79, (gI 0), (gI 3)]),
 kS d78 (oMv t80),
 kS d81 (oExt t78 0),
 kS d82 (oExt t78 1),
 kS d24 (oMv t81),
 kS d25 (oMv t82)])
 (kSeq (kRegion [kS d83 (oMv t5),
 kS d84 (oBin .eql t83 (gI 0)),
 kS d85 (oMv t84),
 kG t85 true d86 (oMv t7),
 kG t85 true d87 (oBin .eql t86 (gI 0)),
 kS d88 (oPick t85 t87 (gC (.bool false))),
 kS d89 (oMv t88),
 kG t89 true d90 (oMv t11),
 kG t89 true d91 (oBin .eql t90 (gI 0)),
 kS d92 (oPick t89 t91 (gC (.bool false))),
 kS d93 (oMv t92),
 kG t93 true d94 (oMv t13),
 kG t93 true d95 (oBin .eql t94 (gI 9)),
 kS d96 (oPick t93 t95 (gC (.bool false))),
 kS d97 (oMv t96),
 kG t97 true d98 (oMv t16),
 kG t97 true d99 (oBin .eql t98 (gI 0)),
 kS d100 (oPick t97 t99 (gC (.bool false))),
 kS d101 (oMv t100),
 kG t101 true d102 (oMv t19),
 kG t101 true d103 (oBin .eql t102 (gI 0)),
 kS d104 (oPick t101 t103 (gC (.bool false))),
 kS d105 (oMv t104),
 kG t105 true d106 (oMv t21),
 kG t105 true d107 (oBin .eql t106 (gI 0)),
 kS d108 (oPick t105 t107 (gC (.bool false))),
 kS d109 (oMv t108),
 kG t109 true d110 (oMv t23),
 kG t109 true d111 (oBin .eql t110 (gI 0)),
 kS d112 (oPick t109 t111 (gC (.bool false))),
 kS d113 (oMv t112),
 kG t113 true d114 (oMv t25),
 kG t113 true d115 (oBin .eql t114 (gI 0)),
 kS d116 (oPick t113 t115 (gC (.bool false))),
 kS d117 (oMv t116),
 kG t117 true d118 (oMv t4),
 kG t117 true d119 (oBldS 1 3 [(.int .i64 0)] [(0, 1, (gI 0)), (1, 1, (gI 1)), (2, 1, (gI 2))]),
 kG t117 true d120 (oCall (gC (.func 76 [] [])) [t118, t119]),
 kS d121 (oPick t117 t120 (gC (.bool false))),
 kS d122 (oMv t121),
 kG t122 true d123 (oMv t8),
 kG t122 true d124 (oBldS 1 4 [(.int .i64 0)] [(0, 1, (gI 1)), (1, 1, (gI 3)), (2, 1, (gI 0)), (3, 1, (gI 2))]),
 kG t122 true d125 (oCall (gC (.func 76 [] [])) [t123, t124]),
 kS d126 (oPick t122 t125 (gC (.bool false))),
 kS d127 (oMv t126),
 kG t127 true d128 (oMv t9),
 kS d129 (oPick t127 t128 (gC (.bool false))),
 kS d130 (oMv t129),
 kG t130 true d131 (oMv t10),
 kG t130 true d132 (oBldS 1 10 [(.int .i64 0)] [(0, 1, (gI 0)), (1, 1, (gI 1)), (2, 1, (gI 2)), (3, 1, (gI 3)), (4, 1, (gI 1)), (5, 1, (gI 2)), (6, 1, (gI 1)), (7, 1, (gI 1)), (8, 1, (gI 1)), (9, 1, (gI 2))]),
 kG t130 true d133 (oCall (gC (.func 73 [] [])) [t132]),
 kG t130 true d134 (oCall (gC (.func 77 [] [])) [t131, t133]),
 kS d135 (oPick t130 t134 (gC (.bool false))),
 kS d136 (oMv t135),
 kG t136 true d137 (oMv t14),
 kG t136 true d138 (oBin .eql t137 (gI 0)),
 kS d139 (oPick t136 t138 (gC (.bool false))),
 kS d140 (oMv t139),
 kG t140 true d141 (oMv t15),
 kG t140 true d142 (oBin .eql t141 (gI 5)),
 kS d143 (oPick t140 t142 (gC (.bool false))),
 kS d144 (oMv t143),
 kG t144 true d145 (oMv t17),
 kG t144 true d146 (oBin .eql t145 (gI 1)),
 kS d147 (oPick t144 t146 (gC (.bool false))),
 kS d148 (oMv t147),
 kG t148 true d149 (oMv t18),
 kG t148 true d150 (oBin .eql t149 (gI 1)),
 kS d151 (oPick t148 t150 (gC (.bool false))),
 kS d152 (oMv t151),
 kG t152 true d153 (oMv t20),
 kG t152 true d154 (oBin .eql t153 (gI 9)),
 kS d155 (oPick t152 t154 (gC (.bool false))),
 kS d156 (oMv t155),
 kG t156 true d157 (oMv t22),
 kG t156 true d158 (oBldS 1 3 [(.int .i64 0)] [(0, 1, (gI 0)), (1, 1, (gI 2)), (2, 1, (gI 1))]),
 kG t156 true d159 (oBldS 1 1 [.nilslice] [(0, 1, t158)]),
 kG t156 true d160 (oCall (gC (.func 78 [] [])) [t157, t159]),
 kS d161 (oPick t156 t160 (gC (.bool false))),
 kS d162 (oMv t161),
 kG t162 true d163 (oMv t24),
 kG t162 true d164 (oBin .eql t163 (gI 4)),
 kS d165 (oPick t162 t164 (gC (.bool false))),
 kS d0 (oMv t165)])
 kRet)))))))))))))
theorem e38 : b38 = comp ir38.code := by kernel_rfl
def k38 : KF := ⟨166, b38, [.tmp 0]⟩
def b39 : KC := (kSeq (kRegion [kS d4 (oMv (gI 0)),
 kS d5 (oMv (gI 0))])
 (kSeq (kSeq (kRegion [kS d9 (oMv t0),
 kS d10 (oLen false t9),
 kS d11 (oMv (gI 0))])
 (kBlock 0 (kLoop (kSeq (kRegion [kS d12 (oBin .lss t11 t10)])
 (kSeq (kCond t12 kSkip
 (kExit 0))
 (kSeq (kBlock 1 (kSeq (kRegion [kS d13 (oMv t11),
 kS d14 (oIa 4 t9 t11),
 kS d15 (oLd true 4 t14),
 kS d7 (oAlloc (.agg [(.str []), (.int .i64 0), (.bool false), (.int .i64 0)])),
 kS d6 (oMv t13),
 kN (oSt 4 t7 t15)])
 (kSeq (kRegion [kS d16 (oMv t1),
 kS d17 (oMv t6),
 kS d18 (oLd true 4 t7),
 kS d19 (oCall t16 [t17, t18]),
 kS d8 (oMv t19)])
 (kSeq (kRegion [kS d20 (oMv t8),
 kS d21 (oBin .neq t20 (gI 0))])
 (kCond t21 (kSeq (kRegion [kS d22 (oMv t6),
 kS d23 (oMv t8),
 kS d4 (oMv t22),
 kS d5 (oMv t23)])
 kRet)
 kSkip)))))
 (kRegion [kS d24 (oBin .add t11 (gI 1)),
 kS d11 (oMv t24)])))))))
 (kSeq (kRegion [kS d4 (oMv (gI 0)),
 kS d5 (oMv (gI 0))])
 kRet)))
theorem e39 : b39 = comp ir39.code := by kernel_rfl
def k39 : KF := ⟨25, b39, [.tmp 4, .tmp 5]⟩
def b40 : KC := (kSeq (kRegion [kS d4 (oBox t1),
 kS d5 (oMv (gI 0))])
 (kSeq (kBlock 0 (kSeq (kRegion [kS d7 (oFa t4 0),
 kS d8 (oLd false 1 t7),
 kS d9 (oCall (gC (.func 41 [] [])) [t8]),
 kS d10 (oNot t9),
 kS d6 (oMv t10)])
 (kCond t6 (kSeq (kRegion [kS d5 (oMv (gI 6))])
 kRet)
 (kSeq (kRegion [kS d12 (oFa t2 0),
 kS d13 (oLd false 1 t12),
 kS d14 (oMv t0),
 kS d15 (oGen (.slc 4 (.t 13) none (some (.t 14)) none)),
 kS d16 (oMkfn 43 [] [t4]),
 kS d17 (oCall (gC (.func 42 [] [])) [t15, t16]),
 kS d11 (oMv t17)])
 (kCond t11 (kSeq (kRegion [kS d5 (oMv (gI 5))])
 kRet)
 (kSeq (kRegion [kS d19 (oFa t4 1),
 kS d20 (oLd false 1 t19),
 kS d21 (oBldS 1 1 [(.int .i64 0)] [(0, 1, t20)]),
 kS d22 (oCall (gC (.func 44 [] [])) [(gI 0), (gI 5), t21]),
 kS d23 (oMv t22),
 kG t23 false d24 (oFa t4 3),
 kG t23 false d25 (oLd false 1 t24),
 kG t23 false d26 (oBldS 1 1 [(.int .i64 0)] [(0, 1, t25)]),
 kG t23 false d27 (oCall (gC (.func 44 [] [])) [(gI (-1)), (gI 5), t26]),
 kS d28 (oPick t23 (gC (.bool true)) t27),
 kS d18 (oMv t28)])
 (kCond t18 (kSeq (kRegion [kS d5 (oMv (gI 7))])
 kRet)
 kSkip)))))))
 (kSeq (kRegion [kS d5 (oMv (gI 0))])
 kRet)))
theorem e40 : b40 = comp ir40.code := by kernel_rfl
def k40 : KF := ⟨29, b40, [.tmp 5]⟩
def b41 : KC := (kSeq (kRegion [kS d2 (oMv (gC (.bool false)))])
 (kSeq (kSeq (kRegion [kS d6 (oMv t0),
 kS d7 (oGen (.rng (.t 6)))])
 (kBlock 0 (kLoop (kSeq (kRegion [kS d8 (oGen (.nxt (.t 7))),
 kS d9 (oExt t8 0)])
 (kSeq (kCond t9 kSkip
 (kExit 0))
 (kBlock 1 (kSeq (kRegion [kS d10 (oExt t8 1),
 kS d11 (oExt t8 2),
 kS d3 (oMv t10),
 kS d4 (oMv t11)])
 (kSeq (kRegion [kS d12 (oMv t4),
 kS d13 (oBin .leq (gC (.int .i32 97)) t12),
 kS d14 (oMv t13),
 kG t14 true d15 (oMv t4),
 kG t14 true d16 (oBin .leq t15 (gC (.int .i32 122))),
 kS d17 (oPick t14 t16 (gC (.bool false))),
 kS d5 (oMv t17)])
 (kSeq (kRegion [kS d18 (oMv t5),
 kS d19 (oNot t18),
 kS d20 (oMv t19),
 kG t20 true d21 (oMv t3),
 kG t20 true d22 (oBin .eql t21 (gI 0)),
 kG t20 true d23 (oMv t22),
 kG t23 false d24 (oMv t4),
 kG t23 false d25 (oBin .neq t24 (gC (.int .i32 46))),
 kG t23 false d26 (oMv t25),
 kG t26 true d27 (oMv t4),
 kG t26 true d28 (oBin .lss t27 (gC (.int .i32 48))),
 kG t26 true d29 (oMv t28),
 kG t29 false d30 (oMv t4),
 kG t29 false d31 (oBin .gtr t30 (gC (.int .i32 57))),
 kG t26 true d32 (oPick t29 (gC (.bool true)) t31),
 kG t23 false d33 (oPick t26 t32 (gC (.bool false))),
 kG t20 true d34 (oPick t23 (gC (.bool true)) t33),
 kS d35 (oPick t20 t34 (gC (.bool false)))])
 (kCond t35 (kSeq (kRegion [kS d2 (oMv (gC (.bool false)))])
 kRet)
 kSkip))))))))))
 (kSeq (kRegion [kS d36 (oMv t0),
 kS d37 (oBin .neq t36 (gC (.str []))),
 kS d38 (oMv t37),
 kG t38 true d39 (oMv t0),
 kG t38 true d40 (oLen true t39),
 kG t38 true d41 (oBin .leq t40 (gI 16)),
 kS d42 (oPick t38 t41 (gC (.bool false))),
 kS d2 (oMv t42)])
 kRet)))
theorem e41 : b41 = comp ir41.code := by kernel_rfl
def k41 : KF := ⟨43, b41, [.tmp 2]⟩
def b42 : KC := (kSeq (kRegion [kS d4 (oMv (gC (.bool false)))])
 (kSeq (kRegion [kS d5 (oMv t0),
 kS d6 (oMv t1),
 kS d7 (oCall (gC (.func 79 [] [])) [t5, t6]),
 kS d8 (oBin .geq t7 (gI 0)),
 kS d4 (oMv t8)])
 kRet))
theorem e42 : b42 = comp ir42.code := by kernel_rfl
def k42 : KF := ⟨9, b42, [.tmp 4]⟩
def b43 : KC := (kSeq (kRegion [kS d2 (oBox t0),
 kS d3 (oMv (gC (.bool false)))])
 (kSeq (kRegion [kS d4 (oFa t2 0),
 kS d5 (oLd false 1 t4),
 kS d6 (oFa t1 0),
 kS d7 (oLd false 1 t6),
 kS d8 (oBin .eql t5 t7),
 kS d3 (oMv t8)])
 kRet))
theorem e43 : b43 = comp ir43.code := by kernel_rfl
def k43 : KF := ⟨9, b43, [.tmp 3]⟩
def b44 : KC := (kSeq (kRegion [kS d3 (oBox t0),
 kS d4 (oBox t1),
 kS d6 (oMv (gC (.bool false)))])
 (kSeq (kRegion [kS d7 (oMv t2),
 kS d8 (oMkfn 81 [] [t3, t4]),
 kS d9 (oCall (gC (.func 80 [] [])) [t7, t8]),
 kS d6 (oMv t9)])
 kRet))
theorem e44 : b44 = comp ir44.code := by kernel_rfl
def k44 : KF := ⟨10, b44, [.tmp 6]⟩
def b45 : KC := (kSeq (kRegion [kS d4 (oMv (gI 0)),
 kS d5 (oMv (gI 0))])
 (kSeq (kSeq (kRegion [kS d9 (oMv t0),
 kS d10 (oLen false t9),
 kS d11 (oMv (gI 0))])
 (kBlock 0 (kLoop (kSeq (kRegion [kS d12 (oBin .lss t11 t10)])
 (kSeq (kCond t12 kSkip
 (kExit 0))
 (kSeq (kBlock 1 (kSeq (kRegion [kS d13 (oMv t11),
 kS d14 (oIa 2 t9 t11),
 kS d15 (oLd true 2 t14),
 kS d7 (oAlloc (.agg [(.int .i64 0), (.int .i64 0)])),
 kS d6 (oMv t13),
 kN (oSt 2 t7 t15)])
 (kSeq (kRegion [kS d16 (oMv t1),
 kS d17 (oMv t6),
 kS d18 (oLd true 2 t7),
 kS d19 (oCall t16 [t17, t18]),
 kS d8 (oMv t19)])
 (kSeq (kRegion [kS d20 (oMv t8),
 kS d21 (oBin .neq t20 (gI 0))])
 (kCond t21 (kSeq (kRegion [kS d22 (oMv t6),
 kS d23 (oMv t8),
 kS d4 (oMv t22),
 kS d5 (oMv t23)])
 kRet)
 kSkip)))))
 (kRegion [kS d24 (oBin .add t11 (gI 1)),
 kS d11 (oMv t24)])))))))
 (kSeq (kRegion [kS d4 (oMv (gI 0)),
 kS d5 (oMv (gI 0))])
 kRet)))
theorem e45 : b45 = comp ir45.code := by kernel_rfl
def k45 : KF := ⟨25, b45, [.tmp 4, .tmp 5]⟩
def b46 : KC := (kSeq (kRegion [kS d5 (oBox t1),
 kS d6 (oMv (gI 0))])
 (kSeq (kBlock 0 (kSeq (kRegion [kS d8 (oLd false 1 t2),
 kS d9 (oFa t5 0),
 kS d10 (oLd false 1 t9),
 kS d11 (oFa t5 1),
 kS d12 (oLd false 1 t11),
 kS d13 (oBldS 1 2 [(.int .i64 0)] [(0, 1, t10), (1, 1, t12)]),
 kS d14 (oCall (gC (.func 44 [] [])) [(gI 0), t8, t13]),
 kS d7 (oMv t14)])
 (kCond t7 (kSeq (kRegion [kS d6 (oMv (gI 4))])
 kRet)
 (kSeq (kRegion [kS d16 (oFa t5 0),
 kS d17 (oLd false 1 t16),
 kS d18 (oFa t5 1),
 kS d19 (oLd false 1 t18),
 kS d20 (oBin .geq t17 t19),
 kS d15 (oMv t20)])
 (kCond t15 (kSeq (kRegion [kS d6 (oMv (gI 2))])
 kRet)
 (kSeq (kDraw [⟨kS d22 (oFa t3 1), ⟨(some 22), (.fa (.t 3) 1), none⟩, false, [], []⟩,
 ⟨kS d23 (oLd false 1 t22), ⟨(some 23), (.ld false 1 (.t 22)), none⟩, false, [⟨(some 23), (.ld false 1 (.t 22)), none⟩], []⟩,
 ⟨kS d24 (oMv t0), ⟨(some 24), (.mv (.t 0)), none⟩, false, [], []⟩,
 ⟨kS d25 (oGen (.slc 2 (.t 23) none (some (.t 24)) none)), ⟨(some 25), (.slc 2 (.t 23) none (some (.t 24)) none), none⟩, false, [], []⟩,
 ⟨kS d26 (oLd true 2 t5), ⟨(some 26), (.ld true 2 (.t 5)), none⟩, false, [⟨(some 26), (.ld true 2 (.t 5)), none⟩], []⟩,
 ⟨kS d27 (oCall (gC (.func 47 [] [])) [t25, t26]), ⟨(some 27), (.call (.c (.func 47 [] [])) [(.t 25), (.t 26)]), none⟩, true, [], []⟩,
 ⟨kS d21 (oMv t27), ⟨(some 21), (.mv (.t 27)), none⟩, false, [], []⟩])
 (kCond t21 (kSeq (kRegion [kS d6 (oMv (gI 5))])
 kRet)
 kSkip)))))))
 (kSeq (kRegion [kS d6 (oMv (gI 0))])
 kRet)))
theorem e46 : b46 = comp ir46.code := by kernel_rfl
def k46 : KF := ⟨28, b46, [.tmp 6]⟩
def b47 : KC := (kSeq (kRegion [kS d3 (oBox t1),
 kS d4 (oMv (gC (.bool false)))])
 (kSeq (kRegion [kS d5 (oMv t0),
 kS d6 (oLd true 2 t3),
 kS d7 (oCall (gC (.func 82 [] [])) [t5, t6]),
 kS d8 (oBin .geq t7 (gI 0)),
 kS d4 (oMv t8)])
 kRet))
theorem e47 : b47 = comp ir47.code := by kernel_rfl
def k47 : KF := ⟨9, b47, [.tmp 4]⟩
def b48 : KC := (kSeq (kRegion [kS d1 (oBox t0),
 kS d2 (oMv (gC .nilptr)),
 kS d3 (oMv (gI 0))])
 (kSeq (kSeq (kRegion [kS d11 (oLd true 3 t1),
 kS d12 (oCall (gC (.func 7 [] [])) [t11]),
 kS d10 (oMv t12),
 kS d13 (oExt t10 0),
 kS d14 (oExt t10 1),
 kS d15 (oExt t10 2),
 kS d4 (oMv t13),
 kS d5 (oMv t14),
 kS d6 (oMv t15)])
 (kSeq (kRegion [kS d16 (oMv t6),
 kS d17 (oBin .neq t16 (gI 0))])
 (kCond t17 (kSeq (kRegion [kS d18 (oMv t6),
 kS d2 (oMv (gC .nilptr)),
 kS d3 (oMv t18)])
 kRet)
 kSkip)))
 (kSeq (kRegion [kS d19 (oLd true 3 t1),
 kS d20 (oBld [.nilslice, .nilslice, (.int .i64 0), (.int .i64 0), (.bool false), (.int .i64 0), (.bool false), (.int .i64 0), (.bool false), (.int .i64 0), (.bool false), (.int .i64 0), (.bool false)] [(0, 3, t19)]),
 kS d21 (oBox t20),
 kS d7 (oMv t21)])
 (kSeq (kSeq (kRegion [kS d22 (oFa t1 0),
 kS d23 (oLd false 1 t22),
 kS d24 (oLen false t23),
 kS d25 (oMv (gI 0))])
 (kBlock 0 (kLoop (kSeq (kRegion [kS d26 (oBin .lss t25 t24)])
 (kSeq (kCond t26 kSkip
 (kExit 0))
 (kSeq (kBlock 1 (kSeq (kRegion [kS d27 (oMv t25),
 kS d28 (oIa 4 t23 t25),
 kS d29 (oLd true 4 t28),
 kS d9 (oAlloc (.agg [(.str []), (.int .i64 0), (.bool false), (.int .i64 0)])),
 kS d8 (oMv t27),
 kN (oSt 4 t9 t29)])
 (kDraw [⟨kS d30 (oMv t7), ⟨(some 30), (.mv (.t 7)), none⟩, false, [], []⟩,
 ⟨kS d31 (oMv t8), ⟨(some 31), (.mv (.t 8)), none⟩, false, [], []⟩,
 ⟨kS d32 (oFa t9 1), ⟨(some 32), (.fa (.t 9) 1), none⟩, false, [], []⟩,
 ⟨kS d33 (oLd false 1 t32), ⟨(some 33), (.ld false 1 (.t 32)), none⟩, false, [⟨(some 33), (.ld false 1 (.t 32)), none⟩], []⟩,
 ⟨kS d34 (oFa t9 2), ⟨(some 34), (.fa (.t 9) 2), none⟩, false, [], []⟩,
 ⟨kS d35 (oLd false 1 t34), ⟨(some 35), (.ld false 1 (.t 34)), none⟩, false, [⟨(some 35), (.ld false 1 (.t 34)), none⟩], []⟩,
 ⟨kS d36 (oBld [(.int .i64 0), (.bool false)] [(0, 1, t33), (1, 1, t35)]), ⟨(some 36), (.bld [(.int .i64 0), (.bool false)] [(0, 1, (.t 33)), (1, 1, (.t 35))]), none⟩, false, [], []⟩,
 ⟨kS d37 (oNilck t30), ⟨(some 37), (.nilck (.t 30)), none⟩, false, [], []⟩,
 ⟨kS d38 (oFa t37 3), ⟨(some 38), (.fa (.t 37) 3), none⟩, false, [], []⟩,
 ⟨kS d39 (oIaa 5 2 t38 t31), ⟨(some 39), (.iaa 5 2 (.t 38) (.t 31)), none⟩, false, [], []⟩,
 ⟨kN (oSt 2 t39 t36), ⟨none, (.st 2 (.t 39) (.t 36)), none⟩, true, [], []⟩])))
 (kRegion [kS d40 (oBin .add t25 (gI 1)),
 kS d25 (oMv t40)])))))))
 (kSeq (kRegion [kS d41 (oMv t7),
 kS d2 (oMv t41),
 kS d3 (oMv (gI 0))])
 kRet)))))
theorem e48 : b48 = comp ir48.code := by kernel_rfl
def k48 : KF := ⟨42, b48, [.tmp 2, .tmp 3]⟩
def b49 : KC := (kSeq (kRegion [kS d3 (oBox t1),
 kS d4 (oMv (gC .nilslice))])
 (kSeq (kSeq (kRegion [kS d7 (oMv t0),
 kS d8 (oNilck t7),
 kS d9 (oFa t8 0),
 kS d10 (oFa t9 0),
 kS d11 (oLd false 1 t10),
 kS d12 (oLen false t11),
 kS d13 (oMv (gI 0))])
 (kBlock 0 (kLoop (kSeq (kRegion [kS d14 (oBin .lss t13 t12)])
 (kSeq (kCond t14 kSkip
 (kExit 0))
 (kSeq (kBlock 1 (kSeq (kRegion [kS d15 (oMv t13),
 kS d16 (oIa 4 t11 t13),
 kS d17 (oLd true 4 t16),
 kS d6 (oAlloc (.agg [(.str []), (.int .i64 0), (.bool false), (.int .i64 0)])),
 kS d5 (oMv t15),
 kN (oSt 4 t6 t17)])
 (kSeq (kDraw [⟨kS d18 (oFa t6 3), ⟨(some 18), (.fa (.t 6) 3), none⟩, false, [], []⟩,
 ⟨kS d19 (oLd false 1 t18), ⟨(some 19), (.ld false 1 (.t 18)), none⟩, false, [⟨(some 19), (.ld false 1 (.t 18)), none⟩], []⟩,
 ⟨kS d20 (oBin .neq t19 (gI (-1))), ⟨(some 20), (.bin .neq (.t 19) (.c (.int .i64 (-1)))), none⟩, false, [], []⟩,
 ⟨kS d21 (oMv t20), ⟨(some 21), (.mv (.t 20)), none⟩, false, [], []⟩,
 ⟨kG t21 true d22 (oMv t5), ⟨(some 22), (.mv (.t 5)), (some (21, true))⟩, false, [], []⟩,
 ⟨kG t21 true d23 (oIaa 5 2 t3 t22), ⟨(some 23), (.iaa 5 2 (.t 3) (.t 22)), (some (21, true))⟩, false, [], []⟩,
 ⟨kG t21 true d24 (oLd true 2 t23), ⟨(some 24), (.ld true 2 (.t 23)), (some (21, true))⟩, false, [⟨(some 24), (.ld true 2 (.t 23)), (some (21, true))⟩], []⟩,
 ⟨kG t21 true d25 (oFa t6 3), ⟨(some 25), (.fa (.t 6) 3), (some (21, true))⟩, false, [], []⟩,
 ⟨kG t21 true d26 (oLd false 1 t25), ⟨(some 26), (.ld false 1 (.t 25)), (some (21, true))⟩, false, [⟨(some 26), (.ld false 1 (.t 25)), (some (21, true))⟩], []⟩,
 ⟨kG t21 true d27 (oBld [(.int .i64 0), (.bool false)] [(0, 1, t26)]), ⟨(some 27), (.bld [(.int .i64 0), (.bool false)] [(0, 1, (.t 26))]), (some (21, true))⟩, false, [], []⟩,
 ⟨kG t21 true d28 (oEqv (.ag [.i, .b]) true t24 t27), ⟨(some 28), (.eqv (.ag [.i, .b]) true (.t 24) (.t 27)), (some (21, true))⟩, false, [], []⟩,
 ⟨kS d29 (oPick t21 t28 (gC (.bool false))), ⟨(some 29), (.pick (.t 21) (.t 28) (.c (.bool false))), none⟩, false, [], []⟩])
 (kCond t29 (kRegion [kS d30 (oMv t4),
 kS d31 (oMv t5),
 kS d32 (oBldS 1 1 [(.int .i64 0)] [(0, 1, t31)]),
 kS d33 (oGen (.app 1 8 (.t 30) (.t 32))),
 kS d4 (oMv t33)])
 kSkip))))
 (kRegion [kS d34 (oBin .add t13 (gI 1)),
 kS d13 (oMv t34)])))))))
 (kSeq (kRegion [kS d35 (oMv t4),
 kS d4 (oMv t35)])
 kRet)))
theorem e49 : b49 = comp ir49.code := by kernel_rfl
def k49 : KF := ⟨36, b49, [.tmp 4]⟩
def b53 : KC := (kSeq (kRegion [kS d4 (oBox t1),
 kS d5 (oBox t2),
 kS d6 (oAlloc (.agg [(.int .i64 0), (.bool false), (.int .i64 0), (.bool false), (.int .i64 0), (.bool false), (.int .i64 0), (.bool false), (.int .i64 0), (.bool false)])),
 kS d7 (oMv (gI 0))])
 (kSeq (kBlock 0 (kSeq (kDraw [⟨kS d10 (oFa t5 0), ⟨(some 10), (.fa (.t 5) 0), none⟩, false, [], []⟩,
 ⟨kS d11 (oLd false 1 t10), ⟨(some 11), (.ld false 1 (.t 10)), none⟩, false, [⟨(some 11), (.ld false 1 (.t 10)), none⟩], []⟩,
 ⟨kS d12 (oFa t5 1), ⟨(some 12), (.fa (.t 5) 1), none⟩, false, [], []⟩,
 ⟨kS d13 (oLd false 1 t12), ⟨(some 13), (.ld false 1 (.t 12)), none⟩, false, [⟨(some 13), (.ld false 1 (.t 12)), none⟩], []⟩,
 ⟨kS d14 (oBin .eql t11 t13), ⟨(some 14), (.bin .eql (.t 11) (.t 13)), none⟩, false, [], []⟩,
 ⟨kS d15 (oMv t14), ⟨(some 15), (.mv (.t 14)), none⟩, false, [], []⟩,
 ⟨kG t15 true d16 (oFa t5 0), ⟨(some 16), (.fa (.t 5) 0), (some (15, true))⟩, false, [], []⟩,
 ⟨kG t15 true d17 (oLd false 1 t16), ⟨(some 17), (.ld false 1 (.t 16)), (some (15, true))⟩, false, [⟨(some 17), (.ld false 1 (.t 16)), (some (15, true))⟩], []⟩,
 ⟨kG t15 true d18 (oMv t0), ⟨(some 18), (.mv (.t 0)), (some (15, true))⟩, false, [], []⟩,
 ⟨kG t15 true d19 (oNilck t18), ⟨(some 19), (.nilck (.t 18)), (some (15, true))⟩, false, [], []⟩,
 ⟨kG t15 true d20 (oFa t19 0), ⟨(some 20), (.fa (.t 19) 0), (some (15, true))⟩, false, [], []⟩,
 ⟨kG t15 true d21 (oFa t20 2), ⟨(some 21), (.fa (.t 20) 2), (some (15, true))⟩, false, [], []⟩,
 ⟨kG t15 true d22 (oLd false 1 t21), ⟨(some 22), (.ld false 1 (.t 21)), (some (15, true))⟩, false, [⟨(some 22), (.ld false 1 (.t 21)), (some (15, true))⟩], []⟩,
 ⟨kG t15 true d23 (oBin .eql t17 t22), ⟨(some 23), (.bin .eql (.t 17) (.t 22)), (some (15, true))⟩, false, [], []⟩,
 ⟨kS d24 (oPick t15 t23 (gC (.bool false))), ⟨(some 24), (.pick (.t 15) (.t 23) (.c (.bool false))), none⟩, false, [], []⟩,
 ⟨kS d25 (oMv t24), ⟨(some 25), (.mv (.t 24)), none⟩, false, [], []⟩,
 ⟨kG t25 true d26 (oMv t0), ⟨(some 26), (.mv (.t 0)), (some (25, true))⟩, false, [], []⟩,
 ⟨kG t25 true d27 (oNilck t26), ⟨(some 27), (.nilck (.t 26)), (some (25, true))⟩, false, [], []⟩,
 ⟨kG t25 true d28 (oFa t27 0), ⟨(some 28), (.fa (.t 27) 0), (some (25, true))⟩, false, [], []⟩,
 ⟨kG t25 true d29 (oFa t28 2), ⟨(some 29), (.fa (.t 28) 2), (some (25, true))⟩, false, [], []⟩,
 ⟨kG t25 true d30 (oLd false 1 t29), ⟨(some 30), (.ld false 1 (.t 29)), (some (25, true))⟩, false, [⟨(some 30), (.ld false 1 (.t 29)), (some (25, true))⟩], []⟩,
 ⟨kG t25 true d31 (oBin .neq t30 (gI (-1))), ⟨(some 31), (.bin .neq (.t 30) (.c (.int .i64 (-1)))), (some (25, true))⟩, false, [], []⟩,
 ⟨kS d32 (oPick t25 t31 (gC (.bool false))), ⟨(some 32), (.pick (.t 25) (.t 31) (.c (.bool false))), none⟩, false, [], []⟩,
 ⟨kS d9 (oMv t32), ⟨(some 9), (.mv (.t 32)), none⟩, false, [], []⟩])
 (kCond t9 (kSeq (kSeq (kRegion [kS d33 (oFa t5 0),
 kS d34 (oLd false 1 t33),
 kS d35 (oIaa 5 2 t4 t34),
 kS d36 (oFa t35 1),
 kS d37 (oLd false 1 t36),
 kS d38 (oNot t37)])
 (kCond t38 (kSeq (kRegion [kS d39 (oLd true 10 t4),
 kN (oSt 10 t6 t39),
 kS d7 (oMv (gI 8))])
 kRet)
 kSkip))
 (kSeq (kRegion [kS d40 (oFa t5 0),
 kS d41 (oLd false 1 t40),
 kS d42 (oIaa 5 2 t4 t41),
 kS d43 (oFa t42 1),
 kN (oSt 1 t43 (gC (.bool false)))])
 (kSeq (kRegion [kS d44 (oLd true 10 t4),
 kN (oSt 10 t6 t44),
 kS d7 (oMv (gI 0))])
 kRet)))
 (kSeq (kDraw [⟨kS d46 (oMv t0), ⟨(some 46), (.mv (.t 0)), none⟩, false, [], []⟩,
 ⟨kS d47 (oNilck t46), ⟨(some 47), (.nilck (.t 46)), none⟩, false, [], []⟩,
 ⟨kS d48 (oFa t47 0), ⟨(some 48), (.fa (.t 47) 0), none⟩, false, [], []⟩,
 ⟨kS d49 (oFa t48 1), ⟨(some 49), (.fa (.t 48) 1), none⟩, false, [], []⟩,
 ⟨kS d50 (oLd false 1 t49), ⟨(some 50), (.ld false 1 (.t 49)), none⟩, false, [⟨(some 50), (.ld false 1 (.t 49)), none⟩], []⟩,
 ⟨kS d51 (oLd true 2 t5), ⟨(some 51), (.ld true 2 (.t 5)), none⟩, false, [⟨(some 51), (.ld true 2 (.t 5)), none⟩], []⟩,
 ⟨kS d52 (oCall (gC (.func 47 [] [])) [t50, t51]), ⟨(some 52), (.call (.c (.func 47 [] [])) [(.t 50), (.t 51)]), none⟩, true, [], []⟩,
 ⟨kS d53 (oNot t52), ⟨(some 53), (.un .not (.t 52)), none⟩, false, [], []⟩,
 ⟨kS d45 (oMv t53), ⟨(some 45), (.mv (.t 53)), none⟩, false, [], []⟩])
 (kCond t45 (kSeq (kRegion [kS d54 (oLd true 10 t4),
 kN (oSt 10 t6 t54),
 kS d7 (oMv (gI 4))])
 kRet)
 kSkip)))))
 (kSeq (kRegion [kS d55 (oFa t5 0),
 kS d56 (oLd false 1 t55),
 kS d57 (oIaa 5 2 t4 t56),
 kS d58 (oLd true 2 t57),
 kS d8 (oAlloc (.agg [(.int .i64 0), (.bool false)])),
 kN (oSt 2 t8 t58)])
 (kSeq (kDraw [⟨kS d59 (oFa t5 0), ⟨(some 59), (.fa (.t 5) 0), none⟩, false, [], []⟩,
 ⟨kS d60 (oLd false 1 t59), ⟨(some 60), (.ld false 1 (.t 59)), none⟩, false, [⟨(some 60), (.ld false 1 (.t 59)), none⟩], []⟩,
 ⟨kS d61 (oFa t5 1), ⟨(some 61), (.fa (.t 5) 1), none⟩, false, [], []⟩,
 ⟨kS d62 (oLd false 1 t61), ⟨(some 62), (.ld false 1 (.t 61)), none⟩, false, [⟨(some 62), (.ld false 1 (.t 61)), none⟩], []⟩,
 ⟨kS d63 (oIaa 5 2 t4 t62), ⟨(some 63), (.iaa 5 2 (.t 4) (.t 62)), none⟩, false, [], []⟩,
 ⟨kS d64 (oLd true 2 t63), ⟨(some 64), (.ld true 2 (.t 63)), none⟩, false, [⟨(some 64), (.ld true 2 (.t 63)), none⟩], []⟩,
 ⟨kS d65 (oIaa 5 2 t4 t60), ⟨(some 65), (.iaa 5 2 (.t 4) (.t 60)), none⟩, false, [], []⟩,
 ⟨kN (oSt 2 t65 t64), ⟨none, (.st 2 (.t 65) (.t 64)), none⟩, true, [], []⟩])
 (kSeq (kRegion [kS d66 (oFa t5 1),
 kS d67 (oLd false 1 t66),
 kS d68 (oLd true 2 t8),
 kS d69 (oIaa 5 2 t4 t67),
 kN (oSt 2 t69 t68)])
 (kSeq (kRegion [kS d70 (oLd true 10 t4),
 kN (oSt 10 t6 t70),
 kS d7 (oMv (gI 0))])
 kRet))))))
theorem e53 : b53 = comp ir53.code := by kernel_rfl
def k53 : KF := ⟨71, b53, [.cell 6 true 10, .tmp 7]⟩
def b54 : KC := (kSeq (kRegion [kS d2 (oMv (gC .nilslice))])
 (kSeq (kSeq (kRegion [kS d3 (oMv t0),
 kS d4 (oEqv .sl false t3 (gC .nilslice))])
 (kCond t4 (kSeq (kRegion [kS d2 (oMv (gC .nilslice))])
 kRet)
 kSkip))
 (kSeq (kRegion [kS d5 (oBldS 4 0 [(.str []), (.int .i64 0), (.bool false), (.int .i64 0)] []),
 kS d6 (oMv t0),
 kS d7 (oGen (.app 4 40 (.t 5) (.t 6))),
 kS d2 (oMv t7)])
 kRet)))
theorem e54 : b54 = comp ir54.code := by kernel_rfl
def k54 : KF := ⟨8, b54, [.tmp 2]⟩
def b55 : KC := (kSeq (kRegion [kS d2 (oMv (gC .nilslice))])
 (kSeq (kSeq (kRegion [kS d3 (oMv t0),
 kS d4 (oEqv .sl false t3 (gC .nilslice))])
 (kCond t4 (kSeq (kRegion [kS d2 (oMv (gC .nilslice))])
 kRet)
 kSkip))
 (kSeq (kRegion [kS d5 (oBldS 2 0 [(.int .i64 0), (.int .i64 0)] []),
 kS d6 (oMv t0),
 kS d7 (oGen (.app 2 16 (.t 5) (.t 6))),
 kS d2 (oMv t7)])
 kRet)))
theorem e55 : b55 = comp ir55.code := by kernel_rfl
def k55 : KF := ⟨8, b55, [.tmp 2]⟩
def b58 : KC := (kSeq (kRegion [kS d1 (oBox t0),
 kS d2 (oMv (gC .nilslice)),
 kS d3 (oMv (gC (.bool false)))])
 (kSeq (kRegion [kS d6 (oMkfn 87 [] [t1]),
 kS d7 (oBld [.nilslice, (.int .i64 0), .nilfunc] [(1, 1, (gI (-1))), (2, 1, t6)]),
 kS d4 (oAlloc (.agg [.nilslice, (.int .i64 0), .nilfunc])),
 kN (oSt 3 t4 t7)])
 (kSeq (kRegion [kS d8 (oLd false 1 t1),
 kS d9 (oCall (gC (.func 64 [] [])) [t4, t8]),
 kS d5 (oMv t9)])
 (kSeq (kSeq (kRegion [kS d10 (oMv t5),
 kS d11 (oBin .lss t10 (gI 0))])
 (kCond t11 (kSeq (kRegion [kS d2 (oMv (gC .nilslice)),
 kS d3 (oMv (gC (.bool false)))])
 kRet)
 kSkip))
 (kSeq (kRegion [kS d12 (oMv t5),
 kS d13 (oCall (gC (.func 88 [] [])) [t4, t12]),
 kS d2 (oMv t13),
 kS d3 (oMv (gC (.bool true)))])
 kRet)))))
theorem e58 : b58 = comp ir58.code := by kernel_rfl
def k58 : KF := ⟨14, b58, [.tmp 2, .tmp 3]⟩
def b63 : KC := (kSeq (kRegion [kS d1 (oBox t0),
 kS d2 (oMv (gC (.bool false)))])
 (kSeq (kRegion [kS d2 (oMv (gC (.bool false)))])
 kRet))
theorem e63 : b63 = comp ir63.code := by kernel_rfl
def k63 : KF := ⟨3, b63, [.tmp 2]⟩
def b64 : KC := (kSeq (kRegion [kS d2 (oBox t0),
 kS d4 (oMv (gI 0))])
 (kSeq (kDraw [⟨kS d12 (oLd false 1 t2), ⟨(some 12), (.ld false 1 (.t 2)), none⟩, false, [⟨(some 12), (.ld false 1 (.t 2)), none⟩], []⟩,
 ⟨kS d13 (oMv t1), ⟨(some 13), (.mv (.t 1)), none⟩, false, [], []⟩,
 ⟨kS d14 (oNilck t13), ⟨(some 14), (.nilck (.t 13)), none⟩, false, [], []⟩,
 ⟨kS d15 (oFa t14 3), ⟨(some 15), (.fa (.t 14) 3), none⟩, false, [], []⟩,
 ⟨kS d16 (oLd true 10 t15), ⟨(some 16), (.ld true 10 (.t 15)), none⟩, false, [⟨(some 16), (.ld true 10 (.t 15)), none⟩], []⟩,
 ⟨kS d17 (oBld [(.int .i64 0), (.bool false), (.int .i64 0), (.bool false), (.int .i64 0), (.bool false), (.int .i64 0), (.bool false), (.int .i64 0), (.bool false), (.int .i64 0), (.int .i64 0), (.int .i64 0), (.int .i64 0)] [(0, 10, t16), (12, 1, (gI (-1)))]), ⟨(some 17), (.bld [(.int .i64 0), (.bool false), (.int .i64 0), (.bool false), (.int .i64 0), (.bool false), (.int .i64 0), (.bool false), (.int .i64 0), (.bool false), (.int .i64 0), (.int .i64 0), (.int .i64 0), (.int .i64 0)] [(0, 10, (.t 16)), (12, 1, (.c (.int .i64 (-1))))]), none⟩, false, [], []⟩,
 ⟨kS d18 (oBldS 14 1 [(.int .i64 0), (.bool false), (.int .i64 0), (.bool false), (.int .i64 0), (.bool false), (.int .i64 0), (.bool false), (.int .i64 0), (.bool false), (.int .i64 0), (.int .i64 0), (.int .i64 0), (.int .i64 0)] [(0, 14, t17)]), ⟨(some 18), (.bldS 14 1 [(.int .i64 0), (.bool false), (.int .i64 0), (.bool false), (.int .i64 0), (.bool false), (.int .i64 0), (.bool false), (.int .i64 0), (.bool false), (.int .i64 0), (.int .i64 0), (.int .i64 0), (.int .i64 0)] [(0, 14, (.t 17))]), none⟩, false, [], []⟩,
 ⟨kS d19 (oNilck t12), ⟨(some 19), (.nilck (.t 12)), none⟩, false, [], []⟩,
 ⟨kS d20 (oFa t19 0), ⟨(some 20), (.fa (.t 19) 0), none⟩, false, [], []⟩,
 ⟨kN (oSt 1 t20 t18), ⟨none, (.st 1 (.t 20) (.t 18)), none⟩, true, [], []⟩])
 (kSeq (kRegion [kS d21 (oGen .mkmap),
 kS d22 (oMv t1),
 kS d23 (oNilck t22),
 kS d24 (oFa t23 3),
 kS d25 (oLd true 10 t24),
 kN (oGen (.mapup (.ag [.i, .b, .i, .b, .i, .b, .i, .b, .i, .b]) (.t 21) (.t 25) (.c (.int .i64 1)))),
 kS d26 (oMv t21),
 kS d5 (oAlloc .nilmap),
 kN (oSt 1 t5 t26)])
 (kSeq (kRegion [kS d27 (oMv t1),
 kS d28 (oMkfn 53 [t27] []),
 kS d6 (oAlloc .nilfunc),
 kN (oSt 1 t6 t28)])
 (kSeq (kSeq (kRegion [kS d7 (oAlloc (.int .i64 0)),
 kN (oSt 1 t7 (gI 0))])
 (kBlock 0 (kLoop (kSeq (kSeq (kDraw [⟨kS d29 (oLd false 1 t7), ⟨(some 29), (.ld false 1 (.t 7)), none⟩, false, [⟨(some 29), (.ld false 1 (.t 7)), none⟩], []⟩,
 ⟨kS d30 (oLd false 1 t2), ⟨(some 30), (.ld false 1 (.t 2)), none⟩, false, [⟨(some 30), (.ld false 1 (.t 2)), none⟩], []⟩,
 ⟨kS d31 (oNilck t30), ⟨(some 31), (.nilck (.t 30)), none⟩, false, [], []⟩,
 ⟨kS d32 (oFa t31 0), ⟨(some 32), (.fa (.t 31) 0), none⟩, false, [], []⟩,
 ⟨kS d33 (oLd false 1 t32), ⟨(some 33), (.ld false 1 (.t 32)), none⟩, false, [⟨(some 33), (.ld false 1 (.t 32)), none⟩], []⟩,
 ⟨kS d34 (oLen false t33), ⟨(some 34), (.len false (.t 33)), none⟩, false, [], []⟩,
 ⟨kS d35 (oBin .lss t29 t34), ⟨(some 35), (.bin .lss (.t 29) (.t 34)), none⟩, false, [], []⟩])
 (kCond t35 kSkip
 (kExit 0)))
 (kSeq (kBlock 1 (kSeq (kDraw [⟨kS d38 (oLd false 1 t2), ⟨(some 38), (.ld false 1 (.t 2)), none⟩, false, [⟨(some 38), (.ld false 1 (.t 2)), none⟩], []⟩,
 ⟨kS d39 (oNilck t38), ⟨(some 39), (.nilck (.t 38)), none⟩, false, [], []⟩,
 ⟨kS d40 (oFa t39 0), ⟨(some 40), (.fa (.t 39) 0), none⟩, false, [], []⟩,
 ⟨kS d41 (oLd false 1 t40), ⟨(some 41), (.ld false 1 (.t 40)), none⟩, false, [⟨(some 41), (.ld false 1 (.t 40)), none⟩], []⟩,
 ⟨kS d42 (oLd false 1 t7), ⟨(some 42), (.ld false 1 (.t 7)), none⟩, false, [⟨(some 42), (.ld false 1 (.t 7)), none⟩], []⟩,
 ⟨kS d43 (oIa 14 t41 t42), ⟨(some 43), (.ia 14 (.t 41) (.t 42)), none⟩, false, [], []⟩,
 ⟨kS d44 (oLd true 14 t43), ⟨(some 44), (.ld true 14 (.t 43)), none⟩, false, [⟨(some 44), (.ld true 14 (.t 43)), none⟩], []⟩,
 ⟨kS d8 (oAlloc (.agg [(.int .i64 0), (.bool false), (.int .i64 0), (.bool false), (.int .i64 0), (.bool false), (.int .i64 0), (.bool false), (.int .i64 0), (.bool false), (.int .i64 0), (.int .i64 0), (.int .i64 0), (.int .i64 0)])), ⟨(some 8), (.alloc (.agg [(.int .i64 0), (.bool false), (.int .i64 0), (.bool false), (.int .i64 0), (.bool false), (.int .i64 0), (.bool false), (.int .i64 0), (.bool false), (.int .i64 0), (.int .i64 0), (.int .i64 0), (.int .i64 0)])), none⟩, false, [], []⟩,
 ⟨kN (oSt 14 t8 t44), ⟨none, (.st 14 (.t 8) (.t 44)), none⟩, true, [], []⟩])
 (kSeq (kSeq (kDraw [⟨kS d45 (oLd false 1 t2), ⟨(some 45), (.ld false 1 (.t 2)), none⟩, false, [⟨(some 45), (.ld false 1 (.t 2)), none⟩], []⟩,
 ⟨kS d46 (oNilck t45), ⟨(some 46), (.nilck (.t 45)), none⟩, false, [], []⟩,
 ⟨kS d47 (oFa t46 2), ⟨(some 47), (.fa (.t 46) 2), none⟩, false, [], []⟩,
 ⟨kS d48 (oLd false 1 t47), ⟨(some 48), (.ld false 1 (.t 47)), none⟩, false, [⟨(some 48), (.ld false 1 (.t 47)), none⟩], []⟩,
 ⟨kS d49 (oFa t8 0), ⟨(some 49), (.fa (.t 8) 0), none⟩, false, [], []⟩,
 ⟨kS d50 (oLd true 10 t49), ⟨(some 50), (.ld true 10 (.t 49)), none⟩, false, [⟨(some 50), (.ld true 10 (.t 49)), none⟩], []⟩,
 ⟨kS d51 (oCall t48 [t50]), ⟨(some 51), (.call (.t 48) [(.t 50)]), none⟩, true, [], []⟩])
 (kCond t51 (kSeq (kRegion [kS d52 (oLd false 1 t7),
 kS d4 (oMv t52)])
 kRet)
 kSkip))
 (kSeq (kSeq (kDraw [⟨kS d53 (oFa t8 13), ⟨(some 53), (.fa (.t 8) 13), none⟩, false, [], []⟩,
 ⟨kS d54 (oLd false 1 t53), ⟨(some 54), (.ld false 1 (.t 53)), none⟩, false, [⟨(some 54), (.ld false 1 (.t 53)), none⟩], []⟩,
 ⟨kS d55 (oLd false 1 t2), ⟨(some 55), (.ld false 1 (.t 2)), none⟩, false, [⟨(some 55), (.ld false 1 (.t 2)), none⟩], []⟩,
 ⟨kS d56 (oNilck t55), ⟨(some 56), (.nilck (.t 55)), none⟩, false, [], []⟩,
 ⟨kS d57 (oFa t56 1), ⟨(some 57), (.fa (.t 56) 1), none⟩, false, [], []⟩,
 ⟨kS d58 (oLd false 1 t57), ⟨(some 58), (.ld false 1 (.t 57)), none⟩, false, [⟨(some 58), (.ld false 1 (.t 57)), none⟩], []⟩,
 ⟨kS d59 (oBin .eql t54 t58), ⟨(some 59), (.bin .eql (.t 54) (.t 58)), none⟩, false, [], []⟩])
 (kCond t59 (kExit 1)
 kSkip))
 (kSeq kSkip
 (kSeq (kRegion [kS d60 (oMv t1),
 kS d61 (oCall (gC (.func 89 [] [])) [t60])])
 (kBlock 2 (kRange t61 [62]
 (ICode.region [⟨(some 9), (.alloc (.agg [(.int .i64 0), (.int .i64 0)])), none⟩,
 ⟨none, (.st 2 (.t 9) (.t 62)), none⟩])
 (ICode.block 3
 (ICode.seq (ICode.region [⟨(some 64), (.ld false 1 (.t 6)), none⟩,
 ⟨(some 65), (.fa (.t 8) 0), none⟩,
 ⟨(some 66), (.ld true 10 (.t 65)), none⟩,
 ⟨(some 67), (.ld true 2 (.t 9)), none⟩,
 ⟨(some 68), (.call (.t 64) [(.t 66), (.t 67)]), none⟩,
 ⟨(some 63), (.mv (.t 68)), none⟩,
 ⟨(some 69), (.ext (.t 63) 0), none⟩,
 ⟨(some 70), (.ext (.t 63) 1), none⟩,
 ⟨(some 10), (.alloc (.agg [(.int .i64 0), (.bool false), (.int .i64 0), (.bool false), (.int .i64 0), (.bool false), (.int .i64 0), (.bool false), (.int .i64 0), (.bool false)])), none⟩,
 ⟨none, (.st 10 (.t 10) (.t 69)), none⟩,
 ⟨(some 11), (.mv (.t 70)), none⟩])
 (ICode.seq (ICode.seq (ICode.region [⟨(some 71), (.mv (.t 11)), none⟩,
 ⟨(some 72), (.bin .neq (.t 71) (.c (.int .i64 0))), none⟩,
 ⟨(some 73), (.mv (.t 72)), none⟩,
 ⟨(some 74), (.ld false 1 (.t 5)), (some (73, false))⟩,
 ⟨(some 75), (.ld true 10 (.t 10)), (some (73, false))⟩,
 ⟨(some 76), (.lkp (.ag [.i, .b, .i, .b, .i, .b, .i, .b, .i, .b]) (.int .i64 0) false (.t 74) (.t 75)), (some (73, false))⟩,
 ⟨(some 77), (.bin .gtr (.t 76) (.c (.int .i64 0))), (some (73, false))⟩,
 ⟨(some 78), (.pick (.t 73) (.c (.bool true)) (.t 77)), none⟩])
 (ICode.cond (.t 78)
 (ICode.exit 3)
 ICode.skip))
 (ICode.seq (ICode.draw [⟨⟨(some 79), (.ld false 1 (.t 5)), none⟩, false, [⟨(some 79), (.ld false 1 (.t 5)), none⟩], []⟩,
 ⟨⟨(some 80), (.ld true 10 (.t 10)), none⟩, false, [⟨(some 80), (.ld true 10 (.t 10)), none⟩], []⟩,
 ⟨⟨(some 81), (.lkp (.ag [.i, .b, .i, .b, .i, .b, .i, .b, .i, .b]) (.int .i64 0) false (.t 79) (.t 80)), none⟩, false, [⟨(some 81), (.lkp (.ag [.i, .b, .i, .b, .i, .b, .i, .b, .i, .b]) (.int .i64 0) false (.t 79) (.t 80)), none⟩], []⟩,
 ⟨⟨(some 82), (.bin .add (.t 81) (.c (.int .i64 1))), none⟩, false, [], []⟩,
 ⟨⟨(some 83), (.ment (.ag [.i, .b, .i, .b, .i, .b, .i, .b, .i, .b]) (.int .i64 0) (.t 79) (.t 80)), none⟩, true, [⟨(some 81), (.lkp (.ag [.i, .b, .i, .b, .i, .b, .i, .b, .i, .b]) (.int .i64 0) false (.t 79) (.t 80)), none⟩], []⟩,
 ⟨⟨(some 84), (.ext (.t 83) 1), none⟩, false, [], []⟩,
 ⟨⟨none, (.mst (.t 79) (.t 84) (.t 82)), none⟩, true, [], []⟩])
 (ICode.draw [⟨⟨(some 85), (.ld false 1 (.t 2)), none⟩, false, [⟨(some 85), (.ld false 1 (.t 2)), none⟩], []⟩,
 ⟨⟨(some 86), (.ld false 1 (.t 2)), none⟩, false, [⟨(some 86), (.ld false 1 (.t 2)), none⟩], []⟩,
 ⟨⟨(some 87), (.nilck (.t 86)), none⟩, false, [], []⟩,
 ⟨⟨(some 88), (.fa (.t 87) 0), none⟩, false, [], []⟩,
 ⟨⟨(some 89), (.ld false 1 (.t 88)), none⟩, false, [⟨(some 89), (.ld false 1 (.t 88)), none⟩], []⟩,
 ⟨⟨(some 90), (.ld true 10 (.t 10)), none⟩, false, [⟨(some 90), (.ld true 10 (.t 10)), none⟩], []⟩,
 ⟨⟨(some 91), (.ld true 2 (.t 9)), none⟩, false, [⟨(some 91), (.ld true 2 (.t 9)), none⟩], []⟩,
 ⟨⟨(some 92), (.ld false 1 (.t 7)), none⟩, false, [⟨(some 92), (.ld false 1 (.t 7)), none⟩], []⟩,
 ⟨⟨(some 93), (.fa (.t 8) 13), none⟩, false, [], []⟩,
 ⟨⟨(some 94), (.ld false 1 (.t 93)), none⟩, false, [⟨(some 94), (.ld false 1 (.t 93)), none⟩], []⟩,
 ⟨⟨(some 95), (.bin .add (.t 94) (.c (.int .i64 1))), none⟩, false, [], []⟩,
 ⟨⟨(some 96), (.bld [(.int .i64 0), (.bool false), (.int .i64 0), (.bool false), (.int .i64 0), (.bool false), (.int .i64 0), (.bool false), (.int .i64 0), (.bool false), (.int .i64 0), (.int .i64 0), (.int .i64 0), (.int .i64 0)] [(0, 10, (.t 90)), (10, 2, (.t 91)), (12, 1, (.t 92)), (13, 1, (.t 95))]), none⟩, false, [], []⟩,
 ⟨⟨(some 97), (.bldS 14 1 [(.int .i64 0), (.bool false), (.int .i64 0), (.bool false), (.int .i64 0), (.bool false), (.int .i64 0), (.bool false), (.int .i64 0), (.bool false), (.int .i64 0), (.int .i64 0), (.int .i64 0), (.int .i64 0)] [(0, 14, (.t 96))]), none⟩, false, [], []⟩,
 ⟨⟨(some 98), (.app 14 112 (.t 89) (.t 97)), none⟩, true, [⟨(some 85), (.ld false 1 (.t 2)), none⟩], []⟩,
 ⟨⟨(some 99), (.nilck (.t 85)), none⟩, false, [], []⟩,
 ⟨⟨(some 100), (.fa (.t 99) 0), none⟩, false, [], []⟩,
 ⟨⟨none, (.st 1 (.t 100) (.t 98)), none⟩, true, [], []⟩])))))))))))))
 (kSeq (kSeq (kRegion [kS d101 (oLd false 1 t7)])
 (kRegion [kS d7 (oAlloc (.int .i64 0)),
 kN (oSt 1 t7 t101)]))
 (kRegion [kS d36 (oLd false 1 t7),
 kS d37 (oBin .add t36 (gI 1)),
 kN (oSt 1 t7 t37)])))))))
 (kSeq (kRegion [kS d4 (oMv (gI (-1)))])
 kRet))))))
theorem e64 : b64 = comp ir64.code := by kernel_rfl
def k64 : KF := ⟨102, b64, [.tmp 4]⟩
def b65 : KC := (kSeq (kRegion [kS d1 (oBox t0),
 kS d2 (oMv (gC (.bool false)))])
 (kSeq (kRegion [kS d2 (oMv (gC (.bool false)))])
 kRet))
theorem e65 : b65 = comp ir65.code := by kernel_rfl
def k65 : KF := ⟨3, b65, [.tmp 2]⟩
def b66 : KC := (kSeq (kRegion [kS d1 (oBox t0),
 kS d2 (oMv (gC (.bool false)))])
 (kSeq (kRegion [kS d3 (oFa t1 2),
 kS d4 (oLd false 1 t3),
 kS d5 (oMv t4),
 kG t5 false d6 (oFa t1 3),
 kG t5 false d7 (oLd false 1 t6),
 kG t5 false d8 (oBin .eql t7 (gI (-1))),
 kS d9 (oPick t5 (gC (.bool true)) t8),
 kS d2 (oMv t9)])
 kRet))
theorem e66 : b66 = comp ir66.code := by kernel_rfl
def k66 : KF := ⟨10, b66, [.tmp 2]⟩
def b67 : KC := (kSeq (kRegion [kS d6 (oMv (gC .nilslice))])
 (kSeq (kSeq (kRegion [kS d7 (oLd false 1 t1),
 kS d8 (oMv t0),
 kS d9 (oBin .shr t7 t8),
 kS d10 (oBin .and t9 (gI 1)),
 kS d11 (oBin .eql t10 (gI 1))])
 (kCond t11 (kSeq (kRegion [kS d6 (oMv (gC .nilslice))])
 kRet)
 kSkip))
 (kSeq (kDraw [⟨kS d12 (oLd false 1 t1), ⟨(some 12), (.ld false 1 (.t 1)), none⟩, false, [⟨(some 12), (.ld false 1 (.t 1)), none⟩], []⟩,
 ⟨kS d13 (oMv t0), ⟨(some 13), (.mv (.t 0)), none⟩, false, [], []⟩,
 ⟨kS d14 (oBin .shl (gI 1) t13), ⟨(some 14), (.bin .shl (.c (.int .i64 1)) (.t 13)), none⟩, false, [], []⟩,
 ⟨kS d15 (oBin .or t12 t14), ⟨(some 15), (.bin .or (.t 12) (.t 14)), none⟩, false, [], []⟩,
 ⟨kN (oSt 1 t1 t15), ⟨none, (.st 1 (.t 1) (.t 15)), none⟩, true, [], []⟩])
 (kSeq (kDraw [⟨kS d16 (oMv t0), ⟨(some 16), (.mv (.t 0)), none⟩, false, [], []⟩,
 ⟨kS d18 (oLd false 1 t2), ⟨(some 18), (.ld false 1 (.t 2)), none⟩, false, [⟨(some 18), (.ld false 1 (.t 2)), none⟩], []⟩,
 ⟨kS d19 (oLd false 1 t3), ⟨(some 19), (.ld false 1 (.t 3)), none⟩, false, [⟨(some 19), (.ld false 1 (.t 3)), none⟩], []⟩,
 ⟨kS d20 (oFa t4 0), ⟨(some 20), (.fa (.t 4) 0), none⟩, false, [], []⟩,
 ⟨kS d21 (oLd false 1 t20), ⟨(some 21), (.ld false 1 (.t 20)), none⟩, false, [⟨(some 21), (.ld false 1 (.t 20)), none⟩], []⟩,
 ⟨kS d22 (oMv t0), ⟨(some 22), (.mv (.t 0)), none⟩, false, [], []⟩,
 ⟨kS d23 (oIa 4 t21 t22), ⟨(some 23), (.ia 4 (.t 21) (.t 22)), none⟩, false, [], []⟩,
 ⟨kS d24 (oFa t23 3), ⟨(some 24), (.fa (.t 23) 3), none⟩, false, [], []⟩,
 ⟨kS d25 (oLd false 1 t24), ⟨(some 25), (.ld false 1 (.t 24)), none⟩, false, [⟨(some 25), (.ld false 1 (.t 24)), none⟩], []⟩,
 ⟨kS d26 (oGen (.lkp (.sc .i) (.int .i64 0) false (.t 19) (.t 25))), ⟨(some 26), (.lkp (.sc .i) (.int .i64 0) false (.t 19) (.t 25)), none⟩, false, [⟨(some 26), (.lkp (.sc .i) (.int .i64 0) false (.t 19) (.t 25)), none⟩], []⟩,
 ⟨kS d27 (oCall t18 [t26]), ⟨(some 27), (.call (.t 18) [(.t 26)]), none⟩, true, [], []⟩,
 ⟨kS d17 (oBldS 1 1 [(.int .i64 0)] [(0, 1, t16)]), ⟨(some 17), (.bldS 1 1 [(.int .i64 0)] [(0, 1, (.t 16))]), none⟩, false, [], []⟩,
 ⟨kS d28 (oGen (.app 1 8 (.t 17) (.t 27))), ⟨(some 28), (.app 1 8 (.t 17) (.t 27)), none⟩, true, [], []⟩,
 ⟨kS d6 (oMv t28), ⟨(some 6), (.mv (.t 28)), none⟩, false, [], []⟩])
 kRet))))
theorem e67 : b67 = comp ir67.code := by kernel_rfl
def k67 : KF := ⟨29, b67, [.tmp 6]⟩
def b70 : KC := (kSeq (kRegion [kS d2 (oMv (gC .nilslice))])
 (kSeq (kRegion [kS d3 (oMv t0),
 kS d4 (oMv t0),
 kS d5 (oLen false t4),
 kS d6 (oMv t0),
 kS d7 (oLen false t6),
 kS d8 (oGen (.slc 2 (.t 3) none (some (.t 5)) (some (.t 7)))),
 kS d2 (oMv t8)])
 kRet))
theorem e70 : b70 = comp ir70.code := by kernel_rfl
def k70 : KF := ⟨9, b70, [.tmp 2]⟩
def b71 : KC := (kSeq (kRegion [kS d2 (oAlloc (.agg [.nilslice, .nilslice, (.int .i64 0)]))])
 (kSeq (kRegion [kS d4 (oBldS 1 4 [(.int .i64 0)] [(0, 1, (gI 1)), (1, 1, (gI 0)), (2, 1, (gI 2)), (3, 1, (gI 3))]),
 kS d5 (oBldS 1 4 [(.int .i64 0)] [(0, 1, (gI 0)), (1, 1, (gI 1)), (2, 1, (gI 3)), (3, 1, (gI (-1)))]),
 kS d6 (oCall (gC (.func 90 [] [])) [t4, t5]),
 kS d7 (oBldS 1 6 [(.int .i64 0)] [(0, 1, (gI 0)), (1, 1, (gI 1)), (2, 1, (gI 1)), (3, 1, (gI 2)), (4, 1, (gI 2)), (5, 1, (gI 3))]),
 kS d8 (oCall (gC (.func 73 [] [])) [t7]),
 kS d9 (oMv t0),
 kS d10 (oBld [.nilslice, .nilslice, (.int .i64 0)] [(0, 1, t6), (1, 1, t8), (2, 1, t9)]),
 kS d3 (oAlloc (.agg [.nilslice, .nilslice, (.int .i64 0)])),
 kN (oSt 3 t3 t10)])
 (kSeq (kRegion [kS d11 (oFa t3 0),
 kS d12 (oLd false 1 t11),
 kS d13 (oIa 4 t12 (gI 3)),
 kS d14 (oFa t13 2),
 kN (oSt 1 t14 (gC (.bool true)))])
 (kSeq (kRegion [kS d15 (oLd true 3 t3),
 kN (oSt 3 t2 t15)])
 kRet))))
theorem e71 : b71 = comp ir71.code := by kernel_rfl
def k71 : KF := ⟨16, b71, [.cell 2 true 3]⟩
def b72 : KC := (kSeq (kRegion [kS d0 (oAlloc (.agg [.nilslice, .nilslice, (.int .i64 0)]))])
 (kSeq (kRegion [kS d1 (oBldS 1 4 [(.int .i64 0)] [(0, 1, (gI 1)), (1, 1, (gI 2)), (2, 1, (gI 0)), (3, 1, (gI 3))]),
 kS d2 (oBldS 1 4 [(.int .i64 0)] [(0, 1, (gI 0)), (1, 1, (gI 1)), (2, 1, (gI 2)), (3, 1, (gI 3))]),
 kS d3 (oCall (gC (.func 90 [] [])) [t1, t2]),
 kS d4 (oBldS 1 12 [(.int .i64 0)] [(0, 1, (gI 0)), (1, 1, (gI 1)), (2, 1, (gI 0)), (3, 1, (gI 2)), (4, 1, (gI 0)), (5, 1, (gI 3)), (6, 1, (gI 1)), (7, 1, (gI 2)), (8, 1, (gI 1)), (9, 1, (gI 3)), (10, 1, (gI 2)), (11, 1, (gI 3))]),
 kS d5 (oCall (gC (.func 73 [] [])) [t4]),
 kS d6 (oBld [.nilslice, .nilslice, (.int .i64 0)] [(0, 1, t3), (1, 1, t5), (2, 1, (gI (-1)))]),
 kN (oSt 3 t0 t6)])
 kRet))
theorem e72 : b72 = comp ir72.code := by kernel_rfl
def k72 : KF := ⟨7, b72, [.cell 0 true 3]⟩
def b73 : KC := (kSeq (kRegion [kS d2 (oMv (gC .nilslice))])
 (kSeq (kRegion [kS d3 (oMv (gC .nilslice))])
 (kSeq (kSeq (kRegion [kS d4 (oMv (gI 0))])
 (kBlock 0 (kLoop (kSeq (kSeq (kRegion [kS d5 (oMv t4),
 kS d6 (oBin .add t5 (gI 1)),
 kS d7 (oMv t0),
 kS d8 (oLen false t7),
 kS d9 (oBin .lss t6 t8)])
 (kCond t9 kSkip
 (kExit 0)))
 (kSeq (kBlock 1 (kDraw [⟨kS d12 (oMv t3), ⟨(some 12), (.mv (.t 3)), none⟩, false, [], []⟩,
 ⟨kS d13 (oMv t0), ⟨(some 13), (.mv (.t 0)), none⟩, false, [], []⟩,
 ⟨kS d14 (oMv t4), ⟨(some 14), (.mv (.t 4)), none⟩, false, [], []⟩,
 ⟨kS d15 (oIa 1 t13 t14), ⟨(some 15), (.ia 1 (.t 13) (.t 14)), none⟩, false, [], []⟩,
 ⟨kS d16 (oLd false 1 t15), ⟨(some 16), (.ld false 1 (.t 15)), none⟩, false, [⟨(some 16), (.ld false 1 (.t 15)), none⟩], []⟩,
 ⟨kS d17 (oMv t0), ⟨(some 17), (.mv (.t 0)), none⟩, false, [], []⟩,
 ⟨kS d18 (oMv t4), ⟨(some 18), (.mv (.t 4)), none⟩, false, [], []⟩,
 ⟨kS d19 (oBin .add t18 (gI 1)), ⟨(some 19), (.bin .add (.t 18) (.c (.int .i64 1))), none⟩, false, [], []⟩,
 ⟨kS d20 (oIa 1 t17 t19), ⟨(some 20), (.ia 1 (.t 17) (.t 19)), none⟩, false, [], []⟩,
 ⟨kS d21 (oLd false 1 t20), ⟨(some 21), (.ld false 1 (.t 20)), none⟩, false, [⟨(some 21), (.ld false 1 (.t 20)), none⟩], []⟩,
 ⟨kS d22 (oBld [(.int .i64 0), (.int .i64 0)] [(0, 1, t16), (1, 1, t21)]), ⟨(some 22), (.bld [(.int .i64 0), (.int .i64 0)] [(0, 1, (.t 16)), (1, 1, (.t 21))]), none⟩, false, [], []⟩,
 ⟨kS d23 (oBldS 2 1 [(.int .i64 0), (.int .i64 0)] [(0, 2, t22)]), ⟨(some 23), (.bldS 2 1 [(.int .i64 0), (.int .i64 0)] [(0, 2, (.t 22))]), none⟩, false, [], []⟩,
 ⟨kS d24 (oGen (.app 2 16 (.t 12) (.t 23))), ⟨(some 24), (.app 2 16 (.t 12) (.t 23)), none⟩, true, [], []⟩,
 ⟨kS d3 (oMv t24), ⟨(some 3), (.mv (.t 24)), none⟩, false, [], []⟩]))
 (kRegion [kS d10 (oMv t4),
 kS d11 (oBin .add t10 (gI 2)),
 kS d4 (oMv t11)]))))))
 (kSeq (kRegion [kS d25 (oMv t3),
 kS d2 (oMv t25)])
 kRet))))
theorem e73 : b73 = comp ir73.code := by kernel_rfl
def k73 : KF := ⟨26, b73, [.tmp 2]⟩
def b74 : KC := (kSeq (kRegion [kS d1 (oBox t0),
 kS d2 (oMv (gC .nilslice)),
 kS d3 (oMv (gC (.bool false)))])
 (kSeq (kRegion [kS d4 (oMv (gC .nilslice))])
 (kSeq (kRegion [kS d5 (oMv (gC (.bool true)))])
 (kSeq (kSeq (kRegion [kS d6 (oMv (gI 0))])
 (kBlock 0 (kLoop (kSeq (kSeq (kRegion [kS d7 (oMv t6),
 kS d8 (oFa t1 0),
 kS d9 (oLd false 1 t8),
 kS d10 (oLen false t9),
 kS d11 (oBin .lss t7 t10)])
 (kCond t11 kSkip
 (kExit 0)))
 (kSeq (kBlock 1 (kSeq (kRegion [kS d14 (oMv t4),
 kS d15 (oFa t1 0),
 kS d16 (oLd false 1 t15),
 kS d17 (oMv t6),
 kS d18 (oIa 4 t16 t17),
 kS d19 (oFa t18 1),
 kS d20 (oLd false 1 t19),
 kS d21 (oBldS 1 1 [(.int .i64 0)] [(0, 1, t20)]),
 kS d22 (oGen (.app 1 8 (.t 14) (.t 21))),
 kS d4 (oMv t22)])
 (kRegion [kS d23 (oMv t5),
 kS d24 (oMv t23),
 kG t24 true d25 (oFa t1 0),
 kG t24 true d26 (oLd false 1 t25),
 kG t24 true d27 (oMv t6),
 kG t24 true d28 (oIa 4 t26 t27),
 kG t24 true d29 (oFa t28 2),
 kG t24 true d30 (oLd false 1 t29),
 kG t24 true d31 (oNot t30),
 kS d32 (oPick t24 t31 (gC (.bool false))),
 kS d5 (oMv t32)])))
 (kRegion [kS d12 (oMv t6),
 kS d13 (oBin .add t12 (gI 1)),
 kS d6 (oMv t13)]))))))
 (kSeq (kRegion [kS d33 (oMv t4),
 kS d34 (oMv t5),
 kS d2 (oMv t33),
 kS d3 (oMv t34)])
 kRet)))))
theorem e74 : b74 = comp ir74.code := by kernel_rfl
def k74 : KF := ⟨35, b74, [.tmp 2, .tmp 3]⟩
def b75 : KC := (kSeq (kRegion [kS d0 (oAlloc (.agg [.nilslice, .nilslice, (.int .i64 0)]))])
 (kSeq (kRegion [kS d1 (oBldS 1 4 [(.int .i64 0)] [(0, 1, (gI 3)), (1, 1, (gI 1)), (2, 1, (gI 2)), (3, 1, (gI 0))]),
 kS d2 (oBldS 1 4 [(.int .i64 0)] [(0, 1, (gI 0)), (1, 1, (gI 1)), (2, 1, (gI 2)), (3, 1, (gI 3))]),
 kS d3 (oCall (gC (.func 90 [] [])) [t1, t2]),
 kS d4 (oBldS 1 6 [(.int .i64 0)] [(0, 1, (gI 0)), (1, 1, (gI 1)), (2, 1, (gI 1)), (3, 1, (gI 2)), (4, 1, (gI 2)), (5, 1, (gI 3))]),
 kS d5 (oCall (gC (.func 73 [] [])) [t4]),
 kS d6 (oBld [.nilslice, .nilslice, (.int .i64 0)] [(0, 1, t3), (1, 1, t5), (2, 1, (gI (-1)))]),
 kN (oSt 3 t0 t6)])
 kRet))
theorem e75 : b75 = comp ir75.code := by kernel_rfl
def k75 : KF := ⟨7, b75, [.cell 0 true 3]⟩
def b76 : KC := (kSeq (kRegion [kS d4 (oMv (gC (.bool false)))])
 (kSeq (kRegion [kS d7 (oMv t0),
 kS d8 (oLen false t7),
 kS d9 (oMv t1),
 kS d10 (oLen false t9),
 kS d11 (oBin .eql t8 t10),
 kS d5 (oMv t11)])
 (kSeq (kSeq (kRegion [kS d6 (oMv (gI 0))])
 (kBlock 0 (kLoop (kSeq (kSeq (kRegion [kS d12 (oMv t5),
 kS d13 (oMv t12),
 kG t13 true d14 (oMv t6),
 kG t13 true d15 (oMv t0),
 kG t13 true d16 (oLen false t15),
 kG t13 true d17 (oBin .lss t14 t16),
 kS d18 (oPick t13 t17 (gC (.bool false)))])
 (kCond t18 kSkip
 (kExit 0)))
 (kSeq (kBlock 1 (kDraw [⟨kS d21 (oMv t0), ⟨(some 21), (.mv (.t 0)), none⟩, false, [], []⟩,
 ⟨kS d22 (oMv t6), ⟨(some 22), (.mv (.t 6)), none⟩, false, [], []⟩,
 ⟨kS d23 (oIa 1 t21 t22), ⟨(some 23), (.ia 1 (.t 21) (.t 22)), none⟩, false, [], []⟩,
 ⟨kS d24 (oLd false 1 t23), ⟨(some 24), (.ld false 1 (.t 23)), none⟩, false, [⟨(some 24), (.ld false 1 (.t 23)), none⟩], []⟩,
 ⟨kS d25 (oMv t1), ⟨(some 25), (.mv (.t 1)), none⟩, false, [], []⟩,
 ⟨kS d26 (oMv t6), ⟨(some 26), (.mv (.t 6)), none⟩, false, [], []⟩,
 ⟨kS d27 (oIa 1 t25 t26), ⟨(some 27), (.ia 1 (.t 25) (.t 26)), none⟩, false, [], []⟩,
 ⟨kS d28 (oLd false 1 t27), ⟨(some 28), (.ld false 1 (.t 27)), none⟩, false, [⟨(some 28), (.ld false 1 (.t 27)), none⟩], []⟩,
 ⟨kS d29 (oBin .eql t24 t28), ⟨(some 29), (.bin .eql (.t 24) (.t 28)), none⟩, false, [], []⟩,
 ⟨kS d5 (oMv t29), ⟨(some 5), (.mv (.t 29)), none⟩, false, [], []⟩]))
 (kRegion [kS d19 (oMv t6),
 kS d20 (oBin .add t19 (gI 1)),
 kS d6 (oMv t20)]))))))
 (kSeq (kRegion [kS d30 (oMv t5),
 kS d4 (oMv t30)])
 kRet))))
theorem e76 : b76 = comp ir76.code := by kernel_rfl
def k76 : KF := ⟨31, b76, [.tmp 4]⟩
def b77 : KC := (kSeq (kRegion [kS d4 (oMv (gC (.bool false)))])
 (kSeq (kRegion [kS d7 (oMv t0),
 kS d8 (oLen false t7),
 kS d9 (oMv t1),
 kS d10 (oLen false t9),
 kS d11 (oBin .eql t8 t10),
 kS d5 (oMv t11)])
 (kSeq (kSeq (kRegion [kS d6 (oMv (gI 0))])
 (kBlock 0 (kLoop (kSeq (kSeq (kRegion [kS d12 (oMv t5),
 kS d13 (oMv t12),
 kG t13 true d14 (oMv t6),
 kG t13 true d15 (oMv t0),
 kG t13 true d16 (oLen false t15),
 kG t13 true d17 (oBin .lss t14 t16),
 kS d18 (oPick t13 t17 (gC (.bool false)))])
 (kCond t18 kSkip
 (kExit 0)))
 (kSeq (kBlock 1 (kDraw [⟨kS d21 (oMv t0), ⟨(some 21), (.mv (.t 0)), none⟩, false, [], []⟩,
 ⟨kS d22 (oMv t6), ⟨(some 22), (.mv (.t 6)), none⟩, false, [], []⟩,
 ⟨kS d23 (oIa 2 t21 t22), ⟨(some 23), (.ia 2 (.t 21) (.t 22)), none⟩, false, [], []⟩,
 ⟨kS d24 (oLd true 2 t23), ⟨(some 24), (.ld true 2 (.t 23)), none⟩, false, [⟨(some 24), (.ld true 2 (.t 23)), none⟩], []⟩,
 ⟨kS d25 (oMv t1), ⟨(some 25), (.mv (.t 1)), none⟩, false, [], []⟩,
 ⟨kS d26 (oMv t6), ⟨(some 26), (.mv (.t 6)), none⟩, false, [], []⟩,
 ⟨kS d27 (oIa 2 t25 t26), ⟨(some 27), (.ia 2 (.t 25) (.t 26)), none⟩, false, [], []⟩,
 ⟨kS d28 (oLd true 2 t27), ⟨(some 28), (.ld true 2 (.t 27)), none⟩, false, [⟨(some 28), (.ld true 2 (.t 27)), none⟩], []⟩,
 ⟨kS d29 (oEqv (.ag [.i, .i]) false t24 t28), ⟨(some 29), (.eqv (.ag [.i, .i]) false (.t 24) (.t 28)), none⟩, false, [], []⟩,
 ⟨kS d5 (oMv t29), ⟨(some 5), (.mv (.t 29)), none⟩, false, [], []⟩]))
 (kRegion [kS d19 (oMv t6),
 kS d20 (oBin .add t19 (gI 1)),
 kS d6 (oMv t20)]))))))
 (kSeq (kRegion [kS d30 (oMv t5),
 kS d4 (oMv t30)])
 kRet))))
theorem e77 : b77 = comp ir77.code := by kernel_rfl
def k77 : KF := ⟨31, b77, [.tmp 4]⟩
def b78 : KC := (kSeq (kRegion [kS d4 (oMv (gC (.bool false)))])
 (kSeq (kRegion [kS d7 (oMv t0),
 kS d8 (oLen false t7),
 kS d9 (oMv t1),
 kS d10 (oLen false t9),
 kS d11 (oBin .eql t8 t10),
 kS d5 (oMv t11)])
 (kSeq (kSeq (kRegion [kS d6 (oMv (gI 0))])
 (kBlock 0 (kLoop (kSeq (kSeq (kRegion [kS d12 (oMv t5),
 kS d13 (oMv t12),
 kG t13 true d14 (oMv t6),
 kG t13 true d15 (oMv t0),
 kG t13 true d16 (oLen false t15),
 kG t13 true d17 (oBin .lss t14 t16),
 kS d18 (oPick t13 t17 (gC (.bool false)))])
 (kCond t18 kSkip
 (kExit 0)))
 (kSeq (kBlock 1 (kDraw [⟨kS d21 (oMv t0), ⟨(some 21), (.mv (.t 0)), none⟩, false, [], []⟩,
 ⟨kS d22 (oMv t6), ⟨(some 22), (.mv (.t 6)), none⟩, false, [], []⟩,
 ⟨kS d23 (oIa 1 t21 t22), ⟨(some 23), (.ia 1 (.t 21) (.t 22)), none⟩, false, [], []⟩,
 ⟨kS d24 (oLd false 1 t23), ⟨(some 24), (.ld false 1 (.t 23)), none⟩, false, [⟨(some 24), (.ld false 1 (.t 23)), none⟩], []⟩,
 ⟨kS d25 (oMv t1), ⟨(some 25), (.mv (.t 1)), none⟩, false, [], []⟩,
 ⟨kS d26 (oMv t6), ⟨(some 26), (.mv (.t 6)), none⟩, false, [], []⟩,
 ⟨kS d27 (oIa 1 t25 t26), ⟨(some 27), (.ia 1 (.t 25) (.t 26)), none⟩, false, [], []⟩,
 ⟨kS d28 (oLd false 1 t27), ⟨(some 28), (.ld false 1 (.t 27)), none⟩, false, [⟨(some 28), (.ld false 1 (.t 27)), none⟩], []⟩,
 ⟨kS d29 (oCall (gC (.func 76 [] [])) [t24, t28]), ⟨(some 29), (.call (.c (.func 76 [] [])) [(.t 24), (.t 28)]), none⟩, true, [], []⟩,
 ⟨kS d5 (oMv t29), ⟨(some 5), (.mv (.t 29)), none⟩, false, [], []⟩]))
 (kRegion [kS d19 (oMv t6),
 kS d20 (oBin .add t19 (gI 1)),
 kS d6 (oMv t20)]))))))
 (kSeq (kRegion [kS d30 (oMv t5),
 kS d4 (oMv t30)])
 kRet))))
theorem e78 : b78 = comp ir78.code := by kernel_rfl
def k78 : KF := ⟨31, b78, [.tmp 4]⟩
def b79 : KC := (kSeq (kRegion [kS d4 (oMv (gI 0))])
 (kSeq (kSeq (kRegion [kS d6 (oMv t0),
 kS d7 (oLen false t6),
 kS d8 (oMv (gI 0))])
 (kBlock 0 (kLoop (kSeq (kRegion [kS d9 (oBin .lss t8 t7)])
 (kSeq (kCond t9 kSkip
 (kExit 0))
 (kSeq (kBlock 1 (kSeq (kRegion [kS d10 (oMv t8),
 kS d5 (oMv t10)])
 (kSeq (kRegion [kS d11 (oMv t1),
 kS d12 (oMv t0),
 kS d13 (oMv t5),
 kS d14 (oIa 4 t12 t13),
 kS d15 (oLd true 4 t14),
 kS d16 (oCall t11 [t15])])
 (kCond t16 (kSeq (kRegion [kS d17 (oMv t5),
 kS d4 (oMv t17)])
 kRet)
 kSkip))))
 (kRegion [kS d18 (oBin .add t8 (gI 1)),
 kS d8 (oMv t18)])))))))
 (kSeq (kRegion [kS d4 (oMv (gI (-1)))])
 kRet)))
theorem e79 : b79 = comp ir79.code := by kernel_rfl
def k79 : KF := ⟨19, b79, [.tmp 4]⟩
def b80 : KC := (kSeq (kRegion [kS d4 (oMv (gC (.bool false)))])
 (kSeq (kRegion [kS d5 (oMv t0),
 kS d6 (oMv t1),
 kS d7 (oCall (gC (.func 91 [] [])) [t5, t6]),
 kS d8 (oBin .geq t7 (gI 0)),
 kS d4 (oMv t8)])
 kRet))
theorem e80 : b80 = comp ir80.code := by kernel_rfl
def k80 : KF := ⟨9, b80, [.tmp 4]⟩
def b81 : KC := (kSeq (kRegion [kS d4 (oMv (gC (.bool false)))])
 (kSeq (kRegion [kS d5 (oMv t0),
 kS d6 (oLd false 1 t1),
 kS d7 (oBin .lss t5 t6),
 kS d8 (oMv t7),
 kG t8 false d9 (oMv t0),
 kG t8 false d10 (oLd false 1 t2),
 kG t8 false d11 (oBin .gtr t9 t10),
 kS d12 (oPick t8 (gC (.bool true)) t11),
 kS d4 (oMv t12)])
 kRet))
theorem e81 : b81 = comp ir81.code := by kernel_rfl
def k81 : KF := ⟨13, b81, [.tmp 4]⟩
def b82 : KC := (kSeq (kRegion [kS d3 (oBox t1),
 kS d4 (oMv (gI 0))])
 (kSeq (kSeq (kRegion [kS d6 (oMv t0),
 kS d7 (oLen false t6),
 kS d8 (oMv (gI 0))])
 (kBlock 0 (kLoop (kSeq (kRegion [kS d9 (oBin .lss t8 t7)])
 (kSeq (kCond t9 kSkip
 (kExit 0))
 (kSeq (kBlock 1 (kSeq (kRegion [kS d10 (oMv t8),
 kS d5 (oMv t10)])
 (kSeq (kDraw [⟨kS d11 (oLd true 2 t3), ⟨(some 11), (.ld true 2 (.t 3)), none⟩, false, [⟨(some 11), (.ld true 2 (.t 3)), none⟩], []⟩,
 ⟨kS d12 (oMv t0), ⟨(some 12), (.mv (.t 0)), none⟩, false, [], []⟩,
 ⟨kS d13 (oMv t5), ⟨(some 13), (.mv (.t 5)), none⟩, false, [], []⟩,
 ⟨kS d14 (oIa 2 t12 t13), ⟨(some 14), (.ia 2 (.t 12) (.t 13)), none⟩, false, [], []⟩,
 ⟨kS d15 (oLd true 2 t14), ⟨(some 15), (.ld true 2 (.t 14)), none⟩, false, [⟨(some 15), (.ld true 2 (.t 14)), none⟩], []⟩,
 ⟨kS d16 (oEqv (.ag [.i, .i]) false t11 t15), ⟨(some 16), (.eqv (.ag [.i, .i]) false (.t 11) (.t 15)), none⟩, false, [], []⟩])
 (kCond t16 (kSeq (kRegion [kS d17 (oMv t5),
 kS d4 (oMv t17)])
 kRet)
 kSkip))))
 (kRegion [kS d18 (oBin .add t8 (gI 1)),
 kS d8 (oMv t18)])))))))
 (kSeq (kRegion [kS d4 (oMv (gI (-1)))])
 kRet)))
theorem e82 : b82 = comp ir82.code := by kernel_rfl
def k82 : KF := ⟨19, b82, [.tmp 4]⟩
def b87 : KC := (kSeq (kRegion [kS d2 (oBox t0),
 kS d3 (oMv (gC (.bool false)))])
 (kSeq (kRegion [kS d4 (oLd false 1 t1),
 kS d5 (oLd true 10 t2),
 kS d6 (oCall (gC (.func 49 [] [])) [t4, t5]),
 kS d7 (oLen false t6),
 kS d8 (oBin .eql t7 (gI 0)),
 kS d3 (oMv t8)])
 kRet))
theorem e87 : b87 = comp ir87.code := by kernel_rfl
def k87 : KF := ⟨9, b87, [.tmp 3]⟩
def b88 : KC := (kSeq (kRegion [kS d4 (oMv (gC .nilslice))])
 (kSeq (kBlock 0 (kLoop (kSeq (kSeq (kRegion [kS d5 (oMv t0),
 kS d6 (oNilck t5),
 kS d7 (oFa t6 0),
 kS d8 (oLd false 1 t7),
 kS d9 (oMv t1),
 kS d10 (oIa 14 t8 t9),
 kS d11 (oFa t10 12),
 kS d12 (oLd false 1 t11),
 kS d13 (oBin .geq t12 (gI 0))])
 (kCond t13 kSkip
 (kExit 0)))
 (kBlock 1 (kSeq (kRegion [kS d14 (oMv t4),
 kS d15 (oMv t0),
 kS d16 (oNilck t15),
 kS d17 (oFa t16 0),
 kS d18 (oLd false 1 t17),
 kS d19 (oMv t1),
 kS d20 (oIa 14 t18 t19),
 kS d21 (oFa t20 10),
 kS d22 (oLd true 2 t21),
 kS d23 (oBldS 2 1 [(.int .i64 0), (.int .i64 0)] [(0, 2, t22)]),
 kS d24 (oGen (.app 2 16 (.t 14) (.t 23))),
 kS d4 (oMv t24)])
 (kRegion [kS d25 (oMv t0),
 kS d26 (oNilck t25),
 kS d27 (oFa t26 0),
 kS d28 (oLd false 1 t27),
 kS d29 (oMv t1),
 kS d30 (oIa 14 t28 t29),
 kS d31 (oFa t30 12),
 kS d32 (oLd false 1 t31),
 kS d1 (oMv t32)]))))))
 (kSeq (kRegion [kS d33 (oMv t4),
 kS d34 (oCall (gC (.func 96 [] [])) [t33])])
 (kSeq (kRegion [kS d35 (oMv t4),
 kS d4 (oMv t35)])
 kRet))))
theorem e88 : b88 = comp ir88.code := by kernel_rfl
def k88 : KF := ⟨36, b88, [.tmp 4]⟩
def b89 : KC := (kSeq (kRegion [kS d1 (oBox t0),
 kS d2 (oMv (gC .nilfunc))])
 (kSeq (kRegion [kS d3 (oMkfn 97 [] [t1]),
 kS d2 (oMv t3)])
 kRet))
theorem e89 : b89 = comp ir89.code := by kernel_rfl
def k89 : KF := ⟨4, b89, [.tmp 2]⟩
def b90 : KC := (kSeq (kRegion [kS d4 (oMv (gC .nilslice))])
 (kSeq (kRegion [kS d5 (oMv (gC .nilslice))])
 (kSeq (kSeq (kRegion [kS d6 (oMv (gI 0))])
 (kBlock 0 (kLoop (kSeq (kSeq (kRegion [kS d7 (oMv t6),
 kS d8 (oMv t0),
 kS d9 (oLen false t8),
 kS d10 (oBin .lss t7 t9)])
 (kCond t10 kSkip
 (kExit 0)))
 (kSeq (kBlock 1 (kDraw [⟨kS d13 (oMv t5), ⟨(some 13), (.mv (.t 5)), none⟩, false, [], []⟩,
 ⟨kS d14 (oBldS 1 4 [(.str [])] [(0, 1, (gC (.str [97]))), (1, 1, (gC (.str [98]))), (2, 1, (gC (.str [99]))), (3, 1, (gC (.str [100])))]), ⟨(some 14), (.bldS 1 4 [(.str [])] [(0, 1, (.c (.str [97]))), (1, 1, (.c (.str [98]))), (2, 1, (.c (.str [99]))), (3, 1, (.c (.str [100])))]), none⟩, false, [], []⟩,
 ⟨kS d15 (oMv t6), ⟨(some 15), (.mv (.t 6)), none⟩, false, [], []⟩,
 ⟨kS d16 (oIa 1 t14 t15), ⟨(some 16), (.ia 1 (.t 14) (.t 15)), none⟩, false, [], []⟩,
 ⟨kS d17 (oLd false 1 t16), ⟨(some 17), (.ld false 1 (.t 16)), none⟩, false, [⟨(some 17), (.ld false 1 (.t 16)), none⟩], []⟩,
 ⟨kS d18 (oMv t0), ⟨(some 18), (.mv (.t 0)), none⟩, false, [], []⟩,
 ⟨kS d19 (oMv t6), ⟨(some 19), (.mv (.t 6)), none⟩, false, [], []⟩,
 ⟨kS d20 (oIa 1 t18 t19), ⟨(some 20), (.ia 1 (.t 18) (.t 19)), none⟩, false, [], []⟩,
 ⟨kS d21 (oLd false 1 t20), ⟨(some 21), (.ld false 1 (.t 20)), none⟩, false, [⟨(some 21), (.ld false 1 (.t 20)), none⟩], []⟩,
 ⟨kS d22 (oMv t1), ⟨(some 22), (.mv (.t 1)), none⟩, false, [], []⟩,
 ⟨kS d23 (oMv t6), ⟨(some 23), (.mv (.t 6)), none⟩, false, [], []⟩,
 ⟨kS d24 (oIa 1 t22 t23), ⟨(some 24), (.ia 1 (.t 22) (.t 23)), none⟩, false, [], []⟩,
 ⟨kS d25 (oLd false 1 t24), ⟨(some 25), (.ld false 1 (.t 24)), none⟩, false, [⟨(some 25), (.ld false 1 (.t 24)), none⟩], []⟩,
 ⟨kS d26 (oBld [(.str []), (.int .i64 0), (.bool false), (.int .i64 0)] [(0, 1, t17), (1, 1, t21), (3, 1, t25)]), ⟨(some 26), (.bld [(.str []), (.int .i64 0), (.bool false), (.int .i64 0)] [(0, 1, (.t 17)), (1, 1, (.t 21)), (3, 1, (.t 25))]), none⟩, false, [], []⟩,
 ⟨kS d27 (oBldS 4 1 [(.str []), (.int .i64 0), (.bool false), (.int .i64 0)] [(0, 4, t26)]), ⟨(some 27), (.bldS 4 1 [(.str []), (.int .i64 0), (.bool false), (.int .i64 0)] [(0, 4, (.t 26))]), none⟩, false, [], []⟩,
 ⟨kS d28 (oGen (.app 4 40 (.t 13) (.t 27))), ⟨(some 28), (.app 4 40 (.t 13) (.t 27)), none⟩, true, [], []⟩,
 ⟨kS d5 (oMv t28), ⟨(some 5), (.mv (.t 28)), none⟩, false, [], []⟩]))
 (kRegion [kS d11 (oMv t6),
 kS d12 (oBin .add t11 (gI 1)),
 kS d6 (oMv t12)]))))))
 (kSeq (kRegion [kS d29 (oMv t5),
 kS d4 (oMv t29)])
 kRet))))
theorem e90 : b90 = comp ir90.code := by kernel_rfl
def k90 : KF := ⟨30, b90, [.tmp 4]⟩
def b91 : KC := (kSeq (kRegion [kS d4 (oMv (gI 0))])
 (kSeq (kSeq (kRegion [kS d6 (oMv t0),
 kS d7 (oLen false t6),
 kS d8 (oMv (gI 0))])
 (kBlock 0 (kLoop (kSeq (kRegion [kS d9 (oBin .lss t8 t7)])
 (kSeq (kCond t9 kSkip
 (kExit 0))
 (kSeq (kBlock 1 (kSeq (kRegion [kS d10 (oMv t8),
 kS d5 (oMv t10)])
 (kSeq (kRegion [kS d11 (oMv t1),
 kS d12 (oMv t0),
 kS d13 (oMv t5),
 kS d14 (oIa 1 t12 t13),
 kS d15 (oLd false 1 t14),
 kS d16 (oCall t11 [t15])])
 (kCond t16 (kSeq (kRegion [kS d17 (oMv t5),
 kS d4 (oMv t17)])
 kRet)
 kSkip))))
 (kRegion [kS d18 (oBin .add t8 (gI 1)),
 kS d8 (oMv t18)])))))))
 (kSeq (kRegion [kS d4 (oMv (gI (-1)))])
 kRet)))
theorem e91 : b91 = comp ir91.code := by kernel_rfl
def k91 : KF := ⟨19, b91, [.tmp 4]⟩
def b96 : KC := (kSeq (kRegion [kS d4 (oMv t0),
 kS d5 (oLen false t4),
 kS d6 (oBin .sub t5 (gI 1)),
 kS d2 (oMv (gI 0)),
 kS d3 (oMv t6)])
 (kBlock 0 (kLoop (kSeq (kSeq (kRegion [kS d7 (oMv t2),
 kS d8 (oMv t3),
 kS d9 (oBin .lss t7 t8)])
 (kCond t9 kSkip
 (kExit 0)))
 (kSeq (kBlock 1 (kDraw [⟨kS d14 (oMv t0), ⟨(some 14), (.mv (.t 0)), none⟩, false, [], []⟩,
 ⟨kS d15 (oMv t2), ⟨(some 15), (.mv (.t 2)), none⟩, false, [], []⟩,
 ⟨kS d16 (oMv t0), ⟨(some 16), (.mv (.t 0)), none⟩, false, [], []⟩,
 ⟨kS d17 (oMv t3), ⟨(some 17), (.mv (.t 3)), none⟩, false, [], []⟩,
 ⟨kS d18 (oMv t0), ⟨(some 18), (.mv (.t 0)), none⟩, false, [], []⟩,
 ⟨kS d19 (oMv t3), ⟨(some 19), (.mv (.t 3)), none⟩, false, [], []⟩,
 ⟨kS d20 (oIa 2 t18 t19), ⟨(some 20), (.ia 2 (.t 18) (.t 19)), none⟩, false, [], []⟩,
 ⟨kS d21 (oLd true 2 t20), ⟨(some 21), (.ld true 2 (.t 20)), none⟩, false, [⟨(some 21), (.ld true 2 (.t 20)), none⟩], []⟩,
 ⟨kS d22 (oMv t0), ⟨(some 22), (.mv (.t 0)), none⟩, false, [], []⟩,
 ⟨kS d23 (oMv t2), ⟨(some 23), (.mv (.t 2)), none⟩, false, [], []⟩,
 ⟨kS d24 (oIa 2 t22 t23), ⟨(some 24), (.ia 2 (.t 22) (.t 23)), none⟩, false, [], []⟩,
 ⟨kS d25 (oLd true 2 t24), ⟨(some 25), (.ld true 2 (.t 24)), none⟩, false, [⟨(some 25), (.ld true 2 (.t 24)), none⟩], []⟩,
 ⟨kS d26 (oIa 2 t14 t15), ⟨(some 26), (.ia 2 (.t 14) (.t 15)), none⟩, false, [], []⟩,
 ⟨kN (oSt 2 t26 t21), ⟨none, (.st 2 (.t 26) (.t 21)), none⟩, true, [], []⟩,
 ⟨kS d27 (oIa 2 t16 t17), ⟨(some 27), (.ia 2 (.t 16) (.t 17)), none⟩, false, [], []⟩,
 ⟨kN (oSt 2 t27 t25), ⟨none, (.st 2 (.t 27) (.t 25)), none⟩, true, [], []⟩]))
 (kRegion [kS d10 (oMv t2),
 kS d11 (oBin .add t10 (gI 1)),
 kS d12 (oMv t3),
 kS d13 (oBin .sub t12 (gI 1)),
 kS d2 (oMv t11),
 kS d3 (oMv t13)]))))))
theorem e96 : b96 = comp ir96.code := by kernel_rfl
def k96 : KF := ⟨28, b96, []⟩
def b97 : KC := (kSeq (kDraw [⟨kS d6 (oLd false 1 t1), ⟨(some 6), (.ld false 1 (.t 1)), none⟩, false, [⟨(some 6), (.ld false 1 (.t 1)), none⟩], []⟩,
 ⟨kS d7 (oNilck t6), ⟨(some 7), (.nilck (.t 6)), none⟩, false, [], []⟩,
 ⟨kS d8 (oFa t7 0), ⟨(some 8), (.fa (.t 7) 0), none⟩, false, [], []⟩,
 ⟨kS d9 (oFa t8 1), ⟨(some 9), (.fa (.t 8) 1), none⟩, false, [], []⟩,
 ⟨kS d10 (oLd false 1 t9), ⟨(some 10), (.ld false 1 (.t 9)), none⟩, false, [⟨(some 10), (.ld false 1 (.t 9)), none⟩], []⟩,
 ⟨kS d11 (oLen false t10), ⟨(some 11), (.len false (.t 10)), none⟩, false, [], []⟩,
 ⟨kS d12 (oLd false 1 t1), ⟨(some 12), (.ld false 1 (.t 1)), none⟩, false, [⟨(some 12), (.ld false 1 (.t 1)), none⟩], []⟩,
 ⟨kS d13 (oNilck t12), ⟨(some 13), (.nilck (.t 12)), none⟩, false, [], []⟩,
 ⟨kS d14 (oFa t13 0), ⟨(some 14), (.fa (.t 13) 0), none⟩, false, [], []⟩,
 ⟨kS d15 (oFa t14 1), ⟨(some 15), (.fa (.t 14) 1), none⟩, false, [], []⟩,
 ⟨kS d16 (oLd false 1 t15), ⟨(some 16), (.ld false 1 (.t 15)), none⟩, false, [⟨(some 16), (.ld false 1 (.t 15)), none⟩], []⟩,
 ⟨kS d17 (oLen false t16), ⟨(some 17), (.len false (.t 16)), none⟩, false, [], []⟩,
 ⟨kS d18 (oBin .add t17 (gI 1)), ⟨(some 18), (.bin .add (.t 17) (.c (.int .i64 1))), none⟩, false, [], []⟩,
 ⟨kS d19 (oGen (.mksl 2 16 [(.int .i64 0), (.int .i64 0)] (.t 11) (.t 18))), ⟨(some 19), (.mksl 2 16 [(.int .i64 0), (.int .i64 0)] (.t 11) (.t 18)), none⟩, false, [], []⟩,
 ⟨kS d3 (oMv t19), ⟨(some 3), (.mv (.t 19)), none⟩, false, [], []⟩])
 (kSeq (kRegion [kS d20 (oMv t3),
 kS d21 (oLd false 1 t1),
 kS d22 (oNilck t21),
 kS d23 (oFa t22 0),
 kS d24 (oFa t23 1),
 kS d25 (oLd false 1 t24),
 kS d26 (oGen (.cpy 2 (.t 20) (.t 25)))])
 (kSeq (kSeq (kRegion [kS d27 (oLd false 1 t1),
 kS d28 (oNilck t27),
 kS d29 (oFa t28 0),
 kS d30 (oFa t29 2),
 kS d31 (oLd false 1 t30),
 kS d32 (oBin .neq t31 (gI (-1)))])
 (kCond t32 (kDraw [⟨kS d33 (oMv t3), ⟨(some 33), (.mv (.t 3)), none⟩, false, [], []⟩,
 ⟨kS d34 (oLd false 1 t1), ⟨(some 34), (.ld false 1 (.t 1)), none⟩, false, [⟨(some 34), (.ld false 1 (.t 1)), none⟩], []⟩,
 ⟨kS d35 (oNilck t34), ⟨(some 35), (.nilck (.t 34)), none⟩, false, [], []⟩,
 ⟨kS d36 (oFa t35 0), ⟨(some 36), (.fa (.t 35) 0), none⟩, false, [], []⟩,
 ⟨kS d37 (oFa t36 2), ⟨(some 37), (.fa (.t 36) 2), none⟩, false, [], []⟩,
 ⟨kS d38 (oLd false 1 t37), ⟨(some 38), (.ld false 1 (.t 37)), none⟩, false, [⟨(some 38), (.ld false 1 (.t 37)), none⟩], []⟩,
 ⟨kS d39 (oLd false 1 t1), ⟨(some 39), (.ld false 1 (.t 1)), none⟩, false, [⟨(some 39), (.ld false 1 (.t 1)), none⟩], []⟩,
 ⟨kS d40 (oNilck t39), ⟨(some 40), (.nilck (.t 39)), none⟩, false, [], []⟩,
 ⟨kS d41 (oFa t40 0), ⟨(some 41), (.fa (.t 40) 0), none⟩, false, [], []⟩,
 ⟨kS d42 (oFa t41 2), ⟨(some 42), (.fa (.t 41) 2), none⟩, false, [], []⟩,
 ⟨kS d43 (oLd false 1 t42), ⟨(some 43), (.ld false 1 (.t 42)), none⟩, false, [⟨(some 43), (.ld false 1 (.t 42)), none⟩], []⟩,
 ⟨kS d44 (oBld [(.int .i64 0), (.int .i64 0)] [(0, 1, t38), (1, 1, t43)]), ⟨(some 44), (.bld [(.int .i64 0), (.int .i64 0)] [(0, 1, (.t 38)), (1, 1, (.t 43))]), none⟩, false, [], []⟩,
 ⟨kS d45 (oBldS 2 1 [(.int .i64 0), (.int .i64 0)] [(0, 2, t44)]), ⟨(some 45), (.bldS 2 1 [(.int .i64 0), (.int .i64 0)] [(0, 2, (.t 44))]), none⟩, false, [], []⟩,
 ⟨kS d46 (oGen (.app 2 16 (.t 33) (.t 45))), ⟨(some 46), (.app 2 16 (.t 33) (.t 45)), none⟩, true, [], []⟩,
 ⟨kS d3 (oMv t46), ⟨(some 3), (.mv (.t 46)), none⟩, false, [], []⟩])
 kSkip))
 (kSeq (kRegion [kS d47 (oMv t3),
 kS d48 (oCall (gC (.func 98 [] [])) [t47, (gC (.func 99 [] []))])])
 (kSeq (kRegion [kS d49 (oMv t3),
 kS d50 (oLen false t49),
 kS d51 (oMv (gI 0))])
 (kBlock 0 (kLoop (kSeq (kRegion [kS d52 (oBin .lss t51 t50)])
 (kSeq (kCond t52 kSkip
 (kExit 0))
 (kSeq (kBlock 1 (kSeq (kRegion [kS d53 (oIa 2 t49 t51),
 kS d54 (oLd true 2 t53),
 kS d5 (oAlloc (.agg [(.int .i64 0), (.int .i64 0)])),
 kN (oSt 2 t5 t54)])
 (kSeq (kRegion [kS d55 (oMv t0),
 kS d56 (oLd true 2 t5),
 kS d57 (oCall t55 [t56]),
 kS d58 (oNot t57)])
 (kCond t58 kRet
 kSkip))))
 (kRegion [kS d59 (oBin .add t51 (gI 1)),
 kS d51 (oMv t59)])))))))))))
theorem e97 : b97 = comp ir97.code := by kernel_rfl
def k97 : KF := ⟨60, b97, []⟩
def b98 : KC := (kSeq (kRegion [kS d5 (oMv t0),
 kS d6 (oLen false t5),
 kS d4 (oMv t6)])
 (kRegion [kS d7 (oMv t0),
 kS d8 (oMv t4),
 kS d9 (oMv t4),
 kS d10 (oGen (.conv .u64 (.t 9))),
 kS d11 (oCall (gC (.func 102 [] [])) [t10]),
 kS d12 (oMv t1),
 kS d13 (oCall (gC (.func 101 [] [])) [t7, (gI 0), t8, t11, t12])]))
theorem e98 : b98 = comp ir98.code := by kernel_rfl
def k98 : KF := ⟨14, b98, []⟩
def b99 : KC := (kSeq (kRegion [kS d2 (oBox t0),
 kS d3 (oBox t1),
 kS d4 (oMv (gI 0))])
 (kSeq (kRegion [kS d5 (oFa t2 0),
 kS d6 (oLd false 1 t5),
 kS d7 (oFa t3 0),
 kS d8 (oLd false 1 t7),
 kS d9 (oBin .sub t6 t8),
 kS d10 (oFa t2 1),
 kS d11 (oLd false 1 t10),
 kS d12 (oFa t3 1),
 kS d13 (oLd false 1 t12),
 kS d14 (oBin .sub t11 t13),
 kS d15 (oBldS 1 2 [(.int .i64 0)] [(0, 1, t9), (1, 1, t14)]),
 kS d16 (oCall (gC (.func 100 [] [])) [t15]),
 kS d4 (oMv t16)])
 kRet))
theorem e99 : b99 = comp ir99.code := by kernel_rfl
def k99 : KF := ⟨17, b99, [.tmp 4]⟩
def b100 : KC := (kSeq (kRegion [kS d2 (oMv (gI 0))])
 (kSeq (kRegion [kS d3 (oMv (gI 0))])
 (kSeq (kSeq (kRegion [kS d6 (oMv t0),
 kS d7 (oLen false t6),
 kS d8 (oMv (gI 0))])
 (kBlock 0 (kLoop (kSeq (kRegion [kS d9 (oBin .lss t8 t7)])
 (kSeq (kCond t9 kSkip
 (kExit 0))
 (kSeq (kBlock 1 (kSeq (kRegion [kS d10 (oIa 1 t6 t8),
 kS d11 (oLd false 1 t10),
 kS d5 (oMv t11)])
 (kSeq (kRegion [kS d12 (oMv t5),
 kS d13 (oMv t3),
 kS d14 (oBin .neq t12 t13)])
 (kCond t14 (kSeq (kRegion [kS d15 (oMv t5),
 kS d2 (oMv t15)])
 kRet)
 kSkip))))
 (kRegion [kS d16 (oBin .add t8 (gI 1)),
 kS d8 (oMv t16)])))))))
 (kSeq (kRegion [kS d17 (oMv t3),
 kS d2 (oMv t17)])
 kRet))))
theorem e100 : b100 = comp ir100.code := by kernel_rfl
def k100 : KF := ⟨18, b100, [.tmp 2]⟩
def b101 : KC := (kSeq (kRegion [kS d10 (oMv (gC (.bool true)))])
 (kSeq (kRegion [kS d11 (oMv (gC (.bool true)))])
 (kBlock 0 (kLoop (kBlock 1 (kSeq (kRegion [kS d21 (oMv t2),
 kS d22 (oMv t1),
 kS d23 (oBin .sub t21 t22),
 kS d12 (oMv t23)])
 (kSeq (kSeq (kRegion [kS d24 (oMv t12),
 kS d25 (oBin .leq t24 (gI 12))])
 (kCond t25 (kSeq (kRegion [kS d26 (oMv t0),
 kS d27 (oMv t1),
 kS d28 (oMv t2),
 kS d29 (oMv t4),
 kS d30 (oCall (gC (.func 103 [] [])) [t26, t27, t28, t29])])
 kRet)
 kSkip))
 (kSeq (kSeq (kRegion [kS d31 (oMv t3),
 kS d32 (oBin .eql t31 (gI 0))])
 (kCond t32 (kSeq (kRegion [kS d33 (oMv t0),
 kS d34 (oMv t1),
 kS d35 (oMv t2),
 kS d36 (oMv t4),
 kS d37 (oCall (gC (.func 104 [] [])) [t33, t34, t35, t36])])
 kRet)
 kSkip))
 (kSeq (kSeq (kRegion [kS d38 (oMv t10),
 kS d39 (oNot t38)])
 (kCond t39 (kSeq (kRegion [kS d40 (oMv t0),
 kS d41 (oMv t1),
 kS d42 (oMv t2),
 kS d43 (oMv t4),
 kS d44 (oCall (gC (.func 105 [] [])) [t40, t41, t42, t43])])
 (kRegion [kS d45 (oMv t3),
 kS d46 (oBin .sub t45 (gI 1)),
 kS d3 (oMv t46)]))
 kSkip))
 (kSeq (kRegion [kS d48 (oMv t0),
 kS d49 (oMv t1),
 kS d50 (oMv t2),
 kS d51 (oMv t4),
 kS d52 (oCall (gC (.func 106 [] [])) [t48, t49, t50, t51]),
 kS d47 (oMv t52),
 kS d53 (oExt t47 0),
 kS d54 (oExt t47 1),
 kS d13 (oMv t53),
 kS d14 (oMv t54)])
 (kSeq (kSeq (kRegion [kS d55 (oMv t14),
 kS d56 (oBin .eql t55 (gI 2))])
 (kCond t56 (kSeq (kRegion [kS d57 (oMv t0),
 kS d58 (oMv t1),
 kS d59 (oMv t2),
 kS d60 (oMv t4),
 kS d61 (oCall (gC (.func 107 [] [])) [t57, t58, t59, t60])])
 (kSeq (kRegion [kS d62 (oMv t2),
 kS d63 (oBin .sub t62 (gI 1)),
 kS d64 (oMv t13),
 kS d65 (oMv t1),
 kS d66 (oBin .sub t64 t65),
 kS d67 (oBin .sub t63 t66),
 kS d13 (oMv t67)])
 (kRegion [kS d14 (oMv (gI 1))])))
 kSkip))
 (kSeq (kSeq (kRegion [kS d68 (oMv t10),
 kS d69 (oMv t68),
 kG t69 true d70 (oMv t11),
 kS d71 (oPick t69 t70 (gC (.bool false))),
 kS d72 (oMv t71),
 kG t72 true d73 (oMv t14),
 kG t72 true d74 (oBin .eql t73 (gI 1)),
 kS d75 (oPick t72 t74 (gC (.bool false)))])
 (kCond t75 (kSeq (kRegion [kS d76 (oMv t0),
 kS d77 (oMv t1),
 kS d78 (oMv t2),
 kS d79 (oMv t4),
 kS d80 (oCall (gC (.func 108 [] [])) [t76, t77, t78, t79])])
 (kCond t80 kRet
 kSkip))
 kSkip))
 (kSeq (kSeq (kDraw [⟨kS d81 (oMv t1), ⟨(some 81), (.mv (.t 1)), none⟩, false, [], []⟩,
 ⟨kS d82 (oBin .gtr t81 (gI 0)), ⟨(some 82), (.bin .gtr (.t 81) (.c (.int .i64 0))), none⟩, false, [], []⟩,
 ⟨kS d83 (oMv t82), ⟨(some 83), (.mv (.t 82)), none⟩, false, [], []⟩,
 ⟨kG t83 true d84 (oMv t4), ⟨(some 84), (.mv (.t 4)), (some (83, true))⟩, false, [], []⟩,
 ⟨kG t83 true d85 (oMv t0), ⟨(some 85), (.mv (.t 0)), (some (83, true))⟩, false, [], []⟩,
 ⟨kG t83 true d86 (oMv t1), ⟨(some 86), (.mv (.t 1)), (some (83, true))⟩, false, [], []⟩,
 ⟨kG t83 true d87 (oBin .sub t86 (gI 1)), ⟨(some 87), (.bin .sub (.t 86) (.c (.int .i64 1))), (some (83, true))⟩, false, [], []⟩,
 ⟨kG t83 true d88 (oIa 2 t85 t87), ⟨(some 88), (.ia 2 (.t 85) (.t 87)), (some (83, true))⟩, false, [], []⟩,
 ⟨kG t83 true d89 (oLd true 2 t88), ⟨(some 89), (.ld true 2 (.t 88)), (some (83, true))⟩, false, [⟨(some 89), (.ld true 2 (.t 88)), (some (83, true))⟩], []⟩,
 ⟨kG t83 true d90 (oMv t0), ⟨(some 90), (.mv (.t 0)), (some (83, true))⟩, false, [], []⟩,
 ⟨kG t83 true d91 (oMv t13), ⟨(some 91), (.mv (.t 13)), (some (83, true))⟩, false, [], []⟩,
 ⟨kG t83 true d92 (oIa 2 t90 t91), ⟨(some 92), (.ia 2 (.t 90) (.t 91)), (some (83, true))⟩, false, [], []⟩,
 ⟨kG t83 true d93 (oLd true 2 t92), ⟨(some 93), (.ld true 2 (.t 92)), (some (83, true))⟩, false, [⟨(some 93), (.ld true 2 (.t 92)), (some (83, true))⟩], []⟩,
 ⟨kG t83 true d94 (oCall t84 [t89, t93]), ⟨(some 94), (.call (.t 84) [(.t 89), (.t 93)]), (some (83, true))⟩, true, [], []⟩,
 ⟨kG t83 true d95 (oBin .lss t94 (gI 0)), ⟨(some 95), (.bin .lss (.t 94) (.c (.int .i64 0))), (some (83, true))⟩, false, [], []⟩,
 ⟨kG t83 true d96 (oNot t95), ⟨(some 96), (.un .not (.t 95)), (some (83, true))⟩, false, [], []⟩,
 ⟨kS d97 (oPick t83 t96 (gC (.bool false))), ⟨(some 97), (.pick (.t 83) (.t 96) (.c (.bool false))), none⟩, false, [], []⟩])
 (kCond t97 (kSeq (kRegion [kS d98 (oMv t0),
 kS d99 (oMv t1),
 kS d100 (oMv t2),
 kS d101 (oMv t13),
 kS d102 (oMv t4),
 kS d103 (oCall (gC (.func 109 [] [])) [t98, t99, t100, t101, t102]),
 kS d15 (oMv t103)])
 (kSeq (kRegion [kS d104 (oMv t15),
 kS d1 (oMv t104)])
 (kExit 1)))
 kSkip))
 (kSeq (kRegion [kS d106 (oMv t0),
 kS d107 (oMv t1),
 kS d108 (oMv t2),
 kS d109 (oMv t13),
 kS d110 (oMv t4),
 kS d111 (oCall (gC (.func 110 [] [])) [t106, t107, t108, t109, t110]),
 kS d105 (oMv t111),
 kS d112 (oExt t105 0),
 kS d113 (oExt t105 1),
 kS d16 (oMv t112),
 kS d17 (oMv t113)])
 (kSeq (kRegion [kS d114 (oMv t17),
 kS d11 (oMv t114)])
 (kSeq (kRegion [kS d115 (oMv t16),
 kS d116 (oMv t1),
 kS d117 (oBin .sub t115 t116),
 kS d118 (oMv t2),
 kS d119 (oMv t16),
 kS d120 (oBin .sub t118 t119),
 kS d18 (oMv t117),
 kS d19 (oMv t120)])
 (kSeq (kRegion [kS d121 (oMv t12),
 kS d122 (oBin .quo t121 (gI 8)),
 kS d20 (oMv t122)])
 (kSeq (kRegion [kS d123 (oMv t18),
 kS d124 (oMv t19),
 kS d125 (oBin .lss t123 t124)])
 (kCond t125 (kSeq (kRegion [kS d126 (oMv t18),
 kS d127 (oMv t20),
 kS d128 (oBin .geq t126 t127),
 kS d10 (oMv t128)])
 (kSeq (kRegion [kS d129 (oMv t0),
 kS d130 (oMv t1),
 kS d131 (oMv t16),
 kS d132 (oMv t3),
 kS d133 (oMv t4),
 kS d134 (oCall (gC (.func 101 [] [])) [t129, t130, t131, t132, t133])])
 (kRegion [kS d135 (oMv t16),
 kS d136 (oBin .add t135 (gI 1)),
 kS d1 (oMv t136)])))
 (kSeq (kRegion [kS d137 (oMv t19),
 kS d138 (oMv t20),
 kS d139 (oBin .geq t137 t138),
 kS d10 (oMv t139)])
 (kSeq (kRegion [kS d140 (oMv t0),
 kS d141 (oMv t16),
 kS d142 (oBin .add t141 (gI 1)),
 kS d143 (oMv t2),
 kS d144 (oMv t3),
 kS d145 (oMv t4),
 kS d146 (oCall (gC (.func 101 [] [])) [t140, t142, t143, t144, t145])])
 (kRegion [kS d147 (oMv t16),
 kS d2 (oMv t147)]))))))))))))))))))))))
theorem e101 : b101 = comp ir101.code := by kernel_rfl
def k101 : KF := ⟨148, b101, []⟩
def b102 : KC := (kSeq (kRegion [kS d2 (oMv (gI 0))])
 (kSeq (kCond (gC (.bool false)) (kSeq (kRegion [kS d3 (oMv t0),
 kS d4 (oGen (.conv .u32 (.t 3))),
 kS d5 (oCall (gC (.func 111 [] [])) [t4]),
 kS d2 (oMv t5)])
 kRet)
 kSkip)
 (kSeq (kRegion [kS d6 (oMv t0),
 kS d7 (oCall (gC (.func 112 [] [])) [t6]),
 kS d2 (oMv t7)])
 kRet)))
theorem e102 : b102 = comp ir102.code := by kernel_rfl
def k102 : KF := ⟨8, b102, [.tmp 2]⟩
def b103 : KC := (kSeq (kRegion [kS d10 (oMv t1),
 kS d11 (oBin .add t10 (gI 1)),
 kS d8 (oMv t11)])
 (kBlock 0 (kLoop (kSeq (kSeq (kRegion [kS d12 (oMv t8),
 kS d13 (oMv t2),
 kS d14 (oBin .lss t12 t13)])
 (kCond t14 kSkip
 (kExit 0)))
 (kSeq (kBlock 1 (kSeq (kRegion [kS d17 (oMv t8),
 kS d9 (oMv t17)])
 (kBlock 2 (kLoop (kSeq (kSeq (kDraw [⟨kS d18 (oMv t9), ⟨(some 18), (.mv (.t 9)), none⟩, false, [], []⟩,
 ⟨kS d19 (oMv t1), ⟨(some 19), (.mv (.t 1)), none⟩, false, [], []⟩,
 ⟨kS d20 (oBin .gtr t18 t19), ⟨(some 20), (.bin .gtr (.t 18) (.t 19)), none⟩, false, [], []⟩,
 ⟨kS d21 (oMv t20), ⟨(some 21), (.mv (.t 20)), none⟩, false, [], []⟩,
 ⟨kG t21 true d22 (oMv t3), ⟨(some 22), (.mv (.t 3)), (some (21, true))⟩, false, [], []⟩,
 ⟨kG t21 true d23 (oMv t0), ⟨(some 23), (.mv (.t 0)), (some (21, true))⟩, false, [], []⟩,
 ⟨kG t21 true d24 (oMv t9), ⟨(some 24), (.mv (.t 9)), (some (21, true))⟩, false, [], []⟩,
 ⟨kG t21 true d25 (oIa 2 t23 t24), ⟨(some 25), (.ia 2 (.t 23) (.t 24)), (some (21, true))⟩, false, [], []⟩,
 ⟨kG t21 true d26 (oLd true 2 t25), ⟨(some 26), (.ld true 2 (.t 25)), (some (21, true))⟩, false, [⟨(some 26), (.ld true 2 (.t 25)), (some (21, true))⟩], []⟩,
 ⟨kG t21 true d27 (oMv t0), ⟨(some 27), (.mv (.t 0)), (some (21, true))⟩, false, [], []⟩,
 ⟨kG t21 true d28 (oMv t9), ⟨(some 28), (.mv (.t 9)), (some (21, true))⟩, false, [], []⟩,
 ⟨kG t21 true d29 (oBin .sub t28 (gI 1)), ⟨(some 29), (.bin .sub (.t 28) (.c (.int .i64 1))), (some (21, true))⟩, false, [], []⟩,
 ⟨kG t21 true d30 (oIa 2 t27 t29), ⟨(some 30), (.ia 2 (.t 27) (.t 29)), (some (21, true))⟩, false, [], []⟩,
 ⟨kG t21 true d31 (oLd true 2 t30), ⟨(some 31), (.ld true 2 (.t 30)), (some (21, true))⟩, false, [⟨(some 31), (.ld true 2 (.t 30)), (some (21, true))⟩], []⟩,
 ⟨kG t21 true d32 (oCall t22 [t26, t31]), ⟨(some 32), (.call (.t 22) [(.t 26), (.t 31)]), (some (21, true))⟩, true, [], []⟩,
 ⟨kG t21 true d33 (oBin .lss t32 (gI 0)), ⟨(some 33), (.bin .lss (.t 32) (.c (.int .i64 0))), (some (21, true))⟩, false, [], []⟩,
 ⟨kS d34 (oPick t21 t33 (gC (.bool false))), ⟨(some 34), (.pick (.t 21) (.t 33) (.c (.bool false))), none⟩, false, [], []⟩])
 (kCond t34 kSkip
 (kExit 2)))
 (kSeq (kBlock 3 (kDraw [⟨kS d37 (oMv t0), ⟨(some 37), (.mv (.t 0)), none⟩, false, [], []⟩,
 ⟨kS d38 (oMv t9), ⟨(some 38), (.mv (.t 9)), none⟩, false, [], []⟩,
 ⟨kS d39 (oMv t0), ⟨(some 39), (.mv (.t 0)), none⟩, false, [], []⟩,
 ⟨kS d40 (oMv t9), ⟨(some 40), (.mv (.t 9)), none⟩, false, [], []⟩,
 ⟨kS d41 (oBin .sub t40 (gI 1)), ⟨(some 41), (.bin .sub (.t 40) (.c (.int .i64 1))), none⟩, false, [], []⟩,
 ⟨kS d42 (oMv t0), ⟨(some 42), (.mv (.t 0)), none⟩, false, [], []⟩,
 ⟨kS d43 (oMv t9), ⟨(some 43), (.mv (.t 9)), none⟩, false, [], []⟩,
 ⟨kS d44 (oBin .sub t43 (gI 1)), ⟨(some 44), (.bin .sub (.t 43) (.c (.int .i64 1))), none⟩, false, [], []⟩,
 ⟨kS d45 (oIa 2 t42 t44), ⟨(some 45), (.ia 2 (.t 42) (.t 44)), none⟩, false, [], []⟩,
 ⟨kS d46 (oLd true 2 t45), ⟨(some 46), (.ld true 2 (.t 45)), none⟩, false, [⟨(some 46), (.ld true 2 (.t 45)), none⟩], []⟩,
 ⟨kS d47 (oMv t0), ⟨(some 47), (.mv (.t 0)), none⟩, false, [], []⟩,
 ⟨kS d48 (oMv t9), ⟨(some 48), (.mv (.t 9)), none⟩, false, [], []⟩,
 ⟨kS d49 (oIa 2 t47 t48), ⟨(some 49), (.ia 2 (.t 47) (.t 48)), none⟩, false, [], []⟩,
 ⟨kS d50 (oLd true 2 t49), ⟨(some 50), (.ld true 2 (.t 49)), none⟩, false, [⟨(some 50), (.ld true 2 (.t 49)), none⟩], []⟩,
 ⟨kS d51 (oIa 2 t37 t38), ⟨(some 51), (.ia 2 (.t 37) (.t 38)), none⟩, false, [], []⟩,
 ⟨kN (oSt 2 t51 t46), ⟨none, (.st 2 (.t 51) (.t 46)), none⟩, true, [], []⟩,
 ⟨kS d52 (oIa 2 t39 t41), ⟨(some 52), (.ia 2 (.t 39) (.t 41)), none⟩, false, [], []⟩,
 ⟨kN (oSt 2 t52 t50), ⟨none, (.st 2 (.t 52) (.t 50)), none⟩, true, [], []⟩]))
 (kRegion [kS d35 (oMv t9),
 kS d36 (oBin .sub t35 (gI 1)),
 kS d9 (oMv t36)])))))))
 (kRegion [kS d15 (oMv t8),
 kS d16 (oBin .add t15 (gI 1)),
 kS d8 (oMv t16)]))))))
theorem e103 : b103 = comp ir103.code := by kernel_rfl
def k103 : KF := ⟨53, b103, []⟩
def b112 : KC := (kSeq (kRegion [kS d2 (oMv (gI 0))])
 (kSeq (kSeq (kRegion [kS d3 (oMv t0),
 kS d4 (oBin .geq t3 (gC (.int .u64 4294967296)))])
 (kCond t4 (kSeq (kRegion [kS d5 (oMv t0),
 kS d6 (oBin .shr t5 (gC (.int .u64 32))),
 kS d0 (oMv t6)])
 (kRegion [kS d2 (oMv (gI 32))]))
 kSkip))
 (kSeq (kSeq (kRegion [kS d7 (oMv t0),
 kS d8 (oBin .geq t7 (gC (.int .u64 65536)))])
 (kCond t8 (kSeq (kRegion [kS d9 (oMv t0),
 kS d10 (oBin .shr t9 (gC (.int .u64 16))),
 kS d0 (oMv t10)])
 (kRegion [kS d11 (oMv t2),
 kS d12 (oBin .add t11 (gI 16)),
 kS d2 (oMv t12)]))
 kSkip))
 (kSeq (kSeq (kRegion [kS d13 (oMv t0),
 kS d14 (oBin .geq t13 (gC (.int .u64 256)))])
 (kCond t14 (kSeq (kRegion [kS d15 (oMv t0),
 kS d16 (oBin .shr t15 (gC (.int .u64 8))),
 kS d0 (oMv t16)])
 (kRegion [kS d17 (oMv t2),
 kS d18 (oBin .add t17 (gI 8)),
 kS d2 (oMv t18)]))
 kSkip))
 (kSeq (kRegion [kS d19 (oMv t2),
 kS d20 (oMv t0),
 kS d21 (oGen (.conv .u8 (.t 20))),
 kS d22 (oIxs (gC (.str [0, 1, 2, 2, 3, 3, 3, 3, 4, 4, 4, 4, 4, 4, 4, 4, 5, 5, 5, 5, 5, 5, 5, 5, 5, 5, 5, 5, 5, 5, 5, 5, 6, 6, 6, 6, 6, 6, 6, 6, 6, 6, 6, 6, 6, 6, 6, 6, 6, 6, 6, 6, 6, 6, 6, 6, 6, 6, 6, 6, 6, 6, 6, 6, 7, 7, 7, 7, 7, 7, 7, 7, 7, 7, 7, 7, 7, 7, 7, 7, 7, 7, 7, 7, 7, 7, 7, 7, 7, 7, 7, 7, 7, 7, 7, 7, 7, 7, 7, 7, 7, 7, 7, 7, 7, 7, 7, 7, 7, 7, 7, 7, 7, 7, 7, 7, 7, 7, 7, 7, 7, 7, 7, 7, 7, 7, 7, 7, 8, 8, 8, 8, 8, 8, 8, 8, 8, 8, 8, 8, 8, 8, 8, 8, 8, 8, 8, 8, 8, 8, 8, 8, 8, 8, 8, 8, 8, 8, 8, 8, 8, 8, 8, 8, 8, 8, 8, 8, 8, 8, 8, 8, 8, 8, 8, 8, 8, 8, 8, 8, 8, 8, 8, 8, 8, 8, 8, 8, 8, 8, 8, 8, 8, 8, 8, 8, 8, 8, 8, 8, 8, 8, 8, 8, 8, 8, 8, 8, 8, 8, 8, 8, 8, 8, 8, 8, 8, 8, 8, 8, 8, 8, 8, 8, 8, 8, 8, 8, 8, 8, 8, 8, 8, 8, 8, 8, 8, 8, 8, 8, 8, 8, 8, 8, 8, 8, 8, 8, 8, 8, 8, 8, 8, 8, 8, 8])) t21),
 kS d23 (oGen (.conv .i64 (.t 22))),
 kS d24 (oBin .add t19 t23),
 kS d2 (oMv t24)])
 kRet)))))
theorem e112 : b112 = comp ir112.code := by kernel_rfl
def k112 : KF := ⟨25, b112, [.tmp 2]⟩
def tk : Nat → Option KF
  | 7 => some k7
  | 12 => some k12
  | 17 => some k17
  | 22 => some k22
  | 27 => some k27
  | 29 => some k29
  | 31 => some k31
  | 36 => some k36
  | 38 => some k38
  | 39 => some k39
  | 40 => some k40
  | 41 => some k41
  | 42 => some k42
  | 43 => some k43
  | 44 => some k44
  | 45 => some k45
  | 46 => some k46
  | 47 => some k47
  | 48 => some k48
  | 49 => some k49
  | 53 => some k53
  | 54 => some k54
  | 55 => some k55
  | 58 => some k58
  | 63 => some k63
  | 64 => some k64
  | 65 => some k65
  | 66 => some k66
  | 67 => some k67
  | 70 => some k70
  | 71 => some k71
  | 72 => some k72
  | 73 => some k73
  | 74 => some k74
  | 75 => some k75
  | 76 => some k76
  | 77 => some k77
  | 78 => some k78
  | 79 => some k79
  | 80 => some k80
  | 81 => some k81
  | 82 => some k82
  | 87 => some k87
  | 88 => some k88
  | 89 => some k89
  | 90 => some k90
  | 91 => some k91
  | 96 => some k96
  | 97 => some k97
  | 98 => some k98
  | 99 => some k99
  | 100 => some k100
  | 101 => some k101
  | 102 => some k102
  | 103 => some k103
  | 112 => some k112
  | _ => none
end
theorem tkOk : TabS tk (tblA : FT S16) := by
  refine ⟨fun _ _ _ => rfl, fun f kf h => ?_⟩
  unfold tk at h
  split at h
  · cases h; exact ⟨ir7, rfl, by show KF.mk _ b7 _ = _; rw [e7]; rfl⟩
  · cases h; exact ⟨ir12, rfl, by show KF.mk _ b12 _ = _; rw [e12]; rfl⟩
  · cases h; exact ⟨ir17, rfl, by show KF.mk _ b17 _ = _; rw [e17]; rfl⟩
  · cases h; exact ⟨ir22, rfl, by show KF.mk _ b22 _ = _; rw [e22]; rfl⟩
  · cases h; exact ⟨ir27, rfl, by show KF.mk _ b27 _ = _; rw [e27]; rfl⟩
  · cases h; exact ⟨ir29, rfl, by show KF.mk _ b29 _ = _; rw [e29]; rfl⟩
  · cases h; exact ⟨ir31, rfl, by show KF.mk _ b31 _ = _; rw [e31]; rfl⟩
  · cases h; exact ⟨ir36, rfl, by show KF.mk _ b36 _ = _; rw [e36]; rfl⟩
  · cases h; exact ⟨ir38, rfl, by show KF.mk _ b38 _ = _; rw [e38]; rfl⟩
  · cases h; exact ⟨ir39, rfl, by show KF.mk _ b39 _ = _; rw [e39]; rfl⟩
  · cases h; exact ⟨ir40, rfl, by show KF.mk _ b40 _ = _; rw [e40]; rfl⟩
  · cases h; exact ⟨ir41, rfl, by show KF.mk _ b41 _ = _; rw [e41]; rfl⟩
  · cases h; exact ⟨ir42, rfl, by show KF.mk _ b42 _ = _; rw [e42]; rfl⟩
  · cases h; exact ⟨ir43, rfl, by show KF.mk _ b43 _ = _; rw [e43]; rfl⟩
  · cases h; exact ⟨ir44, rfl, by show KF.mk _ b44 _ = _; rw [e44]; rfl⟩
  · cases h; exact ⟨ir45, rfl, by show KF.mk _ b45 _ = _; rw [e45]; rfl⟩
  · cases h; exact ⟨ir46, rfl, by show KF.mk _ b46 _ = _; rw [e46]; rfl⟩
  · cases h; exact ⟨ir47, rfl, by show KF.mk _ b47 _ = _; rw [e47]; rfl⟩
  · cases h; exact ⟨ir48, rfl, by show KF.mk _ b48 _ = _; rw [e48]; rfl⟩
  · cases h; exact ⟨ir49, rfl, by show KF.mk _ b49 _ = _; rw [e49]; rfl⟩
  · cases h; exact ⟨ir53, rfl, by show KF.mk _ b53 _ = _; rw [e53]; rfl⟩
  · cases h; exact ⟨ir54, rfl, by show KF.mk _ b54 _ = _; rw [e54]; rfl⟩
  · cases h; exact ⟨ir55, rfl, by show KF.mk _ b55 _ = _; rw [e55]; rfl⟩
  · cases h; exact ⟨ir58, rfl, by show KF.mk _ b58 _ = _; rw [e58]; rfl⟩
  · cases h; exact ⟨ir63, rfl, by show KF.mk _ b63 _ = _; rw [e63]; rfl⟩
  · cases h; exact ⟨ir64, rfl, by show KF.mk _ b64 _ = _; rw [e64]; rfl⟩
  · cases h; exact ⟨ir65, rfl, by show KF.mk _ b65 _ = _; rw [e65]; rfl⟩
  · cases h; exact ⟨ir66, rfl, by show KF.mk _ b66 _ = _; rw [e66]; rfl⟩
  · cases h; exact ⟨ir67, rfl, by show KF.mk _ b67 _ = _; rw [e67]; rfl⟩
  · cases h; exact ⟨ir70, rfl, by show KF.mk _ b70 _ = _; rw [e70]; rfl⟩
  · cases h; exact ⟨ir71, rfl, by show KF.mk _ b71 _ = _; rw [e71]; rfl⟩
  · cases h; exact ⟨ir72, rfl, by show KF.mk _ b72 _ = _; rw [e72]; rfl⟩
  · cases h; exact ⟨ir73, rfl, by show KF.mk _ b73 _ = _; rw [e73]; rfl⟩
  · cases h; exact ⟨ir74, rfl, by show KF.mk _ b74 _ = _; rw [e74]; rfl⟩
  · cases h; exact ⟨ir75, rfl, by show KF.mk _ b75 _ = _; rw [e75]; rfl⟩
  · cases h; exact ⟨ir76, rfl, by show KF.mk _ b76 _ = _; rw [e76]; rfl⟩
  · cases h; exact ⟨ir77, rfl, by show KF.mk _ b77 _ = _; rw [e77]; rfl⟩
  · cases h; exact ⟨ir78, rfl, by show KF.mk _ b78 _ = _; rw [e78]; rfl⟩
  · cases h; exact ⟨ir79, rfl, by show KF.mk _ b79 _ = _; rw [e79]; rfl⟩
  · cases h; exact ⟨ir80, rfl, by show KF.mk _ b80 _ = _; rw [e80]; rfl⟩
  · cases h; exact ⟨ir81, rfl, by show KF.mk _ b81 _ = _; rw [e81]; rfl⟩
  · cases h; exact ⟨ir82, rfl, by show KF.mk _ b82 _ = _; rw [e82]; rfl⟩
  · cases h; exact ⟨ir87, rfl, by show KF.mk _ b87 _ = _; rw [e87]; rfl⟩
  · cases h; exact ⟨ir88, rfl, by show KF.mk _ b88 _ = _; rw [e88]; rfl⟩
  · cases h; exact ⟨ir89, rfl, by show KF.mk _ b89 _ = _; rw [e89]; rfl⟩
  · cases h; exact ⟨ir90, rfl, by show KF.mk _ b90 _ = _; rw [e90]; rfl⟩
  · cases h; exact ⟨ir91, rfl, by show KF.mk _ b91 _ = _; rw [e91]; rfl⟩
  · cases h; exact ⟨ir96, rfl, by show KF.mk _ b96 _ = _; rw [e96]; rfl⟩
  · cases h; exact ⟨ir97, rfl, by show KF.mk _ b97 _ = _; rw [e97]; rfl⟩
  · cases h; exact ⟨ir98, rfl, by show KF.mk _ b98 _ = _; rw [e98]; rfl⟩
  · cases h; exact ⟨ir99, rfl, by show KF.mk _ b99 _ = _; rw [e99]; rfl⟩
  · cases h; exact ⟨ir100, rfl, by show KF.mk _ b100 _ = _; rw [e100]; rfl⟩
  · cases h; exact ⟨ir101, rfl, by show KF.mk _ b101 _ = _; rw [e101]; rfl⟩
  · cases h; exact ⟨ir102, rfl, by show KF.mk _ b102 _ = _; rw [e102]; rfl⟩
  · cases h; exact ⟨ir103, rfl, by show KF.mk _ b103 _ = _; rw [e103]; rfl⟩
  · cases h; exact ⟨ir112, rfl, by show KF.mk _ b112 _ = _; rw [e112]; rfl⟩
  · cases h
end Go.Ax.Kr
end
section
namespace Go.Ax.Kr
open Go.Ax.Ir Go.Ax.K
set_option maxRecDepth 100000
noncomputable section
def lv0 : LB := [(0, ar [.slice 14 0 4 none 4, .slice 21 0 3 none 2, iv 1]),
 (1, ar [iv 1, iv 0, iv 2, iv 3]),
 (2, ar [iv 0, iv 1, iv 3, iv (-1)]),
 (3, .arr [.str [97], .str [98], .str [99], .str [100]] {}),
 (4, .arr [.str [97], iv 1, .bool false, iv 0] {}),
 (6, .arr [.str [97], .str [98], .str [99], .str [100]] {}),
 (7, .arr [.str [98], iv 0, .bool false, iv 1] {}),
 (9, .arr [.str [97], .str [98], .str [99], .str [100]] {}),
 (10, .arr [.str [99], iv 2, .bool false, iv 3] {}),
 (12, .arr [.str [97], .str [98], .str [99], .str [100]] {}),
 (13, .arr [.str [100], iv 3, .bool false, iv (-1)] {}),
 (14, .arr [.str [97], iv 1, .bool false, iv 0, .str [98], iv 0, .bool false, iv 1, .str [99], iv 2, .bool false, iv 3, .str [100], iv 3, .bool true, iv (-1)] {}),
 (15, ar [iv 0, iv 1, iv 1, iv 2, iv 2, iv 3]),
 (16, ar [iv 0, iv 1]),
 (18, ar [iv 1, iv 2]),
 (20, ar [iv 2, iv 3]),
 (21, ar [iv 0, iv 1, iv 1, iv 2, iv 2, iv 3]),
 (22, ar [.slice 14 0 4 none 4, .slice 21 0 3 none 2, iv 1]),
 (23, ar [.slice 37 0 4 none 4, .slice 44 0 3 none 2, iv (-1)]),
 (24, ar [iv 1, iv 0, iv 2, iv 3]),
 (25, ar [iv 0, iv 1, iv 3, iv (-1)]),
 (26, .arr [.str [97], .str [98], .str [99], .str [100]] {}),
 (27, .arr [.str [97], iv 1, .bool false, iv 0] {}),
 (29, .arr [.str [97], .str [98], .str [99], .str [100]] {}),
 (30, .arr [.str [98], iv 0, .bool false, iv 1] {}),
 (32, .arr [.str [97], .str [98], .str [99], .str [100]] {}),
 (33, .arr [.str [99], iv 2, .bool false, iv 3] {}),
 (35, .arr [.str [97], .str [98], .str [99], .str [100]] {}),
 (36, .arr [.str [100], iv 3, .bool false, iv (-1)] {}),
 (37, .arr [.str [97], iv 1, .bool false, iv 0, .str [98], iv 0, .bool false, iv 1, .str [99], iv 2, .bool false, iv 3, .str [100], iv 3, .bool true, iv (-1)] {}),
 (38, ar [iv 0, iv 1, iv 1, iv 2, iv 2, iv 3]),
 (39, ar [iv 0, iv 1]),
 (41, ar [iv 1, iv 2]),
 (43, ar [iv 2, iv 3]),
 (44, ar [iv 0, iv 1, iv 1, iv 2, iv 2, iv 3]),
 (45, ar [.slice 37 0 4 none 4, .slice 44 0 3 none 2, iv (-1)]),
 (46, ar [.slice 60 0 4 none 4, .slice 73 0 6 none 2, iv (-1)]),
 (47, ar [iv 1, iv 2, iv 0, iv 3]),
 (48, ar [iv 0, iv 1, iv 2, iv 3]),
 (49, .arr [.str [97], .str [98], .str [99], .str [100]] {}),
 (50, .arr [.str [97], iv 1, .bool false, iv 0] {}),
 (52, .arr [.str [97], .str [98], .str [99], .str [100]] {}),
 (53, .arr [.str [98], iv 2, .bool false, iv 1] {}),
 (55, .arr [.str [97], .str [98], .str [99], .str [100]] {}),
 (56, .arr [.str [99], iv 0, .bool false, iv 2] {}),
 (58, .arr [.str [97], .str [98], .str [99], .str [100]] {}),
 (59, .arr [.str [100], iv 3, .bool false, iv 3] {}),
 (60, .arr [.str [97], iv 1, .bool false, iv 0, .str [98], iv 2, .bool false, iv 1, .str [99], iv 0, .bool false, iv 2, .str [100], iv 3, .bool false, iv 3] {}),
 (61, ar [iv 0, iv 1, iv 0, iv 2, iv 0, iv 3, iv 1, iv 2, iv 1, iv 3, iv 2, iv 3]),
 (62, ar [iv 0, iv 1]),
 (64, ar [iv 0, iv 2]),
 (66, ar [iv 0, iv 3]),
 (68, ar [iv 1, iv 2]),
 (70, ar [iv 1, iv 3]),
 (72, ar [iv 2, iv 3]),
 (73, ar [iv 0, iv 1, iv 0, iv 2, iv 0, iv 3, iv 1, iv 2, iv 1, iv 3, iv 2, iv 3]),
 (74, ar [.slice 14 0 4 none 4, .slice 21 0 3 none 2, iv 1]),
 (75, ar [.slice 37 0 4 none 4, .slice 44 0 3 none 2, iv (-1)]),
 (76, ar [.slice 60 0 4 none 4, .slice 73 0 6 none 2, iv (-1)])]
def lv1 : LB := [(0, ar [.slice 14 0 4 none 4, .slice 21 0 3 none 2, iv 1]),
 (1, ar [iv 1, iv 0, iv 2, iv 3]),
 (2, ar [iv 0, iv 1, iv 3, iv (-1)]),
 (3, .arr [.str [97], .str [98], .str [99], .str [100]] {}),
 (4, .arr [.str [97], iv 1, .bool false, iv 0] {}),
 (6, .arr [.str [97], .str [98], .str [99], .str [100]] {}),
 (7, .arr [.str [98], iv 0, .bool false, iv 1] {}),
 (9, .arr [.str [97], .str [98], .str [99], .str [100]] {}),
 (10, .arr [.str [99], iv 2, .bool false, iv 3] {}),
 (12, .arr [.str [97], .str [98], .str [99], .str [100]] {}),
 (13, .arr [.str [100], iv 3, .bool false, iv (-1)] {}),
 (14, .arr [.str [97], iv 1, .bool false, iv 0, .str [98], iv 0, .bool false, iv 1, .str [99], iv 2, .bool false, iv 3, .str [100], iv 3, .bool true, iv (-1)] {}),
 (15, ar [iv 0, iv 1, iv 1, iv 2, iv 2, iv 3]),
 (16, ar [iv 0, iv 1]),
 (18, ar [iv 1, iv 2]),
 (20, ar [iv 2, iv 3]),
 (21, ar [iv 0, iv 1, iv 1, iv 2, iv 2, iv 3]),
 (22, ar [.slice 14 0 4 none 4, .slice 21 0 3 none 2, iv 1]),
 (23, ar [.slice 37 0 4 none 4, .slice 44 0 3 none 2, iv (-1)]),
 (24, ar [iv 1, iv 0, iv 2, iv 3]),
 (25, ar [iv 0, iv 1, iv 3, iv (-1)]),
 (26, .arr [.str [97], .str [98], .str [99], .str [100]] {}),
 (27, .arr [.str [97], iv 1, .bool false, iv 0] {}),
 (29, .arr [.str [97], .str [98], .str [99], .str [100]] {}),
 (30, .arr [.str [98], iv 0, .bool false, iv 1] {}),
 (32, .arr [.str [97], .str [98], .str [99], .str [100]] {}),
 (33, .arr [.str [99], iv 2, .bool false, iv 3] {}),
 (35, .arr [.str [97], .str [98], .str [99], .str [100]] {}),
 (36, .arr [.str [100], iv 3, .bool false, iv (-1)] {}),
 (37, .arr [.str [97], iv 1, .bool false, iv 0, .str [98], iv 0, .bool false, iv 1, .str [99], iv 2, .bool false, iv 3, .str [100], iv 3, .bool true, iv (-1)] {}),
 (38, ar [iv 0, iv 1, iv 1, iv 2, iv 2, iv 3]),
 (39, ar [iv 0, iv 1]),
 (41, ar [iv 1, iv 2]),
 (43, ar [iv 2, iv 3]),
 (44, ar [iv 0, iv 1, iv 1, iv 2, iv 2, iv 3]),
 (45, ar [.slice 37 0 4 none 4, .slice 44 0 3 none 2, iv (-1)]),
 (46, ar [.slice 60 0 4 none 4, .slice 73 0 6 none 2, iv (-1)]),
 (47, ar [iv 1, iv 2, iv 0, iv 3]),
 (48, ar [iv 0, iv 1, iv 2, iv 3]),
 (49, .arr [.str [97], .str [98], .str [99], .str [100]] {}),
 (50, .arr [.str [97], iv 1, .bool false, iv 0] {}),
 (52, .arr [.str [97], .str [98], .str [99], .str [100]] {}),
 (53, .arr [.str [98], iv 2, .bool false, iv 1] {}),
 (55, .arr [.str [97], .str [98], .str [99], .str [100]] {}),
 (56, .arr [.str [99], iv 0, .bool false, iv 2] {}),
 (58, .arr [.str [97], .str [98], .str [99], .str [100]] {}),
 (59, .arr [.str [100], iv 3, .bool false, iv 3] {}),
 (60, .arr [.str [97], iv 1, .bool false, iv 0, .str [98], iv 2, .bool false, iv 1, .str [99], iv 0, .bool false, iv 2, .str [100], iv 3, .bool false, iv 3] {}),
 (61, ar [iv 0, iv 1, iv 0, iv 2, iv 0, iv 3, iv 1, iv 2, iv 1, iv 3, iv 2, iv 3]),
 (62, ar [iv 0, iv 1]),
 (64, ar [iv 0, iv 2]),
 (66, ar [iv 0, iv 3]),
 (68, ar [iv 1, iv 2]),
 (70, ar [iv 1, iv 3]),
 (72, ar [iv 2, iv 3]),
 (73, ar [iv 0, iv 1, iv 0, iv 2, iv 0, iv 3, iv 1, iv 2, iv 1, iv 3, iv 2, iv 3]),
 (74, ar [.slice 14 0 4 none 4, .slice 21 0 3 none 2, iv 1]),
 (75, ar [.slice 37 0 4 none 4, .slice 44 0 3 none 2, iv (-1)]),
 (76, ar [.slice 60 0 4 none 4, .slice 73 0 6 none 2, iv (-1)]),
 (161, ar [iv 0, iv 1, iv 2])]
def en0 : Ent := ⟨12, [.agg [.slice 14 0 4 none 4, .slice 21 0 3 none 2, iv 1]], 77, lv0, .tup [.slice 161 0 3 none 1, iv 0], 163, lv1⟩
def lv2 : LB := [(0, ar [.slice 14 0 4 none 4, .slice 21 0 3 none 2, iv 1]),
 (1, ar [iv 1, iv 0, iv 2, iv 3]),
 (2, ar [iv 0, iv 1, iv 3, iv (-1)]),
 (3, .arr [.str [97], .str [98], .str [99], .str [100]] {}),
 (4, .arr [.str [97], iv 1, .bool false, iv 0] {}),
 (6, .arr [.str [97], .str [98], .str [99], .str [100]] {}),
 (7, .arr [.str [98], iv 0, .bool false, iv 1] {}),
 (9, .arr [.str [97], .str [98], .str [99], .str [100]] {}),
 (10, .arr [.str [99], iv 2, .bool false, iv 3] {}),
 (12, .arr [.str [97], .str [98], .str [99], .str [100]] {}),
 (13, .arr [.str [100], iv 3, .bool false, iv (-1)] {}),
 (14, .arr [.str [97], iv 1, .bool false, iv 0, .str [98], iv 0, .bool false, iv 1, .str [99], iv 2, .bool false, iv 3, .str [100], iv 3, .bool true, iv (-1)] {}),
 (15, ar [iv 0, iv 1, iv 1, iv 2, iv 2, iv 3]),
 (16, ar [iv 0, iv 1]),
 (18, ar [iv 1, iv 2]),
 (20, ar [iv 2, iv 3]),
 (21, ar [iv 0, iv 1, iv 1, iv 2, iv 2, iv 3]),
 (22, ar [.slice 14 0 4 none 4, .slice 21 0 3 none 2, iv 1]),
 (23, ar [.slice 37 0 4 none 4, .slice 44 0 3 none 2, iv (-1)]),
 (24, ar [iv 1, iv 0, iv 2, iv 3]),
 (25, ar [iv 0, iv 1, iv 3, iv (-1)]),
 (26, .arr [.str [97], .str [98], .str [99], .str [100]] {}),
 (27, .arr [.str [97], iv 1, .bool false, iv 0] {}),
 (29, .arr [.str [97], .str [98], .str [99], .str [100]] {}),
 (30, .arr [.str [98], iv 0, .bool false, iv 1] {}),
 (32, .arr [.str [97], .str [98], .str [99], .str [100]] {}),
 (33, .arr [.str [99], iv 2, .bool false, iv 3] {}),
 (35, .arr [.str [97], .str [98], .str [99], .str [100]] {}),
 (36, .arr [.str [100], iv 3, .bool false, iv (-1)] {}),
 (37, .arr [.str [97], iv 1, .bool false, iv 0, .str [98], iv 0, .bool false, iv 1, .str [99], iv 2, .bool false, iv 3, .str [100], iv 3, .bool true, iv (-1)] {}),
 (38, ar [iv 0, iv 1, iv 1, iv 2, iv 2, iv 3]),
 (39, ar [iv 0, iv 1]),
 (41, ar [iv 1, iv 2]),
 (43, ar [iv 2, iv 3]),
 (44, ar [iv 0, iv 1, iv 1, iv 2, iv 2, iv 3]),
 (45, ar [.slice 37 0 4 none 4, .slice 44 0 3 none 2, iv (-1)]),
 (46, ar [.slice 60 0 4 none 4, .slice 73 0 6 none 2, iv (-1)]),
 (47, ar [iv 1, iv 2, iv 0, iv 3]),
 (48, ar [iv 0, iv 1, iv 2, iv 3]),
 (49, .arr [.str [97], .str [98], .str [99], .str [100]] {}),
 (50, .arr [.str [97], iv 1, .bool false, iv 0] {}),
 (52, .arr [.str [97], .str [98], .str [99], .str [100]] {}),
 (53, .arr [.str [98], iv 2, .bool false, iv 1] {}),
 (55, .arr [.str [97], .str [98], .str [99], .str [100]] {}),
 (56, .arr [.str [99], iv 0, .bool false, iv 2] {}),
 (58, .arr [.str [97], .str [98], .str [99], .str [100]] {}),
 (59, .arr [.str [100], iv 3, .bool false, iv 3] {}),
 (60, .arr [.str [97], iv 1, .bool false, iv 0, .str [98], iv 2, .bool false, iv 1, .str [99], iv 0, .bool false, iv 2, .str [100], iv 3, .bool false, iv 3] {}),
 (61, ar [iv 0, iv 1, iv 0, iv 2, iv 0, iv 3, iv 1, iv 2, iv 1, iv 3, iv 2, iv 3]),
 (62, ar [iv 0, iv 1]),
 (64, ar [iv 0, iv 2]),
 (66, ar [iv 0, iv 3]),
 (68, ar [iv 1, iv 2]),
 (70, ar [iv 1, iv 3]),
 (72, ar [iv 2, iv 3]),
 (73, ar [iv 0, iv 1, iv 0, iv 2, iv 0, iv 3, iv 1, iv 2, iv 1, iv 3, iv 2, iv 3]),
 (74, ar [.slice 14 0 4 none 4, .slice 21 0 3 none 2, iv 1]),
 (75, ar [.slice 37 0 4 none 4, .slice 44 0 3 none 2, iv (-1)]),
 (76, ar [.slice 60 0 4 none 4, .slice 73 0 6 none 2, iv (-1)]),
 (161, ar [iv 0, iv 1, iv 2]),
 (163, ar [iv 2, iv 3, iv 1, iv 2, iv 1, iv 1]),
 (164, ar [iv 2, iv 3]),
 (166, ar [iv 1, iv 2]),
 (168, ar [iv 1, iv 1]),
 (169, ar [iv 2, iv 3, iv 1, iv 2, iv 1, iv 1])]
def lv3 : LB := [(0, ar [.slice 14 0 4 none 4, .slice 21 0 3 none 2, iv 1]),
 (1, ar [iv 1, iv 0, iv 2, iv 3]),
 (2, ar [iv 0, iv 1, iv 3, iv (-1)]),
 (3, .arr [.str [97], .str [98], .str [99], .str [100]] {}),
 (4, .arr [.str [97], iv 1, .bool false, iv 0] {}),
 (6, .arr [.str [97], .str [98], .str [99], .str [100]] {}),
 (7, .arr [.str [98], iv 0, .bool false, iv 1] {}),
 (9, .arr [.str [97], .str [98], .str [99], .str [100]] {}),
 (10, .arr [.str [99], iv 2, .bool false, iv 3] {}),
 (12, .arr [.str [97], .str [98], .str [99], .str [100]] {}),
 (13, .arr [.str [100], iv 3, .bool false, iv (-1)] {}),
 (14, .arr [.str [97], iv 1, .bool false, iv 0, .str [98], iv 0, .bool false, iv 1, .str [99], iv 2, .bool false, iv 3, .str [100], iv 3, .bool true, iv (-1)] {}),
 (15, ar [iv 0, iv 1, iv 1, iv 2, iv 2, iv 3]),
 (16, ar [iv 0, iv 1]),
 (18, ar [iv 1, iv 2]),
 (20, ar [iv 2, iv 3]),
 (21, ar [iv 0, iv 1, iv 1, iv 2, iv 2, iv 3]),
 (22, ar [.slice 14 0 4 none 4, .slice 21 0 3 none 2, iv 1]),
 (23, ar [.slice 37 0 4 none 4, .slice 44 0 3 none 2, iv (-1)]),
 (24, ar [iv 1, iv 0, iv 2, iv 3]),
 (25, ar [iv 0, iv 1, iv 3, iv (-1)]),
 (26, .arr [.str [97], .str [98], .str [99], .str [100]] {}),
 (27, .arr [.str [97], iv 1, .bool false, iv 0] {}),
 (29, .arr [.str [97], .str [98], .str [99], .str [100]] {}),
 (30, .arr [.str [98], iv 0, .bool false, iv 1] {}),
 (32, .arr [.str [97], .str [98], .str [99], .str [100]] {}),
 (33, .arr [.str [99], iv 2, .bool false, iv 3] {}),
 (35, .arr [.str [97], .str [98], .str [99], .str [100]] {}),
 (36, .arr [.str [100], iv 3, .bool false, iv (-1)] {}),
 (37, .arr [.str [97], iv 1, .bool false, iv 0, .str [98], iv 0, .bool false, iv 1, .str [99], iv 2, .bool false, iv 3, .str [100], iv 3, .bool true, iv (-1)] {}),
 (38, ar [iv 0, iv 1, iv 1, iv 2, iv 2, iv 3]),
 (39, ar [iv 0, iv 1]),
 (41, ar [iv 1, iv 2]),
 (43, ar [iv 2, iv 3]),
 (44, ar [iv 0, iv 1, iv 1, iv 2, iv 2, iv 3]),
 (45, ar [.slice 37 0 4 none 4, .slice 44 0 3 none 2, iv (-1)]),
 (46, ar [.slice 60 0 4 none 4, .slice 73 0 6 none 2, iv (-1)]),
 (47, ar [iv 1, iv 2, iv 0, iv 3]),
 (48, ar [iv 0, iv 1, iv 2, iv 3]),
 (49, .arr [.str [97], .str [98], .str [99], .str [100]] {}),
 (50, .arr [.str [97], iv 1, .bool false, iv 0] {}),
 (52, .arr [.str [97], .str [98], .str [99], .str [100]] {}),
 (53, .arr [.str [98], iv 2, .bool false, iv 1] {}),
 (55, .arr [.str [97], .str [98], .str [99], .str [100]] {}),
 (56, .arr [.str [99], iv 0, .bool false, iv 2] {}),
 (58, .arr [.str [97], .str [98], .str [99], .str [100]] {}),
 (59, .arr [.str [100], iv 3, .bool false, iv 3] {}),
 (60, .arr [.str [97], iv 1, .bool false, iv 0, .str [98], iv 2, .bool false, iv 1, .str [99], iv 0, .bool false, iv 2, .str [100], iv 3, .bool false, iv 3] {}),
 (61, ar [iv 0, iv 1, iv 0, iv 2, iv 0, iv 3, iv 1, iv 2, iv 1, iv 3, iv 2, iv 3]),
 (62, ar [iv 0, iv 1]),
 (64, ar [iv 0, iv 2]),
 (66, ar [iv 0, iv 3]),
 (68, ar [iv 1, iv 2]),
 (70, ar [iv 1, iv 3]),
 (72, ar [iv 2, iv 3]),
 (73, ar [iv 0, iv 1, iv 0, iv 2, iv 0, iv 3, iv 1, iv 2, iv 1, iv 3, iv 2, iv 3]),
 (74, ar [.slice 14 0 4 none 4, .slice 21 0 3 none 2, iv 1]),
 (75, ar [.slice 37 0 4 none 4, .slice 44 0 3 none 2, iv (-1)]),
 (76, ar [.slice 60 0 4 none 4, .slice 73 0 6 none 2, iv (-1)]),
 (161, ar [iv 0, iv 1, iv 2]),
 (163, ar [iv 2, iv 3, iv 1, iv 2, iv 1, iv 1]),
 (164, ar [iv 2, iv 3]),
 (166, ar [iv 1, iv 2]),
 (168, ar [iv 1, iv 1]),
 (169, ar [iv 2, iv 3, iv 1, iv 2, iv 1, iv 1]),
 (266, .arr [.str [97], iv 1, .bool false, iv 0, .str [98], iv 3, .bool false, iv 1, .str [99], iv 0, .bool false, iv 3, .str [100], iv 2, .bool false, iv (-1)] {}),
 (268, ar [iv 0, iv 1, iv 1, iv 2, iv 2, iv 3])]
def en1 : Ent := ⟨17, [.agg [.slice 14 0 4 none 4, .slice 21 0 3 none 2, iv 1], .slice 169 0 3 none 2], 170, lv2, .tup [.agg [.slice 266 0 4 none 4, .slice 268 0 3 none 2, iv 1], iv 0], 269, lv3⟩
def lv4 : LB := [(0, ar [.slice 14 0 4 none 4, .slice 21 0 3 none 2, iv 1]),
 (1, ar [iv 1, iv 0, iv 2, iv 3]),
 (2, ar [iv 0, iv 1, iv 3, iv (-1)]),
 (3, .arr [.str [97], .str [98], .str [99], .str [100]] {}),
 (4, .arr [.str [97], iv 1, .bool false, iv 0] {}),
 (6, .arr [.str [97], .str [98], .str [99], .str [100]] {}),
 (7, .arr [.str [98], iv 0, .bool false, iv 1] {}),
 (9, .arr [.str [97], .str [98], .str [99], .str [100]] {}),
 (10, .arr [.str [99], iv 2, .bool false, iv 3] {}),
 (12, .arr [.str [97], .str [98], .str [99], .str [100]] {}),
 (13, .arr [.str [100], iv 3, .bool false, iv (-1)] {}),
 (14, .arr [.str [97], iv 1, .bool false, iv 0, .str [98], iv 0, .bool false, iv 1, .str [99], iv 2, .bool false, iv 3, .str [100], iv 3, .bool true, iv (-1)] {}),
 (15, ar [iv 0, iv 1, iv 1, iv 2, iv 2, iv 3]),
 (16, ar [iv 0, iv 1]),
 (18, ar [iv 1, iv 2]),
 (20, ar [iv 2, iv 3]),
 (21, ar [iv 0, iv 1, iv 1, iv 2, iv 2, iv 3]),
 (22, ar [.slice 14 0 4 none 4, .slice 21 0 3 none 2, iv 1]),
 (23, ar [.slice 37 0 4 none 4, .slice 44 0 3 none 2, iv (-1)]),
 (24, ar [iv 1, iv 0, iv 2, iv 3]),
 (25, ar [iv 0, iv 1, iv 3, iv (-1)]),
 (26, .arr [.str [97], .str [98], .str [99], .str [100]] {}),
 (27, .arr [.str [97], iv 1, .bool false, iv 0] {}),
 (29, .arr [.str [97], .str [98], .str [99], .str [100]] {}),
 (30, .arr [.str [98], iv 0, .bool false, iv 1] {}),
 (32, .arr [.str [97], .str [98], .str [99], .str [100]] {}),
 (33, .arr [.str [99], iv 2, .bool false, iv 3] {}),
 (35, .arr [.str [97], .str [98], .str [99], .str [100]] {}),
 (36, .arr [.str [100], iv 3, .bool false, iv (-1)] {}),
 (37, .arr [.str [97], iv 1, .bool false, iv 0, .str [98], iv 0, .bool false, iv 1, .str [99], iv 2, .bool false, iv 3, .str [100], iv 3, .bool true, iv (-1)] {}),
 (38, ar [iv 0, iv 1, iv 1, iv 2, iv 2, iv 3]),
 (39, ar [iv 0, iv 1]),
 (41, ar [iv 1, iv 2]),
 (43, ar [iv 2, iv 3]),
 (44, ar [iv 0, iv 1, iv 1, iv 2, iv 2, iv 3]),
 (45, ar [.slice 37 0 4 none 4, .slice 44 0 3 none 2, iv (-1)]),
 (46, ar [.slice 60 0 4 none 4, .slice 73 0 6 none 2, iv (-1)]),
 (47, ar [iv 1, iv 2, iv 0, iv 3]),
 (48, ar [iv 0, iv 1, iv 2, iv 3]),
 (49, .arr [.str [97], .str [98], .str [99], .str [100]] {}),
 (50, .arr [.str [97], iv 1, .bool false, iv 0] {}),
 (52, .arr [.str [97], .str [98], .str [99], .str [100]] {}),
 (53, .arr [.str [98], iv 2, .bool false, iv 1] {}),
 (55, .arr [.str [97], .str [98], .str [99], .str [100]] {}),
 (56, .arr [.str [99], iv 0, .bool false, iv 2] {}),
 (58, .arr [.str [97], .str [98], .str [99], .str [100]] {}),
 (59, .arr [.str [100], iv 3, .bool false, iv 3] {}),
 (60, .arr [.str [97], iv 1, .bool false, iv 0, .str [98], iv 2, .bool false, iv 1, .str [99], iv 0, .bool false, iv 2, .str [100], iv 3, .bool false, iv 3] {}),
 (61, ar [iv 0, iv 1, iv 0, iv 2, iv 0, iv 3, iv 1, iv 2, iv 1, iv 3, iv 2, iv 3]),
 (62, ar [iv 0, iv 1]),
 (64, ar [iv 0, iv 2]),
 (66, ar [iv 0, iv 3]),
 (68, ar [iv 1, iv 2]),
 (70, ar [iv 1, iv 3]),
 (72, ar [iv 2, iv 3]),
 (73, ar [iv 0, iv 1, iv 0, iv 2, iv 0, iv 3, iv 1, iv 2, iv 1, iv 3, iv 2, iv 3]),
 (74, ar [.slice 14 0 4 none 4, .slice 21 0 3 none 2, iv 1]),
 (75, ar [.slice 37 0 4 none 4, .slice 44 0 3 none 2, iv (-1)]),
 (76, ar [.slice 60 0 4 none 4, .slice 73 0 6 none 2, iv (-1)]),
 (161, ar [iv 0, iv 1, iv 2]),
 (163, ar [iv 2, iv 3, iv 1, iv 2, iv 1, iv 1]),
 (164, ar [iv 2, iv 3]),
 (166, ar [iv 1, iv 2]),
 (168, ar [iv 1, iv 1]),
 (169, ar [iv 2, iv 3, iv 1, iv 2, iv 1, iv 1]),
 (266, .arr [.str [97], iv 1, .bool false, iv 0, .str [98], iv 3, .bool false, iv 1, .str [99], iv 0, .bool false, iv 3, .str [100], iv 2, .bool false, iv (-1)] {}),
 (268, ar [iv 0, iv 1, iv 1, iv 2, iv 2, iv 3]),
 (269, ar [.slice 266 0 4 none 4, .slice 268 0 3 none 2, iv 1]),
 (270, ar [.slice 266 0 4 none 4, .slice 268 0 3 none 2, iv 1]),
 (271, ar [iv 1]),
 (273, ar [iv 3]),
 (275, ar [iv 0]),
 (277, ar [iv 2]),
 (278, ar [iv 1, iv 3, iv 0, iv 2])]
def lv5 : LB := [(0, ar [.slice 14 0 4 none 4, .slice 21 0 3 none 2, iv 1]),
 (1, ar [iv 1, iv 0, iv 2, iv 3]),
 (2, ar [iv 0, iv 1, iv 3, iv (-1)]),
 (3, .arr [.str [97], .str [98], .str [99], .str [100]] {}),
 (4, .arr [.str [97], iv 1, .bool false, iv 0] {}),
 (6, .arr [.str [97], .str [98], .str [99], .str [100]] {}),
 (7, .arr [.str [98], iv 0, .bool false, iv 1] {}),
 (9, .arr [.str [97], .str [98], .str [99], .str [100]] {}),
 (10, .arr [.str [99], iv 2, .bool false, iv 3] {}),
 (12, .arr [.str [97], .str [98], .str [99], .str [100]] {}),
 (13, .arr [.str [100], iv 3, .bool false, iv (-1)] {}),
 (14, .arr [.str [97], iv 1, .bool false, iv 0, .str [98], iv 0, .bool false, iv 1, .str [99], iv 2, .bool false, iv 3, .str [100], iv 3, .bool true, iv (-1)] {}),
 (15, ar [iv 0, iv 1, iv 1, iv 2, iv 2, iv 3]),
 (16, ar [iv 0, iv 1]),
 (18, ar [iv 1, iv 2]),
 (20, ar [iv 2, iv 3]),
 (21, ar [iv 0, iv 1, iv 1, iv 2, iv 2, iv 3]),
 (22, ar [.slice 14 0 4 none 4, .slice 21 0 3 none 2, iv 1]),
 (23, ar [.slice 37 0 4 none 4, .slice 44 0 3 none 2, iv (-1)]),
 (24, ar [iv 1, iv 0, iv 2, iv 3]),
 (25, ar [iv 0, iv 1, iv 3, iv (-1)]),
 (26, .arr [.str [97], .str [98], .str [99], .str [100]] {}),
 (27, .arr [.str [97], iv 1, .bool false, iv 0] {}),
 (29, .arr [.str [97], .str [98], .str [99], .str [100]] {}),
 (30, .arr [.str [98], iv 0, .bool false, iv 1] {}),
 (32, .arr [.str [97], .str [98], .str [99], .str [100]] {}),
 (33, .arr [.str [99], iv 2, .bool false, iv 3] {}),
 (35, .arr [.str [97], .str [98], .str [99], .str [100]] {}),
 (36, .arr [.str [100], iv 3, .bool false, iv (-1)] {}),
 (37, .arr [.str [97], iv 1, .bool false, iv 0, .str [98], iv 0, .bool false, iv 1, .str [99], iv 2, .bool false, iv 3, .str [100], iv 3, .bool true, iv (-1)] {}),
 (38, ar [iv 0, iv 1, iv 1, iv 2, iv 2, iv 3]),
 (39, ar [iv 0, iv 1]),
 (41, ar [iv 1, iv 2]),
 (43, ar [iv 2, iv 3]),
 (44, ar [iv 0, iv 1, iv 1, iv 2, iv 2, iv 3]),
 (45, ar [.slice 37 0 4 none 4, .slice 44 0 3 none 2, iv (-1)]),
 (46, ar [.slice 60 0 4 none 4, .slice 73 0 6 none 2, iv (-1)]),
 (47, ar [iv 1, iv 2, iv 0, iv 3]),
 (48, ar [iv 0, iv 1, iv 2, iv 3]),
 (49, .arr [.str [97], .str [98], .str [99], .str [100]] {}),
 (50, .arr [.str [97], iv 1, .bool false, iv 0] {}),
 (52, .arr [.str [97], .str [98], .str [99], .str [100]] {}),
 (53, .arr [.str [98], iv 2, .bool false, iv 1] {}),
 (55, .arr [.str [97], .str [98], .str [99], .str [100]] {}),
 (56, .arr [.str [99], iv 0, .bool false, iv 2] {}),
 (58, .arr [.str [97], .str [98], .str [99], .str [100]] {}),
 (59, .arr [.str [100], iv 3, .bool false, iv 3] {}),
 (60, .arr [.str [97], iv 1, .bool false, iv 0, .str [98], iv 2, .bool false, iv 1, .str [99], iv 0, .bool false, iv 2, .str [100], iv 3, .bool false, iv 3] {}),
 (61, ar [iv 0, iv 1, iv 0, iv 2, iv 0, iv 3, iv 1, iv 2, iv 1, iv 3, iv 2, iv 3]),
 (62, ar [iv 0, iv 1]),
 (64, ar [iv 0, iv 2]),
 (66, ar [iv 0, iv 3]),
 (68, ar [iv 1, iv 2]),
 (70, ar [iv 1, iv 3]),
 (72, ar [iv 2, iv 3]),
 (73, ar [iv 0, iv 1, iv 0, iv 2, iv 0, iv 3, iv 1, iv 2, iv 1, iv 3, iv 2, iv 3]),
 (74, ar [.slice 14 0 4 none 4, .slice 21 0 3 none 2, iv 1]),
 (75, ar [.slice 37 0 4 none 4, .slice 44 0 3 none 2, iv (-1)]),
 (76, ar [.slice 60 0 4 none 4, .slice 73 0 6 none 2, iv (-1)]),
 (161, ar [iv 0, iv 1, iv 2]),
 (163, ar [iv 2, iv 3, iv 1, iv 2, iv 1, iv 1]),
 (164, ar [iv 2, iv 3]),
 (166, ar [iv 1, iv 2]),
 (168, ar [iv 1, iv 1]),
 (169, ar [iv 2, iv 3, iv 1, iv 2, iv 1, iv 1]),
 (266, .arr [.str [97], iv 1, .bool false, iv 0, .str [98], iv 3, .bool false, iv 1, .str [99], iv 0, .bool false, iv 3, .str [100], iv 2, .bool false, iv (-1)] {}),
 (268, ar [iv 0, iv 1, iv 1, iv 2, iv 2, iv 3]),
 (269, ar [.slice 266 0 4 none 4, .slice 268 0 3 none 2, iv 1]),
 (270, ar [.slice 266 0 4 none 4, .slice 268 0 3 none 2, iv 1]),
 (271, ar [iv 1]),
 (273, ar [iv 3]),
 (275, ar [iv 0]),
 (277, ar [iv 2]),
 (278, ar [iv 1, iv 3, iv 0, iv 2]),
 (2336, ar [iv 0, iv 1, iv 2, iv 3, iv 1, iv 2, iv 1, iv 1, iv 1, iv 2])]
def en2 : Ent := ⟨22, [.agg [.slice 14 0 4 none 4, .slice 21 0 3 none 2, iv 1]], 279, lv4, .tup [.slice 2336 0 5 none 2, iv 0], 2337, lv5⟩
def en3 : Ent := ⟨22, [.agg [.slice 37 0 4 none 4, .slice 44 0 3 none 2, iv (-1)]], 2337, lv5, .tup [.nilslice, iv 9], 3642, lv5⟩
def en4 : Ent := ⟨27, [.agg [.slice 14 0 4 none 4, .slice 21 0 3 none 2, iv 1]], 3642, lv5, .tup [iv 0, iv 5, iv 0], 6974, lv5⟩
def en5 : Ent := ⟨27, [.agg [.slice 37 0 4 none 4, .slice 44 0 3 none 2, iv (-1)]], 6974, lv5, .tup [iv 1, iv 1, iv 0], 8302, lv5⟩
def en6 : Ent := ⟨29, [.agg [.slice 14 0 4 none 4, .slice 21 0 3 none 2, iv 1], iv 2], 8302, lv5, .tup [iv 9, iv 0], 8638, lv5⟩
def lv6 : LB := [(0, ar [.slice 14 0 4 none 4, .slice 21 0 3 none 2, iv 1]),
 (1, ar [iv 1, iv 0, iv 2, iv 3]),
 (2, ar [iv 0, iv 1, iv 3, iv (-1)]),
 (3, .arr [.str [97], .str [98], .str [99], .str [100]] {}),
 (4, .arr [.str [97], iv 1, .bool false, iv 0] {}),
 (6, .arr [.str [97], .str [98], .str [99], .str [100]] {}),
 (7, .arr [.str [98], iv 0, .bool false, iv 1] {}),
 (9, .arr [.str [97], .str [98], .str [99], .str [100]] {}),
 (10, .arr [.str [99], iv 2, .bool false, iv 3] {}),
 (12, .arr [.str [97], .str [98], .str [99], .str [100]] {}),
 (13, .arr [.str [100], iv 3, .bool false, iv (-1)] {}),
 (14, .arr [.str [97], iv 1, .bool false, iv 0, .str [98], iv 0, .bool false, iv 1, .str [99], iv 2, .bool false, iv 3, .str [100], iv 3, .bool true, iv (-1)] {}),
 (15, ar [iv 0, iv 1, iv 1, iv 2, iv 2, iv 3]),
 (16, ar [iv 0, iv 1]),
 (18, ar [iv 1, iv 2]),
 (20, ar [iv 2, iv 3]),
 (21, ar [iv 0, iv 1, iv 1, iv 2, iv 2, iv 3]),
 (22, ar [.slice 14 0 4 none 4, .slice 21 0 3 none 2, iv 1]),
 (23, ar [.slice 37 0 4 none 4, .slice 44 0 3 none 2, iv (-1)]),
 (24, ar [iv 1, iv 0, iv 2, iv 3]),
 (25, ar [iv 0, iv 1, iv 3, iv (-1)]),
 (26, .arr [.str [97], .str [98], .str [99], .str [100]] {}),
 (27, .arr [.str [97], iv 1, .bool false, iv 0] {}),
 (29, .arr [.str [97], .str [98], .str [99], .str [100]] {}),
 (30, .arr [.str [98], iv 0, .bool false, iv 1] {}),
 (32, .arr [.str [97], .str [98], .str [99], .str [100]] {}),
 (33, .arr [.str [99], iv 2, .bool false, iv 3] {}),
 (35, .arr [.str [97], .str [98], .str [99], .str [100]] {}),
 (36, .arr [.str [100], iv 3, .bool false, iv (-1)] {}),
 (37, .arr [.str [97], iv 1, .bool false, iv 0, .str [98], iv 0, .bool false, iv 1, .str [99], iv 2, .bool false, iv 3, .str [100], iv 3, .bool true, iv (-1)] {}),
 (38, ar [iv 0, iv 1, iv 1, iv 2, iv 2, iv 3]),
 (39, ar [iv 0, iv 1]),
 (41, ar [iv 1, iv 2]),
 (43, ar [iv 2, iv 3]),
 (44, ar [iv 0, iv 1, iv 1, iv 2, iv 2, iv 3]),
 (45, ar [.slice 37 0 4 none 4, .slice 44 0 3 none 2, iv (-1)]),
 (46, ar [.slice 60 0 4 none 4, .slice 73 0 6 none 2, iv (-1)]),
 (47, ar [iv 1, iv 2, iv 0, iv 3]),
 (48, ar [iv 0, iv 1, iv 2, iv 3]),
 (49, .arr [.str [97], .str [98], .str [99], .str [100]] {}),
 (50, .arr [.str [97], iv 1, .bool false, iv 0] {}),
 (52, .arr [.str [97], .str [98], .str [99], .str [100]] {}),
 (53, .arr [.str [98], iv 2, .bool false, iv 1] {}),
 (55, .arr [.str [97], .str [98], .str [99], .str [100]] {}),
 (56, .arr [.str [99], iv 0, .bool false, iv 2] {}),
 (58, .arr [.str [97], .str [98], .str [99], .str [100]] {}),
 (59, .arr [.str [100], iv 3, .bool false, iv 3] {}),
 (60, .arr [.str [97], iv 1, .bool false, iv 0, .str [98], iv 2, .bool false, iv 1, .str [99], iv 0, .bool false, iv 2, .str [100], iv 3, .bool false, iv 3] {}),
 (61, ar [iv 0, iv 1, iv 0, iv 2, iv 0, iv 3, iv 1, iv 2, iv 1, iv 3, iv 2, iv 3]),
 (62, ar [iv 0, iv 1]),
 (64, ar [iv 0, iv 2]),
 (66, ar [iv 0, iv 3]),
 (68, ar [iv 1, iv 2]),
 (70, ar [iv 1, iv 3]),
 (72, ar [iv 2, iv 3]),
 (73, ar [iv 0, iv 1, iv 0, iv 2, iv 0, iv 3, iv 1, iv 2, iv 1, iv 3, iv 2, iv 3]),
 (74, ar [.slice 14 0 4 none 4, .slice 21 0 3 none 2, iv 1]),
 (75, ar [.slice 37 0 4 none 4, .slice 44 0 3 none 2, iv (-1)]),
 (76, ar [.slice 60 0 4 none 4, .slice 73 0 6 none 2, iv (-1)]),
 (161, ar [iv 0, iv 1, iv 2]),
 (163, ar [iv 2, iv 3, iv 1, iv 2, iv 1, iv 1]),
 (164, ar [iv 2, iv 3]),
 (166, ar [iv 1, iv 2]),
 (168, ar [iv 1, iv 1]),
 (169, ar [iv 2, iv 3, iv 1, iv 2, iv 1, iv 1]),
 (266, .arr [.str [97], iv 1, .bool false, iv 0, .str [98], iv 3, .bool false, iv 1, .str [99], iv 0, .bool false, iv 3, .str [100], iv 2, .bool false, iv (-1)] {}),
 (268, ar [iv 0, iv 1, iv 1, iv 2, iv 2, iv 3]),
 (269, ar [.slice 266 0 4 none 4, .slice 268 0 3 none 2, iv 1]),
 (270, ar [.slice 266 0 4 none 4, .slice 268 0 3 none 2, iv 1]),
 (271, ar [iv 1]),
 (273, ar [iv 3]),
 (275, ar [iv 0]),
 (277, ar [iv 2]),
 (278, ar [iv 1, iv 3, iv 0, iv 2]),
 (2336, ar [iv 0, iv 1, iv 2, iv 3, iv 1, iv 2, iv 1, iv 1, iv 1, iv 2]),
 (8749, ar [iv 0, iv 2, iv 1]),
 (8751, ar [.slice 8749 0 3 none 1])]
def en7 : Ent := ⟨31, [.agg [.slice 60 0 4 none 4, .slice 73 0 6 none 2, iv (-1)]], 8638, lv5, .tup [.slice 8751 0 1 none 1, iv 0], 8753, lv6⟩
def lv7 : LB := [(0, ar [.slice 14 0 4 none 4, .slice 21 0 3 none 2, iv 1]),
 (1, ar [iv 1, iv 0, iv 2, iv 3]),
 (2, ar [iv 0, iv 1, iv 3, iv (-1)]),
 (3, .arr [.str [97], .str [98], .str [99], .str [100]] {}),
 (4, .arr [.str [97], iv 1, .bool false, iv 0] {}),
 (6, .arr [.str [97], .str [98], .str [99], .str [100]] {}),
 (7, .arr [.str [98], iv 0, .bool false, iv 1] {}),
 (9, .arr [.str [97], .str [98], .str [99], .str [100]] {}),
 (10, .arr [.str [99], iv 2, .bool false, iv 3] {}),
 (12, .arr [.str [97], .str [98], .str [99], .str [100]] {}),
 (13, .arr [.str [100], iv 3, .bool false, iv (-1)] {}),
 (14, .arr [.str [97], iv 1, .bool false, iv 0, .str [98], iv 0, .bool false, iv 1, .str [99], iv 2, .bool false, iv 3, .str [100], iv 3, .bool true, iv (-1)] {}),
 (15, ar [iv 0, iv 1, iv 1, iv 2, iv 2, iv 3]),
 (16, ar [iv 0, iv 1]),
 (18, ar [iv 1, iv 2]),
 (20, ar [iv 2, iv 3]),
 (21, ar [iv 0, iv 1, iv 1, iv 2, iv 2, iv 3]),
 (22, ar [.slice 14 0 4 none 4, .slice 21 0 3 none 2, iv 1]),
 (23, ar [.slice 37 0 4 none 4, .slice 44 0 3 none 2, iv (-1)]),
 (24, ar [iv 1, iv 0, iv 2, iv 3]),
 (25, ar [iv 0, iv 1, iv 3, iv (-1)]),
 (26, .arr [.str [97], .str [98], .str [99], .str [100]] {}),
 (27, .arr [.str [97], iv 1, .bool false, iv 0] {}),
 (29, .arr [.str [97], .str [98], .str [99], .str [100]] {}),
 (30, .arr [.str [98], iv 0, .bool false, iv 1] {}),
 (32, .arr [.str [97], .str [98], .str [99], .str [100]] {}),
 (33, .arr [.str [99], iv 2, .bool false, iv 3] {}),
 (35, .arr [.str [97], .str [98], .str [99], .str [100]] {}),
 (36, .arr [.str [100], iv 3, .bool false, iv (-1)] {}),
 (37, .arr [.str [97], iv 1, .bool false, iv 0, .str [98], iv 0, .bool false, iv 1, .str [99], iv 2, .bool false, iv 3, .str [100], iv 3, .bool true, iv (-1)] {}),
 (38, ar [iv 0, iv 1, iv 1, iv 2, iv 2, iv 3]),
 (39, ar [iv 0, iv 1]),
 (41, ar [iv 1, iv 2]),
 (43, ar [iv 2, iv 3]),
 (44, ar [iv 0, iv 1, iv 1, iv 2, iv 2, iv 3]),
 (45, ar [.slice 37 0 4 none 4, .slice 44 0 3 none 2, iv (-1)]),
 (46, ar [.slice 60 0 4 none 4, .slice 73 0 6 none 2, iv (-1)]),
 (47, ar [iv 1, iv 2, iv 0, iv 3]),
 (48, ar [iv 0, iv 1, iv 2, iv 3]),
 (49, .arr [.str [97], .str [98], .str [99], .str [100]] {}),
 (50, .arr [.str [97], iv 1, .bool false, iv 0] {}),
 (52, .arr [.str [97], .str [98], .str [99], .str [100]] {}),
 (53, .arr [.str [98], iv 2, .bool false, iv 1] {}),
 (55, .arr [.str [97], .str [98], .str [99], .str [100]] {}),
 (56, .arr [.str [99], iv 0, .bool false, iv 2] {}),
 (58, .arr [.str [97], .str [98], .str [99], .str [100]] {}),
 (59, .arr [.str [100], iv 3, .bool false, iv 3] {}),
 (60, .arr [.str [97], iv 1, .bool false, iv 0, .str [98], iv 2, .bool false, iv 1, .str [99], iv 0, .bool false, iv 2, .str [100], iv 3, .bool false, iv 3] {}),
 (61, ar [iv 0, iv 1, iv 0, iv 2, iv 0, iv 3, iv 1, iv 2, iv 1, iv 3, iv 2, iv 3]),
 (62, ar [iv 0, iv 1]),
 (64, ar [iv 0, iv 2]),
 (66, ar [iv 0, iv 3]),
 (68, ar [iv 1, iv 2]),
 (70, ar [iv 1, iv 3]),
 (72, ar [iv 2, iv 3]),
 (73, ar [iv 0, iv 1, iv 0, iv 2, iv 0, iv 3, iv 1, iv 2, iv 1, iv 3, iv 2, iv 3]),
 (74, ar [.slice 14 0 4 none 4, .slice 21 0 3 none 2, iv 1]),
 (75, ar [.slice 37 0 4 none 4, .slice 44 0 3 none 2, iv (-1)]),
 (76, ar [.slice 60 0 4 none 4, .slice 73 0 6 none 2, iv (-1)]),
 (161, ar [iv 0, iv 1, iv 2]),
 (163, ar [iv 2, iv 3, iv 1, iv 2, iv 1, iv 1]),
 (164, ar [iv 2, iv 3]),
 (166, ar [iv 1, iv 2]),
 (168, ar [iv 1, iv 1]),
 (169, ar [iv 2, iv 3, iv 1, iv 2, iv 1, iv 1]),
 (266, .arr [.str [97], iv 1, .bool false, iv 0, .str [98], iv 3, .bool false, iv 1, .str [99], iv 0, .bool false, iv 3, .str [100], iv 2, .bool false, iv (-1)] {}),
 (268, ar [iv 0, iv 1, iv 1, iv 2, iv 2, iv 3]),
 (269, ar [.slice 266 0 4 none 4, .slice 268 0 3 none 2, iv 1]),
 (270, ar [.slice 266 0 4 none 4, .slice 268 0 3 none 2, iv 1]),
 (271, ar [iv 1]),
 (273, ar [iv 3]),
 (275, ar [iv 0]),
 (277, ar [iv 2]),
 (278, ar [iv 1, iv 3, iv 0, iv 2]),
 (2336, ar [iv 0, iv 1, iv 2, iv 3, iv 1, iv 2, iv 1, iv 1, iv 1, iv 2]),
 (8749, ar [iv 0, iv 2, iv 1]),
 (8751, ar [.slice 8749 0 3 none 1]),
 (8753, ar [.slice 8767 0 4 none 4, .slice 8774 0 3 none 2, iv (-1)]),
 (8754, ar [iv 3, iv 1, iv 2, iv 0]),
 (8755, ar [iv 0, iv 1, iv 2, iv 3]),
 (8756, .arr [.str [97], .str [98], .str [99], .str [100]] {}),
 (8757, .arr [.str [97], iv 3, .bool false, iv 0] {}),
 (8759, .arr [.str [97], .str [98], .str [99], .str [100]] {}),
 (8760, .arr [.str [98], iv 1, .bool false, iv 1] {}),
 (8762, .arr [.str [97], .str [98], .str [99], .str [100]] {}),
 (8763, .arr [.str [99], iv 2, .bool false, iv 2] {}),
 (8765, .arr [.str [97], .str [98], .str [99], .str [100]] {}),
 (8766, .arr [.str [100], iv 0, .bool false, iv 3] {}),
 (8767, .arr [.str [97], iv 3, .bool false, iv 0, .str [98], iv 1, .bool false, iv 1, .str [99], iv 2, .bool false, iv 2, .str [100], iv 0, .bool false, iv 3] {}),
 (8768, ar [iv 0, iv 1, iv 1, iv 2, iv 2, iv 3]),
 (8769, ar [iv 0, iv 1]),
 (8771, ar [iv 1, iv 2]),
 (8773, ar [iv 2, iv 3]),
 (8774, ar [iv 0, iv 1, iv 1, iv 2, iv 2, iv 3])]
def en8 : Ent := ⟨36, [.agg [.slice 8767 0 4 none 4, .slice 8774 0 3 none 2, iv (-1)], iv 0, iv 3], 8775, lv7, .tup [iv 4, iv 0], 10152, lv7⟩
def ot0 (f : Nat) : List Ent := []
def otA (f : Nat) : List Ent := ifB (Nat.beq f 12) [en0] (ifB (Nat.beq f 17) [en1] (ifB (Nat.beq f 22) [en2, en3] (ifB (Nat.beq f 27) [en4, en5] (ifB (Nat.beq f 29) [en6] (ifB (Nat.beq f 31) [en7] (ifB (Nat.beq f 36) [en8] ([])))))))
theorem tkO : TabO tk tblA := fun f kf h => tkOk.2 f kf h
end
end Go.Ax.Kr
end
