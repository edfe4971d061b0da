import Derived.Test.YtbgnifoklhediaaGreatDoorA5
import Derived.Test.YtbgnifoklhediaaGreatDoorB
import Derived.KernelRfl
set_option linter.unusedSectionVars false
set_option linter.unusedVariables false
set_option linter.unusedSimpArgs false
section
namespace Go.Ax.Kr
open Go.Ax.Ir Go.Ax.K
set_option maxRecDepth 100000
set_option maxHeartbeats 8000000
noncomputable section
def b7 : KC := comp ir7.code
theorem e7 : b7 = comp ir7.code := rfl
def k7 : KF := ⟨48, b7, [.tmp 2, .tmp 3, .tmp 4]⟩
def b12 : KC := comp ir12.code
theorem e12 : b12 = comp ir12.code := rfl
def k12 : KF := ⟨33, b12, [.cell 4 true 3, .tmp 5]⟩
def b15 : KC := comp ir15.code
theorem e15 : b15 = comp ir15.code := rfl
def k15 : KF := ⟨21, b15, [.cell 6 true 3, .tmp 7]⟩
def b17 : KC := comp ir17.code
theorem e17 : b17 = comp ir17.code := rfl
def k17 : KF := ⟨46, b17, [.tmp 6, .tmp 7]⟩
def b19 : KC := comp ir19.code
theorem e19 : b19 = comp ir19.code := rfl
def k19 : KF := ⟨32, b19, [.cell 2 false 1, .cell 3 true 3, .cell 4 false 1]⟩
def b24 : KC := comp ir24.code
theorem e24 : b24 = comp ir24.code := rfl
def k24 : KF := ⟨35, b24, [.cell 2 false 1, .tmp 3]⟩
def b29 : KC := comp ir29.code
theorem e29 : b29 = comp ir29.code := rfl
def k29 : KF := ⟨68, b29, [.tmp 2, .tmp 3, .tmp 4]⟩
def b32 : KC := comp ir32.code
theorem e32 : b32 = comp ir32.code := rfl
def k32 : KF := ⟨57, b32, [.tmp 2, .tmp 3, .tmp 4]⟩
def b34 : KC := comp ir34.code
theorem e34 : b34 = comp ir34.code := rfl
def k34 : KF := ⟨46, b34, [.tmp 2, .tmp 3]⟩
def b36 : KC := comp ir36.code
theorem e36 : b36 = comp ir36.code := rfl
def k36 : KF := ⟨178, b36, [.tmp 0]⟩
def b38 : KC := (kSeq (kRegion [kS d3 (oBox t0),
 kS d4 (oBox t1),
 kS d6 (oMv (gC (.bool false)))])
 (kSeq (kRegion [kS d7 (oMv t2),
 kS d8 (oMkfn 70 [] [t3, t4]),
 kS d9 (oCall (gC (.func 69 [] [])) [t7, t8]),
 kS d6 (oMv t9)])
 kRet))
theorem e38 : b38 = comp ir38.code := by kernel_rfl
def k38 : KF := ⟨10, b38, [.tmp 6]⟩
def b39 : KC := (kSeq (kRegion [kS d4 (oMv (gI 0)),
 kS d5 (oMv (gI 0))])
 (kSeq (kSeq (kRegion [kS d9 (oMv t0),
 kS d10 (oLen false t9),
 kS d11 (oMv (gI 0))])
 (kBlock 0 (kLoop (kSeq (kRegion [kS d12 (oBin .lss t11 t10)])
 (kSeq (kCond t12 kSkip
 (kExit 0))
 (kSeq (kBlock 1 (kSeq (kRegion [kS d13 (oMv t11),
 kS d14 (oIa 6 t9 t11),
 kS d15 (oLd true 6 t14),
 kS d7 (oAlloc (.agg [(.str []), (.int .i64 0), (.int .i64 0), (.int .i64 0), (.int .i64 0), (.bool false)])),
 kS d6 (oMv t13),
 kN (oSt 6 t7 t15)])
 (kSeq (kRegion [kS d16 (oMv t1),
 kS d17 (oMv t6),
 kS d18 (oLd true 6 t7),
 kS d19 (oCall t16 [t17, t18]),
 kS d8 (oMv t19)])
 (kSeq (kRegion [kS d20 (oMv t8),
 kS d21 (oBin .neq t20 (gI 0))])
 (kCond t21 (kSeq (kRegion [kS d22 (oMv t6),
 kS d23 (oMv t8),
 kS d4 (oMv t22),
 kS d5 (oMv t23)])
 kRet)
 kSkip)))))
 (kRegion [kS d24 (oBin .add t11 (gI 1)),
 kS d11 (oMv t24)])))))))
 (kSeq (kRegion [kS d4 (oMv (gI 0)),
 kS d5 (oMv (gI 0))])
 kRet)))
theorem e39 : b39 = comp ir39.code := by kernel_rfl
def k39 : KF := ⟨25, b39, [.tmp 4, .tmp 5]⟩
def b40 : KC := (kSeq (kRegion [kS d4 (oBox t1),
 kS d5 (oMv (gI 0))])
 (kSeq (kBlock 0 (kSeq (kRegion [kS d7 (oFa t4 0),
 kS d8 (oLd false 1 t7),
 kS d9 (oCall (gC (.func 41 [] [])) [t8]),
 kS d10 (oNot t9),
 kS d6 (oMv t10)])
 (kCond t6 (kSeq (kRegion [kS d5 (oMv (gI 6))])
 kRet)
 (kSeq (kRegion [kS d12 (oFa t2 4),
 kS d13 (oLd false 1 t12),
 kS d14 (oMv t0),
 kS d15 (oGen (.slc 6 (.t 13) none (some (.t 14)) none)),
 kS d16 (oMkfn 43 [] [t4]),
 kS d17 (oCall (gC (.func 42 [] [])) [t15, t16]),
 kS d11 (oMv t17)])
 (kCond t11 (kSeq (kRegion [kS d5 (oMv (gI 5))])
 kRet)
 (kSeq (kRegion [kS d19 (oFa t4 1),
 kS d20 (oGen (.slca 3 1 (.t 19) none none none)),
 kS d21 (oCall (gC (.func 38 [] [])) [(gI 0), (gI 40), t20]),
 kS d22 (oMv t21),
 kG t22 false d23 (oFa t4 4),
 kG t22 false d24 (oLd false 1 t23),
 kG t22 false d25 (oBldS 1 1 [(.int .i64 0)] [(0, 1, t24)]),
 kG t22 false d26 (oCall (gC (.func 38 [] [])) [(gI 0), (gI 364), t25]),
 kS d27 (oPick t22 (gC (.bool true)) t26),
 kS d18 (oMv t27)])
 (kCond t18 (kSeq (kRegion [kS d5 (oMv (gI 7))])
 kRet)
 kSkip)))))))
 (kSeq (kRegion [kS d5 (oMv (gI 0))])
 kRet)))
theorem e40 : b40 = comp ir40.code := by kernel_rfl
def k40 : KF := ⟨28, b40, [.tmp 5]⟩
def b41 : KC := (kSeq (kRegion [kS d2 (oMv (gC (.bool false)))])
 (kSeq (kSeq (kRegion [kS d6 (oMv t0),
 kS d7 (oGen (.rng (.t 6)))])
 (kBlock 0 (kLoop (kSeq (kRegion [kS d8 (oGen (.nxt (.t 7))),
 kS d9 (oExt t8 0)])
 (kSeq (kCond t9 kSkip
 (kExit 0))
 (kBlock 1 (kSeq (kRegion [kS d10 (oExt t8 1),
 kS d11 (oExt t8 2),
 kS d3 (oMv t10),
 kS d4 (oMv t11)])
 (kSeq (kRegion [kS d12 (oMv t4),
 kS d13 (oBin .leq (gC (.int .i32 97)) t12),
 kS d14 (oMv t13),
 kG t14 true d15 (oMv t4),
 kG t14 true d16 (oBin .leq t15 (gC (.int .i32 122))),
 kS d17 (oPick t14 t16 (gC (.bool false))),
 kS d5 (oMv t17)])
 (kSeq (kRegion [kS d18 (oMv t5),
 kS d19 (oNot t18),
 kS d20 (oMv t19),
 kG t20 true d21 (oMv t3),
 kG t20 true d22 (oBin .eql t21 (gI 0)),
 kG t20 true d23 (oMv t22),
 kG t23 false d24 (oMv t4),
 kG t23 false d25 (oBin .neq t24 (gC (.int .i32 46))),
 kG t23 false d26 (oMv t25),
 kG t26 true d27 (oMv t4),
 kG t26 true d28 (oBin .lss t27 (gC (.int .i32 48))),
 kG t26 true d29 (oMv t28),
 kG t29 false d30 (oMv t4),
 kG t29 false d31 (oBin .gtr t30 (gC (.int .i32 57))),
 kG t26 true d32 (oPick t29 (gC (.bool true)) t31),
 kG t23 false d33 (oPick t26 t32 (gC (.bool false))),
 kG t20 true d34 (oPick t23 (gC (.bool true)) t33),
 kS d35 (oPick t20 t34 (gC (.bool false)))])
 (kCond t35 (kSeq (kRegion [kS d2 (oMv (gC (.bool false)))])
 kRet)
 kSkip))))))))))
 (kSeq (kRegion [kS d36 (oMv t0),
 kS d37 (oBin .neq t36 (gC (.str []))),
 kS d38 (oMv t37),
 kG t38 true d39 (oMv t0),
 kG t38 true d40 (oLen true t39),
 kG t38 true d41 (oBin .leq t40 (gI 16)),
 kS d42 (oPick t38 t41 (gC (.bool false))),
 kS d2 (oMv t42)])
 kRet)))
theorem e41 : b41 = comp ir41.code := by kernel_rfl
def k41 : KF := ⟨43, b41, [.tmp 2]⟩
def b42 : KC := (kSeq (kRegion [kS d4 (oMv (gC (.bool false)))])
 (kSeq (kRegion [kS d5 (oMv t0),
 kS d6 (oMv t1),
 kS d7 (oCall (gC (.func 71 [] [])) [t5, t6]),
 kS d8 (oBin .geq t7 (gI 0)),
 kS d4 (oMv t8)])
 kRet))
theorem e42 : b42 = comp ir42.code := by kernel_rfl
def k42 : KF := ⟨9, b42, [.tmp 4]⟩
def b43 : KC := (kSeq (kRegion [kS d2 (oBox t0),
 kS d3 (oMv (gC (.bool false)))])
 (kSeq (kRegion [kS d4 (oFa t2 0),
 kS d5 (oLd false 1 t4),
 kS d6 (oFa t1 0),
 kS d7 (oLd false 1 t6),
 kS d8 (oBin .eql t5 t7),
 kS d3 (oMv t8)])
 kRet))
theorem e43 : b43 = comp ir43.code := by kernel_rfl
def k43 : KF := ⟨9, b43, [.tmp 3]⟩
def b44 : KC := (kSeq (kRegion [kS d4 (oMv (gI 0)),
 kS d5 (oMv (gI 0))])
 (kSeq (kSeq (kRegion [kS d9 (oMv t0),
 kS d10 (oLen false t9),
 kS d11 (oMv (gI 0))])
 (kBlock 0 (kLoop (kSeq (kRegion [kS d12 (oBin .lss t11 t10)])
 (kSeq (kCond t12 kSkip
 (kExit 0))
 (kSeq (kBlock 1 (kSeq (kRegion [kS d13 (oMv t11),
 kS d14 (oIa 6 t9 t11),
 kS d15 (oLd true 6 t14),
 kS d7 (oAlloc (.agg [(.str []), (.int .i64 0), (.int .i64 0), (.int .i64 0), (.int .i64 0), (.int .i64 0)])),
 kS d6 (oMv t13),
 kN (oSt 6 t7 t15)])
 (kSeq (kRegion [kS d16 (oMv t1),
 kS d17 (oMv t6),
 kS d18 (oLd true 6 t7),
 kS d19 (oCall t16 [t17, t18]),
 kS d8 (oMv t19)])
 (kSeq (kRegion [kS d20 (oMv t8),
 kS d21 (oBin .neq t20 (gI 0))])
 (kCond t21 (kSeq (kRegion [kS d22 (oMv t6),
 kS d23 (oMv t8),
 kS d4 (oMv t22),
 kS d5 (oMv t23)])
 kRet)
 kSkip)))))
 (kRegion [kS d24 (oBin .add t11 (gI 1)),
 kS d11 (oMv t24)])))))))
 (kSeq (kRegion [kS d4 (oMv (gI 0)),
 kS d5 (oMv (gI 0))])
 kRet)))
theorem e44 : b44 = comp ir44.code := by kernel_rfl
def k44 : KF := ⟨25, b44, [.tmp 4, .tmp 5]⟩
def b45 : KC := (kSeq (kRegion [kS d4 (oBox t1),
 kS d5 (oMv (gI 0))])
 (kSeq (kBlock 0 (kSeq (kRegion [kS d7 (oFa t4 0),
 kS d8 (oLd false 1 t7),
 kS d9 (oCall (gC (.func 41 [] [])) [t8]),
 kS d10 (oNot t9),
 kS d6 (oMv t10)])
 (kCond t6 (kSeq (kRegion [kS d5 (oMv (gI 6))])
 kRet)
 (kSeq (kRegion [kS d12 (oFa t2 5),
 kS d13 (oLd false 1 t12),
 kS d14 (oMv t0),
 kS d15 (oGen (.slc 6 (.t 13) none (some (.t 14)) none)),
 kS d16 (oMkfn 47 [] [t4]),
 kS d17 (oCall (gC (.func 46 [] [])) [t15, t16]),
 kS d11 (oMv t17)])
 (kCond t11 (kSeq (kRegion [kS d5 (oMv (gI 5))])
 kRet)
 (kSeq (kRegion [kS d19 (oFa t4 1),
 kS d20 (oLd false 1 t19),
 kS d21 (oBldS 1 1 [(.int .i64 0)] [(0, 1, t20)]),
 kS d22 (oCall (gC (.func 38 [] [])) [(gI 1), (gI 60), t21]),
 kS d23 (oMv t22),
 kG t23 false d24 (oFa t4 2),
 kG t23 false d25 (oFa t24 0),
 kG t23 false d26 (oLd false 1 t25),
 kG t23 false d27 (oFa t4 2),
 kG t23 false d28 (oFa t27 1),
 kG t23 false d29 (oLd false 1 t28),
 kG t23 false d30 (oFa t4 4),
 kG t23 false d31 (oFa t30 0),
 kG t23 false d32 (oLd false 1 t31),
 kG t23 false d33 (oFa t4 4),
 kG t23 false d34 (oFa t33 1),
 kG t23 false d35 (oLd false 1 t34),
 kG t23 false d36 (oBldS 1 4 [(.int .i64 0)] [(0, 1, t26), (1, 1, t29), (2, 1, t32), (3, 1, t35)]),
 kG t23 false d37 (oCall (gC (.func 38 [] [])) [(gI 0), (gI 1000), t36]),
 kS d38 (oPick t23 (gC (.bool true)) t37),
 kS d18 (oMv t38)])
 (kCond t18 (kSeq (kRegion [kS d5 (oMv (gI 7))])
 kRet)
 (kSeq (kRegion [kS d40 (oFa t4 2),
 kS d41 (oFa t40 0),
 kS d42 (oLd false 1 t41),
 kS d43 (oFa t4 2),
 kS d44 (oFa t43 1),
 kS d45 (oLd false 1 t44),
 kS d46 (oBin .gtr t42 t45),
 kS d47 (oMv t46),
 kG t47 false d48 (oFa t4 4),
 kG t47 false d49 (oFa t48 0),
 kG t47 false d50 (oLd false 1 t49),
 kG t47 false d51 (oFa t4 4),
 kG t47 false d52 (oFa t51 1),
 kG t47 false d53 (oLd false 1 t52),
 kG t47 false d54 (oBin .gtr t50 t53),
 kS d55 (oPick t47 (gC (.bool true)) t54),
 kS d39 (oMv t55)])
 (kCond t39 (kSeq (kRegion [kS d5 (oMv (gI 2))])
 kRet)
 kSkip)))))))))
 (kSeq (kRegion [kS d5 (oMv (gI 0))])
 kRet)))
theorem e45 : b45 = comp ir45.code := by kernel_rfl
def k45 : KF := ⟨56, b45, [.tmp 5]⟩
def b46 : KC := (kSeq (kRegion [kS d4 (oMv (gC (.bool false)))])
 (kSeq (kRegion [kS d5 (oMv t0),
 kS d6 (oMv t1),
 kS d7 (oCall (gC (.func 72 [] [])) [t5, t6]),
 kS d8 (oBin .geq t7 (gI 0)),
 kS d4 (oMv t8)])
 kRet))
theorem e46 : b46 = comp ir46.code := by kernel_rfl
def k46 : KF := ⟨9, b46, [.tmp 4]⟩
def b47 : KC := (kSeq (kRegion [kS d2 (oBox t0),
 kS d3 (oMv (gC (.bool false)))])
 (kSeq (kRegion [kS d4 (oFa t2 0),
 kS d5 (oLd false 1 t4),
 kS d6 (oFa t1 0),
 kS d7 (oLd false 1 t6),
 kS d8 (oBin .eql t5 t7),
 kS d3 (oMv t8)])
 kRet))
theorem e47 : b47 = comp ir47.code := by kernel_rfl
def k47 : KF := ⟨9, b47, [.tmp 3]⟩
def b48 : KC := (kSeq (kRegion [kS d2 (oBox t0),
 kS d4 (oMv (gC .nilptr)),
 kS d5 (oMv (gI 0))])
 (kSeq (kSeq (kRegion [kS d16 (oLd true 6 t2),
 kS d17 (oCall (gC (.func 7 [] [])) [t16]),
 kS d15 (oMv t17),
 kS d18 (oExt t15 0),
 kS d19 (oExt t15 1),
 kS d20 (oExt t15 2),
 kS d6 (oMv t18),
 kS d7 (oMv t19),
 kS d8 (oMv t20)])
 (kSeq (kRegion [kS d21 (oMv t8),
 kS d22 (oBin .neq t21 (gI 0))])
 (kCond t22 (kSeq (kRegion [kS d23 (oMv t8),
 kS d4 (oMv (gC .nilptr)),
 kS d5 (oMv t23)])
 kRet)
 kSkip)))
 (kSeq (kRegion [kS d24 (oLd true 6 t2),
 kS d25 (oGen .mkmap),
 kS d26 (oBld [(.int .i64 0), (.int .i64 0), (.int .i64 0), (.int .i64 0), .nilslice, .nilslice, (.int .i64 0), (.int .i64 0), (.int .i64 0), (.int .i64 0), (.int .i64 0), (.int .i64 0), (.int .i64 0), (.int .i64 0), (.int .i64 0), (.int .i64 0), (.int .i64 0), (.int .i64 0), (.int .i64 0), (.int .i64 0), (.int .i64 0), (.int .i64 0), (.int .i64 0), (.int .i64 0), (.int .i64 0), .nilslice, .nilmap] [(0, 6, t24), (26, 1, t25)]),
 kS d27 (oBox t26),
 kS d9 (oMv t27)])
 (kSeq (kRegion [kS d28 (oMv t9),
 kS d29 (oBld [(.int .i64 0), .nilfunc] [(0, 1, (gI 1)), (1, 1, (gC (.func 73 [] [])))]),
 kS d30 (oBld [(.int .i64 0), .nilfunc] [(0, 1, (gI 2)), (1, 1, (gC (.func 74 [] [])))]),
 kS d31 (oBldS 2 2 [(.int .i64 0), .nilfunc] [(0, 2, t29), (2, 2, t30)]),
 kS d32 (oNilck t28),
 kS d33 (oFa t32 25),
 kN (oSt 1 t33 t31)])
 (kSeq (kSeq (kRegion [kS d34 (oFa t2 5),
 kS d35 (oLd false 1 t34),
 kS d36 (oLen false t35),
 kS d37 (oMv (gI 0))])
 (kBlock 0 (kLoop (kSeq (kRegion [kS d38 (oBin .lss t37 t36)])
 (kSeq (kCond t38 kSkip
 (kExit 0))
 (kSeq (kBlock 1 (kSeq (kRegion [kS d39 (oIa 6 t35 t37),
 kS d40 (oLd true 6 t39),
 kS d11 (oAlloc (.agg [(.str []), (.int .i64 0), (.int .i64 0), (.int .i64 0), (.int .i64 0), (.int .i64 0)])),
 kN (oSt 6 t11 t40)])
 (kDraw [⟨kS d41 (oMv t9), ⟨(some 41), (.mv (.t 9)), none⟩, false, [], []⟩,
 ⟨kS d42 (oNilck t41), ⟨(some 42), (.nilck (.t 41)), none⟩, false, [], []⟩,
 ⟨kS d43 (oFa t42 6), ⟨(some 43), (.fa (.t 42) 6), none⟩, false, [], []⟩,
 ⟨kS d44 (oLd false 1 t43), ⟨(some 44), (.ld false 1 (.t 43)), none⟩, false, [⟨(some 44), (.ld false 1 (.t 43)), none⟩], []⟩,
 ⟨kS d45 (oFa t11 1), ⟨(some 45), (.fa (.t 11) 1), none⟩, false, [], []⟩,
 ⟨kS d46 (oLd false 1 t45), ⟨(some 46), (.ld false 1 (.t 45)), none⟩, false, [⟨(some 46), (.ld false 1 (.t 45)), none⟩], []⟩,
 ⟨kS d47 (oBin .add t44 t46), ⟨(some 47), (.bin .add (.t 44) (.t 46)), none⟩, false, [], []⟩,
 ⟨kS d48 (oNilck t41), ⟨(some 48), (.nilck (.t 41)), none⟩, false, [], []⟩,
 ⟨kS d49 (oFa t48 6), ⟨(some 49), (.fa (.t 48) 6), none⟩, false, [], []⟩,
 ⟨kN (oSt 1 t49 t47), ⟨none, (.st 1 (.t 49) (.t 47)), none⟩, true, [], []⟩])))
 (kRegion [kS d50 (oBin .add t37 (gI 1)),
 kS d37 (oMv t50)])))))))
 (kSeq (kSeq (kRegion [kS d51 (oFa t2 4),
 kS d52 (oLd false 1 t51),
 kS d53 (oLen false t52),
 kS d54 (oMv (gI 0))])
 (kBlock 2 (kLoop (kSeq (kRegion [kS d55 (oBin .lss t54 t53)])
 (kSeq (kCond t55 kSkip
 (kExit 2))
 (kSeq (kBlock 3 (kSeq (kRegion [kS d56 (oMv t54),
 kS d57 (oIa 6 t52 t54),
 kS d58 (oLd true 6 t57),
 kS d13 (oAlloc (.agg [(.str []), (.int .i64 0), (.int .i64 0), (.int .i64 0), (.int .i64 0), (.bool false)])),
 kS d12 (oMv t56),
 kN (oSt 6 t13 t58)])
 (kSeq (kDraw [⟨kS d59 (oFa t13 4), ⟨(some 59), (.fa (.t 13) 4), none⟩, false, [], []⟩,
 ⟨kS d60 (oLd false 1 t59), ⟨(some 60), (.ld false 1 (.t 59)), none⟩, false, [⟨(some 60), (.ld false 1 (.t 59)), none⟩], []⟩,
 ⟨kS d61 (oMv t1), ⟨(some 61), (.mv (.t 1)), none⟩, false, [], []⟩,
 ⟨kS d62 (oBin .add t60 t61), ⟨(some 62), (.bin .add (.t 60) (.t 61)), none⟩, false, [], []⟩,
 ⟨kS d63 (oFa t2 3), ⟨(some 63), (.fa (.t 2) 3), none⟩, false, [], []⟩,
 ⟨kS d64 (oLd false 1 t63), ⟨(some 64), (.ld false 1 (.t 63)), none⟩, false, [⟨(some 64), (.ld false 1 (.t 63)), none⟩], []⟩,
 ⟨kS d65 (oBin .quo t62 t64), ⟨(some 65), (.bin .quo (.t 62) (.t 64)), none⟩, false, [], []⟩,
 ⟨kS d66 (oFa t13 1), ⟨(some 66), (.fa (.t 13) 1), none⟩, false, [], []⟩,
 ⟨kS d67 (oIaa 3 1 t66 (gI 2)), ⟨(some 67), (.iaa 3 1 (.t 66) (.c (.int .i64 2))), none⟩, false, [], []⟩,
 ⟨kS d68 (oLd false 1 t67), ⟨(some 68), (.ld false 1 (.t 67)), none⟩, false, [⟨(some 68), (.ld false 1 (.t 67)), none⟩], []⟩,
 ⟨kS d69 (oGen (.mn (.t 65) [(.t 68)])), ⟨(some 69), (.mn (.t 65) [(.t 68)]), none⟩, false, [], []⟩,
 ⟨kS d14 (oMv t69), ⟨(some 14), (.mv (.t 69)), none⟩, false, [], []⟩])
 (kSeq (kDraw [⟨kS d70 (oMv t9), ⟨(some 70), (.mv (.t 9)), none⟩, false, [], []⟩,
 ⟨kS d71 (oMv t12), ⟨(some 71), (.mv (.t 12)), none⟩, false, [], []⟩,
 ⟨kS d72 (oFa t13 1), ⟨(some 72), (.fa (.t 13) 1), none⟩, false, [], []⟩,
 ⟨kS d73 (oLd true 3 t72), ⟨(some 73), (.ld true 3 (.t 72)), none⟩, false, [⟨(some 73), (.ld true 3 (.t 72)), none⟩], []⟩,
 ⟨kS d74 (oNilck t70), ⟨(some 74), (.nilck (.t 70)), none⟩, false, [], []⟩,
 ⟨kS d75 (oFa t74 7), ⟨(some 75), (.fa (.t 74) 7), none⟩, false, [], []⟩,
 ⟨kS d76 (oIaa 6 3 t75 t71), ⟨(some 76), (.iaa 6 3 (.t 75) (.t 71)), none⟩, false, [], []⟩,
 ⟨kN (oSt 3 t76 t73), ⟨none, (.st 3 (.t 76) (.t 73)), none⟩, true, [], []⟩])
 (kSeq (kDraw [⟨kS d77 (oMv t9), ⟨(some 77), (.mv (.t 9)), none⟩, false, [], []⟩,
 ⟨kS d78 (oMv t12), ⟨(some 78), (.mv (.t 12)), none⟩, false, [], []⟩,
 ⟨kS d79 (oNilck t77), ⟨(some 79), (.nilck (.t 77)), none⟩, false, [], []⟩,
 ⟨kS d80 (oFa t79 7), ⟨(some 80), (.fa (.t 79) 7), none⟩, false, [], []⟩,
 ⟨kS d81 (oIaa 6 3 t80 t78), ⟨(some 81), (.iaa 6 3 (.t 80) (.t 78)), none⟩, false, [], []⟩,
 ⟨kS d82 (oIaa 3 1 t81 (gI 2)), ⟨(some 82), (.iaa 3 1 (.t 81) (.c (.int .i64 2))), none⟩, false, [], []⟩,
 ⟨kS d83 (oLd false 1 t82), ⟨(some 83), (.ld false 1 (.t 82)), none⟩, false, [⟨(some 83), (.ld false 1 (.t 82)), none⟩], []⟩,
 ⟨kS d84 (oMv t14), ⟨(some 84), (.mv (.t 14)), none⟩, false, [], []⟩,
 ⟨kS d85 (oBin .sub t83 t84), ⟨(some 85), (.bin .sub (.t 83) (.t 84)), none⟩, false, [], []⟩,
 ⟨kS d86 (oNilck t77), ⟨(some 86), (.nilck (.t 77)), none⟩, false, [], []⟩,
 ⟨kS d87 (oFa t86 7), ⟨(some 87), (.fa (.t 86) 7), none⟩, false, [], []⟩,
 ⟨kS d88 (oIaa 6 3 t87 t78), ⟨(some 88), (.iaa 6 3 (.t 87) (.t 78)), none⟩, false, [], []⟩,
 ⟨kS d89 (oIaa 3 1 t88 (gI 2)), ⟨(some 89), (.iaa 3 1 (.t 88) (.c (.int .i64 2))), none⟩, false, [], []⟩,
 ⟨kN (oSt 1 t89 t85), ⟨none, (.st 1 (.t 89) (.t 85)), none⟩, true, [], []⟩])
 (kDraw [⟨kS d90 (oMv t9), ⟨(some 90), (.mv (.t 9)), none⟩, false, [], []⟩,
 ⟨kS d91 (oMv t12), ⟨(some 91), (.mv (.t 12)), none⟩, false, [], []⟩,
 ⟨kS d92 (oNilck t90), ⟨(some 92), (.nilck (.t 90)), none⟩, false, [], []⟩,
 ⟨kS d93 (oFa t92 7), ⟨(some 93), (.fa (.t 92) 7), none⟩, false, [], []⟩,
 ⟨kS d94 (oIaa 6 3 t93 t91), ⟨(some 94), (.iaa 6 3 (.t 93) (.t 91)), none⟩, false, [], []⟩,
 ⟨kS d95 (oIaa 3 1 t94 (gI 0)), ⟨(some 95), (.iaa 3 1 (.t 94) (.c (.int .i64 0))), none⟩, false, [], []⟩,
 ⟨kS d96 (oLd false 1 t95), ⟨(some 96), (.ld false 1 (.t 95)), none⟩, false, [⟨(some 96), (.ld false 1 (.t 95)), none⟩], []⟩,
 ⟨kS d97 (oMv t14), ⟨(some 97), (.mv (.t 14)), none⟩, false, [], []⟩,
 ⟨kS d98 (oBin .add t96 t97), ⟨(some 98), (.bin .add (.t 96) (.t 97)), none⟩, false, [], []⟩,
 ⟨kS d99 (oNilck t90), ⟨(some 99), (.nilck (.t 90)), none⟩, false, [], []⟩,
 ⟨kS d100 (oFa t99 7), ⟨(some 100), (.fa (.t 99) 7), none⟩, false, [], []⟩,
 ⟨kS d101 (oIaa 6 3 t100 t91), ⟨(some 101), (.iaa 6 3 (.t 100) (.t 91)), none⟩, false, [], []⟩,
 ⟨kS d102 (oIaa 3 1 t101 (gI 0)), ⟨(some 102), (.iaa 3 1 (.t 101) (.c (.int .i64 0))), none⟩, false, [], []⟩,
 ⟨kN (oSt 1 t102 t98), ⟨none, (.st 1 (.t 102) (.t 98)), none⟩, true, [], []⟩]))))))
 (kRegion [kS d103 (oBin .add t54 (gI 1)),
 kS d54 (oMv t103)])))))))
 (kSeq (kRegion [kS d104 (oMv t9),
 kS d4 (oMv t104),
 kS d5 (oMv (gI 0))])
 kRet)))))))
theorem e48 : b48 = comp ir48.code := by kernel_rfl
def k48 : KF := ⟨105, b48, [.tmp 4, .tmp 5]⟩
def b50 : KC := (kSeq (kRegion [kS d3 (oBox t0),
 kS d5 (oBox t2),
 kS d6 (oMv (gC .nilptr)),
 kS d7 (oAlloc (.agg [(.int .i64 0), (.int .i64 0), (.int .i64 0)])),
 kS d8 (oMv (gI 0))])
 (kSeq (kRegion [kS d14 (oLd true 6 t3),
 kS d15 (oCall (gC (.func 48 [] [])) [t14, (gI 0)]),
 kS d13 (oMv t15),
 kS d16 (oExt t13 0),
 kS d17 (oExt t13 1),
 kS d6 (oMv t16),
 kS d8 (oMv t17)])
 (kSeq (kBlock 0 (kSeq (kRegion [kS d19 (oMv t8),
 kS d20 (oBin .neq t19 (gI 0)),
 kS d18 (oMv t20)])
 (kCond t18 (kSeq (kDraw [⟨kS d21 (oLd true 3 t7), ⟨(some 21), (.ld true 3 (.t 7)), none⟩, false, [⟨(some 21), (.ld true 3 (.t 7)), none⟩], []⟩,
 ⟨kS d22 (oMv t8), ⟨(some 22), (.mv (.t 8)), none⟩, false, [], []⟩,
 ⟨kS d6 (oMv (gC .nilptr)), ⟨(some 6), (.mv (.c .nilptr)), none⟩, false, [], []⟩,
 ⟨kN (oSt 3 t7 t21), ⟨none, (.st 3 (.t 7) (.t 21)), none⟩, true, [], []⟩,
 ⟨kS d8 (oMv t22), ⟨(some 8), (.mv (.t 22)), none⟩, false, [], []⟩])
 kRet)
 (kSeq (kRegion [kS d24 (oFa t3 4),
 kS d25 (oLd false 1 t24),
 kS d26 (oLen false t25),
 kS d27 (oBin .sub t26 (gI 1)),
 kS d28 (oMv t1),
 kS d29 (oCall (gC (.func 38 [] [])) [(gI 0), t27, t28]),
 kS d23 (oMv t29)])
 (kCond t23 (kSeq (kDraw [⟨kS d30 (oLd true 3 t7), ⟨(some 30), (.ld true 3 (.t 7)), none⟩, false, [⟨(some 30), (.ld true 3 (.t 7)), none⟩], []⟩,
 ⟨kS d6 (oMv (gC .nilptr)), ⟨(some 6), (.mv (.c .nilptr)), none⟩, false, [], []⟩,
 ⟨kN (oSt 3 t7 t30), ⟨none, (.st 3 (.t 7) (.t 30)), none⟩, true, [], []⟩,
 ⟨kS d8 (oMv (gI 4)), ⟨(some 8), (.mv (.c (.int .i64 4))), none⟩, false, [], []⟩])
 kRet)
 kSkip)))))
 (kSeq (kSeq (kRegion [kS d31 (oMv t1),
 kS d32 (oLen false t31),
 kS d33 (oMv (gI 0))])
 (kBlock 1 (kLoop (kSeq (kRegion [kS d34 (oBin .lss t33 t32)])
 (kSeq (kCond t34 kSkip
 (kExit 1))
 (kSeq (kBlock 2 (kSeq (kRegion [kS d35 (oMv t33),
 kS d36 (oIa 1 t31 t33),
 kS d37 (oLd false 1 t36),
 kS d9 (oMv t35),
 kS d10 (oMv t37)])
 (kSeq (kRegion [kS d38 (oMv t9),
 kS d39 (oBin .gtr t38 (gI 0)),
 kS d40 (oMv t39),
 kG t40 true d41 (oMv t10),
 kG t40 true d42 (oMv t1),
 kG t40 true d43 (oMv t9),
 kG t40 true d44 (oBin .sub t43 (gI 1)),
 kG t40 true d45 (oIa 1 t42 t44),
 kG t40 true d46 (oLd false 1 t45),
 kG t40 true d47 (oBin .leq t41 t46),
 kS d48 (oPick t40 t47 (gC (.bool false))),
 kS d49 (oMv t48),
 kG t49 false d50 (oFa t3 4),
 kG t49 false d51 (oLd false 1 t50),
 kG t49 false d52 (oMv t10),
 kG t49 false d53 (oIa 6 t51 t52),
 kG t49 false d54 (oFa t53 5),
 kG t49 false d55 (oLd false 1 t54),
 kS d56 (oPick t49 (gC (.bool true)) t55)])
 (kCond t56 (kSeq (kDraw [⟨kS d57 (oLd true 3 t7), ⟨(some 57), (.ld true 3 (.t 7)), none⟩, false, [⟨(some 57), (.ld true 3 (.t 7)), none⟩], []⟩,
 ⟨kS d6 (oMv (gC .nilptr)), ⟨(some 6), (.mv (.c .nilptr)), none⟩, false, [], []⟩,
 ⟨kN (oSt 3 t7 t57), ⟨none, (.st 3 (.t 7) (.t 57)), none⟩, true, [], []⟩,
 ⟨kS d8 (oMv (gI 2)), ⟨(some 8), (.mv (.c (.int .i64 2))), none⟩, false, [], []⟩])
 kRet)
 kSkip))))
 (kRegion [kS d58 (oBin .add t33 (gI 1)),
 kS d33 (oMv t58)])))))))
 (kSeq (kSeq (kRegion [kS d59 (oLd true 3 t5),
 kS d60 (oMv (gI 0))])
 (kBlock 3 (kLoop (kSeq (kRegion [kS d61 (oBin .lss t60 (gI 3))])
 (kSeq (kCond t61 kSkip
 (kExit 3))
 (kSeq (kBlock 4 (kSeq (kRegion [kS d62 (oMv t60),
 kS d63 (oIx 3 1 false t59 t60),
 kS d11 (oMv t62),
 kS d12 (oMv t63)])
 (kSeq (kRegion [kS d64 (oMv t11),
 kS d65 (oFa t3 0),
 kS d66 (oIaa 3 1 t65 t64),
 kS d67 (oLd false 1 t66),
 kS d68 (oMv t12),
 kS d69 (oBldS 1 1 [(.int .i64 0)] [(0, 1, t68)]),
 kS d70 (oCall (gC (.func 38 [] [])) [(gI 0), t67, t69])])
 (kCond t70 (kSeq (kDraw [⟨kS d71 (oLd true 3 t7), ⟨(some 71), (.ld true 3 (.t 7)), none⟩, false, [⟨(some 71), (.ld true 3 (.t 7)), none⟩], []⟩,
 ⟨kS d6 (oMv (gC .nilptr)), ⟨(some 6), (.mv (.c .nilptr)), none⟩, false, [], []⟩,
 ⟨kN (oSt 3 t7 t71), ⟨none, (.st 3 (.t 7) (.t 71)), none⟩, true, [], []⟩,
 ⟨kS d8 (oMv (gI 7)), ⟨(some 8), (.mv (.c (.int .i64 7))), none⟩, false, [], []⟩])
 kRet)
 kSkip))))
 (kRegion [kS d72 (oBin .add t60 (gI 1)),
 kS d60 (oMv t72)])))))))
 (kSeq (kRegion [kS d73 (oMv t6),
 kS d74 (oMv t6),
 kS d75 (oLd true 3 t5),
 kS d76 (oMv t1),
 kS d77 (oCall (gC (.func 55 [] [])) [t74, t75, t76]),
 kS d6 (oMv t73),
 kN (oSt 3 t7 t77),
 kS d8 (oMv (gI 0))])
 kRet))))))
theorem e50 : b50 = comp ir50.code := by kernel_rfl
def k50 : KF := ⟨78, b50, [.tmp 6, .cell 7 true 3, .tmp 8]⟩
def b51 : KC := (kSeq (kRegion [kS d4 (oBox t1),
 kS d5 (oBox t2),
 kS d6 (oMv (gC (.bool false)))])
 (kSeq (kSeq (kRegion [kS d9 (oMv t0),
 kS d10 (oNilck t9),
 kS d11 (oFa t10 25),
 kS d12 (oLd false 1 t11),
 kS d13 (oLen false t12),
 kS d14 (oMv (gI 0))])
 (kBlock 0 (kLoop (kSeq (kRegion [kS d15 (oBin .lss t14 t13)])
 (kSeq (kCond t15 kSkip
 (kExit 0))
 (kSeq (kBlock 1 (kSeq (kRegion [kS d16 (oIa 2 t12 t14),
 kS d17 (oLd true 2 t16),
 kS d8 (oAlloc (.agg [(.int .i64 0), .nilfunc])),
 kN (oSt 2 t8 t17)])
 (kSeq (kDraw [⟨kS d18 (oFa t8 1), ⟨(some 18), (.fa (.t 8) 1), none⟩, false, [], []⟩,
 ⟨kS d19 (oLd false 1 t18), ⟨(some 19), (.ld false 1 (.t 18)), none⟩, false, [⟨(some 19), (.ld false 1 (.t 18)), none⟩], []⟩,
 ⟨kS d20 (oLd true 6 t5), ⟨(some 20), (.ld true 6 (.t 5)), none⟩, false, [⟨(some 20), (.ld true 6 (.t 5)), none⟩], []⟩,
 ⟨kS d21 (oCall t19 [t20]), ⟨(some 21), (.call (.t 19) [(.t 20)]), none⟩, true, [], []⟩,
 ⟨kS d22 (oFld false 0 1 t21), ⟨(some 22), (.fld false 0 1 (.t 21)), none⟩, false, [], []⟩,
 ⟨kS d23 (oLd true 3 t4), ⟨(some 23), (.ld true 3 (.t 4)), none⟩, false, [⟨(some 23), (.ld true 3 (.t 4)), none⟩], [3]⟩,
 ⟨kS d24 (oCall (gC (.func 52 [] [])) [t23]), ⟨(some 24), (.call (.c (.func 52 [] [])) [(.t 23)]), none⟩, true, [], []⟩,
 ⟨kS d25 (oBin .mul t22 t24), ⟨(some 25), (.bin .mul (.t 22) (.t 24)), none⟩, false, [], []⟩,
 ⟨kS d26 (oFa t8 1), ⟨(some 26), (.fa (.t 8) 1), none⟩, false, [], []⟩,
 ⟨kS d27 (oLd false 1 t26), ⟨(some 27), (.ld false 1 (.t 26)), none⟩, false, [⟨(some 27), (.ld false 1 (.t 26)), none⟩], [3, 6]⟩,
 ⟨kS d28 (oLd true 6 t5), ⟨(some 28), (.ld true 6 (.t 5)), none⟩, false, [⟨(some 28), (.ld true 6 (.t 5)), none⟩], [3, 6]⟩,
 ⟨kS d29 (oCall t27 [t28]), ⟨(some 29), (.call (.t 27) [(.t 28)]), none⟩, true, [], []⟩,
 ⟨kS d30 (oFld false 1 1 t29), ⟨(some 30), (.fld false 1 1 (.t 29)), none⟩, false, [], []⟩,
 ⟨kS d31 (oLd true 3 t4), ⟨(some 31), (.ld true 3 (.t 4)), none⟩, false, [⟨(some 31), (.ld true 3 (.t 4)), none⟩], [3, 6, 11]⟩,
 ⟨kS d32 (oCall (gC (.func 52 [] [])) [t31]), ⟨(some 32), (.call (.c (.func 52 [] [])) [(.t 31)]), none⟩, true, [], []⟩,
 ⟨kS d33 (oBin .mul t30 t32), ⟨(some 33), (.bin .mul (.t 30) (.t 32)), none⟩, false, [], []⟩,
 ⟨kS d34 (oFa t8 0), ⟨(some 34), (.fa (.t 8) 0), none⟩, false, [], []⟩,
 ⟨kS d35 (oLd false 1 t34), ⟨(some 35), (.ld false 1 (.t 34)), none⟩, false, [⟨(some 35), (.ld false 1 (.t 34)), none⟩], [3, 6, 11, 14]⟩,
 ⟨kS d36 (oIaa 3 1 t4 t35), ⟨(some 36), (.iaa 3 1 (.t 4) (.t 35)), none⟩, false, [], []⟩,
 ⟨kS d37 (oLd false 1 t36), ⟨(some 37), (.ld false 1 (.t 36)), none⟩, false, [⟨(some 37), (.ld false 1 (.t 36)), none⟩], [3, 6, 11, 14]⟩,
 ⟨kS d38 (oBin .mul (gI 1000) t37), ⟨(some 38), (.bin .mul (.c (.int .i64 1000)) (.t 37)), none⟩, false, [], []⟩,
 ⟨kS d39 (oBldS 1 1 [(.int .i64 0)] [(0, 1, t38)]), ⟨(some 39), (.bldS 1 1 [(.int .i64 0)] [(0, 1, (.t 38))]), none⟩, false, [], []⟩,
 ⟨kS d40 (oCall (gC (.func 38 [] [])) [t25, t33, t39]), ⟨(some 40), (.call (.c (.func 38 [] [])) [(.t 25), (.t 33), (.t 39)]), none⟩, true, [], []⟩])
 (kCond t40 (kSeq (kRegion [kS d6 (oMv (gC (.bool false)))])
 kRet)
 kSkip))))
 (kRegion [kS d41 (oBin .add t14 (gI 1)),
 kS d14 (oMv t41)])))))))
 (kSeq (kRegion [kS d6 (oMv (gC (.bool true)))])
 kRet)))
theorem e51 : b51 = comp ir51.code := by kernel_rfl
def k51 : KF := ⟨42, b51, [.tmp 6]⟩
def b52 : KC := (kSeq (kRegion [kS d1 (oBox t0),
 kS d2 (oMv (gI 0))])
 (kSeq (kRegion [kS d3 (oIaa 3 1 t1 (gI 0)),
 kS d4 (oLd false 1 t3),
 kS d5 (oIaa 3 1 t1 (gI 1)),
 kS d6 (oLd false 1 t5),
 kS d7 (oBin .add t4 t6),
 kS d8 (oIaa 3 1 t1 (gI 2)),
 kS d9 (oLd false 1 t8),
 kS d10 (oBin .add t7 t9),
 kS d2 (oMv t10)])
 kRet))
theorem e52 : b52 = comp ir52.code := by kernel_rfl
def k52 : KF := ⟨11, b52, [.tmp 2]⟩
def b53 : KC := (kSeq (kRegion [kS d1 (oBox t0),
 kS d2 (oMv (gC .nilfunc))])
 (kSeq (kRegion [kS d3 (oMkfn 75 [] [t1]),
 kS d2 (oMv t3)])
 kRet))
theorem e53 : b53 = comp ir53.code := by kernel_rfl
def k53 : KF := ⟨4, b53, [.tmp 2]⟩
def b54 : KC := (kSeq (kRegion [kS d3 (oBox t1),
 kS d4 (oAlloc (.agg [(.int .i64 0), (.int .i64 0), (.int .i64 0), (.bool false)]))])
 (kSeq (kSeq (kDraw [⟨kS d16 (oMv t0), ⟨(some 16), (.mv (.t 0)), none⟩, false, [], []⟩,
 ⟨kS d17 (oNilck t16), ⟨(some 17), (.nilck (.t 16)), none⟩, false, [], []⟩,
 ⟨kS d18 (oFa t17 26), ⟨(some 18), (.fa (.t 17) 26), none⟩, false, [], []⟩,
 ⟨kS d19 (oLd false 1 t18), ⟨(some 19), (.ld false 1 (.t 18)), none⟩, false, [⟨(some 19), (.ld false 1 (.t 18)), none⟩], []⟩,
 ⟨kS d20 (oLd true 3 t3), ⟨(some 20), (.ld true 3 (.t 3)), none⟩, false, [⟨(some 20), (.ld true 3 (.t 3)), none⟩], []⟩,
 ⟨kS d21 (oGen (.lkp (.ag [.i, .i, .i]) (.agg [(.int .i64 0), (.int .i64 0), (.int .i64 0), (.bool false)]) true (.t 19) (.t 20))), ⟨(some 21), (.lkp (.ag [.i, .i, .i]) (.agg [(.int .i64 0), (.int .i64 0), (.int .i64 0), (.bool false)]) true (.t 19) (.t 20)), none⟩, false, [⟨(some 21), (.lkp (.ag [.i, .i, .i]) (.agg [(.int .i64 0), (.int .i64 0), (.int .i64 0), (.bool false)]) true (.t 19) (.t 20)), none⟩], []⟩,
 ⟨kS d15 (oMv t21), ⟨(some 15), (.mv (.t 21)), none⟩, false, [], []⟩,
 ⟨kS d22 (oExt t15 0), ⟨(some 22), (.ext (.t 15) 0), none⟩, false, [], []⟩,
 ⟨kS d23 (oExt t15 1), ⟨(some 23), (.ext (.t 15) 1), none⟩, false, [], []⟩,
 ⟨kS d5 (oAlloc (.agg [(.int .i64 0), (.int .i64 0), (.int .i64 0), (.bool false)])), ⟨(some 5), (.alloc (.agg [(.int .i64 0), (.int .i64 0), (.int .i64 0), (.bool false)])), none⟩, false, [], []⟩,
 ⟨kN (oSt 4 t5 t22), ⟨none, (.st 4 (.t 5) (.t 22)), none⟩, true, [], []⟩,
 ⟨kS d6 (oMv t23), ⟨(some 6), (.mv (.t 23)), none⟩, false, [], []⟩])
 (kSeq (kRegion [kS d24 (oMv t6)])
 (kCond t24 (kSeq (kRegion [kS d25 (oLd true 4 t5),
 kN (oSt 4 t4 t25)])
 kRet)
 kSkip)))
 (kSeq (kRegion [kS d7 (oAlloc (.agg [(.int .i64 0), (.int .i64 0), (.int .i64 0), (.bool false)]))])
 (kSeq (kSeq (kRegion [kS d26 (oMv t0),
 kS d27 (oNilck t26),
 kS d28 (oFa t27 0),
 kS d29 (oFa t28 0),
 kS d30 (oIaa 3 1 t29 (gI 1)),
 kS d31 (oLd false 1 t30),
 kS d32 (oBin .add t31 (gI 1)),
 kS d33 (oMv (gI 0))])
 (kBlock 0 (kLoop (kSeq (kRegion [kS d34 (oBin .lss t33 t32)])
 (kSeq (kCond t34 kSkip
 (kExit 0))
 (kSeq (kBlock 1 (kSeq (kRegion [kS d35 (oMv t33),
 kS d8 (oMv t35)])
 (kSeq kSkip
 (kSeq (kRegion [kS d36 (oMv t0),
 kS d37 (oNilck t36),
 kS d38 (oFa t37 0),
 kS d39 (oFa t38 0),
 kS d40 (oIaa 3 1 t39 (gI 2)),
 kS d41 (oLd false 1 t40),
 kS d42 (oBin .add t41 (gI 1)),
 kS d43 (oMv (gI 0))])
 (kBlock 2 (kLoop (kSeq (kRegion [kS d44 (oBin .lss t43 t42)])
 (kSeq (kCond t44 kSkip
 (kExit 2))
 (kSeq (kBlock 3 (kSeq (kRegion [kS d45 (oMv t43),
 kS d9 (oMv t45)])
 (kSeq (kRegion [kS d46 (oLd true 3 t3),
 kS d10 (oAlloc (.agg [(.int .i64 0), (.int .i64 0), (.int .i64 0)])),
 kN (oSt 3 t10 t46)])
 (kSeq (kRegion [kS d47 (oIaa 3 1 t10 (gI 1)),
 kS d48 (oLd false 1 t47),
 kS d49 (oMv t8),
 kS d50 (oBin .add t48 t49),
 kS d51 (oIaa 3 1 t10 (gI 1)),
 kN (oSt 1 t51 t50)])
 (kSeq (kRegion [kS d52 (oIaa 3 1 t10 (gI 2)),
 kS d53 (oLd false 1 t52),
 kS d54 (oMv t9),
 kS d55 (oBin .add t53 t54),
 kS d56 (oIaa 3 1 t10 (gI 2)),
 kN (oSt 1 t56 t55)])
 (kSeq (kRegion [kS d58 (oMv t0),
 kS d59 (oLd true 3 t10),
 kS d60 (oCall (gC (.func 81 [] [])) [t58, t59]),
 kS d57 (oMv t60),
 kS d61 (oExt t57 0),
 kS d62 (oExt t57 1),
 kS d11 (oMv t61),
 kS d12 (oMv t62)])
 (kSeq (kSeq (kRegion [kS d63 (oMv t12),
 kS d64 (oNot t63)])
 (kCond t64 (kExit 3)
 kSkip))
 (kSeq (kRegion [kS d65 (oMv t11),
 kS d66 (oMv t8),
 kS d67 (oMv t9),
 kS d68 (oBld [(.int .i64 0), (.int .i64 0), (.int .i64 0)] [(0, 1, t65), (1, 1, t66), (2, 1, t67)]),
 kS d69 (oBld [(.int .i64 0), (.int .i64 0), (.int .i64 0), (.bool false)] [(0, 3, t68), (3, 1, (gC (.bool true)))]),
 kS d13 (oAlloc (.agg [(.int .i64 0), (.int .i64 0), (.int .i64 0), (.bool false)])),
 kN (oSt 4 t13 t69)])
 (kSeq (kDraw [⟨kS d70 (oFa t13 0), ⟨(some 70), (.fa (.t 13) 0), none⟩, false, [], []⟩,
 ⟨kS d71 (oLd true 3 t70), ⟨(some 71), (.ld true 3 (.t 70)), none⟩, false, [⟨(some 71), (.ld true 3 (.t 70)), none⟩], []⟩,
 ⟨kS d72 (oCall (gC (.func 52 [] [])) [t71]), ⟨(some 72), (.call (.c (.func 52 [] [])) [(.t 71)]), none⟩, true, [], []⟩,
 ⟨kS d73 (oFa t7 0), ⟨(some 73), (.fa (.t 7) 0), none⟩, false, [], []⟩,
 ⟨kS d74 (oLd true 3 t73), ⟨(some 74), (.ld true 3 (.t 73)), none⟩, false, [⟨(some 74), (.ld true 3 (.t 73)), none⟩], [2]⟩,
 ⟨kS d75 (oCall (gC (.func 52 [] [])) [t74]), ⟨(some 75), (.call (.c (.func 52 [] [])) [(.t 74)]), none⟩, true, [], []⟩,
 ⟨kS d76 (oBin .sub t72 t75), ⟨(some 76), (.bin .sub (.t 72) (.t 75)), none⟩, false, [], []⟩,
 ⟨kS d14 (oMv t76), ⟨(some 14), (.mv (.t 76)), none⟩, false, [], []⟩])
 (kSeq (kDraw [⟨kS d77 (oLd true 4 t7), ⟨(some 77), (.ld true 4 (.t 7)), none⟩, false, [⟨(some 77), (.ld true 4 (.t 7)), none⟩], []⟩,
 ⟨kS d78 (oBld [(.int .i64 0), (.int .i64 0), (.int .i64 0), (.bool false)] []), ⟨(some 78), (.bld [(.int .i64 0), (.int .i64 0), (.int .i64 0), (.bool false)] []), none⟩, false, [], []⟩,
 ⟨kS d79 (oEqv (.ag [.i, .i, .i, .b]) false t77 t78), ⟨(some 79), (.eqv (.ag [.i, .i, .i, .b]) false (.t 77) (.t 78)), none⟩, false, [], []⟩,
 ⟨kS d80 (oMv t79), ⟨(some 80), (.mv (.t 79)), none⟩, false, [], []⟩,
 ⟨kG t80 false d81 (oMv t14), ⟨(some 81), (.mv (.t 14)), (some (80, false))⟩, false, [], []⟩,
 ⟨kG t80 false d82 (oBin .lss t81 (gI 0)), ⟨(some 82), (.bin .lss (.t 81) (.c (.int .i64 0))), (some (80, false))⟩, false, [], []⟩,
 ⟨kS d83 (oPick t80 (gC (.bool true)) t82), ⟨(some 83), (.pick (.t 80) (.c (.bool true)) (.t 82)), none⟩, false, [], []⟩,
 ⟨kS d84 (oMv t83), ⟨(some 84), (.mv (.t 83)), none⟩, false, [], []⟩,
 ⟨kG t84 false d85 (oMv t14), ⟨(some 85), (.mv (.t 14)), (some (84, false))⟩, false, [], []⟩,
 ⟨kG t84 false d86 (oBin .eql t85 (gI 0)), ⟨(some 86), (.bin .eql (.t 85) (.c (.int .i64 0))), (some (84, false))⟩, false, [], []⟩,
 ⟨kG t84 false d87 (oMv t86), ⟨(some 87), (.mv (.t 86)), (some (84, false))⟩, false, [], []⟩,
 ⟨kG t87 true d88 (oFa t13 0), ⟨(some 88), (.fa (.t 13) 0), (some (87, true))⟩, false, [], []⟩,
 ⟨kG t87 true d89 (oGen (.slca 3 1 (.t 88) none none none)), ⟨(some 89), (.slca 3 1 (.t 88) none none none), (some (87, true))⟩, false, [⟨(some 89), (.slca 3 1 (.t 88) none none none), (some (87, true))⟩], []⟩,
 ⟨kG t87 true d90 (oFa t7 0), ⟨(some 90), (.fa (.t 7) 0), (some (87, true))⟩, false, [], []⟩,
 ⟨kG t87 true d91 (oGen (.slca 3 1 (.t 90) none none none)), ⟨(some 91), (.slca 3 1 (.t 90) none none none), (some (87, true))⟩, false, [⟨(some 91), (.slca 3 1 (.t 90) none none none), (some (87, true))⟩], []⟩,
 ⟨kG t87 true d92 (oCall (gC (.func 80 [] [])) [t89, t91]), ⟨(some 92), (.call (.c (.func 80 [] [])) [(.t 89), (.t 91)]), (some (87, true))⟩, true, [], []⟩,
 ⟨kG t87 true d93 (oBin .lss t92 (gI 0)), ⟨(some 93), (.bin .lss (.t 92) (.c (.int .i64 0))), (some (87, true))⟩, false, [], []⟩,
 ⟨kG t84 false d94 (oPick t87 t93 (gC (.bool false))), ⟨(some 94), (.pick (.t 87) (.t 93) (.c (.bool false))), (some (84, false))⟩, false, [], []⟩,
 ⟨kS d95 (oPick t84 (gC (.bool true)) t94), ⟨(some 95), (.pick (.t 84) (.c (.bool true)) (.t 94)), none⟩, false, [], []⟩])
 (kCond t95 (kRegion [kS d96 (oLd true 4 t13),
 kN (oSt 4 t7 t96)])
 kSkip)))))))))))
 (kRegion [kS d97 (oBin .add t43 (gI 1)),
 kS d43 (oMv t97)]))))))))))
 (kRegion [kS d98 (oBin .add t33 (gI 1)),
 kS d33 (oMv t98)])))))))
 (kSeq (kDraw [⟨kS d99 (oMv t0), ⟨(some 99), (.mv (.t 0)), none⟩, false, [], []⟩,
 ⟨kS d100 (oNilck t99), ⟨(some 100), (.nilck (.t 99)), none⟩, false, [], []⟩,
 ⟨kS d101 (oFa t100 26), ⟨(some 101), (.fa (.t 100) 26), none⟩, false, [], []⟩,
 ⟨kS d102 (oLd false 1 t101), ⟨(some 102), (.ld false 1 (.t 101)), none⟩, false, [⟨(some 102), (.ld false 1 (.t 101)), none⟩], []⟩,
 ⟨kS d103 (oLd true 3 t3), ⟨(some 103), (.ld true 3 (.t 3)), none⟩, false, [⟨(some 103), (.ld true 3 (.t 3)), none⟩], []⟩,
 ⟨kS d104 (oLd true 4 t7), ⟨(some 104), (.ld true 4 (.t 7)), none⟩, false, [⟨(some 104), (.ld true 4 (.t 7)), none⟩], []⟩,
 ⟨kN (oGen (.mapup (.ag [.i, .i, .i]) (.t 102) (.t 103) (.t 104))), ⟨none, (.mapup (.ag [.i, .i, .i]) (.t 102) (.t 103) (.t 104)), none⟩, true, [], []⟩])
 (kSeq (kRegion [kS d105 (oLd true 4 t7),
 kN (oSt 4 t4 t105)])
 kRet))))))
theorem e54 : b54 = comp ir54.code := by kernel_rfl
def k54 : KF := ⟨106, b54, [.cell 4 true 4]⟩
def b55 : KC := (kSeq (kRegion [kS d4 (oBox t1),
 kS d6 (oAlloc (.agg [(.int .i64 0), (.int .i64 0), (.int .i64 0)]))])
 (kSeq (kSeq (kRegion [kS d11 (oMv t2),
 kS d12 (oLen false t11),
 kS d13 (oMv (gI 0))])
 (kBlock 0 (kLoop (kSeq (kRegion [kS d14 (oBin .lss t13 t12)])
 (kSeq (kCond t14 kSkip
 (kExit 0))
 (kSeq (kBlock 1 (kSeq (kRegion [kS d15 (oIa 1 t11 t13),
 kS d16 (oLd false 1 t15),
 kS d8 (oMv t16)])
 (kSeq (kRegion [kS d17 (oMv t0),
 kS d18 (oMv t8),
 kS d19 (oNilck t17),
 kS d20 (oFa t19 7),
 kS d21 (oIaa 6 3 t20 t18),
 kS d22 (oLd true 3 t21),
 kS d23 (oMv (gI 0))])
 (kBlock 2 (kLoop (kSeq (kRegion [kS d24 (oBin .lss t23 (gI 3))])
 (kSeq (kCond t24 kSkip
 (kExit 2))
 (kSeq (kBlock 3 (kSeq (kRegion [kS d25 (oMv t23),
 kS d26 (oIx 3 1 false t22 t23),
 kS d9 (oMv t25),
 kS d10 (oMv t26)])
 (kRegion [kS d27 (oMv t9),
 kS d28 (oIaa 3 1 t4 t27),
 kS d29 (oLd false 1 t28),
 kS d30 (oMv t10),
 kS d31 (oBin .add t29 t30),
 kS d32 (oIaa 3 1 t4 t27),
 kN (oSt 1 t32 t31)])))
 (kRegion [kS d33 (oBin .add t23 (gI 1)),
 kS d23 (oMv t33)])))))))))
 (kRegion [kS d34 (oBin .add t13 (gI 1)),
 kS d13 (oMv t34)])))))))
 (kSeq (kRegion [kS d35 (oLd true 3 t4),
 kN (oSt 3 t6 t35)])
 kRet)))
theorem e55 : b55 = comp ir55.code := by kernel_rfl
def k55 : KF := ⟨36, b55, [.cell 6 true 3]⟩
def b58 : KC := (kSeq (kRegion [kS d4 (oMv (gC (.bool false)))])
 (kSeq (kRegion [kS d5 (oMv t0),
 kS d6 (oMv t0),
 kS d7 (oBld [(.int .i64 0), (.int .i64 0), (.int .i64 0)] []),
 kS d8 (oMv t1),
 kS d9 (oCall (gC (.func 55 [] [])) [t6, t7, t8]),
 kS d10 (oCall (gC (.func 54 [] [])) [t5, t9]),
 kS d11 (oFld false 3 1 t10),
 kS d4 (oMv t11)])
 kRet))
theorem e58 : b58 = comp ir58.code := by kernel_rfl
def k58 : KF := ⟨12, b58, [.tmp 4]⟩
def b61 : KC := (kSeq (kRegion [kS d4 (oMv (gC (.bool false)))])
 (kSeq (kRegion [kS d5 (oMv t0),
 kS d6 (oMv t1),
 kS d7 (oCall (gC (.func 82 [] [])) [t5, t6]),
 kS d8 (oBin .geq t7 (gI 0)),
 kS d4 (oMv t8)])
 kRet))
theorem e61 : b61 = comp ir61.code := by kernel_rfl
def k61 : KF := ⟨9, b61, [.tmp 4]⟩
def b62 : KC := (kSeq (kRegion [kS d1 (oBox t0),
 kS d2 (oAlloc (.bool false))])
 (kSeq (kSeq (kRegion [kS d4 (oLd false 1 t1),
 kS d5 (oCall (gC (.func 53 [] [])) [t4])])
 (kBlock 0 (kRange t5 [6]
 (ICode.region [⟨(some 3), (.mv (.t 6)), none⟩])
 (ICode.block 1
 (ICode.seq (ICode.region [⟨(some 7), (.ld false 1 (.t 1)), none⟩,
 ⟨(some 8), (.mv (.t 3)), none⟩,
 ⟨(some 9), (.call (.c (.func 58 [] [])) [(.t 7), (.t 8)]), none⟩])
 (ICode.cond (.t 9)
 (ICode.seq (ICode.region [⟨none, (.st 1 (.t 2) (.c (.bool true))), none⟩])
 ICode.ret)
 ICode.skip))))))
 (kSeq (kRegion [kN (oSt 1 t2 (gC (.bool false)))])
 kRet)))
theorem e62 : b62 = comp ir62.code := by kernel_rfl
def k62 : KF := ⟨10, b62, [.cell 2 false 1]⟩
def b63 : KC := (kSeq (kRegion [kS d2 (oAlloc (.agg [(.int .i64 0), (.int .i64 0), (.int .i64 0), (.int .i64 0), .nilslice, .nilslice]))])
 (kSeq (kRegion [kS d4 (oCall (gC (.func 64 [] [])) [(gI 10), (gI 4), (gI 2)]),
 kS d5 (oCall (gC (.func 64 [] [])) [(gI 6), (gI 2), (gI 2)]),
 kS d6 (oBld [(.str []), (.int .i64 0), (.int .i64 0), (.int .i64 0), (.int .i64 0), (.bool false)] [(0, 1, (gC (.str [100, 117, 107, 101]))), (1, 3, t5), (4, 1, (gI 45))]),
 kS d7 (oCall (gC (.func 64 [] [])) [(gI 8), (gI 4), (gI 0)]),
 kS d8 (oBld [(.str []), (.int .i64 0), (.int .i64 0), (.int .i64 0), (.int .i64 0), (.bool false)] [(0, 1, (gC (.str [116, 104, 105, 101, 102]))), (1, 3, t7)]),
 kS d9 (oCall (gC (.func 64 [] [])) [(gI 9), (gI 1), (gI 2)]),
 kS d10 (oBld [(.str []), (.int .i64 0), (.int .i64 0), (.int .i64 0), (.int .i64 0), (.bool false)] [(0, 1, (gC (.str [113, 117, 101, 101, 110]))), (1, 3, t9), (5, 1, (gC (.bool true)))]),
 kS d11 (oBldS 6 3 [(.str []), (.int .i64 0), (.int .i64 0), (.int .i64 0), (.int .i64 0), (.bool false)] [(0, 6, t6), (6, 6, t8), (12, 6, t10)]),
 kS d12 (oCall (gC (.func 83 [] [])) [(gI 100), (gI 300)]),
 kS d13 (oCall (gC (.func 83 [] [])) [(gI 50), (gI 150)]),
 kS d14 (oBld [(.str []), (.int .i64 0), (.int .i64 0), (.int .i64 0), (.int .i64 0), (.int .i64 0)] [(0, 1, (gC (.str [98, 105, 115, 104, 111, 112]))), (1, 1, (gI 12)), (2, 2, t12), (4, 2, t13)]),
 kS d15 (oCall (gC (.func 83 [] [])) [(gI 150), (gI 250)]),
 kS d16 (oCall (gC (.func 83 [] [])) [(gI 50), (gI 200)]),
 kS d17 (oBld [(.str []), (.int .i64 0), (.int .i64 0), (.int .i64 0), (.int .i64 0), (.int .i64 0)] [(0, 1, (gC (.str [99, 108, 111, 119, 110]))), (1, 1, (gI 6)), (2, 2, t15), (4, 2, t16)]),
 kS d18 (oBldS 6 2 [(.str []), (.int .i64 0), (.int .i64 0), (.int .i64 0), (.int .i64 0), (.int .i64 0)] [(0, 6, t14), (6, 6, t17)]),
 kS d19 (oBld [(.int .i64 0), (.int .i64 0), (.int .i64 0), (.int .i64 0), .nilslice, .nilslice] [(0, 3, t4), (3, 1, (gI 30)), (4, 1, t11), (5, 1, t18)]),
 kS d3 (oAlloc (.agg [(.int .i64 0), (.int .i64 0), (.int .i64 0), (.int .i64 0), .nilslice, .nilslice])),
 kN (oSt 6 t3 t19)])
 (kSeq (kSeq (kRegion [kS d20 (oMv t0)])
 (kCond t20 (kRegion [kS d21 (oCall (gC (.func 64 [] [])) [(gI 10), (gI 4), (gI 0)]),
 kS d22 (oFa t3 0),
 kN (oSt 3 t22 t21)])
 kSkip))
 (kSeq (kRegion [kS d23 (oLd true 6 t3),
 kN (oSt 6 t2 t23)])
 kRet))))
theorem e63 : b63 = comp ir63.code := by kernel_rfl
def k63 : KF := ⟨24, b63, [.cell 2 true 6]⟩
def b64 : KC := (kSeq (kRegion [kS d6 (oAlloc (.agg [(.int .i64 0), (.int .i64 0), (.int .i64 0)]))])
 (kSeq (kRegion [kS d7 (oMv t0),
 kS d8 (oMv t1),
 kS d9 (oMv t2),
 kS d10 (oBld [(.int .i64 0), (.int .i64 0), (.int .i64 0)] [(0, 1, t7), (1, 1, t8), (2, 1, t9)]),
 kN (oSt 3 t6 t10)])
 kRet))
theorem e64 : b64 = comp ir64.code := by kernel_rfl
def k64 : KF := ⟨11, b64, [.cell 6 true 3]⟩
def b65 : KC := (kSeq (kRegion [kS d4 (oMv (gC (.bool false)))])
 (kSeq (kRegion [kS d7 (oMv t0),
 kS d8 (oLen false t7),
 kS d9 (oMv t1),
 kS d10 (oLen false t9),
 kS d11 (oBin .eql t8 t10),
 kS d5 (oMv t11)])
 (kSeq (kSeq (kRegion [kS d6 (oMv (gI 0))])
 (kBlock 0 (kLoop (kSeq (kSeq (kRegion [kS d12 (oMv t5),
 kS d13 (oMv t12),
 kG t13 true d14 (oMv t6),
 kG t13 true d15 (oMv t0),
 kG t13 true d16 (oLen false t15),
 kG t13 true d17 (oBin .lss t14 t16),
 kS d18 (oPick t13 t17 (gC (.bool false)))])
 (kCond t18 kSkip
 (kExit 0)))
 (kSeq (kBlock 1 (kDraw [⟨kS d21 (oMv t0), ⟨(some 21), (.mv (.t 0)), none⟩, false, [], []⟩,
 ⟨kS d22 (oMv t6), ⟨(some 22), (.mv (.t 6)), none⟩, false, [], []⟩,
 ⟨kS d23 (oIa 1 t21 t22), ⟨(some 23), (.ia 1 (.t 21) (.t 22)), none⟩, false, [], []⟩,
 ⟨kS d24 (oLd false 1 t23), ⟨(some 24), (.ld false 1 (.t 23)), none⟩, false, [⟨(some 24), (.ld false 1 (.t 23)), none⟩], []⟩,
 ⟨kS d25 (oMv t1), ⟨(some 25), (.mv (.t 1)), none⟩, false, [], []⟩,
 ⟨kS d26 (oMv t6), ⟨(some 26), (.mv (.t 6)), none⟩, false, [], []⟩,
 ⟨kS d27 (oIa 1 t25 t26), ⟨(some 27), (.ia 1 (.t 25) (.t 26)), none⟩, false, [], []⟩,
 ⟨kS d28 (oLd false 1 t27), ⟨(some 28), (.ld false 1 (.t 27)), none⟩, false, [⟨(some 28), (.ld false 1 (.t 27)), none⟩], []⟩,
 ⟨kS d29 (oBin .eql t24 t28), ⟨(some 29), (.bin .eql (.t 24) (.t 28)), none⟩, false, [], []⟩,
 ⟨kS d5 (oMv t29), ⟨(some 5), (.mv (.t 29)), none⟩, false, [], []⟩]))
 (kRegion [kS d19 (oMv t6),
 kS d20 (oBin .add t19 (gI 1)),
 kS d6 (oMv t20)]))))))
 (kSeq (kRegion [kS d30 (oMv t5),
 kS d4 (oMv t30)])
 kRet))))
theorem e65 : b65 = comp ir65.code := by kernel_rfl
def k65 : KF := ⟨31, b65, [.tmp 4]⟩
def b66 : KC := (kSeq (kRegion [kS d4 (oMv (gC (.bool false)))])
 (kSeq (kRegion [kS d7 (oMv t0),
 kS d8 (oLen false t7),
 kS d9 (oMv t1),
 kS d10 (oLen false t9),
 kS d11 (oBin .eql t8 t10),
 kS d5 (oMv t11)])
 (kSeq (kSeq (kRegion [kS d6 (oMv (gI 0))])
 (kBlock 0 (kLoop (kSeq (kSeq (kRegion [kS d12 (oMv t5),
 kS d13 (oMv t12),
 kG t13 true d14 (oMv t6),
 kG t13 true d15 (oMv t0),
 kG t13 true d16 (oLen false t15),
 kG t13 true d17 (oBin .lss t14 t16),
 kS d18 (oPick t13 t17 (gC (.bool false)))])
 (kCond t18 kSkip
 (kExit 0)))
 (kSeq (kBlock 1 (kDraw [⟨kS d21 (oMv t0), ⟨(some 21), (.mv (.t 0)), none⟩, false, [], []⟩,
 ⟨kS d22 (oMv t6), ⟨(some 22), (.mv (.t 6)), none⟩, false, [], []⟩,
 ⟨kS d23 (oIa 1 t21 t22), ⟨(some 23), (.ia 1 (.t 21) (.t 22)), none⟩, false, [], []⟩,
 ⟨kS d24 (oLd false 1 t23), ⟨(some 24), (.ld false 1 (.t 23)), none⟩, false, [⟨(some 24), (.ld false 1 (.t 23)), none⟩], []⟩,
 ⟨kS d25 (oMv t1), ⟨(some 25), (.mv (.t 1)), none⟩, false, [], []⟩,
 ⟨kS d26 (oMv t6), ⟨(some 26), (.mv (.t 6)), none⟩, false, [], []⟩,
 ⟨kS d27 (oIa 1 t25 t26), ⟨(some 27), (.ia 1 (.t 25) (.t 26)), none⟩, false, [], []⟩,
 ⟨kS d28 (oLd false 1 t27), ⟨(some 28), (.ld false 1 (.t 27)), none⟩, false, [⟨(some 28), (.ld false 1 (.t 27)), none⟩], []⟩,
 ⟨kS d29 (oCall (gC (.func 65 [] [])) [t24, t28]), ⟨(some 29), (.call (.c (.func 65 [] [])) [(.t 24), (.t 28)]), none⟩, true, [], []⟩,
 ⟨kS d5 (oMv t29), ⟨(some 5), (.mv (.t 29)), none⟩, false, [], []⟩]))
 (kRegion [kS d19 (oMv t6),
 kS d20 (oBin .add t19 (gI 1)),
 kS d6 (oMv t20)]))))))
 (kSeq (kRegion [kS d30 (oMv t5),
 kS d4 (oMv t30)])
 kRet))))
theorem e66 : b66 = comp ir66.code := by kernel_rfl
def k66 : KF := ⟨31, b66, [.tmp 4]⟩
def b69 : KC := (kSeq (kRegion [kS d4 (oMv (gC (.bool false)))])
 (kSeq (kRegion [kS d5 (oMv t0),
 kS d6 (oMv t1),
 kS d7 (oCall (gC (.func 88 [] [])) [t5, t6]),
 kS d8 (oBin .geq t7 (gI 0)),
 kS d4 (oMv t8)])
 kRet))
theorem e69 : b69 = comp ir69.code := by kernel_rfl
def k69 : KF := ⟨9, b69, [.tmp 4]⟩
def b70 : KC := (kSeq (kRegion [kS d4 (oMv (gC (.bool false)))])
 (kSeq (kRegion [kS d5 (oMv t0),
 kS d6 (oLd false 1 t1),
 kS d7 (oBin .lss t5 t6),
 kS d8 (oMv t7),
 kG t8 false d9 (oMv t0),
 kG t8 false d10 (oLd false 1 t2),
 kG t8 false d11 (oBin .gtr t9 t10),
 kS d12 (oPick t8 (gC (.bool true)) t11),
 kS d4 (oMv t12)])
 kRet))
theorem e70 : b70 = comp ir70.code := by kernel_rfl
def k70 : KF := ⟨13, b70, [.tmp 4]⟩
def b71 : KC := (kSeq (kRegion [kS d4 (oMv (gI 0))])
 (kSeq (kSeq (kRegion [kS d6 (oMv t0),
 kS d7 (oLen false t6),
 kS d8 (oMv (gI 0))])
 (kBlock 0 (kLoop (kSeq (kRegion [kS d9 (oBin .lss t8 t7)])
 (kSeq (kCond t9 kSkip
 (kExit 0))
 (kSeq (kBlock 1 (kSeq (kRegion [kS d10 (oMv t8),
 kS d5 (oMv t10)])
 (kSeq (kRegion [kS d11 (oMv t1),
 kS d12 (oMv t0),
 kS d13 (oMv t5),
 kS d14 (oIa 6 t12 t13),
 kS d15 (oLd true 6 t14),
 kS d16 (oCall t11 [t15])])
 (kCond t16 (kSeq (kRegion [kS d17 (oMv t5),
 kS d4 (oMv t17)])
 kRet)
 kSkip))))
 (kRegion [kS d18 (oBin .add t8 (gI 1)),
 kS d8 (oMv t18)])))))))
 (kSeq (kRegion [kS d4 (oMv (gI (-1)))])
 kRet)))
theorem e71 : b71 = comp ir71.code := by kernel_rfl
def k71 : KF := ⟨19, b71, [.tmp 4]⟩
def b72 : KC := (kSeq (kRegion [kS d4 (oMv (gI 0))])
 (kSeq (kSeq (kRegion [kS d6 (oMv t0),
 kS d7 (oLen false t6),
 kS d8 (oMv (gI 0))])
 (kBlock 0 (kLoop (kSeq (kRegion [kS d9 (oBin .lss t8 t7)])
 (kSeq (kCond t9 kSkip
 (kExit 0))
 (kSeq (kBlock 1 (kSeq (kRegion [kS d10 (oMv t8),
 kS d5 (oMv t10)])
 (kSeq (kRegion [kS d11 (oMv t1),
 kS d12 (oMv t0),
 kS d13 (oMv t5),
 kS d14 (oIa 6 t12 t13),
 kS d15 (oLd true 6 t14),
 kS d16 (oCall t11 [t15])])
 (kCond t16 (kSeq (kRegion [kS d17 (oMv t5),
 kS d4 (oMv t17)])
 kRet)
 kSkip))))
 (kRegion [kS d18 (oBin .add t8 (gI 1)),
 kS d8 (oMv t18)])))))))
 (kSeq (kRegion [kS d4 (oMv (gI (-1)))])
 kRet)))
theorem e72 : b72 = comp ir72.code := by kernel_rfl
def k72 : KF := ⟨19, b72, [.tmp 4]⟩
def b73 : KC := (kSeq (kRegion [kS d1 (oBox t0),
 kS d2 (oAlloc (.agg [(.int .i64 0), (.int .i64 0)]))])
 (kSeq (kRegion [kS d3 (oFa t1 2),
 kS d4 (oLd true 2 t3),
 kN (oSt 2 t2 t4)])
 kRet))
theorem e73 : b73 = comp ir73.code := by kernel_rfl
def k73 : KF := ⟨5, b73, [.cell 2 true 2]⟩
def b74 : KC := (kSeq (kRegion [kS d1 (oBox t0),
 kS d2 (oAlloc (.agg [(.int .i64 0), (.int .i64 0)]))])
 (kSeq (kRegion [kS d3 (oFa t1 4),
 kS d4 (oLd true 2 t3),
 kN (oSt 2 t2 t4)])
 kRet))
theorem e74 : b74 = comp ir74.code := by kernel_rfl
def k74 : KF := ⟨5, b74, [.cell 2 true 2]⟩
def b75 : KC := (kSeq (kRegion [kS d3 (oMv (gC .nilslice))])
 (kSeq (kSeq (kRegion [kS d8 (oLd false 1 t1),
 kS d9 (oNilck t8),
 kS d10 (oFa t9 0),
 kS d11 (oFa t10 4),
 kS d12 (oLd false 1 t11),
 kS d13 (oLen false t12),
 kS d14 (oBin .shl (gI 1) t13),
 kS d15 (oMv (gI 0))])
 (kBlock 0 (kLoop (kSeq (kRegion [kS d16 (oBin .lss t15 t14)])
 (kSeq (kCond t16 kSkip
 (kExit 0))
 (kSeq (kBlock 1 (kSeq (kRegion [kS d17 (oMv t15),
 kS d4 (oMv t17)])
 (kSeq (kRegion [kS d18 (oMv t4),
 kS d19 (oCall (gC (.func 76 [] [])) [t18]),
 kS d5 (oMv t19)])
 (kSeq (kRegion [kS d20 (oMv t5),
 kS d21 (oMkfn 77 [] [t1]),
 kS d22 (oCall (gC (.func 69 [] [])) [t20, t21]),
 kS d23 (oNot t22)])
 (kCond t23 (kRegion [kS d24 (oMv t3),
 kS d25 (oMv t5),
 kS d26 (oBldS 1 1 [.nilslice] [(0, 1, t25)]),
 kS d27 (oGen (.app 1 24 (.t 24) (.t 26))),
 kS d3 (oMv t27)])
 kSkip)))))
 (kRegion [kS d28 (oBin .add t15 (gI 1)),
 kS d15 (oMv t28)])))))))
 (kSeq (kRegion [kS d29 (oMv t3),
 kS d30 (oCall (gC (.func 78 [] [])) [t29, (gC (.func 79 [] []))])])
 (kSeq (kRegion [kS d31 (oMv t3),
 kS d32 (oLen false t31),
 kS d33 (oMv (gI 0))])
 (kBlock 2 (kLoop (kSeq (kRegion [kS d34 (oBin .lss t33 t32)])
 (kSeq (kCond t34 kSkip
 (kExit 2))
 (kSeq (kBlock 3 (kSeq (kRegion [kS d35 (oIa 1 t31 t33),
 kS d36 (oLd false 1 t35),
 kS d7 (oMv t36)])
 (kSeq (kRegion [kS d37 (oMv t0),
 kS d38 (oMv t7),
 kS d39 (oCall t37 [t38]),
 kS d40 (oNot t39)])
 (kCond t40 kRet
 kSkip))))
 (kRegion [kS d41 (oBin .add t33 (gI 1)),
 kS d33 (oMv t41)]))))))))))
theorem e75 : b75 = comp ir75.code := by kernel_rfl
def k75 : KF := ⟨42, b75, []⟩
def b76 : KC := (kSeq (kRegion [kS d2 (oMv (gC .nilslice))])
 (kSeq (kBlock 0 (kLoop (kSeq (kSeq (kRegion [kS d3 (oMv t0),
 kS d4 (oBin .neq t3 (gI 0))])
 (kCond t4 kSkip
 (kExit 0)))
 (kSeq (kBlock 1 (kRegion [kS d9 (oMv t2),
 kS d10 (oMv t0),
 kS d11 (oGen (.conv .u64 (.t 10))),
 kS d12 (oCall (gC (.func 89 [] [])) [t11]),
 kS d13 (oBldS 1 1 [(.int .i64 0)] [(0, 1, t12)]),
 kS d14 (oGen (.app 1 8 (.t 9) (.t 13))),
 kS d2 (oMv t14)]))
 (kRegion [kS d5 (oMv t0),
 kS d6 (oMv t0),
 kS d7 (oBin .sub t6 (gI 1)),
 kS d8 (oBin .and t5 t7),
 kS d0 (oMv t8)])))))
 (kSeq (kRegion [kS d15 (oMv t2),
 kS d2 (oMv t15)])
 kRet)))
theorem e76 : b76 = comp ir76.code := by kernel_rfl
def k76 : KF := ⟨16, b76, [.tmp 2]⟩
def b77 : KC := (kSeq (kRegion [kS d3 (oMv (gC (.bool false)))])
 (kSeq (kRegion [kS d4 (oLd false 1 t1),
 kS d5 (oNilck t4),
 kS d6 (oFa t5 0),
 kS d7 (oFa t6 4),
 kS d8 (oLd false 1 t7),
 kS d9 (oMv t0),
 kS d10 (oIa 6 t8 t9),
 kS d11 (oFa t10 5),
 kS d12 (oLd false 1 t11),
 kS d3 (oMv t12)])
 kRet))
theorem e77 : b77 = comp ir77.code := by kernel_rfl
def k77 : KF := ⟨13, b77, [.tmp 3]⟩
def b78 : KC := (kSeq (kRegion [kS d5 (oMv t0),
 kS d6 (oLen false t5),
 kS d4 (oMv t6)])
 (kRegion [kS d7 (oMv t0),
 kS d8 (oMv t4),
 kS d9 (oMv t4),
 kS d10 (oGen (.conv .u64 (.t 9))),
 kS d11 (oCall (gC (.func 91 [] [])) [t10]),
 kS d12 (oMv t1),
 kS d13 (oCall (gC (.func 90 [] [])) [t7, (gI 0), t8, t11, t12])]))
theorem e78 : b78 = comp ir78.code := by kernel_rfl
def k78 : KF := ⟨14, b78, []⟩
def b79 : KC := (kSeq (kRegion [kS d4 (oMv (gI 0))])
 (kSeq (kSeq (kRegion [kS d5 (oMv t0),
 kS d6 (oLen false t5),
 kS d7 (oMv t1),
 kS d8 (oLen false t7),
 kS d9 (oBin .neq t6 t8)])
 (kCond t9 (kSeq (kRegion [kS d10 (oMv t0),
 kS d11 (oLen false t10),
 kS d12 (oMv t1),
 kS d13 (oLen false t12),
 kS d14 (oBin .sub t11 t13),
 kS d4 (oMv t14)])
 kRet)
 kSkip))
 (kSeq (kRegion [kS d15 (oMv t0),
 kS d16 (oMv t1),
 kS d17 (oCall (gC (.func 80 [] [])) [t15, t16]),
 kS d4 (oMv t17)])
 kRet)))
theorem e79 : b79 = comp ir79.code := by kernel_rfl
def k79 : KF := ⟨18, b79, [.tmp 4]⟩
def b80 : KC := (kSeq (kRegion [kS d4 (oMv (gI 0))])
 (kSeq (kSeq (kRegion [kS d9 (oMv t0),
 kS d10 (oLen false t9),
 kS d11 (oMv (gI 0))])
 (kBlock 0 (kLoop (kSeq (kRegion [kS d12 (oBin .lss t11 t10)])
 (kSeq (kCond t12 kSkip
 (kExit 0))
 (kSeq (kBlock 1 (kSeq (kRegion [kS d13 (oMv t11),
 kS d14 (oIa 1 t9 t11),
 kS d15 (oLd false 1 t14),
 kS d5 (oMv t13),
 kS d6 (oMv t15)])
 (kSeq (kSeq (kRegion [kS d16 (oMv t5),
 kS d17 (oMv t1),
 kS d18 (oLen false t17),
 kS d19 (oBin .geq t16 t18)])
 (kCond t19 (kSeq (kRegion [kS d4 (oMv (gI 1))])
 kRet)
 kSkip))
 (kSeq (kRegion [kS d20 (oMv t1),
 kS d21 (oMv t5),
 kS d22 (oIa 1 t20 t21),
 kS d23 (oLd false 1 t22),
 kS d7 (oMv t23)])
 (kSeq (kRegion [kS d24 (oMv t6),
 kS d25 (oMv t7),
 kS d26 (oCall (gC (.func 92 [] [])) [t24, t25]),
 kS d8 (oMv t26)])
 (kSeq (kRegion [kS d27 (oMv t8),
 kS d28 (oBin .neq t27 (gI 0))])
 (kCond t28 (kSeq (kRegion [kS d29 (oMv t8),
 kS d4 (oMv t29)])
 kRet)
 kSkip)))))))
 (kRegion [kS d30 (oBin .add t11 (gI 1)),
 kS d11 (oMv t30)])))))))
 (kSeq (kSeq (kRegion [kS d31 (oMv t0),
 kS d32 (oLen false t31),
 kS d33 (oMv t1),
 kS d34 (oLen false t33),
 kS d35 (oBin .lss t32 t34)])
 (kCond t35 (kSeq (kRegion [kS d4 (oMv (gI (-1)))])
 kRet)
 kSkip))
 (kSeq (kRegion [kS d4 (oMv (gI 0))])
 kRet))))
theorem e80 : b80 = comp ir80.code := by kernel_rfl
def k80 : KF := ⟨36, b80, [.tmp 4]⟩
def b81 : KC := (kSeq (kRegion [kS d3 (oBox t1),
 kS d4 (oMv (gI 0)),
 kS d5 (oMv (gC (.bool false)))])
 (kSeq (kDraw [⟨kS d17 (oLd true 3 t3), ⟨(some 17), (.ld true 3 (.t 3)), none⟩, false, [⟨(some 17), (.ld true 3 (.t 3)), none⟩], []⟩,
 ⟨kS d18 (oCall (gC (.func 52 [] [])) [t17]), ⟨(some 18), (.call (.c (.func 52 [] [])) [(.t 17)]), none⟩, true, [], []⟩,
 ⟨kS d19 (oMv t0), ⟨(some 19), (.mv (.t 0)), none⟩, false, [], []⟩,
 ⟨kS d20 (oNilck t19), ⟨(some 20), (.nilck (.t 19)), none⟩, false, [], []⟩,
 ⟨kS d21 (oFa t20 6), ⟨(some 21), (.fa (.t 20) 6), none⟩, false, [], []⟩,
 ⟨kS d22 (oLd false 1 t21), ⟨(some 22), (.ld false 1 (.t 21)), none⟩, false, [⟨(some 22), (.ld false 1 (.t 21)), none⟩], [1]⟩,
 ⟨kS d23 (oGen (.mx (.t 18) [(.t 22)])), ⟨(some 23), (.mx (.t 18) [(.t 22)]), none⟩, false, [], []⟩,
 ⟨kS d6 (oMv t23), ⟨(some 6), (.mv (.t 23)), none⟩, false, [], []⟩])
 (kSeq (kSeq (kRegion [kS d24 (oMv t0),
 kS d25 (oNilck t24),
 kS d26 (oFa t25 25),
 kS d27 (oLd false 1 t26),
 kS d28 (oLen false t27),
 kS d29 (oMv (gI 0))])
 (kBlock 0 (kLoop (kSeq (kRegion [kS d30 (oBin .lss t29 t28)])
 (kSeq (kCond t30 kSkip
 (kExit 0))
 (kSeq (kBlock 1 (kSeq (kRegion [kS d31 (oIa 2 t27 t29),
 kS d32 (oLd true 2 t31),
 kS d8 (oAlloc (.agg [(.int .i64 0), .nilfunc])),
 kN (oSt 2 t8 t32)])
 (kSeq (kRegion [kS d33 (oMv t0),
 kS d34 (oNilck t33),
 kS d35 (oFa t34 0),
 kS d36 (oFa t35 5),
 kS d37 (oLd false 1 t36),
 kS d38 (oLen false t37),
 kS d39 (oMv (gI 0))])
 (kBlock 2 (kLoop (kSeq (kRegion [kS d40 (oBin .lss t39 t38)])
 (kSeq (kCond t40 kSkip
 (kExit 2))
 (kSeq (kBlock 3 (kSeq (kRegion [kS d41 (oIa 6 t37 t39),
 kS d42 (oLd true 6 t41),
 kS d10 (oAlloc (.agg [(.str []), (.int .i64 0), (.int .i64 0), (.int .i64 0), (.int .i64 0), (.int .i64 0)])),
 kN (oSt 6 t10 t42)])
 (kSeq (kRegion [kS d43 (oFa t8 1),
 kS d44 (oLd false 1 t43),
 kS d45 (oLd true 6 t10),
 kS d46 (oCall t44 [t45]),
 kS d47 (oFld false 1 1 t46),
 kS d11 (oMv t47)])
 (kBlock 4 (kSeq (kRegion [kS d49 (oMv t11),
 kS d50 (oBin .gtr t49 (gI 0)),
 kS d48 (oMv t50)])
 (kCond t48 (kRegion [kS d51 (oMv t6),
 kS d52 (oFa t8 0),
 kS d53 (oLd false 1 t52),
 kS d54 (oIaa 3 1 t3 t53),
 kS d55 (oLd false 1 t54),
 kS d56 (oBin .mul (gI 1000) t55),
 kS d57 (oMv t11),
 kS d58 (oBin .add t56 t57),
 kS d59 (oBin .sub t58 (gI 1)),
 kS d60 (oMv t11),
 kS d61 (oBin .quo t59 t60),
 kS d62 (oGen (.mx (.t 51) [(.t 61)])),
 kS d6 (oMv t62)])
 (kSeq (kRegion [kS d64 (oFa t8 0),
 kS d65 (oLd false 1 t64),
 kS d66 (oIaa 3 1 t3 t65),
 kS d67 (oLd false 1 t66),
 kS d68 (oBin .gtr t67 (gI 0)),
 kS d63 (oMv t68)])
 (kCond t63 (kSeq (kRegion [kS d4 (oMv (gI 0)),
 kS d5 (oMv (gC (.bool false)))])
 kRet)
 kSkip))))))))
 (kRegion [kS d69 (oBin .add t39 (gI 1)),
 kS d39 (oMv t69)])))))))))
 (kRegion [kS d70 (oBin .add t29 (gI 1)),
 kS d29 (oMv t70)])))))))
 (kSeq (kSeq (kRegion [kS d71 (oMv t0),
 kS d72 (oNilck t71),
 kS d73 (oFa t72 25),
 kS d74 (oLd false 1 t73),
 kS d75 (oLen false t74),
 kS d76 (oMv (gI 0))])
 (kBlock 5 (kLoop (kSeq (kRegion [kS d77 (oBin .lss t76 t75)])
 (kSeq (kCond t77 kSkip
 (kExit 5))
 (kSeq (kBlock 6 (kSeq (kRegion [kS d78 (oIa 2 t74 t76),
 kS d79 (oLd true 2 t78),
 kS d13 (oAlloc (.agg [(.int .i64 0), .nilfunc])),
 kN (oSt 2 t13 t79)])
 (kSeq (kRegion [kS d80 (oMv t0),
 kS d81 (oNilck t80),
 kS d82 (oFa t81 0),
 kS d83 (oFa t82 5),
 kS d84 (oLd false 1 t83),
 kS d85 (oLen false t84),
 kS d86 (oMv (gI 0))])
 (kBlock 7 (kLoop (kSeq (kRegion [kS d87 (oBin .lss t86 t85)])
 (kSeq (kCond t87 kSkip
 (kExit 7))
 (kSeq (kBlock 8 (kSeq (kRegion [kS d88 (oIa 6 t84 t86),
 kS d89 (oLd true 6 t88),
 kS d15 (oAlloc (.agg [(.str []), (.int .i64 0), (.int .i64 0), (.int .i64 0), (.int .i64 0), (.int .i64 0)])),
 kN (oSt 6 t15 t89)])
 (kSeq (kDraw [⟨kS d90 (oFa t13 0), ⟨(some 90), (.fa (.t 13) 0), none⟩, false, [], []⟩,
 ⟨kS d91 (oLd false 1 t90), ⟨(some 91), (.ld false 1 (.t 90)), none⟩, false, [⟨(some 91), (.ld false 1 (.t 90)), none⟩], []⟩,
 ⟨kS d92 (oIaa 3 1 t3 t91), ⟨(some 92), (.iaa 3 1 (.t 3) (.t 91)), none⟩, false, [], []⟩,
 ⟨kS d93 (oLd false 1 t92), ⟨(some 93), (.ld false 1 (.t 92)), none⟩, false, [⟨(some 93), (.ld false 1 (.t 92)), none⟩], []⟩,
 ⟨kS d94 (oBin .mul (gI 1000) t93), ⟨(some 94), (.bin .mul (.c (.int .i64 1000)) (.t 93)), none⟩, false, [], []⟩,
 ⟨kS d95 (oFa t13 1), ⟨(some 95), (.fa (.t 13) 1), none⟩, false, [], []⟩,
 ⟨kS d96 (oLd false 1 t95), ⟨(some 96), (.ld false 1 (.t 95)), none⟩, false, [⟨(some 96), (.ld false 1 (.t 95)), none⟩], []⟩,
 ⟨kS d97 (oLd true 6 t15), ⟨(some 97), (.ld true 6 (.t 15)), none⟩, false, [⟨(some 97), (.ld true 6 (.t 15)), none⟩], []⟩,
 ⟨kS d98 (oCall t96 [t97]), ⟨(some 98), (.call (.t 96) [(.t 97)]), none⟩, true, [⟨(some 91), (.ld false 1 (.t 90)), none⟩, ⟨(some 93), (.ld false 1 (.t 92)), none⟩], []⟩,
 ⟨kS d99 (oFld false 0 1 t98), ⟨(some 99), (.fld false 0 1 (.t 98)), none⟩, false, [], []⟩,
 ⟨kS d100 (oMv t6), ⟨(some 100), (.mv (.t 6)), none⟩, false, [], []⟩,
 ⟨kS d101 (oBin .mul t99 t100), ⟨(some 101), (.bin .mul (.t 99) (.t 100)), none⟩, false, [], []⟩,
 ⟨kS d102 (oBin .lss t94 t101), ⟨(some 102), (.bin .lss (.t 94) (.t 101)), none⟩, false, [], []⟩])
 (kCond t102 (kSeq (kRegion [kS d4 (oMv (gI 0)),
 kS d5 (oMv (gC (.bool false)))])
 kRet)
 kSkip))))
 (kRegion [kS d103 (oBin .add t86 (gI 1)),
 kS d86 (oMv t103)])))))))))
 (kRegion [kS d104 (oBin .add t76 (gI 1)),
 kS d76 (oMv t104)])))))))
 (kSeq (kRegion [kS d105 (oMv t6),
 kS d106 (oLd true 3 t3),
 kS d107 (oCall (gC (.func 52 [] [])) [t106]),
 kS d108 (oBin .sub t105 t107),
 kS d16 (oMv t108)])
 (kSeq (kDraw [⟨kS d109 (oMv t16), ⟨(some 109), (.mv (.t 16)), none⟩, false, [], []⟩,
 ⟨kS d110 (oMv t16), ⟨(some 110), (.mv (.t 16)), none⟩, false, [], []⟩,
 ⟨kS d111 (oMv t0), ⟨(some 111), (.mv (.t 0)), none⟩, false, [], []⟩,
 ⟨kS d112 (oNilck t111), ⟨(some 112), (.nilck (.t 111)), none⟩, false, [], []⟩,
 ⟨kS d113 (oFa t112 0), ⟨(some 113), (.fa (.t 112) 0), none⟩, false, [], []⟩,
 ⟨kS d114 (oFa t113 0), ⟨(some 114), (.fa (.t 113) 0), none⟩, false, [], []⟩,
 ⟨kS d115 (oIaa 3 1 t114 (gI 0)), ⟨(some 115), (.iaa 3 1 (.t 114) (.c (.int .i64 0))), none⟩, false, [], []⟩,
 ⟨kS d116 (oLd false 1 t115), ⟨(some 116), (.ld false 1 (.t 115)), none⟩, false, [⟨(some 116), (.ld false 1 (.t 115)), none⟩], []⟩,
 ⟨kS d117 (oBin .leq t110 t116), ⟨(some 117), (.bin .leq (.t 110) (.t 116)), none⟩, false, [], []⟩,
 ⟨kS d4 (oMv t109), ⟨(some 4), (.mv (.t 109)), none⟩, false, [], []⟩,
 ⟨kS d5 (oMv t117), ⟨(some 5), (.mv (.t 117)), none⟩, false, [], []⟩])
 kRet))))))
theorem e81 : b81 = comp ir81.code := by kernel_rfl
def k81 : KF := ⟨118, b81, [.tmp 4, .tmp 5]⟩
def b82 : KC := (kSeq (kRegion [kS d4 (oMv (gI 0))])
 (kSeq (kSeq (kRegion [kS d6 (oMv t0),
 kS d7 (oLen false t6),
 kS d8 (oMv (gI 0))])
 (kBlock 0 (kLoop (kSeq (kRegion [kS d9 (oBin .lss t8 t7)])
 (kSeq (kCond t9 kSkip
 (kExit 0))
 (kSeq (kBlock 1 (kSeq (kRegion [kS d10 (oMv t8),
 kS d5 (oMv t10)])
 (kSeq (kRegion [kS d11 (oMv t1),
 kS d12 (oMv t0),
 kS d13 (oMv t5),
 kS d14 (oIa 1 t12 t13),
 kS d15 (oLd false 1 t14),
 kS d16 (oBin .eql t11 t15)])
 (kCond t16 (kSeq (kRegion [kS d17 (oMv t5),
 kS d4 (oMv t17)])
 kRet)
 kSkip))))
 (kRegion [kS d18 (oBin .add t8 (gI 1)),
 kS d8 (oMv t18)])))))))
 (kSeq (kRegion [kS d4 (oMv (gI (-1)))])
 kRet)))
theorem e82 : b82 = comp ir82.code := by kernel_rfl
def k82 : KF := ⟨19, b82, [.tmp 4]⟩
def b83 : KC := (kSeq (kRegion [kS d4 (oAlloc (.agg [(.int .i64 0), (.int .i64 0)]))])
 (kSeq (kRegion [kS d5 (oMv t0),
 kS d6 (oMv t1),
 kS d7 (oBld [(.int .i64 0), (.int .i64 0)] [(0, 1, t5), (1, 1, t6)]),
 kN (oSt 2 t4 t7)])
 kRet))
theorem e83 : b83 = comp ir83.code := by kernel_rfl
def k83 : KF := ⟨8, b83, [.cell 4 true 2]⟩
def b88 : KC := (kSeq (kRegion [kS d4 (oMv (gI 0))])
 (kSeq (kSeq (kRegion [kS d6 (oMv t0),
 kS d7 (oLen false t6),
 kS d8 (oMv (gI 0))])
 (kBlock 0 (kLoop (kSeq (kRegion [kS d9 (oBin .lss t8 t7)])
 (kSeq (kCond t9 kSkip
 (kExit 0))
 (kSeq (kBlock 1 (kSeq (kRegion [kS d10 (oMv t8),
 kS d5 (oMv t10)])
 (kSeq (kRegion [kS d11 (oMv t1),
 kS d12 (oMv t0),
 kS d13 (oMv t5),
 kS d14 (oIa 1 t12 t13),
 kS d15 (oLd false 1 t14),
 kS d16 (oCall t11 [t15])])
 (kCond t16 (kSeq (kRegion [kS d17 (oMv t5),
 kS d4 (oMv t17)])
 kRet)
 kSkip))))
 (kRegion [kS d18 (oBin .add t8 (gI 1)),
 kS d8 (oMv t18)])))))))
 (kSeq (kRegion [kS d4 (oMv (gI (-1)))])
 kRet)))
theorem e88 : b88 = comp ir88.code := by kernel_rfl
def k88 : KF := ⟨19, b88, [.tmp 4]⟩
def b89 : KC := (kSeq (kRegion [kS d2 (oMv (gI 0))])
 (kSeq (kCond (gC (.bool false)) (kSeq (kRegion [kS d3 (oMv t0),
 kS d4 (oGen (.conv .u32 (.t 3))),
 kS d5 (oCall (gC (.func 96 [] [])) [t4]),
 kS d2 (oMv t5)])
 kRet)
 kSkip)
 (kSeq (kRegion [kS d6 (oMv t0),
 kS d7 (oCall (gC (.func 97 [] [])) [t6]),
 kS d2 (oMv t7)])
 kRet)))
theorem e89 : b89 = comp ir89.code := by kernel_rfl
def k89 : KF := ⟨8, b89, [.tmp 2]⟩
def b90 : KC := (kSeq (kRegion [kS d10 (oMv (gC (.bool true)))])
 (kSeq (kRegion [kS d11 (oMv (gC (.bool true)))])
 (kBlock 0 (kLoop (kBlock 1 (kSeq (kRegion [kS d21 (oMv t2),
 kS d22 (oMv t1),
 kS d23 (oBin .sub t21 t22),
 kS d12 (oMv t23)])
 (kSeq (kSeq (kRegion [kS d24 (oMv t12),
 kS d25 (oBin .leq t24 (gI 12))])
 (kCond t25 (kSeq (kRegion [kS d26 (oMv t0),
 kS d27 (oMv t1),
 kS d28 (oMv t2),
 kS d29 (oMv t4),
 kS d30 (oCall (gC (.func 98 [] [])) [t26, t27, t28, t29])])
 kRet)
 kSkip))
 (kSeq (kSeq (kRegion [kS d31 (oMv t3),
 kS d32 (oBin .eql t31 (gI 0))])
 (kCond t32 (kSeq (kRegion [kS d33 (oMv t0),
 kS d34 (oMv t1),
 kS d35 (oMv t2),
 kS d36 (oMv t4),
 kS d37 (oCall (gC (.func 99 [] [])) [t33, t34, t35, t36])])
 kRet)
 kSkip))
 (kSeq (kSeq (kRegion [kS d38 (oMv t10),
 kS d39 (oNot t38)])
 (kCond t39 (kSeq (kRegion [kS d40 (oMv t0),
 kS d41 (oMv t1),
 kS d42 (oMv t2),
 kS d43 (oMv t4),
 kS d44 (oCall (gC (.func 100 [] [])) [t40, t41, t42, t43])])
 (kRegion [kS d45 (oMv t3),
 kS d46 (oBin .sub t45 (gI 1)),
 kS d3 (oMv t46)]))
 kSkip))
 (kSeq (kRegion [kS d48 (oMv t0),
 kS d49 (oMv t1),
 kS d50 (oMv t2),
 kS d51 (oMv t4),
 kS d52 (oCall (gC (.func 101 [] [])) [t48, t49, t50, t51]),
 kS d47 (oMv t52),
 kS d53 (oExt t47 0),
 kS d54 (oExt t47 1),
 kS d13 (oMv t53),
 kS d14 (oMv t54)])
 (kSeq (kSeq (kRegion [kS d55 (oMv t14),
 kS d56 (oBin .eql t55 (gI 2))])
 (kCond t56 (kSeq (kRegion [kS d57 (oMv t0),
 kS d58 (oMv t1),
 kS d59 (oMv t2),
 kS d60 (oMv t4),
 kS d61 (oCall (gC (.func 102 [] [])) [t57, t58, t59, t60])])
 (kSeq (kRegion [kS d62 (oMv t2),
 kS d63 (oBin .sub t62 (gI 1)),
 kS d64 (oMv t13),
 kS d65 (oMv t1),
 kS d66 (oBin .sub t64 t65),
 kS d67 (oBin .sub t63 t66),
 kS d13 (oMv t67)])
 (kRegion [kS d14 (oMv (gI 1))])))
 kSkip))
 (kSeq (kSeq (kRegion [kS d68 (oMv t10),
 kS d69 (oMv t68),
 kG t69 true d70 (oMv t11),
 kS d71 (oPick t69 t70 (gC (.bool false))),
 kS d72 (oMv t71),
 kG t72 true d73 (oMv t14),
 kG t72 true d74 (oBin .eql t73 (gI 1)),
 kS d75 (oPick t72 t74 (gC (.bool false)))])
 (kCond t75 (kSeq (kRegion [kS d76 (oMv t0),
 kS d77 (oMv t1),
 kS d78 (oMv t2),
 kS d79 (oMv t4),
 kS d80 (oCall (gC (.func 103 [] [])) [t76, t77, t78, t79])])
 (kCond t80 kRet
 kSkip))
 kSkip))
 (kSeq (kSeq (kDraw [⟨kS d81 (oMv t1), ⟨(some 81), (.mv (.t 1)), none⟩, false, [], []⟩,
 ⟨kS d82 (oBin .gtr t81 (gI 0)), ⟨(some 82), (.bin .gtr (.t 81) (.c (.int .i64 0))), none⟩, false, [], []⟩,
 ⟨kS d83 (oMv t82), ⟨(some 83), (.mv (.t 82)), none⟩, false, [], []⟩,
 ⟨kG t83 true d84 (oMv t4), ⟨(some 84), (.mv (.t 4)), (some (83, true))⟩, false, [], []⟩,
 ⟨kG t83 true d85 (oMv t0), ⟨(some 85), (.mv (.t 0)), (some (83, true))⟩, false, [], []⟩,
 ⟨kG t83 true d86 (oMv t1), ⟨(some 86), (.mv (.t 1)), (some (83, true))⟩, false, [], []⟩,
 ⟨kG t83 true d87 (oBin .sub t86 (gI 1)), ⟨(some 87), (.bin .sub (.t 86) (.c (.int .i64 1))), (some (83, true))⟩, false, [], []⟩,
 ⟨kG t83 true d88 (oIa 1 t85 t87), ⟨(some 88), (.ia 1 (.t 85) (.t 87)), (some (83, true))⟩, false, [], []⟩,
 ⟨kG t83 true d89 (oLd false 1 t88), ⟨(some 89), (.ld false 1 (.t 88)), (some (83, true))⟩, false, [⟨(some 89), (.ld false 1 (.t 88)), (some (83, true))⟩], []⟩,
 ⟨kG t83 true d90 (oMv t0), ⟨(some 90), (.mv (.t 0)), (some (83, true))⟩, false, [], []⟩,
 ⟨kG t83 true d91 (oMv t13), ⟨(some 91), (.mv (.t 13)), (some (83, true))⟩, false, [], []⟩,
 ⟨kG t83 true d92 (oIa 1 t90 t91), ⟨(some 92), (.ia 1 (.t 90) (.t 91)), (some (83, true))⟩, false, [], []⟩,
 ⟨kG t83 true d93 (oLd false 1 t92), ⟨(some 93), (.ld false 1 (.t 92)), (some (83, true))⟩, false, [⟨(some 93), (.ld false 1 (.t 92)), (some (83, true))⟩], []⟩,
 ⟨kG t83 true d94 (oCall t84 [t89, t93]), ⟨(some 94), (.call (.t 84) [(.t 89), (.t 93)]), (some (83, true))⟩, true, [], []⟩,
 ⟨kG t83 true d95 (oBin .lss t94 (gI 0)), ⟨(some 95), (.bin .lss (.t 94) (.c (.int .i64 0))), (some (83, true))⟩, false, [], []⟩,
 ⟨kG t83 true d96 (oNot t95), ⟨(some 96), (.un .not (.t 95)), (some (83, true))⟩, false, [], []⟩,
 ⟨kS d97 (oPick t83 t96 (gC (.bool false))), ⟨(some 97), (.pick (.t 83) (.t 96) (.c (.bool false))), none⟩, false, [], []⟩])
 (kCond t97 (kSeq (kRegion [kS d98 (oMv t0),
 kS d99 (oMv t1),
 kS d100 (oMv t2),
 kS d101 (oMv t13),
 kS d102 (oMv t4),
 kS d103 (oCall (gC (.func 104 [] [])) [t98, t99, t100, t101, t102]),
 kS d15 (oMv t103)])
 (kSeq (kRegion [kS d104 (oMv t15),
 kS d1 (oMv t104)])
 (kExit 1)))
 kSkip))
 (kSeq (kRegion [kS d106 (oMv t0),
 kS d107 (oMv t1),
 kS d108 (oMv t2),
 kS d109 (oMv t13),
 kS d110 (oMv t4),
 kS d111 (oCall (gC (.func 105 [] [])) [t106, t107, t108, t109, t110]),
 kS d105 (oMv t111),
 kS d112 (oExt t105 0),
 kS d113 (oExt t105 1),
 kS d16 (oMv t112),
 kS d17 (oMv t113)])
 (kSeq (kRegion [kS d114 (oMv t17),
 kS d11 (oMv t114)])
 (kSeq (kRegion [kS d115 (oMv t16),
 kS d116 (oMv t1),
 kS d117 (oBin .sub t115 t116),
 kS d118 (oMv t2),
 kS d119 (oMv t16),
 kS d120 (oBin .sub t118 t119),
 kS d18 (oMv t117),
 kS d19 (oMv t120)])
 (kSeq (kRegion [kS d121 (oMv t12),
 kS d122 (oBin .quo t121 (gI 8)),
 kS d20 (oMv t122)])
 (kSeq (kRegion [kS d123 (oMv t18),
 kS d124 (oMv t19),
 kS d125 (oBin .lss t123 t124)])
 (kCond t125 (kSeq (kRegion [kS d126 (oMv t18),
 kS d127 (oMv t20),
 kS d128 (oBin .geq t126 t127),
 kS d10 (oMv t128)])
 (kSeq (kRegion [kS d129 (oMv t0),
 kS d130 (oMv t1),
 kS d131 (oMv t16),
 kS d132 (oMv t3),
 kS d133 (oMv t4),
 kS d134 (oCall (gC (.func 90 [] [])) [t129, t130, t131, t132, t133])])
 (kRegion [kS d135 (oMv t16),
 kS d136 (oBin .add t135 (gI 1)),
 kS d1 (oMv t136)])))
 (kSeq (kRegion [kS d137 (oMv t19),
 kS d138 (oMv t20),
 kS d139 (oBin .geq t137 t138),
 kS d10 (oMv t139)])
 (kSeq (kRegion [kS d140 (oMv t0),
 kS d141 (oMv t16),
 kS d142 (oBin .add t141 (gI 1)),
 kS d143 (oMv t2),
 kS d144 (oMv t3),
 kS d145 (oMv t4),
 kS d146 (oCall (gC (.func 90 [] [])) [t140, t142, t143, t144, t145])])
 (kRegion [kS d147 (oMv t16),
 kS d2 (oMv t147)]))))))))))))))))))))))
theorem e90 : b90 = comp ir90.code := by kernel_rfl
def k90 : KF := ⟨148, b90, []⟩
def b91 : KC := (kSeq (kRegion [kS d2 (oMv (gI 0))])
 (kSeq (kCond (gC (.bool false)) (kSeq (kRegion [kS d3 (oMv t0),
 kS d4 (oGen (.conv .u32 (.t 3))),
 kS d5 (oCall (gC (.func 106 [] [])) [t4]),
 kS d2 (oMv t5)])
 kRet)
 kSkip)
 (kSeq (kRegion [kS d6 (oMv t0),
 kS d7 (oCall (gC (.func 107 [] [])) [t6]),
 kS d2 (oMv t7)])
 kRet)))
theorem e91 : b91 = comp ir91.code := by kernel_rfl
def k91 : KF := ⟨8, b91, [.tmp 2]⟩
def b92 : KC := (kSeq (kRegion [kS d4 (oMv (gI 0))])
 (kSeq (kRegion [kS d7 (oMv t0),
 kS d8 (oCall (gC (.func 108 [] [])) [t7]),
 kS d5 (oMv t8)])
 (kSeq (kRegion [kS d9 (oMv t1),
 kS d10 (oCall (gC (.func 108 [] [])) [t9]),
 kS d6 (oMv t10)])
 (kSeq (kSeq (kRegion [kS d11 (oMv t5)])
 (kCond t11 (kSeq (kSeq (kRegion [kS d12 (oMv t6)])
 (kCond t12 (kSeq (kRegion [kS d4 (oMv (gI 0))])
 kRet)
 kSkip))
 (kSeq (kRegion [kS d4 (oMv (gI (-1)))])
 kRet))
 kSkip))
 (kSeq (kSeq (kRegion [kS d13 (oMv t6)])
 (kCond t13 (kSeq (kRegion [kS d4 (oMv (gI 1))])
 kRet)
 kSkip))
 (kSeq (kSeq (kRegion [kS d14 (oMv t0),
 kS d15 (oMv t1),
 kS d16 (oBin .lss t14 t15)])
 (kCond t16 (kSeq (kRegion [kS d4 (oMv (gI (-1)))])
 kRet)
 kSkip))
 (kSeq (kSeq (kRegion [kS d17 (oMv t0),
 kS d18 (oMv t1),
 kS d19 (oBin .gtr t17 t18)])
 (kCond t19 (kSeq (kRegion [kS d4 (oMv (gI 1))])
 kRet)
 kSkip))
 (kSeq (kRegion [kS d4 (oMv (gI 0))])
 kRet))))))))
theorem e92 : b92 = comp ir92.code := by kernel_rfl
def k92 : KF := ⟨20, b92, [.tmp 4]⟩
def b97 : KC := (kSeq (kRegion [kS d2 (oMv (gI 0))])
 (kSeq (kSeq (kRegion [kS d3 (oMv t0),
 kS d4 (oBin .eql t3 (gC (.int .u64 0)))])
 (kCond t4 (kSeq (kRegion [kS d2 (oMv (gI 64))])
 kRet)
 kSkip))
 (kSeq (kRegion [kS d5 (oMv t0),
 kS d6 (oMv t0),
 kS d7 (oGen (.un .neg (.t 6))),
 kS d8 (oBin .and t5 t7),
 kS d9 (oBin .mul t8 (gC (.int .u64 285870213051353865))),
 kS d10 (oBin .shr t9 (gC (.int .u64 58))),
 kS d11 (oIaa 64 1 (gC (.ptr 1 0)) t10),
 kS d12 (oLd false 1 t11),
 kS d13 (oGen (.conv .i64 (.t 12))),
 kS d2 (oMv t13)])
 kRet)))
theorem e97 : b97 = comp ir97.code := by kernel_rfl
def k97 : KF := ⟨14, b97, [.tmp 2]⟩
def b98 : KC := (kSeq (kRegion [kS d10 (oMv t1),
 kS d11 (oBin .add t10 (gI 1)),
 kS d8 (oMv t11)])
 (kBlock 0 (kLoop (kSeq (kSeq (kRegion [kS d12 (oMv t8),
 kS d13 (oMv t2),
 kS d14 (oBin .lss t12 t13)])
 (kCond t14 kSkip
 (kExit 0)))
 (kSeq (kBlock 1 (kSeq (kRegion [kS d17 (oMv t8),
 kS d9 (oMv t17)])
 (kBlock 2 (kLoop (kSeq (kSeq (kDraw [⟨kS d18 (oMv t9), ⟨(some 18), (.mv (.t 9)), none⟩, false, [], []⟩,
 ⟨kS d19 (oMv t1), ⟨(some 19), (.mv (.t 1)), none⟩, false, [], []⟩,
 ⟨kS d20 (oBin .gtr t18 t19), ⟨(some 20), (.bin .gtr (.t 18) (.t 19)), none⟩, false, [], []⟩,
 ⟨kS d21 (oMv t20), ⟨(some 21), (.mv (.t 20)), none⟩, false, [], []⟩,
 ⟨kG t21 true d22 (oMv t3), ⟨(some 22), (.mv (.t 3)), (some (21, true))⟩, false, [], []⟩,
 ⟨kG t21 true d23 (oMv t0), ⟨(some 23), (.mv (.t 0)), (some (21, true))⟩, false, [], []⟩,
 ⟨kG t21 true d24 (oMv t9), ⟨(some 24), (.mv (.t 9)), (some (21, true))⟩, false, [], []⟩,
 ⟨kG t21 true d25 (oIa 1 t23 t24), ⟨(some 25), (.ia 1 (.t 23) (.t 24)), (some (21, true))⟩, false, [], []⟩,
 ⟨kG t21 true d26 (oLd false 1 t25), ⟨(some 26), (.ld false 1 (.t 25)), (some (21, true))⟩, false, [⟨(some 26), (.ld false 1 (.t 25)), (some (21, true))⟩], []⟩,
 ⟨kG t21 true d27 (oMv t0), ⟨(some 27), (.mv (.t 0)), (some (21, true))⟩, false, [], []⟩,
 ⟨kG t21 true d28 (oMv t9), ⟨(some 28), (.mv (.t 9)), (some (21, true))⟩, false, [], []⟩,
 ⟨kG t21 true d29 (oBin .sub t28 (gI 1)), ⟨(some 29), (.bin .sub (.t 28) (.c (.int .i64 1))), (some (21, true))⟩, false, [], []⟩,
 ⟨kG t21 true d30 (oIa 1 t27 t29), ⟨(some 30), (.ia 1 (.t 27) (.t 29)), (some (21, true))⟩, false, [], []⟩,
 ⟨kG t21 true d31 (oLd false 1 t30), ⟨(some 31), (.ld false 1 (.t 30)), (some (21, true))⟩, false, [⟨(some 31), (.ld false 1 (.t 30)), (some (21, true))⟩], []⟩,
 ⟨kG t21 true d32 (oCall t22 [t26, t31]), ⟨(some 32), (.call (.t 22) [(.t 26), (.t 31)]), (some (21, true))⟩, true, [], []⟩,
 ⟨kG t21 true d33 (oBin .lss t32 (gI 0)), ⟨(some 33), (.bin .lss (.t 32) (.c (.int .i64 0))), (some (21, true))⟩, false, [], []⟩,
 ⟨kS d34 (oPick t21 t33 (gC (.bool false))), ⟨(some 34), (.pick (.t 21) (.t 33) (.c (.bool false))), none⟩, false, [], []⟩])
 (kCond t34 kSkip
 (kExit 2)))
 (kSeq (kBlock 3 (kDraw [⟨kS d37 (oMv t0), ⟨(some 37), (.mv (.t 0)), none⟩, false, [], []⟩,
 ⟨kS d38 (oMv t9), ⟨(some 38), (.mv (.t 9)), none⟩, false, [], []⟩,
 ⟨kS d39 (oMv t0), ⟨(some 39), (.mv (.t 0)), none⟩, false, [], []⟩,
 ⟨kS d40 (oMv t9), ⟨(some 40), (.mv (.t 9)), none⟩, false, [], []⟩,
 ⟨kS d41 (oBin .sub t40 (gI 1)), ⟨(some 41), (.bin .sub (.t 40) (.c (.int .i64 1))), none⟩, false, [], []⟩,
 ⟨kS d42 (oMv t0), ⟨(some 42), (.mv (.t 0)), none⟩, false, [], []⟩,
 ⟨kS d43 (oMv t9), ⟨(some 43), (.mv (.t 9)), none⟩, false, [], []⟩,
 ⟨kS d44 (oBin .sub t43 (gI 1)), ⟨(some 44), (.bin .sub (.t 43) (.c (.int .i64 1))), none⟩, false, [], []⟩,
 ⟨kS d45 (oIa 1 t42 t44), ⟨(some 45), (.ia 1 (.t 42) (.t 44)), none⟩, false, [], []⟩,
 ⟨kS d46 (oLd false 1 t45), ⟨(some 46), (.ld false 1 (.t 45)), none⟩, false, [⟨(some 46), (.ld false 1 (.t 45)), none⟩], []⟩,
 ⟨kS d47 (oMv t0), ⟨(some 47), (.mv (.t 0)), none⟩, false, [], []⟩,
 ⟨kS d48 (oMv t9), ⟨(some 48), (.mv (.t 9)), none⟩, false, [], []⟩,
 ⟨kS d49 (oIa 1 t47 t48), ⟨(some 49), (.ia 1 (.t 47) (.t 48)), none⟩, false, [], []⟩,
 ⟨kS d50 (oLd false 1 t49), ⟨(some 50), (.ld false 1 (.t 49)), none⟩, false, [⟨(some 50), (.ld false 1 (.t 49)), none⟩], []⟩,
 ⟨kS d51 (oIa 1 t37 t38), ⟨(some 51), (.ia 1 (.t 37) (.t 38)), none⟩, false, [], []⟩,
 ⟨kN (oSt 1 t51 t46), ⟨none, (.st 1 (.t 51) (.t 46)), none⟩, true, [], []⟩,
 ⟨kS d52 (oIa 1 t39 t41), ⟨(some 52), (.ia 1 (.t 39) (.t 41)), none⟩, false, [], []⟩,
 ⟨kN (oSt 1 t52 t50), ⟨none, (.st 1 (.t 52) (.t 50)), none⟩, true, [], []⟩]))
 (kRegion [kS d35 (oMv t9),
 kS d36 (oBin .sub t35 (gI 1)),
 kS d9 (oMv t36)])))))))
 (kRegion [kS d15 (oMv t8),
 kS d16 (oBin .add t15 (gI 1)),
 kS d8 (oMv t16)]))))))
theorem e98 : b98 = comp ir98.code := by kernel_rfl
def k98 : KF := ⟨53, b98, []⟩
def b99 : KC := comp ir99.code
theorem e99 : b99 = comp ir99.code := rfl
def k99 : KF := ⟨60, b99, []⟩
def b100 : KC := comp ir100.code
theorem e100 : b100 = comp ir100.code := rfl
def k100 : KF := ⟨67, b100, []⟩
def b101 : KC := comp ir101.code
theorem e101 : b101 = comp ir101.code := rfl
def k101 : KF := ⟨63, b101, [.tmp 8, .tmp 9]⟩
def b102 : KC := comp ir102.code
theorem e102 : b102 = comp ir102.code := rfl
def k102 : KF := ⟨34, b102, []⟩
def b103 : KC := comp ir103.code
theorem e103 : b103 = comp ir103.code := rfl
def k103 : KF := ⟨141, b103, [.tmp 8]⟩
def b104 : KC := comp ir104.code
theorem e104 : b104 = comp ir104.code := rfl
def k104 : KF := ⟨90, b104, [.tmp 10]⟩
def b105 : KC := comp ir105.code
theorem e105 : b105 = comp ir105.code := rfl
def k105 : KF := ⟨178, b105, [.tmp 10, .tmp 11]⟩
def b107 : KC := (kSeq (kRegion [kS d2 (oMv (gI 0))])
 (kSeq (kSeq (kRegion [kS d3 (oMv t0),
 kS d4 (oBin .geq t3 (gC (.int .u64 4294967296)))])
 (kCond t4 (kSeq (kRegion [kS d5 (oMv t0),
 kS d6 (oBin .shr t5 (gC (.int .u64 32))),
 kS d0 (oMv t6)])
 (kRegion [kS d2 (oMv (gI 32))]))
 kSkip))
 (kSeq (kSeq (kRegion [kS d7 (oMv t0),
 kS d8 (oBin .geq t7 (gC (.int .u64 65536)))])
 (kCond t8 (kSeq (kRegion [kS d9 (oMv t0),
 kS d10 (oBin .shr t9 (gC (.int .u64 16))),
 kS d0 (oMv t10)])
 (kRegion [kS d11 (oMv t2),
 kS d12 (oBin .add t11 (gI 16)),
 kS d2 (oMv t12)]))
 kSkip))
 (kSeq (kSeq (kRegion [kS d13 (oMv t0),
 kS d14 (oBin .geq t13 (gC (.int .u64 256)))])
 (kCond t14 (kSeq (kRegion [kS d15 (oMv t0),
 kS d16 (oBin .shr t15 (gC (.int .u64 8))),
 kS d0 (oMv t16)])
 (kRegion [kS d17 (oMv t2),
 kS d18 (oBin .add t17 (gI 8)),
 kS d2 (oMv t18)]))
 kSkip))
 (kSeq (kRegion [kS d19 (oMv t2),
 kS d20 (oMv t0),
 kS d21 (oGen (.conv .u8 (.t 20))),
 kS d22 (oIxs (gC (.str [0, 1, 2, 2, 3, 3, 3, 3, 4, 4, 4, 4, 4, 4, 4, 4, 5, 5, 5, 5, 5, 5, 5, 5, 5, 5, 5, 5, 5, 5, 5, 5, 6, 6, 6, 6, 6, 6, 6, 6, 6, 6, 6, 6, 6, 6, 6, 6, 6, 6, 6, 6, 6, 6, 6, 6, 6, 6, 6, 6, 6, 6, 6, 6, 7, 7, 7, 7, 7, 7, 7, 7, 7, 7, 7, 7, 7, 7, 7, 7, 7, 7, 7, 7, 7, 7, 7, 7, 7, 7, 7, 7, 7, 7, 7, 7, 7, 7, 7, 7, 7, 7, 7, 7, 7, 7, 7, 7, 7, 7, 7, 7, 7, 7, 7, 7, 7, 7, 7, 7, 7, 7, 7, 7, 7, 7, 7, 7, 8, 8, 8, 8, 8, 8, 8, 8, 8, 8, 8, 8, 8, 8, 8, 8, 8, 8, 8, 8, 8, 8, 8, 8, 8, 8, 8, 8, 8, 8, 8, 8, 8, 8, 8, 8, 8, 8, 8, 8, 8, 8, 8, 8, 8, 8, 8, 8, 8, 8, 8, 8, 8, 8, 8, 8, 8, 8, 8, 8, 8, 8, 8, 8, 8, 8, 8, 8, 8, 8, 8, 8, 8, 8, 8, 8, 8, 8, 8, 8, 8, 8, 8, 8, 8, 8, 8, 8, 8, 8, 8, 8, 8, 8, 8, 8, 8, 8, 8, 8, 8, 8, 8, 8, 8, 8, 8, 8, 8, 8, 8, 8, 8, 8, 8, 8, 8, 8, 8, 8, 8, 8, 8, 8, 8, 8, 8, 8])) t21),
 kS d23 (oGen (.conv .i64 (.t 22))),
 kS d24 (oBin .add t19 t23),
 kS d2 (oMv t24)])
 kRet)))))
theorem e107 : b107 = comp ir107.code := by kernel_rfl
def k107 : KF := ⟨25, b107, [.tmp 2]⟩
def b108 : KC := (kSeq (kRegion [kS d2 (oMv (gC (.bool false)))])
 (kSeq (kRegion [kS d3 (oMv t0),
 kS d4 (oMv t0),
 kS d5 (oBin .neq t3 t4),
 kS d2 (oMv t5)])
 kRet))
theorem e108 : b108 = comp ir108.code := by kernel_rfl
def k108 : KF := ⟨6, b108, [.tmp 2]⟩
def b109 : KC := comp ir109.code
theorem e109 : b109 = comp ir109.code := rfl
def k109 : KF := ⟨82, b109, []⟩
def b110 : KC := comp ir110.code
theorem e110 : b110 = comp ir110.code := rfl
def k110 : KF := ⟨7, b110, [.tmp 2]⟩
def b111 : KC := comp ir111.code
theorem e111 : b111 = comp ir111.code := rfl
def k111 : KF := ⟨33, b111, [.tmp 2]⟩
def b112 : KC := comp ir112.code
theorem e112 : b112 = comp ir112.code := rfl
def k112 : KF := ⟨18, b112, [.tmp 8]⟩
def b113 : KC := comp ir113.code
theorem e113 : b113 = comp ir113.code := rfl
def k113 : KF := ⟨41, b113, [.tmp 12]⟩
def b114 : KC := comp ir114.code
theorem e114 : b114 = comp ir114.code := rfl
def k114 : KF := ⟨32, b114, [.tmp 10, .tmp 11]⟩
def tk : Nat → Option KF
  | 7 => some k7
  | 12 => some k12
  | 15 => some k15
  | 17 => some k17
  | 19 => some k19
  | 24 => some k24
  | 29 => some k29
  | 32 => some k32
  | 34 => some k34
  | 36 => some k36
  | 38 => some k38
  | 39 => some k39
  | 40 => some k40
  | 41 => some k41
  | 42 => some k42
  | 43 => some k43
  | 44 => some k44
  | 45 => some k45
  | 46 => some k46
  | 47 => some k47
  | 48 => some k48
  | 50 => some k50
  | 51 => some k51
  | 52 => some k52
  | 53 => some k53
  | 54 => some k54
  | 55 => some k55
  | 58 => some k58
  | 61 => some k61
  | 62 => some k62
  | 63 => some k63
  | 64 => some k64
  | 65 => some k65
  | 66 => some k66
  | 69 => some k69
  | 70 => some k70
  | 71 => some k71
  | 72 => some k72
  | 73 => some k73
  | 74 => some k74
  | 75 => some k75
  | 76 => some k76
  | 77 => some k77
  | 78 => some k78
  | 79 => some k79
  | 80 => some k80
  | 81 => some k81
  | 82 => some k82
  | 83 => some k83
  | 88 => some k88
  | 89 => some k89
  | 90 => some k90
  | 91 => some k91
  | 92 => some k92
  | 97 => some k97
  | 98 => some k98
  | 99 => some k99
  | 100 => some k100
  | 101 => some k101
  | 102 => some k102
  | 103 => some k103
  | 104 => some k104
  | 105 => some k105
  | 107 => some k107
  | 108 => some k108
  | 109 => some k109
  | 110 => some k110
  | 111 => some k111
  | 112 => some k112
  | 113 => some k113
  | 114 => some k114
  | _ => none
end
theorem tkOk : TabS tk (tblA : FT S16) := by
  refine ⟨fun _ _ _ => rfl, fun f kf h => ?_⟩
  unfold tk at h
  split at h
  · cases h; exact ⟨ir7, rfl, by show KF.mk _ b7 _ = _; rw [e7]; rfl⟩
  · cases h; exact ⟨ir12, rfl, by show KF.mk _ b12 _ = _; rw [e12]; rfl⟩
  · cases h; exact ⟨ir15, rfl, by show KF.mk _ b15 _ = _; rw [e15]; rfl⟩
  · cases h; exact ⟨ir17, rfl, by show KF.mk _ b17 _ = _; rw [e17]; rfl⟩
  · cases h; exact ⟨ir19, rfl, by show KF.mk _ b19 _ = _; rw [e19]; rfl⟩
  · cases h; exact ⟨ir24, rfl, by show KF.mk _ b24 _ = _; rw [e24]; rfl⟩
  · cases h; exact ⟨ir29, rfl, by show KF.mk _ b29 _ = _; rw [e29]; rfl⟩
  · cases h; exact ⟨ir32, rfl, by show KF.mk _ b32 _ = _; rw [e32]; rfl⟩
  · cases h; exact ⟨ir34, rfl, by show KF.mk _ b34 _ = _; rw [e34]; rfl⟩
  · cases h; exact ⟨ir36, rfl, by show KF.mk _ b36 _ = _; rw [e36]; rfl⟩
  · cases h; exact ⟨ir38, rfl, by show KF.mk _ b38 _ = _; rw [e38]; rfl⟩
  · cases h; exact ⟨ir39, rfl, by show KF.mk _ b39 _ = _; rw [e39]; rfl⟩
  · cases h; exact ⟨ir40, rfl, by show KF.mk _ b40 _ = _; rw [e40]; rfl⟩
  · cases h; exact ⟨ir41, rfl, by show KF.mk _ b41 _ = _; rw [e41]; rfl⟩
  · cases h; exact ⟨ir42, rfl, by show KF.mk _ b42 _ = _; rw [e42]; rfl⟩
  · cases h; exact ⟨ir43, rfl, by show KF.mk _ b43 _ = _; rw [e43]; rfl⟩
  · cases h; exact ⟨ir44, rfl, by show KF.mk _ b44 _ = _; rw [e44]; rfl⟩
  · cases h; exact ⟨ir45, rfl, by show KF.mk _ b45 _ = _; rw [e45]; rfl⟩
  · cases h; exact ⟨ir46, rfl, by show KF.mk _ b46 _ = _; rw [e46]; rfl⟩
  · cases h; exact ⟨ir47, rfl, by show KF.mk _ b47 _ = _; rw [e47]; rfl⟩
  · cases h; exact ⟨ir48, rfl, by show KF.mk _ b48 _ = _; rw [e48]; rfl⟩
  · cases h; exact ⟨ir50, rfl, by show KF.mk _ b50 _ = _; rw [e50]; rfl⟩
  · cases h; exact ⟨ir51, rfl, by show KF.mk _ b51 _ = _; rw [e51]; rfl⟩
  · cases h; exact ⟨ir52, rfl, by show KF.mk _ b52 _ = _; rw [e52]; rfl⟩
  · cases h; exact ⟨ir53, rfl, by show KF.mk _ b53 _ = _; rw [e53]; rfl⟩
  · cases h; exact ⟨ir54, rfl, by show KF.mk _ b54 _ = _; rw [e54]; rfl⟩
  · cases h; exact ⟨ir55, rfl, by show KF.mk _ b55 _ = _; rw [e55]; rfl⟩
  · cases h; exact ⟨ir58, rfl, by show KF.mk _ b58 _ = _; rw [e58]; rfl⟩
  · cases h; exact ⟨ir61, rfl, by show KF.mk _ b61 _ = _; rw [e61]; rfl⟩
  · cases h; exact ⟨ir62, rfl, by show KF.mk _ b62 _ = _; rw [e62]; rfl⟩
  · cases h; exact ⟨ir63, rfl, by show KF.mk _ b63 _ = _; rw [e63]; rfl⟩
  · cases h; exact ⟨ir64, rfl, by show KF.mk _ b64 _ = _; rw [e64]; rfl⟩
  · cases h; exact ⟨ir65, rfl, by show KF.mk _ b65 _ = _; rw [e65]; rfl⟩
  · cases h; exact ⟨ir66, rfl, by show KF.mk _ b66 _ = _; rw [e66]; rfl⟩
  · cases h; exact ⟨ir69, rfl, by show KF.mk _ b69 _ = _; rw [e69]; rfl⟩
  · cases h; exact ⟨ir70, rfl, by show KF.mk _ b70 _ = _; rw [e70]; rfl⟩
  · cases h; exact ⟨ir71, rfl, by show KF.mk _ b71 _ = _; rw [e71]; rfl⟩
  · cases h; exact ⟨ir72, rfl, by show KF.mk _ b72 _ = _; rw [e72]; rfl⟩
  · cases h; exact ⟨ir73, rfl, by show KF.mk _ b73 _ = _; rw [e73]; rfl⟩
  · cases h; exact ⟨ir74, rfl, by show KF.mk _ b74 _ = _; rw [e74]; rfl⟩
  · cases h; exact ⟨ir75, rfl, by show KF.mk _ b75 _ = _; rw [e75]; rfl⟩
  · cases h; exact ⟨ir76, rfl, by show KF.mk _ b76 _ = _; rw [e76]; rfl⟩
  · cases h; exact ⟨ir77, rfl, by show KF.mk _ b77 _ = _; rw [e77]; rfl⟩
  · cases h; exact ⟨ir78, rfl, by show KF.mk _ b78 _ = _; rw [e78]; rfl⟩
  · cases h; exact ⟨ir79, rfl, by show KF.mk _ b79 _ = _; rw [e79]; rfl⟩
  · cases h; exact ⟨ir80, rfl, by show KF.mk _ b80 _ = _; rw [e80]; rfl⟩
  · cases h; exact ⟨ir81, rfl, by show KF.mk _ b81 _ = _; rw [e81]; rfl⟩
  · cases h; exact ⟨ir82, rfl, by show KF.mk _ b82 _ = _; rw [e82]; rfl⟩
  · cases h; exact ⟨ir83, rfl, by show KF.mk _ b83 _ = _; rw [e83]; rfl⟩
  · cases h; exact ⟨ir88, rfl, by show KF.mk _ b88 _ = _; rw [e88]; rfl⟩
  · cases h; exact ⟨ir89, rfl, by show KF.mk _ b89 _ = _; rw [e89]; rfl⟩
  · cases h; exact ⟨ir90, rfl, by show KF.mk _ b90 _ = _; rw [e90]; rfl⟩
  · cases h; exact ⟨ir91, rfl, by show KF.mk _ b91 _ = _; rw [e91]; rfl⟩
  · cases h; exact ⟨ir92, rfl, by show KF.mk _ b92 _ = _; rw [e92]; rfl⟩
  · cases h; exact ⟨ir97, rfl, by show KF.mk _ b97 _ = _; rw [e97]; rfl⟩
  · cases h; exact ⟨ir98, rfl, by show KF.mk _ b98 _ = _; rw [e98]; rfl⟩
  · cases h; exact ⟨ir99, rfl, by show KF.mk _ b99 _ = _; rw [e99]; rfl⟩
  · cases h; exact ⟨ir100, rfl, by show KF.mk _ b100 _ = _; rw [e100]; rfl⟩
  · cases h; exact ⟨ir101, rfl, by show KF.mk _ b101 _ = _; rw [e101]; rfl⟩
  · cases h; exact ⟨ir102, rfl, by show KF.mk _ b102 _ = _; rw [e102]; rfl⟩
  · cases h; exact ⟨ir103, rfl, by show KF.mk _ b103 _ = _; rw [e103]; rfl⟩
  · cases h; exact ⟨ir104, rfl, by show KF.mk _ b104 _ = _; rw [e104]; rfl⟩
  · cases h; exact ⟨ir105, rfl, by show KF.mk _ b105 _ = _; rw [e105]; rfl⟩
  · cases h; exact ⟨ir107, rfl, by show KF.mk _ b107 _ = _; rw [e107]; rfl⟩
  · cases h; exact ⟨ir108, rfl, by show KF.mk _ b108 _ = _; rw [e108]; rfl⟩
  · cases h; exact ⟨ir109, rfl, by show KF.mk _ b109 _ = _; rw [e109]; rfl⟩
  · cases h; exact ⟨ir110, rfl, by show KF.mk _ b110 _ = _; rw [e110]; rfl⟩
  · cases h; exact ⟨ir111, rfl, by show KF.mk _ b111 _ = _; rw [e111]; rfl⟩
  · cases h; exact ⟨ir112, rfl, by show KF.mk _ b112 _ = _; rw [e112]; rfl⟩
  · cases h; exact ⟨ir113, rfl, by show KF.mk _ b113 _ = _; rw [e113]; rfl⟩
  · cases h; exact ⟨ir114, rfl, by show KF.mk _ b114 _ = _; rw [e114]; rfl⟩
  · cases h
end Go.Ax.Kr
end
