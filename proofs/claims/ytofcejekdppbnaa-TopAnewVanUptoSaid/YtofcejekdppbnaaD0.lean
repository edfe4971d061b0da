import Derived.Test.YtofcejekdppbnaaC
set_option linter.unusedSectionVars false
set_option linter.unusedVariables false
set_option linter.unusedSimpArgs false
section
namespace Go.Ax.Kr
open Go.Ax.Ir Go.Ax.K
set_option maxRecDepth 100000
theorem r0 : runE tk ot0 60 en0 = true := by kernel_rfl
theorem r1 : runE tk ot0 60 en1 = true := by kernel_rfl
theorem r2 : runE tk ot0 60 en2 = true := by kernel_rfl
theorem r3 : runE tk ot0 60 en3 = true := by kernel_rfl
theorem r4 : runE tk ot0 60 en4 = true := by kernel_rfl
theorem r6 : runE tk ot0 60 en6 = true := by kernel_rfl
theorem r7 : runE tk ot0 60 en7 = true := by kernel_rfl
theorem r8 : runE tk ot0 60 en8 = true := by kernel_rfl
theorem r9 : runE tk ot33 60 en9 = true := by kernel_rfl
theorem r12 : runE tk ot33 60 en12 = true := by kernel_rfl
theorem r14 : runE tk ot0 60 en14 = true := by kernel_rfl
end Go.Ax.Kr
end
