import Derived.Test.YthlhpjjimbnabaaGreatC
set_option linter.unusedSectionVars false
set_option linter.unusedVariables false
set_option linter.unusedSimpArgs false
section
namespace Go.Ax.Kr
open Go.Ax.Ir Go.Ax.K
set_option maxRecDepth 100000
theorem r0 : runE tk ot0 60 en0 = true := by kernel_rfl
theorem r1 : runE tk ot0 60 en1 = true := by kernel_rfl
theorem r3 : runE tk ot0 60 en3 = true := by kernel_rfl
theorem r6 : runE tk ot0 60 en6 = true := by kernel_rfl
theorem r7 : runE tk ot0 60 en7 = true := by kernel_rfl
end Go.Ax.Kr
end
