import Derived.Test.YthlhpjjimbnabaaGreatC
set_option linter.unusedSectionVars false
set_option linter.unusedVariables false
set_option linter.unusedSimpArgs false
section
namespace Go.Ax.Kr
open Go.Ax.Ir Go.Ax.K
set_option maxRecDepth 100000
theorem r8 : runE tk ot0 60 en8 = true := by kernel_rfl
end Go.Ax.Kr
end
