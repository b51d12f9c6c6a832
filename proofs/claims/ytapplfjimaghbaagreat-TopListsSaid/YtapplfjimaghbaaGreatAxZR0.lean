/- TopLists: the run behind its first two lines, for some of the twelve lengths. -/
import Derived.Test.YtapplfjimaghbaaGreatAxZA
set_option linter.all false
namespace Ax
open Go
set_option maxRecDepth 100000
theorem tlRun0 : endsIn 2 (.b true) (tlRun 0) = true := by kernel_rfl
theorem tlRun1 : endsIn 2 (.b true) (tlRun 1) = true := by kernel_rfl
theorem tlRun2 : endsIn 2 (.b true) (tlRun 2) = true := by kernel_rfl
end Ax
