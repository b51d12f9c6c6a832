/- TopLists: the run behind its first two lines, for some of the twelve lengths. -/
import Derived.Test.YtapplfjimaghbaaGreatAxZA
set_option linter.all false
namespace Ax
open Go
set_option maxRecDepth 100000
theorem tlRun6 : endsIn 2 (.b true) (tlRun 6) = true := by kernel_rfl
theorem tlRun7 : endsIn 2 (.b true) (tlRun 7) = true := by kernel_rfl
theorem tlRun8 : endsIn 2 (.b true) (tlRun 8) = true := by kernel_rfl
end Ax
