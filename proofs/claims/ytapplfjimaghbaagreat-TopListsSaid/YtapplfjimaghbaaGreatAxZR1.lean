/- TopLists: the run behind its first two lines, for some of the twelve lengths. -/
import Derived.Test.YtapplfjimaghbaaGreatAxZA
set_option linter.all false
namespace Ax
open Go
set_option maxRecDepth 100000
theorem tlRun3 : endsIn 2 (.b true) (tlRun 3) = true := by kernel_rfl
theorem tlRun4 : endsIn 2 (.b true) (tlRun 4) = true := by kernel_rfl
theorem tlRun5 : endsIn 2 (.b true) (tlRun 5) = true := by kernel_rfl
end Ax
