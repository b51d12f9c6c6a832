/- TopLists: the run behind its first two lines, for some of the twelve lengths. -/
import Derived.Test.YtapplfjimaghbaaGreatAxZA
set_option linter.all false
namespace Ax
open Go
set_option maxRecDepth 100000
theorem tlRun9 : endsIn 2 (.b true) (tlRun 9) = true := by kernel_rfl
theorem tlRun10 : endsIn 2 (.b true) (tlRun 10) = true := by kernel_rfl
theorem tlRun11 : endsIn 2 (.b true) (tlRun 11) = true := by kernel_rfl
end Ax
