/- What is fixed for the seat's program. Printed by wip/tools/PrintSeat.lean. -/
import Derived.Test.YtapplfjimaghbaaGreatAx9
import Derived.KernelRfl
import Derived.Test.YtapplfjimaghbaaGreatProg
set_option linter.all false
namespace Ax
open Go
noncomputable def AxZtt (t : Nat) : Option TI := match Go.Proofs.Tryz.prog.underlying t, Go.Proofs.Tryz.prog.info? t with | some d, some i => some ⟨d, i.size, i.bytes, i.zero⟩ | _, _ => none
noncomputable def AxZ : Fix := ⟨Go.Proofs.Tryz.prog, 0, AxZtt, fun _ => none, [(133, 2), (134, 2)]⟩
end Ax
