/- TopLists: what its first two lines leave. -/
import Derived.Test.YtapplfjimaghbaaGreatAxZF
import Derived.Test.YtapplfjimaghbaaGreatAx9
set_option linter.all false
namespace Ax
open Go
set_option maxRecDepth 100000
/-- All that counts: the named result, and how many elements. -/
noncomputable def tlR (m : Nat) : RF := RF.set (RF.set (R16.fill (R16.fill .top)) 2 (.b false)) 3 (.i (.ofNat (m + 1)))
noncomputable def tlB : CC := ccSnd (ccSnd AxZc3.code)
noncomputable def tlRun (m : Nat) : FR := (den 3 AxZc3.ntmps 20 tlB).run ⟨(fxN (cpt AxZl) 20 60).call, (fxN (cpt AxZl) 20 60).round, false⟩ (tlR m) ⟨1, T.e⟩ []
noncomputable def tlMid (n : Nat) : Bool := midB AxZc3.ntmps (tlR (n % 12)) ((denR (ccOps (ccFst AxZc3.code) ++ ccOps (ccFst (ccSnd AxZc3.code)))).run ⟨(fxN (cpt AxZl) 20 60).call, (fxN (cpt AxZl) 20 60).round, false⟩ (RF.of [.u .u8 (.ofNat n)]) ⟨1, T.e⟩ [] .norm)
theorem tlMid_ok : ((List.range 256).all tlMid) = true := by kernel_rfl
theorem tlSeq1 : isSeq (bodyOf Go.Proofs.Tryz.f3) = true := by kernel_rfl
theorem tlSeq2 : isSeq (cSnd (bodyOf Go.Proofs.Tryz.f3)) = true := by kernel_rfl
theorem tlReg1 : isReg (ccFst AxZc3.code) = true := by kernel_rfl
theorem tlReg2 : isReg (ccFst (ccSnd AxZc3.code)) = true := by kernel_rfl
theorem tlPure : pureL (ccOps (ccFst AxZc3.code) ++ ccOps (ccFst (ccSnd AxZc3.code))) = true := by kernel_rfl
end Ax
