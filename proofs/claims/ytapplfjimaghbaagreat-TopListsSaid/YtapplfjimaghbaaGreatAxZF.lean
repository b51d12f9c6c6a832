/- The seat's program is as the executor wants it. -/
import Derived.Test.YtapplfjimaghbaaGreatAxZL
set_option linter.all false
namespace Ax
open Go
set_option maxRecDepth 100000
theorem AxZtt_ok0 : TTok Go.Proofs.Tryz.prog AxZtt := by
  intro t ti h
  unfold AxZtt at h
  split at h
  · rename_i d i h1 h2
    cases h
    exact ⟨h1, i, h2, rfl, rfl, rfl⟩
  · cases h
theorem AxZtt_ok : TTok AxZ.P AxZ.tt := AxZtt_ok0
/-- Only one function bears a name. -/
def nameAt (P : Program) (n : String) (k : Nat) : Bool := (List.range P.funcs.size).all fun i => Nat.beq i k || (match P.funcs[i]? with | some fn => fn.name != n | none => true)
theorem nameAt_ok {P : Program} {n : String} {k : Nat} (h : nameAt P n k = true) {f : Nat} {fn : Func} (hf : P.funcs[f]? = some fn) (hn : fn.name = n) : f = k := by
  have hlt : f < P.funcs.size := (Array.getElem?_eq_some_iff.1 hf).1
  have := List.all_eq_true.1 h f (List.mem_range.2 hlt)
  rw [hf] at this
  simp only [Bool.or_eq_true] at this
  rcases this with e | e
  · exact Nat.eq_of_beq_eq_true e
  · simp [hn] at e
theorem AxZ_ne : nameAt AxZ.P "internal/abi.NoEscape" 155 = true := by kernel_rfl
theorem AxZ_ib : nameAt AxZ.P "internal/bytealg.IndexByteString" 211 = true := by kernel_rfl
theorem AxZ_ok : FixOK AxZ where
  tt := AxZtt_ok
  mixed := by kernel_rfl
  ne := fun f fn hf _ hn => by
    have e := nameAt_ok AxZ_ne hf hn
    subst e
    have h : AxZ.P.funcs[155]? = some Go.Proofs.Tryz.f155 := Go.Proofs.Tryz.func155
    rw [h] at hf
    cases hf
    exact ⟨by kernel_rfl, by kernel_rfl⟩
  ib := fun f fn hf _ hn => by
    have e := nameAt_ok AxZ_ib hf hn
    subst e
    have h : AxZ.P.funcs[211]? = some Go.Proofs.Tryz.f211 := Go.Proofs.Tryz.func211
    rw [h] at hf
    cases hf
    exact ⟨by kernel_rfl, by kernel_rfl⟩
/-- What runs, so deep. -/
noncomputable def AxZx (n : Nat) : FX := fxN (cpt AxZl) 20 n
theorem AxZx_ok (n : Nat) : CxOK AxZ (QC AxZ) ⟨(AxZx n).cx.call, (AxZx n).cx.round, false⟩ := fxN_ok AxZ_ok (CPOK_of AxZl_ok) 20 n
end Ax
