/-
  TopLists: for every length from one to twelve, the grammar of lists by a rule that goes on at its left, and the one by a rule that goes on at its right, give the list its tree, so many steps and so many states: the Go function answers true.
  No condition: it is shown for every input. How: the program's run is worked out by an abstract executor, whose operations, regions (in whatever order is drawn), code, calls and rounds are proved to be what the program does; the kernel works out the twelve runs.
-/
import Derived.Test.YtapplfjimaghbaaGreatAxZR0
import Derived.Test.YtapplfjimaghbaaGreatAxZR1
import Derived.Test.YtapplfjimaghbaaGreatAxZR2
import Derived.Test.YtapplfjimaghbaaGreatAxZR3
import Derived.Test.YtapplfjimaghbaaGreatRows
import Derived.WalkKit
import Derived.ProofKit
import Derived.OpenShut
import Derived.Below
import Derived.ChangeSame
set_option linter.all false
namespace Go.Proofs.YtapplfjimaghbaaGreat.topLists
open Go.ChangeShapes Go.WideShapes Go.ChangeAt Go.RowKit

theorem own : ownKnob Tryz.prog.godebug = none := by kernel_rfl

section
variable {H : Type} {enc : TypeId × Value → H} {P : Program}
theorem post_of_below {f : Func} {s : ChangeSpec} {apart fresh handsOn again : Bool} {W W' : World} {args : Array Value} {v : Value} {ds gs : List (DataW H)} {before pa pv : List MemPlace}
    (hW : DataW.Whole enc P f.params.toList s.vars apart W args.toList ds gs before)
    (hres : ∀ (b : Nat) (sp : Nat → Bool) (hd : Bool), DataW.TrodAll enc P W' b sp hd f.resultTypes.toList (v.resultList f.resultTypes.size) (s.fn H (ds ++ gs)).results [])
    (hargs : ∀ sp : Nat → Bool, (∀ p ∈ before, sp p.block = true) → DataW.TrodAll enc P W' 0 sp true f.params.toList args.toList (s.fn H (ds ++ gs)).args pa)
    (hvars : ∀ sp : Nat → Bool, (∀ p ∈ before, sp p.block = true) → DataW.TrodVars enc P W' sp s.vars (s.fn H (ds ++ gs)).vars pv)
    (hps : before = pa ++ pv) (hb : Below W.heap.size W W')
    (hok : ∀ (j : Nat) (t : TypeId) (r : Value), f.resultTypes[j]? = some t → (v.resultList f.resultTypes.size)[j]? = some r → Value.okWide P W' .any 0 t r) :
    s.post enc P f apart fresh handsOn again W args v W' := by
  have hlt : ∀ p ∈ before, p.block < W.heap.size := fun p hp => hW.lt p hp
  have hold : ∀ p ∈ before, (fun b => decide (b < W.heap.size)) p.block = true := fun p hp => by simpa using hlt p hp
  refine ⟨ds, gs, before, [], pa, pv, hW, hres _ _ _, hargs _ hold, hvars _ hold, World.keptBut_mono (fun p hp => ⟨hp, ?_⟩) (hb.frame (· ∈ before)), fun _ => ?_⟩
  · rw [hps, List.mem_append] at hp
    exact Or.inr hp
  · obtain ⟨_, _, _, _, _, hz, hn⟩ := hW
    refine ⟨hok, _, _, ([] ++ pa) ++ pv, ⟨[] ++ pa, pv, trodAll_append (hargs _ (fun _ _ => rfl)) (hres _ _ _), hvars _ (fun _ _ => rfl), rfl, ?_, ?_⟩, ?_⟩
    · intro b off hp
      have hin : MemPlace.cell b off ∈ before := by rw [hps]; simpa using hp
      rw [hb.frozen (hlt _ hin)]
      exact hz b off hin
    · intro ha
      have := hn ha
      rw [hps] at this
      simpa using this
    · intro p hp _
      rw [hps]
      simpa using hp
end

theorem runs : ∀ m, m < 12 → Ax.endsIn 2 (.b true) (Ax.tlRun m) = true
  | 0, _ => Ax.tlRun0
  | 1, _ => Ax.tlRun1
  | 2, _ => Ax.tlRun2
  | 3, _ => Ax.tlRun3
  | 4, _ => Ax.tlRun4
  | 5, _ => Ax.tlRun5
  | 6, _ => Ax.tlRun6
  | 7, _ => Ax.tlRun7
  | 8, _ => Ax.tlRun8
  | 9, _ => Ax.tlRun9
  | 10, _ => Ax.tlRun10
  | 11, _ => Ax.tlRun11
  | _ + 12, h => by omega

theorem walk (a0 : Int) (w0 : (Lit.int .u8 a0).wf = true) (w : World) :
    Calls Tryz.prog 3 #[.int .u8 a0] w fun e w' => e = .returned (.bool true) ∧ Below w.heap.size w w' := by
  have hb : 0 ≤ a0 ∧ a0 ≤ 255 := by simpa [Lit.wf, IntKind.min, IntKind.max, IntKind.signed, IntKind.bits] using w0
  obtain ⟨n, rfl⟩ : ∃ n : Nat, a0 = Int.ofNat n := ⟨a0.toNat, by show a0 = (a0.toNat : Int); omega⟩
  have hn : n < 256 := by have := hb.2; have h : (n : Int) ≤ 255 := this; omega
  have hA := List.all_eq_true.1 Ax.tlMid_ok n (List.mem_range.2 hn)
  have hB := runs (n % 12) (Nat.mod_lt _ (by omega))
  unfold Ax.tlMid at hA
  unfold Ax.tlRun Ax.tlB at hB
  have main := Ax.law1 Ax.AxZ_ok (Ax.CPOK_of Ax.AxZl_ok) rfl 20 60 3 (fn := Tryz.f3) Tryz.func3 Ax.AxZok3 Ax.tlSeq1 Ax.tlSeq2 Ax.tlReg1 Ax.tlReg2 Ax.tlPure (rr := 2) rfl hA hB w (xs := [.int .u8 (Int.ofNat n)]) (.cons (.u .u8 _) .nil)
  refine main.mono ?_
  rintro e w' ⟨x, rfl, ⟨g', hx⟩, hbl⟩
  rw [hx.b_inv]
  exact ⟨rfl, hbl⟩

set_option maxRecDepth 100000 in
theorem lifted (os : Os) (started : os.Started) (H : Type) (enc : TypeId × Value → H) :
    ReturnsInHanded {} Tryz.checked os 3 .any (Rows.topListsSpec.pre6 enc Tryz.prog Tryz.f3 Rows.topListsRow.domain false) (Rows.topListsSpec.post enc Tryz.prog Tryz.f3 false true false false) := by
  refine returnsInHanded_of_change (C := Tryz.checked) own started (by kernel_rfl) Tryz.func3
    (ChangeSpec.witness6 (enc := enc) (C := Tryz.checked) false ⟨#[], #[.int .u8 0], []⟩ 8 (by kernel_rfl) (by kernel_rfl) (by kernel_rfl) (by kernel_rfl)) ?_
  intro W base args ds gs before hval0 hW hcnd _
  have hval : ∀ (j : Nat) t v, Tryz.f3.params[j]? = some t → args[j]? = some v → Value.okWide Tryz.prog W .any base t v := hval0
  have hW' := hW
  obtain ⟨p, q, hA0, hV, rfl, hfz, hnd⟩ := hW
  have hA : DataW.TrodAll enc Tryz.prog W 0 (fun _ => true) true Tryz.f3.params.toList args.toList ds p := hA0
  rw [Tryz.params3] at hA hval
  obtain ⟨v0, vs0, d0, ds0, p0, q0, hargs, rfl, rfl, h0, r0⟩ := trodAll_cons hA
  obtain ⟨rfl, rfl, rfl⟩ := trodAll_nil r0
  obtain rfl : args = #[v0] := by cases args; simp_all
  obtain ⟨rfl, rfl⟩ := trodVars_none hV
  obtain ⟨a0, rfl, rfl, rfl, w0⟩ := open_int Tryz.underlying5 (hval 0 5 v0 rfl rfl) h0
  clear hA0 hval0
  simp only [List.append_nil] at hW'
  refine (walk a0 w0 W).mono fun e W' ⟨he, hg⟩ => ?_
  subst he
  exact ⟨_, rfl, post_of_below (pa := []) (pv := []) hW' (fun _ _ _ => (trodAll_cons_mk (shut_bool Tryz.underlying4 _) trodAll_mk0)) (fun sp _ => (trodAll_cons_mk (shut_int Tryz.underlying5 w0) trodAll_mk0)) (fun _ _ => rfl) rfl
    hg (ok_one (by kernel_rfl) rfl (okWide_bool_mk Tryz.underlying4 _))⟩

theorem over : Rows.topListsRow.holds Tryz.pinned (OpenSpec.ofChange Rows.topListsSpec) :=
  OpenClaim.holds_of_wide 3 Tryz.f3 rfl rfl rfl rfl rfl rfl rfl ⟨rfl, rfl, rfl, rfl, rfl⟩ rfl rfl rfl rfl rfl (by kernel_rfl) Tryz.func3 (by kernel_rfl)
    (of_decide_eq_true (by kernel_rfl)) (by unfold Func.isWrapper; first | (rw [if_pos (by decide +kernel)]; kernel_rfl) | (rw [if_neg (by decide +kernel)]; exact ⟨rfl, rfl⟩))
    (fun os started H enc _ => lifted os started H enc)

/-- The statement. -/
theorem proved : Rows.TopListsSaid :=
  over
#print axioms proved
end Go.Proofs.YtapplfjimaghbaaGreat.topLists
