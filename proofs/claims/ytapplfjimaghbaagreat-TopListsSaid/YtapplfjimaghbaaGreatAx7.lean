/- The abstract executor, in the kernel's quick form, 1: results, and how values are taken apart. Printed by wip/tools/genfr.py. -/
import Derived.Test.YtapplfjimaghbaaGreatAx4
set_option linter.all false
namespace Ax
open Go

abbrev DS := List (Nat × List V)
inductive FR where
  | no
  | norm (rs : RF) (h : H) (ds : DS)
  | exit (id : Nat) (rs : RF) (h : H) (ds : DS)
  | goto (l : Nat) (rs : RF) (h : H) (ds : DS)
  | ret (rs : RF) (h : H) (ds : DS)
inductive CR where
  | no
  | ok (v : V) (h : H)
def FR.opt : FR → Option (Ex × St)
  | .no => none
  | .norm rs h ds => some (.norm, ⟨rs, h, ds⟩)
  | .exit id rs h ds => some (.exit id, ⟨rs, h, ds⟩)
  | .goto l rs h ds => some (.goto l, ⟨rs, h, ds⟩)
  | .ret rs h ds => some (.ret, ⟨rs, h, ds⟩)
def CR.opt : CR → Option (V × H)
  | .no => none
  | .ok v h => some (v, h)

noncomputable def onI : V → (Int → FR) → FR → FR :=
  V.rec (motive_1 := fun _ => (Int → FR) → FR → FR) (motive_2 := fun _ => PUnit) (fun _ d => d) (fun f0 k0 _ => k0 f0) (fun _ _ _ d => d) (fun _ _ d => d) (fun _ _ _ d => d) (fun _ _ _ d => d) (fun _ _ _ d => d) (fun _ _ _ _ _ d => d) (fun _ _ _ _ _ d => d) (fun _ _ d => d) (fun _ _ _ _ d => d) (fun _ _ d => d) (fun _ d => d) (fun _ d => d) (fun _ d => d) (fun _ d => d) (fun _ d => d) (fun _ _ _ _ d => d) (fun _ _ _ d => d) (fun _ _ _ d => d) .unit (fun _ _ _ _ => .unit)
theorem onI_eq (v : V) (k0 : Int → FR) (d : FR) : onI v k0 d = match v with | .i n => k0 n | _ => d := by cases v <;> rfl

noncomputable def onU : V → (IntKind → Int → FR) → FR → FR :=
  V.rec (motive_1 := fun _ => (IntKind → Int → FR) → FR → FR) (motive_2 := fun _ => PUnit) (fun _ d => d) (fun _ _ d => d) (fun f0 f1 k0 _ => k0 f0 f1) (fun _ _ d => d) (fun _ _ _ d => d) (fun _ _ _ d => d) (fun _ _ _ d => d) (fun _ _ _ _ _ d => d) (fun _ _ _ _ _ d => d) (fun _ _ d => d) (fun _ _ _ _ d => d) (fun _ _ d => d) (fun _ d => d) (fun _ d => d) (fun _ d => d) (fun _ d => d) (fun _ d => d) (fun _ _ _ _ d => d) (fun _ _ _ d => d) (fun _ _ _ d => d) .unit (fun _ _ _ _ => .unit)
theorem onU_eq (v : V) (k0 : IntKind → Int → FR) (d : FR) : onU v k0 d = match v with | .u k n => k0 k n | _ => d := by cases v <;> rfl

noncomputable def onN : V → (Int → FR) → (IntKind → Int → FR) → FR → FR :=
  V.rec (motive_1 := fun _ => (Int → FR) → (IntKind → Int → FR) → FR → FR) (motive_2 := fun _ => PUnit) (fun _ _ d => d) (fun f0 k0 _ _ => k0 f0) (fun f0 f1 _ k1 _ => k1 f0 f1) (fun _ _ _ d => d) (fun _ _ _ _ d => d) (fun _ _ _ _ d => d) (fun _ _ _ _ d => d) (fun _ _ _ _ _ _ d => d) (fun _ _ _ _ _ _ d => d) (fun _ _ _ d => d) (fun _ _ _ _ _ d => d) (fun _ _ _ d => d) (fun _ _ d => d) (fun _ _ d => d) (fun _ _ d => d) (fun _ _ d => d) (fun _ _ d => d) (fun _ _ _ _ _ d => d) (fun _ _ _ _ d => d) (fun _ _ _ _ d => d) .unit (fun _ _ _ _ => .unit)
theorem onN_eq (v : V) (k0 : Int → FR) (k1 : IntKind → Int → FR) (d : FR) : onN v k0 k1 d = match v with | .i n => k0 n | .u k n => k1 k n | _ => d := by cases v <;> rfl

noncomputable def onB : V → (Bool → FR) → FR → FR :=
  V.rec (motive_1 := fun _ => (Bool → FR) → FR → FR) (motive_2 := fun _ => PUnit) (fun _ d => d) (fun _ _ d => d) (fun _ _ _ d => d) (fun f0 k0 _ => k0 f0) (fun _ _ _ d => d) (fun _ _ _ d => d) (fun _ _ _ d => d) (fun _ _ _ _ _ d => d) (fun _ _ _ _ _ d => d) (fun _ _ d => d) (fun _ _ _ _ d => d) (fun _ _ d => d) (fun _ d => d) (fun _ d => d) (fun _ d => d) (fun _ d => d) (fun _ d => d) (fun _ _ _ _ d => d) (fun _ _ _ d => d) (fun _ _ _ d => d) .unit (fun _ _ _ _ => .unit)
theorem onB_eq (v : V) (k0 : Bool → FR) (d : FR) : onB v k0 d = match v with | .b x => k0 x | _ => d := by cases v <;> rfl

noncomputable def onBT : V → (Bool → FR) → (List V → FR) → FR → FR :=
  V.rec (motive_1 := fun _ => (Bool → FR) → (List V → FR) → FR → FR) (motive_2 := fun _ => PUnit) (fun _ _ d => d) (fun _ _ _ d => d) (fun _ _ _ _ d => d) (fun f0 k0 _ _ => k0 f0) (fun _ _ _ _ d => d) (fun _ _ _ _ d => d) (fun _ _ _ _ d => d) (fun _ _ _ _ _ _ d => d) (fun _ _ _ _ _ _ d => d) (fun _ _ _ d => d) (fun _ _ _ _ _ d => d) (fun _ _ _ d => d) (fun _ _ d => d) (fun _ _ d => d) (fun _ _ d => d) (fun _ _ d => d) (fun _ _ d => d) (fun _ _ _ _ _ d => d) (fun _ _ _ _ d => d) (fun f0 _ _ k1 _ => k1 f0) .unit (fun _ _ _ _ => .unit)
theorem onBT_eq (v : V) (k0 : Bool → FR) (k1 : List V → FR) (d : FR) : onBT v k0 k1 d = match v with | .b x => k0 x | .tup cs => k1 cs | _ => d := by cases v <;> rfl

noncomputable def onS : V → (Nat → Nat → FR) → FR → FR :=
  V.rec (motive_1 := fun _ => (Nat → Nat → FR) → FR → FR) (motive_2 := fun _ => PUnit) (fun _ d => d) (fun _ _ d => d) (fun _ _ _ d => d) (fun _ _ d => d) (fun f0 f1 k0 _ => k0 f0 f1) (fun _ _ _ d => d) (fun _ _ _ d => d) (fun _ _ _ _ _ d => d) (fun _ _ _ _ _ d => d) (fun _ _ d => d) (fun _ _ _ _ d => d) (fun _ _ d => d) (fun _ d => d) (fun _ d => d) (fun _ d => d) (fun _ d => d) (fun _ d => d) (fun _ _ _ _ d => d) (fun _ _ _ d => d) (fun _ _ _ d => d) .unit (fun _ _ _ _ => .unit)
theorem onS_eq (v : V) (k0 : Nat → Nat → FR) (d : FR) : onS v k0 d = match v with | .s l c => k0 l c | _ => d := by cases v <;> rfl

noncomputable def onP : V → (Nat → Nat → FR) → FR → FR :=
  V.rec (motive_1 := fun _ => (Nat → Nat → FR) → FR → FR) (motive_2 := fun _ => PUnit) (fun _ d => d) (fun _ _ d => d) (fun _ _ _ d => d) (fun _ _ d => d) (fun _ _ _ d => d) (fun f0 f1 k0 _ => k0 f0 f1) (fun _ _ _ d => d) (fun _ _ _ _ _ d => d) (fun _ _ _ _ _ d => d) (fun _ _ d => d) (fun _ _ _ _ d => d) (fun _ _ d => d) (fun _ d => d) (fun _ d => d) (fun _ d => d) (fun _ d => d) (fun _ d => d) (fun _ _ _ _ d => d) (fun _ _ _ d => d) (fun _ _ _ d => d) .unit (fun _ _ _ _ => .unit)
theorem onP_eq (v : V) (k0 : Nat → Nat → FR) (d : FR) : onP v k0 d = match v with | .ptr i o => k0 i o | _ => d := by cases v <;> rfl

noncomputable def onPF : V → (Nat → Nat → FR) → (List V → FR) → FR → FR :=
  V.rec (motive_1 := fun _ => (Nat → Nat → FR) → (List V → FR) → FR → FR) (motive_2 := fun _ => PUnit) (fun _ _ d => d) (fun _ _ _ d => d) (fun _ _ _ _ d => d) (fun _ _ _ d => d) (fun _ _ _ _ d => d) (fun f0 f1 k0 _ _ => k0 f0 f1) (fun f0 _ _ k1 _ => k1 f0) (fun _ _ _ _ _ _ d => d) (fun _ _ _ _ _ _ d => d) (fun _ _ _ d => d) (fun _ _ _ _ _ d => d) (fun _ _ _ d => d) (fun _ _ d => d) (fun _ _ d => d) (fun _ _ d => d) (fun _ _ d => d) (fun _ _ d => d) (fun _ _ _ _ _ d => d) (fun _ _ _ _ d => d) (fun _ _ _ _ d => d) .unit (fun _ _ _ _ => .unit)
theorem onPF_eq (v : V) (k0 : Nat → Nat → FR) (k1 : List V → FR) (d : FR) : onPF v k0 k1 d = match v with | .ptr i o => k0 i o | .fp cs => k1 cs | _ => d := by cases v <;> rfl

noncomputable def onSl : V → (Nat → Nat → Nat → Nat → FR) → FR → FR :=
  V.rec (motive_1 := fun _ => (Nat → Nat → Nat → Nat → FR) → FR → FR) (motive_2 := fun _ => PUnit) (fun _ d => d) (fun _ _ d => d) (fun _ _ _ d => d) (fun _ _ d => d) (fun _ _ _ d => d) (fun _ _ _ d => d) (fun _ _ _ d => d) (fun f0 f1 f2 f3 k0 _ => k0 f0 f1 f2 f3) (fun _ _ _ _ _ d => d) (fun _ _ d => d) (fun _ _ _ _ d => d) (fun _ _ d => d) (fun _ d => d) (fun _ d => d) (fun _ d => d) (fun _ d => d) (fun _ d => d) (fun _ _ _ _ d => d) (fun _ _ _ d => d) (fun _ _ _ d => d) .unit (fun _ _ _ _ => .unit)
theorem onSl_eq (v : V) (k0 : Nat → Nat → Nat → Nat → FR) (d : FR) : onSl v k0 d = match v with | .sl i o l c => k0 i o l c | _ => d := by cases v <;> rfl

noncomputable def onFn : V → (Nat → List V → FR) → (Nat → FR) → FR → FR :=
  V.rec (motive_1 := fun _ => (Nat → List V → FR) → (Nat → FR) → FR → FR) (motive_2 := fun _ => PUnit) (fun _ _ d => d) (fun _ _ _ d => d) (fun _ _ _ _ d => d) (fun _ _ _ d => d) (fun _ _ _ _ d => d) (fun _ _ _ _ d => d) (fun _ _ _ _ d => d) (fun _ _ _ _ _ _ d => d) (fun _ _ _ _ _ _ d => d) (fun _ _ _ d => d) (fun f0 f1 _ k0 _ _ => k0 f0 f1) (fun f0 _ k1 _ => k1 f0) (fun _ _ d => d) (fun _ _ d => d) (fun _ _ d => d) (fun _ _ d => d) (fun _ _ d => d) (fun _ _ _ _ _ d => d) (fun _ _ _ _ d => d) (fun _ _ _ _ d => d) .unit (fun _ _ _ _ => .unit)
theorem onFn_eq (v : V) (k0 : Nat → List V → FR) (k1 : Nat → FR) (d : FR) : onFn v k0 k1 d = match v with | .fn f cs => k0 f cs | .yld i => k1 i | _ => d := by cases v <;> rfl

noncomputable def onTup : V → (List V → FR) → FR → FR :=
  V.rec (motive_1 := fun _ => (List V → FR) → FR → FR) (motive_2 := fun _ => PUnit) (fun _ d => d) (fun _ _ d => d) (fun _ _ _ d => d) (fun _ _ d => d) (fun _ _ _ d => d) (fun _ _ _ d => d) (fun _ _ _ d => d) (fun _ _ _ _ _ d => d) (fun _ _ _ _ _ d => d) (fun _ _ d => d) (fun _ _ _ _ d => d) (fun _ _ d => d) (fun _ d => d) (fun _ d => d) (fun _ d => d) (fun _ d => d) (fun _ d => d) (fun _ _ _ _ d => d) (fun _ _ _ d => d) (fun f0 _ k0 _ => k0 f0) .unit (fun _ _ _ _ => .unit)
theorem onTup_eq (v : V) (k0 : List V → FR) (d : FR) : onTup v k0 d = match v with | .tup cs => k0 cs | _ => d := by cases v <;> rfl

noncomputable def onAgg : V → (List V → FR) → FR → FR :=
  V.rec (motive_1 := fun _ => (List V → FR) → FR → FR) (motive_2 := fun _ => PUnit) (fun _ d => d) (fun _ _ d => d) (fun _ _ _ d => d) (fun _ _ d => d) (fun _ _ _ d => d) (fun _ _ _ d => d) (fun _ _ _ d => d) (fun _ _ _ _ _ d => d) (fun _ _ _ _ _ d => d) (fun _ _ d => d) (fun _ _ _ _ d => d) (fun _ _ d => d) (fun _ d => d) (fun _ d => d) (fun _ d => d) (fun _ d => d) (fun _ d => d) (fun _ _ _ _ d => d) (fun f0 _ k0 _ => k0 f0) (fun _ _ _ d => d) .unit (fun _ _ _ _ => .unit)
theorem onAgg_eq (v : V) (k0 : List V → FR) (d : FR) : onAgg v k0 d = match v with | .agg cs => k0 cs | _ => d := by cases v <;> rfl

noncomputable def onLen : V → (Nat → Nat → Nat → Nat → FR) → (List V → Nat → Nat → FR) → FR → FR → FR :=
  V.rec (motive_1 := fun _ => (Nat → Nat → Nat → Nat → FR) → (List V → Nat → Nat → FR) → FR → FR → FR) (motive_2 := fun _ => PUnit) (fun _ _ _ d => d) (fun _ _ _ _ d => d) (fun _ _ _ _ _ d => d) (fun _ _ _ _ d => d) (fun _ _ _ _ _ d => d) (fun _ _ _ _ _ d => d) (fun _ _ _ _ _ d => d) (fun f0 f1 f2 f3 k0 _ _ _ => k0 f0 f1 f2 f3) (fun f0 f1 f2 _ _ k1 _ _ => k1 f0 f1 f2) (fun _ _ _ _ d => d) (fun _ _ _ _ _ _ d => d) (fun _ _ _ _ d => d) (fun _ _ _ d => d) (fun _ _ k2 _ => k2) (fun _ _ _ d => d) (fun _ _ _ d => d) (fun _ _ _ d => d) (fun _ _ _ _ _ _ d => d) (fun _ _ _ _ _ d => d) (fun _ _ _ _ _ d => d) .unit (fun _ _ _ _ => .unit)
theorem onLen_eq (v : V) (k0 : Nat → Nat → Nat → Nat → FR) (k1 : List V → Nat → Nat → FR) (k2 : FR) (d : FR) : onLen v k0 k1 k2 d = match v with | .sl i o l c => k0 i o l c | .fs cs l c => k1 cs l c | .nils => k2 | _ => d := by cases v <;> rfl

noncomputable def onIfc : V → (Nat → V → FR) → FR → FR → FR :=
  V.rec (motive_1 := fun _ => (Nat → V → FR) → FR → FR → FR) (motive_2 := fun _ => PUnit) (fun _ _ d => d) (fun _ _ _ d => d) (fun _ _ _ _ d => d) (fun _ _ _ d => d) (fun _ _ _ _ d => d) (fun _ _ _ _ d => d) (fun _ _ _ _ d => d) (fun _ _ _ _ _ _ d => d) (fun _ _ _ _ _ _ d => d) (fun _ _ _ d => d) (fun _ _ _ _ _ d => d) (fun _ _ _ d => d) (fun _ _ d => d) (fun _ _ d => d) (fun _ _ d => d) (fun _ _ d => d) (fun _ k1 _ => k1) (fun f0 f1 _ k0 _ _ => k0 f0 f1) (fun _ _ _ _ d => d) (fun _ _ _ _ d => d) .unit (fun _ _ _ _ => .unit)
theorem onIfc_eq (v : V) (k0 : Nat → V → FR) (k1 : FR) (d : FR) : onIfc v k0 k1 d = match v with | .nili => k1 | .ifc t v => k0 t v | _ => d := by cases v <;> rfl

noncomputable def onM : V → (Nat → FR) → FR → FR :=
  V.rec (motive_1 := fun _ => (Nat → FR) → FR → FR) (motive_2 := fun _ => PUnit) (fun _ d => d) (fun _ _ d => d) (fun _ _ _ d => d) (fun _ _ d => d) (fun _ _ _ d => d) (fun _ _ _ d => d) (fun _ _ _ d => d) (fun _ _ _ _ _ d => d) (fun _ _ _ _ _ d => d) (fun f0 k0 _ => k0 f0) (fun _ _ _ _ d => d) (fun _ _ d => d) (fun _ d => d) (fun _ d => d) (fun _ d => d) (fun _ d => d) (fun _ d => d) (fun _ _ _ _ d => d) (fun _ _ _ d => d) (fun _ _ _ d => d) .unit (fun _ _ _ _ => .unit)
theorem onM_eq (v : V) (k0 : Nat → FR) (d : FR) : onM v k0 d = match v with | .m i => k0 i | _ => d := by cases v <;> rfl

/-- May it lie in one cell? -/
noncomputable def onLeaf : V → FR → FR → FR :=
  V.rec (motive_1 := fun _ => FR → FR → FR) (motive_2 := fun _ => PUnit) (fun _ d => d) (fun _ k _ => k) (fun _ _ k _ => k) (fun _ k _ => k) (fun _ _ k _ => k) (fun _ _ k _ => k) (fun _ _ k _ => k) (fun _ _ _ _ k _ => k) (fun _ _ _ _ k _ => k) (fun _ k _ => k) (fun _ _ _ k _ => k) (fun _ k _ => k) (fun k _ => k) (fun k _ => k) (fun k _ => k) (fun k _ => k) (fun k _ => k) (fun _ _ _ k _ => k) (fun _ _ _ d => d) (fun _ _ _ d => d) .unit (fun _ _ _ _ => .unit)
theorem onLeaf_eq (v : V) (k d : FR) : onLeaf v k d = if v.leaf then k else d := by cases v <;> rfl
noncomputable def onNil : V → FR → FR :=
  V.rec (motive_1 := fun _ => FR → FR) (motive_2 := fun _ => PUnit) (fun _ => .no) (fun _ _ => .no) (fun _ _ _ => .no) (fun _ _ => .no) (fun _ _ _ => .no) (fun _ _ k => k) (fun _ _ k => k) (fun _ _ _ _ _ => .no) (fun _ _ _ _ _ => .no) (fun _ _ => .no) (fun _ _ _ k => k) (fun _ k => k) (fun _ => .no) (fun _ => .no) (fun _ => .no) (fun _ => .no) (fun _ => .no) (fun _ _ _ k => k) (fun _ _ _ => .no) (fun _ _ _ => .no) .unit (fun _ _ _ _ => .unit)
end Ax

/- The abstract executor, in the kernel's quick form, 2: each operation by itself. Printed by wip/tools/genfop.py out of AxOp.lean. -/
namespace Ax
open Go
set_option linter.unusedVariables false

noncomputable def o_mv (x : X) (rs : RF) (h : H) : Option OR :=
  some (.val (x.val rs) h)
theorem o_mv_eq (x : X) (rs : RF) (h : H) : opSem (.mv x) rs h = o_mv x rs h := rfl
noncomputable def o_pick (c : X) (a : X) (b : X) (rs : RF) (h : H) : Option OR :=
  (match c.val rs with | .b t => some (.val (if t then a.val rs else b.val rs) h) | _ => none)
theorem o_pick_eq (c : X) (a : X) (b : X) (rs : RF) (h : H) : opSem (.pick c a b) rs h = o_pick c a b rs h := rfl
noncomputable def o_alloc (e : Nat) (z : List V) (rs : RF) (h : H) : Option OR :=
  some (.val (.ptr h.next 0) (newCells h e (Nat.max 1 z.length) z true))
theorem o_alloc_eq (e : Nat) (z : List V) (rs : RF) (h : H) : opSem (.alloc e z) rs h = o_alloc e z rs h := rfl
noncomputable def o_box (e : Nat) (x : X) (rs : RF) (h : H) : Option OR :=
  if (x.val rs).cells.all V.leaf then some (.val (.ptr h.next 0) (newCells h e (Nat.max 1 (x.val rs).cells.length) (x.val rs).cells true)) else none
theorem o_box_eq (e : Nat) (x : X) (rs : RF) (h : H) : opSem (.box e x) rs h = o_box e x rs h := rfl
noncomputable def o_build (z : List V) (ps : List (Nat × Nat × X)) (rs : RF) (h : H) : Option OR :=
  ret h ((fillL z (parts rs ps)).map .agg)
theorem o_build_eq (z : List V) (ps : List (Nat × Nat × X)) (rs : RF) (h : H) : opSem (.build z ps) rs h = o_build z ps rs h := rfl
noncomputable def o_bslice (e : Nat) (es : Nat) (n : Nat) (z : List V) (ps : List (Nat × Nat × X)) (rs : RF) (h : H) : Option OR :=
  (match fillL (reps n z) (parts rs ps) with
    | some cs => if cs.all V.leaf then some (.val (.sl h.next 0 n (n + 1)) (newCells h e es cs true)) else none
    | none => none)
theorem o_bslice_eq (e : Nat) (es : Nat) (n : Nat) (z : List V) (ps : List (Nat × Nat × X)) (rs : RF) (h : H) : opSem (.bslice e es n z ps) rs h = o_bslice e es n z ps rs h := rfl
noncomputable def o_ld (x : X) (rs : RF) (h : H) : Option OR :=
  (match ldC h (x.val rs) 1 with | some [v] => some (.val v h) | _ => none)
theorem o_ld_eq (x : X) (rs : RF) (h : H) : opSem (.ld x) rs h = o_ld x rs h := rfl
noncomputable def o_lda (n : Nat) (x : X) (rs : RF) (h : H) : Option OR :=
  ret h ((ldC h (x.val rs) n).map .agg)
theorem o_lda_eq (n : Nat) (x : X) (rs : RF) (h : H) : opSem (.lda n x) rs h = o_lda n x rs h := rfl
noncomputable def o_st (n : Nat) (a : X) (x : X) (rs : RF) (h : H) : Option OR :=
  if (x.val rs).cells.length = n then (match stC h (a.val rs) (x.val rs).cells with | some h => some (.val .undef h) | none => none) else none
theorem o_st_eq (n : Nat) (a : X) (x : X) (rs : RF) (h : H) : opSem (.st n a x) rs h = o_st n a x rs h := rfl
noncomputable def o_nilck (x : X) (rs : RF) (h : H) : Option OR :=
  (match x.val rs with
    | .ptr i o => some (.val (.ptr i o) h)
    | .fp cs => some (.val (.fp cs) h)
    | .fn f c => some (.val (.fn f c) h)
    | .yld i => some (.val (.yld i) h)
    | .ifc t v => some (.val (.ifc t v) h)
    | _ => none)
theorem o_nilck_eq (x : X) (rs : RF) (h : H) : opSem (.nilck x) rs h = o_nilck x rs h := rfl
noncomputable def o_bin (op : BinOp) (x : X) (y : X) (rs : RF) (h : H) : Option OR :=
  ret h (binV op (x.val rs) (y.val rs))
theorem o_bin_eq (op : BinOp) (x : X) (y : X) (rs : RF) (h : H) : opSem (.bin op x y) rs h = o_bin op x y rs h := rfl
noncomputable def o_eq (k : EqK) (neg : Bool) (x : X) (y : X) (rs : RF) (h : H) : Option OR :=
  (match eqV k (x.val rs) (y.val rs) with | some t => some (.val (.b (t != neg)) h) | none => none)
theorem o_eq_eq (k : EqK) (neg : Bool) (x : X) (y : X) (rs : RF) (h : H) : opSem (.eq k neg x y) rs h = o_eq k neg x y rs h := rfl
noncomputable def o_un (op : UnOp) (x : X) (rs : RF) (h : H) : Option OR :=
  ret h (unV op (x.val rs))
theorem o_un_eq (op : UnOp) (x : X) (rs : RF) (h : H) : opSem (.un op x) rs h = o_un op x rs h := rfl
noncomputable def o_cvInt (k : IntKind) (x : X) (rs : RF) (h : H) : Option OR :=
  (match x.val rs with
    | .i n => some (.val (mkInt k (wrapq k n)) h)
    | .u _ n => some (.val (mkInt k (wrapq k n)) h)
    | _ => none)
theorem o_cvInt_eq (k : IntKind) (x : X) (rs : RF) (h : H) : opSem (.cvInt k x) rs h = o_cvInt k x rs h := rfl
noncomputable def o_cvS (x : X) (rs : RF) (h : H) : Option OR :=
  (match x.val rs with | .s l c => some (.val (.s l c) h) | _ => none)
theorem o_cvS_eq (x : X) (rs : RF) (h : H) : opSem (.cvS x) rs h = o_cvS x rs h := rfl
noncomputable def o_cvUp (u_0 : Nat) (x : X) (rs : RF) (h : H) : Option OR :=
  (match x.val rs with
    | .nilp => some (.val .nilp h)
    | .ptr id off => (match h.get id with
      | some (.cells _ n _ _ _) => if off < n then some (.val (.ptr id off) h) else none
      | _ => none)
    | _ => none)
theorem o_cvUp_eq (u_0 : Nat) (x : X) (rs : RF) (h : H) : opSem (.cvUp u_0 x) rs h = o_cvUp u_0 x rs h := rfl
noncomputable def o_cvDn (u_0 : Nat) (al : List (Nat × Nat)) (x : X) (rs : RF) (h : H) : Option OR :=
  (match x.val rs with
    | .nilp => some (.val .nilp h)
    | .ptr id 0 => (match h.get id with
      | some (.cells _ n e _ true) => if al.any fun p => Nat.beq p.1 e && Nat.beq p.2 n then some (.val (.ptr id 0) h) else none
      | _ => none)
    | _ => none)
theorem o_cvDn_eq (u_0 : Nat) (al : List (Nat × Nat)) (x : X) (rs : RF) (h : H) : opSem (.cvDn u_0 al x) rs h = o_cvDn u_0 al x rs h := rfl
noncomputable def o_cvBytes (e : Nat) (x : X) (rs : RF) (h : H) : Option OR :=
  (match x.val rs with
    | .s l c => some (.val (.sl h.next 0 l 0) (newCells h e 1 (bytesV l c) false))
    | _ => none)
theorem o_cvBytes_eq (e : Nat) (x : X) (rs : RF) (h : H) : opSem (.cvBytes e x) rs h = o_cvBytes e x rs h := rfl
noncomputable def o_cvStr (x : X) (rs : RF) (h : H) : Option OR :=
  (match (lenQ (x.val rs)).bind fun n => (firstOf h 1 n (x.val rs)).bind bytesOf with
    | some (l, c) => some (.val (.s l c) h)
    | none => none)
theorem o_cvStr_eq (x : X) (rs : RF) (h : H) : opSem (.cvStr x) rs h = o_cvStr x rs h := rfl
noncomputable def o_mkIf (t : Nat) (x : X) (rs : RF) (h : H) : Option OR :=
  some (.val (.ifc t (x.val rs)) h)
theorem o_mkIf_eq (t : Nat) (x : X) (rs : RF) (h : H) : opSem (.mkIf t x) rs h = o_mkIf t x rs h := rfl
noncomputable def o_mkFn (f : Nat) (xs : List X) (rs : RF) (h : H) : Option OR :=
  some (.val (.fn f (vals rs xs)) h)
theorem o_mkFn_eq (f : Nat) (xs : List X) (rs : RF) (h : H) : opSem (.mkFn f xs) rs h = o_mkFn f xs rs h := rfl
noncomputable def o_mkMap  (rs : RF) (h : H) : Option OR :=
  some (.val (.m h.next) (h.new (.map [] 0)))
theorem o_mkMap_eq  (rs : RF) (h : H) : opSem (.mkMap) rs h = o_mkMap  rs h := rfl
noncomputable def o_mkSl (e : Nat) (es : Nat) (z : List V) (l : X) (c : X) (rs : RF) (h : H) : Option OR :=
  (match natI (l.val rs), natI (c.val rs) with
    | some l, some c => if l ≤ c && c ≤ 16777216 then some (.val (.sl h.next 0 l (c + 1)) (newCells h e es (reps c z) true)) else none
    | _, _ => none)
theorem o_mkSl_eq (e : Nat) (es : Nat) (z : List V) (l : X) (c : X) (rs : RF) (h : H) : opSem (.mkSl e es z l c) rs h = o_mkSl e es z l c rs h := rfl
noncomputable def o_slArr (n : Nat) (es : Nat) (x : X) (lo : Option X) (hi : Option X) (mx : Option X) (rs : RF) (h : H) : Option OR :=
  (match x.val rs, bnd rs lo, bnd rs hi, bnd rs mx with
    | .ptr id off, some lo, some hi, some mx => ret h (sliceV (.sl id off n (n + 1)) es 0 lo hi mx)
    | _, _, _, _ => none)
theorem o_slArr_eq (n : Nat) (es : Nat) (x : X) (lo : Option X) (hi : Option X) (mx : Option X) (rs : RF) (h : H) : opSem (.slArr n es x lo hi mx) rs h = o_slArr n es x lo hi mx rs h := rfl
noncomputable def o_slSl (es : Nat) (x : X) (lo : Option X) (hi : Option X) (mx : Option X) (rs : RF) (h : H) : Option OR :=
  (match bnd rs lo, bnd rs hi, bnd rs mx with
    | some lo, some hi, some mx => if openOK h es (x.val rs) then ret h (sliceV (x.val rs) es (knownOf h es (x.val rs)) lo hi mx) else none
    | _, _, _ => none)
theorem o_slSl_eq (es : Nat) (x : X) (lo : Option X) (hi : Option X) (mx : Option X) (rs : RF) (h : H) : opSem (.slSl es x lo hi mx) rs h = o_slSl es x lo hi mx rs h := rfl
noncomputable def o_slStr (x : X) (lo : Option X) (hi : Option X) (rs : RF) (h : H) : Option OR :=
  (match x.val rs, bnd rs lo, bnd rs hi with
    | .s l c, some lo, some hi => ret h (sliceS l c lo hi)
    | _, _, _ => none)
theorem o_slStr_eq (x : X) (lo : Option X) (hi : Option X) (rs : RF) (h : H) : opSem (.slStr x lo hi) rs h = o_slStr x lo hi rs h := rfl
noncomputable def o_fadr (off : Nat) (x : X) (rs : RF) (h : H) : Option OR :=
  (match x.val rs with
    | .ptr id o => some (.val (.ptr id (o + off)) h)
    | .fp cs => some (.val (.fp (cs.drop off)) h)
    | _ => none)
theorem o_fadr_eq (off : Nat) (x : X) (rs : RF) (h : H) : opSem (.fadr off x) rs h = o_fadr off x rs h := rfl
noncomputable def o_fld (off : Nat) (n : Option Nat) (x : X) (rs : RF) (h : H) : Option OR :=
  (match x.val rs with
    | .agg cs => (match n with
      | some n => if off + n ≤ cs.length then some (.val (.agg ((cs.drop off).take n)) h) else none
      | none => ret h cs[off]?)
    | _ => none)
theorem o_fld_eq (off : Nat) (n : Option Nat) (x : X) (rs : RF) (h : H) : opSem (.fld off n x) rs h = o_fld off n x rs h := rfl
noncomputable def o_ixArr (n : Nat) (es : Nat) (x : X) (i : X) (rs : RF) (h : H) : Option OR :=
  (match x.val rs, natI (i.val rs) with
    | .ptr id o, some i => if i < n then some (.val (.ptr id (o + i * es)) h) else none
    | .fp cs, some i => if i < n then some (.val (.fp (cs.drop (i * es))) h) else none
    | _, _ => none)
theorem o_ixArr_eq (n : Nat) (es : Nat) (x : X) (i : X) (rs : RF) (h : H) : opSem (.ixArr n es x i) rs h = o_ixArr n es x i rs h := rfl
noncomputable def o_ixSl (es : Nat) (x : X) (i : X) (rs : RF) (h : H) : Option OR :=
  (match x.val rs, natI (i.val rs) with
    | .sl id o len _, some i => if i < len then some (.val (.ptr id (o + i * es)) h) else none
    | .fs cs len _, some i => if i < len then some (.val (.fp (cs.drop (i * es))) h) else none
    | _, _ => none)
theorem o_ixSl_eq (es : Nat) (x : X) (i : X) (rs : RF) (h : H) : opSem (.ixSl es x i) rs h = o_ixSl es x i rs h := rfl
noncomputable def o_idxArr (n : Nat) (es : Nat) (g : Bool) (x : X) (i : X) (rs : RF) (h : H) : Option OR :=
  (match x.val rs, natI (i.val rs) with
    | .agg cs, some i => if i < n then (if g then (if i * es + es ≤ cs.length then some (.val (.agg ((cs.drop (i * es)).take es)) h) else none) else ret h cs[i * es]?) else none
    | _, _ => none)
theorem o_idxArr_eq (n : Nat) (es : Nat) (g : Bool) (x : X) (i : X) (rs : RF) (h : H) : opSem (.idxArr n es g x i) rs h = o_idxArr n es g x i rs h := rfl
noncomputable def o_idxStr (x : X) (i : X) (rs : RF) (h : H) : Option OR :=
  (match x.val rs, natI (i.val rs) with
    | .s l c, some i => if i < l then some (.val (.u .u8 (Int.ofNat (byteAt c i))) h) else none
    | _, _ => none)
theorem o_idxStr_eq (x : X) (i : X) (rs : RF) (h : H) : opSem (.idxStr x i) rs h = o_idxStr x i rs h := rfl
noncomputable def o_lookup (kk : KK) (z : V) (ok : Bool) (x : X) (k : X) (rs : RF) (h : H) : Option OR :=
  if kk.fits (k.val rs) then (match mapSel h (x.val rs) (k.val rs) with | some f => some (.val (foundV z ok f) h) | none => none) else none
theorem o_lookup_eq (kk : KK) (z : V) (ok : Bool) (x : X) (k : X) (rs : RF) (h : H) : opSem (.lookup kk z ok x k) rs h = o_lookup kk z ok x k rs h := rfl
noncomputable def o_mupd (kk : KK) (x : X) (k : X) (y : X) (rs : RF) (h : H) : Option OR :=
  if kk.fits (k.val rs) then (match x.val rs with
    | .m id => (match h.get id with
      | some (.map es clock) => (match mapFind (k.val rs) es 0 with
        | some (some (i, _, born)) => some (.val .undef (h.put id (.map (es.set i (k.val rs, y.val rs, born)) clock)))
        | some none => some (.val .undef (h.put id (.map (es ++ [(k.val rs, y.val rs, clock)]) (clock + 1))))
        | none => none)
      | _ => none)
    | _ => none) else none
theorem o_mupd_eq (kk : KK) (x : X) (k : X) (y : X) (rs : RF) (h : H) : opSem (.mupd kk x k y) rs h = o_mupd kk x k y rs h := rfl
noncomputable def o_ment (kk : KK) (z : V) (x : X) (k : X) (rs : RF) (h : H) : Option OR :=
  if kk.fits (k.val rs) then (match x.val rs with
    | .m id => (match h.get id with
      | some (.map es clock) => (match mapFind (k.val rs) es 0 with
        | some (some (_, v, born)) => some (.val (.tup [v, .i (Int.ofNat born)]) h)
        | some none => some (.val (.tup [z, .i (Int.ofNat clock)]) (h.put id (.map (es ++ [(k.val rs, z, clock)]) (clock + 1))))
        | none => none)
      | _ => none)
    | _ => none) else none
theorem o_ment_eq (kk : KK) (z : V) (x : X) (k : X) (rs : RF) (h : H) : opSem (.ment kk z x k) rs h = o_ment kk z x k rs h := rfl
noncomputable def o_mst (x : X) (st : X) (y : X) (rs : RF) (h : H) : Option OR :=
  (match x.val rs, natI (st.val rs) with
    | .m id, some born => (match h.get id with
      | some (.map es clock) => (match es.findIdx? fun e => Nat.beq e.2.2 born with
        | some i => (match es[i]? with | some (k, _, _) => some (.val .undef (h.put id (.map (es.set i (k, y.val rs, born)) clock))) | none => none)
        | none => none)
      | _ => none)
    | _, _ => none)
theorem o_mst_eq (x : X) (st : X) (y : X) (rs : RF) (h : H) : opSem (.mst x st y) rs h = o_mst x st y rs h := rfl
noncomputable def o_rng (x : X) (rs : RF) (h : H) : Option OR :=
  (match x.val rs with
    | .s l c => some (.val (.ptr h.next 0) (h.new (.iter l c 0)))
    | _ => none)
theorem o_rng_eq (x : X) (rs : RF) (h : H) : opSem (.rng x) rs h = o_rng x rs h := rfl
noncomputable def o_nxt (x : X) (rs : RF) (h : H) : Option OR :=
  (match x.val rs with
    | .ptr id 0 => (match h.get id with
      | some (.iter l c pos) =>
        if pos < l then (if byteAt c pos < 128 then some (.val (.tup [.b true, .i (Int.ofNat pos), .u .i32 (Int.ofNat (byteAt c pos))]) (h.put id (.iter l c (pos + 1)))) else none)
        else some (.val (.tup [.b false]) h)
      | _ => none)
    | _ => none)
theorem o_nxt_eq (x : X) (rs : RF) (h : H) : opSem (.nxt x) rs h = o_nxt x rs h := rfl
noncomputable def o_tas (z : V) (t : Nat) (ok : Bool) (x : X) (rs : RF) (h : H) : Option OR :=
  (match x.val rs with
    | .nili => if ok then some (.val (.tup [z, .b false]) h) else none
    | .ifc t' v => if t' = t then some (.val (if ok then .tup [v, .b true] else v) h) else if ok then some (.val (.tup [z, .b false]) h) else none
    | _ => none)
theorem o_tas_eq (z : V) (t : Nat) (ok : Bool) (x : X) (rs : RF) (h : H) : opSem (.tas z t ok x) rs h = o_tas z t ok x rs h := rfl
noncomputable def o_ext (x : X) (i : Nat) (rs : RF) (h : H) : Option OR :=
  (match x.val rs with | .tup vs => ret h vs[i]? | _ => none)
theorem o_ext_eq (x : X) (i : Nat) (rs : RF) (h : H) : opSem (.ext x i) rs h = o_ext x i rs h := rfl
noncomputable def o_call (f : Nat) (xs : List X) (rs : RF) (h : H) : Option OR :=
  some (.call f (vals rs xs))
theorem o_call_eq (f : Nat) (xs : List X) (rs : RF) (h : H) : opSem (.call f xs) rs h = o_call f xs rs h := rfl
noncomputable def o_callv (x : X) (xs : List X) (rs : RF) (h : H) : Option OR :=
  (match x.val rs with
    | .fn f caps => some (.call f (vals rs xs ++ caps))
    | .yld id => some (.ycall id (vals rs xs))
    | _ => none)
theorem o_callv_eq (x : X) (xs : List X) (rs : RF) (h : H) : opSem (.callv x xs) rs h = o_callv x xs rs h := rfl
noncomputable def o_noesc (x : X) (rs : RF) (h : H) : Option OR :=
  some (.val (x.val rs) h)
theorem o_noesc_eq (x : X) (rs : RF) (h : H) : opSem (.noesc x) rs h = o_noesc x rs h := rfl
noncomputable def o_ixByte (x : X) (c : X) (rs : RF) (h : H) : Option OR :=
  (match x.val rs, c.val rs with
    | .s l a, .u .u8 (.ofNat n) => some (.val (match (List.range l).find? fun j => Nat.beq (byteAt a j) (n % 256) with | some j => .i (Int.ofNat j) | none => .i (-1)) h)
    | _, _ => none)
theorem o_ixByte_eq (x : X) (c : X) (rs : RF) (h : H) : opSem (.ixByte x c) rs h = o_ixByte x c rs h := rfl
noncomputable def o_app (e : Nat) (es : Nat) (s : X) (x : X) (rs : RF) (h : H) : Option OR :=
  (match lenV (x.val rs) with
    | some n => (match firstOf h es n (x.val rs) with
      | some new => if new.all V.leaf then (match appendV h e es (s.val rs) n new with | some (v, h) => some (.val v h) | none => none) else none
      | none => none)
    | none => none)
theorem o_app_eq (e : Nat) (es : Nat) (s : X) (x : X) (rs : RF) (h : H) : opSem (.app e es s x) rs h = o_app e es s x rs h := rfl
noncomputable def o_appZ (e : Nat) (es : Nat) (z : List V) (s : X) (n : X) (rs : RF) (h : H) : Option OR :=
  (match natI (n.val rs) with
    | some n => if n ≤ 16777216 then (match appendV h e es (s.val rs) n (reps n z) with | some (v, h) => some (.val v h) | none => none) else none
    | none => none)
theorem o_appZ_eq (e : Nat) (es : Nat) (z : List V) (s : X) (n : X) (rs : RF) (h : H) : opSem (.appZ e es z s n) rs h = o_appZ e es z s n rs h := rfl
noncomputable def o_lenStr (x : X) (rs : RF) (h : H) : Option OR :=
  (match x.val rs with
    | .s l _ => some (.val (.i (Int.ofNat l)) h)
    | _ => none)
theorem o_lenStr_eq (x : X) (rs : RF) (h : H) : opSem (.lenStr x) rs h = o_lenStr x rs h := rfl
noncomputable def o_lenSl (x : X) (rs : RF) (h : H) : Option OR :=
  (match x.val rs with
    | .sl _ _ l _ => some (.val (.i (Int.ofNat l)) h)
    | .fs _ l _ => some (.val (.i (Int.ofNat l)) h)
    | .nils => some (.val (.i 0) h)
    | _ => none)
theorem o_lenSl_eq (x : X) (rs : RF) (h : H) : opSem (.lenSl x) rs h = o_lenSl x rs h := rfl
noncomputable def o_lenMap (x : X) (rs : RF) (h : H) : Option OR :=
  (match x.val rs with
    | .m id => (match h.get id with | some (.map es _) => some (.val (.i (Int.ofNat es.length)) h) | _ => none)
    | .nilm => some (.val (.i 0) h)
    | _ => none)
theorem o_lenMap_eq (x : X) (rs : RF) (h : H) : opSem (.lenMap x) rs h = o_lenMap x rs h := rfl
noncomputable def o_lenc (n : Nat) (rs : RF) (h : H) : Option OR :=
  some (.val (.i (Int.ofNat n)) h)
theorem o_lenc_eq (n : Nat) (rs : RF) (h : H) : opSem (.lenc n) rs h = o_lenc n rs h := rfl
noncomputable def o_cap (x : X) (rs : RF) (h : H) : Option OR :=
  (match x.val rs with
    | .sl _ _ _ (c + 1) => some (.val (.i (Int.ofNat c)) h)
    | .fs _ _ (c + 1) => some (.val (.i (Int.ofNat c)) h)
    | .nils => some (.val (.i 0) h)
    | _ => none)
theorem o_cap_eq (x : X) (rs : RF) (h : H) : opSem (.cap x) rs h = o_cap x rs h := rfl
noncomputable def o_copy (es : Nat) (d : X) (x : X) (rs : RF) (h : H) : Option OR :=
  (match lenV (x.val rs), lenV (d.val rs) with
    | some m, some k => (match firstOf h es (Nat.min m k) (x.val rs), d.val rs with
      | some cs, .sl id off _ _ => (match stC h (.ptr id off) cs with | some h => some (.val (.i (Int.ofNat (Nat.min m k))) h) | none => none)
      | some _, .nils => some (.val (.i 0) h)
      | _, _ => none)
    | _, _ => none)
theorem o_copy_eq (es : Nat) (d : X) (x : X) (rs : RF) (h : H) : opSem (.copy es d x) rs h = o_copy es d x rs h := rfl
noncomputable def o_min (x : X) (y : X) (rs : RF) (h : H) : Option OR :=
  (match x.val rs, y.val rs with
    | .i a, .i b => some (.val (.i (if ltI b a then b else a)) h)
    | _, _ => none)
theorem o_min_eq (x : X) (y : X) (rs : RF) (h : H) : opSem (.min x y) rs h = o_min x y rs h := rfl
noncomputable def o_max (x : X) (y : X) (rs : RF) (h : H) : Option OR :=
  (match x.val rs, y.val rs with
    | .i a, .i b => some (.val (.i (if ltI a b then b else a)) h)
    | _, _ => none)
theorem o_max_eq (x : X) (y : X) (rs : RF) (h : H) : opSem (.max x y) rs h = o_max x y rs h := rfl
noncomputable def o_clear (es : Nat) (z : List V) (x : X) (rs : RF) (h : H) : Option OR :=
  (match x.val rs with
    | .nils => some (.val .undef h)
    | .sl id off len _ => (match len with
      | 0 => some (.val .undef h)
      | _ => if z.length = es then (match stC h (.ptr id off) (reps len z) with | some h => some (.val .undef h) | none => none) else none)
    | _ => none)
theorem o_clear_eq (es : Nat) (z : List V) (x : X) (rs : RF) (h : H) : opSem (.clear es z x) rs h = o_clear es z x rs h := rfl
noncomputable def o_recover  (rs : RF) (h : H) : Option OR :=
  some .rcv
theorem o_recover_eq  (rs : RF) (h : H) : opSem (.recover) rs h = o_recover  rs h := rfl
noncomputable def o_usd (x : X) (rs : RF) (h : H) : Option OR :=
  (match x.val rs with
    | .nils => some (.val .nilp h)
    | .sl id off (_ + 1) _ => some (.val (.ptr id off) h)
    | _ => none)
theorem o_usd_eq (x : X) (rs : RF) (h : H) : opSem (.usd x) rs h = o_usd x rs h := rfl
noncomputable def o_us (e : Nat) (p : X) (n : X) (rs : RF) (h : H) : Option OR :=
  (match p.val rs, natI (n.val rs) with
    | .nilp, some 0 => some (.val (.s 0 0) h)
    | .ptr id off, some (n + 1) => (match h.get id with
      | some (.cells _ _ e' 1 _) => if e = e' ∧ n + 1 ≤ 1000000000 then (match (ldC h (.ptr id off) (n + 1)).bind bytesOf with
        | some (l, c) => some (.val (.s l c) (h.del id))
        | none => none) else none
      | _ => none)
    | _, _ => none)
theorem o_us_eq (e : Nat) (p : X) (n : X) (rs : RF) (h : H) : opSem (.us e p n) rs h = o_us e p n rs h := rfl
noncomputable def o_defer (f : Nat) (xs : List X) (rs : RF) (h : H) : Option OR :=
  some (.defer f (vals rs xs))
theorem o_defer_eq (f : Nat) (xs : List X) (rs : RF) (h : H) : opSem (.defer f xs) rs h = o_defer f xs rs h := rfl
noncomputable def o_deferv (x : X) (xs : List X) (rs : RF) (h : H) : Option OR :=
  (match x.val rs with
    | .fn f caps => some (.defer f (vals rs xs ++ caps))
    | _ => none)
theorem o_deferv_eq (x : X) (xs : List X) (rs : RF) (h : H) : opSem (.deferv x xs) rs h = o_deferv x xs rs h := rfl
noncomputable def o_bad  (rs : RF) (h : H) : Option OR :=
  none
theorem o_bad_eq  (rs : RF) (h : H) : opSem (.bad) rs h = o_bad  rs h := rfl
end Ax

/- The abstract executor, in the kernel's quick form, 3: operations. Printed by wip/tools/genfast.py. -/
namespace Ax
open Go

structure FX where
  call : Nat → List V → H → CR
  round : Nat → List V → H → CR
  inR : Bool
/-- A reader of lists. -/
structure RL where
  run : RF → List V
/-- An operation that makes a value. -/
structure KV where
  run : RF → H → (V → H → FR) → FR
structure KO where
  run : FX → RF → H → DS → (RF → H → DS → FR) → FR

noncomputable def bR : Bool → FR → FR := Bool.rec (fun _ => .no) (fun a => a)
noncomputable def bnot : Bool → Bool := Bool.rec true false
noncomputable def bF : Bool → FR → FR → FR := Bool.rec (fun _ b => b) (fun a _ => a)
noncomputable def CR.to : CR → (V → H → FR) → FR := CR.rec (fun _ => .no) (fun v h k => k v h)
noncomputable def onO : Option V → (V → FR) → FR → FR := Option.rec (fun _ d => d) (fun v k _ => k v)
noncomputable def onOB : Option Bool → (Bool → FR) → FR := Option.rec (fun _ => .no) (fun v k => k v)
noncomputable def orK : OR → (V → H → FR) → FR := OR.rec (fun v h k => k v h) (fun _ _ _ => .no) (fun _ _ _ => .no) (fun _ _ _ => .no) (fun _ => .no)
noncomputable def gV : Option OR → (V → H → FR) → FR := Option.rec (fun _ => .no) orK
noncomputable def xR : X → RG := X.rec rg (fun v => ⟨fun _ => v⟩)
noncomputable def xsR : List X → RL := List.rec ⟨fun _ => []⟩ (fun x _ ih => ⟨fun rs => (xR x).run rs :: ih.run rs⟩)
noncomputable def wS : Option Nat → RS := Option.rec ⟨fun r _ => r⟩ rsw

/-! Whole numbers. -/
noncomputable def onNN : Int → (Nat → FR) → FR := Int.rec (fun n k => k n) (fun _ _ => .no)
noncomputable def onNat (v : V) (k : Nat → FR) : FR := onN v (fun n => onNN n k) (fun _ n => onNN n k) .no
noncomputable def natV (s : Nat) (k : V → FR) : FR := bF (Nat.ble s 9223372036854775807) (k (.i (.ofNat s))) (k (.i (IntKind.i64.wrap (.ofNat s))))
noncomputable def slB (op : BinOp) (a b : V) (k : V → FR) : FR := onO (binV op a b) k .no
noncomputable def iAdd : Int → Int → (V → FR) → FR :=
  Int.rec (fun m => Int.rec (fun n k => natV (Nat.add m n) k) (fun n k => k (.i (wrap64q (.ofNat m + .negSucc n))))) (fun m n k => k (.i (wrap64q (.negSucc m + n))))
noncomputable def iSub : Int → Int → (V → FR) → FR :=
  Int.rec (fun m => Int.rec (fun n k => bF (Nat.ble n m) (natV (Nat.sub m n) k) (k (.i (wrap64q (.ofNat m - .ofNat n))))) (fun n k => k (.i (wrap64q (.ofNat m - .negSucc n))))) (fun m n k => k (.i (wrap64q (.negSucc m - n))))
noncomputable def ikNo : IntKind → Nat := IntKind.rec 0 1 2 3 4 5 6 7
noncomputable def cmpK (f : Int → Int → Bool) (op : BinOp) (a b : V) (k : V → FR) : FR :=
  onN a (fun m => onI b (fun n => k (.b (f m n))) (slB op a b k)) (fun i m => onU b (fun j n => bR (Nat.beq (ikNo i) (ikNo j)) (k (.b (f m n)))) .no) (slB op a b k)
noncomputable def addK (a b : V) (k : V → FR) : FR := onI a (fun m => onI b (fun n => iAdd m n k) (slB .add a b k)) (slB .add a b k)
noncomputable def subK (a b : V) (k : V → FR) : FR := onI a (fun m => onI b (fun n => iSub m n k) (slB .sub a b k)) (slB .sub a b k)
noncomputable def nltI (x y : Int) : Bool := !ltI x y
noncomputable def gtI (x y : Int) : Bool := ltI y x
noncomputable def leI (x y : Int) : Bool := !ltI y x
noncomputable def neI (x y : Int) : Bool := !eqI x y
noncomputable def binK : BinOp → X → X → KV :=
  BinOp.rec
    (fun x y => ⟨fun rs h k => addK ((xR x).run rs) ((xR y).run rs) fun v => k v h⟩)
    (fun x y => ⟨fun rs h k => subK ((xR x).run rs) ((xR y).run rs) fun v => k v h⟩)
    (fun x y => ⟨fun rs h k => slB .mul ((xR x).run rs) ((xR y).run rs) fun v => k v h⟩)
    (fun x y => ⟨fun rs h k => slB .quo ((xR x).run rs) ((xR y).run rs) fun v => k v h⟩)
    (fun x y => ⟨fun rs h k => slB .rem ((xR x).run rs) ((xR y).run rs) fun v => k v h⟩)
    (fun x y => ⟨fun rs h k => slB .and ((xR x).run rs) ((xR y).run rs) fun v => k v h⟩)
    (fun x y => ⟨fun rs h k => slB .or ((xR x).run rs) ((xR y).run rs) fun v => k v h⟩)
    (fun x y => ⟨fun rs h k => slB .xor ((xR x).run rs) ((xR y).run rs) fun v => k v h⟩)
    (fun x y => ⟨fun rs h k => slB .shl ((xR x).run rs) ((xR y).run rs) fun v => k v h⟩)
    (fun x y => ⟨fun rs h k => slB .shr ((xR x).run rs) ((xR y).run rs) fun v => k v h⟩)
    (fun x y => ⟨fun rs h k => slB .andNot ((xR x).run rs) ((xR y).run rs) fun v => k v h⟩)
    (fun x y => ⟨fun rs h k => cmpK eqI .eql ((xR x).run rs) ((xR y).run rs) fun v => k v h⟩)
    (fun x y => ⟨fun rs h k => cmpK neI .neq ((xR x).run rs) ((xR y).run rs) fun v => k v h⟩)
    (fun x y => ⟨fun rs h k => cmpK ltI .lss ((xR x).run rs) ((xR y).run rs) fun v => k v h⟩)
    (fun x y => ⟨fun rs h k => cmpK leI .leq ((xR x).run rs) ((xR y).run rs) fun v => k v h⟩)
    (fun x y => ⟨fun rs h k => cmpK gtI .gtr ((xR x).run rs) ((xR y).run rs) fun v => k v h⟩)
    (fun x y => ⟨fun rs h k => cmpK nltI .geq ((xR x).run rs) ((xR y).run rs) fun v => k v h⟩)

/-! The heap. -/
noncomputable def onCells : Obj → (T V → Nat → Nat → Nat → Bool → FR) → FR := Obj.rec (fun c n e es cl k => k c n e es cl) (fun _ _ _ => .no) (fun _ _ _ _ _ _ _ _ _ => .no) (fun _ _ _ _ => .no)
noncomputable def onCellsO : Option Obj → (T V → Nat → Nat → Nat → Bool → FR) → FR := Option.rec (fun _ => .no) onCells
noncomputable def hdK : List V → (V → FR) → FR := List.rec (fun _ => .no) (fun v _ _ k => k v)
noncomputable def fLd (p : V) (h : H) (k : V → H → FR) : FR :=
  onPF p (fun id off => onCellsO (h.get id) fun c n _ _ _ => bR (Nat.ble (Nat.succ off) n) (onO (c.get off) (fun v => k v h) .no)) (fun cs => hdK cs fun v => k v h) .no
noncomputable def fSt (p x : V) (h : H) (k : V → H → FR) : FR :=
  onLeaf x (onP p (fun id off => onCellsO (h.get id) fun c n e es cl => bR (Nat.ble (Nat.succ off) n) (k .undef (h.put id (.cells (c.set off x) n e es cl)))) .no)
    (gV (Bool.rec none (Option.rec none (fun h => some (.val .undef h)) (stC h p x.cells)) (Nat.beq x.cells.length 1)) k)
noncomputable def newK (h : H) (o : Obj) (k : V → H → FR) : FR :=
  Nat.rec (motive := fun _ => FR) (k (.ptr 0 0) ⟨1, h.t.set 0 o⟩) (fun m _ => k (.ptr (Nat.succ m) 0) ⟨Nat.succ (Nat.succ m), h.t.set (Nat.succ m) o⟩) h.next
noncomputable def allLeaf : List V → FR → FR := List.rec (fun k => k) (fun v _ ih k => onLeaf v (ih k) .no)
noncomputable def fBox (e : Nat) (x : V) (h : H) (k : V → H → FR) : FR :=
  onLeaf x (newK h (.cells (T.set .e 0 x) 1 e 1 true) k) (onAgg x (fun cs => allLeaf cs (newK h (.cells (fillT .e 0 cs) cs.length e (Nat.max 1 cs.length) true) k)) .no)
noncomputable def fIxSl (es : Nat) (x i : V) (h : H) (k : V → H → FR) : FR :=
  onLen x (fun id o l _ => onNat i fun j => bR (Nat.ble (Nat.succ j) l) (k (.ptr id (Nat.add o (Nat.mul j es))) h)) (fun cs l _ => onNat i fun j => bR (Nat.ble (Nat.succ j) l) (k (.fp (cs.drop (Nat.mul j es))) h)) .no .no
noncomputable def nthK : Nat → List V → (V → FR) → FR := Nat.rec hdK (fun _ ih l k => List.rec (motive := fun _ => FR) .no (fun _ r _ => ih r k) l)
noncomputable def eqQ (k : EqK) (x y : V) : Option Bool := eqV k x y

noncomputable def denV : COp → KV :=
  COp.rec
    (fun x => ⟨fun rs h k => k ((xR x).run rs) h⟩)
    (fun c a b => ⟨fun rs h k => onB ((xR c).run rs) (fun t => k (Bool.rec ((xR b).run rs) ((xR a).run rs) t) h) .no⟩)
    (fun e z => ⟨fun rs h k => newK h (.cells (fillT .e 0 z) z.length e (Nat.max 1 z.length) true) k⟩)
    (fun e x => ⟨fun rs h k => fBox e ((xR x).run rs) h k⟩)
    (fun a0 a1 => ⟨fun rs h k => gV (o_build a0 a1 rs h) k⟩)
    (fun a0 a1 a2 a3 a4 => ⟨fun rs h k => gV (o_bslice a0 a1 a2 a3 a4 rs h) k⟩)
    (fun x => ⟨fun rs h k => fLd ((xR x).run rs) h k⟩)
    (fun a0 a1 => ⟨fun rs h k => gV (o_lda a0 a1 rs h) k⟩)
    (fun n a x => Nat.rec (motive := fun _ => KV) ⟨fun rs h k => gV (o_st n a x rs h) k⟩ (fun m _ => Nat.rec (motive := fun _ => KV) ⟨fun rs h k => fSt ((xR a).run rs) ((xR x).run rs) h k⟩ (fun _ _ => ⟨fun rs h k => gV (o_st n a x rs h) k⟩) m) n)
    (fun x => ⟨fun rs h k => onNil ((xR x).run rs) (k ((xR x).run rs) h)⟩)
    (fun op x y => binK op x y)
    (fun e neg x y => ⟨fun rs h k => onOB (eqQ e ((xR x).run rs) ((xR y).run rs)) fun t => k (.b (t != neg)) h⟩)
    (fun op x => ⟨fun rs h k => onO (unV op ((xR x).run rs)) (fun v => k v h) .no⟩)
    (fun k x => ⟨fun rs h K => onN ((xR x).run rs) (fun n => K (mkInt k (wrapq k n)) h) (fun _ n => K (mkInt k (wrapq k n)) h) .no⟩)
    (fun a0 => ⟨fun rs h k => gV (o_cvS a0 rs h) k⟩)
    (fun a0 a1 => ⟨fun rs h k => gV (o_cvUp a0 a1 rs h) k⟩)
    (fun a0 a1 a2 => ⟨fun rs h k => gV (o_cvDn a0 a1 a2 rs h) k⟩)
    (fun a0 a1 => ⟨fun rs h k => gV (o_cvBytes a0 a1 rs h) k⟩)
    (fun a0 => ⟨fun rs h k => gV (o_cvStr a0 rs h) k⟩)
    (fun t x => ⟨fun rs h k => k (.ifc t ((xR x).run rs)) h⟩)
    (fun f xs => ⟨fun rs h k => k (.fn f ((xsR xs).run rs)) h⟩)
    ⟨fun rs h k => gV (o_mkMap rs h) k⟩
    (fun a0 a1 a2 a3 a4 => ⟨fun rs h k => gV (o_mkSl a0 a1 a2 a3 a4 rs h) k⟩)
    (fun a0 a1 a2 a3 a4 a5 => ⟨fun rs h k => gV (o_slArr a0 a1 a2 a3 a4 a5 rs h) k⟩)
    (fun a0 a1 a2 a3 a4 => ⟨fun rs h k => gV (o_slSl a0 a1 a2 a3 a4 rs h) k⟩)
    (fun a0 a1 a2 => ⟨fun rs h k => gV (o_slStr a0 a1 a2 rs h) k⟩)
    (fun off x => ⟨fun rs h k => onPF ((xR x).run rs) (fun id o => k (.ptr id (Nat.add o off)) h) (fun cs => k (.fp (cs.drop off)) h) .no⟩)
    (fun a0 a1 a2 => ⟨fun rs h k => gV (o_fld a0 a1 a2 rs h) k⟩)
    (fun n es x i => ⟨fun rs h k => onPF ((xR x).run rs) (fun id o => onNat ((xR i).run rs) fun j => bR (Nat.ble (Nat.succ j) n) (k (.ptr id (Nat.add o (Nat.mul j es))) h)) (fun cs => onNat ((xR i).run rs) fun j => bR (Nat.ble (Nat.succ j) n) (k (.fp (cs.drop (Nat.mul j es))) h)) .no⟩)
    (fun es x i => ⟨fun rs h k => fIxSl es ((xR x).run rs) ((xR i).run rs) h k⟩)
    (fun a0 a1 a2 a3 a4 => ⟨fun rs h k => gV (o_idxArr a0 a1 a2 a3 a4 rs h) k⟩)
    (fun x i => ⟨fun rs h k => onS ((xR x).run rs) (fun l c => onNat ((xR i).run rs) fun j => bR (Nat.ble (Nat.succ j) l) (k (.u .u8 (.ofNat (byteAt c j))) h)) .no⟩)
    (fun a0 a1 a2 a3 a4 => ⟨fun rs h k => gV (o_lookup a0 a1 a2 a3 a4 rs h) k⟩)
    (fun a0 a1 a2 a3 => ⟨fun rs h k => gV (o_mupd a0 a1 a2 a3 rs h) k⟩)
    (fun a0 a1 a2 a3 => ⟨fun rs h k => gV (o_ment a0 a1 a2 a3 rs h) k⟩)
    (fun a0 a1 a2 => ⟨fun rs h k => gV (o_mst a0 a1 a2 rs h) k⟩)
    (fun a0 => ⟨fun rs h k => gV (o_rng a0 rs h) k⟩)
    (fun a0 => ⟨fun rs h k => gV (o_nxt a0 rs h) k⟩)
    (fun a0 a1 a2 a3 => ⟨fun rs h k => gV (o_tas a0 a1 a2 a3 rs h) k⟩)
    (fun x i => ⟨fun rs h k => onTup ((xR x).run rs) (fun vs => nthK i vs fun v => k v h) .no⟩)
    (fun _ _ => ⟨fun _ _ _ => .no⟩)
    (fun _ _ => ⟨fun _ _ _ => .no⟩)
    (fun x => ⟨fun rs h k => k ((xR x).run rs) h⟩)
    (fun a0 a1 => ⟨fun rs h k => gV (o_ixByte a0 a1 rs h) k⟩)
    (fun a0 a1 a2 a3 => ⟨fun rs h k => gV (o_app a0 a1 a2 a3 rs h) k⟩)
    (fun a0 a1 a2 a3 a4 => ⟨fun rs h k => gV (o_appZ a0 a1 a2 a3 a4 rs h) k⟩)
    (fun x => ⟨fun rs h k => onS ((xR x).run rs) (fun l _ => k (.i (.ofNat l)) h) .no⟩)
    (fun x => ⟨fun rs h k => onLen ((xR x).run rs) (fun _ _ l _ => k (.i (.ofNat l)) h) (fun _ l _ => k (.i (.ofNat l)) h) (k (.i 0) h) .no⟩)
    (fun a0 => ⟨fun rs h k => gV (o_lenMap a0 rs h) k⟩)
    (fun n => ⟨fun _ h k => k (.i (.ofNat n)) h⟩)
    (fun a0 => ⟨fun rs h k => gV (o_cap a0 rs h) k⟩)
    (fun a0 a1 a2 => ⟨fun rs h k => gV (o_copy a0 a1 a2 rs h) k⟩)
    (fun a0 a1 => ⟨fun rs h k => gV (o_min a0 a1 rs h) k⟩)
    (fun a0 a1 => ⟨fun rs h k => gV (o_max a0 a1 rs h) k⟩)
    (fun a0 a1 a2 => ⟨fun rs h k => gV (o_clear a0 a1 a2 rs h) k⟩)
    ⟨fun _ _ _ => .no⟩
    (fun a0 => ⟨fun rs h k => gV (o_usd a0 rs h) k⟩)
    (fun a0 a1 a2 => ⟨fun rs h k => gV (o_us a0 a1 a2 rs h) k⟩)
    (fun _ _ => ⟨fun _ _ _ => .no⟩)
    (fun _ _ => ⟨fun _ _ _ => .no⟩)
    ⟨fun rs h k => gV (o_bad rs h) k⟩
/-- An operation that is wanted. -/
noncomputable def koV (kv : KV) (d : Option Nat) : KO := ⟨fun _ rs h ds k => kv.run rs h fun v h => k ((wS d).run rs v) h ds⟩
noncomputable def denO : COp → Option Nat → KO :=
  COp.rec
    (fun x d => ⟨fun _ rs h ds k => k ((wS d).run rs ((xR x).run rs)) h ds⟩)
    (fun a0 a1 a2 d => koV (denV (.pick a0 a1 a2)) d)
    (fun a0 a1 d => koV (denV (.alloc a0 a1)) d)
    (fun a0 a1 d => koV (denV (.box a0 a1)) d)
    (fun a0 a1 d => koV (denV (.build a0 a1)) d)
    (fun a0 a1 a2 a3 a4 d => koV (denV (.bslice a0 a1 a2 a3 a4)) d)
    (fun a0 d => koV (denV (.ld a0)) d)
    (fun a0 a1 d => koV (denV (.lda a0 a1)) d)
    (fun a0 a1 a2 d => koV (denV (.st a0 a1 a2)) d)
    (fun a0 d => koV (denV (.nilck a0)) d)
    (fun a0 a1 a2 d => koV (denV (.bin a0 a1 a2)) d)
    (fun a0 a1 a2 a3 d => koV (denV (.eq a0 a1 a2 a3)) d)
    (fun a0 a1 d => koV (denV (.un a0 a1)) d)
    (fun a0 a1 d => koV (denV (.cvInt a0 a1)) d)
    (fun a0 d => koV (denV (.cvS a0)) d)
    (fun a0 a1 d => koV (denV (.cvUp a0 a1)) d)
    (fun a0 a1 a2 d => koV (denV (.cvDn a0 a1 a2)) d)
    (fun a0 a1 d => koV (denV (.cvBytes a0 a1)) d)
    (fun a0 d => koV (denV (.cvStr a0)) d)
    (fun a0 a1 d => koV (denV (.mkIf a0 a1)) d)
    (fun a0 a1 d => koV (denV (.mkFn a0 a1)) d)
    (fun d => koV (denV .mkMap) d)
    (fun a0 a1 a2 a3 a4 d => koV (denV (.mkSl a0 a1 a2 a3 a4)) d)
    (fun a0 a1 a2 a3 a4 a5 d => koV (denV (.slArr a0 a1 a2 a3 a4 a5)) d)
    (fun a0 a1 a2 a3 a4 d => koV (denV (.slSl a0 a1 a2 a3 a4)) d)
    (fun a0 a1 a2 d => koV (denV (.slStr a0 a1 a2)) d)
    (fun a0 a1 d => koV (denV (.fadr a0 a1)) d)
    (fun a0 a1 a2 d => koV (denV (.fld a0 a1 a2)) d)
    (fun a0 a1 a2 a3 d => koV (denV (.ixArr a0 a1 a2 a3)) d)
    (fun a0 a1 a2 d => koV (denV (.ixSl a0 a1 a2)) d)
    (fun a0 a1 a2 a3 a4 d => koV (denV (.idxArr a0 a1 a2 a3 a4)) d)
    (fun a0 a1 d => koV (denV (.idxStr a0 a1)) d)
    (fun a0 a1 a2 a3 a4 d => koV (denV (.lookup a0 a1 a2 a3 a4)) d)
    (fun a0 a1 a2 a3 d => koV (denV (.mupd a0 a1 a2 a3)) d)
    (fun a0 a1 a2 a3 d => koV (denV (.ment a0 a1 a2 a3)) d)
    (fun a0 a1 a2 d => koV (denV (.mst a0 a1 a2)) d)
    (fun a0 d => koV (denV (.rng a0)) d)
    (fun a0 d => koV (denV (.nxt a0)) d)
    (fun a0 a1 a2 a3 d => koV (denV (.tas a0 a1 a2 a3)) d)
    (fun a0 a1 d => koV (denV (.ext a0 a1)) d)
    (fun f xs d => ⟨fun x rs h ds k => (x.call f ((xsR xs).run rs) h).to fun v h => k ((wS d).run rs v) h ds⟩)
    (fun y xs d => ⟨fun x rs h ds k => onFn ((xR y).run rs) (fun f caps => (x.call f ((xsR xs).run rs ++ caps) h).to fun v h => k ((wS d).run rs v) h ds) (fun id => (x.round id ((xsR xs).run rs) h).to fun v h => k ((wS d).run rs v) h ds) .no⟩)
    (fun a0 d => koV (denV (.noesc a0)) d)
    (fun a0 a1 d => koV (denV (.ixByte a0 a1)) d)
    (fun a0 a1 a2 a3 d => koV (denV (.app a0 a1 a2 a3)) d)
    (fun a0 a1 a2 a3 a4 d => koV (denV (.appZ a0 a1 a2 a3 a4)) d)
    (fun a0 d => koV (denV (.lenStr a0)) d)
    (fun a0 d => koV (denV (.lenSl a0)) d)
    (fun a0 d => koV (denV (.lenMap a0)) d)
    (fun a0 d => koV (denV (.lenc a0)) d)
    (fun a0 d => koV (denV (.cap a0)) d)
    (fun a0 a1 a2 d => koV (denV (.copy a0 a1 a2)) d)
    (fun a0 a1 d => koV (denV (.min a0 a1)) d)
    (fun a0 a1 d => koV (denV (.max a0 a1)) d)
    (fun a0 a1 a2 d => koV (denV (.clear a0 a1 a2)) d)
    (fun d => ⟨fun x rs h ds k => bF x.inR .no (k ((wS d).run rs .nili) h ds)⟩)
    (fun a0 d => koV (denV (.usd a0)) d)
    (fun a0 a1 a2 d => koV (denV (.us a0 a1 a2)) d)
    (fun f xs d => ⟨fun x rs h ds k => bF x.inR .no (k ((wS d).run rs .undef) h ((f, (xsR xs).run rs) :: ds))⟩)
    (fun y xs d => ⟨fun x rs h ds k => bF x.inR .no (onFn ((xR y).run rs) (fun f caps => k ((wS d).run rs .undef) h ((f, (xsR xs).run rs ++ caps) :: ds)) (fun _ => .no) .no)⟩)
    (fun d => koV (denV .bad) d)
noncomputable def wantK : V → Bool → FR → FR → FR := fun v w k d => onBT v (fun t => bF (Bool.rec (bnot w) w t) k d) (fun vs => List.rec (motive := fun _ => FR) d (fun _ _ _ => .no) vs) .no
noncomputable def denG : CI → KO :=
  CI.rec fun dst op g => Option.rec (motive := fun _ => KO) (denO op dst) (fun p => Prod.rec (motive := fun _ => KO) (fun r w => ⟨fun x rs h ds k => wantK ((rg r).run rs) w ((denO op dst).run x rs h ds k) (k ((wS dst).run rs .undef) h ds)⟩) p) g
noncomputable def denR : List CI → KO := List.rec ⟨fun _ rs h ds k => k rs h ds⟩ (fun c _ ih => ⟨fun x rs h ds k => (denG c).run x rs h ds fun rs h ds => ih.run x rs h ds k⟩)

/-! Regions that draw their order. -/
structure KD where
  run : FX → RF → H → DS → List H → (RF → H → DS → List H → FR) → FR
noncomputable def denD : List (CI × Bool) → KD := List.rec ⟨fun _ rs h ds acc k => k rs h ds acc⟩ (fun p _ ih => Prod.rec (motive := fun _ => KD) (fun c e => Bool.rec (motive := fun _ => KD) ⟨fun x rs h ds acc k => (denG c).run x rs h ds fun rs h ds => ih.run x rs h ds acc k⟩ ⟨fun x rs h ds acc k => (denG c).run x rs h ds fun rs h' ds => ih.run x rs h' ds (h :: acc) k⟩ e) p)
noncomputable def revH : List H → List H → List H := List.rec (fun b => b) (fun h _ ih b => ih (h :: b))
noncomputable def dropH : Nat → List H → List H := Nat.rec (fun l => l) (fun _ ih l => List.rec (motive := fun _ => List H) [] (fun _ r _ => ih r) l)
structure KQ where
  run : RF → H → FR → FR
structure KH where
  run : RF → List H → FR → FR
noncomputable def sameK (d : Option Nat) : RF → V → FR → FR := Option.rec (fun _ _ k => k) (fun d rs v k => bR (veq ((rg d).run rs) v) k) d
noncomputable def chkV : CI → KQ := CI.rec fun dst op g => Option.rec (motive := fun _ => KQ) ⟨fun rs h k => (denV op).run rs h fun v _ => sameK dst rs v k⟩ (fun p => Prod.rec (motive := fun _ => KQ) (fun r w => ⟨fun rs h k => wantK ((rg r).run rs) w ((denV op).run rs h fun v _ => sameK dst rs v k) (sameK dst rs .undef k)⟩) p) g
noncomputable def chkN (c : CI) : Nat → KH := Nat.rec ⟨fun _ _ k => k⟩ (fun _ ih => ⟨fun rs hs k => List.rec (motive := fun _ => FR) .no (fun h tl _ => (chkV c).run rs h (ih.run rs tl k)) hs⟩)
noncomputable def chkL : List (CI × Nat × Nat) → KH := List.rec ⟨fun _ _ k => k⟩ (fun p _ ih => Prod.rec (motive := fun _ => KH) (fun c p => Prod.rec (motive := fun _ => KH) (fun lo n => ⟨fun rs hs k => (chkN c n).run rs (dropH lo hs) (ih.run rs hs k)⟩) p) p)
noncomputable def mapFst : List (CI × Bool) → List CI := List.rec [] (fun p _ ih => Prod.rec (fun c _ => c :: ih) p)
structure KW where
  run : FX → RF → H → DS → FR
noncomputable def dregF (l : List (CI × Bool)) (chk : List (CI × Nat × Nat)) : KW :=
  List.rec (motive := fun _ => KW) ⟨fun x rs h ds => (denR (mapFst l)).run x rs h ds .norm⟩ (fun _ _ _ => ⟨fun x rs h ds => (denD l).run x rs h ds [] fun rs h ds acc => (chkL chk).run rs (revH acc [h]) (.norm rs h ds)⟩) chk

/-! Code. -/
structure KC where
  run : FX → RF → H → DS → FR
  frm : Nat → FX → RF → H → DS → FR
noncomputable def seqF : FR → (RF → H → DS → FR) → FR := FR.rec (fun _ => .no) (fun rs h ds k => k rs h ds) (fun i rs h ds _ => .exit i rs h ds) (fun i rs h ds _ => .goto i rs h ds) (fun rs h ds _ => .ret rs h ds)
noncomputable def blkF (id : Nat) : FR → FR := FR.rec .no FR.norm (fun i rs h ds => bF (Nat.beq i id) (.norm rs h ds) (.exit i rs h ds)) FR.goto FR.ret
noncomputable def iterF (b : RF → H → DS → FR) (d : Nat) : RF → H → DS → FR := Nat.rec b (fun _ ih rs h ds => seqF (ih rs h ds) ih) d
noncomputable def loopF : FR → FR := FR.rec .no (fun _ _ _ => .no) FR.exit FR.goto FR.ret
noncomputable def gotoF : FR → (Nat → RF → H → DS → FR) → FR := FR.rec (fun _ => .no) (fun rs h ds _ => .norm rs h ds) (fun i rs h ds _ => .exit i rs h ds) (fun l rs h ds k => k l rs h ds) (fun rs h ds _ => .ret rs h ds)
noncomputable def scopeF (has : Nat → Bool) (body : Nat → RF → H → DS → FR) (n : Nat) : FR → FR := Nat.rec (fun _ => .no) (fun _ ih r => gotoF r fun l rs h ds => bF (has l) (ih (body l rs h ds)) (.goto l rs h ds)) n
noncomputable def pendF (p : Pend) (rs : RF) (h : H) (ds : DS) : FR := match p with | .exit k => .exit k rs h ds | .goto l => .goto l rs h ds | .ret => .ret rs h ds
noncomputable def afterF (id : Nat) (rs : RF) (ds : DS) (h : H) : FR :=
  match h.get id with
    | some (.loop fn n rg ps as bd 0 none) => .norm rs (h.put id (.loop fn n rg ps as bd 3 none)) ds
    | some (.loop fn n rg ps as bd 2 (some p)) => pendF p rs (h.put id (.loop fn n rg ps as bd 3 (some p))) ds
    | _ => .no
noncomputable def rngF (fn n : Nat) (y : X) (ps : List Nat) (as bd : CC) (x : FX) (rs : RF) (h : H) (ds : DS) : FR :=
  bF x.inR .no (onFn ((xR y).run rs) (fun g caps => newK h (.loop fn n rs ps as bd 0 none) fun _ h' => (x.call g (.yld h.next :: caps) h').to fun _ h2 => afterF h.next rs ds h2) (fun _ => .no) .no)

noncomputable def den (fn n D : Nat) : CC → KC :=
  CC.rec ⟨fun _ => .norm, fun _ _ _ _ _ => .no⟩
    (fun l => ⟨fun x rs h ds => (denR l).run x rs h ds .norm, fun _ _ _ _ _ => .no⟩)
    (fun a _ ia ib => ⟨fun x rs h ds => seqF (ia.run x rs h ds) (ib.run x), fun l x rs h ds => bF (hasLab l a) (seqF (ia.frm l x rs h ds) (ib.run x)) (ib.frm l x rs h ds)⟩)
    (fun y _ _ ia ib => ⟨fun x rs h ds => onB ((xR y).run rs) (fun t => bF t (ia.run x rs h ds) (ib.run x rs h ds)) .no, fun _ _ _ _ _ => .no⟩)
    (fun id _ ib => ⟨fun x rs h ds => blkF id (ib.run x rs h ds), fun _ _ _ _ _ => .no⟩)
    (fun _ ib => ⟨fun x rs h ds => loopF (iterF (ib.run x) D rs h ds), fun _ _ _ _ _ => .no⟩)
    (fun id => ⟨fun _ => .exit id, fun _ _ _ _ _ => .no⟩)
    (fun l => ⟨fun _ => .goto l, fun _ _ _ _ _ => .no⟩)
    ⟨fun _ => .ret, fun _ _ _ _ _ => .no⟩
    (fun b ib => ⟨fun x rs h ds => scopeF (fun l => hasLab l b) (fun l => ib.frm l x) (2 ^ D) (ib.run x rs h ds), fun _ _ _ _ _ => .no⟩)
    (fun l => ⟨fun _ => .norm, fun k _ rs h ds => bR (Nat.beq l k) (.norm rs h ds)⟩)
    (fun y ps as bd _ _ => ⟨fun x rs h ds => rngF fn n y ps as bd x rs h ds, fun _ _ _ _ _ => .no⟩)
    (fun l chk => ⟨(dregF l chk).run, fun _ _ _ _ _ => .no⟩)
    ⟨fun _ _ _ _ => .no, fun _ _ _ _ _ => .no⟩

/-! Functions. -/
structure KR where
  run : RF → H → (V → CR) → CR
structure KRs where
  run : RF → H → (List V → CR) → CR
noncomputable def onOC : Option V → (V → CR) → CR := Option.rec (fun _ => .no) (fun v k => k v)
noncomputable def resK (c : CRes) : KR :=
  match c with
  | .tmp t => ⟨fun rs _ k => k ((rg t).run rs)⟩
  | c => ⟨fun rs h k => onOC (resV rs h c) k⟩
noncomputable def resKs : List CRes → KRs := List.rec ⟨fun _ _ k => k []⟩ (fun c _ ih => ⟨fun rs h k => (resK c).run rs h fun v => ih.run rs h fun l => k (v :: l)⟩)
noncomputable def resF (l : List CRes) : KR :=
  match l with
  | [c] => resK c
  | l => ⟨fun rs h k => (resKs l).run rs h fun vs => k (.tup vs)⟩
noncomputable def CR.and : CR → (V → H → CR) → CR := CR.rec (fun _ => .no) (fun v h k => k v h)
noncomputable def defF (x : FX) : DS → H → (H → CR) → CR := List.rec (fun h k => k h) (fun p _ ih h k => Prod.rec (fun f args => (x.call f args h).and fun _ h => ih h k) p)
structure KF where
  run : FX → List V → H → CR
noncomputable def outF : FR → (RF → H → DS → CR) → CR := FR.rec (fun _ => .no) (fun rs h ds k => k rs h ds) (fun _ _ _ _ _ => .no) (fun _ _ _ _ _ => .no) (fun rs h ds k => k rs h ds)
noncomputable def kf (D f : Nat) (cf : CF) : KF :=
  ⟨fun x args h => outF ((den f cf.ntmps D cf.code).run ⟨x.call, x.round, false⟩ (RF.of args) h []) fun rs h ds => defF x ds h fun h => (resF cf.res).run rs h fun v => .ok v h⟩
noncomputable def kfo (D f : Nat) : Option CF → KF := Option.rec ⟨fun _ _ _ => .no⟩ (kf D f)
noncomputable def roundQ (D : Nat) (x : FX) (id : Nat) (args : List V) (h : H) : CR :=
  match h.get id with
  | some (.loop fn n rg ps as bd 0 pend) => if args.length = ps.length ∧ ps.all (fun p => Nat.blt p n) then
    (match (den fn n D as).run ⟨x.call, x.round, true⟩ (putAll ps args rg) h [] with
    | .norm rs h ds => (match h.get id with
      | some (.loop fn' n' rg' ps' as' bd' 0 pend') => (match (den fn n D bd).run ⟨x.call, x.round, true⟩ rs (h.put id (.loop fn' n' rg' ps' as' bd' 1 pend')) ds with
        | .no => .no
        | .norm _ h _ => (match h.get id with | some (.loop fn' n' rg' ps' as' bd' 1 _) => .ok (.b true) (h.put id (.loop fn' n' rg' ps' as' bd' 0 none)) | _ => .no)
        | .exit k _ h _ => (match h.get id with | some (.loop fn' n' rg' ps' as' bd' 1 _) => .ok (.b false) (h.put id (.loop fn' n' rg' ps' as' bd' 2 (some (.exit k)))) | _ => .no)
        | .goto l _ h _ => (match h.get id with | some (.loop fn' n' rg' ps' as' bd' 1 _) => .ok (.b false) (h.put id (.loop fn' n' rg' ps' as' bd' 2 (some (.goto l)))) | _ => .no)
        | .ret _ h _ => (match h.get id with | some (.loop fn' n' rg' ps' as' bd' 1 _) => .ok (.b false) (h.put id (.loop fn' n' rg' ps' as' bd' 2 (some .ret))) | _ => .no))
      | _ => .no)
    | _ => .no) else .no
  | _ => .no
noncomputable def fxN (CP : Nat → Option CF) (D : Nat) (n : Nat) : FX :=
  Nat.rec ⟨fun _ _ _ => .no, fun _ _ _ => .no, false⟩ (fun _ ih => ⟨fun f args h => (kfo D f (CP f)).run ih args h, fun id args h => roundQ D ih id args h, false⟩) n
end Ax
