/- The abstract executor, in the kernel's quick form, 4: operations are what they were. -/
import Derived.Test.YtapplfjimaghbaaGreatAx7
import Derived.Test.YtapplfjimaghbaaGreatAx4
set_option linter.all false
namespace Ax
open Go

theorem xR_eq (x : X) (rs : RF) : (xR x).run rs = x.val rs := by cases x <;> rfl
theorem xsR_eq : ∀ (xs : List X) (rs : RF), (xsR xs).run rs = vals rs xs
  | [], _ => rfl
  | x :: xs, rs => by
    show (xR x).run rs :: (xsR xs).run rs = x.val rs :: vals rs xs
    rw [xR_eq, xsR_eq]
theorem wS_eq (d : Option Nat) (rs : RF) (v : V) : (wS d).run rs v = setR rs d v := by cases d <;> rfl
theorem bR_eq (b : Bool) (a : FR) : bR b a = if b then a else .no := by cases b <;> rfl
theorem bF_eq (b : Bool) (a c : FR) : bF b a c = if b then a else c := by cases b <;> rfl
theorem onO_eq (o : Option V) (k : V → FR) (d : FR) : onO o k d = match o with | some v => k v | none => d := by cases o <;> rfl
theorem onOB_eq (o : Option Bool) (k : Bool → FR) : onOB o k = match o with | some v => k v | none => .no := by cases o <;> rfl
/-- What is done with what an operation makes. -/
def upV (r : Option OR) (k : V → H → FR) : FR := match r with | some (.val v h) => k v h | _ => .no
theorem gV_eq (r : Option OR) (k : V → H → FR) : gV r k = upV r k := by
  cases r with
  | none => rfl
  | some r => cases r <;> rfl
theorem upV_ret (h : H) (o : Option V) (k : V → H → FR) : upV (ret h o) k = match o with | some v => k v h | none => .no := by cases o <;> rfl
theorem onNN_eq (n : Int) (k : Nat → FR) : onNN n k = match n with | .ofNat m => k m | .negSucc _ => .no := by cases n <;> rfl
theorem onNat_eq (v : V) (k : Nat → FR) : onNat v k = match natI v with | some n => k n | none => .no := by
  unfold onNat
  rw [onN_eq]
  cases v with
  | i n => cases n <;> rfl
  | u κ n => cases n <;> rfl
  | _ => rfl
theorem ble_iff (a b : Nat) : Nat.ble a b = decide (a ≤ b) := by rw [Bool.eq_iff_iff]; simp [Nat.ble_eq]

theorem natV_eq (s : Nat) (k : V → FR) : natV s k = k (mkInt .i64 (wrapq .i64 (Int.ofNat s))) := by
  unfold natV
  rw [bF_eq]
  split
  · rename_i h
    show k (.i (.ofNat s)) = k (.i (wrap64q (Int.ofNat s)))
    congr 2
    show Int.ofNat s = (Bool.rec _ _ (Nat.ble s 9223372036854775807) : Int)
    rw [h]
  · rename_i h
    show k (.i (IntKind.i64.wrap (Int.ofNat s))) = k (.i (wrap64q (Int.ofNat s)))
    rw [wrap64q_eq]
theorem iAdd_eq (m n : Int) (k : V → FR) : iAdd m n k = k (mkInt .i64 (wrapq .i64 (m + n))) := by
  cases m <;> cases n <;> first | exact natV_eq _ k | rfl
theorem iSub_eq (m n : Int) (k : V → FR) : iSub m n k = k (mkInt .i64 (wrapq .i64 (m - n))) := by
  cases m with
  | negSucc m => rfl
  | ofNat m =>
    cases n with
    | negSucc n => rfl
    | ofNat n =>
      show bF (Nat.ble n m) (natV (Nat.sub m n) k) (k (.i (wrap64q (.ofNat m - .ofNat n)))) = _
      rw [bF_eq, natV_eq]
      split
      · rename_i h
        have := Nat.le_of_ble_eq_true h
        have e : Int.ofNat (Nat.sub m n) = Int.ofNat m - Int.ofNat n := by show ((m - n : Nat) : Int) = (m : Int) - (n : Int); omega
        rw [e]
      · rfl
theorem slB_eq (op : BinOp) (a b : V) (k : V → FR) : slB op a b k = match binV op a b with | some v => k v | none => .no := onO_eq _ _ _
theorem addK_eq (a b : V) (k : V → FR) : addK a b k = match binV .add a b with | some v => k v | none => .no := by
  unfold addK
  rw [onI_eq]
  cases a with
  | i m =>
    simp only [onI_eq]
    cases b with
    | i n => simp only [iAdd_eq]; rfl
    | _ => exact slB_eq _ _ _ _
  | _ => exact slB_eq _ _ _ _
theorem subK_eq (a b : V) (k : V → FR) : subK a b k = match binV .sub a b with | some v => k v | none => .no := by
  unfold subK
  rw [onI_eq]
  cases a with
  | i m =>
    simp only [onI_eq]
    cases b with
    | i n => simp only [iSub_eq]; rfl
    | _ => exact slB_eq _ _ _ _
  | _ => exact slB_eq _ _ _ _
theorem ikNo_inj (i j : IntKind) : Nat.beq (ikNo i) (ikNo j) = decide (i = j) := by cases i <;> cases j <;> rfl
theorem cmpK_eq (f : Int → Int → Bool) (op : BinOp) (h1 : ∀ k x y, intBin op k x y = some (.b (f x y))) (h2 : op ≠ .shl) (h3 : op ≠ .shr) (a b : V) (k : V → FR) : cmpK f op a b k = match binV op a b with | some v => k v | none => .no := by
  unfold cmpK
  rw [onN_eq]
  cases a with
  | i m =>
    simp only [onI_eq]
    cases b with
    | i n => simp only [binV, h1]
    | _ => exact slB_eq _ _ _ _
  | u κ m =>
    simp only [onU_eq]
    cases b with
    | u j n =>
      simp only [bR_eq, ikNo_inj, binV]
      cases op <;> first | (exact absurd rfl h2) | (exact absurd rfl h3) | (simp only [h1]; by_cases e : κ = j <;> simp [e])
    | i n => cases op <;> first | (exact absurd rfl h2) | (exact absurd rfl h3) | rfl
    | _ => rfl
  | _ => exact slB_eq _ _ _ _
theorem binK_eq (op : BinOp) (x y : X) (rs : RF) (h : H) (k : V → H → FR) : (binK op x y).run rs h k = upV (opSem (.bin op x y) rs h) k := by
  rw [o_bin_eq]
  unfold o_bin
  rw [upV_ret]
  cases op <;> simp only [binK] <;> (try rw [xR_eq, xR_eq])
  · exact addK_eq _ _ _
  · exact subK_eq _ _ _
  · exact slB_eq _ _ _ _
  · exact slB_eq _ _ _ _
  · exact slB_eq _ _ _ _
  · exact slB_eq _ _ _ _
  · exact slB_eq _ _ _ _
  · exact slB_eq _ _ _ _
  · exact slB_eq _ _ _ _
  · exact slB_eq _ _ _ _
  · exact slB_eq _ _ _ _
  · exact cmpK_eq eqI .eql (fun _ _ _ => rfl) (by simp) (by simp) _ _ _
  · exact cmpK_eq neI .neq (fun _ _ _ => rfl) (by simp) (by simp) _ _ _
  · exact cmpK_eq ltI .lss (fun _ _ _ => rfl) (by simp) (by simp) _ _ _
  · exact cmpK_eq leI .leq (fun _ _ _ => rfl) (by simp) (by simp) _ _ _
  · exact cmpK_eq gtI .gtr (fun _ _ _ => rfl) (by simp) (by simp) _ _ _
  · exact cmpK_eq nltI .geq (fun _ _ _ => rfl) (by simp) (by simp) _ _ _
end Ax

/- The abstract executor, in the kernel's quick form, 5: every operation. Printed by wip/tools/genfastq.py. -/
namespace Ax
open Go

theorem onCellsO_eq (o : Option Obj) (k : T V → Nat → Nat → Nat → Bool → FR) : onCellsO o k = match o with | some (.cells c n e es cl) => k c n e es cl | _ => .no := by
  cases o with
  | none => rfl
  | some o => cases o <;> rfl
theorem newK_eq (h : H) (o : Obj) (k : V → H → FR) : newK h o k = k (.ptr h.next 0) (h.new o) := by
  obtain ⟨n, t⟩ := h
  cases n <;> rfl
theorem hdK_eq (l : List V) (k : V → FR) : hdK l k = match l with | v :: _ => k v | [] => .no := by cases l <;> rfl
theorem nthK_eq : ∀ (i : Nat) (l : List V) (k : V → FR), nthK i l k = match l[i]? with | some v => k v | none => .no
  | 0, [], _ => rfl
  | 0, _ :: _, _ => rfl
  | _ + 1, [], _ => rfl
  | i + 1, _ :: l, k => by
    show nthK i l k = _
    rw [nthK_eq i l k, List.getElem?_cons_succ]
theorem leaf_cells {v : V} (h : v.leaf = true) : v.cells = [v] := by cases v <;> first | rfl | cases h
theorem allLeaf_eq : ∀ (l : List V) (k : FR), allLeaf l k = if l.all V.leaf then k else .no
  | [], _ => rfl
  | v :: l, k => by
    show onLeaf v (allLeaf l k) .no = _
    rw [onLeaf_eq, allLeaf_eq l k, List.all_cons]
    cases v.leaf <;> rfl
theorem onNil_eq (v : V) (k : FR) : onNil v k = match v with | .ptr _ _ | .fp _ | .fn _ _ | .yld _ | .ifc _ _ => k | _ => .no := by cases v <;> rfl
theorem readT_one (c : T V) (k : Nat) : readT c 1 k = match c.get k with | some v => some [v] | none => none := by
  show (match c.get k with | some v => (match some [] with | some l => some (v :: l) | none => none) | none => none) = _
  cases c.get k <;> rfl
theorem fLd_eq (p : V) (h : H) (k : V → H → FR) : fLd p h k = upV (match ldC h p 1 with | some [v] => some (.val v h) | _ => none) k := by
  unfold fLd
  rw [onPF_eq]
  cases p with
  | ptr id off =>
    simp only [onCellsO_eq, ldC]
    cases h.get id with
    | none => rfl
    | some o =>
      cases o with
      | cells c n e es cl =>
        simp only [bR_eq, ble_iff, onO_eq]
        by_cases hh : off + 1 ≤ n
        · simp only [hh, if_true, decide_true, Nat.succ_eq_add_one, readT_one]
          cases c.get off <;> rfl
        · simp [hh, upV]
      | _ => rfl
  | fp cs =>
    simp only [hdK_eq, ldC]
    cases cs with
    | nil => rfl
    | cons v r => simp [upV]
  | _ => rfl
theorem fSt_eq (a x : X) (rs : RF) (h : H) (k : V → H → FR) : fSt (a.val rs) (x.val rs) h k = upV (opSem (.st 1 a x) rs h) k := by
  rw [o_st_eq]
  unfold o_st fSt
  rw [onLeaf_eq]
  cases hl : (x.val rs).leaf with
  | true =>
    have hc := leaf_cells hl
    simp only [if_true, hc, List.length_cons, List.length_nil, onP_eq]
    cases a.val rs with
    | ptr id off =>
      simp only [onCellsO_eq, stC]
      cases h.get id with
      | none => rfl
      | some o =>
        cases o with
        | cells c n e es cl =>
          simp only [bR_eq, ble_iff]
          by_cases hh : off + 1 ≤ n
          · simp [hh, hl, upV, fillT]
          · simp [hh, upV]
        | _ => rfl
    | _ => rfl
  | false =>
    simp only [Bool.false_eq_true, if_false, gV_eq]
    congr 1
    by_cases hh : (x.val rs).cells.length = 1
    · rw [if_pos hh, hh]
      show (Option.rec none _ (stC h (a.val rs) (x.val rs).cells) : Option OR) = _
      cases stC h (a.val rs) (x.val rs).cells <;> rfl
    · rw [if_neg hh]
      have : Nat.beq (x.val rs).cells.length 1 = false := by
        cases hb : Nat.beq (x.val rs).cells.length 1 with
        | false => rfl
        | true => exact absurd (Nat.eq_of_beq_eq_true hb) hh
      rw [this]
theorem fBox_eq (e : Nat) (x : X) (rs : RF) (h : H) (k : V → H → FR) : fBox e (x.val rs) h k = upV (opSem (.box e x) rs h) k := by
  rw [o_box_eq]
  unfold o_box fBox
  rw [onLeaf_eq]
  cases hl : (x.val rs).leaf with
  | true =>
    simp only [if_true, leaf_cells hl, List.all_cons, List.all_nil, hl, Bool.and_self, newK_eq]
    rfl
  | false =>
    simp only [Bool.false_eq_true, if_false, onAgg_eq]
    cases hx : x.val rs with
    | agg cs =>
      simp only [allLeaf_eq, newK_eq]
      show (if cs.all V.leaf = true then _ else FR.no) = upV (if cs.all V.leaf = true then some (OR.val (V.ptr h.next 0) (newCells h e (Nat.max 1 cs.length) cs true)) else none) k
      by_cases hc : cs.all V.leaf = true
      · rw [if_pos hc, if_pos hc]; rfl
      · rw [if_neg hc, if_neg hc]; rfl
    | top => rfl
    | tup vs => rfl
    | _ => rw [hx] at hl; cases hl
theorem fIxSl_eq (es : Nat) (x i : X) (rs : RF) (h : H) (k : V → H → FR) : fIxSl es (x.val rs) (i.val rs) h k = upV (opSem (.ixSl es x i) rs h) k := by
  rw [o_ixSl_eq]
  unfold o_ixSl fIxSl
  rw [onLen_eq]
  cases x.val rs with
  | sl id o l c =>
    simp only [onNat_eq]
    cases natI (i.val rs) with
    | none => rfl
    | some j =>
      simp only [bR_eq, ble_iff]
      by_cases hh : j < l <;> simp [hh, upV, Nat.succ_le_iff]
  | fs cs l c =>
    simp only [onNat_eq]
    cases natI (i.val rs) with
    | none => rfl
    | some j =>
      simp only [bR_eq, ble_iff]
      by_cases hh : j < l <;> simp [hh, upV, Nat.succ_le_iff]
  | _ => cases natI (i.val rs) <;> rfl

theorem denV_eq (o : COp) (rs : RF) (h : H) (k : V → H → FR) : (denV o).run rs h k = upV (opSem o rs h) k := by
  cases o with
  | mv a0 => show k ((xR a0).run rs) h = _; rw [xR_eq]; rfl
  | pick a0 a1 a2 => show onB ((xR a0).run rs) (fun t => k (Bool.rec ((xR a2).run rs) ((xR a1).run rs) t) h) .no = _; rw [xR_eq, xR_eq, xR_eq, onB_eq, o_pick_eq]; unfold o_pick; cases a0.val rs <;> first | rfl | (rename_i t; cases t <;> rfl)
  | alloc a0 a1 => show newK h (.cells (fillT .e 0 a1) a1.length a0 (Nat.max 1 a1.length) true) k = _; rw [newK_eq]; rfl
  | box a0 a1 => show fBox a0 ((xR a1).run rs) h k = _; rw [xR_eq]; exact fBox_eq _ _ _ _ _
  | build a0 a1 => exact gV_eq _ _
  | bslice a0 a1 a2 a3 a4 => exact gV_eq _ _
  | ld a0 => show fLd ((xR a0).run rs) h k = _; rw [xR_eq, fLd_eq]; rfl
  | lda a0 a1 => exact gV_eq _ _
  | st a0 a1 a2 => cases a0 with
    | zero => exact gV_eq _ _
    | succ n => cases n with
      | zero => show fSt ((xR a1).run rs) ((xR a2).run rs) h k = _; rw [xR_eq, xR_eq]; exact fSt_eq _ _ _ _ _
      | succ n => exact gV_eq _ _
  | nilck a0 => show onNil ((xR a0).run rs) (k ((xR a0).run rs) h) = _; rw [xR_eq, onNil_eq, o_nilck_eq]; unfold o_nilck; cases a0.val rs <;> rfl
  | bin a0 a1 a2 => exact binK_eq _ _ _ _ _ _
  | eq a0 a1 a2 a3 => show onOB (eqQ a0 ((xR a2).run rs) ((xR a3).run rs)) (fun t => k (.b (t != a1)) h) = _; rw [xR_eq, xR_eq, onOB_eq, o_eq_eq]; unfold o_eq eqQ; cases eqV a0 (a2.val rs) (a3.val rs) <;> rfl
  | un a0 a1 => show onO (unV a0 ((xR a1).run rs)) (fun v => k v h) .no = _; rw [xR_eq, onO_eq, o_un_eq]; unfold o_un; rw [upV_ret]
  | cvInt a0 a1 => show onN ((xR a1).run rs) (fun n => k (mkInt a0 (wrapq a0 n)) h) (fun _ n => k (mkInt a0 (wrapq a0 n)) h) .no = _; rw [xR_eq, onN_eq, o_cvInt_eq]; unfold o_cvInt; cases a1.val rs <;> rfl
  | cvS a0 => exact gV_eq _ _
  | cvUp a0 a1 => exact gV_eq _ _
  | cvDn a0 a1 a2 => exact gV_eq _ _
  | cvBytes a0 a1 => exact gV_eq _ _
  | cvStr a0 => exact gV_eq _ _
  | mkIf a0 a1 => show k (.ifc a0 ((xR a1).run rs)) h = _; rw [xR_eq]; rfl
  | mkFn a0 a1 => show k (.fn a0 ((xsR a1).run rs)) h = _; rw [xsR_eq]; rfl
  | mkMap => show gV (o_mkMap rs h) k = _; exact gV_eq _ _
  | mkSl a0 a1 a2 a3 a4 => exact gV_eq _ _
  | slArr a0 a1 a2 a3 a4 a5 => exact gV_eq _ _
  | slSl a0 a1 a2 a3 a4 => exact gV_eq _ _
  | slStr a0 a1 a2 => exact gV_eq _ _
  | fadr a0 a1 => show onPF ((xR a1).run rs) (fun id o => k (.ptr id (Nat.add o a0)) h) (fun cs => k (.fp (cs.drop a0)) h) .no = _; rw [xR_eq, onPF_eq, o_fadr_eq]; unfold o_fadr; cases a1.val rs <;> rfl
  | fld a0 a1 a2 => exact gV_eq _ _
  | ixArr a0 a1 a2 a3 => show onPF ((xR a2).run rs) (fun id o => onNat ((xR a3).run rs) fun j => bR (Nat.ble (Nat.succ j) a0) (k (.ptr id (Nat.add o (Nat.mul j a1))) h)) (fun cs => onNat ((xR a3).run rs) fun j => bR (Nat.ble (Nat.succ j) a0) (k (.fp (cs.drop (Nat.mul j a1))) h)) .no = _; rw [xR_eq, onPF_eq, o_ixArr_eq]; unfold o_ixArr; simp only [xR_eq, onNat_eq, bR_eq, ble_iff]; cases a2.val rs <;> cases natI (a3.val rs) <;> first | rfl | (rename_i j; by_cases hh : j < a0 <;> simp [hh, upV, Nat.succ_le_iff])
  | ixSl a0 a1 a2 => show fIxSl a0 ((xR a1).run rs) ((xR a2).run rs) h k = _; rw [xR_eq, xR_eq]; exact fIxSl_eq _ _ _ _ _ _
  | idxArr a0 a1 a2 a3 a4 => exact gV_eq _ _
  | idxStr a0 a1 => show onS ((xR a0).run rs) (fun l c => onNat ((xR a1).run rs) fun j => bR (Nat.ble (Nat.succ j) l) (k (.u .u8 (.ofNat (byteAt c j))) h)) .no = _; rw [xR_eq, onS_eq, o_idxStr_eq]; unfold o_idxStr; simp only [xR_eq, onNat_eq, bR_eq, ble_iff]; cases a0.val rs <;> cases natI (a1.val rs) <;> first | rfl | (rename_i l c j; by_cases hh : j < l <;> simp [hh, upV, Nat.succ_le_iff])
  | lookup a0 a1 a2 a3 a4 => exact gV_eq _ _
  | mupd a0 a1 a2 a3 => exact gV_eq _ _
  | ment a0 a1 a2 a3 => exact gV_eq _ _
  | mst a0 a1 a2 => exact gV_eq _ _
  | rng a0 => exact gV_eq _ _
  | nxt a0 => exact gV_eq _ _
  | tas a0 a1 a2 a3 => exact gV_eq _ _
  | ext a0 a1 => show onTup ((xR a0).run rs) (fun vs => nthK a1 vs fun v => k v h) .no = _; rw [xR_eq, onTup_eq, o_ext_eq]; unfold o_ext; cases a0.val rs <;> first | rfl | (rename_i vs; simp only [nthK_eq, upV_ret]; try (cases vs[a1]? <;> rfl))
  | call a0 a1 => rfl
  | callv a0 a1 => rw [o_callv_eq]; unfold o_callv; cases a0.val rs <;> rfl
  | noesc a0 => show k ((xR a0).run rs) h = _; rw [xR_eq]; rfl
  | ixByte a0 a1 => exact gV_eq _ _
  | app a0 a1 a2 a3 => exact gV_eq _ _
  | appZ a0 a1 a2 a3 a4 => exact gV_eq _ _
  | lenStr a0 => show onS ((xR a0).run rs) (fun l _ => k (.i (.ofNat l)) h) .no = _; rw [xR_eq, onS_eq, o_lenStr_eq]; unfold o_lenStr; cases a0.val rs <;> rfl
  | lenSl a0 => show onLen ((xR a0).run rs) (fun _ _ l _ => k (.i (.ofNat l)) h) (fun _ l _ => k (.i (.ofNat l)) h) (k (.i 0) h) .no = _; rw [xR_eq, onLen_eq, o_lenSl_eq]; unfold o_lenSl; cases a0.val rs <;> rfl
  | lenMap a0 => exact gV_eq _ _
  | lenc a0 => rfl
  | cap a0 => exact gV_eq _ _
  | copy a0 a1 a2 => exact gV_eq _ _
  | min a0 a1 => exact gV_eq _ _
  | max a0 a1 => exact gV_eq _ _
  | clear a0 a1 a2 => exact gV_eq _ _
  | recover => rfl
  | usd a0 => exact gV_eq _ _
  | us a0 a1 a2 => exact gV_eq _ _
  | defer a0 a1 => rfl
  | deferv a0 a1 => rw [o_deferv_eq]; unfold o_deferv; cases a0.val rs <;> rfl
  | bad => show gV (o_bad rs h) k = _; exact gV_eq _ _
end Ax

/- The abstract executor, in the kernel's quick form, 6: regions and code. -/
namespace Ax
open Go

def FX.cx (x : FX) : Cx := ⟨fun f a h => (x.call f a h).opt, fun i a h => (x.round i a h).opt, x.inR⟩
def upS (r : Option St) (k : RF → H → DS → FR) : FR := match r with | some s => k s.rs s.h s.ds | none => .no
theorem CR.to_eq (r : CR) (k : V → H → FR) : r.to k = match r.opt with | some (v, h) => k v h | none => .no := by cases r <;> rfl

def COp.vop : COp → Bool
  | .call .. | .callv .. | .defer .. | .deferv .. | .recover => false
  | _ => true
set_option maxHeartbeats 4000000 in
theorem vop_sem {o : COp} (hp : o.vop = true) {rs : RF} {h : H} {or : OR} (hs : opSem o rs h = some or) : ∃ v h', or = .val v h' := by
  cases o <;> simp only [COp.vop, Bool.false_eq_true] at hp <;> simp only [opSem] at hs
  all_goals first
    | (cases hs; exact ⟨_, _, rfl⟩)
    | (unfold ret at hs; split at hs <;> cases hs; exact ⟨_, _, rfl⟩)
    | (repeat' split at hs
       all_goals first
         | (cases hs; done)
         | (cases hs; exact ⟨_, _, rfl⟩)
         | (unfold ret at hs; split at hs <;> cases hs; exact ⟨_, _, rfl⟩))
theorem ciGo_v {x : Cx} {o : COp} (hp : o.vop = true) (d : Option Nat) (s : St) : ciGo x ⟨d, o, none⟩ s = match opSem o s.rs s.h with | some (.val v h) => some ⟨setR s.rs d v, h, s.ds⟩ | _ => none := by
  unfold ciGo
  simp only [wantR]
  cases ho : opSem o s.rs s.h with
  | none => rfl
  | some or => obtain ⟨v, h', rfl⟩ := vop_sem hp ho; rfl
theorem koV_eq {o : COp} (hp : o.vop = true) (d : Option Nat) (x : FX) (rs : RF) (h : H) (ds : DS) (k : RF → H → DS → FR) : (koV (denV o) d).run x rs h ds k = upS (ciGo x.cx ⟨d, o, none⟩ ⟨rs, h, ds⟩) k := by
  show (denV o).run rs h (fun v h => k ((wS d).run rs v) h ds) = _
  rw [denV_eq, ciGo_v hp]
  cases ho : opSem o rs h with
  | none => rfl
  | some or =>
    obtain ⟨v, h', rfl⟩ := vop_sem hp ho
    show k ((wS d).run rs v) h' ds = k (setR rs d v) h' ds
    rw [wS_eq]
theorem denO_eq (o : COp) (d : Option Nat) (x : FX) (rs : RF) (h : H) (ds : DS) (k : RF → H → DS → FR) : (denO o d).run x rs h ds k = upS (ciGo x.cx ⟨d, o, none⟩ ⟨rs, h, ds⟩) k := by
  cases o with
  | mv y =>
    show k ((wS d).run rs ((xR y).run rs)) h ds = _
    rw [wS_eq, xR_eq]
    rfl
  | call f xs =>
    show (x.call f ((xsR xs).run rs) h).to (fun v h => k ((wS d).run rs v) h ds) = _
    rw [xsR_eq, CR.to_eq]
    simp only [wS_eq]
    show _ = upS (match (x.call f (vals rs xs) h).opt with | some (v, h) => some ⟨setR rs d v, h, ds⟩ | none => none) k
    cases (x.call f (vals rs xs) h).opt <;> rfl
  | callv y xs =>
    show onFn ((xR y).run rs) (fun f caps => (x.call f ((xsR xs).run rs ++ caps) h).to fun v h => k ((wS d).run rs v) h ds) (fun id => (x.round id ((xsR xs).run rs) h).to fun v h => k ((wS d).run rs v) h ds) .no = _
    rw [xR_eq, xsR_eq, onFn_eq]
    unfold ciGo
    simp only [wantR, opSem, CR.to_eq, wS_eq]
    cases y.val rs with
    | fn f caps =>
      simp only
      show _ = upS (match (x.call f (vals rs xs ++ caps) h).opt with | some (v, h) => some ⟨setR rs d v, h, ds⟩ | none => none) k
      cases (x.call f (vals rs xs ++ caps) h).opt <;> rfl
    | yld id =>
      simp only
      show _ = upS (match (x.round id (vals rs xs) h).opt with | some (v, h) => some ⟨setR rs d v, h, ds⟩ | none => none) k
      cases (x.round id (vals rs xs) h).opt <;> rfl
    | _ => rfl
  | defer f xs =>
    show bF x.inR .no (k ((wS d).run rs .undef) h ((f, (xsR xs).run rs) :: ds)) = _
    rw [bF_eq, wS_eq, xsR_eq]
    show _ = upS (if x.inR then none else some ⟨setR rs d .undef, h, (f, vals rs xs) :: ds⟩) k
    cases x.inR <;> rfl
  | deferv y xs =>
    show bF x.inR .no (onFn ((xR y).run rs) (fun f caps => k ((wS d).run rs .undef) h ((f, (xsR xs).run rs ++ caps) :: ds)) (fun _ => .no) .no) = _
    rw [bF_eq, wS_eq, xsR_eq, xR_eq, onFn_eq]
    unfold ciGo
    simp only [wantR, opSem]
    cases y.val rs with
    | fn f caps =>
      simp only
      show _ = upS (if x.inR then none else some ⟨setR rs d .undef, h, (f, vals rs xs ++ caps) :: ds⟩) k
      cases x.inR <;> rfl
    | _ => cases x.inR <;> rfl
  | recover =>
    show bF x.inR .no (k ((wS d).run rs .nili) h ds) = _
    rw [bF_eq, wS_eq]
    show _ = upS (if x.inR then none else some ⟨setR rs d .nili, h, ds⟩) k
    cases x.inR <;> rfl
  | _ => exact koV_eq rfl _ _ _ _ _ _
theorem ciGo_split (x : Cx) (c : CI) (s : St) : ciGo x c s = match wantR s.rs c.g with
    | some true => ciGo x ⟨c.dst, c.op, none⟩ s
    | some false => some ⟨setR s.rs c.dst .undef, s.h, s.ds⟩
    | none => none := by
  unfold ciGo
  cases wantR s.rs c.g with
  | none => rfl
  | some t => cases t <;> rfl
theorem wantK_eq (rs : RF) (r : Nat) (w : Bool) (k d : FR) : wantK ((rg r).run rs) w k d = match wantR rs (some (r, w)) with | some true => k | some false => d | none => .no := by
  show wantK (getR rs r) w k d = _
  unfold wantK
  rw [onBT_eq]
  unfold wantR
  simp only
  cases getR rs r with
  | b t => cases t <;> cases w <;> rfl
  | tup vs => cases vs <;> rfl
  | _ => rfl
theorem denG_eq (c : CI) (x : FX) (rs : RF) (h : H) (ds : DS) (k : RF → H → DS → FR) : (denG c).run x rs h ds k = upS (ciGo x.cx c ⟨rs, h, ds⟩) k := by
  obtain ⟨d, o, g⟩ := c
  cases g with
  | none => exact denO_eq _ _ _ _ _ _ _
  | some p =>
    obtain ⟨r, w⟩ := p
    show wantK ((rg r).run rs) w ((denO o d).run x rs h ds k) (k ((wS d).run rs .undef) h ds) = _
    rw [wantK_eq, denO_eq, wS_eq, ciGo_split x.cx ⟨d, o, some (r, w)⟩]
    simp only
    cases wantR rs (some (r, w)) with
    | none => rfl
    | some t => cases t <;> rfl
theorem denR_eq : ∀ (l : List CI) (x : FX) (rs : RF) (h : H) (ds : DS) (k : RF → H → DS → FR), (denR l).run x rs h ds k = upS (opsGo x.cx l ⟨rs, h, ds⟩) k
  | [], _, _, _, _, _ => rfl
  | c :: l, x, rs, h, ds, k => by
    show (denG c).run x rs h ds (fun rs h ds => (denR l).run x rs h ds k) = _
    rw [denG_eq, opsGo_cons]
    cases ciGo x.cx c ⟨rs, h, ds⟩ with
    | none => rfl
    | some s => exact denR_eq l x s.rs s.h s.ds k

/-! Regions that draw. -/
theorem revH_eq : ∀ (a b : List H), revH a b = a.reverse ++ b
  | [], _ => rfl
  | h :: a, b => by
    show revH a (h :: b) = _
    rw [revH_eq a (h :: b)]
    simp
theorem denD_eq : ∀ (l : List (CI × Bool)) (x : FX) (rs : RF) (h : H) (ds : DS) (acc : List H) (k : RF → H → DS → List H → FR),
    (denD l).run x rs h ds acc k = match dGo x.cx l ⟨rs, h, ds⟩ with | some (sf, hs) => k sf.rs sf.h sf.ds (hs.dropLast.reverse ++ acc) | none => .no
  | [], _, _, _, _, _, _ => rfl
  | (c, e) :: l, x, rs, h, ds, acc, k => by
    have last : ∀ {l : List (CI × Bool)} {s sf : St} {hs : List H}, dGo x.cx l s = some (sf, hs) → hs ≠ [] := by
      intro l
      induction l with
      | nil => intro s sf hs hh; simp only [dGo, Option.some.injEq, Prod.mk.injEq] at hh; rw [← hh.2]; simp
      | cons p l ih =>
        intro s sf hs hh
        obtain ⟨c, e⟩ := p
        simp only [dGo] at hh
        split at hh
        · split at hh
          · rename_i h2
            simp only [Option.some.injEq, Prod.mk.injEq] at hh
            rw [← hh.2]
            split
            · simp
            · exact ih h2
          · cases hh
        · cases hh
    cases e with
    | false =>
      show (denG c).run x rs h ds (fun rs h ds => (denD l).run x rs h ds acc k) = _
      rw [denG_eq]
      simp only [dGo]
      cases ciGo x.cx c ⟨rs, h, ds⟩ with
      | none => rfl
      | some s =>
        simp only
        show (denD l).run x s.rs s.h s.ds acc k = _
        rw [denD_eq l x s.rs s.h s.ds acc k]
        cases dGo x.cx l ⟨s.rs, s.h, s.ds⟩ with
        | none => rfl
        | some p => rfl
    | true =>
      show (denG c).run x rs h ds (fun rs h' ds => (denD l).run x rs h' ds (h :: acc) k) = _
      rw [denG_eq]
      simp only [dGo]
      cases ciGo x.cx c ⟨rs, h, ds⟩ with
      | none => rfl
      | some s =>
        simp only
        show (denD l).run x s.rs s.h s.ds (h :: acc) k = _
        rw [denD_eq l x s.rs s.h s.ds (h :: acc) k]
        cases hg : dGo x.cx l ⟨s.rs, s.h, s.ds⟩ with
        | none => rfl
        | some p =>
          obtain ⟨sf, hs⟩ := p
          have hne := last hg
          simp only [if_true]
          rw [List.dropLast_cons_of_ne_nil hne]
          simp
theorem dGo_last {x : Cx} : ∀ {l : List (CI × Bool)} {s sf : St} {hs : List H}, dGo x l s = some (sf, hs) → hs.dropLast ++ [sf.h] = hs
  | [], s, sf, hs, h => by
    simp only [dGo, Option.some.injEq, Prod.mk.injEq] at h
    obtain ⟨rfl, rfl⟩ := h
    rfl
  | (c, e) :: l, s, sf, hs, h => by
    simp only [dGo] at h
    split at h
    · split at h
      · rename_i sf' hs' h2
        simp only [Option.some.injEq, Prod.mk.injEq] at h
        obtain ⟨rfl, rfl⟩ := h
        have ih := dGo_last h2
        split
        · have hne : hs' ≠ [] := by intro e; rw [e] at ih; simp at ih
          rw [List.dropLast_cons_of_ne_nil hne, List.cons_append, ih]
        · exact ih
      · cases h
    · cases h
theorem sameK_eq (d : Option Nat) (rs : RF) (v : V) (k : FR) : sameK d rs v k = if (match d with | some d => veq (getR rs d) v | none => true) then k else .no := by
  cases d with
  | none => rfl
  | some d => exact bR_eq _ _
theorem chkV_eq (c : CI) (rs : RF) (h : H) (k : FR) : (chkV c).run rs h k = match dVal c rs h with | some v => (if (match c.dst with | some d => veq (getR rs d) v | none => true) then k else .no) | none => .no := by
  obtain ⟨d, o, g⟩ := c
  have main : (denV o).run rs h (fun v _ => sameK d rs v k) = match (match opSem o rs h with | some (.val v _) => some v | _ => none) with | some v => (if (match d with | some d => veq (getR rs d) v | none => true) then k else .no) | none => .no := by
    rw [denV_eq]
    cases opSem o rs h with
    | none => rfl
    | some or =>
      cases or with
      | val v h => exact sameK_eq _ _ _ _
      | _ => rfl
  cases g with
  | none => exact main
  | some p =>
    obtain ⟨r, w⟩ := p
    show wantK ((rg r).run rs) w ((denV o).run rs h fun v _ => sameK d rs v k) (sameK d rs .undef k) = _
    rw [wantK_eq, main, sameK_eq]
    unfold dVal
    simp only
    cases wantR rs (some (r, w)) with
    | none => rfl
    | some t => cases t <;> rfl
theorem ite_and (a b : Bool) (k : FR) : (if a then (if b then k else .no) else .no) = if (a && b) then k else FR.no := by cases a <;> cases b <;> rfl
theorem chkN_eq (c : CI) : ∀ (n : Nat) (rs : RF) (hs : List H) (k : FR), (chkN c n).run rs hs k = if dChk1 rs c n hs then k else .no
  | 0, _, _, _ => rfl
  | n + 1, _, [], _ => rfl
  | n + 1, rs, h :: hs, k => by
    show (chkV c).run rs h ((chkN c n).run rs hs k) = _
    rw [chkV_eq, chkN_eq c n]
    have e : dChk1 rs c (n + 1) (h :: hs) = match dVal c rs h with | some v => (match c.dst with | some d => veq (getR rs d) v | none => true) && dChk1 rs c n hs | none => false := rfl
    rw [e]
    cases dVal c rs h with
    | none => rfl
    | some v => exact ite_and _ _ _
theorem dropH_eq : ∀ (n : Nat) (l : List H), dropH n l = l.drop n
  | 0, _ => rfl
  | _ + 1, [] => rfl
  | n + 1, _ :: l => dropH_eq n l
theorem chkL_eq : ∀ (l : List (CI × Nat × Nat)) (rs : RF) (hs : List H) (k : FR), (chkL l).run rs hs k = if dChk rs hs l then k else .no
  | [], _, _, _ => rfl
  | (c, lo, n) :: l, rs, hs, k => by
    show (chkN c n).run rs (dropH lo hs) ((chkL l).run rs hs k) = _
    rw [chkN_eq, chkL_eq l, dropH_eq]
    exact ite_and _ _ _
theorem dGo_fst (x : Cx) : ∀ (l : List (CI × Bool)) (s : St), (dGo x l s).map (·.1) = opsGo x (mapFst l) s
  | [], _ => rfl
  | (c, e) :: l, s => by
    show _ = opsGo x (c :: mapFst l) s
    rw [opsGo_cons]
    simp only [dGo]
    cases ciGo x c s with
    | none => rfl
    | some s1 =>
      simp only
      rw [← dGo_fst x l s1]
      cases dGo x l s1 with
      | none => rfl
      | some p => rfl
theorem dregF_eq (l : List (CI × Bool)) (chk : List (CI × Nat × Nat)) (x : FX) (rs : RF) (h : H) (ds : DS) : (dregF l chk).run x rs h ds = upS (dreg x.cx l chk ⟨rs, h, ds⟩) .norm := by
  unfold dreg
  cases chk with
  | nil =>
    show (denR (mapFst l)).run x rs h ds .norm = _
    rw [denR_eq, ← dGo_fst]
    cases dGo x.cx l ⟨rs, h, ds⟩ with
    | none => rfl
    | some p => rfl
  | cons c chk =>
    show (denD l).run x rs h ds [] (fun rs h ds acc => (chkL (c :: chk)).run rs (revH acc [h]) (.norm rs h ds)) = _
    rw [denD_eq]
    cases hg : dGo x.cx l ⟨rs, h, ds⟩ with
    | none => rfl
    | some p =>
      obtain ⟨sf, hs⟩ := p
      simp only [chkL_eq, revH_eq, List.append_nil, List.reverse_reverse, dGo_last hg]
      cases dChk sf.rs hs (c :: chk) <;> rfl
end Ax

/- The abstract executor, in the kernel's quick form, 7: code, functions, all by depth. -/
namespace Ax
open Go

theorem seqF_opt (r : FR) (k : RF → H → DS → FR) : (seqF r k).opt = match r.opt with | some (.norm, s) => (k s.rs s.h s.ds).opt | r => r := by cases r <;> rfl
theorem bF_opt (b : Bool) (a c : FR) : (bF b a c).opt = if b then a.opt else c.opt := by cases b <;> rfl
theorem bR_opt (b : Bool) (a : FR) : (bR b a).opt = if b then a.opt else none := by cases b <;> rfl
theorem upS_opt (r : Option St) : (upS r .norm).opt = match r with | some s => some (.norm, s) | none => none := by cases r <;> rfl
theorem blkF_opt (id : Nat) (r : FR) : (blkF id r).opt = match r.opt with | some (.exit k, s) => if k = id then some (.norm, s) else some (.exit k, s) | r => r := by
  cases r with
  | exit k rs h ds =>
    show (bF (Nat.beq k id) (.norm rs h ds) (.exit k rs h ds)).opt = _
    rw [bF_opt]
    show _ = if k = id then _ else _
    by_cases e : k = id
    · subst e; rw [if_pos rfl, if_pos (by simp)]; rfl
    · rw [if_neg e, if_neg (by intro h; exact e (Nat.eq_of_beq_eq_true h))]; rfl
  | _ => rfl

/-- So many rounds, as long as each goes on. -/
def itG (body : St → Option (Ex × St)) : Nat → St → Option (Ex × St)
  | 0, s => some (.norm, s)
  | n + 1, s => match body s with
    | some (.norm, s) => itG body n s
    | r => r
theorem itG_add (body : St → Option (Ex × St)) : ∀ (a b : Nat) (s : St), itG body (a + b) s = match itG body a s with | some (.norm, s) => itG body b s | r => r
  | 0, b, s => by rw [Nat.zero_add]; rfl
  | a + 1, b, s => by
    have e : a + 1 + b = (a + b) + 1 := by omega
    rw [e]
    simp only [itG]
    cases body s with
    | none => rfl
    | some p =>
      obtain ⟨e, s'⟩ := p
      cases e <;> first | exact itG_add body a b s' | rfl
theorem loopGo_itG (body : St → Option (Ex × St)) : ∀ (n : Nat) (s : St), loopGo body n s = match itG body n s with | some (.norm, _) => none | r => r
  | 0, s => rfl
  | n + 1, s => by
    rw [loopGo_succ]
    simp only [itG]
    cases body s with
    | none => rfl
    | some p =>
      obtain ⟨e, s'⟩ := p
      cases e <;> first | exact loopGo_itG body n s' | rfl
theorem iterF_eq (b : RF → H → DS → FR) : ∀ (d : Nat) (rs : RF) (h : H) (ds : DS), (iterF b d rs h ds).opt = itG (fun s => (b s.rs s.h s.ds).opt) (2 ^ d) ⟨rs, h, ds⟩
  | 0, rs, h, ds => by
    show (b rs h ds).opt = (match (b rs h ds).opt with | some (.norm, s) => some (.norm, s) | r => r)
    cases (b rs h ds).opt with
    | none => rfl
    | some p => obtain ⟨e, s⟩ := p; cases e <;> rfl
  | d + 1, rs, h, ds => by
    show (seqF (iterF b d rs h ds) (iterF b d)).opt = _
    rw [seqF_opt, iterF_eq b d, Nat.pow_succ, Nat.mul_two, itG_add]
    cases itG (fun s => (b s.rs s.h s.ds).opt) (2 ^ d) ⟨rs, h, ds⟩ with
    | none => rfl
    | some p =>
      obtain ⟨e, s⟩ := p
      cases e with
      | norm => exact iterF_eq b d s.rs s.h s.ds
      | _ => rfl
theorem loopF_opt (r : FR) : (loopF r).opt = match r.opt with | some (.norm, _) => none | r => r := by cases r <;> rfl
theorem gotoF_opt (r : FR) (k : Nat → RF → H → DS → FR) : (gotoF r k).opt = match r.opt with | some (.goto l, s) => (k l s.rs s.h s.ds).opt | r => r := by cases r <;> rfl
theorem scopeF_eq (has : Nat → Bool) (body : Nat → RF → H → DS → FR) : ∀ (n : Nat) (r : FR), (scopeF has body n r).opt = scopeGo has (fun l s => (body l s.rs s.h s.ds).opt) n r.opt
  | 0, _ => rfl
  | n + 1, r => by
    show (gotoF r fun l rs h ds => bF (has l) (scopeF has body n (body l rs h ds)) (.goto l rs h ds)).opt = _
    rw [gotoF_opt, scopeGo_succ]
    cases r with
    | goto l rs h ds =>
      show (bF (has l) (scopeF has body n (body l rs h ds)) (.goto l rs h ds)).opt = if has l then scopeGo has _ n (body l rs h ds).opt else some (.goto l, ⟨rs, h, ds⟩)
      rw [bF_opt, scopeF_eq has body n]
      rfl
    | _ => rfl
theorem rngF_eq (fn n : Nat) (y : X) (ps : List Nat) (as bd : CC) (x : FX) (rs : RF) (h : H) (ds : DS) : (rngF fn n y ps as bd x rs h ds).opt = rngGo x.cx fn n y ps as bd ⟨rs, h, ds⟩ := by
  unfold rngF rngGo
  rw [bF_opt, xR_eq, onFn_eq]
  show _ = if x.inR then none else _
  cases hin : x.inR with
  | true => rfl
  | false =>
    simp only [Bool.false_eq_true, if_false, newK_eq]
    cases y.val rs with
    | fn g caps =>
      simp only
      rw [CR.to_eq]
      show _ = afterRng h.next ⟨rs, h, ds⟩ ((x.call g (.yld h.next :: caps) (h.new (.loop fn n rs ps as bd 0 none))).opt)
      cases (x.call g (.yld h.next :: caps) (h.new (.loop fn n rs ps as bd 0 none))).opt with
      | none => rfl
      | some p =>
        obtain ⟨v, h2⟩ := p
        show (afterF h.next rs ds h2).opt = _
        unfold afterF afterRng
        simp only
        cases h2.get h.next with
        | none => rfl
        | some o =>
          cases o with
          | loop fn' n' rg ps' as' bd' st pend =>
            match st, pend with
            | 0, none => rfl
            | 0, some _ => rfl
            | 1, _ => rfl
            | 2, none => rfl
            | 2, some p => cases p <;> rfl
            | _ + 3, _ => rfl
          | _ => rfl
    | _ => rfl

theorem den_eq (fn n D : Nat) : ∀ (c : CC), (∀ (x : FX) (rs : RF) (h : H) (ds : DS), ((den fn n D c).run x rs h ds).opt = ev x.cx fn n (2 ^ D) c none ⟨rs, h, ds⟩) ∧
    (∀ (l : Nat) (x : FX) (rs : RF) (h : H) (ds : DS), ((den fn n D c).frm l x rs h ds).opt = ev x.cx fn n (2 ^ D) c (some l) ⟨rs, h, ds⟩) := by
  intro c
  induction c with
  | skip => exact ⟨fun _ _ _ _ => rfl, fun _ _ _ _ _ => rfl⟩
  | reg l =>
    refine ⟨fun x rs h ds => ?_, fun _ _ _ _ _ => rfl⟩
    show ((denR l).run x rs h ds .norm).opt = _
    rw [denR_eq, upS_opt, ev_reg]
    cases opsGo x.cx l ⟨rs, h, ds⟩ <;> rfl
  | seq a b ia ib =>
    refine ⟨fun x rs h ds => ?_, fun l x rs h ds => ?_⟩
    · show (seqF ((den fn n D a).run x rs h ds) ((den fn n D b).run x)).opt = _
      rw [seqF_opt, ia.1, ev_seq]
      cases ev x.cx fn n (2 ^ D) a none ⟨rs, h, ds⟩ with
      | none => rfl
      | some p =>
        obtain ⟨e, s⟩ := p
        cases e with
        | norm => exact ib.1 x s.rs s.h s.ds
        | _ => rfl
    · show (bF (hasLab l a) (seqF ((den fn n D a).frm l x rs h ds) ((den fn n D b).run x)) ((den fn n D b).frm l x rs h ds)).opt = _
      rw [bF_opt, seqF_opt, ia.2, ib.2, ev_seq_from]
      congr 1
      cases ev x.cx fn n (2 ^ D) a (some l) ⟨rs, h, ds⟩ with
      | none => rfl
      | some p =>
        obtain ⟨e, s⟩ := p
        cases e with
        | norm => exact ib.1 x s.rs s.h s.ds
        | _ => rfl
  | cond y a b ia ib =>
    refine ⟨fun x rs h ds => ?_, fun _ _ _ _ _ => rfl⟩
    show (onB ((xR y).run rs) (fun t => bF t ((den fn n D a).run x rs h ds) ((den fn n D b).run x rs h ds)) .no).opt = _
    rw [xR_eq, onB_eq, ev_cond]
    simp only
    cases y.val rs with
    | b t => simp only [bF_opt, ia.1, ib.1]
    | _ => rfl
  | block id b ib =>
    refine ⟨fun x rs h ds => ?_, fun _ _ _ _ _ => rfl⟩
    show (blkF id ((den fn n D b).run x rs h ds)).opt = _
    rw [blkF_opt, ib.1, ev_block]
    cases ev x.cx fn n (2 ^ D) b none ⟨rs, h, ds⟩ with
    | none => rfl
    | some p => obtain ⟨e, s⟩ := p; cases e <;> rfl
  | loop b ib =>
    refine ⟨fun x rs h ds => ?_, fun _ _ _ _ _ => rfl⟩
    show (loopF (iterF ((den fn n D b).run x) D rs h ds)).opt = _
    rw [loopF_opt, iterF_eq, ev_loop, loopGo_itG]
    have e : (fun s : St => ((den fn n D b).run x s.rs s.h s.ds).opt) = ev x.cx fn n (2 ^ D) b none := funext fun s => ib.1 x s.rs s.h s.ds
    rw [e]
  | exit id => exact ⟨fun _ _ _ _ => rfl, fun _ _ _ _ _ => rfl⟩
  | goto l => exact ⟨fun _ _ _ _ => rfl, fun _ _ _ _ _ => rfl⟩
  | ret => exact ⟨fun _ _ _ _ => rfl, fun _ _ _ _ _ => rfl⟩
  | scope b ib =>
    refine ⟨fun x rs h ds => ?_, fun _ _ _ _ _ => rfl⟩
    show (scopeF (fun l => hasLab l b) (fun l => (den fn n D b).frm l x) (2 ^ D) ((den fn n D b).run x rs h ds)).opt = _
    rw [scopeF_eq, ib.1, ev_scope]
    have e : (fun (l : Nat) (s : St) => ((den fn n D b).frm l x s.rs s.h s.ds).opt) = fun l s => ev x.cx fn n (2 ^ D) b (some l) s := funext fun l => funext fun s => ib.2 l x s.rs s.h s.ds
    rw [e]
  | label l =>
    refine ⟨fun _ _ _ _ => rfl, fun k x rs h ds => ?_⟩
    show (bR (Nat.beq l k) (.norm rs h ds)).opt = _
    rw [bR_opt, ev_label_from]
    rfl
  | rng y ps as bd _ _ => exact ⟨fun x rs h ds => rngF_eq fn n y ps as bd x rs h ds, fun _ _ _ _ _ => rfl⟩
  | dreg l chk =>
    refine ⟨fun x rs h ds => ?_, fun _ _ _ _ _ => rfl⟩
    show ((dregF l chk).run x rs h ds).opt = (match dreg x.cx l chk ⟨rs, h, ds⟩ with | some s => some (Ex.norm, s) | none => none)
    rw [dregF_eq, upS_opt]
  | bad => exact ⟨fun _ _ _ _ => rfl, fun _ _ _ _ _ => rfl⟩

/-! Functions. -/
theorem onOC_opt (o : Option V) (k : V → CR) : (onOC o k).opt = match o with | some v => (k v).opt | none => none := by cases o <;> rfl
theorem resK_eq (c : CRes) (rs : RF) (h : H) (k : V → CR) : ((resK c).run rs h k).opt = match resV rs h c with | some v => (k v).opt | none => none := by
  cases c with
  | tmp t => rfl
  | cell a n g => exact onOC_opt _ _
theorem resKs_eq : ∀ (l : List CRes) (rs : RF) (h : H) (k : List V → CR), ((resKs l).run rs h k).opt = match resVs rs h l with | some vs => (k vs).opt | none => none
  | [], _, _, _ => rfl
  | c :: l, rs, h, k => by
    show ((resK c).run rs h fun v => (resKs l).run rs h fun vs => k (v :: vs)).opt = _
    rw [resK_eq]
    simp only [resVs]
    cases resV rs h c with
    | none => rfl
    | some v =>
      simp only [resKs_eq l]
      cases resVs rs h l <;> rfl
theorem resF_eq (l : List CRes) (rs : RF) (h : H) (k : V → CR) : ((resF l).run rs h k).opt = match resOf rs h l with | some v => (k v).opt | none => none := by
  have many : ∀ l : List CRes, (∀ c, l ≠ [c]) → (match resVs rs h l with | some vs => (k (.tup vs)).opt | none => none) = match resOf rs h l with | some v => (k v).opt | none => none := by
    intro l hl
    unfold resOf
    have hlen : ∀ vs, resVs rs h l = some vs → ∀ v, vs ≠ [v] := by
      intro vs hv v e
      subst e
      match l, hl, hv with
      | [], _, hv => simp [resVs] at hv
      | [c], hl, _ => exact hl c rfl
      | c :: c' :: r, _, hv =>
        simp only [resVs] at hv
        split at hv
        · rename_i h1 h2
          split at h2
          · cases h2; cases hv
          · cases h2
        · cases hv
    cases hr : resVs rs h l with
    | none => rfl
    | some vs =>
      match vs, hlen vs hr with
      | [], _ => rfl
      | [v], h => exact absurd rfl (h v)
      | _ :: _ :: _, _ => rfl
  match l with
  | [] => exact (resKs_eq [] rs h (fun vs => k (.tup vs))).trans (many [] fun c h => by cases h)
  | [c] =>
    show ((resK c).run rs h k).opt = _
    rw [resK_eq]
    unfold resOf
    simp only [resVs]
    cases resV rs h c <;> rfl
  | a :: b :: l => exact (resKs_eq (a :: b :: l) rs h (fun vs => k (.tup vs))).trans (many (a :: b :: l) fun c h => by simp at h)
theorem and_opt (r : CR) (k : V → H → CR) : (r.and k).opt = match r.opt with | some (v, h) => (k v h).opt | none => none := by cases r <;> rfl
theorem defF_eq (x : FX) : ∀ (ds : DS) (h : H) (k : H → CR), (defF x ds h k).opt = match defGo x.cx.call ds h with | some h => (k h).opt | none => none
  | [], _, _ => rfl
  | (f, args) :: ds, h, k => by
    show ((x.call f args h).and fun _ h => defF x ds h k).opt = _
    rw [and_opt]
    simp only [defGo]
    show _ = match (match (x.call f args h).opt with | some (_, h) => defGo x.cx.call ds h | none => none) with | some h => (k h).opt | none => none
    cases (x.call f args h).opt with
    | none => rfl
    | some p => exact defF_eq x ds p.2 k
theorem outF_opt (r : FR) (k : RF → H → DS → CR) : (outF r k).opt = match r.opt with
    | some (.norm, s) => (k s.rs s.h s.ds).opt
    | some (.ret, s) => (k s.rs s.h s.ds).opt
    | _ => none := by cases r <;> rfl
theorem kf_eq (D f : Nat) (cf : CF) (x : FX) (args : List V) (h : H) : ((kf D f cf).run x args h).opt =
    match ev ⟨x.cx.call, x.cx.round, false⟩ f cf.ntmps (2 ^ D) cf.code none ⟨RF.of args, h, []⟩ with
    | some (.norm, s) => (match defGo x.cx.call s.ds s.h with | some h => (resOf s.rs h cf.res).map fun v => (v, h) | none => none)
    | some (.ret, s) => (match defGo x.cx.call s.ds s.h with | some h => (resOf s.rs h cf.res).map fun v => (v, h) | none => none)
    | _ => none := by
  show (outF ((den f cf.ntmps D cf.code).run ⟨x.call, x.round, false⟩ (RF.of args) h []) fun rs h ds => defF x ds h fun h => (resF cf.res).run rs h fun v => .ok v h).opt = _
  rw [outF_opt, (den_eq f cf.ntmps D cf.code).1]
  have fin : ∀ s : St, (defF x s.ds s.h fun h => (resF cf.res).run s.rs h fun v => CR.ok v h).opt = (match defGo x.cx.call s.ds s.h with | some h => (resOf s.rs h cf.res).map fun v => (v, h) | none => none) := by
    intro s
    rw [defF_eq]
    cases defGo x.cx.call s.ds s.h with
    | none => rfl
    | some h2 =>
      simp only [resF_eq]
      cases resOf s.rs h2 cf.res <;> rfl
  show (match ev ⟨x.cx.call, x.cx.round, false⟩ f cf.ntmps (2 ^ D) cf.code none ⟨RF.of args, h, []⟩ with
    | some (.norm, s) => (defF x s.ds s.h fun h => (resF cf.res).run s.rs h fun v => CR.ok v h).opt
    | some (.ret, s) => (defF x s.ds s.h fun h => (resF cf.res).run s.rs h fun v => CR.ok v h).opt
    | _ => none) = _
  cases ev ⟨x.cx.call, x.cx.round, false⟩ f cf.ntmps (2 ^ D) cf.code none ⟨RF.of args, h, []⟩ with
  | none => rfl
  | some p =>
    obtain ⟨e, s⟩ := p
    cases e with
    | norm => exact fin s
    | ret => exact fin s
    | _ => rfl
theorem roundQ_eq (D : Nat) (x : FX) (id : Nat) (args : List V) (h : H) : (roundQ D x id args h).opt = roundF (2 ^ D) x.cx.call x.cx.round id args h := by
  unfold roundQ roundF
  have E : ∀ (fn n : Nat) (c : CC) (rs : RF) (h : H) (ds : DS), ((den fn n D c).run ⟨x.call, x.round, true⟩ rs h ds).opt = ev ⟨x.cx.call, x.cx.round, true⟩ fn n (2 ^ D) c none ⟨rs, h, ds⟩ := fun fn n c rs h ds => (den_eq fn n D c).1 ⟨x.call, x.round, true⟩ rs h ds
  cases h.get id with
  | none => rfl
  | some o =>
    cases o with
    | loop fn n rg ps as bd st pend =>
      cases st with
      | succ st => rfl
      | zero =>
        simp only
        split
        · rw [← E]
          cases hr : (den fn n D as).run ⟨x.call, x.round, true⟩ (putAll ps args rg) h [] with
          | norm rs h1 ds =>
            simp only [FR.opt]
            cases h1.get id with
            | none => rfl
            | some o1 =>
              cases o1 with
              | loop fn' n' rg' ps' as' bd' st' pend' =>
                cases st' with
                | succ st' => rfl
                | zero =>
                  simp only
                  rw [← E]
                  cases hr2 : (den fn n D bd).run ⟨x.call, x.round, true⟩ rs (h1.put id (.loop fn' n' rg' ps' as' bd' 1 pend')) ds with
                  | no => rfl
                  | norm rs2 h2 ds2 =>
                    simp only [FR.opt]
                    cases h2.get id with
                    | none => rfl
                    | some o2 =>
                      cases o2 with
                      | loop _ _ _ _ _ _ st2 _ =>
                        match st2 with
                        | 0 => rfl
                        | 1 => rfl
                        | _ + 2 => rfl
                      | _ => rfl
                  | exit k rs2 h2 ds2 =>
                    simp only [FR.opt]
                    cases h2.get id with
                    | none => rfl
                    | some o2 =>
                      cases o2 with
                      | loop _ _ _ _ _ _ st2 _ =>
                        match st2 with
                        | 0 => rfl
                        | 1 => rfl
                        | _ + 2 => rfl
                      | _ => rfl
                  | goto k rs2 h2 ds2 =>
                    simp only [FR.opt]
                    cases h2.get id with
                    | none => rfl
                    | some o2 =>
                      cases o2 with
                      | loop _ _ _ _ _ _ st2 _ =>
                        match st2 with
                        | 0 => rfl
                        | 1 => rfl
                        | _ + 2 => rfl
                      | _ => rfl
                  | ret rs2 h2 ds2 =>
                    simp only [FR.opt]
                    cases h2.get id with
                    | none => rfl
                    | some o2 =>
                      cases o2 with
                      | loop _ _ _ _ _ _ st2 _ =>
                        match st2 with
                        | 0 => rfl
                        | 1 => rfl
                        | _ + 2 => rfl
                      | _ => rfl
              | _ => rfl
          | _ => rfl
        · rfl
    | _ => rfl

/-- The quick form is the other, however deep. -/
theorem fxN_eq (CP : Nat → Option CF) (D : Nat) : ∀ n, (∀ f args h, ((fxN CP D n).call f args h).opt = (runN' CP (2 ^ D) n).1 f args h) ∧ (∀ id args h, ((fxN CP D n).round id args h).opt = (runN' CP (2 ^ D) n).2 id args h)
  | 0 => ⟨fun _ _ _ => rfl, fun _ _ _ => rfl⟩
  | n + 1 => by
    obtain ⟨i1, i2⟩ := fxN_eq CP D n
    have e1 : (fxN CP D n).cx.call = (runN' CP (2 ^ D) n).1 := funext fun f => funext fun a => funext fun h => i1 f a h
    have e2 : (fxN CP D n).cx.round = (runN' CP (2 ^ D) n).2 := funext fun f => funext fun a => funext fun h => i2 f a h
    refine ⟨fun f args h => ?_, fun id args h => ?_⟩
    · show ((kfo D f (CP f)).run (fxN CP D n) args h).opt = callF CP (2 ^ D) (runN' CP (2 ^ D) n).1 (runN' CP (2 ^ D) n).2 f args h
      unfold callF
      cases CP f with
      | none => rfl
      | some cf =>
        show ((kf D f cf).run (fxN CP D n) args h).opt = _
        rw [kf_eq, e1, e2]
        rfl
    · show (roundQ D (fxN CP D n) id args h).opt = roundF (2 ^ D) (runN' CP (2 ^ D) n).1 (runN' CP (2 ^ D) n).2 id args h
      rw [roundQ_eq, e1, e2]
end Ax
