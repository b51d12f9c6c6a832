/- The abstract executor, part 6: the operations are what their compiled forms say (first part). -/
import Derived.Test.YtapplfjimaghbaaGreatAx1
import Derived.Laws.Tables
import Derived.Laws.Slices
import Derived.Laws.AppendOwn
set_option linter.all false
namespace Ax
open Go

/-- What an operation comes to, of what its compiled form says. -/
def OpOK (P : Program) (Q : Nat → CC → Code → Prop) (g : Gh) (h : H) (w : World) (s : Sem Next) : OR → Prop
  | .val v h' => Fresh g h.next h'.next → ∃ g' w' x nx, s.run P w = .ok nx w' ∧ (nx = .value x ∨ (nx = .skip ∧ x = Go.undef)) ∧ VR g' v x ∧ Rel Q g' h' w' ∧ Ext g h w g' h' w'
  | .call f vs => ∃ xs : List Value, s.run P w = (callFunc f xs.toArray).run P w ∧ VRs g vs xs
  | .ycall id vs => ∃ e, ∃ xs : List Value, g.φ id = some e ∧ s.run P w = (Instr.yield e.blk xs.toArray).run P w ∧ VRs g vs xs
  | .defer f vs => ∃ (xs caps : List Value), s.run P w = .ok (.defer { target := .fn (.func f) caps.toArray, args := xs.toArray }) w ∧ VRs g vs (xs ++ caps)
  | .rcv => s.run P w = .ok .recover w

section
variable {P : Program} {Q : Nat → CC → Code → Prop} {g : Gh} {h : H} {w : World}

theorem OpOK.pure {s : Sem Next} {v : V} {x : Value} (r : Rel Q g h w) (hs : s.run P w = .ok (.value x) w) (hv : VR g v x) : OpOK P Q g h w s (.val v h) :=
  fun _ => ⟨g, w, x, _, hs, .inl rfl, hv, r, Ext.refl g h w⟩
theorem OpOK.skip {s : Sem Next} {h' : H} {w' : World} (hs : s.run P w = .ok .skip w') (r : Rel Q g h' w') (e : Ext g h w g h' w') : OpOK P Q g h w s (.val .undef h') :=
  fun _ => ⟨g, w', _, _, hs, .inr ⟨rfl, rfl⟩, VR.undef, r, e⟩

theorem ofLeaf_VR (g : Gh) {x : Value} {v : V} (h : ofLeaf x = some v) : VR g v x := by
  unfold ofLeaf at h
  split at h <;> first
    | (cases h; first | exact .i _ | exact .u _ _ | exact .b _ | exact .s _ | exact .nilp | exact .nils | exact .nilm | exact .nilf | exact .nili)
    | (split at h
       · rename_i f a b hab
         cases h
         obtain ⟨ha, hb⟩ := hab
         obtain rfl : a = #[] := Array.eq_empty_of_size_eq_zero ha
         obtain rfl : b = #[] := Array.eq_empty_of_size_eq_zero hb
         exact .fn .nil
       · cases h)
    | cases h
theorem ofLeaves_VRs (g : Gh) : ∀ {xs : List Value} {vs : List V}, ofLeaves xs = some vs → VRs g vs xs
  | [], vs, h => by simp [ofLeaves] at h; subst h; exact .nil
  | x :: xs, vs, h => by
    simp only [ofLeaves] at h
    split at h
    · rename_i v l hv hl
      cases h
      exact .cons (ofLeaf_VR g hv) (ofLeaves_VRs g hl)
    · cases h
theorem ofConst_VR (g : Gh) {x : Value} {v : V} (h : ofConst x = some v) : VR g v x := by
  unfold ofConst at h
  split at h
  · rename_i cs
    simp only [Option.map_eq_some_iff] at h
    obtain ⟨l, hl, rfl⟩ := h
    have := VR.agg (ofLeaves_VRs g hl)
    simpa using this
  · rename_i cs
    split at h
    · rename_i hc
      cases h
      obtain rfl : cs = #[] := Array.eq_empty_of_size_eq_zero hc
      exact VR.undef
    · cases h
  · exact ofLeaf_VR g h
theorem ofLeaf_leaf {x : Value} {v : V} (h : ofLeaf x = some v) : v.leaf = true ∧ v.cells = [v] := by
  unfold ofLeaf at h
  split at h <;> first
    | (cases h; exact ⟨rfl, rfl⟩)
    | (split at h <;> cases h; exact ⟨rfl, rfl⟩)
    | cases h

/-- The zero value's cells. -/
theorem zeroCells_VRs (g : Gh) {ti : TI} {l : List V} (h : zeroCells ti = some l) : ∃ z, ti.z = some z ∧ VRs g l z.cells.toList ∧ l.length = ti.n ∧ l.all V.leaf = true := by
  unfold zeroCells at h
  split at h
  · rename_i z hz
    simp only [Option.bind_eq_some_iff] at h
    obtain ⟨l', hl', h⟩ := h
    split at h
    · rename_i hc
      cases h
      exact ⟨z, hz, ofLeaves_VRs g hl', hc⟩
    · cases h
  · cases h
theorem zeroVal_VR (g : Gh) {ti : TI} {v : V} (h : zeroVal ti = some v) : ∃ z, ti.z = some z ∧ VR g v z := by
  unfold zeroVal at h
  simp only [Option.bind_eq_some_iff] at h
  obtain ⟨z, hz, hv⟩ := h
  exact ⟨z, hz, ofConst_VR g hv⟩
end

section
variable {C : Fix} (hT : TTok C.P C.tt)
include hT
theorem run_under {t : Nat} {ti : TI} (h : C.tt t = some ti) (w : World) : (underlying t).run C.P w = .ok ti.d w := run_underlying (hT t ti h).1 w
theorem run_inf {t : Nat} {ti : TI} (h : C.tt t = some ti) (w : World) : ∃ i, (typeInfo t).run C.P w = .ok i w ∧ i.size = ti.n ∧ i.bytes = ti.bytes ∧ i.zero = ti.z := by
  obtain ⟨i, hi, h1⟩ := (hT t ti h).2
  exact ⟨i, by simp [typeInfo, hi], h1⟩
theorem run_siz {t : Nat} {ti : TI} (h : C.tt t = some ti) (w : World) : (Go.sizeOf t).run C.P w = .ok ti.n w := by
  obtain ⟨i, hi, h1, _⟩ := run_inf hT h w
  simp [Go.sizeOf, hi, h1]
theorem run_zero {t : Nat} {ti : TI} {z : Value} (h : C.tt t = some ti) (hz : ti.z = some z) (w : World) : (zeroValue t).run C.P w = .ok z w := by
  obtain ⟨i, hi, _, _, h1⟩ := run_inf hT h w
  simp [zeroValue, hi, h1, hz]
theorem run_isAgg {t : Nat} {ti : TI} (h : C.tt t = some ti) (w : World) : (isAgg t).run C.P w = .ok (TypeDesc.isAggB ti.d) w := by
  simp only [isAgg, Sem.run_bind, run_under hT h, Result.andThen_ok]
  cases ti.d <;> rfl
end

section ops
variable {C : Fix} {Q : Nat → CC → Code → Prop} {g : Gh} {h : H} {w : World} {rs : RF} {ρ : Operand → Value}
variable (hT : TTok C.P C.tt) (r : Rel Q g h w) (hρ : ∀ x y, cX C x = some y → VR g (y.val rs) (ρ x))
include hρ

theorem cXs_VRs : ∀ {l : List Operand} {ys : List X}, cXs C l = some ys → VRs g (vals rs ys) (l.map ρ)
  | [], ys, h => by simp [cXs] at h; subst h; exact .nil
  | x :: l, ys, h => by
    simp only [cXs] at h
    split at h
    · rename_i y l' hy hl
      cases h
      exact .cons (hρ _ _ hy) (cXs_VRs hl)
    · cases h

include r
theorem snd_mv {x : Operand} {y : X} (hx : cX C x = some y) {o : Oper} (ho : o.op = .move x ∨ o.op = .assign x) {or : OR} (hs : opSem (.mv y) rs h = some or) : OpOK C.P Q g h w (execOp ρ o) or := by
  simp only [opSem, Option.some.injEq] at hs
  subst hs
  refine OpOK.pure r ?_ (hρ _ _ hx)
  rcases ho with ho | ho <;> simp [execOp, ho]
theorem snd_pick {c a b : Operand} {c' a' b' : X} (hc : cX C c = some c') (ha : cX C a = some a') (hb : cX C b = some b') {o : Oper} (ho : o.op = .pick c a b) {or : OR} (hs : opSem (.pick c' a' b') rs h = some or) : OpOK C.P Q g h w (execOp ρ o) or := by
  simp only [opSem] at hs
  split at hs
  · rename_i t ht
    cases hs
    have hcv := hρ _ _ hc
    rw [ht] at hcv
    have := hcv.b_inv
    refine OpOK.pure (x := if t then ρ a else ρ b) r ?_ ?_
    · simp [execOp, ho, this, asBool]
    · cases t
      · exact hρ _ _ hb
      · exact hρ _ _ ha
  · cases hs
theorem snd_nilck {x : Operand} {y : X} (hx : cX C x = some y) {o : Oper} (ho : o.op = .nilCheck x) {or : OR} (hs : opSem (.nilck y) rs h = some or) : OpOK C.P Q g h w (execOp ρ o) or := by
  have hv := hρ _ _ hx
  simp only [opSem] at hs
  split at hs <;> first
    | (cases hs; done)
    | (rename_i e; rw [e] at hv; cases hs; refine OpOK.pure r ?_ hv; generalize hz : ρ x = z at hv; cases hv <;> simp [execOp, ho, hz])
theorem snd_mkIf {t : Nat} {ti : TI} (hti : C.tt t = some ti) {x : Operand} {y : X} (hx : cX C x = some y) (hd : ∀ ms, ti.d ≠ .interface ms) {o : Oper} (ho : o.op = .makeInterface t x) {or : OR} (hs : opSem (.mkIf t y) rs h = some or) :
    TTok C.P C.tt → OpOK C.P Q g h w (execOp ρ o) or := by
  intro hT
  simp only [opSem, Option.some.injEq] at hs
  subst hs
  refine OpOK.pure r ?_ (.ifc (hρ _ _ hx))
  simp only [execOp, ho, Instr.makeInterface, Sem.run_bind, run_under hT hti, Result.andThen_ok]
  cases hdd : ti.d <;> first | (exact absurd hdd (hd _)) | simp
theorem snd_mkFn {f : Nat} {first capt : Array Operand} {ys : List X} (hx : cXs C capt.toList = some ys) (hf : first.size = 0) {o : Oper} (ho : o.op = .makeFunc (.func f) first capt) {or : OR} (hs : opSem (.mkFn f ys) rs h = some or) : OpOK C.P Q g h w (execOp ρ o) or := by
  simp only [opSem, Option.some.injEq] at hs
  subst hs
  obtain rfl : first = #[] := Array.eq_empty_of_size_eq_zero hf
  refine OpOK.pure r (x := .func (.func f) #[] (capt.toList.map ρ).toArray) ?_ (.fn (cXs_VRs hρ hx))
  have e : Array.map ρ capt = (List.map ρ capt.toList).toArray := by apply Array.ext'; simp
  simp [execOp, ho, Instr.makeFunc, e]
theorem snd_ext {x : Operand} {y : X} (hx : cX C x = some y) {i : Nat} {o : Oper} (ho : o.op = .extract x i) {or : OR} (hs : opSem (.ext y i) rs h = some or) : OpOK C.P Q g h w (execOp ρ o) or := by
  have hv := hρ _ _ hx
  simp only [opSem, ret] at hs
  split at hs
  · rename_i vs hvs
    rw [hvs] at hv
    obtain ⟨xs, hxs, hr⟩ := hv.tup_inv
    split at hs
    · rename_i v hvi
      cases hs
      obtain ⟨z, hz, hzr⟩ := hr.get i v hvi
      refine OpOK.pure r ?_ hzr
      simp [execOp, ho, Instr.extract, hxs, hz]
    · cases hs
  · cases hs
end ops
end Ax

/- The abstract executor, part 7: the operations are what their compiled forms say (numbers, strings, comparisons). -/
namespace Ax
open Go

/-! Strings and their codes. -/
theorem codeOf_lt : ∀ (l : List UInt8), codeOf l < 256 ^ l.length
  | [] => by simp [codeOf]
  | c :: r => by
    have h := codeOf_lt r
    have hc : c.toNat < 256 := c.toNat_lt
    simp only [codeOf, List.length_cons, Nat.pow_succ]
    have : 256 * codeOf r ≤ 256 * (256 ^ r.length - 1) := Nat.mul_le_mul_left _ (by omega)
    have hp : 0 < 256 ^ r.length := Nat.pow_pos (by omega)
    omega
theorem codeOf_append (a b : List UInt8) : codeOf (a ++ b) = codeOf a + 256 ^ a.length * codeOf b := by
  induction a with
  | nil => simp [codeOf]
  | cons c a ih =>
    simp only [List.cons_append, codeOf, ih, List.length_cons, Nat.pow_succ]
    rw [Nat.mul_add, ← Nat.mul_assoc, Nat.mul_comm 256 (256 ^ a.length)]
    omega
theorem codeOf_inj : ∀ (a b : List UInt8), a.length = b.length → codeOf a = codeOf b → a = b
  | [], [], _, _ => rfl
  | c :: a, d :: b, hl, h => by
    simp only [codeOf] at h
    have hc : c.toNat < 256 := c.toNat_lt
    have hd : d.toNat < 256 := d.toNat_lt
    have h1 : c.toNat = d.toNat := by omega
    have h2 : codeOf a = codeOf b := by omega
    rw [codeOf_inj a b (by simpa using hl) h2, UInt8.toNat_inj.1 h1]
  | [], _ :: _, hl, _ => by simp at hl
  | _ :: _, [], hl, _ => by simp at hl
theorem codeOf_drop : ∀ (l : List UInt8) (k : Nat), codeOf (l.drop k) = codeOf l / 256 ^ k
  | l, 0 => by simp
  | [], k + 1 => by simp [codeOf]
  | c :: l, k + 1 => by
    have hc : c.toNat < 256 := c.toNat_lt
    simp only [List.drop_succ_cons, codeOf, codeOf_drop l k]
    rw [Nat.pow_succ, Nat.mul_comm (256 ^ k) 256, ← Nat.div_div_eq_div_mul]
    congr 1
    omega
theorem codeOf_take : ∀ (l : List UInt8) (k : Nat), codeOf (l.take k) = codeOf l % 256 ^ k
  | l, 0 => by simp [codeOf, Nat.mod_one]
  | [], k + 1 => by simp [codeOf]
  | c :: l, k + 1 => by
    have hc : c.toNat < 256 := c.toNat_lt
    simp only [List.take_succ_cons, codeOf, codeOf_take l k]
    rw [Nat.pow_succ, Nat.mul_comm (256 ^ k) 256, Nat.mod_mul]
    congr 1
    · omega
    · congr 1
      congr 1
      omega
theorem shiftRight_8 (c k : Nat) : Nat.shiftRight c (8 * k) = c / 256 ^ k := by
  show c >>> (8 * k) = _
  rw [Nat.shiftRight_eq_div_pow, Nat.pow_mul]
theorem byteAt_code (l : List UInt8) (k : Nat) (c : UInt8) (h : l[k]? = some c) : byteAt (codeOf l) k = c.toNat := by
  unfold byteAt
  show Nat.shiftRight (codeOf l) (8 * k) % 256 = _
  rw [shiftRight_8, ← codeOf_drop]
  have hk : k < l.length := (List.getElem?_eq_some_iff.1 h).1
  rw [List.drop_eq_getElem_cons hk]
  have : l[k] = c := by rw [List.getElem?_eq_getElem hk] at h; simpa using h
  rw [this]
  simp only [codeOf]
  have hc : c.toNat < 256 := c.toNat_lt
  omega
theorem codeOf_slice (l : List UInt8) (a n : Nat) : codeOf ((l.drop a).take n) = Nat.mod (Nat.shiftRight (codeOf l) (8 * a)) (2 ^ (8 * n)) := by
  rw [codeOf_take, codeOf_drop, shiftRight_8]
  show _ = _ % 2 ^ (8 * n)
  rw [Nat.pow_mul]
theorem strEq_code (a b : List UInt8) : strEq a.length (codeOf a) b.length (codeOf b) = (a == b) := by
  unfold strEq
  rw [Bool.eq_iff_iff]
  simp only [Bool.and_eq_true, Nat.beq_eq, beq_iff_eq]
  constructor
  · rintro ⟨h1, h2⟩; exact codeOf_inj a b h1 h2
  · rintro rfl; exact ⟨rfl, rfl⟩
theorem sLess_code : ∀ (f : Nat) (a b : List UInt8), a.length < f → sLess f a.length (codeOf a) b.length (codeOf b) = Op.bytesLess a b
  | 0, _, _, h => by omega
  | f + 1, a, [], _ => by cases a <;> simp [sLess, Op.bytesLess]
  | f + 1, [], b :: y, _ => by simp [sLess, Op.bytesLess]
  | f + 1, a :: x, b :: y, h => by
    have ih := sLess_code f x y (by simpa using h)
    have ha : a.toNat < 256 := a.toNat_lt
    have hb : b.toNat < 256 := b.toNat_lt
    simp only [sLess, Op.bytesLess, List.length_cons, codeOf]
    have e1 : (a.toNat + 256 * codeOf x) % 256 = a.toNat := by omega
    have e2 : (b.toNat + 256 * codeOf y) % 256 = b.toNat := by omega
    have e3 : (a.toNat + 256 * codeOf x) / 256 = codeOf x := by omega
    have e4 : (b.toNat + 256 * codeOf y) / 256 = codeOf y := by omega
    rw [e1, e2, e3, e4, ih]
    congr 1
    · rw [Bool.eq_iff_iff]; simp [UInt8.lt_iff_toNat_lt]
    · congr 1
      rw [Bool.eq_iff_iff]
      simp only [Nat.beq_eq, beq_iff_eq]
      exact UInt8.toNat_inj

theorem bsize (bs : ByteArray) : bs.size = bs.data.toList.length := by rw [Array.length_toList]; rfl
theorem bappend (a b : ByteArray) : (a ++ b).data.toList = a.data.toList ++ b.data.toList := by rw [ByteArray.data_append, Array.toList_append]

section
variable {g : Gh} {P : Program} {w : World}
theorem VR.str (bs : ByteArray) (l : List UInt8) (h : bs.data.toList = l) : VR g (.s l.length (codeOf l)) (.string bs) := by
  subst h
  have := VR.s (g := g) bs
  rw [← bsize]; exact this
theorem VR.s_list {l c : Nat} {x : Value} (h : VR g (.s l c) x) : ∃ bs : ByteArray, x = .string bs ∧ bs.data.toList.length = l ∧ codeOf bs.data.toList = c := by
  obtain ⟨bs, h1, h2, h3⟩ := h.s_inv
  exact ⟨bs, h1, by rw [← h2, bsize], h3⟩

theorem eqGuard_other (op : BinOp) (h1 : op ≠ .eql) (h2 : op ≠ .neq) (t : TypeId) (x y : Operand) (a b : Value) : eqGuard op t x y a b = pure () := by
  cases op <;> first | rfl | exact absurd rfl h1 | exact absurd rfl h2

theorem intBin_sound (op : BinOp) (k : IntKind) (a b : Int) (v : V) (h : intBin op k a b = some v) (t : TypeId) (yk : IntKind) (hk : (op ≠ .shl ∧ op ≠ .shr) → yk = k) :
    ∃ x, (binOp op t (.int k a) (.int yk b)).run P w = .ok x w ∧ VR g v x := by
  cases op <;> simp only [intBin] at h
  case shl =>
    split at h
    · cases h
    · rename_i hn
      cases h
      rw [ltI_eq] at hn
      have hn' : ¬ b < 0 := by simpa using hn
      refine ⟨_, ?_, VR.mkInt _ _⟩
      simp only [binOp, Op.shift, if_neg hn', wrapq_eq]
      rfl
  case shr =>
    split at h
    · cases h
    · rename_i hn
      cases h
      rw [ltI_eq] at hn
      have hn' : ¬ b < 0 := by simpa using hn
      refine ⟨_, ?_, VR.mkInt _ _⟩
      simp only [binOp, Op.shift, if_neg hn']
      rfl
  all_goals obtain rfl : yk = k := hk (by constructor <;> simp)
  case quo =>
    split at h
    · cases h
    · rename_i hn
      cases h
      refine ⟨_, ?_, VR.mkInt _ _⟩
      simp only [binOp, Op.intDiv, if_neg hn, wrapq_eq, ne_eq, not_true, if_false]
      rfl
  case rem =>
    split at h
    · cases h
    · rename_i hn
      cases h
      refine ⟨_, ?_, VR.mkInt _ _⟩
      simp only [binOp, Op.intDiv, if_neg hn, ne_eq, not_true, if_false]
      rfl
  all_goals (simp only [Option.some.injEq] at h; subst h)
  case add => exact ⟨_, by simp only [binOp_add, Op.intArith, wrapq_eq]; rfl, VR.mkInt _ _⟩
  case sub => exact ⟨_, by simp only [binOp_sub, Op.intArith, wrapq_eq]; rfl, VR.mkInt _ _⟩
  case mul => exact ⟨_, by simp only [binOp_mul, Op.intArith, wrapq_eq]; rfl, VR.mkInt _ _⟩
  case and => exact ⟨_, by simp only [binOp_and, Op.intBits, andq_eq, slowAnd]; rfl, VR.mkInt _ _⟩
  case or => exact ⟨_, by simp only [binOp_or, Op.intBits, orq_eq, slowOr]; rfl, VR.mkInt _ _⟩
  case xor => exact ⟨_, by simp only [binOp_xor, Op.intBits, xorq_eq, slowXor]; rfl, VR.mkInt _ _⟩
  case andNot => exact ⟨_, by simp only [binOp_andNot, Op.intBits, andNotq_eq, slowAndNot]; rfl, VR.mkInt _ _⟩
  case eql => exact ⟨_, by simp only [binOp_eql, eqI_eq]; rfl, .b _⟩
  case neq => exact ⟨_, by simp only [binOp_neq, eqI_eq]; rfl, .b _⟩
  case lss => exact ⟨_, by simp only [binOp_lss, ltI_eq]; rfl, .b _⟩
  case leq => refine ⟨.bool (decide (a ≤ b)), by simp only [binOp_leq]; rfl, ?_⟩; rw [ltI_eq, show (!decide (b < a)) = decide (a ≤ b) by rw [Bool.eq_iff_iff]; simp]; exact .b _
  case gtr => exact ⟨_, by simp only [binOp_gtr, ltI_eq]; rfl, .b _⟩
  case geq => refine ⟨.bool (decide (a ≥ b)), by simp only [binOp_geq]; rfl, ?_⟩; rw [ltI_eq, show (!decide (a < b)) = decide (a ≥ b) by rw [Bool.eq_iff_iff]; simp]; exact .b _

theorem toList_eq (b : ByteArray) : b.toList = b.data.toList := by
  have key : ∀ (n i : Nat) (r : List UInt8), b.size - i = n → ByteArray.toList.loop b i r = r.reverse ++ b.data.toList.drop i := by
    intro n
    induction n with
    | zero =>
      intro i r hn
      unfold ByteArray.toList.loop
      rw [if_neg (by omega), List.drop_eq_nil_of_le (by have := bsize b; omega)]
      simp
    | succ n ih =>
      intro i r hn
      unfold ByteArray.toList.loop
      have hlt : i < b.data.toList.length := by have := bsize b; omega
      rw [if_pos (by omega), ih (i + 1) _ (by omega), List.drop_eq_getElem_cons hlt]
      simp only [List.reverse_cons, List.append_assoc, List.singleton_append, ByteArray.get!]
      congr 2
      rw [getElem!_pos b.data i (by simpa using hlt)]
      simp
  have := key b.size 0 [] (by omega)
  simpa [ByteArray.toList] using this

theorem strBin_sound (op : BinOp) (l a m b : Nat) (v : V) (h : strBin op l a m b = some v) (t : TypeId) {x y : Value} (hx : VR g (.s l a) x) (hy : VR g (.s m b) y) :
    ∃ z, (binOp op t x y).run P w = .ok z w ∧ VR g v z := by
  obtain ⟨bx, rfl, hlx, rfl⟩ := hx.s_list
  obtain ⟨yb, rfl, hly, rfl⟩ := hy.s_list
  subst hlx hly
  have e : ∀ op, binOp op t (.string bx) (.string yb) = Op.stringOp op bx yb := by intro op; cases op <;> rfl
  rw [e]
  have hb : ∀ b : Bool, VR g (.b b) (.bool b) := fun b => .b b
  cases op <;> simp only [strBin] at h <;> first | (cases h; done) | skip
  case add =>
    split at h <;> cases h
    rename_i hlen
    have hs : ¬ (((bx.size + yb.size : Nat) : Int) > IntKind.i64.max) := by
      rw [bsize, bsize, IntKind.max_i64]
      omega
    refine ⟨.string (bx ++ yb), by simp only [Op.stringOp]; rw [if_neg hs]; rfl, ?_⟩
    have := VR.str (g := g) (bx ++ yb) _ (bappend bx yb)
    rw [List.length_append, codeOf_append] at this
    have e2 : Nat.shiftLeft (codeOf yb.data.toList) (8 * bx.data.toList.length) = 256 ^ bx.data.toList.length * codeOf yb.data.toList := by
      show codeOf yb.data.toList <<< (8 * bx.data.toList.length) = _
      rw [Nat.shiftLeft_eq, Nat.pow_mul, Nat.mul_comm]
    rw [e2]; exact this
  all_goals (simp only [Option.some.injEq] at h; subst h)
  all_goals
    simp only [Op.stringOp, toList_eq]
    try rw [← strEq_code]
    try rw [← sLess_code (bx.data.toList.length + 1) bx.data.toList yb.data.toList (by omega)]
    exact ⟨_, rfl, hb _⟩
end

section ops
variable {C : Fix} {Q : Nat → CC → Code → Prop} {g : Gh} {h : H} {w : World} {rs : RF} {ρ : Operand → Value}
variable (hT : TTok C.P C.tt) (r : Rel Q g h w) (hρ : ∀ x y, cX C x = some y → VR g (y.val rs) (ρ x))
include hρ r

theorem snd_bin {op : BinOp} {t yt : TypeId} {x y : Operand} {x' y' : X} (hx : cX C x = some x') (hy : cX C y = some y') {o : Oper} (ho : o.op = .binOp op t x y yt) {or : OR} (hs : opSem (.bin op x' y') rs h = some or)
    : OpOK C.P Q g h w (execOp ρ o) or := by
  have hvx := hρ _ _ hx
  have hvy := hρ _ _ hy
  simp only [opSem, ret] at hs
  split at hs
  · rename_i v hv
    cases hs
    suffices hsuff : ∃ z, (binOp op t (ρ x) (ρ y)).run C.P w = .ok z w ∧ VR g v z ∧ eqGuard op t x y (ρ x) (ρ y) = pure () by
      obtain ⟨z, hz, hr, hg⟩ := hsuff
      refine OpOK.pure r ?_ hr
      simp [execOp, ho, hg, hz]
    unfold binV at hv
    split at hv
    · rename_i a b ea eb
      rw [ea] at hvx; rw [eb] at hvy
      have e1 := hvx.i_inv; have e2 := hvy.i_inv
      rw [e1, e2]
      obtain ⟨z, hz, hr⟩ := intBin_sound (g := g) (P := C.P) (w := w) op .i64 a b v hv t .i64 (fun _ => rfl)
      exact ⟨z, hz, hr, eqGuard_at_int _ _ _ _ _ _ _⟩
    · rename_i k a j b ea eb
      rw [ea] at hvx; rw [eb] at hvy
      have e1 := hvx.u_inv; have e2 := hvy.u_inv
      rw [e1, e2]
      split at hv
      · obtain ⟨z, hz, hr⟩ := intBin_sound (g := g) (P := C.P) (w := w) _ k a b v hv t j (fun hh => absurd rfl hh.1)
        exact ⟨z, hz, hr, eqGuard_at_int _ _ _ _ _ _ _⟩
      · obtain ⟨z, hz, hr⟩ := intBin_sound (g := g) (P := C.P) (w := w) _ k a b v hv t j (fun hh => absurd rfl hh.2)
        exact ⟨z, hz, hr, eqGuard_at_int _ _ _ _ _ _ _⟩
      · split at hv
        · rename_i hkj
          obtain ⟨z, hz, hr⟩ := intBin_sound (g := g) (P := C.P) (w := w) op k a b v hv t j (fun _ => hkj.symm)
          exact ⟨z, hz, hr, eqGuard_at_int _ _ _ _ _ _ _⟩
        · cases hv
    · rename_i k a b ea eb
      rw [ea] at hvx; rw [eb] at hvy
      have e1 := hvx.u_inv; have e2 := hvy.i_inv
      rw [e1, e2]
      split at hv
      · obtain ⟨z, hz, hr⟩ := intBin_sound (g := g) (P := C.P) (w := w) _ k a b v hv t .i64 (fun hh => absurd rfl hh.1)
        exact ⟨z, hz, hr, eqGuard_at_int _ _ _ _ _ _ _⟩
      · obtain ⟨z, hz, hr⟩ := intBin_sound (g := g) (P := C.P) (w := w) _ k a b v hv t .i64 (fun hh => absurd rfl hh.2)
        exact ⟨z, hz, hr, eqGuard_at_int _ _ _ _ _ _ _⟩
      · cases hv
    · rename_i a k b ea eb
      rw [ea] at hvx; rw [eb] at hvy
      have e1 := hvx.i_inv; have e2 := hvy.u_inv
      rw [e1, e2]
      split at hv
      · obtain ⟨z, hz, hr⟩ := intBin_sound (g := g) (P := C.P) (w := w) _ .i64 a b v hv t k (fun hh => absurd rfl hh.1)
        exact ⟨z, hz, hr, eqGuard_at_int _ _ _ _ _ _ _⟩
      · obtain ⟨z, hz, hr⟩ := intBin_sound (g := g) (P := C.P) (w := w) _ .i64 a b v hv t k (fun hh => absurd rfl hh.2)
        exact ⟨z, hz, hr, eqGuard_at_int _ _ _ _ _ _ _⟩
      · cases hv
    · rename_i l a m b ea eb
      rw [ea] at hvx; rw [eb] at hvy
      obtain ⟨z, hz, hr⟩ := strBin_sound (g := g) (P := C.P) (w := w) op l a m b v hv t hvx hvy
      obtain ⟨bs, e1, _, _⟩ := hvx.s_inv
      refine ⟨z, hz, hr, ?_⟩
      rw [e1]; exact eqGuard_at_string _ _ _ _ _ _
    · cases hv
  · cases hs
theorem snd_un {op : UnOp} {t : TypeId} {x : Operand} {x' : X} (hx : cX C x = some x') {o : Oper} (ho : o.op = .unOp op t x) {or : OR} (hs : opSem (.un op x') rs h = some or) : OpOK C.P Q g h w (execOp ρ o) or := by
  have hvx := hρ _ _ hx
  simp only [opSem, ret] at hs
  split at hs
  · rename_i v hv
    cases hs
    suffices hsuff : ∃ z, (Op.unary op (ρ x)).run C.P w = .ok z w ∧ VR g v z by
      obtain ⟨z, hz, hr⟩ := hsuff
      refine OpOK.pure r ?_ hr
      simp [execOp, ho, hz]
    unfold unV at hv
    split at hv <;> (try (cases hv; done)) <;> (rename_i e; rw [e] at hvx)
    · cases hv; rw [hvx.b_inv]; exact ⟨_, rfl, .b _⟩
    · cases hv; rw [hvx.i_inv]; exact ⟨_, by simp only [Op.unary, Op.intArith]; rfl, by rw [wrapq_eq]; exact .i _⟩
    · cases hv; rw [hvx.u_inv]; exact ⟨_, by simp only [Op.unary, Op.intArith]; rfl, by rw [wrapq_eq]; exact .u _ _⟩
    · cases hv; rw [hvx.i_inv]; exact ⟨_, by simp only [Op.unary, Op.intBits]; rfl, by rw [xorq_eq]; exact .i _⟩
    · cases hv; rw [hvx.u_inv]; exact ⟨_, by simp only [Op.unary, Op.intBits]; rfl, by rw [xorq_eq]; exact VR.mkInt _ _⟩
  · cases hs
theorem snd_cvInt (hT : TTok C.P C.tt) {s d : TypeId} {ts td : TI} (hts : C.tt s = some ts) (htd : C.tt d = some td) {j k : IntKind} (h1 : ts.d = .int j) (h2 : td.d = .int k) {x : Operand} {x' : X} (hx : cX C x = some x') {o : Oper} (ho : o.op = .convert s d x) {or : OR} (hs : opSem (.cvInt k x') rs h = some or) : OpOK C.P Q g h w (execOp ρ o) or := by
  have hvx := hρ _ _ hx
  simp only [opSem] at hs
  split at hs <;> first | (cases hs; done) | skip
  all_goals
    rename_i e
    rw [e] at hvx
    cases hs
    refine OpOK.pure r ?_ (VR.mkInt _ _)
    first | rw [wrapq_eq] | skip
    simp only [execOp, ho, convert, Sem.run_bind, run_under hT hts, run_under hT htd, Result.andThen_ok, h1, h2]
    first | rw [hvx.i_inv] | rw [hvx.u_inv]
    simp [Conv.intToInt, wrapq_eq]
end ops
end Ax

/- The abstract executor, part 8: the operations are what their compiled forms say (memory, places, composites). -/
namespace Ax
open Go

theorem zipIdx_foldl (vs : List Value) (off : Nat) : ∀ (k : Nat) (arr : Array Value), off + k + vs.length ≤ arr.size →
    ((vs.zipIdx k).foldl (fun cs (x : Value × Nat) => cs.setIfInBounds (off + x.2) x.1) arr).toList = arr.toList.take (off + k) ++ vs ++ arr.toList.drop (off + k + vs.length) := by
  induction vs with
  | nil => intro k arr h; simp
  | cons v vs ih =>
    intro k arr h
    simp only [List.length_cons] at h
    simp only [List.zipIdx_cons, List.foldl_cons]
    rw [ih (k + 1) _ (by simp; omega)]
    rw [Array.setIfInBounds_def, dif_pos (by omega)]
    simp only [Array.toList_set, List.length_cons]
    rw [show off + (k + 1) = off + k + 1 by omega, List.drop_set, if_pos (by omega)]
    rw [List.take_succ_eq_append_getElem (by simp; omega)]
    simp only [List.getElem_set_self, List.append_assoc, List.singleton_append]
    rw [List.take_set, List.set_eq_of_length_le (by simp; omega)]
    rw [show off + k + 1 + vs.length = off + k + (vs.length + 1) by omega]
theorem fill_cells (vs : List Value) (off : Nat) (arr : Array Value) (h : off + vs.length ≤ arr.size) :
    (vs.toArray.zipIdx.foldl (fun cs (x : Value × Nat) => cs.setIfInBounds (off + x.2) x.1) arr).toList = arr.toList.take off ++ vs ++ arr.toList.drop (off + vs.length) := by
  rw [← Array.foldl_toList, Array.toList_zipIdx]
  exact zipIdx_foldl vs off 0 arr (by simpa using h)

inductive PartsR (g : Gh) (place : Nat → Option (Nat × Nat)) : List (Nat × Value) → List (Nat × Nat × V) → Prop
  | nil : PartsR g place [] []
  | cons {i off sz : Nat} {x : Value} {v : V} {ps : List (Nat × Value)} {qs : List (Nat × Nat × V)} (hp : place i = some (off, sz)) (hv : VR g v x) (h : PartsR g place ps qs) : PartsR g place ((i, x) :: ps) ((off, sz, v) :: qs)

theorem fill_sound {g : Gh} {place : Nat → Option (Nat × Nat)} : ∀ {ps : List (Nat × Value)} {qs : List (Nat × Nat × V)} {cs : List V} {arr : Array Value} {l : List V},
    PartsR g place ps qs → VRs g cs arr.toList → fillL cs qs = some l → ∃ out, Instr.fill place arr ps = some out ∧ VRs g l out.toList
  | _, _, cs, arr, l, .nil, hc, hf => by
    simp only [fillL, Option.some.injEq] at hf
    subst hf
    exact ⟨arr, rfl, hc⟩
  | _, _, cs, arr, l, .cons (off := off) (sz := sz) (x := x) (v := v) hpl hv hps, hc, hf => by
    simp only [fillL] at hf
    split at hf
    · rename_i hcond
      simp only [Bool.and_eq_true, decide_eq_true_eq] at hcond
      obtain ⟨⟨hsz, hle⟩, hlf⟩ := hcond
      have hlen := hc.length
      simp only [Array.length_toList] at hlen
      have hcv := hv.cells hlf
      have hl2 := hcv.length
      simp only [Array.length_toList] at hl2
      simp only [Instr.fill, hpl]
      rw [if_neg (by simp; omega)]
      have hfc := fill_cells x.cells.toList off arr (by simp; omega)
      simp only [Array.toArray_toList, Array.length_toList] at hfc
      refine fill_sound hps ?_ hf
      rw [hfc]
      unfold splice
      rw [hl2]
      exact ((hc.take off).append hcv).append (hc.drop _)
    · cases hf

section ops
variable {C : Fix} {Q : Nat → CC → Code → Prop} {g : Gh} {h : H} {w : World} {rs : RF} {ρ : Operand → Value}
variable (hT : TTok C.P C.tt) (r : Rel Q g h w) (hρ : ∀ x y, cX C x = some y → VR g (y.val rs) (ρ x))

theorem fresh_next {g : Gh} {h : H} {b : Nat} (hf : Fresh g h.next b) (hb : h.next < b) : g.φ h.next = none := hf h.next (Nat.le_refl _) hb

include r in
/-- A new row, as an operation leaves it. -/
theorem new_row (t es : Nat) (vs : List V) (xs : List Value) (hv : VRs g vs xs) (hf : g.φ h.next = none) :
    ∃ g', Rel Q g' (newCells h t es vs true) (w.alloc (.cells xs.toArray t)) ∧ Ext g h w g' (newCells h t es vs true) (w.alloc (.cells xs.toArray t)) ∧
      g'.φ h.next = some ⟨w.heap.size, 0, xs.length, es⟩ ∧ g.le g' := by
  have := newCells_sound r hf t es vs xs hv [] true (fun _ => rfl) (0, 0) (.inl (Nat.le_refl _))
  simp only [List.append_nil] at this
  exact ⟨_, this.1, this.2, by simp, this.2.le⟩

include hT r in
theorem snd_alloc {e : Nat} {ti : TI} (hti : C.tt e = some ti) {z : List V} (hz : zeroCells ti = some z) {o : Oper} (ho : o.op = .alloc e) {or : OR} (hs : opSem (.alloc e z) rs h = some or) : OpOK C.P Q g h w (execOp ρ o) or := by
  simp only [opSem, Option.some.injEq] at hs
  subst hs
  intro hf
  obtain ⟨zv, hzv, hr, hn, hl⟩ := zeroCells_VRs g hz
  obtain ⟨g', h1, h2, h3, h4⟩ := new_row r e (Nat.max 1 z.length) z zv.cells.toList hr (fresh_next hf (by simp [newCells]))
  refine ⟨g', _, .pointer (some ⟨w.heap.size, 0 + 0, none⟩), _, ?_, .inl rfl, .ptr h3, h1, h2⟩
  simp only [execOp, ho, Instr.alloc, Sem.run_bind, run_zero hT hti hzv, Result.andThen_ok, newVar, newRow, run_newObj, Sem.run_pure]
  simp

include hρ r in
theorem snd_box {e : Nat} {x : Operand} {y : X} (hx : cX C x = some y) {o : Oper} (ho : o.op = .box e x) {or : OR} (hs : opSem (.box e y) rs h = some or) : OpOK C.P Q g h w (execOp ρ o) or := by
  simp only [opSem] at hs
  split at hs
  · rename_i hl
    cases hs
    intro hf
    have hr := (hρ _ _ hx).cells hl
    obtain ⟨g', h1, h2, h3, h4⟩ := new_row r e (Nat.max 1 (y.val rs).cells.length) _ _ hr (fresh_next hf (by simp [newCells]))
    refine ⟨g', _, .pointer (some ⟨w.heap.size, 0 + 0, none⟩), _, ?_, .inl rfl, .ptr h3, h1, h2⟩
    simp only [execOp, ho, Instr.box, Sem.run_bind, Result.andThen_ok, newVar, newRow, run_newObj, Sem.run_pure]
    simp
  · cases hs

theorem cParts_R (hρ : ∀ x y, cX C x = some y → VR g (y.val rs) (ρ x)) {place : Nat → Option (Nat × Nat)} : ∀ {l : List (Nat × Operand)} {ps : List (Nat × Nat × X)}, cParts C place l = some ps → PartsR g place (l.map fun (i, x) => (i, ρ x)) (parts rs ps)
  | [], ps, h => by simp [cParts] at h; subst h; exact .nil
  | (i, x) :: l, ps, h => by
    simp only [cParts] at h
    split at h
    · rename_i o n y l' hp hy hl
      cases h
      exact .cons hp (hρ _ _ hy) (cParts_R hρ hl)
    · cases h

theorem placesOf_info (hT : TTok C.P C.tt) : ∀ {fs : List Field} {pl : List (Nat × Nat)}, placesOf C fs = some pl → fs.mapM (fun f => (C.P.info? f.type).map fun i => (f.offset, i.size)) = some pl
  | [], pl, h => by simp [placesOf] at h; subst h; rfl
  | f :: fs, pl, h => by
    simp only [placesOf] at h
    split at h
    · rename_i ti l hti hl
      cases h
      obtain ⟨i, hi, h1, _⟩ := (hT _ _ hti).2
      simp [List.mapM_cons, hi, h1, placesOf_info hT hl]
    · cases h

include hT r hρ in
theorem snd_buildS {t : Nat} {ti : TI} (hti : C.tt t = some ti) {z : List V} (hz : zeroCells ti = some z) {fs : Array Field} (hd : ti.d = .struct fs) {pl : List (Nat × Nat)} (hpl : placesOf C fs.toList = some pl)
    {ps : Array (Nat × Operand)} {l : List (Nat × Nat × X)} (hl : cParts C (pl[·]?) ps.toList = some l) {o : Oper} (ho : o.op = .build t ps) {or : OR} (hs : opSem (.build z l) rs h = some or) : OpOK C.P Q g h w (execOp ρ o) or := by
  simp only [opSem, ret] at hs
  obtain ⟨zv, hzv, hr, hn, hlf⟩ := zeroCells_VRs g hz
  cases hfl : fillL z (parts rs l) with
  | none => rw [hfl] at hs; cases hs
  | some cs =>
    rw [hfl] at hs
    cases hs
    obtain ⟨out, hout, hro⟩ := fill_sound (cParts_R hρ hl) (arr := zv.cells) hr hfl
    obtain ⟨it, hit, h1, h2, h3⟩ := (hT _ _ hti).2
    refine OpOK.pure (x := .agg out) r ?_ (by have := VR.agg hro; simpa using this)
    have hb : C.P.built t (ps.map fun (i, x) => (i, ρ x)).toList = some out := by
      unfold Program.built
      rw [hit, (hT _ _ hti).1, hd]
      simp only [h3, hzv, placesOf_info hT hpl]
      have : (fun x : Nat => pl.toArray[x]?) = (fun x : Nat => pl[x]?) := by funext x; simp
      rw [this]
      simpa using hout
    simp only [execOp, ho, Sem.run_bind, run_build w t _ out hb, Result.andThen_ok]
    rfl
include hT r hρ in
theorem snd_buildA {t : Nat} {ti : TI} (hti : C.tt t = some ti) {z : List V} (hz : zeroCells ti = some z) {n e : Nat} (hd : ti.d = .array n e) {te : TI} (hte : C.tt e = some te)
    {ps : Array (Nat × Operand)} {l : List (Nat × Nat × X)} (hl : cParts C (fun i => some (i * te.n, te.n)) ps.toList = some l) {o : Oper} (ho : o.op = .build t ps) {or : OR} (hs : opSem (.build z l) rs h = some or) : OpOK C.P Q g h w (execOp ρ o) or := by
  simp only [opSem, ret] at hs
  obtain ⟨zv, hzv, hr, hn, hlf⟩ := zeroCells_VRs g hz
  cases hfl : fillL z (parts rs l) with
  | none => rw [hfl] at hs; cases hs
  | some cs =>
    rw [hfl] at hs
    cases hs
    obtain ⟨out, hout, hro⟩ := fill_sound (cParts_R hρ hl) (arr := zv.cells) hr hfl
    obtain ⟨it, hit, h1, h2, h3⟩ := (hT _ _ hti).2
    obtain ⟨ie, hie, k1, _⟩ := (hT _ _ hte).2
    refine OpOK.pure (x := .agg out) r ?_ (by have := VR.agg hro; simpa using this)
    have hb : C.P.built t (ps.map fun (i, x) => (i, ρ x)).toList = some out := by
      unfold Program.built
      rw [hit, (hT _ _ hti).1, hd]
      simp only [h3, hzv, hie, k1]
      simpa using hout
    simp only [execOp, ho, Sem.run_bind, run_build w t _ out hb, Result.andThen_ok]
    rfl

theorem range_mod_reps (z : Array Value) (s : Nat) (hs : z.size = s) (h0 : 0 < s) (n : Nat) : ((Array.range (n * s)).map (fun i => z[i % z.size]!)).toList = (List.replicate n z.toList).flatten := by
  subst hs
  induction n with
  | zero => simp
  | succ n ih =>
    rw [List.replicate_succ', List.flatten_append, ← ih]
    simp only [Array.toList_map, Array.toList_range, List.flatten_cons, List.flatten_nil, List.append_nil]
    rw [Nat.add_mul, Nat.one_mul, List.range_add, List.map_append]
    congr 1
    rw [List.map_map]
    apply List.ext_getElem
    · simp
    · intro i h1 h2
      simp only [List.length_map, List.length_range] at h1
      simp only [List.getElem_map, List.getElem_range, Function.comp]
      rw [Nat.mul_add_mod_self_right, Nat.mod_eq_of_lt h1, getElem!_pos z i h1]
      simp

include hT r hρ in
theorem snd_bslice {t : Nat} {ti : TI} (hti : C.tt t = some ti) {e : Nat} (hd : ti.d = .slice e) {te : TI} (hte : C.tt e = some te) {z : List V} (hz : zeroCells te = some z)
    {len : Nat} {ps : Array (Nat × Operand)} {l : List (Nat × Nat × X)} (hl : cParts C (fun i => some (i * te.n, te.n)) ps.toList = some l) (hle : len * te.n ≤ 65536) (hne : te.n ≠ 0) {o : Oper} (ho : o.op = .buildSlice t len ps) {or : OR}
    (hs : opSem (.bslice e te.n len z l) rs h = some or) : OpOK C.P Q g h w (execOp ρ o) or := by
  simp only [opSem] at hs
  obtain ⟨zv, hzv, hr, hn, hlf⟩ := zeroCells_VRs g hz
  have hzs : zv.cells.size = te.n := by have := hr.length; simp only [Array.length_toList] at this; omega
  split at hs
  · rename_i cs hfl
    split at hs
    · rename_i hlc
      cases hs
      intro hf
      have hcs : VRs g (reps len z) ((Array.range (len * te.n)).map (fun i => zv.cells[i % zv.cells.size]!)).toList := by
        rw [range_mod_reps zv.cells te.n hzs (by omega) len]
        exact hr.reps len
      obtain ⟨out, hout, hro⟩ := fill_sound (cParts_R hρ hl) (arr := (Array.range (len * te.n)).map (fun i => zv.cells[i % zv.cells.size]!)) hcs hfl
      obtain ⟨g', h1, h2, h3, h4⟩ := new_row r e te.n cs out.toList hro (fresh_next hf (by simp [newCells]))
      have hosz : out.toList.length = len * te.n := by
        have a1 := hro.length
        have key : ∀ (ps : List (Nat × Nat × V)) (a b : List V), fillL a ps = some b → b.length = a.length := by
          intro ps
          induction ps with
          | nil => intro a b hab; simp only [fillL, Option.some.injEq] at hab; rw [hab]
          | cons p ps ih =>
            intro a b hab
            obtain ⟨o', s', v'⟩ := p
            simp only [fillL] at hab
            split at hab
            · rename_i hc
              simp only [Bool.and_eq_true, decide_eq_true_eq] at hc
              rw [ih _ _ hab]
              simp only [splice, List.length_append, List.length_take, List.length_drop]
              omega
            · cases hab
        have a2 := key _ _ _ hfl
        have a3 := hcs.length
        simp at a3
        omega
      refine ⟨g', _, .slice (some ⟨w.heap.size, 0 + 0, none⟩) len len, _, ?_, .inl rfl, .sl h3 (Nat.le_refl _) (fun _ => rfl) (fun hc => by simp at hc) (fun cp hc => by omega), h1, h2⟩
      have h24 : ¬ (len * te.n > 2 ^ 24) := by omega
      simp only [execOp, ho, Instr.buildSlice, Sem.run_bind, run_under hT hti, hd, run_siz hT hte, Result.andThen_ok, if_neg h24]
      by_cases h0 : len * te.n = 0
      · have : len = 0 := by rcases Nat.mul_eq_zero.1 h0 with h | h <;> omega
        subst this
        simp only [Nat.zero_mul, if_true, Sem.run_pure, Array.range_zero', List.map_toArray]
        simp only [Nat.zero_mul, Array.range_zero', Array.map_empty] at hout
        have e1 : (ps.map fun (x : Nat × Operand) => (x.1, ρ x.2)).toList = ps.toList.map fun (x : Nat × Operand) => (x.1, ρ x.2) := by simp
        simp [hout, newRow]
      · simp only [if_neg h0, Sem.run_bind, run_zero hT hte hzv, Result.andThen_ok, Sem.run_pure]
        have e1 : (ps.map fun (x : Nat × Operand) => (x.1, ρ x.2)).toList = ps.toList.map fun (x : Nat × Operand) => (x.1, ρ x.2) := by simp
        simp [hout, newRow]
    · cases hs
  · cases hs

include hT r hρ in
theorem snd_ld {t : Nat} {ti : TI} (hti : C.tt t = some ti) (hd : TypeDesc.isAggB ti.d = false) {x : Operand} {y : X} (hx : cX C x = some y) {o : Oper} (ho : o.op = .load t x) {or : OR} (hs : opSem (.ld y) rs h = some or) : OpOK C.P Q g h w (execOp ρ o) or := by
  simp only [opSem] at hs
  split at hs
  · rename_i v hv
    cases hs
    obtain ⟨a, xs, hxa, hlen, hc, hr⟩ := ldC_sound r hv (hρ _ _ hx)
    cases hr with
    | cons hvx hn =>
      rename_i x0 xs'
      refine OpOK.pure r ?_ hvx
      have := hc 0 x0 rfl
      rw [Addr.add_zero'] at this
      simp [execOp, ho, Instr.loadAt, Instr.sureAddr, hxa, loadVar, run_isAgg hT hti, hd, this]
  · cases hs
include hT r hρ in
theorem snd_lda {t : Nat} {ti : TI} (hti : C.tt t = some ti) (hd : TypeDesc.isAggB ti.d = true) {x : Operand} {y : X} (hx : cX C x = some y) {o : Oper} (ho : o.op = .load t x) {or : OR} (hs : opSem (.lda ti.n y) rs h = some or) : OpOK C.P Q g h w (execOp ρ o) or := by
  simp only [opSem, ret] at hs
  cases hv : ldC h (y.val rs) ti.n with
  | none => rw [hv] at hs; cases hs
  | some vs =>
    rw [hv] at hs
    cases hs
    obtain ⟨a, xs, hxa, hlen, hc, hr⟩ := ldC_sound r hv (hρ _ _ hx)
    refine OpOK.pure r ?_ (.agg hr)
    have := run_loadCells_list (P := C.P) w a xs hc
    rw [hlen] at this
    simp [execOp, ho, Instr.loadAt, Instr.sureAddr, hxa, loadVar, run_isAgg hT hti, hd, run_siz hT hti, this]
include hT r hρ in
theorem snd_st {t : Nat} {ti : TI} (hti : C.tt t = some ti) {x y : Operand} {x' y' : X} (hx : cX C x = some x') (hy : cX C y = some y') {o : Oper} (ho : o.op = .store t x y) {or : OR} (hs : opSem (.st ti.n x' y') rs h = some or) : OpOK C.P Q g h w (execOp ρ o) or := by
  simp only [opSem] at hs
  split at hs
  · rename_i hn
    split at hs
    · rename_i h' hst
      cases hs
      have hlf : (y'.val rs).cells.all V.leaf = true := by
        unfold stC at hst
        split at hst <;> (try cases hst)
        split at hst <;> (try cases hst)
        split at hst <;> (try cases hst)
        rename_i hc
        simp only [Bool.and_eq_true] at hc
        exact hc.2
      have hcs := (hρ _ _ hy).cells hlf
      obtain ⟨a, w', hxa, hrun, hr, he, _⟩ := stC_sound (P := C.P) r hst (hρ _ _ hx) hcs
      refine OpOK.skip ?_ hr he
      have hlen := hcs.length
      simp only [Array.length_toList] at hlen
      simp [execOp, ho, Instr.storeAt, Instr.sureAddr, hxa, storeVar, run_siz hT hti, show (ρ y).cells.size = ti.n by omega, hrun]
    · cases hs
  · cases hs
include hT r hρ in
theorem snd_fadr {t : Nat} {ti : TI} (hti : C.tt t = some ti) {fs : Array Field} (hd : ti.d = .struct fs) {k : Nat} {f : Field} (hk : fs[k]? = some f) {tf : TI} (htf : C.tt f.type = some tf) (hne : tf.n ≠ 0) {x : Operand} {y : X} (hx : cX C x = some y)
    {o : Oper} (ho : o.op = .fieldAddr t x k) {or : OR} (hs : opSem (.fadr f.offset y) rs h = some or) : OpOK C.P Q g h w (execOp ρ o) or := by
  have hv := hρ _ _ hx
  have hrun : ∀ a, ρ x = .pointer (some a) → (execOp ρ o).run C.P w = .ok (.value (.pointer (some (a.add f.offset)))) w := by
    intro a ha
    simp [execOp, ho, Instr.fieldAt, run_under hT hti, hd, hk, Instr.sureAddr, ha, fieldPlace, run_siz hT htf, hne]
  simp only [opSem] at hs
  split at hs
  · rename_i id off e
    cases hs
    rw [e] at hv
    obtain ⟨en, hen, hxe⟩ := hv.ptr_inv
    refine OpOK.pure r (hrun _ hxe) ?_
    rw [Addr.add_lit, Nat.add_assoc]
    exact .ptr hen
  · rename_i cs e
    cases hs
    rw [e] at hv
    obtain ⟨k', o', arr, hxe, hF, hc⟩ := hv.fp_inv
    refine OpOK.pure r (hrun _ hxe) ?_
    rw [Addr.add_lit]
    refine .fp hF ?_
    have h2 := hc.drop f.offset
    have hl := hc.length
    simp only [List.length_take, List.length_drop] at hl
    rw [List.drop_take, List.drop_drop] at h2
    rw [List.length_drop]
    exact h2
  · cases hs
include hT r hρ in
theorem snd_fld {t : Nat} {ti : TI} (hti : C.tt t = some ti) {fs : Array Field} (hd : ti.d = .struct fs) {k : Nat} {f : Field} (hk : fs[k]? = some f) {tf : TI} (htf : C.tt f.type = some tf) {x : Operand} {y : X} (hx : cX C x = some y)
    {o : Oper} (ho : o.op = .field t x k) {or : OR} (hs : opSem (.fld f.offset (if TypeDesc.isAggB tf.d then some tf.n else none) y) rs h = some or) : OpOK C.P Q g h w (execOp ρ o) or := by
  have hv := hρ _ _ hx
  simp only [opSem] at hs
  split at hs
  · rename_i cs e
    rw [e] at hv
    obtain ⟨xs, hxs, hr⟩ := hv.agg_inv
    by_cases hg : TypeDesc.isAggB tf.d = true
    · simp only [hg, if_true] at hs
      split at hs
      · rename_i hle
        cases hs
        refine OpOK.pure r (x := .agg ((xs.drop f.offset).take tf.n).toArray) ?_ (.agg ((hr.drop _).take _))
        have e2 : xs.toArray.extract f.offset (f.offset + tf.n) = ((xs.drop f.offset).take tf.n).toArray := by
          apply Array.ext'; simp [List.extract_eq_take_drop]
        simp [execOp, ho, Instr.field, run_under hT hti, hd, hk, hxs, asAgg, part, run_isAgg hT htf, hg, run_siz hT htf]
      · cases hs
    · simp only [hg, Bool.false_eq_true, if_false, ret] at hs
      split at hs
      · rename_i v hvc
        cases hs
        obtain ⟨z, hz, hzr⟩ := hr.get _ _ hvc
        refine OpOK.pure r ?_ hzr
        simp [execOp, ho, Instr.field, run_under hT hti, hd, hk, hxs, asAgg, part, run_isAgg hT htf, hg, hz]
      · cases hs
  · cases hs

theorem natI_inv {v : V} {n : Nat} {x : Value} (hn : natI v = some n) (hv : VR g v x) : ∃ k, x = .int k (Int.ofNat n) := by
  unfold natI at hn
  split at hn <;> first
    | (cases hn; done)
    | (cases hn; first | exact ⟨_, hv.i_inv⟩ | exact ⟨_, hv.u_inv⟩)

include hT r hρ in
theorem snd_ixArr {t : Nat} {ti : TI} (hti : C.tt t = some ti) {n e : Nat} (hd : ti.d = .array n e) {te : TI} (hte : C.tt e = some te) {x i : Operand} {y j : X} (hx : cX C x = some y) (hi : cX C i = some j)
    {o : Oper} (ho : o.op = .indexAddr t x i) {or : OR} (hs : opSem (.ixArr n te.n y j) rs h = some or) : OpOK C.P Q g h w (execOp ρ o) or := by
  have hv := hρ _ _ hx
  have hvi := hρ _ _ hi
  have hrun : ∀ (a : Addr) (k : IntKind) (m : Nat), ρ x = .pointer (some a) → ρ i = .int k (Int.ofNat m) → m < n → (execOp ρ o).run C.P w = .ok (.value (.pointer (some (a.add (m * te.n))))) w := by
    intro a k m ha hm hlt
    have hc : (0 : Int) ≤ Int.ofNat m ∧ Int.ofNat m < (n : Int) := ⟨by simp, by simpa using hlt⟩
    simp only [execOp, ho, Instr.indexAt, asIntOf, hm, ha, Sem.run_bind, Sem.run_pure, Result.andThen_ok, run_under hT hti, hd, Instr.sureAddr, if_pos hc, run_siz hT hte]
    rfl
  simp only [opSem] at hs
  split at hs
  · rename_i id off m e1 e2
    split at hs
    · rename_i hlt
      cases hs
      rw [e1] at hv
      obtain ⟨en, hen, hxe⟩ := hv.ptr_inv
      obtain ⟨k, hk⟩ := natI_inv e2 hvi
      refine OpOK.pure r (hrun _ k m hxe hk hlt) ?_
      rw [Addr.add_lit, Nat.add_assoc]
      exact .ptr hen
    · cases hs
  · rename_i cs m e1 e2
    split at hs
    · rename_i hlt
      cases hs
      rw [e1] at hv
      obtain ⟨k', o', arr, hxe, hF, hc⟩ := hv.fp_inv
      obtain ⟨k, hk⟩ := natI_inv e2 hvi
      refine OpOK.pure r (hrun _ k m hxe hk hlt) ?_
      rw [Addr.add_lit]
      refine .fp hF ?_
      have h2 := hc.drop (m * te.n)
      rw [List.drop_take, List.drop_drop] at h2
      rw [List.length_drop]
      exact h2
    · cases hs
  · cases hs
theorem VR.sl_inv {id off len cap : Nat} {x : Value} (hx : VR g (.sl id off len cap) x) : ∃ e a c, g.φ id = some e ∧ x = .slice (some ⟨e.blk, a, none⟩) len c ∧ len ≤ c ∧ (c ≠ 0 → a = e.off + off) ∧ (cap = 0 → e.off + off + c * e.es = e.size) ∧ (∀ cp, cap = cp + 1 → c = cp) := by
  cases hx with | sl h hl hx ho hc => exact ⟨_, _, _, h, rfl, hl, hx, ho, hc⟩
theorem VR.fs_inv {cs : List V} {len cap : Nat} {x : Value} (hx : VR g (.fs cs len cap) x) : ∃ k o arr c, g.F k = some arr ∧ x = .slice (some ⟨k, o, none⟩) len c ∧ len ≤ c ∧ (c ≠ 0 → VRs g cs ((arr.toList.drop o).take cs.length)) ∧ (∀ cp, cap = cp + 1 → c = cp) := by
  cases hx with | fs h hl hx hc => exact ⟨_, _, _, _, h, rfl, hl, hx, hc⟩
include hT r hρ in
theorem snd_ixSl {t : Nat} {ti : TI} (hti : C.tt t = some ti) {e : Nat} (hd : ti.d = .slice e) {te : TI} (hte : C.tt e = some te) {x i : Operand} {y j : X} (hx : cX C x = some y) (hi : cX C i = some j)
    {o : Oper} (ho : o.op = .indexAddr t x i) {or : OR} (hs : opSem (.ixSl te.n y j) rs h = some or) : OpOK C.P Q g h w (execOp ρ o) or := by
  have hv := hρ _ _ hx
  have hvi := hρ _ _ hi
  have hrun : ∀ (a : Addr) (l c : Nat) (k : IntKind) (m : Nat), ρ x = .slice (some a) l c → ρ i = .int k (Int.ofNat m) → m < l → (execOp ρ o).run C.P w = .ok (.value (.pointer (some (a.add (m * te.n))))) w := by
    intro a l c k m ha hm hlt
    have hc : (0 : Int) ≤ Int.ofNat m ∧ Int.ofNat m < (l : Int) := ⟨by simp, by simpa using hlt⟩
    simp only [execOp, ho, Instr.indexAt, asIntOf, hm, ha, Sem.run_bind, Sem.run_pure, Result.andThen_ok, run_under hT hti, hd, if_pos hc, run_siz hT hte]
    rfl
  simp only [opSem] at hs
  split at hs
  · rename_i id off len cap m e1 e2
    split at hs
    · rename_i hlt
      cases hs
      rw [e1] at hv
      obtain ⟨en, a, c, hen, hxe, hlc, ha, _, _⟩ := hv.sl_inv
      obtain ⟨k, hk⟩ := natI_inv e2 hvi
      refine OpOK.pure r (hrun _ _ _ k m hxe hk hlt) ?_
      rw [Addr.add_lit, ha (by omega), Nat.add_assoc]
      exact .ptr hen
    · cases hs
  · rename_i cs len cap m e1 e2
    split at hs
    · rename_i hlt
      cases hs
      rw [e1] at hv
      obtain ⟨k', o', arr, c, hF, hxe, hlc, hc, _⟩ := hv.fs_inv
      obtain ⟨k, hk⟩ := natI_inv e2 hvi
      refine OpOK.pure r (hrun _ _ _ k m hxe hk hlt) ?_
      rw [Addr.add_lit]
      refine .fp hF ?_
      have h2 := (hc (by omega)).drop (m * te.n)
      rw [List.drop_take, List.drop_drop] at h2
      rw [List.length_drop]
      exact h2
    · cases hs
  · cases hs
include hT r hρ in
theorem snd_idxArr {t : Nat} {ti : TI} (hti : C.tt t = some ti) {n e : Nat} (hd : ti.d = .array n e) {te : TI} (hte : C.tt e = some te) {x i : Operand} {y j : X} (hx : cX C x = some y) (hi : cX C i = some j)
    {o : Oper} (ho : o.op = .index t x i) {or : OR} (hs : opSem (.idxArr n te.n (TypeDesc.isAggB te.d) y j) rs h = some or) : OpOK C.P Q g h w (execOp ρ o) or := by
  have hv := hρ _ _ hx
  have hvi := hρ _ _ hi
  simp only [opSem] at hs
  split at hs
  · rename_i cs m e1 e2
    rw [e1] at hv
    obtain ⟨xs, hxs, hr⟩ := hv.agg_inv
    obtain ⟨k, hk⟩ := natI_inv e2 hvi
    split at hs
    · rename_i hlt
      have hc : (0 : Int) ≤ Int.ofNat m ∧ Int.ofNat m < (n : Int) := ⟨by simp, by simpa using hlt⟩
      by_cases hg : TypeDesc.isAggB te.d = true
      · simp only [hg, if_true] at hs
        split at hs
        · rename_i hle
          cases hs
          refine OpOK.pure r (x := .agg ((xs.drop (m * te.n)).take te.n).toArray) ?_ (.agg ((hr.drop _).take _))
          have e2 : xs.toArray.extract (m * te.n) (m * te.n + te.n) = ((xs.drop (m * te.n)).take te.n).toArray := by
            apply Array.ext'; simp [List.extract_eq_take_drop]
          simp only [execOp, ho, Instr.index, asIntOf, hk, hxs, Sem.run_bind, Sem.run_pure, Result.andThen_ok, run_under hT hti, hd, if_pos hc, run_siz hT hte, part, run_isAgg hT hte, hg, if_true]
          simp [e2]
        · cases hs
      · simp only [hg, Bool.false_eq_true, if_false, ret] at hs
        split at hs
        · rename_i v hvc
          cases hs
          obtain ⟨z, hz, hzr⟩ := hr.get _ _ hvc
          refine OpOK.pure r ?_ hzr
          simp only [execOp, ho, Instr.index, asIntOf, hk, hxs, Sem.run_bind, Sem.run_pure, Result.andThen_ok, run_under hT hti, hd, if_pos hc, run_siz hT hte, part, run_isAgg hT hte, hg, Bool.false_eq_true, if_false]
          simp [hz]
        · cases hs
    · cases hs
  · cases hs
include hT r hρ in
theorem snd_idxStr {t : Nat} {ti : TI} (hti : C.tt t = some ti) (hd : ti.d = .string) {x i : Operand} {y j : X} (hx : cX C x = some y) (hi : cX C i = some j)
    {o : Oper} (ho : o.op = .index t x i) {or : OR} (hs : opSem (.idxStr y j) rs h = some or) : OpOK C.P Q g h w (execOp ρ o) or := by
  have hv := hρ _ _ hx
  have hvi := hρ _ _ hi
  simp only [opSem] at hs
  split at hs
  · rename_i l c m e1 e2
    rw [e1] at hv
    obtain ⟨bs, hxs, hl, hcd⟩ := hv.s_list
    obtain ⟨k, hk⟩ := natI_inv e2 hvi
    split at hs
    · rename_i hlt
      cases hs
      have hget : bs.data.toList[m]? = some bs.data.toList[m] := List.getElem?_eq_getElem (by omega)
      have hb := byteAt_code _ _ _ hget
      rw [hcd] at hb
      have hg : bs[m]? = some bs.data.toList[m] := by
        have hs : m < bs.size := by rw [bsize]; omega
        rw [getElem?_pos bs m hs]
        simp only [Array.getElem_toList]
        rfl
      refine OpOK.pure r (x := .int .u8 (bs.data.toList[m]).toNat) ?_ (by rw [hb]; exact .u _ _)
      have h0 : (0 : Int) ≤ (m : Int) := Int.natCast_nonneg m
      simp only [execOp, ho, Instr.index, asIntOf, hk, hxs, Sem.run_bind, Sem.run_pure, Result.andThen_ok, run_under hT hti, hd, Int.ofNat_eq_natCast, Int.toNat_natCast, hg]
      rw [if_pos h0]
      rfl
    · cases hs
  · cases hs
end ops
end Ax

/- The abstract executor, part 9: the operations are what their compiled forms say (slices). -/
namespace Ax
open Go

/-- A bound, as the model has it. -/
inductive BR : Option Nat → Option Value → Prop
  | none : BR none none
  | some (n : Nat) (k : IntKind) : BR (some n) (some (.int k (Int.ofNat n)))

theorem run_sliceBound_nat {P : Program} (w : World) (k : IntKind) (n y : Nat) (code : BoundsCode) (hn : n ≤ y) : (Instr.sliceBound (.int k (n : Int)) y code).run P w = .ok n w := by
  have := run_sliceBound (P := P) w k (n : Int) y code (by omega) (by omega)
  simpa using this

theorem run_sliceBounds_nat {P : Program} (w : World) (isSlice : Bool) (len cap : Nat) {lo hi mx : Option Nat} {vlo vhi vmx : Option Value} (hlo : BR lo vlo) (hhi : BR hi vhi) (hmx : BR mx vmx)
    (h1 : mx.isSome → hi.isSome) (h2 : mx.getD cap ≤ cap) (h3 : hi.isSome → hi.getD len ≤ mx.getD cap) (h4 : lo.getD 0 ≤ hi.getD len) :
    (Instr.sliceBounds isSlice len cap vlo vhi vmx).run P w = .ok (lo.getD 0, hi.getD len, mx.getD cap) w := by
  cases hlo <;> cases hhi <;> cases hmx <;> simp only [Option.isSome_some, Option.isSome_none, Option.getD_some, Option.getD_none, Bool.false_eq_true, true_implies, false_implies, implies_true] at h1 h2 h3 h4 <;>
    simp (disch := assumption) [Instr.sliceBounds, run_sliceBound_nat]

section
variable {C : Fix} {Q : Nat → CC → Code → Prop} {g : Gh} {h : H} {w : World} {rs : RF} {ρ : Operand → Value}

theorem bnd_BR (hρ : ∀ x y, cX C x = some y → VR g (y.val rs) (ρ x)) {lo : Option Operand} {lo' : Option X} (hc : cOX C lo = some lo') {n : Option Nat} (hb : bnd rs lo' = some n) : BR n (lo.map ρ) ∧ n.isSome = lo.isSome := by
  cases lo with
  | none => simp only [cOX, Option.some.injEq] at hc; subst hc; simp only [bnd, Option.some.injEq] at hb; subst hb; exact ⟨.none, rfl⟩
  | some x =>
    simp only [cOX, Option.map_eq_some_iff] at hc
    obtain ⟨y, hy, rfl⟩ := hc
    have hv := hρ _ _ hy
    simp only [bnd] at hb
    split at hb
    · rename_i m e
      cases hb
      rw [e] at hv
      simp only [Option.map_some, hv.i_inv]
      exact ⟨.some _ _, rfl⟩
    · rename_i k m e
      cases hb
      rw [e] at hv
      simp only [Option.map_some, hv.u_inv]
      exact ⟨.some _ _, rfl⟩
    · cases hb

/-- A slice expression of a slice, on values. -/
theorem sliceV_sound {v : V} {es known : Nat} {lo hi mx : Option Nat} {v' : V} (hs : sliceV v es known lo hi mx = some v') {a : Option Addr} {len c : Nat} (hv : VR g v (.slice a len c))
    (hk : ∀ id off l, v = .sl id off l 0 → known ≤ c ∧ ∀ e, g.φ id = some e → e.es = es) :
    mx.getD c ≤ c ∧ (hi.isSome → hi.getD len ≤ mx.getD c) ∧ lo.getD 0 ≤ hi.getD len ∧
    VR g v' (.slice (if mx.getD c = lo.getD 0 then a else a.map (·.add (lo.getD 0 * es))) (hi.getD len - lo.getD 0) (mx.getD c - lo.getD 0)) := by
  unfold sliceV at hs
  split at hs
  · cases hv
    split at hs
    · rename_i hc
      cases hs
      simp only [Bool.and_eq_true, decide_eq_true_eq] at hc
      obtain ⟨⟨h1, h2⟩, h3⟩ := hc
      simp only [h1, h2, h3, Nat.le_refl, if_true, Nat.sub_self, implies_true, true_and]
      exact .nils
    · cases hs
  · rename_i cs len' cap
    obtain ⟨k, o, arr, c', hF, he, hlc, hx, hcp⟩ := hv.fs_inv
    simp only [Value.slice.injEq] at he
    obtain ⟨rfl, rfl, rfl⟩ := he
    have hadd : ∀ m' a' h', m' - a' ≠ 0 → a' ≤ h' → VRs g (cs.drop (a' * es)) ((arr.toList.drop (o + a' * es)).take (cs.drop (a' * es)).length) ∨ c = 0 := by
      intro m' a' h' _ _
      by_cases hc0 : c = 0
      · exact .inr hc0
      · have h2 := (hx hc0).drop (a' * es)
        rw [List.drop_take, List.drop_drop] at h2
        rw [List.length_drop]
        exact .inl h2
    have fin : ∀ (m' : Nat) (cap' : Nat), lo.getD 0 ≤ hi.getD len → hi.getD len ≤ m' → m' ≤ c → (∀ cp, cap' = cp + 1 → m' - lo.getD 0 = cp) →
        VR g (.fs (cs.drop (lo.getD 0 * es)) (hi.getD len - lo.getD 0) cap') (.slice (if m' = lo.getD 0 then some ⟨k, o, none⟩ else (some (⟨k, o, none⟩ : Addr)).map (·.add (lo.getD 0 * es))) (hi.getD len - lo.getD 0) (m' - lo.getD 0)) := by
      intro m' cap' h1 h2 h3 h4
      by_cases hm : m' = lo.getD 0
      · rw [if_pos hm]
        exact .fs hF (by omega) (fun hc => by omega) h4
      · rw [if_neg hm]
        simp only [Option.map_some, Addr.add_lit]
        refine .fs hF (by omega) (fun _ => ?_) h4
        rcases hadd m' (lo.getD 0) (hi.getD len) (by omega) h1 with h | h
        · exact h
        · omega
    cases cap with
    | zero =>
      simp only at hs
      split at hs
      · split at hs
        · rename_i m hc
          simp only [Bool.and_eq_true, decide_eq_true_eq] at hc
          cases hs
          exact ⟨by simp; omega, fun _ => by simpa using hc.1.2, hc.1.1, fin m _ hc.1.1 hc.1.2 (by omega) (fun cp e => by omega)⟩
        · cases hs
      · split at hs
        · rename_i hc
          simp only [Bool.and_eq_true, decide_eq_true_eq] at hc
          cases hs
          exact ⟨by simp, fun _ => by simp; omega, hc.1, fin c 0 hc.1 (by omega) (Nat.le_refl _) (fun cp e => by omega)⟩
        · cases hs
    | succ cp =>
      have hcc := hcp cp rfl
      subst hcc
      simp only at hs
      split at hs
      · split at hs
        · rename_i m hc
          simp only [Bool.and_eq_true, decide_eq_true_eq] at hc
          cases hs
          exact ⟨by simp; omega, fun _ => by simpa using hc.1.2, hc.1.1, fin m _ hc.1.1 hc.1.2 (by omega) (fun cp e => by omega)⟩
        · cases hs
      · split at hs
        · rename_i hc
          simp only [Bool.and_eq_true, decide_eq_true_eq] at hc
          cases hs
          exact ⟨by simp, fun _ => by simp; omega, hc.1, fin c _ hc.1 (by omega) (Nat.le_refl _) (fun cp e => by omega)⟩
        · cases hs
  · rename_i id off len' cap
    obtain ⟨e, x, c', hen, he, hlc, hx, ho, hcp⟩ := hv.sl_inv
    simp only [Value.slice.injEq] at he
    obtain ⟨rfl, rfl, rfl⟩ := he
    have fin : ∀ (m' : Nat) (cap' : Nat), lo.getD 0 ≤ hi.getD len → hi.getD len ≤ m' → m' ≤ c → (∀ cp, cap' = cp + 1 → m' - lo.getD 0 = cp) → (cap' = 0 → cap = 0 ∧ m' = c ∧ e.es = es) →
        VR g (.sl id (off + lo.getD 0 * es) (hi.getD len - lo.getD 0) cap') (.slice (if m' = lo.getD 0 then some ⟨e.blk, x, none⟩ else (some (⟨e.blk, x, none⟩ : Addr)).map (·.add (lo.getD 0 * es))) (hi.getD len - lo.getD 0) (m' - lo.getD 0)) := by
      intro m' cap' h1 h2 h3 h4 h5
      have ho' : cap' = 0 → e.off + (off + lo.getD 0 * es) + (m' - lo.getD 0) * e.es = e.size := by
        intro hc0
        obtain ⟨hc, hmc, hes⟩ := h5 hc0
        have := ho hc
        rw [hmc]
        rw [hes] at this ⊢
        have h6 : c * es = lo.getD 0 * es + (c - lo.getD 0) * es := by rw [← Nat.add_mul]; congr 1; omega
        omega
      by_cases hm : m' = lo.getD 0
      · rw [if_pos hm]
        exact .sl hen (by omega) (fun hc => by omega) ho' h4
      · rw [if_neg hm]
        simp only [Option.map_some, Addr.add_lit]
        refine .sl hen (by omega) (fun _ => ?_) ho' h4
        rw [hx (by omega)]; omega
    cases cap with
    | zero =>
      obtain ⟨hkn, hes⟩ := hk id off len rfl
      have hes := hes e hen
      simp only at hs
      split at hs
      · split at hs
        · rename_i m hc
          simp only [Bool.and_eq_true, decide_eq_true_eq] at hc
          cases hs
          have hm : m ≤ c := by have := hc.2; have h7 : Nat.max len known ≤ c := Nat.max_le.2 ⟨hlc, hkn⟩; omega
          exact ⟨by simpa using hm, fun _ => by simpa using hc.1.2, hc.1.1, fin m _ hc.1.1 hc.1.2 hm (fun cp e => by omega) (fun e => by omega)⟩
        · cases hs
      · split at hs
        · rename_i hc
          simp only [Bool.and_eq_true, decide_eq_true_eq] at hc
          cases hs
          have hm : hi.getD len ≤ c := by have := hc.2; have h7 : Nat.max len known ≤ c := Nat.max_le.2 ⟨hlc, hkn⟩; omega
          exact ⟨by simp, fun _ => by simpa using hm, hc.1, fin c 0 hc.1 hm (Nat.le_refl _) (fun cp e => by omega) (fun _ => ⟨rfl, rfl, hes⟩)⟩
        · cases hs
    | succ cp =>
      have hcc := hcp cp rfl
      subst hcc
      simp only at hs
      split at hs
      · split at hs
        · rename_i m hc
          simp only [Bool.and_eq_true, decide_eq_true_eq] at hc
          cases hs
          exact ⟨by simp; omega, fun _ => by simpa using hc.1.2, hc.1.1, fin m _ hc.1.1 hc.1.2 (by omega) (fun cp e => by omega) (fun e => by omega)⟩
        · cases hs
      · split at hs
        · rename_i hc
          simp only [Bool.and_eq_true, decide_eq_true_eq] at hc
          cases hs
          exact ⟨by simp, fun _ => by simp; omega, hc.1, fin c _ hc.1 (by omega) (Nat.le_refl _) (fun cp e => by omega) (fun e => by omega)⟩
        · cases hs
  · cases hs

variable (hT : TTok C.P C.tt) (r : Rel Q g h w) (hρ : ∀ x y, cX C x = some y → VR g (y.val rs) (ρ x))

/-- What a slice value's shape is. -/
theorem sliceV_shape {v : V} {es known : Nat} {lo hi mx : Option Nat} {v' : V} (hs : sliceV v es known lo hi mx = some v') {x : Value} (hv : VR g v x) : ∃ a l c, x = .slice a l c := by
  unfold sliceV at hs
  split at hs <;> first | (cases hs; done) | skip
  · exact ⟨_, _, _, hv.nils_inv⟩
  · obtain ⟨_, _, _, _, _, h, _⟩ := hv.fs_inv; exact ⟨_, _, _, h⟩
  · obtain ⟨_, _, _, _, h, _⟩ := hv.sl_inv; exact ⟨_, _, _, h⟩

include hT r hρ in
theorem snd_slSl {t : Nat} {ti : TI} (hti : C.tt t = some ti) {e : Nat} (hd : ti.d = .slice e) {te : TI} (hte : C.tt e = some te) (hne : te.n ≠ 0) {x : Operand} {y : X} (hx : cX C x = some y)
    {lo hi mx : Option Operand} {lo' hi' mx' : Option X} (hlo : cOX C lo = some lo') (hhi : cOX C hi = some hi') (hmx : cOX C mx = some mx') (hmh : mx.isSome → hi.isSome)
    {o : Oper} (ho : o.op = .slice t x lo hi mx) {or : OR} (hs : opSem (.slSl te.n y lo' hi' mx') rs h = some or) : OpOK C.P Q g h w (execOp ρ o) or := by
  have hv := hρ _ _ hx
  simp only [opSem] at hs
  split at hs
  · rename_i nlo nhi nmx e1 e2 e3
    obtain ⟨b1, _⟩ := bnd_BR hρ hlo e1
    obtain ⟨b2, s2⟩ := bnd_BR hρ hhi e2
    obtain ⟨b3, s3⟩ := bnd_BR hρ hmx e3
    split at hs
    · rename_i hop
      simp only [ret] at hs
      split at hs
      · rename_i v' hv'
        cases hs
        obtain ⟨a, l, c, hxe⟩ := sliceV_shape hv' hv
        rw [hxe] at hv
        obtain ⟨k1, k2, k3, hr⟩ := sliceV_sound hv' hv (by
          intro id off l' hvv
          rw [hvv] at hv hop ⊢
          obtain ⟨en, xa, c', hen, he, hlc, hxa, hopn, _⟩ := hv.sl_inv
          simp only [Value.slice.injEq] at he
          obtain ⟨_, rfl, rfl⟩ := he
          simp only [openOK] at hop
          split at hop
          · rename_i cc n tt' es' cl hid
            have hes := Nat.eq_of_beq_eq_true hop
            obtain ⟨en', hen', hor⟩ := r.own _ _ hid
            rw [hen] at hen'; cases hen'
            obtain ⟨arr, fr, _, hsz, hes', _, hcells, _⟩ := hor.cells_inv
            have hfit := hcells.fits
            refine ⟨?_, fun en2 h2 => by rw [hen] at h2; cases h2; omega⟩
            simp only [knownOf, hid, hes, if_true]
            have h8 := hopn rfl
            have h9 : (n - off) / es' ≤ c := by
              have hpos : 0 < es' := by omega
              rw [Nat.div_le_iff_le_mul_add_pred hpos]
              rw [← hes'] at h8
              have : c * es' = es' * c := Nat.mul_comm _ _
              omega
            exact h9
          · cases hop)
        refine OpOK.pure r ?_ hr
        have hb := run_sliceBounds_nat (P := C.P) w true l c b1 b2 b3 (by rw [s2, s3]; exact hmh) k1 k2 k3
        simp only [execOp, ho, Instr.sliceAt, Sem.run_bind, run_under hT hti, hd, Result.andThen_ok, Instr.slice, hxe, hb, run_siz hT hte, Sem.run_pure]
      · cases hs
    · cases hs
  · cases hs
include hT r hρ in
theorem snd_slArr {t : Nat} {ti : TI} (hti : C.tt t = some ti) {n e : Nat} (hd : ti.d = .array n e) {te : TI} (hte : C.tt e = some te) {x : Operand} {y : X} (hx : cX C x = some y)
    {lo hi mx : Option Operand} {lo' hi' mx' : Option X} (hlo : cOX C lo = some lo') (hhi : cOX C hi = some hi') (hmx : cOX C mx = some mx') (hmh : mx.isSome → hi.isSome)
    {o : Oper} (ho : o.op = .slice t x lo hi mx) {or : OR} (hs : opSem (.slArr n te.n y lo' hi' mx') rs h = some or) : OpOK C.P Q g h w (execOp ρ o) or := by
  have hv := hρ _ _ hx
  simp only [opSem] at hs
  split at hs
  · rename_i id off nlo nhi nmx e0 e1 e2 e3
    obtain ⟨b1, _⟩ := bnd_BR hρ hlo e1
    obtain ⟨b2, s2⟩ := bnd_BR hρ hhi e2
    obtain ⟨b3, s3⟩ := bnd_BR hρ hmx e3
    simp only [ret] at hs
    split at hs
    · rename_i v' hv'
      cases hs
      rw [e0] at hv
      obtain ⟨en, hen, hxe⟩ := hv.ptr_inv
      have hv2 : VR g (.sl id off n (n + 1)) (.slice (some ⟨en.blk, en.off + off, none⟩) n n) := .sl hen (Nat.le_refl _) (fun _ => rfl) (fun hc => by simp at hc) (fun cp hc => by omega)
      obtain ⟨k1, k2, k3, hr⟩ := sliceV_sound hv' hv2 (by intro id' off' l' hvv; simp at hvv)
      refine OpOK.pure r ?_ hr
      have hb := run_sliceBounds_nat (P := C.P) w false n n b1 b2 b3 (by rw [s2, s3]; exact hmh) k1 k2 k3
      simp only [execOp, ho, Instr.sliceAt, Sem.run_bind, run_under hT hti, hd, Result.andThen_ok, Instr.sureAddr, hxe, hb, run_siz hT hte, Sem.run_pure, Option.map_some]
      split <;> rfl
    · cases hs
  · cases hs
include hT r hρ in
theorem snd_slStr {t : Nat} {ti : TI} (hti : C.tt t = some ti) (hd : ti.d = .string) {x : Operand} {y : X} (hx : cX C x = some y)
    {lo hi : Option Operand} {lo' hi' : Option X} (hlo : cOX C lo = some lo') (hhi : cOX C hi = some hi')
    {o : Oper} (ho : o.op = .slice t x lo hi none) {or : OR} (hs : opSem (.slStr y lo' hi') rs h = some or) : OpOK C.P Q g h w (execOp ρ o) or := by
  have hv := hρ _ _ hx
  simp only [opSem] at hs
  split at hs
  · rename_i l c nlo nhi e0 e1 e2
    obtain ⟨b1, _⟩ := bnd_BR hρ hlo e1
    obtain ⟨b2, s2⟩ := bnd_BR hρ hhi e2
    simp only [ret, sliceS] at hs
    split at hs
    · rename_i v' hv'
      split at hv'
      · rename_i hc
        cases hs; cases hv'
        simp only [Bool.and_eq_true, decide_eq_true_eq] at hc
        rw [e0] at hv
        obtain ⟨bs, hxe, hl, hcd⟩ := hv.s_list
        have hsz : bs.size = l := by rw [bsize]; exact hl
        have hb := run_sliceBounds_nat (P := C.P) w false l l b1 b2 .none (by simp) (by simp) (fun _ => by simpa using hc.2) hc.1
        have hex : (bs.extract (nlo.getD 0) (nhi.getD l)).data.toList = (bs.data.toList.drop (nlo.getD 0)).take (nhi.getD l - nlo.getD 0) := by
          rw [ByteArray.data_extract]
          simp [List.extract_eq_take_drop]
        refine OpOK.pure r (x := .string (bs.extract (nlo.getD 0) (nhi.getD l))) ?_ ?_
        · have e3 : (underlying t).run C.P w = .ok .string w := by rw [run_under hT hti, hd]
          simp [execOp, ho, Instr.sliceAt, e3, Instr.slice, hxe, hsz, hb]
        · have := VR.str (g := g) _ _ hex
          rw [codeOf_slice, hcd] at this
          have hlen : ((bs.data.toList.drop (nlo.getD 0)).take (nhi.getD l - nlo.getD 0)).length = nhi.getD l - nlo.getD 0 := by
            simp only [List.length_take, List.length_drop]; omega
          rw [hlen] at this
          exact this
      · cases hv'
    · cases hs
  · cases hs

include hT r hρ in
theorem snd_mkSl {t : Nat} {ti : TI} (hti : C.tt t = some ti) {e : Nat} (hd : ti.d = .slice e) {te : TI} (hte : C.tt e = some te) {z : List V} (hz : zeroCells te = some z) (hby : te.bytes ≤ 65536) (hne : te.n ≠ 0)
    {l c : Operand} {l' c' : X} (hl : cX C l = some l') (hc : cX C c = some c') {o : Oper} (ho : o.op = .makeSlice t l c) {or : OR} (hs : opSem (.mkSl e te.n z l' c') rs h = some or) : OpOK C.P Q g h w (execOp ρ o) or := by
  have hvl := hρ _ _ hl
  have hvc := hρ _ _ hc
  simp only [opSem] at hs
  split at hs
  · rename_i n m e1 e2
    obtain ⟨k1, hk1⟩ := natI_inv e1 hvl
    obtain ⟨k2, hk2⟩ := natI_inv e2 hvc
    split at hs
    · rename_i hcond
      simp only [Bool.and_eq_true, decide_eq_true_eq] at hcond
      obtain ⟨hnm, hm⟩ := hcond
      cases hs
      intro hf
      obtain ⟨zv, hzv, hr, hn, hlf⟩ := zeroCells_VRs g hz
      have hzs : zv.cells.size = te.n := by have := hr.length; simp only [Array.length_toList] at this; omega
      obtain ⟨ie, hie, hib1, hib2, hib3⟩ := run_inf hT hte w
      have hcs : VRs g (reps m z) ((Array.range (m * te.n)).map (fun i => zv.cells[i % zv.cells.size]!)).toList := by
        rw [range_mod_reps zv.cells te.n hzs (by omega) m]
        exact hr.reps m
      obtain ⟨g', h1, h2, h3, h4⟩ := new_row r e te.n _ _ hcs (fresh_next hf (by simp [newCells]))
      refine ⟨g', _, .slice (some ⟨w.heap.size, 0 + 0, none⟩) n m, _, ?_, .inl rfl, .sl h3 hnm (fun _ => rfl) (fun hc => by simp at hc) (fun cp hc => by omega), h1, h2⟩
      have w1 : IntKind.i64.wrap (n : Int) = (n : Int) := by simp only [IntKind.wrap, IntKind.signed, IntKind.bits]; simp; omega
      have w2 : IntKind.i64.wrap (m : Int) = (m : Int) := by simp only [IntKind.wrap, IntKind.signed, IntKind.bits]; simp; omega
      have hbm : ie.bytes * m ≤ 65536 * 16777216 := Nat.mul_le_mul (by omega) hm
      have hbm' : ¬ ((ie.bytes : Int) * (m : Int) > 2 ^ 48) := by
        have : (ie.bytes : Int) * (m : Int) = ((ie.bytes * m : Nat) : Int) := by simp
        rw [this]
        have h48 : (2 : Int) ^ 48 = 281474976710656 := by decide
        rw [h48]
        omega
      simp only [execOp, ho, Instr.makeSlice, Sem.run_bind, run_under hT hti, hd, Result.andThen_ok, asInt, asIntOf, hk1, hk2, Sem.run_pure, hie, w1, w2, Int.ofNat_eq_natCast, Int.toNat_natCast]
      rw [if_neg (by
        simp only [Bool.or_eq_true, decide_eq_true_eq, not_or]
        refine ⟨⟨⟨by omega, hbm'⟩, by omega⟩, by omega⟩)]
      simp only [Sem.run_bind, Result.andThen_ok, run_askRoom, run_siz hT hte]
      by_cases h0 : m * te.n = 0
      · have : m = 0 := by rcases Nat.mul_eq_zero.1 h0 with h | h <;> omega
        subst this
        obtain rfl : n = 0 := by omega
        simp [newRow, Array.range_zero']
      · simp only [if_neg h0, Sem.run_bind, run_zero hT hte hzv, Result.andThen_ok, Sem.run_pure, newRow, run_newObj, Array.toArray_toList]
        simp
    · cases hs
  · cases hs
end
end Ax

/- The abstract executor, part 10: append. -/
namespace Ax
open Go

section
variable {C : Fix} {Q : Nat → CC → Code → Prop} {g : Gh} {h : H} {w : World} {rs : RF} {ρ : Operand → Value}

theorem cell_heap {w w' : World} (hw : w'.heap = w.heap) (a : Addr) : w'.cell? a = w.cell? a := by simp [World.cell?, hw]

/-- The bytes of a string, as cells. -/
theorem bytesV_VRs (g : Gh) (l : List UInt8) : VRs g (bytesV l.length (codeOf l)) (l.map fun b => .int .u8 (b.toNat : Int)) := by
  refine VRs.of_get (by simp [bytesV]) ?_
  intro j v x hv hx
  have hj : j < l.length := by have := (List.getElem?_eq_some_iff.1 hx).1; simpa using this
  simp only [bytesV, List.getElem?_map, List.getElem?_range hj, Option.map_some, Option.some.injEq] at hv
  simp only [List.getElem?_map, List.getElem?_eq_getElem hj, Option.map_some, Option.some.injEq] at hx
  subst hv hx
  rw [byteAt_code l j l[j] (List.getElem?_eq_getElem hj)]
  exact .u _ _

/-- What is appended. -/
theorem firstOf_sound (r : Rel Q g h w) {es n : Nat} {v : V} {vs : List V} (hf : firstOf h es n v = some vs) {x : Value} (hv : VR g v x) :
    ∃ xs : List Value, (∀ (P : Program) (w' : World), w'.heap = w.heap → (Builtin.firstCells es n x).run P w' = .ok xs.toArray w') ∧ VRs g vs xs := by
  unfold firstOf at hf
  split at hf
  · rename_i id off len cap
    split at hf
    · rename_i hle
      obtain ⟨e, a, c, hen, rfl, hlc, ha, _, _⟩ := hv.sl_inv
      by_cases hn : n * es = 0
      · rw [hn] at hf
        have : vs = [] := by
          unfold ldC at hf
          simp only at hf
          split at hf
          · split at hf
            · rw [readT_zero] at hf; cases hf; rfl
            · cases hf
          · cases hf
        subst this
        refine ⟨[], ?_, .nil⟩
        intro P w' _
        simp [Builtin.firstCells, hn, loadCells, loadCellsFrom]
      · have hc0 : c ≠ 0 := fun hc => hn (by rw [show n = 0 by omega, Nat.zero_mul])
        obtain ⟨a', xs, hxa, hlen, hc, hr⟩ := ldC_sound r hf (.ptr (off := off) hen)
        simp only [Value.pointer.injEq, Option.some.injEq] at hxa
        refine ⟨xs, ?_, hr⟩
        intro P w' hw
        have := run_loadCells_list (P := P) w' ⟨e.blk, a, none⟩ xs (fun j v hj => by rw [cell_heap hw, ha hc0, hxa]; exact hc j v hj)
        rw [hlen] at this
        simpa [Builtin.firstCells] using this
    · cases hf
  · split at hf
    · rename_i hn
      cases hf
      rw [hv.nils_inv]
      exact ⟨[], fun P w' _ => by simp [Builtin.firstCells], .nil⟩
    · cases hf
  · rename_i cs len cap
    split at hf
    · rename_i hle
      simp only [Bool.and_eq_true, decide_eq_true_eq] at hle
      cases hf
      obtain ⟨k, o, arr, c, hF, rfl, hlc, hx, _⟩ := hv.fs_inv
      by_cases hn : n * es = 0
      · rw [hn]
        exact ⟨[], fun P w' _ => by simp [Builtin.firstCells, hn, loadCells, loadCellsFrom], by simpa using .nil⟩
      · have hc0 : c ≠ 0 := fun hc => hn (by rw [show n = 0 by omega, Nat.zero_mul])
        obtain ⟨⟨t, fr, hh⟩, _⟩ := r.frz k arr hF
        have hl := (hx hc0).length
        refine ⟨((arr.toList.drop o).take cs.length).take (n * es), ?_, (hx hc0).take _⟩
        intro P w' hw
        have := run_loadCells_list (P := P) w' ⟨k, o, none⟩ (((arr.toList.drop o).take cs.length).take (n * es)) (fun j v hj => by
          rw [cell_heap hw, Addr.add_lit, cell_of_row w k _ arr t fr hh]
          rw [List.getElem?_take] at hj
          split at hj
          · rw [List.getElem?_take] at hj
            split at hj
            · rw [List.getElem?_drop] at hj
              rw [← Array.getElem?_toList]; exact hj
            · cases hj
          · cases hj)
        have hlen : (((arr.toList.drop o).take cs.length).take (n * es)).length = n * es := by
          rw [List.length_take, ← hl]; omega
        rw [hlen] at this
        simpa [Builtin.firstCells] using this
    · cases hf
  · rename_i l c
    split at hf
    · rename_i hn
      simp only [Bool.and_eq_true, decide_eq_true_eq] at hn
      obtain ⟨rfl, rfl⟩ := hn
      cases hf
      obtain ⟨bs, rfl, hl, hcd⟩ := hv.s_list
      refine ⟨bs.data.toList.map fun b => .int .u8 (b.toNat : Int), ?_, ?_⟩
      · intro P w' _
        have he : bs.extract 0 n = bs := by rw [← hl, ← bsize]; simp
        have e2 : Array.map (fun b : UInt8 => Value.int IntKind.u8 (b.toNat : Int)) bs.data = (bs.data.toList.map fun b => Value.int IntKind.u8 (b.toNat : Int)).toArray := by apply Array.ext'; simp
        simp only [Builtin.firstCells, he, Sem.run_pure, e2]
      · rw [← hl, ← hcd]; exact bytesV_VRs g _
    · cases hf
  · cases hf

theorem lenV_sound {v : V} {n : Nat} (hl : lenV v = some n) {x : Value} (hv : VR g v x) (P : Program) (w : World) : (Builtin.lenOf x).run P w = .ok n w := by
  unfold lenV at hl
  split at hl
  · cases hl; obtain ⟨_, _, _, _, rfl, _⟩ := hv.sl_inv; rfl
  · cases hl; obtain ⟨_, _, _, _, _, rfl, _⟩ := hv.fs_inv; rfl
  · cases hl; rw [hv.nils_inv]; rfl
  · cases hl; obtain ⟨bs, rfl, hs, _⟩ := hv.s_inv; rw [← hs]; rfl
  · cases hl

/-- What a row that has outgrown its block reads as. -/
theorem grown_cells {c c' : T V} {k k' off m o o' : Nat} {new : List V} {xs : List Value} {arr arr' : Array Value} (hc : CellsR g c k arr o) (hm : off + m ≤ k) (hg : grown c k off m new = some (c', k')) (hn : VRs g new xs)
    (h1 : ∀ j, j < m → arr'[o' + j]? = arr[o + off + j]?) (h2 : ∀ j, j < xs.length → arr'[o' + m + j]? = xs[j]?) (h3 : o' + m + xs.length ≤ arr'.size) : CellsR g c' k' arr' o' ∧ k' = m + xs.length := by
  have hlen := hn.length
  unfold grown at hg
  split at hg
  · rename_i hz
    obtain ⟨rfl, rfl⟩ := hz
    cases hg
    refine ⟨⟨by omega, ?_⟩, by omega⟩
    intro j v hj hv
    rw [fillT_get] at hv
    by_cases hin : m ≤ j ∧ j < m + new.length
    · rw [if_pos hin] at hv
      obtain ⟨x, hx, hr⟩ := hn.get _ v hv
      refine ⟨x, ?_, hr⟩
      have hjx : j - m < xs.length := (List.getElem?_eq_some_iff.1 hx).1
      have := h2 (j - m) hjx
      rw [show o' + m + (j - m) = o' + j by omega] at this
      rw [this]; exact hx
    · rw [if_neg hin] at hv
      have hjm : j < m := by omega
      obtain ⟨x, hx, hr⟩ := hc.at' j v hjm hv
      refine ⟨x, ?_, hr⟩
      rw [h1 j hjm, Nat.add_zero]; exact hx
  · split at hg
    · rename_i old hold
      cases hg
      obtain ⟨hl, hget⟩ := readT_some c m off old hold
      refine ⟨⟨by omega, ?_⟩, by omega⟩
      intro j v hj hv
      rw [fillT_get, if_pos (by simp; omega)] at hv
      simp only [Nat.sub_zero] at hv
      by_cases hjm : j < m
      · rw [List.getElem?_append_left (by omega)] at hv
        obtain ⟨x, hx, hr⟩ := hc.at' (off + j) v (by omega) (hget j v hv)
        refine ⟨x, ?_, hr⟩
        rw [h1 j hjm, show o + off + j = o + (off + j) by omega]; exact hx
      · rw [List.getElem?_append_right (by omega), hl] at hv
        obtain ⟨x, hx, hr⟩ := hn.get _ v hv
        refine ⟨x, ?_, hr⟩
        have hjx : j - m < xs.length := (List.getElem?_eq_some_iff.1 hx).1
        have := h2 (j - m) hjx
        rw [show o' + m + (j - m) = o' + j by omega] at this
        rw [this]; exact hx
    · cases hg

theorem run_app_in {ats : Array TypeId} {t e : Nat} {ts te : TI} (hT : TTok C.P C.tt) (h0 : ats[0]? = some t) (hts : C.tt t = some ts) (hd : ts.d = .slice e) (hte : C.tt e = some te)
    {tx : Nat} {ttx : TI} (h1 : ats[1]? = some tx) (htx : C.tt tx = some ttx) (hk : ∀ k, ttx.d ≠ .int k) (ty : TypeId) {a : Addr} {sLen sCap n : Nat} {x : Value} {xs : List Value}
    (hln : (Builtin.lenOf x).run C.P w = .ok n w) (hfc : (Builtin.firstCells te.n n x).run C.P w = .ok xs.toArray w) (hroom : sLen + n ≤ sCap) {w' : World} (hst : (storeCells (a.add (sLen * te.n)) xs).run C.P w = .ok () w') :
    (Builtin.append_ ats ty #[.slice (some a) sLen sCap, x]).run C.P w = .ok (.slice (some a) (sLen + n) sCap) w' := by
  simp [Builtin.append_, h0, h1, run_under hT hts, hd, run_siz hT hte, run_under hT htx, hln, hroom, hfc, hst]
theorem run_app_re {ats : Array TypeId} {t e : Nat} {ts te : TI} (hT : TTok C.P C.tt) (h0 : ats[0]? = some t) (hts : C.tt t = some ts) (hd : ts.d = .slice e) (hte : C.tt e = some te)
    {tx : Nat} {ttx : TI} (h1 : ats[1]? = some tx) (htx : C.tt tx = some ttx) (hk : ∀ k, ttx.d ≠ .int k) (ty : TypeId) {base : Option Addr} {sLen sCap n : Nat} {x : Value} {xs : List Value} {old : Array Value} {zv : Value} (hzv : te.z = some zv)
    (hln : (Builtin.lenOf x).run C.P w = .ok n w) (hfc : (Builtin.firstCells te.n n x).run C.P w.drew = .ok xs.toArray w.drew) (hfo : (Builtin.firstCells te.n sLen (.slice base sLen sCap)).run C.P w.drew = .ok old w.drew)
    (hno : sCap < sLen + n) (hb : te.bytes ≤ 4096) (hle : sLen + n ≤ 33554432) :
    (Builtin.append_ ats ty #[.slice base sLen sCap, x]).run C.P w = .ok (.slice (some ⟨w.heap.size, 0, none⟩) (sLen + n) (grownCap w (sLen + n) sCap e))
        (w.drew.alloc (.cells (old ++ xs.toArray ++ Builtin.zeroCells zv.cells (grownCap w (sLen + n) sCap e - (sLen + n))) e)) := by
  obtain ⟨ie, hie, hib1, hib2, hib3⟩ := (hT _ _ hte).2
  have hn : ¬ (sLen + n ≤ sCap) := by omega
  have h63' : ¬ (9223372036854775807 < ((sLen : Int) + (n : Int))) := by omega
  have h48' : ¬ (281474976710656 < Builtin.nextslicecap (sLen + n) sCap * ie.bytes) := by
    have := growslice_fits (need := sLen + n) (old := sCap) (bytes := te.bytes) hno (by
      have : (sLen + n) * te.bytes ≤ 33554432 * 4096 := Nat.mul_le_mul hle hb
      omega)
    rw [hib2]; omega
  simp [Builtin.append_, h0, h1, run_under hT hts, hd, run_under hT htx, hln, Go.sizeOf, typeInfo, zeroValue, hie, hib1, hib3, hzv, hn, h63', h48', Question.forced, hfc, hfo, newRow, grownCap]
theorem run_appZ_in {ats : Array TypeId} {t e : Nat} {ts te : TI} (hT : TTok C.P C.tt) (h0 : ats[0]? = some t) (hts : C.tt t = some ts) (hd : ts.d = .slice e) (hte : C.tt e = some te)
    {tx : Nat} {ttx : TI} (h1 : ats[1]? = some tx) (htx : C.tt tx = some ttx) {k : IntKind} (hk : ttx.d = .int k) (ty : TypeId) {a : Addr} {sLen sCap n : Nat} {j : IntKind} {zv : Value} (hzv : te.z = some zv) (hb : te.bytes ≤ 4096) (hle : n ≤ 16777216)
    (hroom : sLen + n ≤ sCap) (hz0 : n * te.n ≠ 0) {w' : World} (hst : (storeCells (a.add (sLen * te.n)) (Builtin.zeroCells zv.cells n).toList).run C.P w = .ok () w') :
    (Builtin.append_ ats ty #[.slice (some a) sLen sCap, .int j (n : Int)]).run C.P w = .ok (.slice (some a) (sLen + n) sCap) w' := by
  obtain ⟨ie, hie, hib1, hib2, hib3⟩ := (hT _ _ hte).2
  have w1 : IntKind.i64.wrap (n : Int) = (n : Int) := by simp only [IntKind.wrap, IntKind.signed, IntKind.bits]; simp; omega
  have h48 : ¬ ((n : Int) * (ie.bytes : Int) > 281474976710656) := by
    have : (n : Int) * (ie.bytes : Int) = ((n * ie.bytes : Nat) : Int) := by simp
    rw [this]
    have : n * ie.bytes ≤ 16777216 * 4096 := Nat.mul_le_mul hle (by omega)
    omega
  have hneg : ¬ ((n : Int) < 0) := by omega
  simp [Builtin.append_, h0, h1, run_under hT hts, hd, run_under hT htx, hk, Go.sizeOf, typeInfo, zeroValue, hie, hib1, hib3, hzv, asInt, asIntOf, w1, hneg, h48, hroom, hz0, hst]
theorem run_appZ_re {ats : Array TypeId} {t e : Nat} {ts te : TI} (hT : TTok C.P C.tt) (h0 : ats[0]? = some t) (hts : C.tt t = some ts) (hd : ts.d = .slice e) (hte : C.tt e = some te)
    {tx : Nat} {ttx : TI} (h1 : ats[1]? = some tx) (htx : C.tt tx = some ttx) {k : IntKind} (hk : ttx.d = .int k) (ty : TypeId) {base : Option Addr} {sLen sCap n : Nat} {j : IntKind} {old : Array Value} {zv : Value} (hzv : te.z = some zv) (hb : te.bytes ≤ 4096) (hln : n ≤ 16777216)
    (hfo : (Builtin.firstCells te.n sLen (.slice base sLen sCap)).run C.P w.drew = .ok old w.drew) (hz0 : n * te.n ≠ 0)
    (hno : sCap < sLen + n) (hle : sLen + n ≤ 33554432) :
    (Builtin.append_ ats ty #[.slice base sLen sCap, .int j (n : Int)]).run C.P w = .ok (.slice (some ⟨w.heap.size, 0, none⟩) (sLen + n) (grownCap w (sLen + n) sCap e))
        (w.drew.alloc (.cells (old ++ Builtin.zeroCells zv.cells n ++ Builtin.zeroCells zv.cells (grownCap w (sLen + n) sCap e - (sLen + n))) e)) := by
  obtain ⟨ie, hie, hib1, hib2, hib3⟩ := (hT _ _ hte).2
  have w1 : IntKind.i64.wrap (n : Int) = (n : Int) := by simp only [IntKind.wrap, IntKind.signed, IntKind.bits]; simp; omega
  have h48 : ¬ ((n : Int) * (ie.bytes : Int) > 281474976710656) := by
    have : (n : Int) * (ie.bytes : Int) = ((n * ie.bytes : Nat) : Int) := by simp
    rw [this]
    have : n * ie.bytes ≤ 16777216 * 4096 := Nat.mul_le_mul hln (by omega)
    omega
  have hneg : ¬ ((n : Int) < 0) := by omega
  have hn : ¬ (sLen + n ≤ sCap) := by omega
  have h63' : ¬ (9223372036854775807 < ((sLen : Int) + (n : Int))) := by omega
  have h48' : ¬ (281474976710656 < Builtin.nextslicecap (sLen + n) sCap * ie.bytes) := by
    have := growslice_fits (need := sLen + n) (old := sCap) (bytes := te.bytes) hno (by
      have : (sLen + n) * te.bytes ≤ 33554432 * 4096 := Nat.mul_le_mul hle hb
      omega)
    rw [hib2]; omega
  simp [Builtin.append_, h0, h1, run_under hT hts, hd, run_under hT htx, hk, Go.sizeOf, typeInfo, zeroValue, hie, hib1, hib3, hzv, asInt, asIntOf, w1, hneg, h48, hn, h63', h48', Question.forced, hfo, newRow, grownCap, hz0]

theorem firstOf_length {es n : Nat} {v : V} {vs : List V} (hf : firstOf h es n v = some vs) : vs.length = n * es := by
  unfold firstOf at hf
  split at hf
  · split at hf
    · unfold ldC at hf
      simp only at hf
      split at hf
      · split at hf
        · exact (readT_some _ _ _ _ hf).1
        · cases hf
      · cases hf
    · cases hf
  · split at hf
    · rename_i hn; cases hf; simp [hn]
    · cases hf
  · split at hf
    · rename_i hc
      simp only [Bool.and_eq_true, decide_eq_true_eq] at hc
      cases hf
      simp; omega
    · cases hf
  · split at hf
    · rename_i hc
      simp only [Bool.and_eq_true, decide_eq_true_eq] at hc
      cases hf
      simp [bytesV, hc.1, hc.2]
    · cases hf
  · cases hf

theorem appendV_sound {P : Program} {A : Value → Sem Value} (r : Rel Q g h w) {e es n : Nat} (hes : es ≠ 0) {s : V} {new : List V} {xs : List Value} (hn : VRs g new xs) (hlen : new.length = n * es) (hleaf : new.all V.leaf = true) {v' : V} {h' : H} (hs : appendV h e es s n new = some (v', h'))
    {sx : Value} (hv : VR g s sx)
    (hnil : n = 0 → (A (.slice none 0 0)).run P w = .ok (.slice none 0 0) w)
    (hin0 : n = 0 → ∀ a sLen sCap, sLen ≤ sCap → (A (.slice (some a) sLen sCap)).run P w = .ok (.slice (some a) sLen sCap) w)
    (hin : ∀ a sLen sCap w', n ≠ 0 → sLen + n ≤ sCap → (storeCells (a.add (sLen * es)) xs).run P w = .ok () w' → (A (.slice (some a) sLen sCap)).run P w = .ok (.slice (some a) (sLen + n) sCap) w')
    (hre : ∀ base sLen sCap old, n ≠ 0 → (Builtin.firstCells es sLen (.slice base sLen sCap)).run P w.drew = .ok old w.drew → sCap < sLen + n → sLen + n ≤ 16777216 → ∃ cap' rest, sLen + n ≤ cap' ∧ rest.length = (cap' - (sLen + n)) * es ∧
      (A (.slice base sLen sCap)).run P w = .ok (.slice (some ⟨w.heap.size, 0, none⟩) (sLen + n) cap') (w.drew.alloc (.cells (old.toList ++ xs ++ rest).toArray e))) :
    Fresh g h.next h'.next → ∃ g' w' x, (A sx).run P w = .ok x w' ∧ VR g' v' x ∧ Rel Q g' h' w' ∧ Ext g h w g' h' w' := by
  have hxl : xs.length = n * es := by rw [← hn.length]; exact hlen
  unfold appendV at hs
  split at hs
  · -- nil
    rw [hv.nils_inv]
    split at hs
    · rename_i h0
      cases hs
      intro _
      exact ⟨g, w, _, hnil h0, .nils, r, Ext.refl g h w⟩
    · rename_i h0
      split at hs
      · rename_i hle
        cases hs
        intro hf
        obtain ⟨cap', rest, hc1, hc2, hrun⟩ := hre none 0 0 #[] h0 (by simp [Builtin.firstCells]) (by omega) (by omega)
        simp only [Nat.zero_add, List.nil_append] at hrun hc1 hc2
        obtain ⟨h1, h2⟩ := newCells_sound (r.drew) (fresh_next hf (by simp [newCells])) e es new xs hn rest false (by simp) (0, 0) (.inl (Nat.le_refl _))
        refine ⟨_, _, _, hrun, ?_, h1, (Ext.drew g h w).trans h2⟩
        refine .sl (e := ⟨w.heap.size, 0, (xs ++ rest).length, es⟩) (by simp [Gh.bind]) hc1 (fun _ => rfl) (fun _ => ?_) (fun cp hc => by omega)
        simp only [List.length_append, hxl, hc2]
        rw [← Nat.add_mul]; simp only [Nat.zero_add]; congr 1; omega
      · cases hs
  · -- an owned slice
    rename_i id off len cap
    obtain ⟨en, a, c, hen, rfl, hlc, ha, hopn, hex⟩ := hv.sl_inv
    split at hs
    · rename_i h0
      cases hs
      intro _
      exact ⟨g, w, _, hin0 h0 _ _ _ hlc, hv, r, Ext.refl g h w⟩
    · rename_i h0
      split at hs
      · cases hs
      · rename_i hbig
        split at hs
        · rename_i ob ck k e' es' cl hid
          split at hs
          · rename_i hee
            obtain ⟨rfl, rfl⟩ := hee
            obtain ⟨en', hen', hor⟩ := r.own _ _ hid
            rw [hen] at hen'; cases hen'
            obtain ⟨arr, fr, hh, hsz, hes', hfr, hcells, hcl⟩ := hor.cells_inv
            have hfit := hcells.fits
            -- in place
            have inpl : ∀ {hn' : H}, stC h (.ptr id (off + len * es)) new = some hn' → len + n ≤ c → ∃ w', (A (.slice (some ⟨en.blk, a, none⟩) len c)).run P w = .ok (.slice (some ⟨en.blk, a, none⟩) (len + n) c) w' ∧ Rel Q g hn' w' ∧ Ext g h w g hn' w' := by
              intro hn' hst hroom
              obtain ⟨ad, w', had, hrun, hr, he, _⟩ := stC_sound (P := P) r hst (.ptr hen) hn
              simp only [Value.pointer.injEq, Option.some.injEq] at had
              have hc0 : c ≠ 0 := by omega
              have e1 : (⟨en.blk, a, none⟩ : Addr).add (len * es) = ad := by rw [Addr.add_lit, ha hc0, ← had]; congr 1; omega
              exact ⟨w', hin _ _ _ _ h0 hroom (by rw [e1]; exact hrun), hr, he⟩
            -- the cells that are there already
            have olds : off + len * es ≤ k → ∃ old : List Value, old.length = len * es ∧ (∀ j, j < len * es → old[j]? = arr[en.off + off + j]?) ∧ (Builtin.firstCells es len (.slice (some ⟨en.blk, a, none⟩) len c)).run P w.drew = .ok old.toArray w.drew := by
              intro hle
              refine ⟨(arr.toList.drop (en.off + off)).take (len * es), by simp; omega, ?_, ?_⟩
              · intro j hj
                rw [List.getElem?_take, if_pos hj, List.getElem?_drop, Array.getElem?_toList]
              · by_cases hl0 : len = 0
                · subst hl0; simp [Builtin.firstCells, loadCells, loadCellsFrom]
                · have hc0 : c ≠ 0 := by omega
                  have hlen2 : ((arr.toList.drop (en.off + off)).take (len * es)).length = len * es := by simp; omega
                  have := run_loadCells_list (P := P) w.drew ⟨en.blk, a, none⟩ ((arr.toList.drop (en.off + off)).take (len * es)) (fun j v hj => by
                    rw [World.cell?_drew, Addr.add_lit, cell_of_row w en.blk _ arr _ fr hh, ha hc0]
                    rw [List.getElem?_take] at hj
                    split at hj
                    · rw [List.getElem?_drop, Array.getElem?_toList] at hj; exact hj
                    · cases hj)
                  rw [hlen2] at this
                  simpa [Builtin.firstCells] using this
            -- a new block
            have anew : ∀ {c' : T V} {k' : Nat} (hg : grown ck k off (len * es) new = some (c', k')), off + len * es ≤ k → c < len + n → g.φ h.next = none →
                ∃ w' cap', (A (.slice (some ⟨en.blk, a, none⟩) len c)).run P w = .ok (.slice (some ⟨w.heap.size, 0, none⟩) (len + n) cap') w' ∧ ∃ sz, len + n ≤ cap' ∧ cap' * es = sz ∧
                Rel Q (g.bind h.next ⟨w.heap.size, 0, sz, es⟩) (h.new (.cells c' k' e es false)) w' ∧ Ext g h w (g.bind h.next ⟨w.heap.size, 0, sz, es⟩) (h.new (.cells c' k' e es false)) w' := by
              intro c' k' hg hle hno hfn
              obtain ⟨old, ol1, ol2, ol3⟩ := olds hle
              obtain ⟨cap', rest, hc1, hc2, hrun⟩ := hre _ len c old.toArray h0 ol3 hno (by omega)
              simp only at hrun
              have hsz2 : (old ++ xs ++ rest).length = cap' * es := by
                simp only [List.length_append, ol1, hxl, hc2]
                rw [← Nat.add_mul, ← Nat.add_mul]; congr 1; omega
              have hcl : CellsR g c' k' (old ++ xs ++ rest).toArray 0 ∧ k' = len * es + xs.length := by
                refine grown_cells hcells hle hg hn ?_ ?_ ?_
                · intro j hj
                  rw [Nat.zero_add, ← ol2 j hj, List.getElem?_toArray, List.append_assoc, List.getElem?_append_left (by omega)]
                · intro j hj
                  rw [List.getElem?_toArray, List.append_assoc, List.getElem?_append_right (by omega), ol1, List.getElem?_append_left (by omega)]
                  congr 1; omega
                · simp; omega
              obtain ⟨h1, h2⟩ := (r.drew).new hfn (.cells c' k' e es false) (.cells (old ++ xs ++ rest).toArray e (0, 0)) ⟨w.heap.size, 0, (old ++ xs ++ rest).length, es⟩ rfl
                ⟨by simp, rfl, rfl, .inl (Nat.le_refl _), hcl.1.mono (g.le_bind _ _ hfn), by simp⟩
              exact ⟨_, cap', hrun, (old ++ xs ++ rest).length, hc1, hsz2.symm, h1, (Ext.drew g h w).trans h2⟩
            split at hs
            · -- the capacity is known
              rename_i cp
              have hcc := hex cp rfl
              subst hcc
              split at hs
              · rename_i hroom
                split at hs
                · rename_i hn' hst
                  cases hs
                  intro _
                  obtain ⟨w', hrun, hr, he⟩ := inpl hst hroom
                  exact ⟨g, w', _, hrun, .sl hen hroom ha (fun hc => by omega) (fun cp hc => by omega), hr, he⟩
                · cases hs
              · rename_i hroom
                split at hs
                · rename_i hle
                  split at hs
                  · rename_i c' k' hg
                    cases hs
                    intro hf
                    obtain ⟨w', cap', hrun, sz, h1, h2, h3, h4⟩ := anew hg hle (by omega) (fresh_next hf (by simp))
                    refine ⟨_, w', _, hrun, .sl (e := ⟨w.heap.size, 0, sz, es⟩) (by simp) h1 (fun _ => rfl) (fun _ => by simpa using h2) (fun cp hc => by omega), h3, h4⟩
                  · cases hs
                · cases hs
            · -- it isn't
              split at hs
              · rename_i hroom
                split at hs
                · rename_i hn' hst
                  cases hs
                  intro _
                  have hroom2 : len + n ≤ c := by
                    have h5 := hopn rfl
                    have h6 : (len + n) * es ≤ c * es := by rw [hes'] at hroom ⊢; omega
                    exact Nat.le_of_mul_le_mul_right h6 (by omega)
                  obtain ⟨w', hrun, hr, he⟩ := inpl hst hroom2
                  exact ⟨g, w', _, hrun, .sl hen hroom2 ha (fun _ => hopn rfl) (fun cp hc => by omega), hr, he⟩
                · cases hs
              · rename_i hroom
                split at hs
                · rename_i hle
                  split at hs
                  · rename_i c' k' hg
                    cases hs
                    intro hf
                    have hfn : g.φ h.next = none := fresh_next hf (by simp)
                    by_cases hcap : len + n ≤ c
                    · -- the block had room, behind what is known: the very block, under a new name
                      have hc0 : c ≠ 0 := by omega
                      have h5 := hopn rfl
                      have h6 : (len + n) * es ≤ c * es := Nat.mul_le_mul_right _ hcap
                      rw [← hes'] at h5
                      have h7 : (len + n) * es = len * es + n * es := Nat.add_mul _ _ _
                      obtain ⟨w', arr', hrun, q1, q2, q3, q4, q5, q6, q7, q8⟩ := run_storeCells_gen P en.blk (en.off + off + len * es) e fr xs 0 arr w hh (by omega) hfr (hn.oneCells hleaf)
                      have e1 : (⟨en.blk, a, none⟩ : Addr).add (len * es) = ⟨en.blk, en.off + off + len * es, none⟩ := by rw [Addr.add_lit, ha hc0]
                      have hcl : CellsR g c' k' arr' (en.off + off) ∧ k' = len * es + xs.length := by
                        refine grown_cells hcells hle hg hn ?_ ?_ (by rw [q2]; omega)
                        · intro j hj
                          rw [q3, if_neg (by omega)]
                        · intro j hj
                          rw [q3, if_pos (by omega)]
                          congr 1; omega
                      obtain ⟨h1, h2⟩ := r.rename hfn hid hen (.cells c' k' e es false) (.cells arr' e fr) w' ⟨en.blk, en.off + off, en.size, es⟩ rfl q1 q5 q4 q6 q7 q8
                        ⟨by rw [q2]; exact hsz, rfl, rfl, by rw [q2]; exact hfr, hcl.1.mono (g.le_bind _ _ hfn), by simp⟩
                      refine ⟨_, w', _, hin _ _ _ _ h0 hcap (by rw [e1]; exact hrun), ?_, h1, h2⟩
                      exact .sl (e := ⟨en.blk, en.off + off, en.size, es⟩) (by simp) hcap (fun _ => by rw [ha hc0]; simp) (fun _ => by simpa using h5) (fun cp hc => by omega)
                    · obtain ⟨w', cap', hrun, sz, h1, h2, h3, h4⟩ := anew hg hle (by omega) hfn
                      obtain ⟨h5, h6⟩ := h3.del id
                      exact ⟨_, w', _, hrun, .sl (e := ⟨w.heap.size, 0, sz, es⟩) (by simp) h1 (fun _ => rfl) (fun _ => by simpa using h2) (fun cp hc => by omega), h5, h4.trans h6⟩
                  · cases hs
                · cases hs
          · cases hs
        · cases hs
  · -- a frozen slice
    rename_i cs len cap
    obtain ⟨k, o, arr, c, hF, rfl, hlc, hx, hex⟩ := hv.fs_inv
    split at hs
    · rename_i h0
      cases hs
      intro _
      exact ⟨g, w, _, hin0 h0 _ _ _ hlc, hv, r, Ext.refl g h w⟩
    · rename_i h0
      split at hs
      · cases hs
      · rename_i hbig
        split at hs
        · rename_i cp
          have hcc := hex cp rfl
          subst hcc
          split at hs
          · rename_i hc
            simp only [Bool.and_eq_true, decide_eq_true_eq] at hc
            obtain ⟨hno, hle⟩ := hc
            cases hs
            intro hf
            obtain ⟨old, hold, hro⟩ : ∃ old : List Value, (Builtin.firstCells es len (.slice (some ⟨k, o, none⟩) len c)).run P w.drew = .ok old.toArray w.drew ∧ VRs g (cs.take (len * es)) old := by
              have hfo : firstOf h es len (.fs cs len (c + 1)) = some (cs.take (len * es)) := by simp [firstOf, hle]
              obtain ⟨old, h1, h2⟩ := firstOf_sound r hfo hv
              exact ⟨old, h1 P w.drew rfl, h2⟩
            obtain ⟨cap', rest, hc1, hc2, hrun⟩ := hre _ len c old.toArray h0 hold hno (by omega)
            simp only at hrun
            have hol : old.length = len * es := by rw [← hro.length]; simp; omega
            obtain ⟨h1, h2⟩ := newCells_sound (r.drew) (fresh_next hf (by simp [newCells])) e es (cs.take (len * es) ++ new) (old ++ xs) (hro.append hn) rest false (by simp) (0, 0) (.inl (Nat.le_refl _))
            refine ⟨_, _, _, hrun, ?_, h1, (Ext.drew g h w).trans h2⟩
            refine .sl (e := ⟨w.heap.size, 0, (old ++ xs ++ rest).length, es⟩) (by simp [Gh.bind]) hc1 (fun _ => rfl) (fun _ => ?_) (fun cp hc => by omega)
            simp only [List.length_append, hxl, hc2, hol]
            rw [← Nat.add_mul, ← Nat.add_mul]; simp only [Nat.zero_add]; congr 1; omega
          · cases hs
        · cases hs
  · cases hs

theorem zeroCells_list (z : Array Value) (n : Nat) (h0 : 0 < z.size) : (Builtin.zeroCells z n).toList = (List.replicate n z.toList).flatten := by
  unfold Builtin.zeroCells
  exact range_mod_reps z z.size rfl h0 n
theorem zeroCells_length (z : Array Value) (n : Nat) : (Builtin.zeroCells z n).toList.length = n * z.size := by simp [Builtin.zeroCells]

/-- A call of a builtin. -/
theorem run_builtin {P : Program} {ρ : Operand → Value} {o : Oper} {b : Builtin} {args : Array Operand} {ats : Array TypeId} (ho : o.op = .call ⟨.builtin b, args, ats⟩) :
    ∃ cs, (execOp ρ o).run P w = (builtin b ats o.type cs (args.map ρ)).run P w :=
  ⟨_, by simp [execOp, ho, resolve, invoke]; rfl⟩

variable (hT : TTok C.P C.tt) (r : Rel Q g h w) (hρ : ∀ x y, cX C x = some y → VR g (y.val rs) (ρ x))

theorem cXs_two {args : Array Operand} {a b : X} (h : cXs C args.toList = some [a, b]) : ∃ x y, args = #[x, y] ∧ cX C x = some a ∧ cX C y = some b := by
  obtain ⟨l⟩ := args
  match l with
  | [] => simp [cXs] at h
  | [x] => simp [cXs] at h; split at h <;> simp_all
  | [x, y] =>
    simp only [cXs] at h
    split at h
    · rename_i a' l' ha hl
      split at hl
      · rename_i b' l'' hb hl'
        simp only [Option.some.injEq] at hl hl' h
        subst hl'; subst hl
        simp only [List.cons.injEq, and_true] at h
        obtain ⟨rfl, rfl⟩ := h
        exact ⟨x, y, rfl, ha, hb⟩
      · cases hl
    · cases h
  | x :: y :: z :: l =>
    exfalso
    simp only [cXs] at h
    split at h
    · rename_i a' l' ha hl
      split at hl
      · rename_i b' l'' hb hl'
        split at hl'
        · simp only [Option.some.injEq] at hl hl' h
          subst hl'; subst hl
          simp at h
        · cases hl'
      · cases hl
    · cases h
theorem cXs_one {args : Array Operand} {a : X} (h : cXs C args.toList = some [a]) : ∃ x, args = #[x] ∧ cX C x = some a := by
  obtain ⟨l⟩ := args
  match l with
  | [] => simp [cXs] at h
  | [x] =>
    simp only [cXs] at h
    split at h
    · rename_i a' l' ha hl
      simp only [Option.some.injEq] at hl h
      subst hl
      simp only [List.cons.injEq, and_true] at h
      exact ⟨x, rfl, by rw [ha, h]⟩
    · cases h
  | x :: y :: l =>
    exfalso
    simp only [cXs] at h
    split at h
    · rename_i a' l' ha hl
      split at hl
      · simp only [Option.some.injEq] at hl h
        subst hl
        simp at h
      · cases hl
    · cases h

include hT r hρ in
theorem snd_app {args : Array Operand} {ats : Array TypeId} {t e : Nat} {ts te : TI} (h0 : ats[0]? = some t) (hts : C.tt t = some ts) (hd : ts.d = .slice e) (hte : C.tt e = some te) (hn0 : te.n ≠ 0) (hb : te.bytes ≤ 4096) {z : List V} (hz : zeroCells te = some z)
    {tx : Nat} {ttx : TI} (h1 : ats[1]? = some tx) (htx : C.tt tx = some ttx) (hk : ∀ k, ttx.d ≠ .int k) {s' x' : X} (hx : cXs C args.toList = some [s', x'])
    {o : Oper} (ho : o.op = .call ⟨.builtin .append, args, ats⟩) {or : OR} (hs : opSem (.app e te.n s' x') rs h = some or) : OpOK C.P Q g h w (execOp ρ o) or := by
  obtain ⟨s, x, rfl, hcs, hcx⟩ := cXs_two hx
  have hvs := hρ _ _ hcs
  have hvx := hρ _ _ hcx
  obtain ⟨zv, hzv, hzr, hzn, hzl⟩ := zeroCells_VRs g hz
  have hzs : zv.cells.size = te.n := by have := hzr.length; simp only [Array.length_toList] at this; omega
  simp only [opSem] at hs
  split at hs
  · rename_i n hn
    split at hs
    · rename_i new hnew
      split at hs
      · rename_i hleaf
        split at hs
        · rename_i v' h' hap
          cases hs
          obtain ⟨xs, hxs, hnr⟩ := firstOf_sound r hnew hvx
          have hlen := firstOf_length hnew
          have hln := lenV_sound hn hvx C.P
          intro hf
          obtain ⟨g', w', y, hrun, hvy, hr, he⟩ := appendV_sound (P := C.P) (A := fun sv => Builtin.append_ ats o.type #[sv, ρ x]) r hn0 hnr hlen hleaf hap hvs
            (by
              intro hz0
              have : xs = [] := List.eq_nil_of_length_eq_zero (by rw [← hnr.length, hlen, hz0]; simp)
              subst this
              subst hz0
              have := hxs C.P w rfl
              simp [Builtin.append_, h0, h1, run_under hT hts, hd, run_siz hT hte, run_under hT htx, hln w, this])
            (by
              intro hz0 a sLen sCap hle
              subst hz0
              have : xs = [] := List.eq_nil_of_length_eq_zero (by rw [← hnr.length, hlen]; simp)
              subst this
              have := run_app_in (w := w) hT h0 hts hd hte h1 htx hk o.type (a := a) (sLen := sLen) (sCap := sCap) (hln w) (hxs C.P w rfl) (by omega) (w' := w) (by simp [storeCells])
              simpa using this)
            (by
              intro a sLen sCap w' _ hroom hst
              exact run_app_in hT h0 hts hd hte h1 htx hk o.type (hln w) (hxs C.P w rfl) hroom hst)
            (by
              intro base sLen sCap old _ hold hno hle
              refine ⟨grownCap w (sLen + n) sCap e, (Builtin.zeroCells zv.cells (grownCap w (sLen + n) sCap e - (sLen + n))).toList, grownCap_ge w _ _ _, by rw [zeroCells_length, hzs], ?_⟩
              have := run_app_re (w := w) hT h0 hts hd hte h1 htx hk o.type hzv (hln w) (hxs C.P w.drew rfl) hold hno hb (by omega)
              rw [this]
              congr 3
              apply Array.ext'; simp) hf
          refine ⟨g', w', y, _, ?_, .inl rfl, hvy, hr, he⟩
          obtain ⟨cs, hcs⟩ := run_builtin (P := C.P) (w := w) (ρ := ρ) ho
          rw [hcs]
          simp only [builtin, List.map_toArray, List.map_cons, List.map_nil]
          simp [hrun]
        · cases hs
      · cases hs
    · cases hs
  · cases hs
include hT r hρ in
theorem snd_appZ {args : Array Operand} {ats : Array TypeId} {t e : Nat} {ts te : TI} (h0 : ats[0]? = some t) (hts : C.tt t = some ts) (hd : ts.d = .slice e) (hte : C.tt e = some te) (hn0 : te.n ≠ 0) (hb : te.bytes ≤ 4096) {z : List V} (hz : zeroCells te = some z)
    {tx : Nat} {ttx : TI} (h1 : ats[1]? = some tx) (htx : C.tt tx = some ttx) {k : IntKind} (hk : ttx.d = .int k) {s' x' : X} (hx : cXs C args.toList = some [s', x'])
    {o : Oper} (ho : o.op = .call ⟨.builtin .append, args, ats⟩) {or : OR} (hs : opSem (.appZ e te.n z s' x') rs h = some or) : OpOK C.P Q g h w (execOp ρ o) or := by
  obtain ⟨s, x, rfl, hcs, hcx⟩ := cXs_two hx
  have hvs := hρ _ _ hcs
  have hvx := hρ _ _ hcx
  obtain ⟨zv, hzv, hzr, hzn, hzl⟩ := zeroCells_VRs g hz
  have hzs : zv.cells.size = te.n := by have := hzr.length; simp only [Array.length_toList] at this; omega
  simp only [opSem] at hs
  split at hs
  · rename_i n hn
    obtain ⟨j, hj⟩ := natI_inv hn hvx
    split at hs
    · rename_i hle
      split at hs
      · rename_i v' h' hap
        cases hs
        have hnr : VRs g (reps n z) (Builtin.zeroCells zv.cells n).toList := by rw [zeroCells_list zv.cells n (by omega)]; exact hzr.reps n
        have hlen : (reps n z).length = n * te.n := by rw [hnr.length, zeroCells_length, hzs]
        have hleaf : (reps n z).all V.leaf = true := by
          unfold reps
          rw [List.all_eq_true] at hzl ⊢
          intro v hv
          simp only [List.mem_flatten, List.mem_replicate] at hv
          obtain ⟨l, ⟨_, rfl⟩, hv⟩ := hv
          exact hzl v hv
        intro hf
        obtain ⟨g', w', y, hrun, hvy, hr, he⟩ := appendV_sound (P := C.P) (A := fun sv => Builtin.append_ ats o.type #[sv, .int j (n : Int)]) r hn0 hnr hlen hleaf hap hvs
          (by
            intro hz0
            subst hz0
            obtain ⟨ie, hie, hib1, hib2, hib3⟩ := (hT _ _ hte).2
            have w1 : IntKind.i64.wrap 0 = 0 := by decide
            simp [Builtin.append_, h0, h1, run_under hT hts, hd, run_siz hT hte, run_under hT htx, hk, asInt, asIntOf, typeInfo, hie, w1])
          (by
            intro hz0 a sLen sCap hle3
            subst hz0
            obtain ⟨ie, hie, hib1, hib2, hib3⟩ := (hT _ _ hte).2
            have w1 : IntKind.i64.wrap 0 = 0 := by decide
            simp [Builtin.append_, h0, h1, run_under hT hts, hd, run_siz hT hte, run_under hT htx, hk, asInt, asIntOf, typeInfo, hie, w1, storeCells]
            intro hlt; omega)
          (by
            intro a sLen sCap w' hne hroom hst
            exact run_appZ_in hT h0 hts hd hte h1 htx hk o.type hzv hb hle hroom (by intro hh; rcases Nat.mul_eq_zero.1 hh with h | h <;> omega) hst)
          (by
            intro base sLen sCap old hne hold hno hle2
            refine ⟨grownCap w (sLen + n) sCap e, (Builtin.zeroCells zv.cells (grownCap w (sLen + n) sCap e - (sLen + n))).toList, grownCap_ge w _ _ _, by rw [zeroCells_length, hzs], ?_⟩
            have := run_appZ_re (w := w) (j := j) hT h0 hts hd hte h1 htx hk o.type hzv hb hle hold (by intro hh; rcases Nat.mul_eq_zero.1 hh with h | h <;> omega) hno (by omega)
            rw [this]
            congr 3
            apply Array.ext'; simp) hf
        refine ⟨g', w', y, _, ?_, .inl rfl, hvy, hr, he⟩
        obtain ⟨cs, hcs⟩ := run_builtin (P := C.P) (w := w) (ρ := ρ) ho
        rw [hcs]
        simp only [builtin, List.map_toArray, List.map_cons, List.map_nil, hj]
        simp [hrun]
      · cases hs
    · cases hs
  · cases hs
end
end Ax
