/- The abstract executor, part 1: abstract values, the trie, abstract heaps, compiled code. -/
import GoSem.Step
import Derived.Laws.Rows
import Derived.Laws.CopyRow
import Derived.Laws.Entries
import Derived.Laws.Cells
set_option linter.all false
namespace Ax
open Go

/-- An abstract value. 'top': nothing is known. Strings: length and code (the first byte lowest). 'ptr', 'sl', 'm': into a block that is owned. 'fp', 'fs': frozen memory, by contents. A capacity c + 1 is c; 0: not known. -/
inductive V where
  | top
  | i (n : Int)
  | u (k : IntKind) (n : Int)
  | b (x : Bool)
  | s (len code : Nat)
  | ptr (id off : Nat)
  | fp (cs : List V)
  | sl (id off len cap : Nat)
  | fs (cs : List V) (len cap : Nat)
  | m (id : Nat)
  | fn (f : Nat) (caps : List V)
  | yld (id : Nat)
  | nilp | nils | nilm | nilf | nili
  | ifc (t : Nat) (v : V)
  | agg (cs : List V)
  | tup (vs : List V)
  deriving Inhabited

def V.undef : V := .tup []

/-! Rows of sixteen. What the kernel is to carry out is told by recursors, and a row of numbers is told apart by digits: 'dig' of a numeral is worked out once. -/
inductive D16 where
  | d0 | d1 | d2 | d3 | d4 | d5 | d6 | d7 | d8 | d9 | d10 | d11 | d12 | d13 | d14 | d15
  deriving DecidableEq
structure R16 (α : Type) where
  a0 : α
  a1 : α
  a2 : α
  a3 : α
  a4 : α
  a5 : α
  a6 : α
  a7 : α
  a8 : α
  a9 : α
  a10 : α
  a11 : α
  a12 : α
  a13 : α
  a14 : α
  a15 : α

def R16.fill {α : Type} (x : α) : R16 α := ⟨x, x, x, x, x, x, x, x, x, x, x, x, x, x, x, x⟩
noncomputable def R16.get {α : Type} (d : D16) : R16 α → α :=
  D16.rec (motive := fun _ => R16 α → α) (fun r => r.a0) (fun r => r.a1) (fun r => r.a2) (fun r => r.a3) (fun r => r.a4) (fun r => r.a5) (fun r => r.a6) (fun r => r.a7) (fun r => r.a8) (fun r => r.a9) (fun r => r.a10) (fun r => r.a11) (fun r => r.a12) (fun r => r.a13) (fun r => r.a14) (fun r => r.a15) d
noncomputable def R16.s0 {α : Type} : R16 α → α → R16 α := R16.rec fun _ a1 a2 a3 a4 a5 a6 a7 a8 a9 a10 a11 a12 a13 a14 a15 x => ⟨x, a1, a2, a3, a4, a5, a6, a7, a8, a9, a10, a11, a12, a13, a14, a15⟩
noncomputable def R16.s1 {α : Type} : R16 α → α → R16 α := R16.rec fun a0 _ a2 a3 a4 a5 a6 a7 a8 a9 a10 a11 a12 a13 a14 a15 x => ⟨a0, x, a2, a3, a4, a5, a6, a7, a8, a9, a10, a11, a12, a13, a14, a15⟩
noncomputable def R16.s2 {α : Type} : R16 α → α → R16 α := R16.rec fun a0 a1 _ a3 a4 a5 a6 a7 a8 a9 a10 a11 a12 a13 a14 a15 x => ⟨a0, a1, x, a3, a4, a5, a6, a7, a8, a9, a10, a11, a12, a13, a14, a15⟩
noncomputable def R16.s3 {α : Type} : R16 α → α → R16 α := R16.rec fun a0 a1 a2 _ a4 a5 a6 a7 a8 a9 a10 a11 a12 a13 a14 a15 x => ⟨a0, a1, a2, x, a4, a5, a6, a7, a8, a9, a10, a11, a12, a13, a14, a15⟩
noncomputable def R16.s4 {α : Type} : R16 α → α → R16 α := R16.rec fun a0 a1 a2 a3 _ a5 a6 a7 a8 a9 a10 a11 a12 a13 a14 a15 x => ⟨a0, a1, a2, a3, x, a5, a6, a7, a8, a9, a10, a11, a12, a13, a14, a15⟩
noncomputable def R16.s5 {α : Type} : R16 α → α → R16 α := R16.rec fun a0 a1 a2 a3 a4 _ a6 a7 a8 a9 a10 a11 a12 a13 a14 a15 x => ⟨a0, a1, a2, a3, a4, x, a6, a7, a8, a9, a10, a11, a12, a13, a14, a15⟩
noncomputable def R16.s6 {α : Type} : R16 α → α → R16 α := R16.rec fun a0 a1 a2 a3 a4 a5 _ a7 a8 a9 a10 a11 a12 a13 a14 a15 x => ⟨a0, a1, a2, a3, a4, a5, x, a7, a8, a9, a10, a11, a12, a13, a14, a15⟩
noncomputable def R16.s7 {α : Type} : R16 α → α → R16 α := R16.rec fun a0 a1 a2 a3 a4 a5 a6 _ a8 a9 a10 a11 a12 a13 a14 a15 x => ⟨a0, a1, a2, a3, a4, a5, a6, x, a8, a9, a10, a11, a12, a13, a14, a15⟩
noncomputable def R16.s8 {α : Type} : R16 α → α → R16 α := R16.rec fun a0 a1 a2 a3 a4 a5 a6 a7 _ a9 a10 a11 a12 a13 a14 a15 x => ⟨a0, a1, a2, a3, a4, a5, a6, a7, x, a9, a10, a11, a12, a13, a14, a15⟩
noncomputable def R16.s9 {α : Type} : R16 α → α → R16 α := R16.rec fun a0 a1 a2 a3 a4 a5 a6 a7 a8 _ a10 a11 a12 a13 a14 a15 x => ⟨a0, a1, a2, a3, a4, a5, a6, a7, a8, x, a10, a11, a12, a13, a14, a15⟩
noncomputable def R16.s10 {α : Type} : R16 α → α → R16 α := R16.rec fun a0 a1 a2 a3 a4 a5 a6 a7 a8 a9 _ a11 a12 a13 a14 a15 x => ⟨a0, a1, a2, a3, a4, a5, a6, a7, a8, a9, x, a11, a12, a13, a14, a15⟩
noncomputable def R16.s11 {α : Type} : R16 α → α → R16 α := R16.rec fun a0 a1 a2 a3 a4 a5 a6 a7 a8 a9 a10 _ a12 a13 a14 a15 x => ⟨a0, a1, a2, a3, a4, a5, a6, a7, a8, a9, a10, x, a12, a13, a14, a15⟩
noncomputable def R16.s12 {α : Type} : R16 α → α → R16 α := R16.rec fun a0 a1 a2 a3 a4 a5 a6 a7 a8 a9 a10 a11 _ a13 a14 a15 x => ⟨a0, a1, a2, a3, a4, a5, a6, a7, a8, a9, a10, a11, x, a13, a14, a15⟩
noncomputable def R16.s13 {α : Type} : R16 α → α → R16 α := R16.rec fun a0 a1 a2 a3 a4 a5 a6 a7 a8 a9 a10 a11 a12 _ a14 a15 x => ⟨a0, a1, a2, a3, a4, a5, a6, a7, a8, a9, a10, a11, a12, x, a14, a15⟩
noncomputable def R16.s14 {α : Type} : R16 α → α → R16 α := R16.rec fun a0 a1 a2 a3 a4 a5 a6 a7 a8 a9 a10 a11 a12 a13 _ a15 x => ⟨a0, a1, a2, a3, a4, a5, a6, a7, a8, a9, a10, a11, a12, a13, x, a15⟩
noncomputable def R16.s15 {α : Type} : R16 α → α → R16 α := R16.rec fun a0 a1 a2 a3 a4 a5 a6 a7 a8 a9 a10 a11 a12 a13 a14 _ x => ⟨a0, a1, a2, a3, a4, a5, a6, a7, a8, a9, a10, a11, a12, a13, a14, x⟩
noncomputable def R16.set {α : Type} (d : D16) : R16 α → α → R16 α :=
  D16.rec (motive := fun _ => R16 α → α → R16 α) R16.s0 R16.s1 R16.s2 R16.s3 R16.s4 R16.s5 R16.s6 R16.s7 R16.s8 R16.s9 R16.s10 R16.s11 R16.s12 R16.s13 R16.s14 R16.s15 d
theorem R16.get_fill {α : Type} (x : α) (d : D16) : R16.get d (R16.fill x) = x := by cases d <;> rfl
theorem R16.get_set {α : Type} (r : R16 α) (d e : D16) (x : α) : R16.get e (R16.set d r x) = if e = d then x else R16.get e r := by
  cases d <;> cases e <;> simp <;> rfl
def D16.val : D16 → Nat
  | .d0 => 0
  | .d1 => 1
  | .d2 => 2
  | .d3 => 3
  | .d4 => 4
  | .d5 => 5
  | .d6 => 6
  | .d7 => 7
  | .d8 => 8
  | .d9 => 9
  | .d10 => 10
  | .d11 => 11
  | .d12 => 12
  | .d13 => 13
  | .d14 => 14
  | .d15 => 15
/-- The digit of m + 1. -/
noncomputable def d16S (m : Nat) : D16 :=
  Nat.rec (motive := fun _ => D16) .d1 (fun m _ => Nat.rec (motive := fun _ => D16) .d2 (fun m _ => Nat.rec (motive := fun _ => D16) .d3 (fun m _ => Nat.rec (motive := fun _ => D16) .d4 (fun m _ => Nat.rec (motive := fun _ => D16) .d5 (fun m _ => Nat.rec (motive := fun _ => D16) .d6 (fun m _ => Nat.rec (motive := fun _ => D16) .d7 (fun m _ => Nat.rec (motive := fun _ => D16) .d8 (fun m _ => Nat.rec (motive := fun _ => D16) .d9 (fun m _ => Nat.rec (motive := fun _ => D16) .d10 (fun m _ => Nat.rec (motive := fun _ => D16) .d11 (fun m _ => Nat.rec (motive := fun _ => D16) .d12 (fun m _ => Nat.rec (motive := fun _ => D16) .d13 (fun m _ => Nat.rec (motive := fun _ => D16) .d14 (fun _ _ => .d15) m) m) m) m) m) m) m) m) m) m) m) m) m) m
noncomputable def d16 (k : Nat) : D16 := Nat.rec (motive := fun _ => D16) .d0 (fun m _ => d16S m) k
theorem d16_val (k : Nat) (h : k < 16) : (d16 k).val = k := by
  have : k = 0 ∨ k = 1 ∨ k = 2 ∨ k = 3 ∨ k = 4 ∨ k = 5 ∨ k = 6 ∨ k = 7 ∨ k = 8 ∨ k = 9 ∨ k = 10 ∨ k = 11 ∨ k = 12 ∨ k = 13 ∨ k = 14 ∨ k = 15 := by omega
  rcases this with rfl | rfl | rfl | rfl | rfl | rfl | rfl | rfl | rfl | rfl | rfl | rfl | rfl | rfl | rfl | rfl <;> rfl

/-- The digits of a number. -/
inductive DK where
  | c1 (a : D16)
  | c3 (a b c : D16)
  | c4 (a b c d : D16)
  | cb (k : Nat)
  deriving DecidableEq
noncomputable def digS (m : Nat) : DK :=
  Bool.rec (Bool.rec (Bool.rec (.cb (Nat.succ m)) (.c4 (d16 (Nat.div (Nat.succ m) 4096)) (d16 (Nat.mod (Nat.div (Nat.succ m) 256) 16)) (d16 (Nat.mod (Nat.div (Nat.succ m) 16) 16)) (d16 (Nat.mod (Nat.succ m) 16))) (Nat.ble m 65534))
    (.c3 (d16 (Nat.div (Nat.succ m) 256)) (d16 (Nat.mod (Nat.div (Nat.succ m) 16) 16)) (d16 (Nat.mod (Nat.succ m) 16))) (Nat.ble m 4094)) (.c1 (d16S m)) (Nat.ble m 14)
noncomputable def dig (k : Nat) : DK := Nat.rec (motive := fun _ => DK) (.c1 .d0) (fun m _ => digS m) k
def DK.val : DK → Nat
  | .c1 a => a.val
  | .c3 a b c => (a.val * 16 + b.val) * 16 + c.val
  | .c4 a b c d => ((a.val * 16 + b.val) * 16 + c.val) * 16 + d.val
  | .cb k => k
theorem dig_val (k : Nat) : (dig k).val = k := by
  cases k with
  | zero => rfl
  | succ m =>
    show (digS m).val = m + 1
    unfold digS
    cases h1 : Nat.ble m 14 with
    | true =>
      have := Nat.le_of_ble_eq_true h1
      exact d16_val (m + 1) (by omega)
    | false =>
      cases h2 : Nat.ble m 4094 with
      | true =>
        have := Nat.le_of_ble_eq_true h2
        show ((d16 ((m + 1) / 256)).val * 16 + (d16 ((m + 1) / 16 % 16)).val) * 16 + (d16 ((m + 1) % 16)).val = m + 1
        rw [d16_val _ (by omega), d16_val _ (by omega), d16_val _ (by omega)]
        omega
      | false =>
        cases h3 : Nat.ble m 65534 with
        | true =>
          have := Nat.le_of_ble_eq_true h3
          show (((d16 ((m + 1) / 4096)).val * 16 + (d16 ((m + 1) / 256 % 16)).val) * 16 + (d16 ((m + 1) / 16 % 16)).val) * 16 + (d16 ((m + 1) % 16)).val = m + 1
          rw [d16_val _ (by omega), d16_val _ (by omega), d16_val _ (by omega), d16_val _ (by omega)]
          omega
        | false => rfl
theorem dig_inj {j k : Nat} (h : dig j = dig k) : j = k := by rw [← dig_val j, ← dig_val k, h]

/-- A trie over numbers, for the great ones. -/
inductive TB (α : Type) where
  | e
  | n (v : Option α) (l r : TB α)

noncomputable def TB.get {α : Type} (t : TB α) : Nat → Option α :=
  TB.rec (motive := fun _ => Nat → Option α) (fun _ => none)
    (fun v _ _ il ir k => Nat.rec (motive := fun _ => Option α) v (fun m _ => Bool.rec (ir (Nat.div m 2)) (il (Nat.div m 2)) (Nat.beq (Nat.mod m 2) 0)) k) t

noncomputable def TB.sing {α : Type} (x : Option α) (f : Nat) : Nat → TB α :=
  Nat.rec (motive := fun _ => Nat → TB α) (fun _ => .n x .e .e)
    (fun _ ih k => Nat.rec (motive := fun _ => TB α) (.n x .e .e) (fun m _ => Bool.rec (.n none .e (ih (Nat.div m 2))) (.n none (ih (Nat.div m 2)) .e) (Nat.beq (Nat.mod m 2) 0)) k) f

noncomputable def TB.upd {α : Type} (x : Option α) (t : TB α) : Nat → TB α :=
  TB.rec (motive := fun _ => Nat → TB α) (fun k => TB.sing x k k)
    (fun v l r il ir k => Nat.rec (motive := fun _ => TB α) (.n x l r) (fun m _ => Bool.rec (.n v l (ir (Nat.div m 2))) (.n v (il (Nat.div m 2)) r) (Nat.beq (Nat.mod m 2) 0)) k) t


section trie
variable {α : Type}
@[simp] theorem TB.get_e (k : Nat) : (TB.e : TB α).get k = none := rfl
@[simp] theorem TB.get_zero (v : Option α) (l r : TB α) : (TB.n v l r).get 0 = v := rfl
theorem TB.get_succ (v : Option α) (l r : TB α) (k : Nat) : (TB.n v l r).get (k + 1) = if k % 2 = 0 then l.get (k / 2) else r.get (k / 2) := by
  show (Bool.rec (r.get (k / 2)) (l.get (k / 2)) (Nat.beq (k % 2) 0) : Option α) = _
  by_cases h : k % 2 = 0
  · simp [h]
  · have : Nat.beq (k % 2) 0 = false := by rw [Nat.mod_two_not_eq_zero.1 h]; rfl
    rw [this, if_neg h]
theorem TB.sing_zero (x : Option α) (f : Nat) : TB.sing x f 0 = .n x .e .e := by cases f <;> rfl
theorem TB.sing_succ (x : Option α) (f k : Nat) : TB.sing x (f + 1) (k + 1) = if k % 2 = 0 then .n none (TB.sing x f (k / 2)) .e else .n none .e (TB.sing x f (k / 2)) := by
  show (Bool.rec _ _ (Nat.beq (k % 2) 0) : TB α) = _
  by_cases h : k % 2 = 0
  · simp [h]; rfl
  · have : Nat.beq (k % 2) 0 = false := by rw [Nat.mod_two_not_eq_zero.1 h]; rfl
    rw [this, if_neg h]; rfl
theorem TB.upd_e (x : Option α) (k : Nat) : TB.upd x (.e : TB α) k = TB.sing x k k := rfl
theorem TB.upd_zero (x v : Option α) (l r : TB α) : TB.upd x (.n v l r) 0 = .n x l r := rfl
theorem TB.upd_succ (x v : Option α) (l r : TB α) (k : Nat) : TB.upd x (.n v l r) (k + 1) = if k % 2 = 0 then .n v (TB.upd x l (k / 2)) r else .n v l (TB.upd x r (k / 2)) := by
  show (Bool.rec _ _ (Nat.beq (k % 2) 0) : TB α) = _
  by_cases h : k % 2 = 0
  · simp [h]; rfl
  · have : Nat.beq (k % 2) 0 = false := by rw [Nat.mod_two_not_eq_zero.1 h]; rfl
    rw [this, if_neg h]; rfl
theorem TB.get_sing (x : Option α) : ∀ (f k j : Nat), k ≤ f → (TB.sing x f k).get j = if j = k then x else none := by
  intro f
  induction f with
  | zero => intro k j hk; obtain rfl : k = 0 := by omega
            rw [TB.sing_zero]; cases j <;> simp [TB.get_succ]
  | succ f ih =>
    intro k j hk
    cases k with
    | zero => rw [TB.sing_zero]; cases j <;> simp [TB.get_succ]
    | succ k =>
      rw [TB.sing_succ]
      cases j with
      | zero => split <;> simp
      | succ j =>
        have := ih (k / 2) (j / 2) (by omega)
        by_cases h : k % 2 = 0 <;> by_cases h' : j % 2 = 0 <;> simp [h, h', TB.get_succ, this] <;> (try split) <;> (try split) <;> (try rfl) <;> omega
theorem TB.get_upd (x : Option α) (t : TB α) : ∀ (k j : Nat), (TB.upd x t k).get j = if j = k then x else t.get j := by
  induction t with
  | e => intro k j; rw [TB.upd_e, TB.get_sing x k k j (Nat.le_refl _)]; simp
  | n v l r il ir =>
    intro k j
    cases k with
    | zero => rw [TB.upd_zero]; cases j <;> simp [TB.get_succ]
    | succ k =>
      rw [TB.upd_succ]
      cases j with
      | zero => split <;> simp
      | succ j =>
        by_cases h : k % 2 = 0 <;> by_cases h' : j % 2 = 0 <;> simp [h, h', TB.get_succ, il, ir] <;> (try split) <;> (try split) <;> (try rfl) <;> omega
end trie

/-- A table over numbers: small ones, those below 4096, those below 65536, others. -/
structure T (α : Type) where
  s : R16 (Option α)
  m : R16 (R16 (R16 (Option α)))
  l : R16 (R16 (R16 (R16 (Option α))))
  b : TB α
def T.e {α : Type} : T α := ⟨R16.fill none, R16.fill (R16.fill (R16.fill none)), R16.fill (R16.fill (R16.fill (R16.fill none))), .e⟩
noncomputable def T.at {α : Type} (d : DK) : T α → Option α :=
  DK.rec (motive := fun _ => T α → Option α) (fun a t => R16.get a t.s) (fun a b c t => R16.get c (R16.get b (R16.get a t.m))) (fun a b c d t => R16.get d (R16.get c (R16.get b (R16.get a t.l)))) (fun k t => TB.get t.b k) d
noncomputable def T.get {α : Type} (t : T α) (k : Nat) : Option α := T.at (dig k) t
noncomputable def T.to {α : Type} (d : DK) : T α → Option α → T α :=
  DK.rec (motive := fun _ => T α → Option α → T α) (fun a => T.rec fun s m l b x => ⟨R16.set a s x, m, l, b⟩)
    (fun a b c => T.rec fun s m l t x => ⟨s, R16.set a m (R16.set b (R16.get a m) (R16.set c (R16.get b (R16.get a m)) x)), l, t⟩)
    (fun a b c d => T.rec fun s m l t x => ⟨s, m, R16.set a l (R16.set b (R16.get a l) (R16.set c (R16.get b (R16.get a l)) (R16.set d (R16.get c (R16.get b (R16.get a l))) x))), t⟩)
    (fun k => T.rec fun s m l t x => ⟨s, m, l, TB.upd x t k⟩) d
noncomputable def T.upd {α : Type} (x : Option α) (t : T α) (k : Nat) : T α := T.to (dig k) t x
noncomputable def T.set {α : Type} (t : T α) (k : Nat) (x : α) : T α := T.upd (some x) t k
noncomputable def T.del {α : Type} (t : T α) (k : Nat) : T α := T.upd none t k

section table
variable {α : Type}
@[simp] theorem T.get_e (k : Nat) : (T.e : T α).get k = none := by
  unfold T.get
  cases dig k <;> simp [T.at, T.e, R16.get_fill]
theorem T.at_to (x : Option α) (t : T α) (d e : DK) : T.at e (T.to d t x) = if e = d then x else T.at e t := by
  cases d with
  | c1 a => cases e <;> cases t <;> simp [T.at, T.to, R16.get_set]
  | c3 a b c =>
    cases e with
    | c3 a' b' c' =>
      cases t
      by_cases ha : a' = a <;> by_cases hb : b' = b <;> by_cases hc : c' = c <;> simp [T.at, T.to, R16.get_set, ha, hb, hc]
    | _ => cases t; simp [T.at, T.to]
  | c4 a b c d =>
    cases e with
    | c4 a' b' c' d' =>
      cases t
      by_cases ha : a' = a <;> by_cases hb : b' = b <;> by_cases hc : c' = c <;> by_cases hd : d' = d <;> simp [T.at, T.to, R16.get_set, ha, hb, hc, hd]
    | _ => cases t; simp [T.at, T.to]
  | cb k => cases e <;> cases t <;> simp [T.at, T.to, TB.get_upd]
theorem T.get_upd (x : Option α) (t : T α) (k j : Nat) : (T.upd x t k).get j = if j = k then x else t.get j := by
  unfold T.get T.upd
  rw [T.at_to x t (dig k) (dig j)]
  by_cases h : j = k
  · subst h; simp
  · rw [if_neg h, if_neg (fun hh => h (dig_inj hh))]
theorem T.get_set (t : T α) (k j : Nat) (x : α) : (t.set k x).get j = if j = k then some x else t.get j := T.get_upd _ t k j
theorem T.get_del (t : T α) (k j : Nat) : (t.del k).get j = if j = k then none else t.get j := T.get_upd _ t k j
@[simp] theorem T.get_set_same (t : T α) (k : Nat) (x : α) : (t.set k x).get k = some x := by simp [T.get_set]
end table

/-- Registers: 256 of them. -/
abbrev RF := R16 (R16 V)

/-- An operand of compiled code. -/
inductive X where
  | r (k : Nat)
  | c (v : V)
  deriving Inhabited

/-- The kinds of leaves that are compared: whole numbers, bools, strings. -/
inductive LK where
  | int | bool | str
  deriving Inhabited
/-- What a map's key is: a leaf, or a struct or an array of leaves. -/
inductive KK where
  | leaf (k : LK)
  | flat (ks : List LK)
  deriving Inhabited

/-- What '==' compares. 'iface': one of both is a constant nil. 'flat': structs and arrays of whole numbers, bools and strings. -/
inductive EqK where
  | bool | ptr | slice | map | func | iface
  | flat (ks : List LK)
  deriving Inhabited

/-- A compiled operation: its types are resolved. -/
inductive COp where
  | mv (x : X)
  | pick (c a b : X)
  | alloc (e : Nat) (z : List V)
  | box (e : Nat) (x : X)
  | build (z : List V) (parts : List (Nat × Nat × X))
  | bslice (e es n : Nat) (z : List V) (parts : List (Nat × Nat × X))
  | ld (x : X)
  | lda (n : Nat) (x : X)
  | st (n : Nat) (a x : X)
  | nilck (x : X)
  | bin (op : BinOp) (x y : X)
  | eq (k : EqK) (neg : Bool) (x y : X)
  | un (op : UnOp) (x : X)
  | cvInt (k : IntKind) (x : X)
  | cvS (x : X)
  | cvUp (t : Nat) (x : X)
  | cvDn (u : Nat) (al : List (Nat × Nat)) (x : X)
  | cvBytes (e : Nat) (x : X)
  | cvStr (x : X)
  | mkIf (t : Nat) (x : X)
  | mkFn (f : Nat) (xs : List X)
  | mkMap
  | mkSl (e es : Nat) (z : List V) (l c : X)
  | slArr (n es : Nat) (x : X) (lo hi mx : Option X)
  | slSl (es : Nat) (x : X) (lo hi mx : Option X)
  | slStr (x : X) (lo hi : Option X)
  | fadr (off : Nat) (x : X)
  | fld (off : Nat) (n : Option Nat) (x : X)
  | ixArr (n es : Nat) (x i : X)
  | ixSl (es : Nat) (x i : X)
  | idxArr (n es : Nat) (g : Bool) (x i : X)
  | idxStr (x i : X)
  | lookup (kk : KK) (z : V) (ok : Bool) (x k : X)
  | mupd (kk : KK) (x k y : X)
  | ment (kk : KK) (z : V) (x k : X)
  | mst (x st y : X)
  | rng (x : X)
  | nxt (x : X)
  | tas (z : V) (t : Nat) (ok : Bool) (x : X)
  | ext (x : X) (i : Nat)
  | call (f : Nat) (xs : List X)
  | callv (x : X) (xs : List X)
  | noesc (x : X)
  | ixByte (x c : X)
  | app (e es : Nat) (s x : X)
  | appZ (e es : Nat) (z : List V) (s n : X)
  | lenStr (x : X)
  | lenSl (x : X)
  | lenMap (x : X)
  | lenc (n : Nat)
  | cap (x : X)
  | copy (es : Nat) (d x : X)
  | min (x y : X)
  | max (x y : X)
  | clear (es : Nat) (z : List V) (x : X)
  | recover
  | usd (x : X)
  | us (e : Nat) (p n : X)
  | defer (f : Nat) (xs : List X)
  | deferv (x : X) (xs : List X)
  | bad
  deriving Inhabited

/-- A compiled operation with what it writes, and its guard. -/
structure CI where
  dst : Option Nat
  op : COp
  g : Option (Nat × Bool)
  deriving Inhabited

inductive CC where
  | skip
  | reg (l : List CI)
  | seq (a b : CC)
  | cond (x : X) (a b : CC)
  | block (id : Nat) (b : CC)
  | loop (b : CC)
  | exit (id : Nat)
  | goto (l : Nat)
  | ret
  | scope (b : CC)
  | label (l : Nat)
  | rng (x : X) (params : List Nat) (assign body : CC)
  | dreg (l : List (CI × Bool)) (chk : List (CI × Nat × Nat))
  | bad
  deriving Inhabited

/-- How a round left its loop. -/
inductive Pend where
  | exit (id : Nat) | goto (l : Nat) | ret

/-- A block of the abstract heap. -/
inductive Obj where
  | cells (c : T V) (n e es : Nat) (cl : Bool)
  | map (es : List (V × V × Nat)) (clock : Nat)
  | loop (fn n : Nat) (regs : RF) (params : List Nat) (assign body : CC) (st : Nat) (pend : Option Pend)
  | iter (len code pos : Nat)

structure H where
  next : Nat
  t : T Obj

noncomputable def H.get (h : H) (id : Nat) : Option Obj := h.t.get id
noncomputable def H.put (h : H) (id : Nat) (o : Obj) : H := ⟨h.next, h.t.set id o⟩
noncomputable def H.del (h : H) (id : Nat) : H := ⟨h.next, h.t.del id⟩
noncomputable def H.new (h : H) (o : Obj) : H := ⟨h.next + 1, h.t.set h.next o⟩

theorem H.get_put (h : H) (id j : Nat) (o : Obj) : (h.put id o).get j = if j = id then some o else h.get j := T.get_set _ _ _ _
theorem H.get_del (h : H) (id j : Nat) : (h.del id).get j = if j = id then none else h.get j := T.get_del _ _ _
theorem H.get_new (h : H) (j : Nat) (o : Obj) : (h.new o).get j = if j = h.next then some o else h.get j := T.get_set _ _ _ _
@[simp] theorem H.next_put (h : H) (id : Nat) (o : Obj) : (h.put id o).next = h.next := rfl
@[simp] theorem H.next_del (h : H) (id : Nat) : (h.del id).next = h.next := rfl
@[simp] theorem H.next_new (h : H) (o : Obj) : (h.new o).next = h.next + 1 := rfl

def codeOf : List UInt8 → Nat
  | [] => 0
  | c :: r => c.toNat + 256 * codeOf r

def V.cells : V → List V
  | .agg cs => cs
  | v => [v]
/-- Can it lie in one cell, for sure? -/
def V.leaf : V → Bool
  | .top | .agg _ | .tup _ => false
  | _ => true

/-! Registers: 256 of them. A register's reader and its writer are looked up once. -/
structure RG where
  run : RF → V
structure RS where
  run : RF → V → RF
def rgT : R16 (R16 RG) :=
  ⟨⟨⟨fun r => r.a0.a0⟩, ⟨fun r => r.a0.a1⟩, ⟨fun r => r.a0.a2⟩, ⟨fun r => r.a0.a3⟩, ⟨fun r => r.a0.a4⟩, ⟨fun r => r.a0.a5⟩, ⟨fun r => r.a0.a6⟩, ⟨fun r => r.a0.a7⟩, ⟨fun r => r.a0.a8⟩, ⟨fun r => r.a0.a9⟩, ⟨fun r => r.a0.a10⟩, ⟨fun r => r.a0.a11⟩, ⟨fun r => r.a0.a12⟩, ⟨fun r => r.a0.a13⟩, ⟨fun r => r.a0.a14⟩, ⟨fun r => r.a0.a15⟩⟩,
    ⟨⟨fun r => r.a1.a0⟩, ⟨fun r => r.a1.a1⟩, ⟨fun r => r.a1.a2⟩, ⟨fun r => r.a1.a3⟩, ⟨fun r => r.a1.a4⟩, ⟨fun r => r.a1.a5⟩, ⟨fun r => r.a1.a6⟩, ⟨fun r => r.a1.a7⟩, ⟨fun r => r.a1.a8⟩, ⟨fun r => r.a1.a9⟩, ⟨fun r => r.a1.a10⟩, ⟨fun r => r.a1.a11⟩, ⟨fun r => r.a1.a12⟩, ⟨fun r => r.a1.a13⟩, ⟨fun r => r.a1.a14⟩, ⟨fun r => r.a1.a15⟩⟩,
    ⟨⟨fun r => r.a2.a0⟩, ⟨fun r => r.a2.a1⟩, ⟨fun r => r.a2.a2⟩, ⟨fun r => r.a2.a3⟩, ⟨fun r => r.a2.a4⟩, ⟨fun r => r.a2.a5⟩, ⟨fun r => r.a2.a6⟩, ⟨fun r => r.a2.a7⟩, ⟨fun r => r.a2.a8⟩, ⟨fun r => r.a2.a9⟩, ⟨fun r => r.a2.a10⟩, ⟨fun r => r.a2.a11⟩, ⟨fun r => r.a2.a12⟩, ⟨fun r => r.a2.a13⟩, ⟨fun r => r.a2.a14⟩, ⟨fun r => r.a2.a15⟩⟩,
    ⟨⟨fun r => r.a3.a0⟩, ⟨fun r => r.a3.a1⟩, ⟨fun r => r.a3.a2⟩, ⟨fun r => r.a3.a3⟩, ⟨fun r => r.a3.a4⟩, ⟨fun r => r.a3.a5⟩, ⟨fun r => r.a3.a6⟩, ⟨fun r => r.a3.a7⟩, ⟨fun r => r.a3.a8⟩, ⟨fun r => r.a3.a9⟩, ⟨fun r => r.a3.a10⟩, ⟨fun r => r.a3.a11⟩, ⟨fun r => r.a3.a12⟩, ⟨fun r => r.a3.a13⟩, ⟨fun r => r.a3.a14⟩, ⟨fun r => r.a3.a15⟩⟩,
    ⟨⟨fun r => r.a4.a0⟩, ⟨fun r => r.a4.a1⟩, ⟨fun r => r.a4.a2⟩, ⟨fun r => r.a4.a3⟩, ⟨fun r => r.a4.a4⟩, ⟨fun r => r.a4.a5⟩, ⟨fun r => r.a4.a6⟩, ⟨fun r => r.a4.a7⟩, ⟨fun r => r.a4.a8⟩, ⟨fun r => r.a4.a9⟩, ⟨fun r => r.a4.a10⟩, ⟨fun r => r.a4.a11⟩, ⟨fun r => r.a4.a12⟩, ⟨fun r => r.a4.a13⟩, ⟨fun r => r.a4.a14⟩, ⟨fun r => r.a4.a15⟩⟩,
    ⟨⟨fun r => r.a5.a0⟩, ⟨fun r => r.a5.a1⟩, ⟨fun r => r.a5.a2⟩, ⟨fun r => r.a5.a3⟩, ⟨fun r => r.a5.a4⟩, ⟨fun r => r.a5.a5⟩, ⟨fun r => r.a5.a6⟩, ⟨fun r => r.a5.a7⟩, ⟨fun r => r.a5.a8⟩, ⟨fun r => r.a5.a9⟩, ⟨fun r => r.a5.a10⟩, ⟨fun r => r.a5.a11⟩, ⟨fun r => r.a5.a12⟩, ⟨fun r => r.a5.a13⟩, ⟨fun r => r.a5.a14⟩, ⟨fun r => r.a5.a15⟩⟩,
    ⟨⟨fun r => r.a6.a0⟩, ⟨fun r => r.a6.a1⟩, ⟨fun r => r.a6.a2⟩, ⟨fun r => r.a6.a3⟩, ⟨fun r => r.a6.a4⟩, ⟨fun r => r.a6.a5⟩, ⟨fun r => r.a6.a6⟩, ⟨fun r => r.a6.a7⟩, ⟨fun r => r.a6.a8⟩, ⟨fun r => r.a6.a9⟩, ⟨fun r => r.a6.a10⟩, ⟨fun r => r.a6.a11⟩, ⟨fun r => r.a6.a12⟩, ⟨fun r => r.a6.a13⟩, ⟨fun r => r.a6.a14⟩, ⟨fun r => r.a6.a15⟩⟩,
    ⟨⟨fun r => r.a7.a0⟩, ⟨fun r => r.a7.a1⟩, ⟨fun r => r.a7.a2⟩, ⟨fun r => r.a7.a3⟩, ⟨fun r => r.a7.a4⟩, ⟨fun r => r.a7.a5⟩, ⟨fun r => r.a7.a6⟩, ⟨fun r => r.a7.a7⟩, ⟨fun r => r.a7.a8⟩, ⟨fun r => r.a7.a9⟩, ⟨fun r => r.a7.a10⟩, ⟨fun r => r.a7.a11⟩, ⟨fun r => r.a7.a12⟩, ⟨fun r => r.a7.a13⟩, ⟨fun r => r.a7.a14⟩, ⟨fun r => r.a7.a15⟩⟩,
    ⟨⟨fun r => r.a8.a0⟩, ⟨fun r => r.a8.a1⟩, ⟨fun r => r.a8.a2⟩, ⟨fun r => r.a8.a3⟩, ⟨fun r => r.a8.a4⟩, ⟨fun r => r.a8.a5⟩, ⟨fun r => r.a8.a6⟩, ⟨fun r => r.a8.a7⟩, ⟨fun r => r.a8.a8⟩, ⟨fun r => r.a8.a9⟩, ⟨fun r => r.a8.a10⟩, ⟨fun r => r.a8.a11⟩, ⟨fun r => r.a8.a12⟩, ⟨fun r => r.a8.a13⟩, ⟨fun r => r.a8.a14⟩, ⟨fun r => r.a8.a15⟩⟩,
    ⟨⟨fun r => r.a9.a0⟩, ⟨fun r => r.a9.a1⟩, ⟨fun r => r.a9.a2⟩, ⟨fun r => r.a9.a3⟩, ⟨fun r => r.a9.a4⟩, ⟨fun r => r.a9.a5⟩, ⟨fun r => r.a9.a6⟩, ⟨fun r => r.a9.a7⟩, ⟨fun r => r.a9.a8⟩, ⟨fun r => r.a9.a9⟩, ⟨fun r => r.a9.a10⟩, ⟨fun r => r.a9.a11⟩, ⟨fun r => r.a9.a12⟩, ⟨fun r => r.a9.a13⟩, ⟨fun r => r.a9.a14⟩, ⟨fun r => r.a9.a15⟩⟩,
    ⟨⟨fun r => r.a10.a0⟩, ⟨fun r => r.a10.a1⟩, ⟨fun r => r.a10.a2⟩, ⟨fun r => r.a10.a3⟩, ⟨fun r => r.a10.a4⟩, ⟨fun r => r.a10.a5⟩, ⟨fun r => r.a10.a6⟩, ⟨fun r => r.a10.a7⟩, ⟨fun r => r.a10.a8⟩, ⟨fun r => r.a10.a9⟩, ⟨fun r => r.a10.a10⟩, ⟨fun r => r.a10.a11⟩, ⟨fun r => r.a10.a12⟩, ⟨fun r => r.a10.a13⟩, ⟨fun r => r.a10.a14⟩, ⟨fun r => r.a10.a15⟩⟩,
    ⟨⟨fun r => r.a11.a0⟩, ⟨fun r => r.a11.a1⟩, ⟨fun r => r.a11.a2⟩, ⟨fun r => r.a11.a3⟩, ⟨fun r => r.a11.a4⟩, ⟨fun r => r.a11.a5⟩, ⟨fun r => r.a11.a6⟩, ⟨fun r => r.a11.a7⟩, ⟨fun r => r.a11.a8⟩, ⟨fun r => r.a11.a9⟩, ⟨fun r => r.a11.a10⟩, ⟨fun r => r.a11.a11⟩, ⟨fun r => r.a11.a12⟩, ⟨fun r => r.a11.a13⟩, ⟨fun r => r.a11.a14⟩, ⟨fun r => r.a11.a15⟩⟩,
    ⟨⟨fun r => r.a12.a0⟩, ⟨fun r => r.a12.a1⟩, ⟨fun r => r.a12.a2⟩, ⟨fun r => r.a12.a3⟩, ⟨fun r => r.a12.a4⟩, ⟨fun r => r.a12.a5⟩, ⟨fun r => r.a12.a6⟩, ⟨fun r => r.a12.a7⟩, ⟨fun r => r.a12.a8⟩, ⟨fun r => r.a12.a9⟩, ⟨fun r => r.a12.a10⟩, ⟨fun r => r.a12.a11⟩, ⟨fun r => r.a12.a12⟩, ⟨fun r => r.a12.a13⟩, ⟨fun r => r.a12.a14⟩, ⟨fun r => r.a12.a15⟩⟩,
    ⟨⟨fun r => r.a13.a0⟩, ⟨fun r => r.a13.a1⟩, ⟨fun r => r.a13.a2⟩, ⟨fun r => r.a13.a3⟩, ⟨fun r => r.a13.a4⟩, ⟨fun r => r.a13.a5⟩, ⟨fun r => r.a13.a6⟩, ⟨fun r => r.a13.a7⟩, ⟨fun r => r.a13.a8⟩, ⟨fun r => r.a13.a9⟩, ⟨fun r => r.a13.a10⟩, ⟨fun r => r.a13.a11⟩, ⟨fun r => r.a13.a12⟩, ⟨fun r => r.a13.a13⟩, ⟨fun r => r.a13.a14⟩, ⟨fun r => r.a13.a15⟩⟩,
    ⟨⟨fun r => r.a14.a0⟩, ⟨fun r => r.a14.a1⟩, ⟨fun r => r.a14.a2⟩, ⟨fun r => r.a14.a3⟩, ⟨fun r => r.a14.a4⟩, ⟨fun r => r.a14.a5⟩, ⟨fun r => r.a14.a6⟩, ⟨fun r => r.a14.a7⟩, ⟨fun r => r.a14.a8⟩, ⟨fun r => r.a14.a9⟩, ⟨fun r => r.a14.a10⟩, ⟨fun r => r.a14.a11⟩, ⟨fun r => r.a14.a12⟩, ⟨fun r => r.a14.a13⟩, ⟨fun r => r.a14.a14⟩, ⟨fun r => r.a14.a15⟩⟩,
    ⟨⟨fun r => r.a15.a0⟩, ⟨fun r => r.a15.a1⟩, ⟨fun r => r.a15.a2⟩, ⟨fun r => r.a15.a3⟩, ⟨fun r => r.a15.a4⟩, ⟨fun r => r.a15.a5⟩, ⟨fun r => r.a15.a6⟩, ⟨fun r => r.a15.a7⟩, ⟨fun r => r.a15.a8⟩, ⟨fun r => r.a15.a9⟩, ⟨fun r => r.a15.a10⟩, ⟨fun r => r.a15.a11⟩, ⟨fun r => r.a15.a12⟩, ⟨fun r => r.a15.a13⟩, ⟨fun r => r.a15.a14⟩, ⟨fun r => r.a15.a15⟩⟩⟩
noncomputable def rsT : R16 (R16 RS) :=
  ⟨⟨⟨fun r v => R16.s0 r (R16.s0 r.a0 v)⟩, ⟨fun r v => R16.s0 r (R16.s1 r.a0 v)⟩, ⟨fun r v => R16.s0 r (R16.s2 r.a0 v)⟩, ⟨fun r v => R16.s0 r (R16.s3 r.a0 v)⟩, ⟨fun r v => R16.s0 r (R16.s4 r.a0 v)⟩, ⟨fun r v => R16.s0 r (R16.s5 r.a0 v)⟩, ⟨fun r v => R16.s0 r (R16.s6 r.a0 v)⟩, ⟨fun r v => R16.s0 r (R16.s7 r.a0 v)⟩, ⟨fun r v => R16.s0 r (R16.s8 r.a0 v)⟩, ⟨fun r v => R16.s0 r (R16.s9 r.a0 v)⟩, ⟨fun r v => R16.s0 r (R16.s10 r.a0 v)⟩, ⟨fun r v => R16.s0 r (R16.s11 r.a0 v)⟩, ⟨fun r v => R16.s0 r (R16.s12 r.a0 v)⟩, ⟨fun r v => R16.s0 r (R16.s13 r.a0 v)⟩, ⟨fun r v => R16.s0 r (R16.s14 r.a0 v)⟩, ⟨fun r v => R16.s0 r (R16.s15 r.a0 v)⟩⟩,
    ⟨⟨fun r v => R16.s1 r (R16.s0 r.a1 v)⟩, ⟨fun r v => R16.s1 r (R16.s1 r.a1 v)⟩, ⟨fun r v => R16.s1 r (R16.s2 r.a1 v)⟩, ⟨fun r v => R16.s1 r (R16.s3 r.a1 v)⟩, ⟨fun r v => R16.s1 r (R16.s4 r.a1 v)⟩, ⟨fun r v => R16.s1 r (R16.s5 r.a1 v)⟩, ⟨fun r v => R16.s1 r (R16.s6 r.a1 v)⟩, ⟨fun r v => R16.s1 r (R16.s7 r.a1 v)⟩, ⟨fun r v => R16.s1 r (R16.s8 r.a1 v)⟩, ⟨fun r v => R16.s1 r (R16.s9 r.a1 v)⟩, ⟨fun r v => R16.s1 r (R16.s10 r.a1 v)⟩, ⟨fun r v => R16.s1 r (R16.s11 r.a1 v)⟩, ⟨fun r v => R16.s1 r (R16.s12 r.a1 v)⟩, ⟨fun r v => R16.s1 r (R16.s13 r.a1 v)⟩, ⟨fun r v => R16.s1 r (R16.s14 r.a1 v)⟩, ⟨fun r v => R16.s1 r (R16.s15 r.a1 v)⟩⟩,
    ⟨⟨fun r v => R16.s2 r (R16.s0 r.a2 v)⟩, ⟨fun r v => R16.s2 r (R16.s1 r.a2 v)⟩, ⟨fun r v => R16.s2 r (R16.s2 r.a2 v)⟩, ⟨fun r v => R16.s2 r (R16.s3 r.a2 v)⟩, ⟨fun r v => R16.s2 r (R16.s4 r.a2 v)⟩, ⟨fun r v => R16.s2 r (R16.s5 r.a2 v)⟩, ⟨fun r v => R16.s2 r (R16.s6 r.a2 v)⟩, ⟨fun r v => R16.s2 r (R16.s7 r.a2 v)⟩, ⟨fun r v => R16.s2 r (R16.s8 r.a2 v)⟩, ⟨fun r v => R16.s2 r (R16.s9 r.a2 v)⟩, ⟨fun r v => R16.s2 r (R16.s10 r.a2 v)⟩, ⟨fun r v => R16.s2 r (R16.s11 r.a2 v)⟩, ⟨fun r v => R16.s2 r (R16.s12 r.a2 v)⟩, ⟨fun r v => R16.s2 r (R16.s13 r.a2 v)⟩, ⟨fun r v => R16.s2 r (R16.s14 r.a2 v)⟩, ⟨fun r v => R16.s2 r (R16.s15 r.a2 v)⟩⟩,
    ⟨⟨fun r v => R16.s3 r (R16.s0 r.a3 v)⟩, ⟨fun r v => R16.s3 r (R16.s1 r.a3 v)⟩, ⟨fun r v => R16.s3 r (R16.s2 r.a3 v)⟩, ⟨fun r v => R16.s3 r (R16.s3 r.a3 v)⟩, ⟨fun r v => R16.s3 r (R16.s4 r.a3 v)⟩, ⟨fun r v => R16.s3 r (R16.s5 r.a3 v)⟩, ⟨fun r v => R16.s3 r (R16.s6 r.a3 v)⟩, ⟨fun r v => R16.s3 r (R16.s7 r.a3 v)⟩, ⟨fun r v => R16.s3 r (R16.s8 r.a3 v)⟩, ⟨fun r v => R16.s3 r (R16.s9 r.a3 v)⟩, ⟨fun r v => R16.s3 r (R16.s10 r.a3 v)⟩, ⟨fun r v => R16.s3 r (R16.s11 r.a3 v)⟩, ⟨fun r v => R16.s3 r (R16.s12 r.a3 v)⟩, ⟨fun r v => R16.s3 r (R16.s13 r.a3 v)⟩, ⟨fun r v => R16.s3 r (R16.s14 r.a3 v)⟩, ⟨fun r v => R16.s3 r (R16.s15 r.a3 v)⟩⟩,
    ⟨⟨fun r v => R16.s4 r (R16.s0 r.a4 v)⟩, ⟨fun r v => R16.s4 r (R16.s1 r.a4 v)⟩, ⟨fun r v => R16.s4 r (R16.s2 r.a4 v)⟩, ⟨fun r v => R16.s4 r (R16.s3 r.a4 v)⟩, ⟨fun r v => R16.s4 r (R16.s4 r.a4 v)⟩, ⟨fun r v => R16.s4 r (R16.s5 r.a4 v)⟩, ⟨fun r v => R16.s4 r (R16.s6 r.a4 v)⟩, ⟨fun r v => R16.s4 r (R16.s7 r.a4 v)⟩, ⟨fun r v => R16.s4 r (R16.s8 r.a4 v)⟩, ⟨fun r v => R16.s4 r (R16.s9 r.a4 v)⟩, ⟨fun r v => R16.s4 r (R16.s10 r.a4 v)⟩, ⟨fun r v => R16.s4 r (R16.s11 r.a4 v)⟩, ⟨fun r v => R16.s4 r (R16.s12 r.a4 v)⟩, ⟨fun r v => R16.s4 r (R16.s13 r.a4 v)⟩, ⟨fun r v => R16.s4 r (R16.s14 r.a4 v)⟩, ⟨fun r v => R16.s4 r (R16.s15 r.a4 v)⟩⟩,
    ⟨⟨fun r v => R16.s5 r (R16.s0 r.a5 v)⟩, ⟨fun r v => R16.s5 r (R16.s1 r.a5 v)⟩, ⟨fun r v => R16.s5 r (R16.s2 r.a5 v)⟩, ⟨fun r v => R16.s5 r (R16.s3 r.a5 v)⟩, ⟨fun r v => R16.s5 r (R16.s4 r.a5 v)⟩, ⟨fun r v => R16.s5 r (R16.s5 r.a5 v)⟩, ⟨fun r v => R16.s5 r (R16.s6 r.a5 v)⟩, ⟨fun r v => R16.s5 r (R16.s7 r.a5 v)⟩, ⟨fun r v => R16.s5 r (R16.s8 r.a5 v)⟩, ⟨fun r v => R16.s5 r (R16.s9 r.a5 v)⟩, ⟨fun r v => R16.s5 r (R16.s10 r.a5 v)⟩, ⟨fun r v => R16.s5 r (R16.s11 r.a5 v)⟩, ⟨fun r v => R16.s5 r (R16.s12 r.a5 v)⟩, ⟨fun r v => R16.s5 r (R16.s13 r.a5 v)⟩, ⟨fun r v => R16.s5 r (R16.s14 r.a5 v)⟩, ⟨fun r v => R16.s5 r (R16.s15 r.a5 v)⟩⟩,
    ⟨⟨fun r v => R16.s6 r (R16.s0 r.a6 v)⟩, ⟨fun r v => R16.s6 r (R16.s1 r.a6 v)⟩, ⟨fun r v => R16.s6 r (R16.s2 r.a6 v)⟩, ⟨fun r v => R16.s6 r (R16.s3 r.a6 v)⟩, ⟨fun r v => R16.s6 r (R16.s4 r.a6 v)⟩, ⟨fun r v => R16.s6 r (R16.s5 r.a6 v)⟩, ⟨fun r v => R16.s6 r (R16.s6 r.a6 v)⟩, ⟨fun r v => R16.s6 r (R16.s7 r.a6 v)⟩, ⟨fun r v => R16.s6 r (R16.s8 r.a6 v)⟩, ⟨fun r v => R16.s6 r (R16.s9 r.a6 v)⟩, ⟨fun r v => R16.s6 r (R16.s10 r.a6 v)⟩, ⟨fun r v => R16.s6 r (R16.s11 r.a6 v)⟩, ⟨fun r v => R16.s6 r (R16.s12 r.a6 v)⟩, ⟨fun r v => R16.s6 r (R16.s13 r.a6 v)⟩, ⟨fun r v => R16.s6 r (R16.s14 r.a6 v)⟩, ⟨fun r v => R16.s6 r (R16.s15 r.a6 v)⟩⟩,
    ⟨⟨fun r v => R16.s7 r (R16.s0 r.a7 v)⟩, ⟨fun r v => R16.s7 r (R16.s1 r.a7 v)⟩, ⟨fun r v => R16.s7 r (R16.s2 r.a7 v)⟩, ⟨fun r v => R16.s7 r (R16.s3 r.a7 v)⟩, ⟨fun r v => R16.s7 r (R16.s4 r.a7 v)⟩, ⟨fun r v => R16.s7 r (R16.s5 r.a7 v)⟩, ⟨fun r v => R16.s7 r (R16.s6 r.a7 v)⟩, ⟨fun r v => R16.s7 r (R16.s7 r.a7 v)⟩, ⟨fun r v => R16.s7 r (R16.s8 r.a7 v)⟩, ⟨fun r v => R16.s7 r (R16.s9 r.a7 v)⟩, ⟨fun r v => R16.s7 r (R16.s10 r.a7 v)⟩, ⟨fun r v => R16.s7 r (R16.s11 r.a7 v)⟩, ⟨fun r v => R16.s7 r (R16.s12 r.a7 v)⟩, ⟨fun r v => R16.s7 r (R16.s13 r.a7 v)⟩, ⟨fun r v => R16.s7 r (R16.s14 r.a7 v)⟩, ⟨fun r v => R16.s7 r (R16.s15 r.a7 v)⟩⟩,
    ⟨⟨fun r v => R16.s8 r (R16.s0 r.a8 v)⟩, ⟨fun r v => R16.s8 r (R16.s1 r.a8 v)⟩, ⟨fun r v => R16.s8 r (R16.s2 r.a8 v)⟩, ⟨fun r v => R16.s8 r (R16.s3 r.a8 v)⟩, ⟨fun r v => R16.s8 r (R16.s4 r.a8 v)⟩, ⟨fun r v => R16.s8 r (R16.s5 r.a8 v)⟩, ⟨fun r v => R16.s8 r (R16.s6 r.a8 v)⟩, ⟨fun r v => R16.s8 r (R16.s7 r.a8 v)⟩, ⟨fun r v => R16.s8 r (R16.s8 r.a8 v)⟩, ⟨fun r v => R16.s8 r (R16.s9 r.a8 v)⟩, ⟨fun r v => R16.s8 r (R16.s10 r.a8 v)⟩, ⟨fun r v => R16.s8 r (R16.s11 r.a8 v)⟩, ⟨fun r v => R16.s8 r (R16.s12 r.a8 v)⟩, ⟨fun r v => R16.s8 r (R16.s13 r.a8 v)⟩, ⟨fun r v => R16.s8 r (R16.s14 r.a8 v)⟩, ⟨fun r v => R16.s8 r (R16.s15 r.a8 v)⟩⟩,
    ⟨⟨fun r v => R16.s9 r (R16.s0 r.a9 v)⟩, ⟨fun r v => R16.s9 r (R16.s1 r.a9 v)⟩, ⟨fun r v => R16.s9 r (R16.s2 r.a9 v)⟩, ⟨fun r v => R16.s9 r (R16.s3 r.a9 v)⟩, ⟨fun r v => R16.s9 r (R16.s4 r.a9 v)⟩, ⟨fun r v => R16.s9 r (R16.s5 r.a9 v)⟩, ⟨fun r v => R16.s9 r (R16.s6 r.a9 v)⟩, ⟨fun r v => R16.s9 r (R16.s7 r.a9 v)⟩, ⟨fun r v => R16.s9 r (R16.s8 r.a9 v)⟩, ⟨fun r v => R16.s9 r (R16.s9 r.a9 v)⟩, ⟨fun r v => R16.s9 r (R16.s10 r.a9 v)⟩, ⟨fun r v => R16.s9 r (R16.s11 r.a9 v)⟩, ⟨fun r v => R16.s9 r (R16.s12 r.a9 v)⟩, ⟨fun r v => R16.s9 r (R16.s13 r.a9 v)⟩, ⟨fun r v => R16.s9 r (R16.s14 r.a9 v)⟩, ⟨fun r v => R16.s9 r (R16.s15 r.a9 v)⟩⟩,
    ⟨⟨fun r v => R16.s10 r (R16.s0 r.a10 v)⟩, ⟨fun r v => R16.s10 r (R16.s1 r.a10 v)⟩, ⟨fun r v => R16.s10 r (R16.s2 r.a10 v)⟩, ⟨fun r v => R16.s10 r (R16.s3 r.a10 v)⟩, ⟨fun r v => R16.s10 r (R16.s4 r.a10 v)⟩, ⟨fun r v => R16.s10 r (R16.s5 r.a10 v)⟩, ⟨fun r v => R16.s10 r (R16.s6 r.a10 v)⟩, ⟨fun r v => R16.s10 r (R16.s7 r.a10 v)⟩, ⟨fun r v => R16.s10 r (R16.s8 r.a10 v)⟩, ⟨fun r v => R16.s10 r (R16.s9 r.a10 v)⟩, ⟨fun r v => R16.s10 r (R16.s10 r.a10 v)⟩, ⟨fun r v => R16.s10 r (R16.s11 r.a10 v)⟩, ⟨fun r v => R16.s10 r (R16.s12 r.a10 v)⟩, ⟨fun r v => R16.s10 r (R16.s13 r.a10 v)⟩, ⟨fun r v => R16.s10 r (R16.s14 r.a10 v)⟩, ⟨fun r v => R16.s10 r (R16.s15 r.a10 v)⟩⟩,
    ⟨⟨fun r v => R16.s11 r (R16.s0 r.a11 v)⟩, ⟨fun r v => R16.s11 r (R16.s1 r.a11 v)⟩, ⟨fun r v => R16.s11 r (R16.s2 r.a11 v)⟩, ⟨fun r v => R16.s11 r (R16.s3 r.a11 v)⟩, ⟨fun r v => R16.s11 r (R16.s4 r.a11 v)⟩, ⟨fun r v => R16.s11 r (R16.s5 r.a11 v)⟩, ⟨fun r v => R16.s11 r (R16.s6 r.a11 v)⟩, ⟨fun r v => R16.s11 r (R16.s7 r.a11 v)⟩, ⟨fun r v => R16.s11 r (R16.s8 r.a11 v)⟩, ⟨fun r v => R16.s11 r (R16.s9 r.a11 v)⟩, ⟨fun r v => R16.s11 r (R16.s10 r.a11 v)⟩, ⟨fun r v => R16.s11 r (R16.s11 r.a11 v)⟩, ⟨fun r v => R16.s11 r (R16.s12 r.a11 v)⟩, ⟨fun r v => R16.s11 r (R16.s13 r.a11 v)⟩, ⟨fun r v => R16.s11 r (R16.s14 r.a11 v)⟩, ⟨fun r v => R16.s11 r (R16.s15 r.a11 v)⟩⟩,
    ⟨⟨fun r v => R16.s12 r (R16.s0 r.a12 v)⟩, ⟨fun r v => R16.s12 r (R16.s1 r.a12 v)⟩, ⟨fun r v => R16.s12 r (R16.s2 r.a12 v)⟩, ⟨fun r v => R16.s12 r (R16.s3 r.a12 v)⟩, ⟨fun r v => R16.s12 r (R16.s4 r.a12 v)⟩, ⟨fun r v => R16.s12 r (R16.s5 r.a12 v)⟩, ⟨fun r v => R16.s12 r (R16.s6 r.a12 v)⟩, ⟨fun r v => R16.s12 r (R16.s7 r.a12 v)⟩, ⟨fun r v => R16.s12 r (R16.s8 r.a12 v)⟩, ⟨fun r v => R16.s12 r (R16.s9 r.a12 v)⟩, ⟨fun r v => R16.s12 r (R16.s10 r.a12 v)⟩, ⟨fun r v => R16.s12 r (R16.s11 r.a12 v)⟩, ⟨fun r v => R16.s12 r (R16.s12 r.a12 v)⟩, ⟨fun r v => R16.s12 r (R16.s13 r.a12 v)⟩, ⟨fun r v => R16.s12 r (R16.s14 r.a12 v)⟩, ⟨fun r v => R16.s12 r (R16.s15 r.a12 v)⟩⟩,
    ⟨⟨fun r v => R16.s13 r (R16.s0 r.a13 v)⟩, ⟨fun r v => R16.s13 r (R16.s1 r.a13 v)⟩, ⟨fun r v => R16.s13 r (R16.s2 r.a13 v)⟩, ⟨fun r v => R16.s13 r (R16.s3 r.a13 v)⟩, ⟨fun r v => R16.s13 r (R16.s4 r.a13 v)⟩, ⟨fun r v => R16.s13 r (R16.s5 r.a13 v)⟩, ⟨fun r v => R16.s13 r (R16.s6 r.a13 v)⟩, ⟨fun r v => R16.s13 r (R16.s7 r.a13 v)⟩, ⟨fun r v => R16.s13 r (R16.s8 r.a13 v)⟩, ⟨fun r v => R16.s13 r (R16.s9 r.a13 v)⟩, ⟨fun r v => R16.s13 r (R16.s10 r.a13 v)⟩, ⟨fun r v => R16.s13 r (R16.s11 r.a13 v)⟩, ⟨fun r v => R16.s13 r (R16.s12 r.a13 v)⟩, ⟨fun r v => R16.s13 r (R16.s13 r.a13 v)⟩, ⟨fun r v => R16.s13 r (R16.s14 r.a13 v)⟩, ⟨fun r v => R16.s13 r (R16.s15 r.a13 v)⟩⟩,
    ⟨⟨fun r v => R16.s14 r (R16.s0 r.a14 v)⟩, ⟨fun r v => R16.s14 r (R16.s1 r.a14 v)⟩, ⟨fun r v => R16.s14 r (R16.s2 r.a14 v)⟩, ⟨fun r v => R16.s14 r (R16.s3 r.a14 v)⟩, ⟨fun r v => R16.s14 r (R16.s4 r.a14 v)⟩, ⟨fun r v => R16.s14 r (R16.s5 r.a14 v)⟩, ⟨fun r v => R16.s14 r (R16.s6 r.a14 v)⟩, ⟨fun r v => R16.s14 r (R16.s7 r.a14 v)⟩, ⟨fun r v => R16.s14 r (R16.s8 r.a14 v)⟩, ⟨fun r v => R16.s14 r (R16.s9 r.a14 v)⟩, ⟨fun r v => R16.s14 r (R16.s10 r.a14 v)⟩, ⟨fun r v => R16.s14 r (R16.s11 r.a14 v)⟩, ⟨fun r v => R16.s14 r (R16.s12 r.a14 v)⟩, ⟨fun r v => R16.s14 r (R16.s13 r.a14 v)⟩, ⟨fun r v => R16.s14 r (R16.s14 r.a14 v)⟩, ⟨fun r v => R16.s14 r (R16.s15 r.a14 v)⟩⟩,
    ⟨⟨fun r v => R16.s15 r (R16.s0 r.a15 v)⟩, ⟨fun r v => R16.s15 r (R16.s1 r.a15 v)⟩, ⟨fun r v => R16.s15 r (R16.s2 r.a15 v)⟩, ⟨fun r v => R16.s15 r (R16.s3 r.a15 v)⟩, ⟨fun r v => R16.s15 r (R16.s4 r.a15 v)⟩, ⟨fun r v => R16.s15 r (R16.s5 r.a15 v)⟩, ⟨fun r v => R16.s15 r (R16.s6 r.a15 v)⟩, ⟨fun r v => R16.s15 r (R16.s7 r.a15 v)⟩, ⟨fun r v => R16.s15 r (R16.s8 r.a15 v)⟩, ⟨fun r v => R16.s15 r (R16.s9 r.a15 v)⟩, ⟨fun r v => R16.s15 r (R16.s10 r.a15 v)⟩, ⟨fun r v => R16.s15 r (R16.s11 r.a15 v)⟩, ⟨fun r v => R16.s15 r (R16.s12 r.a15 v)⟩, ⟨fun r v => R16.s15 r (R16.s13 r.a15 v)⟩, ⟨fun r v => R16.s15 r (R16.s14 r.a15 v)⟩, ⟨fun r v => R16.s15 r (R16.s15 r.a15 v)⟩⟩⟩
noncomputable def rg (k : Nat) : RG := DK.rec (motive := fun _ => RG) (fun a => R16.get a rgT.a0) (fun a b c => D16.rec (motive := fun _ => RG) (R16.get c (R16.get b rgT)) ⟨fun _ => .undef⟩ ⟨fun _ => .undef⟩ ⟨fun _ => .undef⟩ ⟨fun _ => .undef⟩ ⟨fun _ => .undef⟩ ⟨fun _ => .undef⟩ ⟨fun _ => .undef⟩ ⟨fun _ => .undef⟩ ⟨fun _ => .undef⟩ ⟨fun _ => .undef⟩ ⟨fun _ => .undef⟩ ⟨fun _ => .undef⟩ ⟨fun _ => .undef⟩ ⟨fun _ => .undef⟩ ⟨fun _ => .undef⟩ a) (fun _ _ _ _ => ⟨fun _ => .undef⟩) (fun _ => ⟨fun _ => .undef⟩) (dig k)
noncomputable def rsw (k : Nat) : RS := DK.rec (motive := fun _ => RS) (fun a => R16.get a rsT.a0) (fun a b c => D16.rec (motive := fun _ => RS) (R16.get c (R16.get b rsT)) ⟨fun r _ => r⟩ ⟨fun r _ => r⟩ ⟨fun r _ => r⟩ ⟨fun r _ => r⟩ ⟨fun r _ => r⟩ ⟨fun r _ => r⟩ ⟨fun r _ => r⟩ ⟨fun r _ => r⟩ ⟨fun r _ => r⟩ ⟨fun r _ => r⟩ ⟨fun r _ => r⟩ ⟨fun r _ => r⟩ ⟨fun r _ => r⟩ ⟨fun r _ => r⟩ ⟨fun r _ => r⟩ a) (fun _ _ _ _ => ⟨fun r _ => r⟩) (fun _ => ⟨fun r _ => r⟩) (dig k)
def RF.undef : RF := R16.fill (R16.fill .undef)
noncomputable def getR (rs : RF) (k : Nat) : V := (rg k).run rs
noncomputable def RF.set (rs : RF) (k : Nat) (v : V) : RF := (rsw k).run rs v
noncomputable def X.val (rs : RF) : X → V
  | .r k => getR rs k
  | .c v => v

theorem rgT_get (a b : D16) (r : RF) : (R16.get b (R16.get a rgT)).run r = R16.get b (R16.get a r) := by cases a <;> cases b <;> rfl
theorem rsT_get (a b : D16) (r : RF) (v : V) : (R16.get b (R16.get a rsT)).run r v = R16.set a r (R16.set b (R16.get a r) v) := by cases a <;> cases b <;> rfl
/-- A register's place. -/
def regOf : DK → Option (D16 × D16)
  | .c1 a => some (.d0, a)
  | .c3 .d0 b c => some (b, c)
  | _ => none
theorem getR_eq (rs : RF) (k : Nat) : getR rs k = match regOf (dig k) with | some (a, b) => R16.get b (R16.get a rs) | none => .undef := by
  unfold getR rg
  cases dig k with
  | c1 a => exact rgT_get .d0 a rs
  | c3 a b c => cases a <;> first | exact rgT_get b c rs | rfl
  | c4 a b c d => rfl
  | cb k => rfl
theorem set_eq (rs : RF) (k : Nat) (v : V) : rs.set k v = match regOf (dig k) with | some (a, b) => R16.set a rs (R16.set b (R16.get a rs) v) | none => rs := by
  unfold RF.set rsw
  cases dig k with
  | c1 a => exact rsT_get .d0 a rs v
  | c3 a b c => cases a <;> first | exact rsT_get b c rs v | rfl
  | c4 a b c d => rfl
  | cb k => rfl
theorem regOf_val {d : DK} {a b : D16} (h : regOf d = some (a, b)) : a.val * 16 + b.val = d.val := by
  cases d with
  | c1 a => cases h; simp [DK.val, D16.val]
  | c3 a b c => cases a <;> first | (cases h; done) | (cases h; simp [DK.val, D16.val])
  | c4 a b c d => cases h
  | cb k => cases h
theorem regOf_dig {k : Nat} (h : k < 256) : ∃ a b, regOf (dig k) = some (a, b) := by
  cases k with
  | zero => exact ⟨_, _, rfl⟩
  | succ m =>
    have hd : dig (m + 1) = digS m := rfl
    rw [hd]
    unfold digS
    have h2 : Nat.ble m 4094 = true := by rw [Nat.ble_eq]; omega
    rw [h2]
    cases Nat.ble m 14 with
    | true => exact ⟨_, _, rfl⟩
    | false =>
      have e : Nat.div (Nat.succ m) 256 = 0 := by show (m + 1) / 256 = 0; omega
      rw [e]
      exact ⟨_, _, rfl⟩
theorem getR_set (rs : RF) {k : Nat} (hk : k < 256) (j : Nat) (v : V) : getR (rs.set k v) j = if j = k then v else getR rs j := by
  obtain ⟨a, b, ha⟩ := regOf_dig hk
  rw [getR_eq, getR_eq, set_eq, ha]
  simp only
  split
  · rename_i c d hj
    split
    · rename_i e; subst e; rw [ha] at hj; cases hj; simp [R16.get_set]
    · rename_i e
      have : ¬ (c = a ∧ d = b) := by
        rintro ⟨rfl, rfl⟩
        have h1 := regOf_val ha
        have h2 := regOf_val hj
        rw [dig_val] at h1 h2
        omega
      by_cases hc : c = a <;> by_cases hd : d = b <;> simp_all [R16.get_set]
  · rename_i hj
    split
    · rename_i e; subst e; rw [ha] at hj; cases hj
    · rfl
theorem getR_undef (k : Nat) : getR RF.undef k = .undef := by
  rw [getR_eq]
  split
  · simp [RF.undef, R16.get_fill]
  · rfl

/-- The registers of a call: its arguments, and nothing in the others. -/
noncomputable def RF.fill (k : Nat) : List V → RF → RF :=
  fun l => List.rec (motive := fun _ => Nat → RF → RF) (fun _ r => r) (fun v _ ih k r => ih (Nat.succ k) (r.set k v)) l k
theorem RF.fill_nil (k : Nat) (r : RF) : RF.fill k [] r = r := rfl
theorem RF.fill_cons (k : Nat) (v : V) (l : List V) (r : RF) : RF.fill k (v :: l) r = RF.fill (k + 1) l (r.set k v) := rfl
noncomputable def RF.of (l : List V) : RF := RF.fill 0 l RF.undef
theorem getR_set_ge (rs : RF) {k : Nat} (hk : 256 ≤ k) (v : V) : rs.set k v = rs := by
  rw [set_eq]
  split
  · rename_i a b h
    have h1 := regOf_val h
    rw [dig_val] at h1
    have ha : a.val < 16 := by cases a <;> decide
    have hb : b.val < 16 := by cases b <;> decide
    omega
  · rfl
theorem RF.getR_fill : ∀ (l : List V) (k : Nat) (r : RF) (j : Nat), j < 256 → getR (RF.fill k l r) j = if k ≤ j ∧ j < k + l.length then l.getD (j - k) .undef else getR r j
  | [], k, r, j, _ => by rw [RF.fill_nil, if_neg (by simp)]
  | v :: l, k, r, j, h => by
    rw [RF.fill_cons, RF.getR_fill l (k + 1) _ j h]
    have hs : getR (r.set k v) j = if j = k then v else getR r j := by
      by_cases hk : k < 256
      · exact getR_set r hk j v
      · rw [getR_set_ge r (by omega), if_neg (by omega)]
    rw [hs]
    by_cases h1 : j = k
    · subst h1; rw [if_neg (by omega), if_pos rfl, if_pos (by simp)]; simp
    · by_cases h2 : k + 1 ≤ j ∧ j < k + 1 + l.length
      · rw [if_pos h2, if_pos (by simp; omega)]
        have : j - k = (j - (k + 1)) + 1 := by omega
        rw [this, List.getD_cons_succ]
      · rw [if_neg h2, if_neg h1, if_neg (by simp; omega)]
theorem RF.getR_of (l : List V) (j : Nat) (h : j < 256) : getR (RF.of l) j = l.getD j .undef := by
  unfold RF.of
  rw [RF.getR_fill l 0 _ j h, getR_undef]
  split
  · rfl
  · rename_i hj
    rw [List.getD_eq_getElem?_getD, List.getElem?_eq_none (by omega)]; rfl
/-- The first n registers. -/
noncomputable def RF.list (r : RF) (n : Nat) : List V := (List.range n).map (getR r)
theorem RF.length_list (r : RF) (n : Nat) : (r.list n).length = n := by simp [RF.list]
theorem RF.getElem_list (r : RF) (n j : Nat) (h : j < n) : (r.list n)[j]? = some (getR r j) := by simp [RF.list, h]

end Ax

/- The abstract executor, part 2: what the compiled operations do to an abstract heap. -/
namespace Ax
open Go

/-! Whole numbers: quick forms, and what they are. -/
noncomputable def ltI (x y : Int) : Bool :=
  Int.rec (motive := fun _ => Bool) (fun m => Int.rec (motive := fun _ => Bool) (fun n => Nat.ble (Nat.succ m) n) (fun _ => false) y)
    (fun m => Int.rec (motive := fun _ => Bool) (fun _ => true) (fun n => Nat.ble (Nat.succ n) m) y) x
noncomputable def eqI (x y : Int) : Bool :=
  Int.rec (motive := fun _ => Bool) (fun m => Int.rec (motive := fun _ => Bool) (fun n => Nat.beq m n) (fun _ => false) y)
    (fun m => Int.rec (motive := fun _ => Bool) (fun _ => false) (fun n => Nat.beq m n) y) x
theorem ltI_eq (x y : Int) : ltI x y = decide (x < y) := by
  cases x <;> cases y <;> simp only [ltI]
  · rename_i m n
    rw [Bool.eq_iff_iff]; simp [Nat.ble_eq]; omega
  · symm; simp; omega
  · symm; simp; omega
  · rename_i m n
    rw [Bool.eq_iff_iff]; simp [Nat.ble_eq]; omega
theorem eqI_eq (x y : Int) : eqI x y = (x == y) := by
  cases x <;> cases y <;> simp only [eqI]
  · rename_i m n
    rw [Bool.eq_iff_iff]; simp; omega
  · symm; simp
  · symm; simp
  · rename_i m n
    rw [Bool.eq_iff_iff]; simp
noncomputable def wrap64q (n : Int) : Int :=
  Int.rec (motive := fun _ => Int) (fun m => Bool.rec (IntKind.i64.wrap (.ofNat m)) (.ofNat m) (Nat.ble m 9223372036854775807))
    (fun m => Bool.rec (IntKind.i64.wrap (.negSucc m)) (.negSucc m) (Nat.ble m 9223372036854775807)) n
theorem wrap64q_eq (n : Int) : wrap64q n = IntKind.i64.wrap n := by
  cases n with
  | ofNat m =>
    show (Bool.rec _ _ (Nat.ble m 9223372036854775807) : Int) = _
    cases h : Nat.ble m 9223372036854775807 with
    | false => rfl
    | true =>
      have := Nat.le_of_ble_eq_true h
      simp only [IntKind.wrap, IntKind.signed, IntKind.bits]
      simp
      omega
  | negSucc m =>
    show (Bool.rec _ _ (Nat.ble m 9223372036854775807) : Int) = _
    cases h : Nat.ble m 9223372036854775807 with
    | false => rfl
    | true =>
      have := Nat.le_of_ble_eq_true h
      simp only [IntKind.wrap, IntKind.signed, IntKind.bits]
      simp
      omega

def mkInt (k : IntKind) (n : Int) : V := match k with | .i64 => .i n | k => .u k n
noncomputable def wrapq (k : IntKind) (n : Int) : Int := match k with | .i64 => wrap64q n | k => k.wrap n
theorem wrapq_eq (k : IntKind) (n : Int) : wrapq k n = k.wrap n := by cases k <;> simp [wrapq, wrap64q_eq]

/-- Bits of two numbers: quick where both are natural and fit. -/
noncomputable def bitsq (f : Nat → Nat → Nat) (slow : Int) (k : IntKind) (x y : Int) : Int :=
  Int.rec (motive := fun _ => Int)
    (fun m => Int.rec (motive := fun _ => Int) (fun n => Bool.rec slow (.ofNat (f m n)) (and (and (!k.signed) (Nat.ble (Nat.succ m) (2 ^ k.bits))) (Nat.ble (Nat.succ n) (2 ^ k.bits)))) (fun _ => slow) y)
    (fun _ => slow) x

def slowAnd (k : IntKind) (x y : Int) : Int := k.wrap (BitVec.ofInt k.bits x &&& BitVec.ofInt k.bits y).toNat
def slowOr (k : IntKind) (x y : Int) : Int := k.wrap (BitVec.ofInt k.bits x ||| BitVec.ofInt k.bits y).toNat
def slowXor (k : IntKind) (x y : Int) : Int := k.wrap (BitVec.ofInt k.bits x ^^^ BitVec.ofInt k.bits y).toNat
def slowAndNot (k : IntKind) (x y : Int) : Int := k.wrap (BitVec.ofInt k.bits x &&& ~~~ BitVec.ofInt k.bits y).toNat

theorem wrap_unsigned (k : IntKind) (hk : k.signed = false) (m : Nat) (hm : m < 2 ^ k.bits) : k.wrap (Int.ofNat m) = Int.ofNat m := by
  unfold IntKind.wrap
  rw [hk]
  simp only [Bool.false_and, Bool.false_eq_true, if_false]
  have : ((2 : Int) ^ k.bits) = ((2 ^ k.bits : Nat) : Int) := by simp
  rw [this]
  exact Int.emod_eq_of_lt (by simp) (Int.ofNat_lt.2 hm)
theorem bitsq_eq (f : Nat → Nat → Nat) (slow : Int) (k : IntKind) (x y : Int)
    (h : ∀ m n : Nat, x = .ofNat m → y = .ofNat n → k.signed = false → m < 2 ^ k.bits → n < 2 ^ k.bits → slow = .ofNat (f m n)) : bitsq f slow k x y = slow := by
  cases x with
  | negSucc m => rfl
  | ofNat m =>
    cases y with
    | negSucc n => rfl
    | ofNat n =>
      show (Bool.rec slow (.ofNat (f m n)) (and (and (!k.signed) (Nat.ble (Nat.succ m) (2 ^ k.bits))) (Nat.ble (Nat.succ n) (2 ^ k.bits))) : Int) = slow
      cases hb : and (and (!k.signed) (Nat.ble (Nat.succ m) (2 ^ k.bits))) (Nat.ble (Nat.succ n) (2 ^ k.bits)) with
      | false => rfl
      | true =>
        simp only [Bool.and_eq_true, Bool.not_eq_true'] at hb
        exact (h m n rfl rfl hb.1.1 (Nat.lt_of_succ_le (Nat.le_of_ble_eq_true hb.1.2)) (Nat.lt_of_succ_le (Nat.le_of_ble_eq_true hb.2))).symm
noncomputable def andq (k : IntKind) (x y : Int) : Int := bitsq Nat.land (slowAnd k x y) k x y
noncomputable def orq (k : IntKind) (x y : Int) : Int := bitsq Nat.lor (slowOr k x y) k x y
noncomputable def xorq (k : IntKind) (x y : Int) : Int := bitsq Nat.xor (slowXor k x y) k x y
noncomputable def andNotq (k : IntKind) (x y : Int) : Int := bitsq (fun m n => Nat.xor m (Nat.land m n)) (slowAndNot k x y) k x y
theorem ofInt_toNat (b m : Nat) (h : m < 2 ^ b) : (BitVec.ofInt b (Int.ofNat m)).toNat = m := by
  show (BitVec.ofInt b ((m : Nat) : Int)).toNat = m
  rw [BitVec.ofInt_natCast, BitVec.toNat_ofNat, Nat.mod_eq_of_lt h]
theorem andq_eq (k : IntKind) (x y : Int) : andq k x y = slowAnd k x y := by
  refine bitsq_eq _ _ _ _ _ ?_
  rintro m n rfl rfl hk hm hn
  unfold slowAnd
  have e : (BitVec.ofInt k.bits (Int.ofNat m) &&& BitVec.ofInt k.bits (Int.ofNat n)).toNat = m &&& n := by
    rw [BitVec.toNat_and, ofInt_toNat _ _ hm, ofInt_toNat _ _ hn]
  rw [e]
  exact wrap_unsigned k hk _ (Nat.lt_of_le_of_lt Nat.and_le_left hm)
theorem orq_eq (k : IntKind) (x y : Int) : orq k x y = slowOr k x y := by
  refine bitsq_eq _ _ _ _ _ ?_
  rintro m n rfl rfl hk hm hn
  unfold slowOr
  have e : (BitVec.ofInt k.bits (Int.ofNat m) ||| BitVec.ofInt k.bits (Int.ofNat n)).toNat = m ||| n := by
    rw [BitVec.toNat_or, ofInt_toNat _ _ hm, ofInt_toNat _ _ hn]
  rw [e]
  exact wrap_unsigned k hk _ (Nat.or_lt_two_pow hm hn)
theorem xorq_eq (k : IntKind) (x y : Int) : xorq k x y = slowXor k x y := by
  refine bitsq_eq _ _ _ _ _ ?_
  rintro m n rfl rfl hk hm hn
  unfold slowXor
  have e : (BitVec.ofInt k.bits (Int.ofNat m) ^^^ BitVec.ofInt k.bits (Int.ofNat n)).toNat = m ^^^ n := by
    rw [BitVec.toNat_xor, ofInt_toNat _ _ hm, ofInt_toNat _ _ hn]
  rw [e]
  exact wrap_unsigned k hk _ (Nat.xor_lt_two_pow hm hn)
theorem andNotq_eq (k : IntKind) (x y : Int) : andNotq k x y = slowAndNot k x y := by
  refine bitsq_eq _ _ _ _ _ ?_
  rintro m n rfl rfl hk hm hn
  unfold slowAndNot
  have e : (BitVec.ofInt k.bits (Int.ofNat m) &&& ~~~ BitVec.ofInt k.bits (Int.ofNat n)).toNat = m ^^^ (m &&& n) := by
    have e1 : (BitVec.ofInt k.bits (Int.ofNat m) &&& ~~~ BitVec.ofInt k.bits (Int.ofNat n)) = BitVec.ofInt k.bits (Int.ofNat m) ^^^ (BitVec.ofInt k.bits (Int.ofNat m) &&& BitVec.ofInt k.bits (Int.ofNat n)) := by
      ext i hi
      simp only [BitVec.getElem_and, BitVec.getElem_not, BitVec.getElem_xor]
      cases (BitVec.ofInt k.bits (Int.ofNat m))[i] <;> cases (BitVec.ofInt k.bits (Int.ofNat n))[i] <;> rfl
    rw [e1, BitVec.toNat_xor, BitVec.toNat_and, ofInt_toNat _ _ hm, ofInt_toNat _ _ hn]
  rw [e]
  exact wrap_unsigned k hk _ (Nat.xor_lt_two_pow hm (Nat.lt_of_le_of_lt Nat.and_le_left hm))

noncomputable def intBin (op : BinOp) (k : IntKind) (x y : Int) : Option V :=
  match op with
  | .add => some (mkInt k (wrapq k (x + y)))
  | .sub => some (mkInt k (wrapq k (x - y)))
  | .mul => some (mkInt k (wrapq k (x * y)))
  | .quo => if y = 0 then none else some (mkInt k (wrapq k (x.tdiv y)))
  | .rem => if y = 0 then none else some (mkInt k (x.tmod y))
  | .and => some (mkInt k (andq k x y))
  | .or => some (mkInt k (orq k x y))
  | .xor => some (mkInt k (xorq k x y))
  | .andNot => some (mkInt k (andNotq k x y))
  | .eql => some (.b (eqI x y))
  | .neq => some (.b (!eqI x y))
  | .lss => some (.b (ltI x y))
  | .leq => some (.b (!ltI y x))
  | .gtr => some (.b (ltI y x))
  | .geq => some (.b (!ltI x y))
  | .shl => if ltI y 0 then none else some (mkInt k (wrapq k (x * 2 ^ (min y.toNat k.bits))))
  | .shr => if ltI y 0 then none else some (mkInt k (x.fdiv (2 ^ (min y.toNat k.bits))))

def byteAt (c i : Nat) : Nat := Nat.mod (Nat.shiftRight c (Nat.mul 8 i)) 256
def sLess : Nat → Nat → Nat → Nat → Nat → Bool
  | 0, _, _, _, _ => false
  | f + 1, l, a, m, b => match m with
    | 0 => false
    | m + 1 => match l with
      | 0 => true
      | l + 1 => Nat.blt (a % 256) (b % 256) || (Nat.beq (a % 256) (b % 256) && sLess f l (a / 256) m (b / 256))
def strEq (l a m b : Nat) : Bool := Nat.beq l m && Nat.beq a b
def strBin (op : BinOp) (l a m b : Nat) : Option V :=
  match op with
  | .add => if l + m ≤ 1000000000 then some (.s (l + m) (a + Nat.shiftLeft b (8 * l))) else none
  | .eql => some (.b (strEq l a m b))
  | .neq => some (.b (!strEq l a m b))
  | .lss => some (.b (sLess (l + 1) l a m b))
  | .leq => some (.b (sLess (l + 1) l a m b || strEq l a m b))
  | .gtr => some (.b (!(sLess (l + 1) l a m b || strEq l a m b)))
  | .geq => some (.b (!sLess (l + 1) l a m b))
  | _ => none
noncomputable def binV (op : BinOp) (x y : V) : Option V :=
  match x, y with
  | .i a, .i b => intBin op .i64 a b
  | .u k a, .u j b => (match op with
    | .shl | .shr => intBin op k a b
    | _ => if k = j then intBin op k a b else none)
  | .u k a, .i b => (match op with | .shl | .shr => intBin op k a b | _ => none)
  | .i a, .u _ b => (match op with | .shl | .shr => intBin op .i64 a b | _ => none)
  | .s l a, .s m b => strBin op l a m b
  | _, _ => none

noncomputable def unV (op : UnOp) (x : V) : Option V :=
  match op, x with
  | .not, .b y => some (.b !y)
  | .neg, .i n => some (.i (wrapq .i64 (0 - n)))
  | .neg, .u k n => some (.u k (wrapq k (0 - n)))
  | .xor, .i n => some (.i (xorq .i64 (-1) n))
  | .xor, .u k n => some (mkInt k (xorq k (if k.signed then -1 else k.max) n))
  | _, _ => none

/-- Are two leaves the same? none: it can't be told. -/
noncomputable def leafEq : V → V → Option Bool
  | .i a, .i b => some (eqI a b)
  | .u k a, .u j b => if k = j then some (eqI a b) else none
  | .b a, .b b => some (a == b)
  | .s l a, .s m b => some (strEq l a m b)
  | _, _ => none
noncomputable def leavesEq : List V → List V → Option Bool
  | [], [] => some true
  | x :: r, y :: q => match leafEq x y with
    | some true => leavesEq r q
    | some false => some false
    | none => none
  | _, _ => none
def LK.fits : LK → V → Bool
  | .int, .i _ | .int, .u _ _ | .bool, .b _ | .str, .s _ _ => true
  | _, _ => false
def fitsL : List LK → List V → Bool
  | [], [] => true
  | k :: r, v :: q => k.fits v && fitsL r q
  | _, _ => false
def KK.fits : KK → V → Bool
  | .leaf k, v => k.fits v
  | .flat ks, .agg cs => fitsL ks cs
  | _, _ => false
noncomputable def eqV (k : EqK) (x y : V) : Option Bool :=
  match k, x, y with
  | .bool, .b a, .b b => some (a == b)
  | .ptr, .nilp, .nilp => some true
  | .ptr, .nilp, .ptr _ _ | .ptr, .ptr _ _, .nilp | .ptr, .nilp, .fp _ | .ptr, .fp _, .nilp => some false
  | .ptr, .ptr a o, .ptr b p => if a = b then (if o = p then some true else none) else none
  | .slice, .nils, .nils => some true
  | .slice, .nils, .sl .. | .slice, .sl .., .nils | .slice, .nils, .fs .. | .slice, .fs .., .nils => some false
  | .map, .nilm, .nilm => some true
  | .map, .nilm, .m _ | .map, .m _, .nilm => some false
  | .func, .nilf, .nilf => some true
  | .func, .nilf, .fn .. | .func, .fn .., .nilf => some false
  | .iface, .nili, .nili => some true
  | .iface, .nili, .ifc .. | .iface, .ifc .., .nili => some false
  | .flat ks, .agg a, .agg b => if fitsL ks a then leavesEq a b else none
  | _, _, _ => none

/-- Keys of maps. -/
noncomputable def keyEq : V → V → Option Bool
  | .agg a, .agg b => leavesEq a b
  | a, b => leafEq a b
noncomputable def mapFind (k : V) : List (V × V × Nat) → Nat → Option (Option (Nat × V × Nat))
  | [], _ => some none
  | (a, v, born) :: r, i => match keyEq k a with
    | some true => some (some (i, v, born))
    | some false => mapFind k r (i + 1)
    | none => none

noncomputable def mapSel (h : H) (x k : V) : Option (Option (Nat × V × Nat)) :=
  match x with
  | .nilm => mapFind k [] 0
  | .m id => (match h.get id with | some (.map es _) => mapFind k es 0 | _ => none)
  | _ => none
def foundV (z : V) (ok : Bool) : Option (Nat × V × Nat) → V
  | some (_, v, _) => if ok then .tup [v, .b true] else v
  | none => if ok then .tup [z, .b false] else z

/-! Cells. -/
noncomputable def readT (c : T V) (n : Nat) : Nat → Option (List V) :=
  Nat.rec (motive := fun _ => Nat → Option (List V)) (fun _ => some []) (fun _ ih k => match c.get k with
    | some v => (match ih (k + 1) with | some l => some (v :: l) | none => none)
    | none => none) n
noncomputable def fillT (c : T V) (k : Nat) : List V → T V
  | [] => c
  | v :: r => fillT (c.set k v) (k + 1) r
noncomputable def newCells (h : H) (e es : Nat) (cs : List V) (cl : Bool) : H := h.new (.cells (fillT .e 0 cs) cs.length e es cl)
noncomputable def ldC (h : H) (p : V) (n : Nat) : Option (List V) :=
  match p with
  | .ptr id off => (match h.get id with | some (.cells c m _ _ _) => if off + n ≤ m then readT c n off else none | _ => none)
  | .fp cs => if n ≤ cs.length then some (cs.take n) else none
  | _ => none
noncomputable def stC (h : H) (p : V) (vs : List V) : Option H :=
  match p with
  | .ptr id off => (match h.get id with
    | some (.cells c n e es cl) => if off + vs.length ≤ n && vs.all V.leaf then some (h.put id (.cells (fillT c off vs) n e es cl)) else none
    | _ => none)
  | _ => none

def splice (cs : List V) (off : Nat) (vs : List V) : List V := cs.take off ++ vs ++ cs.drop (off + vs.length)
def fillL (cs : List V) : List (Nat × Nat × V) → Option (List V)
  | [] => some cs
  | (off, sz, v) :: r => if v.cells.length = sz && off + sz ≤ cs.length && v.cells.all V.leaf then fillL (splice cs off v.cells) r else none
def reps (n : Nat) (z : List V) : List V := (List.replicate n z).flatten

def bytesV (l c : Nat) : List V := (List.range l).map fun j => .u .u8 (Int.ofNat (byteAt c j))
def bytesOf : List V → Option (Nat × Nat)
  | [] => some (0, 0)
  | .u .u8 (.ofNat n) :: r => (match bytesOf r with | some (l, c) => if n < 256 then some (l + 1, n + 256 * c) else none | none => none)
  | _ => none
/-- The first n elements of es cells of a slice or a string. -/
noncomputable def firstOf (h : H) (es n : Nat) : V → Option (List V)
  | .sl id off len _ => if n ≤ len then ldC h (.ptr id off) (n * es) else none
  | .nils => if n = 0 then some [] else none
  | .fs cs len _ => if n ≤ len && n * es ≤ cs.length then some (cs.take (n * es)) else none
  | .s l c => if n = l && es = 1 then some (bytesV l c) else none
  | _ => none
def lenV : V → Option Nat
  | .sl _ _ l _ => some l
  | .fs _ l _ => some l
  | .nils => some 0
  | .s l _ => some l
  | _ => none

/-- The length of a slice. -/
def lenQ : V → Option Nat
  | .sl _ _ l _ => some l
  | .fs _ l _ => some l
  | .nils => some 0
  | _ => none
/-- A row that has outgrown its block: what the new one reads as. -/
noncomputable def grown (c : T V) (k off m : Nat) (new : List V) : Option (T V × Nat) :=
  if off = 0 ∧ m = k then some (fillT c k new, k + new.length)
  else match readT c m off with
    | some old => some (fillT .e 0 (old ++ new), m + new.length)
    | none => none
/-- append: n elements of es cells. -/
noncomputable def appendV (h : H) (e es : Nat) (s : V) (n : Nat) (new : List V) : Option (V × H) :=
  match s with
  | .nils => if n = 0 then some (.nils, h) else if n ≤ 16777216 then some (.sl h.next 0 n 0, newCells h e es new false) else none
  | .sl id off len cap =>
    if n = 0 then some (s, h) else if 16777216 < len + n then none else
    match h.get id with
    | some (.cells c k e' es' _) =>
      if es = es' ∧ e = e' then
        match cap with
        | cp + 1 => if len + n ≤ cp then (match stC h (.ptr id (off + len * es)) new with | some h => some (.sl id off (len + n) cap, h) | none => none)
          else if off + len * es ≤ k then (match grown c k off (len * es) new with
            | some (c', k') => some (.sl h.next 0 (len + n) 0, h.new (.cells c' k' e es false))
            | none => none) else none
        | 0 => if off + (len + n) * es ≤ k then (match stC h (.ptr id (off + len * es)) new with | some h => some (.sl id off (len + n) 0, h) | none => none)
          else if off + len * es ≤ k then (match grown c k off (len * es) new with
            | some (c', k') => some (.sl h.next 0 (len + n) 0, (h.new (.cells c' k' e es false)).del id)
            | none => none) else none
      else none
    | _ => none
  | .fs cs len cap =>
    if n = 0 then some (s, h) else if 16777216 < len + n then none else
    match cap with
    | cp + 1 => if cp < len + n && len * es ≤ cs.length then some (.sl h.next 0 (len + n) 0, newCells h e es (cs.take (len * es) ++ new) false) else none
    | 0 => none
  | _ => none

/-- Bounds of a slice expression. -/
noncomputable def bnd (rs : RF) : Option X → Option (Option Nat)
  | none => some none
  | some x => match x.val rs with
    | .i (.ofNat n) => some (some n)
    | .u _ (.ofNat n) => some (some n)
    | _ => none
def sliceS (l c : Nat) (lo hi : Option Nat) : Option V :=
  let h := hi.getD l
  let a := lo.getD 0
  if a ≤ h && h ≤ l then some (.s (h - a) (Nat.mod (Nat.shiftRight c (8 * a)) (2 ^ (8 * (h - a))))) else none
def sliceV (x : V) (es known : Nat) (lo hi mx : Option Nat) : Option V :=
  match x with
  | .nils => if lo.getD 0 = 0 && hi.getD 0 = 0 && mx.getD 0 = 0 then some .nils else none
  | .fs cs len cap =>
    let h := hi.getD len
    let a := lo.getD 0
    let most := match cap with | 0 => len | c + 1 => c
    match mx with
    | some m => if a ≤ h && h ≤ m && m ≤ most then some (.fs (cs.drop (a * es)) (h - a) (m - a + 1)) else none
    | none => if a ≤ h && h ≤ most then some (.fs (cs.drop (a * es)) (h - a) (match cap with | 0 => 0 | c + 1 => c - a + 1)) else none
  | .sl id off len cap =>
    let h := hi.getD len
    let a := lo.getD 0
    let most := match cap with | 0 => Nat.max len known | c + 1 => c
    match mx with
    | some m => if a ≤ h && h ≤ m && m ≤ most then some (.sl id (off + a * es) (h - a) (m - a + 1)) else none
    | none => if a ≤ h && h ≤ most then some (.sl id (off + a * es) (h - a) (match cap with | 0 => 0 | c + 1 => c - a + 1)) else none
  | _ => none
/-- How many elements of an open slice's block are known. -/
noncomputable def knownOf (h : H) (es : Nat) : V → Nat
  | .sl id off _ 0 => (match h.get id with | some (.cells _ n _ es' _) => if es = es' then (n - off) / es else 0 | _ => 0)
  | _ => 0

/-- Is an open slice's block there, with elements of so many cells? -/
noncomputable def openOK (h : H) (es : Nat) : V → Bool
  | .sl id _ _ 0 => (match h.get id with | some (.cells _ _ _ es' _) => Nat.beq es es' | _ => false)
  | _ => true

inductive OR where
  | val (v : V) (h : H)
  | call (f : Nat) (args : List V)
  | ycall (id : Nat) (args : List V)
  | defer (f : Nat) (args : List V)
  | rcv

noncomputable def vals (rs : RF) (xs : List X) : List V := xs.map (X.val rs)
noncomputable def parts (rs : RF) (ps : List (Nat × Nat × X)) : List (Nat × Nat × V) := ps.map fun p => (p.1, p.2.1, p.2.2.val rs)
def ret (h : H) (o : Option V) : Option OR := match o with | some v => some (.val v h) | none => none
def natI : V → Option Nat
  | .i (.ofNat n) => some n
  | .u _ (.ofNat n) => some n
  | _ => none

noncomputable def opSem (o : COp) (rs : RF) (h : H) : Option OR :=
  match o with
  | .mv x => some (.val (x.val rs) h)
  | .pick c a b => (match c.val rs with | .b t => some (.val (if t then a.val rs else b.val rs) h) | _ => none)
  | .alloc e z => some (.val (.ptr h.next 0) (newCells h e (Nat.max 1 z.length) z true))
  | .box e x => if (x.val rs).cells.all V.leaf then some (.val (.ptr h.next 0) (newCells h e (Nat.max 1 (x.val rs).cells.length) (x.val rs).cells true)) else none
  | .build z ps => ret h ((fillL z (parts rs ps)).map .agg)
  | .bslice e es n z ps => (match fillL (reps n z) (parts rs ps) with
    | some cs => if cs.all V.leaf then some (.val (.sl h.next 0 n (n + 1)) (newCells h e es cs true)) else none
    | none => none)
  | .ld x => (match ldC h (x.val rs) 1 with | some [v] => some (.val v h) | _ => none)
  | .lda n x => ret h ((ldC h (x.val rs) n).map .agg)
  | .st n a x => if (x.val rs).cells.length = n then (match stC h (a.val rs) (x.val rs).cells with | some h => some (.val .undef h) | none => none) else none
  | .nilck x => (match x.val rs with
    | .ptr i o => some (.val (.ptr i o) h)
    | .fp cs => some (.val (.fp cs) h)
    | .fn f c => some (.val (.fn f c) h)
    | .yld i => some (.val (.yld i) h)
    | .ifc t v => some (.val (.ifc t v) h)
    | _ => none)
  | .bin op x y => ret h (binV op (x.val rs) (y.val rs))
  | .eq k neg x y => (match eqV k (x.val rs) (y.val rs) with | some t => some (.val (.b (t != neg)) h) | none => none)
  | .un op x => ret h (unV op (x.val rs))
  | .cvInt k x => (match x.val rs with
    | .i n => some (.val (mkInt k (wrapq k n)) h)
    | .u _ n => some (.val (mkInt k (wrapq k n)) h)
    | _ => none)
  | .cvS x => (match x.val rs with | .s l c => some (.val (.s l c) h) | _ => none)
  | .cvUp _ x => (match x.val rs with
    | .nilp => some (.val .nilp h)
    | .ptr id off => (match h.get id with
      | some (.cells _ n _ _ _) => if off < n then some (.val (.ptr id off) h) else none
      | _ => none)
    | _ => none)
  | .cvDn _ al x => (match x.val rs with
    | .nilp => some (.val .nilp h)
    | .ptr id 0 => (match h.get id with
      | some (.cells _ n e _ true) => if al.any fun p => Nat.beq p.1 e && Nat.beq p.2 n then some (.val (.ptr id 0) h) else none
      | _ => none)
    | _ => none)
  | .cvBytes e x => (match x.val rs with
    | .s l c => some (.val (.sl h.next 0 l 0) (newCells h e 1 (bytesV l c) false))
    | _ => none)
  | .cvStr x => (match (lenQ (x.val rs)).bind fun n => (firstOf h 1 n (x.val rs)).bind bytesOf with
    | some (l, c) => some (.val (.s l c) h)
    | none => none)
  | .mkIf t x => some (.val (.ifc t (x.val rs)) h)
  | .mkFn f xs => some (.val (.fn f (vals rs xs)) h)
  | .mkMap => some (.val (.m h.next) (h.new (.map [] 0)))
  | .mkSl e es z l c => (match natI (l.val rs), natI (c.val rs) with
    | some l, some c => if l ≤ c && c ≤ 16777216 then some (.val (.sl h.next 0 l (c + 1)) (newCells h e es (reps c z) true)) else none
    | _, _ => none)
  | .slArr n es x lo hi mx => (match x.val rs, bnd rs lo, bnd rs hi, bnd rs mx with
    | .ptr id off, some lo, some hi, some mx => ret h (sliceV (.sl id off n (n + 1)) es 0 lo hi mx)
    | _, _, _, _ => none)
  | .slSl es x lo hi mx => (match bnd rs lo, bnd rs hi, bnd rs mx with
    | some lo, some hi, some mx => if openOK h es (x.val rs) then ret h (sliceV (x.val rs) es (knownOf h es (x.val rs)) lo hi mx) else none
    | _, _, _ => none)
  | .slStr x lo hi => (match x.val rs, bnd rs lo, bnd rs hi with
    | .s l c, some lo, some hi => ret h (sliceS l c lo hi)
    | _, _, _ => none)
  | .fadr off x => (match x.val rs with
    | .ptr id o => some (.val (.ptr id (o + off)) h)
    | .fp cs => some (.val (.fp (cs.drop off)) h)
    | _ => none)
  | .fld off n x => (match x.val rs with
    | .agg cs => (match n with
      | some n => if off + n ≤ cs.length then some (.val (.agg ((cs.drop off).take n)) h) else none
      | none => ret h cs[off]?)
    | _ => none)
  | .ixArr n es x i => (match x.val rs, natI (i.val rs) with
    | .ptr id o, some i => if i < n then some (.val (.ptr id (o + i * es)) h) else none
    | .fp cs, some i => if i < n then some (.val (.fp (cs.drop (i * es))) h) else none
    | _, _ => none)
  | .ixSl es x i => (match x.val rs, natI (i.val rs) with
    | .sl id o len _, some i => if i < len then some (.val (.ptr id (o + i * es)) h) else none
    | .fs cs len _, some i => if i < len then some (.val (.fp (cs.drop (i * es))) h) else none
    | _, _ => none)
  | .idxArr n es g x i => (match x.val rs, natI (i.val rs) with
    | .agg cs, some i => if i < n then (if g then (if i * es + es ≤ cs.length then some (.val (.agg ((cs.drop (i * es)).take es)) h) else none) else ret h cs[i * es]?) else none
    | _, _ => none)
  | .idxStr x i => (match x.val rs, natI (i.val rs) with
    | .s l c, some i => if i < l then some (.val (.u .u8 (Int.ofNat (byteAt c i))) h) else none
    | _, _ => none)
  | .lookup kk z ok x k => if kk.fits (k.val rs) then (match mapSel h (x.val rs) (k.val rs) with | some f => some (.val (foundV z ok f) h) | none => none) else none
  | .mupd kk x k y => if kk.fits (k.val rs) then (match x.val rs with
    | .m id => (match h.get id with
      | some (.map es clock) => (match mapFind (k.val rs) es 0 with
        | some (some (i, _, born)) => some (.val .undef (h.put id (.map (es.set i (k.val rs, y.val rs, born)) clock)))
        | some none => some (.val .undef (h.put id (.map (es ++ [(k.val rs, y.val rs, clock)]) (clock + 1))))
        | none => none)
      | _ => none)
    | _ => none) else none
  | .ment kk z x k => if kk.fits (k.val rs) then (match x.val rs with
    | .m id => (match h.get id with
      | some (.map es clock) => (match mapFind (k.val rs) es 0 with
        | some (some (_, v, born)) => some (.val (.tup [v, .i (Int.ofNat born)]) h)
        | some none => some (.val (.tup [z, .i (Int.ofNat clock)]) (h.put id (.map (es ++ [(k.val rs, z, clock)]) (clock + 1))))
        | none => none)
      | _ => none)
    | _ => none) else none
  | .mst x st y => (match x.val rs, natI (st.val rs) with
    | .m id, some born => (match h.get id with
      | some (.map es clock) => (match es.findIdx? fun e => Nat.beq e.2.2 born with
        | some i => (match es[i]? with | some (k, _, _) => some (.val .undef (h.put id (.map (es.set i (k, y.val rs, born)) clock))) | none => none)
        | none => none)
      | _ => none)
    | _, _ => none)
  | .rng x => (match x.val rs with
    | .s l c => some (.val (.ptr h.next 0) (h.new (.iter l c 0)))
    | _ => none)
  | .nxt x => (match x.val rs with
    | .ptr id 0 => (match h.get id with
      | some (.iter l c pos) =>
        if pos < l then (if byteAt c pos < 128 then some (.val (.tup [.b true, .i (Int.ofNat pos), .u .i32 (Int.ofNat (byteAt c pos))]) (h.put id (.iter l c (pos + 1)))) else none)
        else some (.val (.tup [.b false]) h)
      | _ => none)
    | _ => none)
  | .tas z t ok x => (match x.val rs with
    | .nili => if ok then some (.val (.tup [z, .b false]) h) else none
    | .ifc t' v => if t' = t then some (.val (if ok then .tup [v, .b true] else v) h) else if ok then some (.val (.tup [z, .b false]) h) else none
    | _ => none)
  | .ext x i => (match x.val rs with | .tup vs => ret h vs[i]? | _ => none)
  | .call f xs => some (.call f (vals rs xs))
  | .callv x xs => (match x.val rs with
    | .fn f caps => some (.call f (vals rs xs ++ caps))
    | .yld id => some (.ycall id (vals rs xs))
    | _ => none)
  | .noesc x => some (.val (x.val rs) h)
  | .ixByte x c => (match x.val rs, c.val rs with
    | .s l a, .u .u8 (.ofNat n) => some (.val (match (List.range l).find? fun j => Nat.beq (byteAt a j) (n % 256) with | some j => .i (Int.ofNat j) | none => .i (-1)) h)
    | _, _ => none)
  | .app e es s x => (match lenV (x.val rs) with
    | some n => (match firstOf h es n (x.val rs) with
      | some new => if new.all V.leaf then (match appendV h e es (s.val rs) n new with | some (v, h) => some (.val v h) | none => none) else none
      | none => none)
    | none => none)
  | .appZ e es z s n => (match natI (n.val rs) with
    | some n => if n ≤ 16777216 then (match appendV h e es (s.val rs) n (reps n z) with | some (v, h) => some (.val v h) | none => none) else none
    | none => none)
  | .lenStr x => (match x.val rs with
    | .s l _ => some (.val (.i (Int.ofNat l)) h)
    | _ => none)
  | .lenSl x => (match x.val rs with
    | .sl _ _ l _ => some (.val (.i (Int.ofNat l)) h)
    | .fs _ l _ => some (.val (.i (Int.ofNat l)) h)
    | .nils => some (.val (.i 0) h)
    | _ => none)
  | .lenMap x => (match x.val rs with
    | .m id => (match h.get id with | some (.map es _) => some (.val (.i (Int.ofNat es.length)) h) | _ => none)
    | .nilm => some (.val (.i 0) h)
    | _ => none)
  | .lenc n => some (.val (.i (Int.ofNat n)) h)
  | .cap x => (match x.val rs with
    | .sl _ _ _ (c + 1) => some (.val (.i (Int.ofNat c)) h)
    | .fs _ _ (c + 1) => some (.val (.i (Int.ofNat c)) h)
    | .nils => some (.val (.i 0) h)
    | _ => none)
  | .copy es d x => (match lenV (x.val rs), lenV (d.val rs) with
    | some m, some k => (match firstOf h es (Nat.min m k) (x.val rs), d.val rs with
      | some cs, .sl id off _ _ => (match stC h (.ptr id off) cs with | some h => some (.val (.i (Int.ofNat (Nat.min m k))) h) | none => none)
      | some _, .nils => some (.val (.i 0) h)
      | _, _ => none)
    | _, _ => none)
  | .min x y => (match x.val rs, y.val rs with
    | .i a, .i b => some (.val (.i (if ltI b a then b else a)) h)
    | _, _ => none)
  | .max x y => (match x.val rs, y.val rs with
    | .i a, .i b => some (.val (.i (if ltI a b then b else a)) h)
    | _, _ => none)
  | .clear es z x => (match x.val rs with
    | .nils => some (.val .undef h)
    | .sl id off len _ => (match len with
      | 0 => some (.val .undef h)
      | _ => if z.length = es then (match stC h (.ptr id off) (reps len z) with | some h => some (.val .undef h) | none => none) else none)
    | _ => none)
  | .recover => some .rcv
  | .usd x => (match x.val rs with
    | .nils => some (.val .nilp h)
    | .sl id off (_ + 1) _ => some (.val (.ptr id off) h)
    | _ => none)
  | .us e p n => (match p.val rs, natI (n.val rs) with
    | .nilp, some 0 => some (.val (.s 0 0) h)
    | .ptr id off, some (n + 1) => (match h.get id with
      | some (.cells _ _ e' 1 _) => if e = e' ∧ n + 1 ≤ 1000000000 then (match (ldC h (.ptr id off) (n + 1)).bind bytesOf with
        | some (l, c) => some (.val (.s l c) (h.del id))
        | none => none) else none
      | _ => none)
    | _, _ => none)
  | .defer f xs => some (.defer f (vals rs xs))
  | .deferv x xs => (match x.val rs with
    | .fn f caps => some (.defer f (vals rs xs ++ caps))
    | _ => none)
  | .bad => none

end Ax

/- The abstract executor, part 3: what an abstract value, block, heap says of the model's. -/
namespace Ax
open Go

/-- Where an abstract block lies: a block, from which cell on, how many cells that block has, and how many an element. -/
structure Ent where
  blk : Nat
  off : Nat
  size : Nat
  es : Nat

structure Gh where
  φ : Nat → Option Ent
  F : Nat → Option (Array Value)

mutual
inductive VR (g : Gh) : V → Value → Prop
  | top (x : Value) : VR g .top x
  | i (n : Int) : VR g (.i n) (.int .i64 n)
  | u (k : IntKind) (n : Int) : VR g (.u k n) (.int k n)
  | b (x : Bool) : VR g (.b x) (.bool x)
  | s (bs : ByteArray) : VR g (.s bs.size (codeOf bs.data.toList)) (.string bs)
  | ptr {id off : Nat} {e : Ent} (h : g.φ id = some e) : VR g (.ptr id off) (.pointer (some ⟨e.blk, e.off + off, none⟩))
  | fp {cs : List V} {k o : Nat} {arr : Array Value} (h : g.F k = some arr) (hc : VRs g cs ((arr.toList.drop o).take cs.length)) : VR g (.fp cs) (.pointer (some ⟨k, o, none⟩))
  | sl {id off len cap x c : Nat} {e : Ent} (h : g.φ id = some e) (hl : len ≤ c) (hx : c ≠ 0 → x = e.off + off) (ho : cap = 0 → e.off + off + c * e.es = e.size)
      (hc : ∀ cp, cap = cp + 1 → c = cp) : VR g (.sl id off len cap) (.slice (some ⟨e.blk, x, none⟩) len c)
  | fs {cs : List V} {len cap k o c : Nat} {arr : Array Value} (h : g.F k = some arr) (hl : len ≤ c) (hx : c ≠ 0 → VRs g cs ((arr.toList.drop o).take cs.length))
      (hc : ∀ cp, cap = cp + 1 → c = cp) : VR g (.fs cs len cap) (.slice (some ⟨k, o, none⟩) len c)
  | m {id : Nat} {e : Ent} (h : g.φ id = some e) : VR g (.m id) (.map (some e.blk))
  | fn {f : Nat} {cs : List V} {xs : List Value} (h : VRs g cs xs) : VR g (.fn f cs) (.func (.func f) #[] xs.toArray)
  | yld {id : Nat} {e : Ent} (h : g.φ id = some e) : VR g (.yld id) (.func (.yield e.blk) #[] #[])
  | nilp : VR g .nilp (.pointer none)
  | nils : VR g .nils (.slice none 0 0)
  | nilm : VR g .nilm (.map none)
  | nilf : VR g .nilf .nilFunc
  | nili : VR g .nili .nilIface
  | ifc {t : Nat} {v : V} {x : Value} (h : VR g v x) : VR g (.ifc t v) (.iface t x)
  | agg {cs : List V} {xs : List Value} (h : VRs g cs xs) : VR g (.agg cs) (.agg xs.toArray)
  | tup {cs : List V} {xs : List Value} (h : VRs g cs xs) : VR g (.tup cs) (.tuple xs.toArray)
inductive VRs (g : Gh) : List V → List Value → Prop
  | nil : VRs g [] []
  | cons {v : V} {x : Value} {vs : List V} {xs : List Value} (h : VR g v x) (hs : VRs g vs xs) : VRs g (v :: vs) (x :: xs)
end

structure Gh.le (g g' : Gh) : Prop where
  φ : ∀ id e, g.φ id = some e → g'.φ id = some e
  F : ∀ k a, g.F k = some a → g'.F k = some a
theorem Gh.le_refl (g : Gh) : g.le g := ⟨fun _ _ h => h, fun _ _ h => h⟩
theorem Gh.le_trans {a b c : Gh} (h : a.le b) (h' : b.le c) : a.le c := ⟨fun i e x => h'.φ i e (h.φ i e x), fun i e x => h'.F i e (h.F i e x)⟩

mutual
theorem VR.mono {g g' : Gh} (hg : g.le g') : ∀ {v : V} {x : Value}, VR g v x → VR g' v x
  | _, _, .top x => .top x
  | _, _, .i n => .i n
  | _, _, .u k n => .u k n
  | _, _, .b x => .b x
  | _, _, .s bs => .s bs
  | _, _, .ptr h => .ptr (hg.φ _ _ h)
  | _, _, .fp h hc => .fp (hg.F _ _ h) (VRs.mono hg hc)
  | _, _, .sl h hl hx ho hc => .sl (hg.φ _ _ h) hl hx ho hc
  | _, _, .fs h hl hx hc => .fs (hg.F _ _ h) hl (fun c => VRs.mono hg (hx c)) hc
  | _, _, .m h => .m (hg.φ _ _ h)
  | _, _, .fn h => .fn (VRs.mono hg h)
  | _, _, .yld h => .yld (hg.φ _ _ h)
  | _, _, .nilp => .nilp
  | _, _, .nils => .nils
  | _, _, .nilm => .nilm
  | _, _, .nilf => .nilf
  | _, _, .nili => .nili
  | _, _, .ifc h => .ifc (VR.mono hg h)
  | _, _, .agg h => .agg (VRs.mono hg h)
  | _, _, .tup h => .tup (VRs.mono hg h)
theorem VRs.mono {g g' : Gh} (hg : g.le g') : ∀ {vs : List V} {xs : List Value}, VRs g vs xs → VRs g' vs xs
  | _, _, .nil => .nil
  | _, _, .cons h hs => .cons (VR.mono hg h) (VRs.mono hg hs)
end

section vrs
variable {g : Gh}
theorem VRs.length {vs : List V} {xs : List Value} (h : VRs g vs xs) : vs.length = xs.length := by
  induction vs generalizing xs with
  | nil => cases h; rfl
  | cons v vs ih => cases h with | cons _ hs => simp [ih hs]
theorem VRs.get {vs : List V} {xs : List Value} (h : VRs g vs xs) (j : Nat) (v : V) (hv : vs[j]? = some v) : ∃ x, xs[j]? = some x ∧ VR g v x := by
  induction vs generalizing xs j with
  | nil => simp at hv
  | cons u vs ih =>
    cases h with
    | cons hu hs =>
      cases j with
      | zero => simp at hv; subst hv; exact ⟨_, rfl, hu⟩
      | succ j => simp at hv; simpa using ih hs j hv
theorem VRs.of_get : ∀ {vs : List V} {xs : List Value}, vs.length = xs.length → (∀ (j : Nat) (v : V) (x : Value), vs[j]? = some v → xs[j]? = some x → VR g v x) → VRs g vs xs
  | [], [], _, _ => .nil
  | v :: vs, x :: xs, hl, h => .cons (h 0 v x rfl rfl) (VRs.of_get (by simpa using hl) fun j v x hv hx => h (j + 1) v x (by simpa using hv) (by simpa using hx))
  | [], _ :: _, hl, _ => by simp at hl
  | _ :: _, [], hl, _ => by simp at hl
theorem VRs.append {vs ws : List V} {xs ys : List Value} (h : VRs g vs xs) (h' : VRs g ws ys) : VRs g (vs ++ ws) (xs ++ ys) := by
  induction vs generalizing xs with
  | nil => cases h; exact h'
  | cons v vs ih => cases h with | cons hu hs => exact .cons hu (ih hs)
theorem VRs.take {vs : List V} {xs : List Value} (h : VRs g vs xs) (n : Nat) : VRs g (vs.take n) (xs.take n) := by
  induction vs generalizing xs n with
  | nil => cases h; simp; exact .nil
  | cons v vs ih =>
    cases h with
    | cons hu hs => cases n with
      | zero => simp; exact .nil
      | succ n => simp; exact .cons hu (ih hs n)
theorem VRs.drop {vs : List V} {xs : List Value} (h : VRs g vs xs) (n : Nat) : VRs g (vs.drop n) (xs.drop n) := by
  induction vs generalizing xs n with
  | nil => cases h; simp; exact .nil
  | cons v vs ih =>
    cases h with
    | cons hu hs => cases n with
      | zero => simp; exact .cons hu hs
      | succ n => simp; exact ih hs n
theorem VRs.set {vs : List V} {xs : List Value} (h : VRs g vs xs) (n : Nat) {v : V} {x : Value} (hv : VR g v x) : VRs g (vs.set n v) (xs.set n x) := by
  induction vs generalizing xs n with
  | nil => cases h; simp; exact .nil
  | cons v vs ih =>
    cases h with
    | cons hu hs => cases n with
      | zero => simp; exact .cons hv hs
      | succ n => simp; exact .cons hu (ih hs n)
theorem VRs.replicate {v : V} {x : Value} (hv : VR g v x) (n : Nat) : VRs g (List.replicate n v) (List.replicate n x) := by
  induction n with
  | zero => exact .nil
  | succ n ih => exact .cons hv ih
theorem VRs.reps {vs : List V} {xs : List Value} (h : VRs g vs xs) (n : Nat) : VRs g (Ax.reps n vs) ((List.replicate n xs).flatten) := by
  unfold Ax.reps
  induction n with
  | zero => exact .nil
  | succ n ih => simp only [List.replicate_succ, List.flatten_cons]; exact h.append ih
theorem VR.undef : VR g .undef Go.undef := .tup .nil
theorem VRs.getD {vs : List V} {xs : List Value} (h : VRs g vs xs) (k : Nat) : VR g (vs.getD k .undef) (xs.getD k Go.undef) := by
  rw [List.getD_eq_getElem?_getD, List.getD_eq_getElem?_getD]
  cases hv : vs[k]? with
  | none =>
    have : xs[k]? = none := by rw [List.getElem?_eq_none_iff] at hv ⊢; rw [← h.length]; exact hv
    rw [this]; exact VR.undef
  | some v => obtain ⟨x, hx, hr⟩ := h.get k v hv; rw [hx]; exact hr

theorem VR.i_inv {n : Int} {x : Value} (h : VR g (.i n) x) : x = .int .i64 n := by cases h; rfl
theorem VR.u_inv {k : IntKind} {n : Int} {x : Value} (h : VR g (.u k n) x) : x = .int k n := by cases h; rfl
theorem VR.b_inv {t : Bool} {x : Value} (h : VR g (.b t) x) : x = .bool t := by cases h; rfl
theorem VR.nilp_inv {x : Value} (h : VR g .nilp x) : x = .pointer none := by cases h; rfl
theorem VR.nils_inv {x : Value} (h : VR g .nils x) : x = .slice none 0 0 := by cases h; rfl
theorem VR.nilm_inv {x : Value} (h : VR g .nilm x) : x = .map none := by cases h; rfl
theorem VR.nilf_inv {x : Value} (h : VR g .nilf x) : x = .nilFunc := by cases h; rfl
theorem VR.nili_inv {x : Value} (h : VR g .nili x) : x = .nilIface := by cases h; rfl
theorem VR.mkInt (k : IntKind) (n : Int) : VR g (mkInt k n) (.int k n) := by cases k <;> first | exact .i n | exact .u _ n
theorem VR.s_inv {l c : Nat} {x : Value} (h : VR g (.s l c) x) : ∃ bs : ByteArray, x = .string bs ∧ bs.size = l ∧ codeOf bs.data.toList = c := by cases h; exact ⟨_, rfl, rfl, rfl⟩
theorem VR.agg_inv {cs : List V} {x : Value} (h : VR g (.agg cs) x) : ∃ xs : List Value, x = .agg xs.toArray ∧ VRs g cs xs := by cases h with | agg h => exact ⟨_, rfl, h⟩
theorem VR.tup_inv {cs : List V} {x : Value} (h : VR g (.tup cs) x) : ∃ xs : List Value, x = .tuple xs.toArray ∧ VRs g cs xs := by cases h with | tup h => exact ⟨_, rfl, h⟩
theorem VR.ptr_inv {id off : Nat} {x : Value} (h : VR g (.ptr id off) x) : ∃ e, g.φ id = some e ∧ x = .pointer (some ⟨e.blk, e.off + off, none⟩) := by cases h with | ptr h => exact ⟨_, h, rfl⟩

/-- A leaf's value is one cell's. -/
theorem VR.oneCell {v : V} {x : Value} (h : VR g v x) (hl : v.leaf = true) : x.oneCell' = true := by
  cases h <;> first | rfl | (simp [V.leaf] at hl)
/-- The cells of a value. -/
theorem VR.cells {v : V} {x : Value} (h : VR g v x) (hl : v.cells.all V.leaf = true) : VRs g v.cells x.cells.toList := by
  cases h with
  | agg h => simpa [V.cells, Value.cells] using h
  | top x => simp [V.cells, V.leaf] at hl
  | tup h => simp [V.cells, V.leaf] at hl
  | i n => exact .cons (.i n) .nil
  | u k n => exact .cons (.u k n) .nil
  | b x => exact .cons (.b x) .nil
  | s bs => exact .cons (.s bs) .nil
  | ptr h => exact .cons (.ptr h) .nil
  | fp h hc => exact .cons (.fp h hc) .nil
  | sl h hl' hx ho hc => exact .cons (.sl h hl' hx ho hc) .nil
  | fs h hl' hx hc => exact .cons (.fs h hl' hx hc) .nil
  | m h => exact .cons (.m h) .nil
  | fn h => exact .cons (.fn h) .nil
  | yld h => exact .cons (.yld h) .nil
  | nilp => exact .cons .nilp .nil
  | nils => exact .cons .nils .nil
  | nilm => exact .cons .nilm .nil
  | nilf => exact .cons .nilf .nil
  | nili => exact .cons .nili .nil
  | ifc h => exact .cons (.ifc h) .nil
theorem VRs.oneCells {vs : List V} {xs : List Value} (h : VRs g vs xs) (hl : vs.all V.leaf = true) : ∀ x ∈ xs, x.oneCell' = true := by
  induction vs generalizing xs with
  | nil => cases h; simp
  | cons v vs ih =>
    cases h with
    | cons hu hs =>
      simp only [List.all_cons, Bool.and_eq_true] at hl
      intro x hx
      simp only [List.mem_cons] at hx
      rcases hx with rfl | hx
      · exact hu.oneCell hl.1
      · exact ih hs hl.2 x hx
end vrs

/-- Registers: n of them. -/
structure RR (n : Nat) (g : Gh) (rs : RF) (tm : Array Value) : Prop where
  sz : n ≤ tm.size
  at' : ∀ k, k < n → VR g (getR rs k) (tm.getD k Go.undef)
  le : n ≤ 256
theorem RR.mono {n : Nat} {g g' : Gh} (hg : g.le g') {rs : RF} {tm : Array Value} (h : RR n g rs tm) : RR n g' rs tm := ⟨h.sz, fun k hk => (h.at' k hk).mono hg, h.le⟩
theorem RR.set {n : Nat} {g : Gh} {rs : RF} {tm : Array Value} (h : RR n g rs tm) {d : Nat} (hd : d < n) {v : V} {x : Value} (hv : VR g v x) : RR n g (rs.set d v) (tm.setIfInBounds d x) := by
  refine ⟨by simpa using h.sz, fun k hk => ?_, h.le⟩
  have hl := h.le
  have hs := h.sz
  rw [getR_set rs (by omega)]
  by_cases e : k = d
  · subst e
    rw [if_pos rfl, Array.getD_eq_getD_getElem?, Array.getElem?_setIfInBounds_self_of_lt (by omega)]
    exact hv
  · rw [if_neg e, Array.getD_eq_getD_getElem?, Array.getElem?_setIfInBounds_ne (Ne.symm e), ← Array.getD_eq_getD_getElem?]
    exact h.at' k hk

/-! Blocks and heaps. Q: which code a compiled one stands for. -/
variable (Q : Nat → CC → Code → Prop)

structure CellsR (g : Gh) (c : T V) (n : Nat) (arr : Array Value) (o : Nat) : Prop where
  fits : o + n ≤ arr.size
  at' : ∀ j v, j < n → c.get j = some v → ∃ x, arr[o + j]? = some x ∧ VR g v x

inductive MapR (g : Gh) : List (V × V × Nat) → List MapEntry → Prop
  | nil : MapR g [] []
  | cons {k v : V} {n : Nat} {e : MapEntry} {es : List (V × V × Nat)} {ens : List MapEntry} (hk : VR g k e.key) (hv : VR g v e.val) (hb : e.born = n) (h : MapR g es ens) : MapR g ((k, v, n) :: es) (e :: ens)

def Pend.code : Pend → Code
  | .exit k => .exit k
  | .goto l => .goto l
  | .ret => .ret
def stOf : Nat → LoopState
  | 0 => .ready
  | 1 => .busy
  | 2 => .done
  | _ => .exhausted

def ORel (g : Gh) (e : Ent) : Obj → Option Go.Obj → Prop
  | .cells c n t es cl, some (.cells arr t' fr) => arr.size = e.size ∧ es = e.es ∧ t' = t ∧ (fr.2 ≤ fr.1 ∨ arr.size ≤ fr.1) ∧ CellsR g c n arr e.off ∧ (cl = true → e.off = 0 ∧ n = arr.size)
  | .map es clock, some (.map ens ck) => ck = clock ∧ MapR g es ens.toList
  | .loop fn n regs ps as bd st pend, some (.loop L) => L.fn = fn ∧ RR n g regs L.tmps ∧ L.params.toList = ps ∧ Q n as L.assign ∧ Q n bd L.body ∧ L.state = stOf st ∧ L.pending = pend.map Pend.code
  | .iter l c pos, some (.stringIter s p) => s.size = l ∧ codeOf s.data.toList = c ∧ p = pos ∧ e.off = 0
  | _, _ => False

theorem CellsR.mono {g g' : Gh} (hg : g.le g') {c : T V} {n o : Nat} {arr : Array Value} (h : CellsR g c n arr o) : CellsR g' c n arr o :=
  ⟨h.fits, fun j v hj hv => let ⟨x, hx, hr⟩ := h.at' j v hj hv; ⟨x, hx, hr.mono hg⟩⟩
theorem MapR.mono {g g' : Gh} (hg : g.le g') : ∀ {es : List (V × V × Nat)} {ens : List MapEntry}, MapR g es ens → MapR g' es ens
  | _, _, .nil => .nil
  | _, _, .cons hk hv hb h => .cons (hk.mono hg) (hv.mono hg) hb (MapR.mono hg h)
theorem ORel.mono {g g' : Gh} (hg : g.le g') {e : Ent} {o : Obj} {x : Option Go.Obj} (h : ORel Q g e o x) : ORel Q g' e o x := by
  unfold ORel at h ⊢
  split at h
  · exact ⟨h.1, h.2.1, h.2.2.1, h.2.2.2.1, h.2.2.2.2.1.mono hg, h.2.2.2.2.2⟩
  · exact ⟨h.1, h.2.mono hg⟩
  · exact ⟨h.1, h.2.1.mono hg, h.2.2⟩
  · exact h
  · exact h.elim

section
variable {Q} {g : Gh} {e : Ent} {x : Option Go.Obj}
theorem ORel.cells_inv {c : T V} {n t es : Nat} {cl : Bool} (h : ORel Q g e (.cells c n t es cl) x) :
    ∃ arr fr, x = some (.cells arr t fr) ∧ arr.size = e.size ∧ es = e.es ∧ (fr.2 ≤ fr.1 ∨ arr.size ≤ fr.1) ∧ CellsR g c n arr e.off ∧ (cl = true → e.off = 0 ∧ n = arr.size) := by
  cases x with
  | none => exact h.elim
  | some o => cases o <;> first | exact (False.elim h) | (obtain ⟨h1, h2, rfl, h4, h5, h6⟩ := h; exact ⟨_, _, rfl, h1, h2, h4, h5, h6⟩)
theorem ORel.map_inv {es : List (V × V × Nat)} {clock : Nat} (h : ORel Q g e (.map es clock) x) : ∃ ens, x = some (.map ens clock) ∧ MapR g es ens.toList := by
  cases x with
  | none => exact h.elim
  | some o => cases o <;> first | exact (False.elim h) | (obtain ⟨rfl, h2⟩ := h; exact ⟨_, rfl, h2⟩)
theorem ORel.loop_inv {fn n : Nat} {regs : RF} {ps : List Nat} {as bd : CC} {st : Nat} {pend : Option Pend} (h : ORel Q g e (.loop fn n regs ps as bd st pend) x) :
    ∃ L, x = some (.loop L) ∧ L.fn = fn ∧ RR n g regs L.tmps ∧ L.params.toList = ps ∧ Q n as L.assign ∧ Q n bd L.body ∧ L.state = stOf st ∧ L.pending = pend.map Pend.code := by
  cases x with
  | none => exact h.elim
  | some o => cases o <;> first | exact (False.elim h) | exact ⟨_, rfl, h⟩
theorem ORel.iter_inv {l c pos : Nat} (h : ORel Q g e (.iter l c pos) x) : ∃ s, x = some (.stringIter s pos) ∧ s.size = l ∧ codeOf s.data.toList = c ∧ e.off = 0 := by
  cases x with
  | none => exact h.elim
  | some o => cases o <;> first | exact (False.elim h) | (obtain ⟨h1, h2, rfl, h4⟩ := h; exact ⟨_, rfl, h1, h2, h4⟩)
end

structure Rel (g : Gh) (h : H) (w : World) : Prop where
  own : ∀ id o, h.get id = some o → ∃ e, g.φ id = some e ∧ ORel Q g e o w.heap[e.blk]?
  inj : ∀ id id' o o' e e', h.get id = some o → h.get id' = some o' → g.φ id = some e → g.φ id' = some e' → e.blk = e'.blk → id = id'
  frz : ∀ k a, g.F k = some a → (∃ t fr, w.heap[k]? = some (.cells a t fr)) ∧ ∀ id o e, h.get id = some o → g.φ id = some e → e.blk ≠ k
  bnd : ∀ id e, g.φ id = some e → e.blk < w.heap.size
  nxt : ∀ id, h.next ≤ id → h.get id = none

structure Ext (g : Gh) (h : H) (w : World) (g' : Gh) (h' : H) (w' : World) : Prop where
  φ : ∀ id, (id < h.next ∨ h'.next ≤ id) → g'.φ id = g.φ id
  le : g.le g'
  nx : h.next ≤ h'.next
  sz : w.heap.size ≤ w'.heap.size
  free : ∀ k, k < w.heap.size → (∀ id o e, h.get id = some o → g.φ id = some e → e.blk ≠ k) →
    w'.heap[k]? = w.heap[k]? ∧ (∀ id o e, h'.get id = some o → g'.φ id = some e → e.blk ≠ k) ∧ (g.F k = none → g'.F k = none)
  os : w'.os = w.os
  tape : w'.tape = w.tape
  output : w'.output = w.output

/-- The numbers from one to another are not bound yet. -/
def Fresh (g : Gh) (a b : Nat) : Prop := ∀ id, a ≤ id → id < b → g.φ id = none

theorem Ext.refl (g : Gh) (h : H) (w : World) : Ext g h w g h w :=
  ⟨fun _ _ => rfl, g.le_refl, Nat.le_refl _, Nat.le_refl _, fun _ _ hk => ⟨rfl, hk, id⟩, rfl, rfl, rfl⟩
theorem Ext.trans {g g₁ g₂ : Gh} {h h₁ h₂ : H} {w w₁ w₂ : World} (a : Ext g h w g₁ h₁ w₁) (b : Ext g₁ h₁ w₁ g₂ h₂ w₂) : Ext g h w g₂ h₂ w₂ where
  φ := fun id hid => by
    have hn := a.nx
    have hn' := b.nx
    rw [b.φ id (by omega), a.φ id (by omega)]
  le := Gh.le_trans a.le b.le
  nx := Nat.le_trans a.nx b.nx
  sz := Nat.le_trans a.sz b.sz
  free := fun k hk hf => by
    obtain ⟨e1, f1, z1⟩ := a.free k hk hf
    obtain ⟨e2, f2, z2⟩ := b.free k (Nat.lt_of_lt_of_le hk a.sz) f1
    exact ⟨e2.trans e1, f2, fun hz => z2 (z1 hz)⟩
  os := b.os.trans a.os
  tape := b.tape.trans a.tape
  output := b.output.trans a.output
theorem Ext.fresh {g g₁ : Gh} {h h₁ : H} {w w₁ : World} (a : Ext g h w g₁ h₁ w₁) {b : Nat} (hf : Fresh g h.next b) : Fresh g₁ h₁.next b := by
  intro id h1 h2
  have := a.nx
  rw [a.φ id (.inr h1)]
  exact hf id (by omega) h2
theorem Fresh.sub {g : Gh} {a b c d : Nat} (h : Fresh g a d) (h1 : a ≤ b) (h2 : c ≤ d) : Fresh g b c := fun id x y => h id (by omega) (by omega)

/-- One name more. -/
def Gh.bind (g : Gh) (id : Nat) (e : Ent) : Gh := ⟨fun j => if j = id then some e else g.φ j, g.F⟩
theorem Gh.le_bind (g : Gh) (id : Nat) (e : Ent) (h : g.φ id = none) : g.le (g.bind id e) :=
  ⟨fun j x hj => by unfold Gh.bind; simp only; split; (rename_i e'; subst e'; rw [h] at hj; cases hj); exact hj, fun _ _ h => h⟩
@[simp] theorem Gh.bind_same (g : Gh) (id : Nat) (e : Ent) : (g.bind id e).φ id = some e := by simp [Gh.bind]
theorem Gh.bind_other (g : Gh) (id j : Nat) (e : Ent) (h : j ≠ id) : (g.bind id e).φ j = g.φ j := by simp [Gh.bind, h]

section steps
variable {Q}
variable {g : Gh} {h : H} {w : World}

theorem heap_alloc_get (w : World) (o : Go.Obj) (k : Nat) : (w.alloc o).heap[k]? = if k = w.heap.size then some o else w.heap[k]? := by
  split
  · rename_i e; subst e; exact heap_alloc_new w o
  · rename_i e
    by_cases hk : k < w.heap.size
    · exact heap_alloc_old w o k hk
    · rw [Array.getElem?_eq_none (by rw [World.size_alloc]; omega), Array.getElem?_eq_none (by omega)]

/-- A draw changes nothing of what is told. -/
theorem Rel.drew (r : Rel Q g h w) : Rel Q g h w.drew := ⟨r.own, r.inj, r.frz, r.bnd, r.nxt⟩
theorem Ext.drew (g : Gh) (h : H) (w : World) : Ext g h w g h w.drew := ⟨fun _ _ => rfl, g.le_refl, Nat.le_refl _, Nat.le_refl _, fun _ _ hk => ⟨rfl, hk, id⟩, rfl, rfl, rfl⟩

/-- A new block. -/
theorem Rel.new (r : Rel Q g h w) (hf : g.φ h.next = none) (o : Obj) (x : Go.Obj) (e : Ent) (he : e.blk = w.heap.size)
    (ho : ORel Q (g.bind h.next e) e o (some x)) : Rel Q (g.bind h.next e) (h.new o) (w.alloc x) ∧ Ext g h w (g.bind h.next e) (h.new o) (w.alloc x) := by
  have hle := g.le_bind h.next e hf
  constructor
  · refine ⟨?_, ?_, ?_, ?_, ?_⟩
    · intro id o' hid
      rw [H.get_new] at hid
      by_cases hn : id = h.next
      · subst hn
        simp only [if_true, Option.some.injEq] at hid
        subst hid
        refine ⟨e, by simp, ?_⟩
        rw [heap_alloc_get, he, if_pos rfl]
        exact ho
      · rw [if_neg hn] at hid
        obtain ⟨e', he', hr⟩ := r.own id o' hid
        refine ⟨e', hle.φ _ _ he', ?_⟩
        have hb := r.bnd id e' he'
        rw [heap_alloc_get, if_neg (by omega)]
        exact hr.mono Q hle
    · intro id id' o1 o2 e1 e2 h1 h2 p1 p2 hb
      rw [H.get_new] at h1 h2
      by_cases n1 : id = h.next <;> by_cases n2 : id' = h.next
      · rw [n1, n2]
      · exfalso
        subst n1
        simp at p1; subst p1
        rw [g.bind_other _ _ _ n2] at p2
        have := r.bnd _ _ p2
        omega
      · exfalso
        subst n2
        simp at p2; subst p2
        rw [g.bind_other _ _ _ n1] at p1
        have := r.bnd _ _ p1
        omega
      · rw [if_neg n1] at h1
        rw [if_neg n2] at h2
        rw [g.bind_other _ _ _ n1] at p1
        rw [g.bind_other _ _ _ n2] at p2
        exact r.inj id id' o1 o2 e1 e2 h1 h2 p1 p2 hb
    · intro k a hk
      obtain ⟨⟨t, fr, hh⟩, hn⟩ := r.frz k a hk
      have hlt : k < w.heap.size := (Array.getElem?_eq_some_iff.1 hh).1
      refine ⟨⟨t, fr, by rw [heap_alloc_get, if_neg (by omega)]; exact hh⟩, ?_⟩
      intro id o' e' hid hp
      rw [H.get_new] at hid
      by_cases n1 : id = h.next
      · subst n1; simp at hp; subst hp; omega
      · rw [if_neg n1] at hid
        rw [g.bind_other _ _ _ n1] at hp
        exact hn id o' e' hid hp
    · intro id e' hp
      by_cases n1 : id = h.next
      · subst n1; simp at hp; subst hp; simp; omega
      · rw [g.bind_other _ _ _ n1] at hp
        have := r.bnd id e' hp
        simp; omega
    · intro id hid
      rw [H.get_new]
      simp only [H.next_new] at hid
      rw [if_neg (by omega)]
      exact r.nxt id (by omega)
  · refine ⟨?_, hle, by simp, by simp, ?_, rfl, rfl, rfl⟩
    · intro id hid
      simp only [H.next_new] at hid
      exact g.bind_other _ _ _ (by omega)
    · intro k hk hfr
      refine ⟨by rw [heap_alloc_get, if_neg (by omega)], ?_, fun hz => hz⟩
      intro id o' e' hid hp
      rw [H.get_new] at hid
      by_cases n1 : id = h.next
      · subst n1; simp at hp; subst hp; omega
      · rw [if_neg n1] at hid
        rw [g.bind_other _ _ _ n1] at hp
        exact hfr id o' e' hid hp

/-- A block that is owned turns. -/
theorem Rel.put (r : Rel Q g h w) {id : Nat} {o₀ : Obj} (hid : h.get id = some o₀) {e : Ent} (he : g.φ id = some e) (o : Obj) (x : Go.Obj) (w' : World)
    (hx : w'.heap[e.blk]? = some x) (hs : w'.heap.size = w.heap.size) (ho : ∀ k, k ≠ e.blk → w'.heap[k]? = w.heap[k]?) (h1 : w'.os = w.os) (h2 : w'.tape = w.tape) (h3 : w'.output = w.output)
    (hor : ORel Q g e o (some x)) : Rel Q g (h.put id o) w' ∧ Ext g h w g (h.put id o) w' := by
  have live : ∀ j o' , (h.put id o).get j = some o' → ∃ o'', h.get j = some o'' := by
    intro j o' hj
    rw [H.get_put] at hj
    by_cases n : j = id
    · subst n; exact ⟨_, hid⟩
    · rw [if_neg n] at hj; exact ⟨_, hj⟩
  constructor
  · refine ⟨?_, ?_, ?_, ?_, ?_⟩
    · intro j o' hj
      rw [H.get_put] at hj
      by_cases n : j = id
      · subst n
        simp only [if_true, Option.some.injEq] at hj
        subst hj
        exact ⟨e, he, by rw [hx]; exact hor⟩
      · rw [if_neg n] at hj
        obtain ⟨e', he', hr⟩ := r.own j o' hj
        refine ⟨e', he', ?_⟩
        rw [ho e'.blk (fun hb => n (r.inj j id o' o₀ e' e hj hid he' he hb))]
        exact hr
    · intro a b o1 o2 e1 e2 ha hb
      obtain ⟨o1', ha'⟩ := live a o1 ha
      obtain ⟨o2', hb'⟩ := live b o2 hb
      exact r.inj a b o1' o2' e1 e2 ha' hb'
    · intro k a hk
      obtain ⟨⟨t, fr, hh⟩, hn⟩ := r.frz k a hk
      refine ⟨⟨t, fr, by rw [ho k (fun hb => hn id o₀ e hid he hb.symm)]; exact hh⟩, ?_⟩
      intro j o' e' hj hp
      obtain ⟨o'', hj'⟩ := live j o' hj
      exact hn j o'' e' hj' hp
    · intro j e' hp; rw [hs]; exact r.bnd j e' hp
    · intro j hj
      rw [H.get_put]
      have : j ≠ id := by intro hji; subst hji; rw [r.nxt j hj] at hid; cases hid
      rw [if_neg this]
      exact r.nxt j hj
  · refine ⟨fun _ _ => rfl, g.le_refl, Nat.le_refl _, by rw [hs]; exact Nat.le_refl _, ?_, h1, h2, h3⟩
    intro k hk hf
    refine ⟨ho k (fun hb => hf id o₀ e hid he hb.symm), ?_, fun hz => hz⟩
    intro j o' e' hj hp
    obtain ⟨o'', hj'⟩ := live j o' hj
    exact hf j o'' e' hj' hp

/-- A block is no longer told of. -/
theorem Rel.del (r : Rel Q g h w) (id : Nat) : Rel Q g (h.del id) w ∧ Ext g h w g (h.del id) w := by
  have live : ∀ j o' , (h.del id).get j = some o' → h.get j = some o' := by
    intro j o' hj
    rw [H.get_del] at hj
    by_cases n : j = id
    · simp [n] at hj
    · rw [if_neg n] at hj; exact hj
  constructor
  · refine ⟨fun j o' hj => r.own j o' (live j o' hj), fun a b o1 o2 e1 e2 ha hb => r.inj a b o1 o2 e1 e2 (live _ _ ha) (live _ _ hb), ?_, r.bnd, ?_⟩
    · intro k a hk
      obtain ⟨hh, hn⟩ := r.frz k a hk
      exact ⟨hh, fun j o' e' hj hp => hn j o' e' (live _ _ hj) hp⟩
    · intro j hj
      rw [H.get_del]
      split
      · rfl
      · exact r.nxt j hj
  · exact ⟨fun _ _ => rfl, g.le_refl, Nat.le_refl _, Nat.le_refl _, fun k _ hf => ⟨rfl, fun j o' e' hj hp => hf j o' e' (live _ _ hj) hp, fun hz => hz⟩, rfl, rfl, rfl⟩

/-- A block that is owned gets another name, and another view. -/
theorem Rel.rename (r : Rel Q g h w) (hf : g.φ h.next = none) {id : Nat} {o₀ : Obj} (hid : h.get id = some o₀) {e : Ent} (he : g.φ id = some e) (o : Obj) (x : Go.Obj) (w' : World) (e' : Ent) (hb : e'.blk = e.blk)
    (hx : w'.heap[e.blk]? = some x) (hs : w'.heap.size = w.heap.size) (ho : ∀ k, k ≠ e.blk → w'.heap[k]? = w.heap[k]?) (h1 : w'.os = w.os) (h2 : w'.tape = w.tape) (h3 : w'.output = w.output)
    (hor : ORel Q (g.bind h.next e') e' o (some x)) : Rel Q (g.bind h.next e') ((h.new o).del id) w' ∧ Ext g h w (g.bind h.next e') ((h.new o).del id) w' := by
  have hle := g.le_bind h.next e' hf
  have hne : id ≠ h.next := by intro hh; subst hh; rw [r.nxt _ (Nat.le_refl _)] at hid; cases hid
  have live : ∀ j o', ((h.new o).del id).get j = some o' → (j = h.next ∧ o' = o) ∨ (j ≠ h.next ∧ j ≠ id ∧ h.get j = some o') := by
    intro j o' hj
    rw [H.get_del] at hj
    by_cases n : j = id
    · simp [n] at hj
    · rw [if_neg n, H.get_new] at hj
      by_cases m : j = h.next
      · rw [if_pos m] at hj; cases hj; exact .inl ⟨m, rfl⟩
      · rw [if_neg m] at hj; exact .inr ⟨m, n, hj⟩
  constructor
  · refine ⟨?_, ?_, ?_, ?_, ?_⟩
    · intro j o' hj
      rcases live j o' hj with ⟨rfl, rfl⟩ | ⟨m, n, hj'⟩
      · exact ⟨e', by simp, by rw [hb, hx]; exact hor⟩
      · obtain ⟨e2, he2, hr⟩ := r.own j o' hj'
        refine ⟨e2, hle.φ _ _ he2, ?_⟩
        rw [ho e2.blk (fun hb' => n (r.inj j id o' o₀ e2 e hj' hid he2 he hb'))]
        exact hr.mono Q hle
    · intro a b o1 o2 e1 e2 ha hb' p1 p2 hbb
      rcases live a o1 ha with ⟨rfl, rfl⟩ | ⟨ma, na, ha'⟩ <;> rcases live b o2 hb' with ⟨rfl, rfl⟩ | ⟨mb, nb, hb''⟩
      · rfl
      · exfalso
        simp at p1; subst p1
        rw [g.bind_other _ _ _ mb] at p2
        exact nb (r.inj b id o2 o₀ e2 e hb'' hid p2 he (by rw [← hbb, hb]))
      · exfalso
        simp at p2; subst p2
        rw [g.bind_other _ _ _ ma] at p1
        exact na (r.inj a id o1 o₀ e1 e ha' hid p1 he (by rw [hbb, hb]))
      · rw [g.bind_other _ _ _ ma] at p1
        rw [g.bind_other _ _ _ mb] at p2
        exact r.inj a b o1 o2 e1 e2 ha' hb'' p1 p2 hbb
    · intro k a hk
      obtain ⟨⟨t, fr, hh⟩, hn⟩ := r.frz k a hk
      refine ⟨⟨t, fr, by rw [ho k (fun hb => hn id o₀ e hid he hb.symm)]; exact hh⟩, ?_⟩
      intro j o' e2 hj hp
      rcases live j o' hj with ⟨rfl, rfl⟩ | ⟨m, n, hj'⟩
      · simp at hp; subst hp; rw [hb]; exact hn id o₀ e hid he
      · rw [g.bind_other _ _ _ m] at hp
        exact hn j o' e2 hj' hp
    · intro j e2 hp
      rw [hs]
      by_cases m : j = h.next
      · subst m; simp at hp; subst hp; rw [hb]; exact r.bnd id e he
      · rw [g.bind_other _ _ _ m] at hp; exact r.bnd j e2 hp
    · intro j hj
      simp only [H.next_del, H.next_new] at hj
      rw [H.get_del]
      split
      · rfl
      · rw [H.get_new, if_neg (by omega)]; exact r.nxt j (by omega)
  · refine ⟨?_, hle, by simp, by rw [hs]; exact Nat.le_refl _, ?_, h1, h2, h3⟩
    · intro j hj
      simp only [H.next_del, H.next_new] at hj
      exact g.bind_other _ _ _ (by omega)
    · intro k hk hfr
      refine ⟨ho k (fun hb => hfr id o₀ e hid he hb.symm), ?_, fun hz => hz⟩
      intro j o' e2 hj hp
      rcases live j o' hj with ⟨rfl, rfl⟩ | ⟨m, n, hj'⟩
      · simp at hp; subst hp; rw [hb]; exact hfr id o₀ e hid he
      · rw [g.bind_other _ _ _ m] at hp
        exact hfr j o' e2 hj' hp
end steps
end Ax

/- The abstract executor, part 4: loads, stores, new rows. -/
namespace Ax
open Go

theorem fillT_get (vs : List V) : ∀ (c : T V) (k j : Nat), (fillT c k vs).get j = if k ≤ j ∧ j < k + vs.length then vs[j - k]? else c.get j := by
  induction vs with
  | nil => intro c k j; simp only [fillT, List.length_nil, Nat.add_zero]; rw [if_neg (by omega)]
  | cons v vs ih =>
    intro c k j
    simp only [fillT, ih, T.get_set, List.length_cons]
    by_cases h1 : k + 1 ≤ j ∧ j < k + 1 + vs.length
    · rw [if_pos h1, if_pos (by omega)]
      obtain ⟨m, rfl⟩ : ∃ m, j = k + 1 + m := ⟨j - (k + 1), by omega⟩
      rw [show k + 1 + m - (k + 1) = m by omega, show k + 1 + m - k = m + 1 by omega]
      simp
    · rw [if_neg h1]
      by_cases h2 : j = k
      · subst h2; rw [if_pos rfl, if_pos (by omega)]; simp
      · rw [if_neg h2, if_neg (by omega)]
theorem readT_zero (c : T V) (k : Nat) : readT c 0 k = some [] := rfl
theorem readT_succ (c : T V) (n k : Nat) : readT c (n + 1) k = match c.get k with
    | some v => (match readT c n (k + 1) with | some l => some (v :: l) | none => none)
    | none => none := rfl
theorem readT_some (c : T V) : ∀ (n k : Nat) (l : List V), readT c n k = some l → l.length = n ∧ ∀ j v, l[j]? = some v → c.get (k + j) = some v := by
  intro n
  induction n with
  | zero => intro k l h; rw [readT_zero] at h; cases h; simp
  | succ n ih =>
    intro k l h
    rw [readT_succ] at h
    split at h
    · rename_i v hv
      split at h
      · rename_i l' hl'
        cases h
        obtain ⟨h1, h2⟩ := ih (k + 1) l' hl'
        refine ⟨by simp [h1], ?_⟩
        intro j u hj
        cases j with
        | zero => simp at hj; subst hj; exact hv
        | succ j => simp at hj; rw [show k + (j + 1) = k + 1 + j by omega]; exact h2 j u hj
      · cases h
    · cases h

section
variable {P : Program} {Q : Nat → CC → Code → Prop} {g : Gh} {h : H} {w : World}

theorem VR.fp_inv {cs : List V} {x : Value} (hx : VR g (.fp cs) x) : ∃ k o arr, x = .pointer (some ⟨k, o, none⟩) ∧ g.F k = some arr ∧ VRs g cs ((arr.toList.drop o).take cs.length) := by
  cases hx with | fp h hc => exact ⟨_, _, _, rfl, h, hc⟩

/-- A load of n cells. -/
theorem ldC_sound (r : Rel Q g h w) {p : V} {n : Nat} {vs : List V} (hl : ldC h p n = some vs) {x : Value} (hx : VR g p x) :
    ∃ a xs, x = .pointer (some a) ∧ xs.length = n ∧ (∀ j v, xs[j]? = some v → w.cell? (a.add j) = some v) ∧ VRs g vs xs := by
  unfold ldC at hl
  split at hl
  · rename_i id off
    obtain ⟨e, he, rfl⟩ := hx.ptr_inv
    split at hl
    · rename_i c m t es cl hid
      split at hl
      · rename_i hle
        obtain ⟨e', he', hor⟩ := r.own id _ hid
        rw [he] at he'; cases he'
        obtain ⟨hlen, hget⟩ := readT_some c n off vs hl
        obtain ⟨arr, fr, hh, _, _, _, hcells, _⟩ := hor.cells_inv
        · have hx : ∀ j, j < n → ∃ x, arr[e.off + (off + j)]? = some x ∧ ∀ v, vs[j]? = some v → VR g v x := by
            intro j hj
            obtain ⟨v, hv⟩ : ∃ v, vs[j]? = some v := ⟨_, List.getElem?_eq_getElem (by omega)⟩
            obtain ⟨x, hx, hr⟩ := hcells.at' (off + j) v (by omega) (hget j v hv)
            exact ⟨x, hx, fun v' hv' => by rw [hv] at hv'; cases hv'; exact hr⟩
          refine ⟨⟨e.blk, e.off + off, none⟩, (List.range n).map fun j => (arr[e.off + (off + j)]?).getD Go.undef, rfl, by simp, ?_, ?_⟩
          · intro j v hj
            rw [Addr.add_lit, cell_of_row w e.blk _ arr t fr hh]
            simp only [List.getElem?_map] at hj
            by_cases hjn : j < n
            · obtain ⟨x, hx, _⟩ := hx j hjn
              simp only [List.getElem?_range hjn, Option.map_some, hx, Option.getD_some, Option.some.injEq] at hj
              rw [show e.off + off + j = e.off + (off + j) by omega, hx, hj]
            · rw [List.getElem?_eq_none (by simp; omega)] at hj; cases hj
          · refine VRs.of_get (by simp [hlen]) ?_
            intro j v x hv hj
            have hjn : j < n := by
              have := (List.getElem?_eq_some_iff.1 hv).1; omega
            obtain ⟨y, hy, hr⟩ := hx j hjn
            simp only [List.getElem?_map, List.getElem?_range hjn, Option.map_some, hy, Option.getD_some, Option.some.injEq] at hj
            subst hj
            exact hr v hv
      · cases hl
    · cases hl
  · rename_i cs
    split at hl
    · rename_i hle
      cases hl
      obtain ⟨k, o, arr, rfl, hF, hc⟩ := hx.fp_inv
      obtain ⟨⟨t, fr, hh⟩, _⟩ := r.frz k arr hF
      refine ⟨⟨k, o, none⟩, ((arr.toList.drop o).take cs.length).take n, rfl, ?_, ?_, hc.take n⟩
      · have := hc.length
        simp only [List.length_take] at this ⊢
        omega
      · intro j v hj
        rw [Addr.add_lit, cell_of_row w k _ arr t fr hh]
        rw [List.getElem?_take] at hj
        split at hj
        · rw [List.getElem?_take] at hj
          split at hj
          · rw [List.getElem?_drop] at hj
            rw [← Array.getElem?_toList]; exact hj
          · cases hj
        · cases hj
    · cases hl
  · cases hl

/-- Stores of cells, one behind the other. -/
theorem run_storeCells_gen (P : Program) (blk o : Nat) (t : TypeId) (fr : Nat × Nat) : ∀ (vs : List Value) (i : Nat) (arr : Array Value) (w : World), w.heap[blk]? = some (.cells arr t fr) →
    o + i + vs.length ≤ arr.size → (fr.2 ≤ fr.1 ∨ arr.size ≤ fr.1) → (∀ v ∈ vs, v.oneCell' = true) →
    ∃ w' arr', (storeCells ⟨blk, o, none⟩ vs i).run P w = .ok () w' ∧ w'.heap[blk]? = some (.cells arr' t fr) ∧ arr'.size = arr.size ∧
      (∀ j, arr'[j]? = if o + i ≤ j ∧ j < o + i + vs.length then vs[j - (o + i)]? else arr[j]?) ∧ (∀ k, k ≠ blk → w'.heap[k]? = w.heap[k]?) ∧
      w'.heap.size = w.heap.size ∧ w'.os = w.os ∧ w'.tape = w.tape ∧ w'.output = w.output := by
  intro vs
  induction vs with
  | nil =>
    intro i arr w hh hle hfr hone
    refine ⟨w, arr, rfl, hh, rfl, ?_, fun _ _ => rfl, rfl, rfl, rfl, rfl⟩
    intro j
    rw [if_neg (by simp only [List.length_nil]; omega)]
  | cons v vs ih =>
    intro i arr w hh hle hfr hone
    simp only [List.length_cons] at hle
    have hcell : w.cell? ⟨blk, o + i, none⟩ = some arr[o + i] := by
      rw [cell_of_row w blk _ arr t fr hh]; exact Array.getElem?_eq_getElem (by omega)
    have hfz : w.frozen? ⟨blk, o + i, none⟩ = false := by
      simp only [World.frozen?, hh]
      obtain ⟨lo, hi⟩ := fr
      simp only at hfr ⊢
      simp
      omega
    have hh' : (w.setCell ⟨blk, o + i, none⟩ v).heap[blk]? = some (.cells (arr.setIfInBounds (o + i) v) t fr) := by
      simp only [World.setCell, Array.getElem?_modify, if_true, hh, Option.map_some]
      simp
    obtain ⟨w', arr', hr, h1, h2, h3, h4, h5, h6, h7, h8⟩ := ih (i + 1) (arr.setIfInBounds (o + i) v) (w.setCell ⟨blk, o + i, none⟩ v) hh' (by simp; omega)
      (by simpa using hfr) (fun u hu => hone u (by simp [hu]))
    refine ⟨w', arr', ?_, h1, by simpa using h2, ?_, ?_, by simpa using h5, h6, h7, h8⟩
    · simp only [storeCells, Sem.run_bind, Addr.add_lit]
      rw [run_store P w _ v _ (hone v (by simp)), hcell]
      simp only [hfz, Bool.false_eq_true, if_false, Result.andThen_ok]
      exact hr
    · intro j
      rw [h3]
      simp only [List.length_cons]
      by_cases c1 : o + (i + 1) ≤ j ∧ j < o + (i + 1) + vs.length
      · rw [if_pos c1, if_pos (by omega)]
        obtain ⟨m, rfl⟩ : ∃ m, j = o + (i + 1) + m := ⟨j - (o + (i + 1)), by omega⟩
        rw [show o + (i + 1) + m - (o + (i + 1)) = m by omega, show o + (i + 1) + m - (o + i) = m + 1 by omega]
        simp
      · rw [if_neg c1]
        by_cases c2 : j = o + i
        · subst c2
          rw [if_pos (by omega), Array.getElem?_setIfInBounds]
          simp; omega
        · rw [if_neg (by omega), Array.getElem?_setIfInBounds, if_neg (by omega)]
    · intro k hk
      rw [h4 k hk]
      exact heap_setCell_other w _ k v hk

/-- A store of cells. -/
theorem stC_sound (r : Rel Q g h w) {p : V} {vs : List V} {h' : H} (hs : stC h p vs = some h') {x : Value} (hx : VR g p x) {xs : List Value} (hv : VRs g vs xs) :
    ∃ a w', x = .pointer (some a) ∧ (storeCells a xs).run P w = .ok () w' ∧ Rel Q g h' w' ∧ Ext g h w g h' w' ∧ vs.all V.leaf = true := by
  unfold stC at hs
  split at hs
  · rename_i id off
    obtain ⟨e, he, rfl⟩ := hx.ptr_inv
    split at hs
    · rename_i c n t es cl hid
      split at hs
      · rename_i hle
        cases hs
        simp only [Bool.and_eq_true, decide_eq_true_eq] at hle
        obtain ⟨hle, hleaf⟩ := hle
        obtain ⟨e', he', hor⟩ := r.own id _ hid
        rw [he] at he'; cases he'
        obtain ⟨arr, fr, hh, hsz, hes, hfr, hcells, hcl⟩ := hor.cells_inv
        · have hlen := hv.length
          have hfit := hcells.fits
          obtain ⟨w', arr', hr, h1, h2, h3, h4, h5, h6, h7, h8⟩ := run_storeCells_gen P e.blk (e.off + off) t fr xs 0 arr w hh (by omega) hfr (hv.oneCells hleaf)
          have hpt := r.put hid he (.cells (fillT c off vs) n t es cl) (.cells arr' t fr) w' h1 h5 h4 h6 h7 h8 (by
            refine ⟨by rw [h2]; exact hsz, hes, rfl, by rw [h2]; exact hfr, ⟨by rw [h2]; exact hfit, ?_⟩, by rw [h2]; exact hcl⟩
            intro j v hj hg
            rw [fillT_get] at hg
            by_cases hin : off ≤ j ∧ j < off + vs.length
            · rw [if_pos hin] at hg
              obtain ⟨y, hy, hyr⟩ := hv.get _ v hg
              refine ⟨y, ?_, hyr⟩
              rw [h3, if_pos (by omega)]
              rw [show e.off + j - (e.off + off + 0) = j - off by omega]; exact hy
            · rw [if_neg hin] at hg
              obtain ⟨y, hy, hyr⟩ := hcells.at' j v hj hg
              refine ⟨y, ?_, hyr⟩
              rw [h3, if_neg (by omega)]; exact hy)
          exact ⟨_, w', rfl, hr, hpt.1, hpt.2, hleaf⟩
      · cases hs
    · cases hs
  · cases hs

/-- A new row. -/
theorem newCells_sound (r : Rel Q g h w) (hf : g.φ h.next = none) (t es : Nat) (vs : List V) (xs : List Value) (hv : VRs g vs xs) (rest : List Value) (cl : Bool) (hcl : cl = true → rest = []) (fr : Nat × Nat) (hfr : fr.2 ≤ fr.1 ∨ (xs ++ rest).length ≤ fr.1) :
    Rel Q (g.bind h.next ⟨w.heap.size, 0, (xs ++ rest).length, es⟩) (newCells h t es vs cl) (w.alloc (.cells (xs ++ rest).toArray t fr)) ∧
    Ext g h w (g.bind h.next ⟨w.heap.size, 0, (xs ++ rest).length, es⟩) (newCells h t es vs cl) (w.alloc (.cells (xs ++ rest).toArray t fr)) := by
  unfold newCells
  have hlen := hv.length
  refine r.new hf _ _ _ rfl ?_
  refine ⟨by simp, rfl, rfl, by simpa using hfr, ⟨by simp; omega, ?_⟩, ?_⟩
  · intro j v hj hg
    rw [fillT_get, if_pos (by omega)] at hg
    obtain ⟨x, hx, hr⟩ := hv.get _ v hg
    refine ⟨x, ?_, hr.mono (g.le_bind _ _ hf)⟩
    simp only [Nat.sub_zero, Nat.zero_add] at hx ⊢
    rw [List.getElem?_toArray, List.getElem?_append_left (by omega)]
    exact hx
  · intro hc
    rw [hcl hc]
    simp [hlen]

end
end Ax

/- The abstract executor, part 5: compiling the model's operations. -/
namespace Ax
open Go

/-- What is asked of a type. -/
structure TI where
  d : TypeDesc
  n : Nat
  bytes : Nat
  z : Option Value

def TTok (P : Program) (tt : Nat → Option TI) : Prop :=
  ∀ t ti, tt t = some ti → P.underlying t = some ti.d ∧ ∃ i, P.info? t = some i ∧ i.size = ti.n ∧ i.bytes = ti.bytes ∧ i.zero = ti.z

/-- What is fixed for a program (n: for a function: how many registers): its types; which package-level variables lie frozen, and with what; where Builders may lie. -/
structure Fix where
  P : Program
  n : Nat
  tt : Nat → Option TI
  G : Nat → Option (List V)
  up : List (Nat × Nat)

def ofLeaf : Value → Option V
  | .int .i64 n => some (.i n)
  | .int k n => some (.u k n)
  | .bool b => some (.b b)
  | .string s => some (.s s.size (codeOf s.data.toList))
  | .pointer none => some .nilp
  | .slice none 0 0 => some .nils
  | .map none => some .nilm
  | .nilFunc => some .nilf
  | .nilIface => some .nili
  | .func (.func f) a b => if a.size = 0 ∧ b.size = 0 then some (.fn f []) else none
  | _ => none
def ofLeaves : List Value → Option (List V)
  | [] => some []
  | x :: r => match ofLeaf x, ofLeaves r with
    | some v, some l => some (v :: l)
    | _, _ => none
def ofConst : Value → Option V
  | .agg cs => (ofLeaves cs.toList).map .agg
  | .tuple cs => if cs.size = 0 then some .undef else none
  | v => ofLeaf v
/-- The cells of a zero value. -/
def zeroCells (ti : TI) : Option (List V) :=
  match ti.z with
  | some z => (ofLeaves z.cells.toList).bind fun l => if l.length = ti.n ∧ l.all V.leaf then some l else none
  | none => none
def zeroVal (ti : TI) : Option V := ti.z.bind ofConst

/-- What is asked of a program. -/
structure FixOK (C : Fix) : Prop where
  tt : TTok C.P C.tt
  mixed : C.P.follows .mixedOrders = true
  ne : ∀ (f : Nat) (fn : Func), C.P.funcs[f]? = some fn → fn.body = none → fn.name = "internal/abi.NoEscape" → Extern.findNext fn = none ∧ Extern.find fn = some Extern.AbiNoEscape.same
  ib : ∀ (f : Nat) (fn : Func), C.P.funcs[f]? = some fn → fn.body = none → fn.name = "internal/bytealg.IndexByteString" → Extern.findNext fn = none ∧ Extern.find fn = some Extern.BytealgIndexByte.indexByte

variable (C : Fix)

def cX : Operand → Option X
  | .tmp t => if t < C.n then some (.r t) else none
  | .const v => (ofConst v).map .c
  | .global g => (C.G g).map fun cs => .c (.fp cs)
  | .func f => some (.c (.fn f []))
def cXs : List Operand → Option (List X)
  | [] => some []
  | x :: r => match cX C x, cXs r with
    | some y, some l => some (y :: l)
    | _, _ => none
def cOX : Option Operand → Option (Option X)
  | none => some none
  | some x => (cX C x).map some

def TypeDesc.isAggB : TypeDesc → Bool
  | .struct _ | .array _ _ => true
  | _ => false

/-- The parts of a composite: where, how many cells. -/
def cParts (place : Nat → Option (Nat × Nat)) : List (Nat × Operand) → Option (List (Nat × Nat × X))
  | [] => some []
  | (i, x) :: r => match place i, cX C x, cParts place r with
    | some (o, n), some y, some l => some ((o, n, y) :: l)
    | _, _, _ => none
/-- The places of all fields. -/
def placesOf : List Field → Option (List (Nat × Nat))
  | [] => some []
  | f :: r => match C.tt f.type, placesOf r with
    | some ti, some l => some ((f.offset, ti.n) :: l)
    | _, _ => none

/-- Is a type one whole number, bool or string? -/
def leafK (t : Nat) : Option LK := match C.tt t with
  | some ti => if ti.n = 1 then (match ti.d with | .int _ => some .int | .bool => some .bool | .string => some .str | _ => none) else none
  | none => none
def flatFs : List Field → Nat → Option (List LK)
  | [], _ => some []
  | f :: r, i => if f.name ≠ "_" ∧ f.offset = i then (match leafK C f.type, flatFs r (i + 1) with
    | some k, some l => some (k :: l)
    | _, _ => none) else none
/-- A struct or an array of such alone. -/
def flatK (t : Nat) : Option (List LK) := match C.tt t with
  | some ti => if C.P.stoodInHeld t = false ∧ C.P.eqGuardType C.P.depth t = false then (match ti.d with
    | .struct fs => flatFs C fs.toList 0
    | .array n e => (leafK C e).map (List.replicate n)
    | _ => none) else none
  | none => none

def isNilC : Operand → Bool
  | .const .nilIface => true
  | _ => false
def eqKind (t : Nat) (x y : Operand) : Option EqK :=
  match C.tt t with
  | some ti => (match ti.d with
    | .bool => some .bool
    | .pointer e => (match C.tt e with | some te => if te.n = 0 then none else some .ptr | none => none)
    | .slice _ => some .slice
    | .map _ _ => some .map
    | .func _ _ _ => some .func
    | .interface _ => if isNilC x || isNilC y then some .iface else none
    | .struct _ | .array _ _ => (flatK C t).map .flat
    | _ => none)
  | none => none

def keyK (t : Nat) : Option KK := match leafK C t with
  | some k => some (.leaf k)
  | none => (flatK C t).map .flat

def cBin (op : BinOp) (t : Nat) (x y : Operand) (a b : X) : COp :=
  match op with
  | .eql => (match eqKind C t x y with | some k => .eq k false a b | none => .bin op a b)
  | .neq => (match eqKind C t x y with | some k => .eq k true a b | none => .bin op a b)
  | _ => .bin op a b

def upFits (u : Nat) (p : Nat × Nat) : Bool :=
  (match C.tt u with | some ti => ti.n != 0 | none => false) && liesAt C.P C.P.depth p.1 (p.2 / C.P.cellsOf p.1) 0 u 1

def cCall (c : Call) : COp :=
  match cXs C c.args.toList with
  | none => .bad
  | some xs => match c.callee with
    | .value (.func f) => (match C.P.funcs[f]? with
      | some fn => if fn.body.isSome then .call f xs
        else if fn.name == "internal/abi.NoEscape" then (match xs with | [x] => .noesc x | _ => .bad)
        else if fn.name == "internal/bytealg.IndexByteString" then (match xs with | [x, y] => .ixByte x y | _ => .bad)
        else .bad
      | none => .bad)
    | .value f => (match cX C f with | some x => .callv x xs | none => .bad)
    | .invoke _ _ => .bad
    | .builtin b => match b, xs with
      | .append, [s, x] => (match (c.argTypes[0]?).bind C.tt, (c.argTypes[1]?).bind C.tt with
        | some ts, some tx => (match ts.d with
          | .slice e => (match C.tt e with
            | some te => if te.n = 0 ∨ te.bytes = 0 ∨ 4096 < te.bytes then .bad else (match zeroCells te with
              | some z => (match tx.d with
                | .int _ => .appZ e te.n z s x
                | .slice _ => .app e te.n s x
                | .string => .app e te.n s x
                | _ => .bad)
              | none => .bad)
            | none => .bad)
          | _ => .bad)
        | _, _ => .bad)
      | .len, [x] => (match (c.argTypes[0]?).bind C.tt with
        | some ts => (match ts.d with
          | .string => .lenStr x
          | .slice _ => .lenSl x
          | .map _ _ => .lenMap x
          | .array n _ => .lenc n
          | _ => .bad)
        | none => .bad)
      | .cap, [x] => (match (c.argTypes[0]?).bind C.tt with
        | some ts => (match ts.d with | .slice _ => .cap x | _ => .bad)
        | none => .bad)
      | .copy, [d, x] => (match (c.argTypes[0]?).bind C.tt with
        | some ts => (match ts.d with | .slice e => (match C.tt e with | some te => .copy te.n d x | none => .bad) | _ => .bad)
        | none => .bad)
      | .min, [x, y] => .min x y
      | .max, [x, y] => .max x y
      | .clear, [x] => (match (c.argTypes[0]?).bind C.tt with
        | some ts => (match ts.d with
          | .slice e => (match C.tt e with | some te => (match zeroCells te with | some z => .clear te.n z x | none => .bad) | none => .bad)
          | _ => .bad)
        | none => .bad)
      | .recover, [] => .recover
      | .unsafeSliceData, [x] => .usd x
      | .unsafeString, [p, n] => (match (c.argTypes[0]?).bind C.tt with
        | some ts => (match ts.d with
          | .pointer e => (match C.tt e with | some te => if te.n = 1 ∧ c.argTypes.size = 2 then .us e p n else .bad | none => .bad)
          | _ => .bad)
        | none => .bad)
      | _, _ => .bad

def cOp (o : Op) : COp :=
  match o with
  | .move x | .assign x => (match cX C x with | some x => .mv x | none => .bad)
  | .pick c a b => (match cX C c, cX C a, cX C b with | some c, some a, some b => .pick c a b | _, _, _ => .bad)
  | .alloc e => (match (C.tt e).bind zeroCells with | some z => .alloc e z | none => .bad)
  | .box e x => (match cX C x with | some x => .box e x | none => .bad)
  | .build t ps => (match C.tt t with
    | some ti => (match zeroCells ti, ti.d with
      | some z, .struct fs => (match placesOf C fs.toList with
        | some pl => (match cParts C (pl[·]?) ps.toList with | some l => .build z l | none => .bad)
        | none => .bad)
      | some z, .array _ e => (match C.tt e with
        | some te => (match cParts C (fun i => some (i * te.n, te.n)) ps.toList with | some l => .build z l | none => .bad)
        | none => .bad)
      | _, _ => .bad)
    | none => .bad)
  | .buildSlice t len ps => (match C.tt t with
    | some ti => (match ti.d with
      | .slice e => (match C.tt e with
        | some te => (match zeroCells te, cParts C (fun i => some (i * te.n, te.n)) ps.toList with
          | some z, some l => if len * te.n ≤ 65536 ∧ te.n ≠ 0 then .bslice e te.n len z l else .bad
          | _, _ => .bad)
        | none => .bad)
      | _ => .bad)
    | none => .bad)
  | .load t a => (match C.tt t, cX C a with
    | some ti, some a => if TypeDesc.isAggB ti.d then .lda ti.n a else .ld a
    | _, _ => .bad)
  | .store t a x => (match C.tt t, cX C a, cX C x with
    | some ti, some a, some x => .st ti.n a x
    | _, _, _ => .bad)
  | .nilCheck x => (match cX C x with | some x => .nilck x | none => .bad)
  | .binOp op t x y _ => (match cX C x, cX C y with | some a, some b => cBin C op t x y a b | _, _ => .bad)
  | .unOp op _ x => (match cX C x with | some x => .un op x | none => .bad)
  | .convert s d x => (match C.tt s, C.tt d, cX C x with
    | some ts, some td, some x => (match ts.d, td.d with
      | .int _, .int k => .cvInt k x
      | .string, .string => .cvS x
      | .string, .slice e => (match C.tt e with | some te => (match te.d with | .int .u8 => if te.n = 1 then .cvBytes e x else .bad | _ => .bad) | none => .bad)
      | .slice e, .string => (match C.tt e with | some te => (match te.d with | .int .u8 => .cvStr x | _ => .bad) | none => .bad)
      | .pointer t, .unsafePointer => (match C.tt t with | some te => if te.n = 0 then .bad else .cvUp t x | none => .bad)
      | .unsafePointer, .pointer u => .cvDn u (C.up.filter (upFits C u)) x
      | _, _ => .bad)
    | _, _, _ => .bad)
  | .makeInterface t x => (match C.tt t, cX C x with
    | some ti, some x => (match ti.d with | .interface _ => .bad | _ => .mkIf t x)
    | _, _ => .bad)
  | .makeFunc (.func f) first capt => (match cXs C capt.toList with | some xs => if first.size = 0 then .mkFn f xs else .bad | none => .bad)
  | .makeMap _ none => .mkMap
  | .makeSlice t l c => (match C.tt t, cX C l, cX C c with
    | some ti, some l, some c => (match ti.d with
      | .slice e => (match C.tt e with
        | some te => (match zeroCells te with | some z => if te.bytes ≤ 65536 ∧ te.n ≠ 0 then .mkSl e te.n z l c else .bad | none => .bad)
        | none => .bad)
      | _ => .bad)
    | _, _, _ => .bad)
  | .slice t x lo hi mx => (match C.tt t, cX C x, cOX C lo, cOX C hi, cOX C mx with
    | some ti, some x, some lo, some hi, some mx => (match ti.d with
      | .array n e => (match C.tt e with | some te => if (mx.isSome → hi.isSome) then .slArr n te.n x lo hi mx else .bad | none => .bad)
      | .slice e => (match C.tt e with | some te => if te.n ≠ 0 ∧ (mx.isSome → hi.isSome) then .slSl te.n x lo hi mx else .bad | none => .bad)
      | .string => if mx.isNone then .slStr x lo hi else .bad
      | _ => .bad)
    | _, _, _, _, _ => .bad)
  | .fieldAddr t x f => (match C.tt t, cX C x with
    | some ti, some x => (match ti.d with
      | .struct fs => (match fs[f]? with
        | some f => (match C.tt f.type with | some tf => if tf.n = 0 then .bad else .fadr f.offset x | none => .bad)
        | none => .bad)
      | _ => .bad)
    | _, _ => .bad)
  | .field t x f => (match C.tt t, cX C x with
    | some ti, some x => (match ti.d with
      | .struct fs => (match fs[f]? with
        | some f => (match C.tt f.type with | some tf => .fld f.offset (if TypeDesc.isAggB tf.d then some tf.n else none) x | none => .bad)
        | none => .bad)
      | _ => .bad)
    | _, _ => .bad)
  | .indexAddr t x i => (match C.tt t, cX C x, cX C i with
    | some ti, some x, some i => (match ti.d with
      | .array n e => (match C.tt e with | some te => .ixArr n te.n x i | none => .bad)
      | .slice e => (match C.tt e with | some te => .ixSl te.n x i | none => .bad)
      | _ => .bad)
    | _, _, _ => .bad)
  | .index t x i => (match C.tt t, cX C x, cX C i with
    | some ti, some x, some i => (match ti.d with
      | .array n e => (match C.tt e with | some te => .idxArr n te.n (TypeDesc.isAggB te.d) x i | none => .bad)
      | .string => .idxStr x i
      | _ => .bad)
    | _, _, _ => .bad)
  | .lookup t x k ok => (match C.tt t, cX C x, cX C k with
    | some ti, some x, some k => (match ti.d with
      | .map kt e => (match (C.tt e).bind zeroVal, keyK C kt with | some z, some kk => .lookup kk z ok x k | _, _ => .bad)
      | _ => .bad)
    | _, _, _ => .bad)
  | .mapUpdate t x k y | .insert t x k y => (match C.tt t, cX C x, cX C k, cX C y with
    | some ti, some x, some k, some y => (match ti.d with | .map kt _ => (match keyK C kt with | some kk => .mupd kk x k y | none => .bad) | _ => .bad)
    | _, _, _, _ => .bad)
  | .mapEntry t x k => (match C.tt t, cX C x, cX C k with
    | some ti, some x, some k => (match ti.d with
      | .map kt e => (match (C.tt e).bind zeroVal, keyK C kt with | some z, some kk => .ment kk z x k | _, _ => .bad)
      | _ => .bad)
    | _, _, _ => .bad)
  | .entryStore _ x st y => (match cX C x, cX C st, cX C y with | some x, some st, some y => .mst x st y | _, _, _ => .bad)
  | .range t x => (match C.tt t, cX C x with
    | some ti, some x => (match ti.d with | .string => .rng x | _ => .bad)
    | _, _ => .bad)
  | .next it true => (match cX C it with | some x => .nxt x | none => .bad)
  | .typeAssert x _ t ok => (match C.tt t, cX C x with
    | some ti, some x => (match ti.d with
      | .interface _ => .bad
      | _ => (match zeroVal ti with | some z => .tas z t ok x | none => .bad))
    | _, _ => .bad)
  | .extract x i => (match cX C x with | some x => .ext x i | none => .bad)
  | .call c => cCall C c
  | .defer c => (match c.callee, cXs C c.args.toList with
    | .value (.func f), some xs => .defer f xs
    | .value f, some xs => (match cX C f with | some x => .deferv x xs | none => .bad)
    | _, _ => .bad)
  | _ => .bad

end Ax
