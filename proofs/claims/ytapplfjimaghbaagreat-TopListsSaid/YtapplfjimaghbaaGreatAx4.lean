/- The abstract executor, part 17: regions, code, calls, rounds. -/
import Derived.Test.YtapplfjimaghbaaGreatAx3
import Derived.RangeFuncIn
import Derived.Test.YtapplfjimaghbaaGreatAx1
import Derived.Orders
set_option linter.all false
namespace Ax
open Go

/-- How code is left. -/
inductive Ex where
  | norm | exit (id : Nat) | goto (l : Nat) | ret

structure St where
  rs : RF
  h : H
  ds : List (Nat × List V)

/-- What a call, and a round, hand back. -/
abbrev Fun := Nat → List V → H → Option (V × H)
/-- What runs: functions, rounds; are we in a round? -/
structure Cx where
  call : Fun
  round : Fun
  inR : Bool

noncomputable def setR (rs : RF) (d : Option Nat) (v : V) : RF := match d with | some d => rs.set d v | none => rs
/-- Is an operation wanted? none: it can't be told. -/
noncomputable def wantR (rs : RF) : Option (Nat × Bool) → Option Bool
  | none => some true
  | some (r, w) => match getR rs r with
    | .b t => some (t == w)
    | .tup [] => some false
    | _ => none

/-- One operation. -/
noncomputable def ciGo (x : Cx) (c : CI) (s : St) : Option St :=
  match wantR s.rs c.g with
  | some true => (match opSem c.op s.rs s.h with
    | some (.val v h) => some ⟨setR s.rs c.dst v, h, s.ds⟩
    | some (.call f args) => (match x.call f args s.h with | some (v, h) => some ⟨setR s.rs c.dst v, h, s.ds⟩ | none => none)
    | some (.ycall id args) => (match x.round id args s.h with | some (v, h) => some ⟨setR s.rs c.dst v, h, s.ds⟩ | none => none)
    | some (.defer f args) => if x.inR then none else some ⟨setR s.rs c.dst .undef, s.h, (f, args) :: s.ds⟩
    | some .rcv => if x.inR then none else some ⟨setR s.rs c.dst .nili, s.h, s.ds⟩
    | none => none)
  | some false => some ⟨setR s.rs c.dst .undef, s.h, s.ds⟩
  | none => none
noncomputable def opsGo (x : Cx) (l : List CI) : St → Option St :=
  List.rec (motive := fun _ => St → Option St) (fun s => some s) (fun c _ ih s => match ciGo x c s with | some s => ih s | none => none) l

/-! Regions that draw their order. -/
/-- The same leaf, for sure. -/
def veqL : V → V → Bool
  | .i a, .i b => decide (a = b)
  | .u k a, .u j b => decide (k = j) && decide (a = b)
  | .b a, .b b => a == b
  | .s l a, .s m b => Nat.beq l m && Nat.beq a b
  | .ptr a o, .ptr b p => Nat.beq a b && Nat.beq o p
  | .sl a b c d, .sl e f g h => Nat.beq a e && Nat.beq b f && Nat.beq c g && Nat.beq d h
  | .m a, .m b => Nat.beq a b
  | .nilp, .nilp | .nils, .nils | .nilm, .nilm | .nilf, .nilf | .nili, .nili => true
  | _, _ => false
def veqLs : List V → List V → Bool
  | [], [] => true
  | a :: r, b :: q => veqL a b && veqLs r q
  | _, _ => false
def veqM : V → V → Bool
  | .ifc t a, .ifc u b => Nat.beq t u && veqL a b
  | .fn f a, .fn g b => Nat.beq f g && veqLs a b
  | a, b => veqL a b
def veqMs : List V → List V → Bool
  | [], [] => true
  | a :: r, b :: q => veqM a b && veqMs r q
  | _, _ => false
def veq : V → V → Bool
  | .agg a, .agg b => veqMs a b
  | .tup a, .tup b => veqMs a b
  | a, b => veqM a b
/-- What an operation that puts off no call makes, and the heap behind it. -/
noncomputable def ciV (x : Cx) (c : CI) (rs : RF) (h : H) : Option (V × H) :=
  match wantR rs c.g with
  | some true => (match opSem c.op rs h with
    | some (.val v h) => some (v, h)
    | some (.call f args) => x.call f args h
    | some (.ycall id args) => x.round id args h
    | _ => none)
  | some false => some (.undef, h)
  | none => none
/-- The run, in the order that was chosen; the heaps ahead of each effect, and the last. -/
noncomputable def dGo (x : Cx) : List (CI × Bool) → St → Option (St × List H)
  | [], s => some (s, [s.h])
  | (c, e) :: l, s => match ciGo x c s with
    | some s1 => (match dGo x l s1 with
      | some (sf, hs) => some (sf, if e then s.h :: hs else hs)
      | none => none)
    | none => none
/-- What an operation that looks at the heap would make. -/
noncomputable def dVal (c : CI) (rs : RF) (h : H) : Option V :=
  match wantR rs c.g with
  | some true => (match opSem c.op rs h with | some (.val v _) => some v | _ => none)
  | some false => some .undef
  | none => none
/-- Would it make the same at n heaps? -/
noncomputable def dChk1 (rs : RF) (c : CI) : Nat → List H → Bool
  | 0, _ => true
  | n + 1, h :: hs => (match dVal c rs h with
    | some v => (match c.dst with | some d => veq (getR rs d) v | none => true) && dChk1 rs c n hs
    | none => false)
  | _ + 1, [] => false
noncomputable def dChk (rs : RF) (hs : List H) : List (CI × Nat × Nat) → Bool
  | [] => true
  | (c, lo, n) :: l => dChk1 rs c n (hs.drop lo) && dChk rs hs l
noncomputable def dreg (x : Cx) (l : List (CI × Bool)) (chk : List (CI × Nat × Nat)) (s : St) : Option St :=
  match dGo x l s with
  | some (sf, hs) => if dChk sf.rs hs chk then some sf else none
  | none => none

/-- Is a label in code, as 'findLabel' looks? -/
noncomputable def hasLab (l : Nat) : CC → Bool
  | .seq a b => hasLab l a || hasLab l b
  | .label l' => Nat.beq l' l
  | _ => false

noncomputable def loopGo (body : St → Option (Ex × St)) (n : Nat) : St → Option (Ex × St) :=
  Nat.rec (motive := fun _ => St → Option (Ex × St)) (fun _ => none) (fun _ ih s => match body s with
    | some (.norm, s) => ih s
    | r => r) n
noncomputable def scopeGo (has : Nat → Bool) (body : Nat → St → Option (Ex × St)) (n : Nat) : Option (Ex × St) → Option (Ex × St) :=
  Nat.rec (motive := fun _ => Option (Ex × St) → Option (Ex × St)) (fun _ => none) (fun _ ih r => match r with
    | some (.goto l, s) => if has l then ih (body l s) else some (.goto l, s)
    | r => r) n

/-- A range over a function, once its record lies and the function has come back. -/
noncomputable def afterRng (id : Nat) (s : St) (r : Option (V × H)) : Option (Ex × St) :=
  match r with
  | some (_, h) => (match h.get id with
    | some (.loop fn n rg ps as bd 0 none) => some (.norm, ⟨s.rs, h.put id (.loop fn n rg ps as bd 3 none), s.ds⟩)
    | some (.loop fn n rg ps as bd 2 (some p)) => some (match p with | .exit k => .exit k | .goto l => .goto l | .ret => .ret, ⟨s.rs, h.put id (.loop fn n rg ps as bd 3 (some p)), s.ds⟩)
    | _ => none)
  | none => none
noncomputable def rngGo (x : Cx) (fn n : Nat) (f : X) (ps : List Nat) (as bd : CC) (s : St) : Option (Ex × St) :=
  if x.inR then none else match f.val s.rs with
  | .fn g caps => afterRng s.h.next s (x.call g (.yld s.h.next :: caps) (s.h.new (.loop fn n s.rs ps as bd 0 none)))
  | _ => none

/-- Code: from its beginning, or from a label in it. -/
noncomputable def ev (x : Cx) (fn n F : Nat) (c : CC) : Option Nat → St → Option (Ex × St) :=
  CC.rec (motive := fun _ => Option Nat → St → Option (Ex × St))
    (fun fr s => match fr with | none => some (.norm, s) | some _ => none)
    (fun l fr s => match fr with | none => (match opsGo x l s with | some s => some (.norm, s) | none => none) | some _ => none)
    (fun a b ia ib fr s => match fr with
      | none => (match ia none s with | some (.norm, s) => ib none s | r => r)
      | some l => Bool.rec (ib (some l) s) (match ia (some l) s with | some (.norm, s) => ib none s | r => r) (hasLab l a))
    (fun y _ _ ia ib fr s => match fr with
      | none => (match y.val s.rs with | .b t => Bool.rec (ib none s) (ia none s) t | _ => none)
      | some _ => none)
    (fun id _ ib fr s => match fr with
      | none => (match ib none s with | some (.exit k, s) => Bool.rec (some (.exit k, s)) (some (.norm, s)) (Nat.beq k id) | r => r)
      | some _ => none)
    (fun _ ib fr s => match fr with | none => loopGo (ib none) F s | some _ => none)
    (fun id fr s => match fr with | none => some (.exit id, s) | some _ => none)
    (fun l fr s => match fr with | none => some (.goto l, s) | some _ => none)
    (fun fr s => match fr with | none => some (.ret, s) | some _ => none)
    (fun b ib fr s => match fr with | none => scopeGo (fun l => hasLab l b) (fun l s => ib (some l) s) F (ib none s) | some _ => none)
    (fun l fr s => match fr with | none => some (.norm, s) | some k => if Nat.beq l k then some (.norm, s) else none)
    (fun f ps as bd _ _ fr s => match fr with | none => rngGo x fn n f ps as bd s | some _ => none)
    (fun l chk fr s => match fr with | none => (match dreg x l chk s with | some s => some (.norm, s) | none => none) | some _ => none)
    (fun _ _ => none)
    c

/-- A compiled function. 'res': a register, or a cell that a register points to (so many cells; a struct or an array?). -/
inductive CRes where
  | tmp (t : Nat)
  | cell (a n : Nat) (agg : Bool)
structure CF where
  code : CC
  ntmps : Nat
  res : List CRes

noncomputable def resV (rs : RF) (h : H) : CRes → Option V
  | .tmp t => some (getR rs t)
  | .cell a n g => if g then (ldC h (getR rs a) n).map .agg else match ldC h (getR rs a) 1 with | some [v] => some v | _ => none
noncomputable def resVs (rs : RF) (h : H) : List CRes → Option (List V)
  | [] => some []
  | c :: r => match resV rs h c, resVs rs h r with | some v, some l => some (v :: l) | _, _ => none
noncomputable def resOf (rs : RF) (h : H) (l : List CRes) : Option V :=
  match resVs rs h l with
  | some [v] => some v
  | some vs => some (.tup vs)
  | none => none
noncomputable def defGo (call : Fun) : List (Nat × List V) → H → Option H
  | [], h => some h
  | (f, args) :: r, h => match call f args h with | some (_, h) => defGo call r h | none => none

variable (CP : Nat → Option CF) (F : Nat)
noncomputable def callF (call round : Fun) : Fun := fun f args h =>
  match CP f with
  | some cf => (match ev ⟨call, round, false⟩ f cf.ntmps F cf.code none ⟨RF.of args, h, []⟩ with
    | some (.norm, s) => (match defGo call s.ds s.h with | some h => (resOf s.rs h cf.res).map fun v => (v, h) | none => none)
    | some (.ret, s) => (match defGo call s.ds s.h with | some h => (resOf s.rs h cf.res).map fun v => (v, h) | none => none)
    | _ => none)
  | none => none
noncomputable def putAll : List Nat → List V → RF → RF
  | p :: ps, a :: as, rs => putAll ps as (rs.set p a)
  | _, _, rs => rs
noncomputable def roundF (call round : Fun) : Fun := fun id args h =>
  match h.get id with
  | some (.loop fn n rg ps as bd 0 pend) => if args.length = ps.length ∧ ps.all (fun p => Nat.blt p n) then
    (match ev ⟨call, round, true⟩ fn n F as none ⟨putAll ps args rg, h, []⟩ with
    | some (.norm, s) => (match s.h.get id with
      | some (.loop fn' n' rg' ps' as' bd' 0 pend') => (match ev ⟨call, round, true⟩ fn n F bd none ⟨s.rs, s.h.put id (.loop fn' n' rg' ps' as' bd' 1 pend'), s.ds⟩ with
        | some (e, s) => (match s.h.get id with
          | some (.loop fn' n' rg' ps' as' bd' 1 _) => (match e with
            | .norm => some (.b true, s.h.put id (.loop fn' n' rg' ps' as' bd' 0 none))
            | .exit k => some (.b false, s.h.put id (.loop fn' n' rg' ps' as' bd' 2 (some (.exit k))))
            | .goto l => some (.b false, s.h.put id (.loop fn' n' rg' ps' as' bd' 2 (some (.goto l))))
            | .ret => some (.b false, s.h.put id (.loop fn' n' rg' ps' as' bd' 2 (some .ret))))
          | _ => none)
        | none => none)
      | _ => none)
    | _ => none) else none
  | _ => none
noncomputable def runN' (n : Nat) : Fun × Fun :=
  Nat.rec (motive := fun _ => Fun × Fun) (fun _ _ _ => none, fun _ _ _ => none) (fun _ ih => (callF CP F ih.1 ih.2, roundF F ih.1 ih.2)) n
end Ax

/- The abstract executor, part 18: the counter of blocks never goes back. -/
namespace Ax
open Go

theorem stC_next {h h' : H} {p : V} {vs : List V} (hs : stC h p vs = some h') : h'.next = h.next := by
  unfold stC at hs
  split at hs
  · split at hs
    · split at hs
      · cases hs; rfl
      · cases hs
    · cases hs
  · cases hs
theorem appendV_next {h h' : H} {e es n : Nat} {s v : V} {new : List V} (hs : appendV h e es s n new = some (v, h')) : h.next ≤ h'.next := by
  unfold appendV at hs
  repeat' split at hs
  all_goals first
    | (cases hs; done)
    | (cases hs; exact Nat.le_refl _)
    | (cases hs; simp [newCells])
    | (cases hs; rename_i hh; rw [stC_next hh]; exact Nat.le_refl _)
    | (cases hs; rename_i hh _; rw [stC_next hh]; exact Nat.le_refl _)
    | (simp only [Option.some.injEq, Prod.mk.injEq] at hs; obtain ⟨_, rfl⟩ := hs; simp [newCells])
    | (simp only [Option.some.injEq, Prod.mk.injEq] at hs; obtain ⟨_, rfl⟩ := hs; rename_i hh; rw [stC_next hh]; exact Nat.le_refl _)
theorem ret_val {h h' : H} {v : V} {o : Option V} (hs : ret h o = some (.val v h')) : h' = h := by
  unfold ret at hs
  split at hs
  · cases hs; rfl
  · cases hs
set_option maxHeartbeats 4000000 in
theorem opSem_next {o : COp} {rs : RF} {h h' : H} {v : V} (hs : opSem o rs h = some (.val v h')) : h.next ≤ h'.next := by
  cases o <;> simp only [opSem] at hs
  all_goals first
    | (cases hs; exact Nat.le_refl _)
    | (cases hs; simp [newCells]; done)
    | (rw [ret_val hs]; exact Nat.le_refl _)
    | (repeat' split at hs
       all_goals first
         | (cases hs; done)
         | (cases hs; exact Nat.le_refl _)
         | (cases hs; simp [newCells]; done)
         | (rw [ret_val hs]; exact Nat.le_refl _)
         | (cases hs; rename_i hh; rw [stC_next hh]; exact Nat.le_refl _)
         | (cases hs; rename_i hh; exact appendV_next hh))

def Fun.mono (f : Fun) : Prop := ∀ i a h v h', f i a h = some (v, h') → h.next ≤ h'.next
structure Cx.mono (x : Cx) : Prop where
  call : x.call.mono
  round : x.round.mono

section
variable {x : Cx}
theorem ciGo_next (hx : x.mono) {c : CI} {s s' : St} (hs : ciGo x c s = some s') : s.h.next ≤ s'.h.next := by
  unfold ciGo at hs
  split at hs
  · split at hs
    · rename_i v h hh
      cases hs; exact opSem_next hh
    · split at hs
      · rename_i hh; cases hs; exact hx.call _ _ _ _ _ hh
      · cases hs
    · split at hs
      · rename_i hh; cases hs; exact hx.round _ _ _ _ _ hh
      · cases hs
    · split at hs
      · cases hs
      · cases hs; exact Nat.le_refl _
    · split at hs
      · cases hs
      · cases hs; exact Nat.le_refl _
    · cases hs
  · cases hs; exact Nat.le_refl _
  · cases hs
theorem opsGo_nil (s : St) : opsGo x [] s = some s := rfl
theorem opsGo_cons (c : CI) (l : List CI) (s : St) : opsGo x (c :: l) s = match ciGo x c s with | some s => opsGo x l s | none => none := rfl
theorem opsGo_next (hx : x.mono) : ∀ {l : List CI} {s s' : St}, opsGo x l s = some s' → s.h.next ≤ s'.h.next
  | [], s, s', hs => by cases hs; exact Nat.le_refl _
  | c :: l, s, s', hs => by
    rw [opsGo_cons] at hs
    split at hs
    · rename_i h1; exact Nat.le_trans (ciGo_next hx h1) (opsGo_next hx hs)
    · cases hs
theorem dGo_next (hx : x.mono) : ∀ {l : List (CI × Bool)} {s s' : St} {hs : List H}, dGo x l s = some (s', hs) → s.h.next ≤ s'.h.next
  | [], s, s', hs, h => by
    simp only [dGo, Option.some.injEq, Prod.mk.injEq] at h
    rw [← h.1]; exact Nat.le_refl _
  | (c, e) :: l, s, s', hs, h => by
    simp only [dGo] at h
    split at h
    · rename_i s1 h1
      split at h
      · rename_i sf hs' h2
        simp only [Option.some.injEq, Prod.mk.injEq] at h
        rw [← h.1]
        exact Nat.le_trans (ciGo_next hx h1) (dGo_next hx h2)
      · cases h
    · cases h
theorem dreg_next (hx : x.mono) {chk : List (CI × Nat × Nat)} {l : List (CI × Bool)} {s s' : St} (h : dreg x l chk s = some s') : s.h.next ≤ s'.h.next := by
  unfold dreg at h
  split at h
  · rename_i sf hsl hgo
    split at h
    · cases h; exact dGo_next hx hgo
    · cases h
  · cases h
theorem loopGo_succ (b : St → Option (Ex × St)) (n : Nat) (s : St) : loopGo b (n + 1) s = match b s with | some (.norm, s) => loopGo b n s | r => r := rfl
theorem loopGo_next {b : St → Option (Ex × St)} (hb : ∀ s e s', b s = some (e, s') → s.h.next ≤ s'.h.next) : ∀ (n : Nat) (s : St) (e : Ex) (s' : St), loopGo b n s = some (e, s') → s.h.next ≤ s'.h.next
  | 0, _, _, _, hs => by cases hs
  | n + 1, s, e, s', hs => by
    rw [loopGo_succ] at hs
    split at hs
    · rename_i s1 h1; exact Nat.le_trans (hb _ _ _ h1) (loopGo_next hb n s1 e s' hs)
    · exact hb _ _ _ hs
theorem scopeGo_succ (has : Nat → Bool) (b : Nat → St → Option (Ex × St)) (n : Nat) (r : Option (Ex × St)) : scopeGo has b (n + 1) r = match r with
    | some (.goto l, s) => if has l then scopeGo has b n (b l s) else some (.goto l, s)
    | r => r := rfl
theorem scopeGo_next {has : Nat → Bool} {b : Nat → St → Option (Ex × St)} (hb : ∀ l s e s', b l s = some (e, s') → s.h.next ≤ s'.h.next) (k : Nat) :
    ∀ (n : Nat) (r : Option (Ex × St)) (e : Ex) (s' : St), (∀ e s, r = some (e, s) → k ≤ s.h.next) → scopeGo has b n r = some (e, s') → k ≤ s'.h.next
  | 0, _, _, _, _, hs => by cases hs
  | n + 1, r, e, s', hr, hs => by
    rw [scopeGo_succ] at hs
    split at hs
    · rename_i l s
      split at hs
      · exact scopeGo_next hb k n (b l s) e s' (fun e1 s1 h1 => Nat.le_trans (hr _ _ rfl) (hb _ _ _ _ h1)) hs
      · cases hs; exact hr _ _ rfl
    · exact hr _ _ hs
theorem afterRng_next {id : Nat} {s s' : St} {r : Option (V × H)} {e : Ex} (hr : ∀ v h, r = some (v, h) → s.h.next ≤ h.next) (hs : afterRng id s r = some (e, s')) : s.h.next ≤ s'.h.next := by
  unfold afterRng at hs
  split at hs
  · rename_i h
    have := hr _ _ rfl
    split at hs
    · cases hs; exact this
    · cases hs; exact this
    · cases hs
  · cases hs
theorem rngGo_next (hx : x.mono) {fn n : Nat} {f : X} {ps : List Nat} {as bd : CC} {s s' : St} {e : Ex} (hs : rngGo x fn n f ps as bd s = some (e, s')) : s.h.next ≤ s'.h.next := by
  unfold rngGo at hs
  split at hs
  · cases hs
  · split at hs
    · refine afterRng_next ?_ hs
      intro v h hh
      have := hx.call _ _ _ _ _ hh
      simp at this
      omega
    · cases hs

variable {fn n F : Nat}
section eqs
variable (s : St)
theorem ev_skip : ev x fn n F .skip none s = some (.norm, s) := rfl
theorem ev_reg (l : List CI) : ev x fn n F (.reg l) none s = match opsGo x l s with | some s => some (.norm, s) | none => none := rfl
theorem ev_seq (a b : CC) : ev x fn n F (.seq a b) none s = match ev x fn n F a none s with | some (.norm, s) => ev x fn n F b none s | r => r := rfl
theorem ev_seq_from (a b : CC) (l : Nat) : ev x fn n F (.seq a b) (some l) s = if hasLab l a then (match ev x fn n F a (some l) s with | some (.norm, s) => ev x fn n F b none s | r => r) else ev x fn n F b (some l) s := by
  show (Bool.rec _ _ (hasLab l a) : Option (Ex × St)) = _
  cases hasLab l a <;> rfl
theorem ev_cond (y : X) (a b : CC) : ev x fn n F (.cond y a b) none s = match y.val s.rs with | .b t => if t then ev x fn n F a none s else ev x fn n F b none s | _ => none := by
  show (match y.val s.rs with | .b t => Bool.rec _ _ t | _ => none : Option (Ex × St)) = _
  cases y.val s.rs <;> try rfl
  rename_i t; cases t <;> rfl
theorem ev_block (id : Nat) (b : CC) : ev x fn n F (.block id b) none s = match ev x fn n F b none s with | some (.exit k, s) => if k = id then some (.norm, s) else some (.exit k, s) | r => r := by
  show (match ev x fn n F b none s with | some (.exit k, s) => Bool.rec (some (.exit k, s)) (some (.norm, s)) (Nat.beq k id) | r => r : Option (Ex × St)) = _
  split
  · rename_i k s1 _
    by_cases hk : k = id
    · subst hk; simp
    · have : Nat.beq k id = false := by
        cases hb : Nat.beq k id with
        | false => rfl
        | true => exact absurd (Nat.eq_of_beq_eq_true hb) hk
      rw [this, if_neg hk]
  · rfl
theorem ev_loop (b : CC) : ev x fn n F (.loop b) none s = loopGo (ev x fn n F b none) F s := rfl
theorem ev_exit (id : Nat) : ev x fn n F (.exit id) none s = some (.exit id, s) := rfl
theorem ev_goto (l : Nat) : ev x fn n F (.goto l) none s = some (.goto l, s) := rfl
theorem ev_ret : ev x fn n F .ret none s = some (.ret, s) := rfl
theorem ev_scope (b : CC) : ev x fn n F (.scope b) none s = scopeGo (fun l => hasLab l b) (fun l s => ev x fn n F b (some l) s) F (ev x fn n F b none s) := rfl
theorem ev_label (l : Nat) : ev x fn n F (.label l) none s = some (.norm, s) := rfl
theorem ev_label_from (l k : Nat) : ev x fn n F (.label l) (some k) s = if Nat.beq l k then some (.norm, s) else none := rfl
theorem ev_rng (f : X) (ps : List Nat) (as bd : CC) : ev x fn n F (.rng f ps as bd) none s = rngGo x fn n f ps as bd s := rfl
end eqs

theorem ev_next (hx : x.mono) : ∀ (c : CC) (fr : Option Nat) (s : St) (e : Ex) (s' : St), ev x fn n F c fr s = some (e, s') → s.h.next ≤ s'.h.next := by
  intro c
  induction c with
  | skip => intro fr s e s' hs; cases fr <;> cases hs; exact Nat.le_refl _
  | reg l =>
    intro fr s e s' hs
    cases fr with
    | some _ => cases hs
    | none =>
      rw [ev_reg] at hs
      split at hs
      · rename_i h1; cases hs; exact opsGo_next hx h1
      · cases hs
  | seq a b ia ib =>
    intro fr s e s' hs
    cases fr with
    | none =>
      rw [ev_seq] at hs
      split at hs
      · rename_i h1; exact Nat.le_trans (ia _ _ _ _ h1) (ib _ _ _ _ hs)
      · exact ia _ _ _ _ hs
    | some l =>
      rw [ev_seq_from] at hs
      split at hs
      · split at hs
        · rename_i h1; exact Nat.le_trans (ia _ _ _ _ h1) (ib _ _ _ _ hs)
        · exact ia _ _ _ _ hs
      · exact ib _ _ _ _ hs
  | cond y a b ia ib =>
    intro fr s e s' hs
    cases fr with
    | some _ => cases hs
    | none =>
      rw [ev_cond] at hs
      split at hs
      · split at hs
        · exact ia _ _ _ _ hs
        · exact ib _ _ _ _ hs
      · cases hs
  | block id b ib =>
    intro fr s e s' hs
    cases fr with
    | some _ => cases hs
    | none =>
      rw [ev_block] at hs
      split at hs
      · rename_i h1
        split at hs
        · cases hs; exact ib _ _ _ _ h1
        · cases hs; exact ib _ _ _ _ h1
      · exact ib _ _ _ _ hs
  | loop b ib =>
    intro fr s e s' hs
    cases fr with
    | some _ => cases hs
    | none => exact loopGo_next (fun s e s' h => ib none s e s' h) F s e s' hs
  | exit id => intro fr s e s' hs; cases fr <;> cases hs; exact Nat.le_refl _
  | goto l => intro fr s e s' hs; cases fr <;> cases hs; exact Nat.le_refl _
  | ret => intro fr s e s' hs; cases fr <;> cases hs; exact Nat.le_refl _
  | scope b ib =>
    intro fr s e s' hs
    cases fr with
    | some _ => cases hs
    | none => exact scopeGo_next (fun l s e s' h => ib (some l) s e s' h) s.h.next F _ e s' (fun e s1 h1 => ib none s e s1 h1) hs
  | label l =>
    intro fr s e s' hs
    cases fr with
    | none => cases hs; exact Nat.le_refl _
    | some k =>
      rw [ev_label_from] at hs
      split at hs
      · cases hs; exact Nat.le_refl _
      · cases hs
  | rng f ps as bd _ _ =>
    intro fr s e s' hs
    cases fr with
    | some _ => cases hs
    | none => exact rngGo_next hx hs
  | dreg l chk =>
    intro fr s e s' hs
    cases fr with
    | some _ => cases hs
    | none =>
      have hs : (match dreg x l chk s with | some s => some (Ex.norm, s) | none => none) = some (e, s') := hs
      split at hs
      · rename_i h1; cases hs; exact dreg_next hx h1
      · cases hs
  | bad => intro fr s e s' hs; cases hs
end
end Ax

/- The abstract executor, regions that draw their order, 1: every drawn order goes by the edges. -/
namespace Ax
open Go

/-- What must come ahead of an operation, given what must come ahead of the elder ones. -/
def dmask (acc : List Nat) (o : Oper) : Nat := o.after.toList.foldr (fun e s => if Region.binds .any e then Nat.lor s (Nat.lor (2 ^ e.on) (acc.getD e.on 0)) else s) 0
def dmasks : List Oper → List Nat → List Nat
  | [], acc => acc
  | o :: r, acc => dmasks r (acc ++ [dmask acc o])
/-- Must j come ahead of i? -/
def aheadOf (ms : List Nat) (j i : Nat) : Bool := (ms.getD i 0).testBit j

theorem dmask_bit' {acc : List Nat} {j : Nat} : ∀ {l : List Edge}, (l.foldr (fun e s => if Region.binds .any e then Nat.lor s (Nat.lor (2 ^ e.on) (acc.getD e.on 0)) else s) 0).testBit j = true → ∃ e ∈ l, Region.binds .any e = true ∧ (e.on = j ∨ (acc.getD e.on 0).testBit j = true)
  | [], h => by simp at h
  | e :: l, h => by
    rw [List.foldr_cons] at h
    split at h
    · rename_i hb
      have h' : ((l.foldr (fun e s => if Region.binds .any e then Nat.lor s (Nat.lor (2 ^ e.on) (acc.getD e.on 0)) else s) 0) ||| (2 ^ e.on ||| acc.getD e.on 0)).testBit j = true := h
      rw [Nat.testBit_or, Nat.testBit_or, Bool.or_eq_true, Bool.or_eq_true] at h'
      rcases h' with h' | h' | h'
      · obtain ⟨e', he, hh⟩ := dmask_bit' h'; exact ⟨e', .tail _ he, hh⟩
      · rw [Nat.testBit_two_pow] at h'
        exact ⟨e, .head _, hb, .inl (of_decide_eq_true h')⟩
      · exact ⟨e, .head _, hb, .inr h'⟩
    · obtain ⟨e', he, hh⟩ := dmask_bit' h; exact ⟨e', .tail _ he, hh⟩
theorem dmask_bit {acc : List Nat} {o : Oper} {j : Nat} (h : (dmask acc o).testBit j = true) : ∃ e ∈ o.after.toList, Region.binds .any e = true ∧ (e.on = j ∨ (acc.getD e.on 0).testBit j = true) := dmask_bit' h

theorem dmasks_prefix : ∀ (l : List Oper) (acc : List Nat) (k : Nat), k < acc.length → (dmasks l acc)[k]? = acc[k]?
  | [], _, _, _ => rfl
  | o :: r, acc, k, h => by
    rw [dmasks, dmasks_prefix r _ k (by simp; omega), List.getElem?_append_left h]
theorem dmasks_bit : ∀ (l : List Oper) (acc : List Nat) (i : Nat) (o : Oper), l[i]? = some o → ∀ j, ((dmasks l acc).getD (acc.length + i) 0).testBit j = true →
    ∃ e ∈ o.after.toList, Region.binds .any e = true ∧ (e.on = j ∨ (e.on < acc.length + i ∧ ((dmasks l acc).getD e.on 0).testBit j = true))
  | [], _, _, _, h, _, _ => by simp at h
  | p :: r, acc, 0, o, h, j, hj => by
    simp only [List.getElem?_cons_zero, Option.some.injEq] at h; subst h
    rw [dmasks, List.getD_eq_getElem?_getD, dmasks_prefix r _ _ (by simp)] at hj
    simp only [Nat.add_zero, List.getElem?_append_right (Nat.le_refl _), Nat.sub_self, List.getElem?_cons_zero, Option.getD_some] at hj
    obtain ⟨e, he, hb, hh⟩ := dmask_bit hj
    refine ⟨e, he, hb, ?_⟩
    rcases hh with hh | hh
    · exact .inl hh
    · right
      by_cases hlt : e.on < acc.length
      · refine ⟨by omega, ?_⟩
        rw [dmasks, List.getD_eq_getElem?_getD, dmasks_prefix r _ _ (by simp; omega), List.getElem?_append_left hlt, ← List.getD_eq_getElem?_getD]
        exact hh
      · rw [List.getD_eq_getElem?_getD, List.getElem?_eq_none (by omega)] at hh
        simp at hh
  | p :: r, acc, i + 1, o, h, j, hj => by
    simp only [List.getElem?_cons_succ] at h
    have e1 : acc.length + (i + 1) = (acc ++ [dmask acc p]).length + i := by simp; omega
    rw [e1] at hj ⊢
    exact dmasks_bit r (acc ++ [dmask acc p]) i o h j hj

/-- Edges that bind go back. -/
def backB (ops : Array Oper) : Bool := ops.toList.zipIdx.all fun (o, i) => o.after.toList.all fun e => !Region.binds .any e || Nat.blt e.on i
def msOf (ops : Array Oper) : List Nat := dmasks ops.toList []

/-- May an operation come, when those are done? -/
def Rdy (ops : Array Oper) (L : Nat → Prop) (i : Nat) : Prop := ∃ o, ops[i]? = some o ∧ ∀ e ∈ o.after.toList, Region.binds .any e = true → L e.on
/-- An order in which the rest may come. -/
inductive Lin (ops : Array Oper) : (Nat → Prop) → List Nat → Prop
  | nil {L : Nat → Prop} (h : ∀ k, k < ops.size → L k) : Lin ops L []
  | cons {L : Nat → Prop} {i : Nat} {σ : List Nat} (hn : ¬ L i) (hr : Rdy ops L i) (h : Lin ops (fun k => k = i ∨ L k) σ) : Lin ops L (i :: σ)

/-- What is done is shut: with each operation, all that must come ahead. -/
def Shut (ops : Array Oper) (L : Nat → Prop) : Prop := ∀ i, L i → Rdy ops L i
theorem Rdy.mono {ops : Array Oper} {L L' : Nat → Prop} {i : Nat} (h : Rdy ops L i) (hL : ∀ k, L k → L' k) : Rdy ops L' i := let ⟨o, ho, he⟩ := h; ⟨o, ho, fun e m b => hL _ (he e m b)⟩
theorem Shut.cons {ops : Array Oper} {L : Nat → Prop} {i : Nat} (h : Shut ops L) (hr : Rdy ops L i) : Shut ops (fun k => k = i ∨ L k) := by
  intro k hk
  rcases hk with rfl | hk
  · exact hr.mono fun _ h => .inr h
  · exact (h k hk).mono fun _ h => .inr h
theorem ahead_done {ops : Array Oper} {L : Nat → Prop} (hs : Shut ops L) : ∀ (i : Nat), Rdy ops L i → ∀ j, aheadOf (msOf ops) j i = true → L j := by
  intro i
  induction i using Nat.strongRecOn with
  | ind i ih =>
    intro hr j hj
    obtain ⟨o, ho, he⟩ := hr
    unfold aheadOf msOf at hj
    have := dmasks_bit ops.toList [] i o (by simpa using ho) j (by simpa using hj)
    obtain ⟨e, hm, hb, hh⟩ := this
    rcases hh with rfl | ⟨hlt, hh⟩
    · exact he e hm hb
    · exact ih e.on (by simpa using hlt) (hs _ (he e hm hb)) j hh

/-! The drawn orders. -/
theorem mem_ready {ops : Array Oper} {listed : Array Bool} {i : Nat} (h : i ∈ Region.ready .any ops listed) : i < ops.size ∧ listed.getD i true = false ∧ Rdy ops (fun k => listed.getD k false = true) i := by
  simp only [Region.ready, List.mem_filter, List.mem_range, Bool.and_eq_true, Bool.not_eq_true'] at h
  obtain ⟨h1, h2, h3⟩ := h
  refine ⟨h1, h2, ops[i], Array.getElem?_eq_getElem h1, ?_⟩
  rw [Array.getElem?_eq_getElem h1] at h3
  simp only [Option.map_some, Option.getD_some, Array.all_eq_true'] at h3
  intro e he hb
  have := h3 e (by simpa using he)
  rw [hb] at this
  simpa using this
theorem ready_nil {ops : Array Oper} (hb : backB ops = true) {listed : Array Bool} (hsz : listed.size = ops.size) (h : Region.ready .any ops listed = []) : ∀ k, k < ops.size → listed.getD k false = true := by
  intro k
  induction k using Nat.strongRecOn with
  | ind k ih =>
    intro hk
    cases hl : listed.getD k false with
    | true => rfl
    | false =>
      exfalso
      have hmem : k ∈ Region.ready .any ops listed := by
        simp only [Region.ready, List.mem_filter, List.mem_range, Bool.and_eq_true, Bool.not_eq_true']
        refine ⟨hk, ?_, ?_⟩
        · rw [Array.getD_eq_getD_getElem?, Array.getElem?_eq_getElem (by omega)] at hl ⊢
          exact hl
        · rw [Array.getElem?_eq_getElem hk]
          simp only [Option.map_some, Option.getD_some, Array.all_eq_true']
          intro e he
          cases hbe : Region.binds .any e with
          | false => rfl
          | true =>
            have hlt : e.on < k := by
              have := List.all_eq_true.1 hb (ops[k], k) (by rw [List.mk_mem_zipIdx_iff_getElem?]; simp [hk])
              have := List.all_eq_true.1 this e (by simpa using he)
              rw [hbe] at this
              exact Nat.lt_of_succ_le (by simpa [Nat.blt] using this)
            simpa using ih e.on hlt (by omega)
      rw [h] at hmem
      cases hmem
theorem getD_set_true {listed : Array Bool} {i : Nat} (hi : i < listed.size) (k : Nat) : (listed.setIfInBounds i true).getD k false = true ↔ (k = i ∨ listed.getD k false = true) := by
  rw [Array.getD_eq_getD_getElem?, Array.getD_eq_getD_getElem?, Array.getElem?_setIfInBounds]
  by_cases h : i = k
  · subst h; simp [hi]
  · rw [if_neg h]
    constructor
    · exact .inr
    · rintro (h' | h')
      · exact absurd h'.symm h
      · exact h'
theorem count_set {listed : Array Bool} {i : Nat} (hi : i < listed.size) (hf : listed.getD i true = false) : (listed.setIfInBounds i true).toList.count false + 1 = listed.toList.count false := by
  rw [Array.toList_setIfInBounds]
  have hl : listed.toList[i]? = some false := by
    rw [Array.getD_eq_getD_getElem?, Array.getElem?_eq_getElem hi] at hf
    simp only [Option.getD_some] at hf
    rw [Array.getElem?_toList, Array.getElem?_eq_getElem hi, hf]
  generalize listed.toList = l at hl
  clear hf hi
  induction l generalizing i with
  | nil => simp at hl
  | cons b l ih =>
    cases i with
    | zero => simp at hl; subst hl; simp
    | succ i =>
      simp only [List.getElem?_cons_succ] at hl
      have := ih hl
      simp only [List.set_cons_succ, List.count_cons]
      omega
theorem lin_go (ops : Array Oper) (hb : backB ops = true) : ∀ (fuel t : Nat) (listed : Array Bool), listed.size = ops.size → (listed.toList.count false ≤ fuel) → Lin ops (fun k => listed.getD k false = true) (Region.linearise.go .any ops fuel t listed []) := by
  intro fuel
  induction fuel with
  | zero =>
    intro t listed hsz hc
    simp only [Region.linearise.go, List.reverse_nil]
    refine .nil fun k hk => ?_
    have h0 : listed.toList.count false = 0 := by omega
    rw [List.count_eq_zero] at h0
    cases hl : listed.getD k false with
    | true => rfl
    | false =>
      exfalso
      rw [Array.getD_eq_getD_getElem?, Array.getElem?_eq_getElem (by omega)] at hl
      simp only [Option.getD_some] at hl
      exact h0 (by rw [← hl]; simp)
  | succ fuel ih =>
    intro t listed hsz hc
    simp only [Region.linearise.go]
    change Lin ops _ (match (Region.ready .any ops listed)[t % (Region.ready .any ops listed).length]? with
      | some i => Region.linearise.go .any ops fuel (t / (Region.ready .any ops listed).length) (listed.setIfInBounds i true) [i]
      | none => [].reverse)
    cases hi : (Region.ready .any ops listed)[t % (Region.ready .any ops listed).length]? with
    | none =>
      have hnil : Region.ready .any ops listed = [] := by
        cases hr : Region.ready .any ops listed with
        | nil => rfl
        | cons x xs =>
          rw [hr] at hi
          have hlt : t % (x :: xs).length < (x :: xs).length := Nat.mod_lt _ (by simp)
          simp at hi
          simp at hlt
          omega
      exact .nil (ready_nil hb hsz hnil)
    | some i =>
      simp only []
      rw [linearise_go_acc, List.reverse_singleton, List.singleton_append]
      obtain ⟨h1, h2, h3⟩ := mem_ready (List.mem_of_getElem? hi)
      have hlt : i < listed.size := by omega
      refine .cons ?_ h3 ?_
      · rw [Array.getD_eq_getD_getElem?, Array.getElem?_eq_getElem hlt] at h2 ⊢
        simp only [Option.getD_some] at h2 ⊢
        rw [h2]; simp
      · have := ih (t / (Region.ready .any ops listed).length) (listed.setIfInBounds i true) (by simpa using hsz) (by have := count_set hlt h2; omega)
        have e : (fun k => (listed.setIfInBounds i true).getD k false = true) = fun k => k = i ∨ listed.getD k false = true := funext fun k => propext (getD_set_true hlt k)
        rwa [e] at this
theorem lin_any (ops : Array Oper) (hb : backB ops = true) (t : Nat) : Lin ops (fun _ => False) (Region.linearise .any ops t) := by
  have := lin_go ops hb ops.size t (Array.replicate ops.size false) (by simp) (by simp)
  have e : (fun k => (Array.replicate ops.size false).getD k false = true) = fun _ => False := by
    funext k
    rw [Array.getD_eq_getD_getElem?, Array.getElem?_replicate]
    split <;> simp
  rw [e] at this
  exact this
end Ax

/- The abstract executor, regions that draw their order, 2: which registers an operation reads; kinds of operations. Printed by wip/tools/gendrw2.py. -/
namespace Ax
open Go

def X.reg : X → List Nat
  | .r k => [k]
  | .c _ => []
def xsReg (xs : List X) : List Nat := xs.flatMap X.reg
def oxReg : Option X → List Nat
  | some x => x.reg
  | none => []
def psReg (ps : List (Nat × Nat × X)) : List Nat := ps.flatMap fun p => p.2.2.reg

def COp.regs : COp → List Nat
  | .mv a0 => X.reg a0
  | .pick a0 a1 a2 => X.reg a0 ++ X.reg a1 ++ X.reg a2
  | .alloc _ _ => []
  | .box _ a1 => X.reg a1
  | .build _ a1 => psReg a1
  | .bslice _ _ _ _ a4 => psReg a4
  | .ld a0 => X.reg a0
  | .lda _ a1 => X.reg a1
  | .st _ a1 a2 => X.reg a1 ++ X.reg a2
  | .nilck a0 => X.reg a0
  | .bin _ a1 a2 => X.reg a1 ++ X.reg a2
  | .eq _ _ a2 a3 => X.reg a2 ++ X.reg a3
  | .un _ a1 => X.reg a1
  | .cvInt _ a1 => X.reg a1
  | .cvS a0 => X.reg a0
  | .cvUp _ a1 => X.reg a1
  | .cvDn _ _ a2 => X.reg a2
  | .cvBytes _ a1 => X.reg a1
  | .cvStr a0 => X.reg a0
  | .mkIf _ a1 => X.reg a1
  | .mkFn _ a1 => xsReg a1
  | .mkMap => []
  | .mkSl _ _ _ a3 a4 => X.reg a3 ++ X.reg a4
  | .slArr _ _ a2 a3 a4 a5 => X.reg a2 ++ oxReg a3 ++ oxReg a4 ++ oxReg a5
  | .slSl _ a1 a2 a3 a4 => X.reg a1 ++ oxReg a2 ++ oxReg a3 ++ oxReg a4
  | .slStr a0 a1 a2 => X.reg a0 ++ oxReg a1 ++ oxReg a2
  | .fadr _ a1 => X.reg a1
  | .fld _ _ a2 => X.reg a2
  | .ixArr _ _ a2 a3 => X.reg a2 ++ X.reg a3
  | .ixSl _ a1 a2 => X.reg a1 ++ X.reg a2
  | .idxArr _ _ _ a3 a4 => X.reg a3 ++ X.reg a4
  | .idxStr a0 a1 => X.reg a0 ++ X.reg a1
  | .lookup _ _ _ a3 a4 => X.reg a3 ++ X.reg a4
  | .mupd _ a1 a2 a3 => X.reg a1 ++ X.reg a2 ++ X.reg a3
  | .ment _ _ a2 a3 => X.reg a2 ++ X.reg a3
  | .mst a0 a1 a2 => X.reg a0 ++ X.reg a1 ++ X.reg a2
  | .rng a0 => X.reg a0
  | .nxt a0 => X.reg a0
  | .tas _ _ _ a3 => X.reg a3
  | .ext a0 _ => X.reg a0
  | .call _ a1 => xsReg a1
  | .callv a0 a1 => X.reg a0 ++ xsReg a1
  | .noesc a0 => X.reg a0
  | .ixByte a0 a1 => X.reg a0 ++ X.reg a1
  | .app _ _ a2 a3 => X.reg a2 ++ X.reg a3
  | .appZ _ _ _ a3 a4 => X.reg a3 ++ X.reg a4
  | .lenStr a0 => X.reg a0
  | .lenSl a0 => X.reg a0
  | .lenMap a0 => X.reg a0
  | .lenc _ => []
  | .cap a0 => X.reg a0
  | .copy _ a1 a2 => X.reg a1 ++ X.reg a2
  | .min a0 a1 => X.reg a0 ++ X.reg a1
  | .max a0 a1 => X.reg a0 ++ X.reg a1
  | .clear _ _ a2 => X.reg a2
  | .recover => []
  | .usd a0 => X.reg a0
  | .us _ a1 a2 => X.reg a1 ++ X.reg a2
  | .defer _ a1 => xsReg a1
  | .deferv a0 a1 => X.reg a0 ++ xsReg a1
  | .bad => []

section
variable {rs rs' : RF}
theorem val_congr {x : X} (h : ∀ k ∈ X.reg x, getR rs k = getR rs' k) : x.val rs = x.val rs' := by
  cases x with
  | r k => exact h k (by simp [X.reg])
  | c v => rfl
theorem vals_congr {xs : List X} (h : ∀ k ∈ xsReg xs, getR rs k = getR rs' k) : vals rs xs = vals rs' xs := by
  unfold vals
  refine List.map_congr_left fun x hx => val_congr fun k hk => h k ?_
  exact List.mem_flatMap.2 ⟨x, hx, hk⟩
theorem parts_congr {ps : List (Nat × Nat × X)} (h : ∀ k ∈ psReg ps, getR rs k = getR rs' k) : parts rs ps = parts rs' ps := by
  unfold parts
  refine List.map_congr_left fun p hp => ?_
  rw [val_congr (x := p.2.2) fun k hk => h k (List.mem_flatMap.2 ⟨p, hp, hk⟩)]
theorem bnd_congr {x : Option X} (h : ∀ k ∈ oxReg x, getR rs k = getR rs' k) : bnd rs x = bnd rs' x := by
  cases x with
  | none => rfl
  | some x => unfold bnd; simp only [val_congr (x := x) h]
theorem opSem_congr {o : COp} {h : H} (hr : ∀ k ∈ o.regs, getR rs k = getR rs' k) : opSem o rs h = opSem o rs' h := by
  cases o with
  | mv a0 => simp only [opSem, val_congr (rs := rs) (rs' := rs') (x := a0) (fun k hk => hr k (by simp [COp.regs, hk]))]
  | pick a0 a1 a2 => simp only [opSem, val_congr (rs := rs) (rs' := rs') (x := a0) (fun k hk => hr k (by simp [COp.regs, hk])), val_congr (rs := rs) (rs' := rs') (x := a1) (fun k hk => hr k (by simp [COp.regs, hk])), val_congr (rs := rs) (rs' := rs') (x := a2) (fun k hk => hr k (by simp [COp.regs, hk]))]
  | alloc a0 a1 => rfl
  | box a0 a1 => simp only [opSem, val_congr (rs := rs) (rs' := rs') (x := a1) (fun k hk => hr k (by simp [COp.regs, hk]))]
  | build a0 a1 => simp only [opSem, parts_congr (rs := rs) (rs' := rs') (ps := a1) (fun k hk => hr k (by simp [COp.regs, hk]))]
  | bslice a0 a1 a2 a3 a4 => simp only [opSem, parts_congr (rs := rs) (rs' := rs') (ps := a4) (fun k hk => hr k (by simp [COp.regs, hk]))]
  | ld a0 => simp only [opSem, val_congr (rs := rs) (rs' := rs') (x := a0) (fun k hk => hr k (by simp [COp.regs, hk]))]
  | lda a0 a1 => simp only [opSem, val_congr (rs := rs) (rs' := rs') (x := a1) (fun k hk => hr k (by simp [COp.regs, hk]))]
  | st a0 a1 a2 => simp only [opSem, val_congr (rs := rs) (rs' := rs') (x := a1) (fun k hk => hr k (by simp [COp.regs, hk])), val_congr (rs := rs) (rs' := rs') (x := a2) (fun k hk => hr k (by simp [COp.regs, hk]))]
  | nilck a0 => simp only [opSem, val_congr (rs := rs) (rs' := rs') (x := a0) (fun k hk => hr k (by simp [COp.regs, hk]))]
  | bin a0 a1 a2 => simp only [opSem, val_congr (rs := rs) (rs' := rs') (x := a1) (fun k hk => hr k (by simp [COp.regs, hk])), val_congr (rs := rs) (rs' := rs') (x := a2) (fun k hk => hr k (by simp [COp.regs, hk]))]
  | eq a0 a1 a2 a3 => simp only [opSem, val_congr (rs := rs) (rs' := rs') (x := a2) (fun k hk => hr k (by simp [COp.regs, hk])), val_congr (rs := rs) (rs' := rs') (x := a3) (fun k hk => hr k (by simp [COp.regs, hk]))]
  | un a0 a1 => simp only [opSem, val_congr (rs := rs) (rs' := rs') (x := a1) (fun k hk => hr k (by simp [COp.regs, hk]))]
  | cvInt a0 a1 => simp only [opSem, val_congr (rs := rs) (rs' := rs') (x := a1) (fun k hk => hr k (by simp [COp.regs, hk]))]
  | cvS a0 => simp only [opSem, val_congr (rs := rs) (rs' := rs') (x := a0) (fun k hk => hr k (by simp [COp.regs, hk]))]
  | cvUp a0 a1 => simp only [opSem, val_congr (rs := rs) (rs' := rs') (x := a1) (fun k hk => hr k (by simp [COp.regs, hk]))]
  | cvDn a0 a1 a2 => simp only [opSem, val_congr (rs := rs) (rs' := rs') (x := a2) (fun k hk => hr k (by simp [COp.regs, hk]))]
  | cvBytes a0 a1 => simp only [opSem, val_congr (rs := rs) (rs' := rs') (x := a1) (fun k hk => hr k (by simp [COp.regs, hk]))]
  | cvStr a0 => simp only [opSem, val_congr (rs := rs) (rs' := rs') (x := a0) (fun k hk => hr k (by simp [COp.regs, hk]))]
  | mkIf a0 a1 => simp only [opSem, val_congr (rs := rs) (rs' := rs') (x := a1) (fun k hk => hr k (by simp [COp.regs, hk]))]
  | mkFn a0 a1 => simp only [opSem, vals_congr (rs := rs) (rs' := rs') (xs := a1) (fun k hk => hr k (by simp [COp.regs, hk]))]
  | mkMap => rfl
  | mkSl a0 a1 a2 a3 a4 => simp only [opSem, val_congr (rs := rs) (rs' := rs') (x := a3) (fun k hk => hr k (by simp [COp.regs, hk])), val_congr (rs := rs) (rs' := rs') (x := a4) (fun k hk => hr k (by simp [COp.regs, hk]))]
  | slArr a0 a1 a2 a3 a4 a5 => simp only [opSem, val_congr (rs := rs) (rs' := rs') (x := a2) (fun k hk => hr k (by simp [COp.regs, hk])), bnd_congr (rs := rs) (rs' := rs') (x := a3) (fun k hk => hr k (by simp [COp.regs, hk])), bnd_congr (rs := rs) (rs' := rs') (x := a4) (fun k hk => hr k (by simp [COp.regs, hk])), bnd_congr (rs := rs) (rs' := rs') (x := a5) (fun k hk => hr k (by simp [COp.regs, hk]))]
  | slSl a0 a1 a2 a3 a4 => simp only [opSem, val_congr (rs := rs) (rs' := rs') (x := a1) (fun k hk => hr k (by simp [COp.regs, hk])), bnd_congr (rs := rs) (rs' := rs') (x := a2) (fun k hk => hr k (by simp [COp.regs, hk])), bnd_congr (rs := rs) (rs' := rs') (x := a3) (fun k hk => hr k (by simp [COp.regs, hk])), bnd_congr (rs := rs) (rs' := rs') (x := a4) (fun k hk => hr k (by simp [COp.regs, hk]))]
  | slStr a0 a1 a2 => simp only [opSem, val_congr (rs := rs) (rs' := rs') (x := a0) (fun k hk => hr k (by simp [COp.regs, hk])), bnd_congr (rs := rs) (rs' := rs') (x := a1) (fun k hk => hr k (by simp [COp.regs, hk])), bnd_congr (rs := rs) (rs' := rs') (x := a2) (fun k hk => hr k (by simp [COp.regs, hk]))]
  | fadr a0 a1 => simp only [opSem, val_congr (rs := rs) (rs' := rs') (x := a1) (fun k hk => hr k (by simp [COp.regs, hk]))]
  | fld a0 a1 a2 => simp only [opSem, val_congr (rs := rs) (rs' := rs') (x := a2) (fun k hk => hr k (by simp [COp.regs, hk]))]
  | ixArr a0 a1 a2 a3 => simp only [opSem, val_congr (rs := rs) (rs' := rs') (x := a2) (fun k hk => hr k (by simp [COp.regs, hk])), val_congr (rs := rs) (rs' := rs') (x := a3) (fun k hk => hr k (by simp [COp.regs, hk]))]
  | ixSl a0 a1 a2 => simp only [opSem, val_congr (rs := rs) (rs' := rs') (x := a1) (fun k hk => hr k (by simp [COp.regs, hk])), val_congr (rs := rs) (rs' := rs') (x := a2) (fun k hk => hr k (by simp [COp.regs, hk]))]
  | idxArr a0 a1 a2 a3 a4 => simp only [opSem, val_congr (rs := rs) (rs' := rs') (x := a3) (fun k hk => hr k (by simp [COp.regs, hk])), val_congr (rs := rs) (rs' := rs') (x := a4) (fun k hk => hr k (by simp [COp.regs, hk]))]
  | idxStr a0 a1 => simp only [opSem, val_congr (rs := rs) (rs' := rs') (x := a0) (fun k hk => hr k (by simp [COp.regs, hk])), val_congr (rs := rs) (rs' := rs') (x := a1) (fun k hk => hr k (by simp [COp.regs, hk]))]
  | lookup a0 a1 a2 a3 a4 => simp only [opSem, val_congr (rs := rs) (rs' := rs') (x := a3) (fun k hk => hr k (by simp [COp.regs, hk])), val_congr (rs := rs) (rs' := rs') (x := a4) (fun k hk => hr k (by simp [COp.regs, hk]))]
  | mupd a0 a1 a2 a3 => simp only [opSem, val_congr (rs := rs) (rs' := rs') (x := a1) (fun k hk => hr k (by simp [COp.regs, hk])), val_congr (rs := rs) (rs' := rs') (x := a2) (fun k hk => hr k (by simp [COp.regs, hk])), val_congr (rs := rs) (rs' := rs') (x := a3) (fun k hk => hr k (by simp [COp.regs, hk]))]
  | ment a0 a1 a2 a3 => simp only [opSem, val_congr (rs := rs) (rs' := rs') (x := a2) (fun k hk => hr k (by simp [COp.regs, hk])), val_congr (rs := rs) (rs' := rs') (x := a3) (fun k hk => hr k (by simp [COp.regs, hk]))]
  | mst a0 a1 a2 => simp only [opSem, val_congr (rs := rs) (rs' := rs') (x := a0) (fun k hk => hr k (by simp [COp.regs, hk])), val_congr (rs := rs) (rs' := rs') (x := a1) (fun k hk => hr k (by simp [COp.regs, hk])), val_congr (rs := rs) (rs' := rs') (x := a2) (fun k hk => hr k (by simp [COp.regs, hk]))]
  | rng a0 => simp only [opSem, val_congr (rs := rs) (rs' := rs') (x := a0) (fun k hk => hr k (by simp [COp.regs, hk]))]
  | nxt a0 => simp only [opSem, val_congr (rs := rs) (rs' := rs') (x := a0) (fun k hk => hr k (by simp [COp.regs, hk]))]
  | tas a0 a1 a2 a3 => simp only [opSem, val_congr (rs := rs) (rs' := rs') (x := a3) (fun k hk => hr k (by simp [COp.regs, hk]))]
  | ext a0 a1 => simp only [opSem, val_congr (rs := rs) (rs' := rs') (x := a0) (fun k hk => hr k (by simp [COp.regs, hk]))]
  | call a0 a1 => simp only [opSem, vals_congr (rs := rs) (rs' := rs') (xs := a1) (fun k hk => hr k (by simp [COp.regs, hk]))]
  | callv a0 a1 => simp only [opSem, val_congr (rs := rs) (rs' := rs') (x := a0) (fun k hk => hr k (by simp [COp.regs, hk])), vals_congr (rs := rs) (rs' := rs') (xs := a1) (fun k hk => hr k (by simp [COp.regs, hk]))]
  | noesc a0 => simp only [opSem, val_congr (rs := rs) (rs' := rs') (x := a0) (fun k hk => hr k (by simp [COp.regs, hk]))]
  | ixByte a0 a1 => simp only [opSem, val_congr (rs := rs) (rs' := rs') (x := a0) (fun k hk => hr k (by simp [COp.regs, hk])), val_congr (rs := rs) (rs' := rs') (x := a1) (fun k hk => hr k (by simp [COp.regs, hk]))]
  | app a0 a1 a2 a3 => simp only [opSem, val_congr (rs := rs) (rs' := rs') (x := a2) (fun k hk => hr k (by simp [COp.regs, hk])), val_congr (rs := rs) (rs' := rs') (x := a3) (fun k hk => hr k (by simp [COp.regs, hk]))]
  | appZ a0 a1 a2 a3 a4 => simp only [opSem, val_congr (rs := rs) (rs' := rs') (x := a3) (fun k hk => hr k (by simp [COp.regs, hk])), val_congr (rs := rs) (rs' := rs') (x := a4) (fun k hk => hr k (by simp [COp.regs, hk]))]
  | lenStr a0 => simp only [opSem, val_congr (rs := rs) (rs' := rs') (x := a0) (fun k hk => hr k (by simp [COp.regs, hk]))]
  | lenSl a0 => simp only [opSem, val_congr (rs := rs) (rs' := rs') (x := a0) (fun k hk => hr k (by simp [COp.regs, hk]))]
  | lenMap a0 => simp only [opSem, val_congr (rs := rs) (rs' := rs') (x := a0) (fun k hk => hr k (by simp [COp.regs, hk]))]
  | lenc a0 => rfl
  | cap a0 => simp only [opSem, val_congr (rs := rs) (rs' := rs') (x := a0) (fun k hk => hr k (by simp [COp.regs, hk]))]
  | copy a0 a1 a2 => simp only [opSem, val_congr (rs := rs) (rs' := rs') (x := a1) (fun k hk => hr k (by simp [COp.regs, hk])), val_congr (rs := rs) (rs' := rs') (x := a2) (fun k hk => hr k (by simp [COp.regs, hk]))]
  | min a0 a1 => simp only [opSem, val_congr (rs := rs) (rs' := rs') (x := a0) (fun k hk => hr k (by simp [COp.regs, hk])), val_congr (rs := rs) (rs' := rs') (x := a1) (fun k hk => hr k (by simp [COp.regs, hk]))]
  | max a0 a1 => simp only [opSem, val_congr (rs := rs) (rs' := rs') (x := a0) (fun k hk => hr k (by simp [COp.regs, hk])), val_congr (rs := rs) (rs' := rs') (x := a1) (fun k hk => hr k (by simp [COp.regs, hk]))]
  | clear a0 a1 a2 => simp only [opSem, val_congr (rs := rs) (rs' := rs') (x := a2) (fun k hk => hr k (by simp [COp.regs, hk]))]
  | recover => rfl
  | usd a0 => simp only [opSem, val_congr (rs := rs) (rs' := rs') (x := a0) (fun k hk => hr k (by simp [COp.regs, hk]))]
  | us a0 a1 a2 => simp only [opSem, val_congr (rs := rs) (rs' := rs') (x := a1) (fun k hk => hr k (by simp [COp.regs, hk])), val_congr (rs := rs) (rs' := rs') (x := a2) (fun k hk => hr k (by simp [COp.regs, hk]))]
  | defer a0 a1 => simp only [opSem, vals_congr (rs := rs) (rs' := rs') (xs := a1) (fun k hk => hr k (by simp [COp.regs, hk]))]
  | deferv a0 a1 => simp only [opSem, val_congr (rs := rs) (rs' := rs') (x := a0) (fun k hk => hr k (by simp [COp.regs, hk])), vals_congr (rs := rs) (rs' := rs') (xs := a1) (fun k hk => hr k (by simp [COp.regs, hk]))]
  | bad => rfl

def CI.regs (c : CI) : List Nat := c.op.regs ++ (match c.g with | some (r, _) => [r] | none => [])
theorem wantR_congr {c : CI} (hr : ∀ k ∈ c.regs, getR rs k = getR rs' k) : wantR rs c.g = wantR rs' c.g := by
  cases hg : c.g with
  | none => rfl
  | some p =>
    obtain ⟨r, w⟩ := p
    unfold wantR
    simp only
    rw [hr r (by simp [CI.regs, hg])]
end

/-- It makes a value, and leaves the heap alone. -/
def COp.pure : COp → Bool
  | .mv .. | .pick .. | .build .. | .ld .. | .lda .. | .nilck .. | .bin .. | .eq .. | .un .. | .cvInt .. | .cvS .. | .cvUp .. | .cvDn .. | .cvStr .. | .mkIf .. | .mkFn .. | .slArr .. | .slSl .. | .slStr .. | .fadr .. | .fld .. | .ixArr .. | .ixSl .. | .idxArr .. | .idxStr .. | .lookup .. | .tas .. | .ext .. | .noesc .. | .ixByte .. | .lenStr .. | .lenSl .. | .lenMap .. | .lenc .. | .cap .. | .min .. | .max .. | .usd .. => true
  | _ => false
/-- It does not even look at the heap. -/
def COp.blind : COp → Bool
  | .mv .. | .pick .. | .build .. | .nilck .. | .bin .. | .eq .. | .un .. | .cvInt .. | .cvS .. | .mkIf .. | .mkFn .. | .slArr .. | .slStr .. | .fadr .. | .fld .. | .ixArr .. | .ixSl .. | .idxArr .. | .idxStr .. | .tas .. | .ext .. | .noesc .. | .ixByte .. | .lenStr .. | .lenSl .. | .lenc .. | .cap .. | .min .. | .max .. | .usd .. => true
  | _ => false
/-- It makes one new block, and looks at nothing. -/
def COp.soft : COp → Bool
  | .alloc .. | .box .. | .bslice .. | .mkMap | .mkSl .. => true
  | _ => false
/-- No call is put off, and none is recovered. -/
def COp.plain : COp → Bool
  | .defer .. | .deferv .. | .recover => false
  | _ => true

end Ax

/- The abstract executor, regions that draw their order, 3: what the kinds of operations do. -/
namespace Ax
open Go

theorem ret_or {h : H} {o : Option V} {or : OR} (hs : ret h o = some or) : ∃ v, or = .val v h := by
  unfold ret at hs
  split at hs
  · rename_i v; cases hs; exact ⟨v, rfl⟩
  · cases hs
theorem ret_blind {h h' : H} {o : Option V} {v : V} (hs : ret h o = some (.val v h)) : ret h' o = some (.val v h') := by
  unfold ret at hs ⊢
  split at hs
  · cases hs; rfl
  · cases hs
theorem ret_some {h : H} {o : Option V} {or : OR} (hs : ret h o = some or) : ∃ v, o = some v ∧ or = .val v h := by
  unfold ret at hs
  split at hs
  · rename_i v; cases hs; exact ⟨v, rfl, rfl⟩
  · cases hs
set_option maxHeartbeats 4000000 in
theorem pure_sem {o : COp} (hp : o.pure = true) {rs : RF} {h : H} {or : OR} (hs : opSem o rs h = some or) : ∃ v, or = .val v h := by
  cases o <;> simp only [COp.pure, Bool.false_eq_true] at hp <;> simp only [opSem] at hs
  all_goals first
    | (cases hs; exact ⟨_, rfl⟩)
    | exact ret_or hs
    | (repeat' split at hs
       all_goals first
         | (cases hs; done)
         | (cases hs; exact ⟨_, rfl⟩)
         | exact ret_or hs)
set_option maxHeartbeats 4000000 in
theorem blind_sem {o : COp} (hp : o.blind = true) {rs : RF} {h : H} {v : V} (hs : opSem o rs h = some (.val v h)) (h' : H) : opSem o rs h' = some (.val v h') := by
  cases o <;> simp only [COp.blind, Bool.false_eq_true] at hp <;> simp only [opSem] at hs ⊢
  all_goals first
    | (cases hs; rfl)
    | exact ret_blind hs
    | (repeat' split at hs
       all_goals first
         | (cases hs; done)
         | exact ret_blind hs
         | (cases hs; simp_all; done)
         | (simp_all; exact ret_blind hs))
theorem blind_pure {o : COp} (h : o.blind = true) : o.pure = true := by cases o <;> simp_all [COp.blind, COp.pure]
set_option maxHeartbeats 4000000 in
theorem soft_sem {o : COp} (hp : o.soft = true) {rs : RF} {h : H} {or : OR} (hs : opSem o rs h = some or) :
    ∃ v ob, or = .val v (h.new ob) ∧ ∀ h' : H, h'.next = h.next → opSem o rs h' = some (.val v (h'.new ob)) := by
  cases o <;> simp only [COp.soft, Bool.false_eq_true] at hp <;> simp only [opSem, newCells] at hs ⊢
  all_goals first
    | (cases hs; exact ⟨_, _, rfl, fun h' e => by rw [e]⟩)
    | (repeat' split at hs
       all_goals first
         | (cases hs; done)
         | (cases hs; refine ⟨_, _, rfl, fun h' e => ?_⟩; simp_all; done))
end Ax

/- The abstract executor, regions that draw their order, 4: the order in which they are worked out, and what holds of it. -/
namespace Ax
open Go

theorem veqL_eq {a b : V} (h : veqL a b = true) : a = b := by
  unfold veqL at h
  split at h <;> simp_all
theorem veqLs_eq : ∀ {a b : List V}, veqLs a b = true → a = b
  | [], [], _ => rfl
  | a :: r, b :: q, h => by
    simp only [veqLs, Bool.and_eq_true] at h
    rw [veqL_eq h.1, veqLs_eq h.2]
  | [], _ :: _, h => by cases h
  | _ :: _, [], h => by cases h
theorem veqM_eq {a b : V} (h : veqM a b = true) : a = b := by
  unfold veqM at h
  split at h
  · simp only [Bool.and_eq_true] at h
    rw [Nat.eq_of_beq_eq_true h.1, veqL_eq h.2]
  · simp only [Bool.and_eq_true] at h
    rw [Nat.eq_of_beq_eq_true h.1, veqLs_eq h.2]
  · exact veqL_eq h
theorem veqMs_eq : ∀ {a b : List V}, veqMs a b = true → a = b
  | [], [], _ => rfl
  | a :: r, b :: q, h => by
    simp only [veqMs, Bool.and_eq_true] at h
    rw [veqM_eq h.1, veqMs_eq h.2]
  | [], _ :: _, h => by cases h
  | _ :: _, [], h => by cases h
theorem veq_eq {a b : V} (h : veq a b = true) : a = b := by
  unfold veq at h
  split at h
  · rw [veqMs_eq h]
  · rw [veqMs_eq h]
  · exact veqM_eq h

theorem plain_sem {o : COp} (hp : o.plain = true) {rs : RF} {h : H} : (∀ f a, opSem o rs h ≠ some (.defer f a)) ∧ opSem o rs h ≠ some .rcv := by
  have key : ∀ or, opSem o rs h = some or → (∃ v h', or = .val v h') ∨ (∃ f a, or = .call f a) ∨ (∃ f a, or = .ycall f a) := by
    intro or hs
    cases o <;> simp only [COp.plain, Bool.false_eq_true] at hp <;> simp only [opSem] at hs
    all_goals first
      | (cases hs; exact .inl ⟨_, _, rfl⟩)
      | (cases hs; exact .inr (.inl ⟨_, _, rfl⟩))
      | exact .inl (let ⟨v, e⟩ := ret_or hs; ⟨v, _, e⟩)
      | (repeat' split at hs
         all_goals first
           | (cases hs; done)
           | (cases hs; exact .inl ⟨_, _, rfl⟩)
           | (cases hs; exact .inr (.inl ⟨_, _, rfl⟩))
           | (cases hs; exact .inr (.inr ⟨_, _, rfl⟩))
           | exact .inl (let ⟨v, e⟩ := ret_or hs; ⟨v, _, e⟩))
  constructor
  · intro f a hh
    rcases key _ hh with ⟨_, _, e⟩ | ⟨_, _, e⟩ | ⟨_, _, e⟩ <;> cases e
  · intro hh
    rcases key _ hh with ⟨_, _, e⟩ | ⟨_, _, e⟩ | ⟨_, _, e⟩ <;> cases e
theorem ciGo_eq {x : Cx} {c : CI} (hp : c.op.plain = true) (s : St) : ciGo x c s = (ciV x c s.rs s.h).map fun p => ⟨setR s.rs c.dst p.1, p.2, s.ds⟩ := by
  obtain ⟨h1, h2⟩ := plain_sem hp (rs := s.rs) (h := s.h)
  unfold ciGo ciV
  cases wantR s.rs c.g with
  | none => rfl
  | some t =>
    cases t with
    | false => rfl
    | true =>
      simp only
      cases ho : opSem c.op s.rs s.h with
      | none => rfl
      | some or =>
        cases or with
        | val v h => rfl
        | call f a => simp only; cases x.call f a s.h <;> rfl
        | ycall f a => simp only; cases x.round f a s.h <;> rfl
        | defer f a => exact absurd ho (h1 f a)
        | rcv => exact absurd ho h2
theorem ciV_congr {x : Cx} {c : CI} {rs rs' : RF} (h : ∀ k ∈ c.regs, getR rs k = getR rs' k) (hh : H) : ciV x c rs hh = ciV x c rs' hh := by
  unfold ciV
  rw [wantR_congr h, opSem_congr fun k hk => h k (by simp [CI.regs, hk])]
/-- 0: it only looks; 1: it does something; 2: it makes one new block. -/
def CI.kd (c : CI) : Nat := if c.op.pure then 0 else if c.op.soft && c.g.isNone then 2 else 1
theorem pure_ciV {x : Cx} {c : CI} (hk : c.kd = 0) {rs : RF} {h h' : H} {v : V} (hs : ciV x c rs h = some (v, h')) : h' = h := by
  have hp : c.op.pure = true := by
    unfold CI.kd at hk
    split at hk
    · assumption
    · split at hk <;> cases hk
  unfold ciV at hs
  split at hs
  · split at hs
    · rename_i ho
      obtain ⟨v', e⟩ := pure_sem hp ho
      cases e; cases hs; rfl
    · rename_i ho
      obtain ⟨v', e⟩ := pure_sem hp ho
      cases e
    · rename_i ho
      obtain ⟨v', e⟩ := pure_sem hp ho
      cases e
    · cases hs
  · cases hs; rfl
  · cases hs
theorem blind_ciV {x : Cx} {c : CI} (hb : c.op.blind = true) {rs : RF} {h : H} {v : V} (hs : ciV x c rs h = some (v, h)) (h' : H) : ciV x c rs h' = some (v, h') := by
  unfold ciV at hs ⊢
  split at hs
  · split at hs
    · rename_i ho
      cases hs
      rw [blind_sem hb ho h']
    · rename_i ho
      obtain ⟨v', e⟩ := pure_sem (blind_pure hb) ho
      cases e
    · rename_i ho
      obtain ⟨v', e⟩ := pure_sem (blind_pure hb) ho
      cases e
    · cases hs
  · cases hs; rfl
  · cases hs
theorem soft_ciV {x : Cx} {c : CI} (hk : c.kd = 2) {rs : RF} {h h2 : H} {v : V} (hs : ciV x c rs h = some (v, h2)) : ∃ ob, h2 = h.new ob ∧ ∀ h' : H, h'.next = h.next → ciV x c rs h' = some (v, h'.new ob) := by
  have hp : c.op.soft = true ∧ c.g = none := by
    unfold CI.kd at hk
    split at hk
    · cases hk
    · split at hk
      · rename_i h; simpa using h
      · cases hk
  unfold ciV at hs ⊢
  rw [hp.2] at hs ⊢
  simp only [wantR] at hs ⊢
  split at hs
  · rename_i ho
    cases hs
    obtain ⟨v', ob, e, hall⟩ := soft_sem hp.1 ho
    cases e
    exact ⟨ob, rfl, fun h' hn => by rw [hall h' hn]⟩
  · rename_i ho
    obtain ⟨v', ob, e, hall⟩ := soft_sem hp.1 ho
    cases e
  · rename_i ho
    obtain ⟨v', ob, e, hall⟩ := soft_sem hp.1 ho
    cases e
  · cases hs

/-! What is looked at once. -/
section plan
variable (c : Nat → CI)
def ent (i : Nat) : CI × Bool := (c i, Nat.ble 1 (c i).kd)
def effs (ord : List Nat) : List Nat := ord.filter fun i => Nat.ble 1 (c i).kd
def noDst (r : Nat) (l : List Nat) : Bool := l.all fun j => match (c j).dst with | some d => !Nat.beq d r | none => true
def tmpOK : List Nat → Bool
  | [] => true
  | i :: tl => (c i).op.plain && (match (c i).dst with | some d => Nat.blt d 256 && noDst c d tl | none => true) && tmpOK tl
/-- What comes ahead of an operation, in the order that was chosen. -/
def pri (ord : List Nat) (i : Nat) : List Nat := ord.takeWhile fun j => !Nat.beq j i
/-- Is a register written ahead of an operation? -/
def early (ord : List Nat) (i r : Nat) : Bool := (pri ord i).any fun j => match (c j).dst with | some d => Nat.beq d r | none => false
/-- The registers as an operation is to see them. -/
def Vw (ord : List Nat) (rs0 rsF rs : RF) (i : Nat) : Prop := ∀ r ∈ (c i).regs, getR rs r = if early c ord i r then getR rsF r else getR rs0 r
end plan

theorem noDst_of {c : Nat → CI} {r : Nat} {l : List Nat} (h : noDst c r l = true) : ∀ i ∈ l, (c i).dst ≠ some r := by
  intro i hi hd
  have := List.all_eq_true.1 h i hi
  rw [hd] at this
  simp at this

/-- The value that an operation made is what the register holds in the end. -/
def DstIs (c : CI) (rs : RF) (v : V) : Prop := ∀ d, c.dst = some d → getR rs d = v

theorem pri_split {l tl : List Nat} {i : Nat} (h : i ∉ l) : pri (l ++ i :: tl) i = l := by
  unfold pri
  induction l with
  | nil => simp
  | cons a l ih =>
    have hne : a ≠ i := fun e => h (by rw [e]; exact .head _)
    have hb : Nat.beq a i = false := by
      cases hh : Nat.beq a i with
      | false => rfl
      | true => exact absurd (Nat.eq_of_beq_eq_true hh) hne
    rw [List.cons_append, List.takeWhile_cons, hb]
    simp only [Bool.not_false, if_true]
    rw [ih fun hm => h (.tail _ hm)]
theorem early_of {c : Nat → CI} {l tl : List Nat} {i r : Nat} (h : i ∉ l) : early c (l ++ i :: tl) i r = true ↔ ∃ j ∈ l, (c j).dst = some r := by
  unfold early
  rw [pri_split h, List.any_eq_true]
  constructor
  · rintro ⟨j, hj, hd⟩
    refine ⟨j, hj, ?_⟩
    split at hd
    · rename_i d e; rw [e, Nat.eq_of_beq_eq_true hd]
    · cases hd
  · rintro ⟨j, hj, hd⟩
    exact ⟨j, hj, by rw [hd]; simp⟩

theorem dGo_canon {x : Cx} {c : Nat → CI} {rs0 : RF} : ∀ {ord seen : List Nat} {s sf : St} {hs : List H}, (seen ++ ord).Nodup → tmpOK c ord = true → (∀ d, ∀ i ∈ seen, (c i).dst = some d → noDst c d ord = true) →
    (∀ k, (∀ i ∈ seen, (c i).dst ≠ some k) → getR s.rs k = getR rs0 k) → dGo x (ord.map (ent c)) s = some (sf, hs) →
    sf.ds = s.ds ∧ (∀ k, (∀ i ∈ ord, (c i).dst ≠ some k) → getR sf.rs k = getR s.rs k) ∧ hs.length = (effs c ord).length + 1 ∧ hs[0]? = some s.h ∧ hs[(effs c ord).length]? = some sf.h ∧
    (∀ (q i : Nat), (effs c ord)[q]? = some i → ∃ (v : V) (h1 h2 : H), hs[q]? = some h1 ∧ hs[q + 1]? = some h2 ∧ (∀ rs, Vw c (seen ++ ord) rs0 sf.rs rs i → ciV x (c i) rs h1 = some (v, h2)) ∧ DstIs (c i) sf.rs v) ∧
    (∀ i ∈ ord, (c i).kd = 0 → ∃ (v : V) (q : Nat) (h1 : H), q + (effs c seen).length = (effs c (pri (seen ++ ord) i)).length ∧ hs[q]? = some h1 ∧ (∀ rs, Vw c (seen ++ ord) rs0 sf.rs rs i → ciV x (c i) rs h1 = some (v, h1)) ∧ DstIs (c i) sf.rs v)
  | [], seen, s, sf, hs, _, _, _, _, h => by
    simp only [List.map_nil, dGo, Option.some.injEq, Prod.mk.injEq] at h
    obtain ⟨rfl, rfl⟩ := h
    exact ⟨rfl, fun _ _ => rfl, rfl, rfl, rfl, fun q i hq => by simp [effs] at hq, fun i hi => by cases hi⟩
  | i :: ord, seen, s, sf, hs, hnd, ht, hsn, h0, h => by
    have ht0 := ht
    simp only [tmpOK, Bool.and_eq_true] at ht
    obtain ⟨⟨hp, hd⟩, ht⟩ := ht
    have hni : i ∉ seen := fun hm => (List.nodup_append.1 hnd).2.2 i hm i (.head _) rfl
    simp only [List.map_cons, dGo, ent] at h
    split at h
    · rename_i s1 h1
      split at h
      · rename_i sf' hs' h2
        simp only [Option.some.injEq, Prod.mk.injEq] at h
        obtain ⟨rfl, rfl⟩ := h
        rw [ciGo_eq hp, Option.map_eq_some_iff] at h1
        obtain ⟨⟨v, h'⟩, hv, rfl⟩ := h1
        have hset : ∀ k, (c i).dst ≠ some k → getR (setR s.rs (c i).dst v) k = getR s.rs k := by
          intro k hk
          cases hdi : (c i).dst with
          | none => rfl
          | some d =>
            have hne : k ≠ d := fun e => hk (by rw [hdi, e])
            simp only [setR]
            rw [hdi] at hd
            simp only [Bool.and_eq_true] at hd
            rw [getR_set _ (Nat.lt_of_succ_le (by simpa [Nat.blt] using hd.1)), if_neg hne]
        have eapp : seen ++ i :: ord = (seen ++ [i]) ++ ord := by simp
        obtain ⟨e1, e2, e3, e4, e5, e6, e7⟩ := dGo_canon (c := c) (rs0 := rs0) (seen := seen ++ [i]) (by rw [← eapp]; exact hnd) ht
          (by
            intro d j hj hdj
            rcases List.mem_append.1 hj with hj | hj
            · have := hsn d j hj hdj
              unfold noDst at this ⊢
              rw [List.all_cons, Bool.and_eq_true] at this
              exact this.2
            · rw [List.mem_singleton] at hj
              subst hj
              rw [hdj] at hd
              simp only [Bool.and_eq_true] at hd
              exact hd.2)
          (by
            intro k hk
            simp only
            rw [hset k (hk i (by simp))]
            exact h0 k fun j hj => hk j (List.mem_append.2 (.inl hj))) h2
        simp only at e1 e2 e4
        rw [← eapp] at e6 e7
        have keep : ∀ k, (∀ j ∈ i :: ord, (c j).dst ≠ some k) → getR sf'.rs k = getR s.rs k := by
          intro k hk
          rw [e2 k fun j hj => hk j (.tail _ hj)]
          exact hset k (hk i (.head _))
        have hdst : DstIs (c i) sf'.rs v := by
          intro d hdi
          rw [hdi] at hd
          simp only [Bool.and_eq_true] at hd
          rw [e2 d (noDst_of hd.2), hdi]
          simp only [setR]
          rw [getR_set _ (Nat.lt_of_succ_le (by simpa [Nat.blt] using hd.1)), if_pos rfl]
        have hcv : ∀ rs, Vw c (seen ++ i :: ord) rs0 sf'.rs rs i → ciV x (c i) rs s.h = some (v, h') := by
          intro rs hvw
          rw [← hv]
          refine ciV_congr (fun r hr => ?_) _
          rw [hvw r hr]
          by_cases he : early c (seen ++ i :: ord) i r = true
          · rw [if_pos he]
            obtain ⟨j, hj, hdj⟩ := (early_of hni).1 he
            exact keep r (noDst_of (hsn r j hj hdj))
          · rw [if_neg he]
            exact (h0 r fun j hj hdj => he ((early_of hni).2 ⟨j, hj, hdj⟩)).symm
        cases hb : Nat.ble 1 (c i).kd with
        | true =>
          have hE : effs c (i :: ord) = i :: effs c ord := by simp [effs, hb]
          simp only [if_true]
          rw [hE]
          refine ⟨e1, keep, by simp [e3], rfl, by simpa using e5, ?_, ?_⟩
          · intro q j hq
            cases q with
            | zero =>
              simp only [List.getElem?_cons_zero, Option.some.injEq] at hq
              subst hq
              exact ⟨v, s.h, h', rfl, by simpa using e4, hcv, hdst⟩
            | succ q => exact e6 q j (by simpa using hq)
          · intro j hj hk
            rcases List.mem_cons.1 hj with rfl | hj
            · rw [hk] at hb; cases hb
            · obtain ⟨v', q, h1, a0, a1, a2, a3⟩ := e7 j hj hk
              have e : (effs c (seen ++ [i])).length = (effs c seen).length + 1 := by simp [effs, List.filter_append, hb]
              exact ⟨v', q + 1, h1, by omega, by simpa using a1, a2, a3⟩
        | false =>
          have hE : effs c (i :: ord) = effs c ord := by simp [effs, hb]
          simp only [Bool.false_eq_true, if_false]
          rw [hE]
          have hk0 : (c i).kd = 0 := by
            cases hk : (c i).kd with
            | zero => rfl
            | succ n =>
              have h1 : Nat.ble 1 (n + 1) = true := by rw [Nat.ble_eq]; omega
              rw [hk, h1] at hb; cases hb
          have hh : h' = s.h := pure_ciV hk0 hv
          subst hh
          refine ⟨e1, keep, e3, e4, e5, e6, ?_⟩
          intro j hj hk
          rcases List.mem_cons.1 hj with rfl | hj
          · exact ⟨v, 0, s.h, by rw [pri_split hni, Nat.zero_add], e4, hcv, hdst⟩
          · obtain ⟨v', q, h1, a0, a1, a2, a3⟩ := e7 j hj hk
            have e : (effs c (seen ++ [i])).length = (effs c seen).length := by simp [effs, List.filter_append, hb]
            exact ⟨v', q, h1, by omega, a1, a2, a3⟩
      · cases h
    · cases h

theorem dVal_ciV (x : Cx) {c : CI} {rs : RF} {h : H} {v : V} (hv : dVal c rs h = some v) : ∃ h', ciV x c rs h = some (v, h') := by
  unfold dVal at hv
  unfold ciV
  split at hv
  · split at hv
    · rename_i h' ho
      cases hv
      exact ⟨h', by rw [ho]⟩
    · cases hv
  · cases hv; exact ⟨h, rfl⟩
  · cases hv
theorem dChk1_all (x : Cx) {rs : RF} {c : CI} : ∀ {n : Nat} {hs : List H}, dChk1 rs c n hs = true → ∀ j, j < n → ∃ h v h', hs[j]? = some h ∧ ciV x c rs h = some (v, h') ∧ DstIs c rs v
  | 0, _, _, j, hj => by omega
  | n + 1, [], h, _, _ => by cases h
  | n + 1, h :: hs, hc, j, hj => by
    simp only [dChk1] at hc
    split at hc
    · rename_i v hv
      simp only [Bool.and_eq_true] at hc
      cases j with
      | zero =>
        obtain ⟨h', hv⟩ := dVal_ciV x hv
        refine ⟨h, v, h', rfl, hv, fun d hd => ?_⟩
        rw [hd] at hc
        exact veq_eq hc.1
      | succ j =>
        obtain ⟨h1, v1, h2, a, b⟩ := dChk1_all x hc.2 j (by omega)
        exact ⟨h1, v1, h2, by simpa using a, b⟩
    · cases hc
theorem dChk_all {rs : RF} {hs : List H} : ∀ {l : List (CI × Nat × Nat)}, dChk rs hs l = true → ∀ c lo n, (c, lo, n) ∈ l → dChk1 rs c n (hs.drop lo) = true
  | [], _, _, _, _, hm => by cases hm
  | (c', lo', n') :: l, h, c, lo, n, hm => by
    simp only [dChk, Bool.and_eq_true] at h
    rcases List.mem_cons.1 hm with e | hm
    · cases e; exact h.1
    · exact dChk_all h.2 c lo n hm
end Ax
