/- The abstract executor, part 19: regions are what their compiled forms do. -/
import Derived.Test.YtapplfjimaghbaaGreatAx4
set_option linter.all false
namespace Ax
open Go

/-- The frozen package-level variables. -/
def GOK (C : Fix) (g : Gh) : Prop := ∀ k cs, C.G k = some cs → ∃ arr, g.F k = some arr ∧ VRs g cs ((arr.toList.drop 0).take cs.length)
theorem GOK.mono {C : Fix} {g g' : Gh} (h : GOK C g) (hg : g.le g') : GOK C g' := fun k cs hk => let ⟨a, h1, h2⟩ := h k cs hk; ⟨a, hg.F _ _ h1, h2.mono hg⟩

/-- Deferred calls: the abstract ones, with marks of loops between. n0: the blocks from there on are this activation's. -/
inductive DefR (n0 : Nat) (g : Gh) (h : H) (w : World) : List (Nat × List V) → List Deferred → Prop
  | nil : DefR n0 g h w [] []
  | call {f : Nat} {vs : List V} {xs caps : List Value} {ds : List (Nat × List V)} {l : List Deferred} (hv : VRs g vs (xs ++ caps)) (hd : DefR n0 g h w ds l) :
      DefR n0 g h w ((f, vs) :: ds) ({ target := .fn (.func f) caps.toArray, args := xs.toArray } :: l)
  | mark {r : Nat} {ds : List (Nat × List V)} {l : List Deferred} (hr : n0 ≤ r) (hb : w.heap[r]? = some (.deferred (some []))) (hf : ∀ id o e, h.get id = some o → g.φ id = some e → e.blk ≠ r) (hF : g.F r = none)
      (hlt : ∀ d ∈ l, ∀ r', d.target = .collected r' → r' < r) (hd : DefR n0 g h w ds l) : DefR n0 g h w ds ({ target := .collected r, args := #[] } :: l)
theorem DefR.ext {n0 : Nat} {g g' : Gh} {h h' : H} {w w' : World} (e : Ext g h w g' h' w') {ds : List (Nat × List V)} {l : List Deferred} (hd : DefR n0 g h w ds l) : DefR n0 g' h' w' ds l := by
  induction hd with
  | nil => exact .nil
  | call hv _ ih => exact .call (hv.mono e.le) ih
  | mark hr hb hf hF hlt' _ ih =>
    have hlt := (Array.getElem?_eq_some_iff.1 hb).1
    obtain ⟨e1, e2, e3⟩ := e.free _ hlt hf
    exact .mark hr (by rw [e1]; exact hb) e2 (e3 hF) hlt' ih

section
variable (C : Fix) (Q : Nat → CC → Code → Prop)
structure StR (n0 : Nat) (g : Gh) (s : St) (a : Act) (w : World) : Prop where
  rs : RR C.n g s.rs a.tmps
  rel : Rel Q g s.h w
  ds : DefR n0 g s.h w s.ds a.defers
  gl : GOK C g
  sz : n0 ≤ w.heap.size

/-- Which ways a function is entered: plainly, or as a deferred call of an activation that returns. -/
def KindOK (k : CallKind) (cs : List Frame) : Prop := k = .normal ∨ (k = .deferred ∧ ∃ c cs', cs = c :: cs' ∧ c.mode = .returning)

def CallOK (call : Fun) : Prop := ∀ f args h v h', call f args h = some (v, h') → ∀ (g : Gh) (w : World) (xs : List Value), GOK C g → Rel Q g h w → VRs g args xs → Fresh g h.next h'.next → (callFunc f xs.toArray).run C.P w = .ok (.enter f xs.toArray) w ∧
  ∀ (k : CallKind) (cs : List Frame), KindOK k cs → ∃ g' w' x fr, Steps C.P (lone (Frame.enter C.P f xs.toArray k) cs w) (lone fr cs w') ∧ VR g' v x ∧ Rel Q g' h' w' ∧ Ext g h w g' h' w' ∧
    fr.fn = f ∧ fr.kind = k ∧ fr.mode = .returning ∧ fr.defers = [] ∧ ∃ fn, C.P.funcs[f]? = some fn ∧ (results fn fr.tmps).run C.P w' = .ok x w'
def RoundOK (round : Fun) : Prop := ∀ id args h v h', round id args h = some (v, h') → ∀ (g : Gh) (w : World) (xs : List Value) (e : Ent), GOK C g → Rel Q g h w → VRs g args xs → Fresh g h.next h'.next → g.φ id = some e →
  ∃ l f tmps as bd, (Instr.yield e.blk xs.toArray).run C.P w = .ok (.round l f tmps as bd) w ∧ ∀ (c : Frame) (cs : List Frame), ∃ g' w' x,
    Steps C.P (lone (Frame.round l f tmps as bd .normal) (c :: cs) w) (lone (c.finish x) cs w') ∧ VR g' v x ∧ Rel Q g' h' w' ∧ Ext g h w g' h' w'
structure CxOK (x : Cx) : Prop where
  mono : x.mono
  call : CallOK C Q x.call
  round : RoundOK C Q x.round

def dstOK (n : Nat) : Option Nat → Bool
  | none => true
  | some d => Nat.blt d n
def cCI (ops : Array Oper) (o : Oper) : CI :=
  if dstOK C.n o.dst then (match o.guard with
  | none => ⟨o.dst, cOp C o.op, none⟩
  | some (j, t) => match (ops[j]?).bind (·.dst) with
    | some r => if r < C.n then ⟨o.dst, cOp C o.op, some (r, t)⟩ else ⟨o.dst, .bad, none⟩
    | none => ⟨o.dst, .bad, none⟩)
  else ⟨o.dst, .bad, none⟩
end

section
variable {C : Fix} {Q : Nat → CC → Code → Prop} {g : Gh} {s s' : St} {a : Act} {w : World} {n0 : Nat} {x : Cx}

theorem getD_toList (a : Array Value) (k : Nat) (d : Value) : a.getD k d = a.toList.getD k d := by
  rw [Array.getD_eq_getD_getElem?, List.getD_eq_getElem?_getD, Array.getElem?_toList]
theorem StR.eval (st : StR C Q n0 g s a w) : ∀ x y, cX C x = some y → VR g (y.val s.rs) (a.eval x) := by
  intro x y h
  cases x with
  | tmp t =>
    simp only [cX] at h
    split at h
    · rename_i ht
      simp only [Option.some.injEq] at h; subst h
      simp only [Act.eval, X.val]
      exact st.rs.at' t ht
    · cases h
  | const v =>
    simp only [cX, Option.map_eq_some_iff] at h
    obtain ⟨v', h1, rfl⟩ := h
    exact ofConst_VR g h1
  | global k =>
    simp only [cX, Option.map_eq_some_iff] at h
    obtain ⟨cs, h1, rfl⟩ := h
    obtain ⟨arr, h2, h3⟩ := st.gl k cs h1
    exact .fp h2 h3
  | func f =>
    simp only [cX, Option.some.injEq] at h; subst h
    exact .fn .nil
theorem put_RR {n : Nat} {rs : RF} {d : Option Nat} {v : V} {y : Value} (h : RR n g rs a.tmps) (hd : dstOK n d = true) (hv : VR g v y) : RR n g (setR rs d v) (a.put d y).tmps := by
  cases d with
  | none => exact h
  | some d =>
    simp only [setR, Act.put]
    exact h.set (Nat.lt_of_succ_le (by simpa [dstOK, Nat.blt] using hd)) hv
theorem put_defers (a : Act) (d : Option Nat) (y : Value) : (a.put d y).defers = a.defers := by cases d <;> rfl
theorem cCI_ok {ops : Array Oper} {o : Oper} {s' : St} (hs : ciGo x (cCI C ops o) s = some s') : dstOK C.n o.dst = true := by
  cases hd : dstOK C.n o.dst with
  | true => rfl
  | false =>
    unfold cCI at hs
    rw [hd] at hs
    cases hs
theorem wanted_of (st : StR C Q n0 g s a w) {ops : Array Oper} {o : Oper} {t : Bool} (h : wantR s.rs (cCI C ops o).g = some t) (hb : (cCI C ops o).op ≠ .bad ∨ t = false) : Region.wanted o (yielded ops a.tmps) = t := by
  unfold cCI at h hb
  unfold Region.wanted
  split at h
  · rename_i hdst
    simp only [hdst, if_true] at hb
    split at h
    · rename_i hg
      rw [hg]
      simp only [wantR, Option.some.injEq] at h
      simpa using h
    · rename_i j tt hg
      rw [hg]
      simp only [hg] at hb ⊢
      split at h
      · rename_i r hr
        split at h
        · rename_i hrn
          simp only [wantR] at h
          have hv := st.rs.at' r hrn
          have hy : yielded ops a.tmps j = match (a.tmps[r]?) with | some (.bool b) => some b | _ => none := by simp only [yielded, hr, Option.bind_some]; rfl
          rw [hy]
          split at h
          · rename_i b hb'
            cases h
            rw [hb'] at hv
            have e := hv.b_inv
            rw [Array.getD_eq_getD_getElem?] at e
            cases ha : a.tmps[r]? with
            | none => rw [ha] at e; simp [Go.undef] at e
            | some z => rw [ha] at e; simp at e; subst e; simp
          · rename_i hb'
            cases h
            rw [hb'] at hv
            obtain ⟨xs, e, hxs⟩ := hv.tup_inv
            rw [Array.getD_eq_getD_getElem?] at e
            cases ha : a.tmps[r]? with
            | none => simp
            | some z => rw [ha] at e; simp at e; subst e; simp
          · cases h
        · rename_i hrn
          simp only [wantR, Option.some.injEq] at h
          subst h
          simp [hr, hrn] at hb
      · rename_i hr
        simp only [wantR, Option.some.injEq] at h
        subst h
        simp [hr] at hb
  · rename_i hdst
    simp only [wantR, Option.some.injEq] at h
    subst h
    simp [hdst] at hb

theorem cCI_dst (ops : Array Oper) (o : Oper) : (cCI C ops o).dst = o.dst := by
  unfold cCI
  repeat' split
  all_goals rfl
theorem cCI_op (ops : Array Oper) (o : Oper) : (cCI C ops o).op = cOp C o.op ∨ (cCI C ops o).op = .bad := by
  unfold cCI
  repeat' split
  all_goals first | exact .inl rfl | exact .inr rfl
theorem cCI_opSem {ops : Array Oper} {o : Oper} {rs : RF} {h : H} {or : OR} (hs : opSem (cCI C ops o).op rs h = some or) : opSem (cOp C o.op) rs h = some or ∧ (cCI C ops o).op ≠ .bad := by
  rcases cCI_op (C := C) ops o with e | e
  · rw [e] at hs
    refine ⟨hs, fun hb => ?_⟩
    rw [e] at hb
    rw [hb] at hs
    cases hs
  · rw [e] at hs; cases hs
theorem defer_sem {c : Call} {rs : RF} {h : H} {or : OR} (hs : opSem (cOp C (.defer c)) rs h = some or) : ∃ f vs, or = .defer f vs := by
  obtain ⟨callee, args, ats⟩ := c
  simp only [cOp] at hs
  split at hs
  · simp only [opSem, Option.some.injEq] at hs; exact ⟨_, _, hs.symm⟩
  · split at hs
    · simp only [opSem] at hs
      split at hs
      · cases hs; exact ⟨_, _, rfl⟩
      · cases hs
    · cases hs
  · cases hs
end
end Ax

/- The abstract executor, part 20: one operation of a region, as the machine steps it. -/
namespace Ax
open Go

section
variable {C : Fix} {Q : Nat → CC → Code → Prop} {g : Gh} {s s' : St} {a : Act} {w : World} {n0 : Nat} {x : Cx}

theorem ci_sound (K : FixOK C) (hx : CxOK C Q x) {b : Frame} (hR : x.inR = b.roundOf.isSome) {cs : List Frame} (hk : x.inR = false → KindOK b.kind cs) {k : List Item} {ops : Array Oper} {i : Nat} {rest : List Nat} {o : Oper} (ho : ops[i]? = some o)
    (hs : ciGo x (cCI C ops o) s = some s') (st : StR C Q n0 g s a w) (hf : Fresh g s.h.next s'.h.next) :
    ∃ g' a' w', Steps C.P (lone (b.atR a (.inRegion ops (i :: rest) :: k)) cs w) (lone (b.atR a' (.inRegion ops rest :: k)) cs w') ∧ StR C Q n0 g' s' a' w' ∧ Ext g s.h w g' s'.h w' := by
  have hdst := cCI_dst (C := C) ops o
  have hdok := cCI_ok hs
  unfold ciGo at hs
  rw [hdst] at hs
  have hfin : ∀ v, (b.atR a (.inRegion ops (i :: rest) :: k)).finish v = b.atR (a.put o.dst v) (.inRegion ops rest :: k) := by
    intro v; rw [Frame.finish_atR, ho]; rfl
  split at hs
  · rename_i hwant
    have main : ∀ or, opSem (cCI C ops o).op s.rs s.h = some or → Region.wanted o (yielded ops a.tmps) = true ∧ OpOK C.P Q g s.h w (execOp a.eval o) or := by
      intro or hor
      obtain ⟨h1, h2⟩ := cCI_opSem hor
      exact ⟨wanted_of st hwant (.inl h2), cOp_sound K st.rel st.eval (fun _ => rfl) h1⟩
    split at hs
    · rename_i v h' hor
      cases hs
      obtain ⟨hw, hok⟩ := main _ hor
      have hnd : ∀ c, o.op ≠ .defer c := by
        intro c hc
        have := (cCI_opSem hor).1
        rw [hc] at this
        obtain ⟨_, _, e⟩ := defer_sem this
        cases e
      obtain ⟨g', w', y, nx, hrun, hnx, hv, R, E⟩ := hok hf
      refine ⟨g', a.put o.dst y, w', .one (step_lone_go ?_), ⟨put_RR (st.rs.mono E.le) hdok hv, R, by rw [put_defers]; exact st.ds.ext E, st.gl.mono E.le, Nat.le_trans st.sz E.sz⟩, E⟩
      rw [stepGR_op ho hw, Oper.semAt_eq _ _ _ hnd, ← hfin]
      rcases hnx with rfl | ⟨rfl, rfl⟩
      · simp [stepG.apply, Sem.runT_eq, hrun]
      · simp [stepG.apply, Sem.runT_eq, hrun]
    · rename_i f args hor
      split at hs
      · rename_i v h' hcall
        cases hs
        obtain ⟨hw, hok⟩ := main _ hor
        have hnd : ∀ c, o.op ≠ .defer c := by
          intro c hc
          have := (cCI_opSem hor).1
          rw [hc] at this
          obtain ⟨_, _, e⟩ := defer_sem this
          cases e
        obtain ⟨xs, hrun, hxs⟩ := hok
        obtain ⟨henter, hall⟩ := hx.call f args s.h v h' hcall g w xs st.gl st.rel hxs hf
        obtain ⟨g', w', y, fr, hsteps, hv, R, E, hfn, hkind, hmode, hdef, fn, hfn2, hres⟩ := hall .normal (b.atR a (.inRegion ops (i :: rest) :: k) :: cs) (.inl rfl)
        have hleave : fr.leaving C.P w' (.returned y) := ⟨hmode, hdef, hkind, fn, by rw [hfn]; exact hfn2, hres⟩
        refine ⟨g', a.put o.dst y, w', .head ?_ (hsteps.trans (.one ?_)), ⟨put_RR (st.rs.mono E.le) hdok hv, R, by rw [put_defers]; exact st.ds.ext E, st.gl.mono E.le, Nat.le_trans st.sz E.sz⟩, E⟩
        · refine step_lone_go ?_
          rw [stepGR_op ho hw, Oper.semAt_eq _ _ _ hnd]
          simp [stepG.apply, Sem.runT_eq, hrun, henter, Frame.atR]
        · rw [← hfin]; exact step_leave_returned hleave
      · cases hs
    · rename_i id args hor
      split at hs
      · rename_i v h' hcall
        cases hs
        obtain ⟨hw, hok⟩ := main _ hor
        have hnd : ∀ c, o.op ≠ .defer c := by
          intro c hc
          have := (cCI_opSem hor).1
          rw [hc] at this
          obtain ⟨_, _, e⟩ := defer_sem this
          cases e
        obtain ⟨e, xs, he, hrun, hxs⟩ := hok
        obtain ⟨l, f, tmps, as, bd, hy, hall⟩ := hx.round id args s.h v h' hcall g w xs e st.gl st.rel hxs hf he
        obtain ⟨g', w', y, hsteps, hv, R, E⟩ := hall (b.atR a (.inRegion ops (i :: rest) :: k)) cs
        refine ⟨g', a.put o.dst y, w', .head ?_ (by rw [← hfin]; exact hsteps), ⟨put_RR (st.rs.mono E.le) hdok hv, R, by rw [put_defers]; exact st.ds.ext E, st.gl.mono E.le, Nat.le_trans st.sz E.sz⟩, E⟩
        refine step_lone_go ?_
        rw [stepGR_op ho hw, Oper.semAt_eq _ _ _ hnd]
        simp [stepG.apply, Sem.runT_eq, hrun, hy, Frame.atR]
      · cases hs
    · rename_i f args hor
      split at hs
      · cases hs
      · rename_i hin
        cases hs
        obtain ⟨hw, hok⟩ := main _ hor
        obtain ⟨xs, caps, hrun, hxs⟩ := hok
        have hro : b.roundOf = none := by
          cases hb : b.roundOf with
          | none => rfl
          | some l => rw [hb] at hR; simp [hR] at hin
        refine ⟨g, { a with defers := { target := .fn (.func f) caps.toArray, args := xs.toArray } :: a.defers }.put o.dst undef, w, .one (step_lone_go ?_), ⟨put_RR (a := { a with defers := { target := .fn (.func f) caps.toArray, args := xs.toArray } :: a.defers }) st.rs hdok VR.undef, st.rel, by rw [put_defers]; exact .call hxs st.ds, st.gl, st.sz⟩, Ext.refl _ _ _⟩
        have hfin2 : ({ b.atR a (.inRegion ops (i :: rest) :: k) with defers := { target := .fn (.func f) caps.toArray, args := xs.toArray } :: a.defers } : Frame).finish undef =
            b.atR ({ a with defers := { target := .fn (.func f) caps.toArray, args := xs.toArray } :: a.defers }.put o.dst undef) (.inRegion ops rest :: k) := by
          have := Frame.finish_atR b { a with defers := { target := .fn (.func f) caps.toArray, args := xs.toArray } :: a.defers } ops i rest k undef
          rw [ho] at this; exact this
        rw [stepGR_op ho hw, hro, Oper.semAt_none, ← hfin2]
        simp only [stepG.apply, Sem.runT_eq, hrun, GStep.bare_after]
        rfl
    · rename_i hor
      split at hs
      · cases hs
      · rename_i hin
        cases hs
        obtain ⟨hw, hok⟩ := main _ hor
        have hro : b.roundOf = none := by
          cases hb : b.roundOf with
          | none => rfl
          | some l => rw [hb] at hR; simp [hR] at hin
        have hrec : tryRecover (b.atR a (.inRegion ops (i :: rest) :: k)) cs = none := by
          rcases hk (by simpa using hin) with h1 | ⟨h1, c, cs', rfl, hc⟩
          · have : (b.atR a (.inRegion ops (i :: rest) :: k)).kind = .normal := h1
            unfold tryRecover; simp [this]
          · have : (b.atR a (.inRegion ops (i :: rest) :: k)).kind = .deferred := h1
            unfold tryRecover; simp [this, hc]
        refine ⟨g, a.put o.dst .nilIface, w, .one (step_lone_go ?_), ⟨put_RR st.rs hdok .nili, st.rel, by rw [put_defers]; exact st.ds, st.gl, st.sz⟩, Ext.refl _ _ _⟩
        have hrun : (execOp a.eval o).run C.P w = .ok .recover w := hok
        have hro' : (b.atR a (.inRegion ops (i :: rest) :: k)).roundOf = none := hro
        rw [stepGR_op ho hw, hro, Oper.semAt_none, ← hfin]
        simp only [stepG.apply, Sem.runT_eq, hrun, GStep.bare_after, hro', hrec]
        rfl
    · cases hs
  · rename_i hwant
    cases hs
    have hw := wanted_of st hwant (.inr rfl)
    refine ⟨g, a.put o.dst undef, w, .one ?_, ⟨put_RR st.rs hdok VR.undef, st.rel, by rw [put_defers]; exact st.ds, st.gl, st.sz⟩, Ext.refl _ _ _⟩
    have := stepR_op_skip (P := C.P) (b := b) (a := a) (k := k) (cs := cs) (w := w) (ops := ops) (i := i) (rest := rest) (by simp [ho, hw])
    rw [ho] at this
    exact this
  · cases hs
end
end Ax

/- The abstract executor, regions that draw their order, 5: whichever order is drawn, it comes to the same. -/
namespace Ax
open Go

theorem ciV_next {x : Cx} (hx : x.mono) {c : CI} {rs : RF} {h h' : H} {v : V} (hs : ciV x c rs h = some (v, h')) : h.next ≤ h'.next := by
  unfold ciV at hs
  split at hs
  · split at hs
    · rename_i ho; cases hs; exact opSem_next ho
    · exact hx.call _ _ _ _ _ hs
    · exact hx.round _ _ _ _ _ hs
    · cases hs
  · cases hs; exact Nat.le_refl _
  · cases hs

/-- The operations of a region, compiled. -/
def cOf (C : Fix) (ops : Array Oper) (i : Nat) : CI := match ops[i]? with | some o => cCI C ops o | none => ⟨none, .bad, none⟩
structure PlanOK (C : Fix) (ops : Array Oper) (ord : List Nat) (chk : List (CI × Nat × Nat)) : Prop where
  back : backB ops = true
  nd : ord.Nodup
  mem : ∀ i, i < ops.size → i ∈ ord
  lt : ∀ i ∈ ord, i < ops.size
  tmp : tmpOK (cOf C ops) ord = true
  rd : ∀ i ∈ ord, ∀ r ∈ (cOf C ops i).regs, ∀ j ∈ ord, (cOf C ops j).dst = some r → (j ∈ pri ord i ∧ aheadOf (msOf ops) j i = true) ∨ (j ∉ pri ord i ∧ (j = i ∨ aheadOf (msOf ops) i j = true))
  uq : ∀ i ∈ ord, ∀ j ∈ ord, ∀ d, (cOf C ops i).dst = some d → (cOf C ops j).dst = some d → i = j
  cke : ∀ i ∈ ord, (cOf C ops i).kd = 0 → (cOf C ops i).op.blind = false → ∀ r ∈ (cOf C ops i).regs, ∀ j ∈ ord, (cOf C ops j).dst = some r → j ∈ pri ord i
  ef : ∀ (p q i j : Nat), p < q → (effs (cOf C ops) ord)[p]? = some i → (effs (cOf C ops) ord)[q]? = some j → (cOf C ops j).kd ≠ 2 → aheadOf (msOf ops) i j = true
  ck : ∀ i ∈ ord, (cOf C ops i).kd = 0 → (cOf C ops i).op.blind = true ∨ ((∀ (p j : Nat), p < (effs (cOf C ops) (pri ord i)).length → (effs (cOf C ops) ord)[p]? = some j → aheadOf (msOf ops) j i = true) ∧ (∀ (j : Nat), (effs (cOf C ops) ord)[(effs (cOf C ops) (pri ord i)).length]? = some j → aheadOf (msOf ops) i j = true) ∧ (effs (cOf C ops) (pri ord i)).length ≤ (effs (cOf C ops) ord).length) ∨ ∃ lo n, (cOf C ops i, lo, n + 1) ∈ chk ∧ (∀ (p j : Nat), p < lo → (effs (cOf C ops) ord)[p]? = some j → aheadOf (msOf ops) j i = true) ∧
    (∀ (j : Nat), (effs (cOf C ops) ord)[lo + n]? = some j → aheadOf (msOf ops) i j = true) ∧ (lo + n ≤ (effs (cOf C ops) ord).length)

/-- All but one kind of change: what was not owned is as it was. -/
structure Far (g0 : Gh) (h0 : H) (w0 : World) (nx : Nat) (g : Gh) (h : H) (w : World) : Prop where
  φ : ∀ id, (id < h0.next ∨ nx ≤ id) → g.φ id = g0.φ id
  le : g0.le g
  sz : w0.heap.size ≤ w.heap.size
  free : ∀ k, k < w0.heap.size → (∀ id o e, h0.get id = some o → g0.φ id = some e → e.blk ≠ k) →
    w.heap[k]? = w0.heap[k]? ∧ (∀ id o e, h.get id = some o → g.φ id = some e → e.blk ≠ k) ∧ (g0.F k = none → g.F k = none)
  os : w.os = w0.os
  tape : w.tape = w0.tape
  output : w.output = w0.output
theorem Far.step {g0 : Gh} {h0 : H} {w0 : World} {nx : Nat} {g g' : Gh} {h h' : H} {w w' : World} (f : Far g0 h0 w0 nx g h w) (E : Ext g h w g' h' w') (h1 : h0.next ≤ h.next) (h2 : h'.next ≤ nx) : Far g0 h0 w0 nx g' h' w' where
  φ := fun id hid => by rw [E.φ id (by omega), f.φ id hid]
  le := Gh.le_trans f.le E.le
  sz := Nat.le_trans f.sz E.sz
  free := fun k hk hf => by
    obtain ⟨e1, f1, z1⟩ := f.free k hk hf
    obtain ⟨e2, f2, z2⟩ := E.free k (Nat.lt_of_lt_of_le hk f.sz) f1
    exact ⟨e2.trans e1, f2, fun hz => z2 (z1 hz)⟩
  os := E.os.trans f.os
  tape := E.tape.trans f.tape
  output := E.output.trans f.output

section
variable {C : Fix} {Q : Nat → CC → Code → Prop} {x : Cx}
variable (ops : Array Oper) (ord : List Nat) (rs0 rsF : RF) (hs : Nat → H) (ds : List (Nat × List V)) (n0 : Nat) (g0 : Gh) (w0 : World) (m : Nat)

/-- A block that lies, but is not owned yet. -/
structure Limbo (Q : Nat → CC → Code → Prop) (g : Gh) (h : H) (w : World) (e : Ent) (ob : Obj) : Prop where
  ob' : ORel Q g e ob w.heap[e.blk]?
  lt : e.blk < w.heap.size
  ge : w0.heap.size ≤ e.blk
  F : g.F e.blk = none
  un : ∀ id o e', h.get id = some o → g.φ id = some e' → e'.blk ≠ e.blk

structure DInv (C : Fix) (Q : Nat → CC → Code → Prop) (D : Nat → Prop) (q : Nat) (rs : RF) (g : Gh) (a : Act) (w : World) : Prop where
  le : q ≤ m
  agree : ∀ k, (∀ i ∈ ord, (cOf C ops i).dst = some k → D i) → getR rs k = getR rsF k
  agree0 : ∀ k, (∀ i ∈ ord, (cOf C ops i).dst = some k → ¬ D i) → getR rs k = getR rs0 k
  st : StR C Q n0 g ⟨rs, hs q, ds⟩ a w
  pre : ∀ (p i : Nat), p < q → (effs (cOf C ops) ord)[p]? = some i → D i
  lim : ∀ (p i : Nat), q ≤ p → (effs (cOf C ops) ord)[p]? = some i → D i → (cOf C ops i).kd = 2 ∧ ∃ e ob, hs (p + 1) = (hs p).new ob ∧ g.φ (hs p).next = some e ∧ Limbo w0 Q g (hs q) w e ob
  lim2 : ∀ (p p' i i' : Nat) (e e' : Ent), p < p' → q ≤ p → (effs (cOf C ops) ord)[p]? = some i → (effs (cOf C ops) ord)[p']? = some i' → D i → D i' → g.φ (hs p).next = some e → g.φ (hs p').next = some e' → e.blk ≠ e'.blk
  fresh : ∀ id, (hs q).next ≤ id → id < (hs m).next → (∀ (p i : Nat), q ≤ p → (effs (cOf C ops) ord)[p]? = some i → D i → id ≠ (hs p).next) → g.φ id = none
  far : Far g0 (hs 0) w0 (hs m).next g (hs q) w

/-- What the run in the chosen order has shown. -/
structure Canon (C : Fix) (x : Cx) : Prop where
  len : (effs (cOf C ops) ord).length = m
  eff : ∀ (q i : Nat), (effs (cOf C ops) ord)[q]? = some i → ∃ v, (∀ rs, Vw (cOf C ops) ord rs0 rsF rs i → ciV x (cOf C ops i) rs (hs q) = some (v, hs (q + 1))) ∧ DstIs (cOf C ops i) rsF v
  pur : ∀ i ∈ ord, (cOf C ops i).kd = 0 → ∀ q, q ≤ m → (∀ (p j : Nat), p < q → (effs (cOf C ops) ord)[p]? = some j → aheadOf (msOf ops) i j = false) → (∀ (j : Nat), (effs (cOf C ops) ord)[q]? = some j → aheadOf (msOf ops) j i = false) →
    ∃ v, (∀ rs, Vw (cOf C ops) ord rs0 rsF rs i → ciV x (cOf C ops i) rs (hs q) = some (v, hs q)) ∧ DstIs (cOf C ops i) rsF v

variable {ops ord rs0 rsF hs ds n0 g0 w0 m}
variable {chk : List (CI × Nat × Nat)}

theorem Limbo.ext {g g' : Gh} {h h' : H} {w w' : World} {e : Ent} {ob : Obj} (l : Limbo w0 Q g h w e ob) (E : Ext g h w g' h' w') : Limbo w0 Q g' h' w' e ob := by
  obtain ⟨e1, e2, e3⟩ := E.free _ l.lt l.un
  exact ⟨by rw [e1]; exact l.ob'.mono Q E.le, Nat.lt_of_lt_of_le l.lt E.sz, l.ge, e3 l.F, e2⟩

theorem getR_ge (rs : RF) {k : Nat} (hk : 256 ≤ k) : getR rs k = .undef := by
  rw [getR_eq]
  split
  · rename_i a b h
    have h1 := regOf_val h
    rw [dig_val] at h1
    have ha : a.val < 16 := by cases a <;> decide
    have hb : b.val < 16 := by cases b <;> decide
    omega
  · rfl
/-- The registers as an operation is to see them, made. -/
theorem exists_vw (c : Nat → CI) (ord : List Nat) (rs0 rsF : RF) (i : Nat) : ∃ rs, Vw c ord rs0 rsF rs i := by
  have key : ∀ l : List Nat, ∃ rs : RF, ∀ r ∈ l, getR rs r = if early c ord i r then getR rsF r else getR rs0 r := by
    intro l
    induction l with
    | nil => exact ⟨rs0, fun r h => by cases h⟩
    | cons a l ih =>
      obtain ⟨rs, h⟩ := ih
      by_cases ha : a < 256
      · refine ⟨rs.set a (if early c ord i a then getR rsF a else getR rs0 a), fun r hr => ?_⟩
        rw [getR_set _ ha]
        by_cases e : r = a
        · subst e; rw [if_pos rfl]
        · rw [if_neg e]
          exact h r ((List.mem_cons.1 hr).resolve_left e)
      · refine ⟨rs, fun r hr => ?_⟩
        by_cases e : r = a
        · subst e
          rw [getR_ge rs (by omega), getR_ge rsF (by omega), getR_ge rs0 (by omega)]
          split <;> rfl
        · exact h r ((List.mem_cons.1 hr).resolve_left e)
  exact key _
theorem hs_mono (hm : x.mono) (K : Canon ops ord rs0 rsF hs m C x) : ∀ {p q : Nat}, p ≤ q → q ≤ m → (hs p).next ≤ (hs q).next := by
  intro p q hpq hq
  induction q with
  | zero => have : p = 0 := by omega
            subst this; exact Nat.le_refl _
  | succ q ih =>
    by_cases h : p = q + 1
    · subst h; exact Nat.le_refl _
    · have hlt : q < (effs (cOf C ops) ord).length := by rw [K.len]; omega
      obtain ⟨v, hv, _⟩ := K.eff q _ (List.getElem?_eq_getElem hlt)
      obtain ⟨rs, hrs⟩ := exists_vw (cOf C ops) ord rs0 rsF ((effs (cOf C ops) ord)[q]'hlt)
      exact Nat.le_trans (ih (by omega) (by omega)) (ciV_next hm (hv rs hrs))

/-- A block that lies is taken up. -/
theorem DInv.commit (hm : x.mono) (K : Canon ops ord rs0 rsF hs m C x) {D : Nat → Prop} {q : Nat} {rs : RF} {g : Gh} {a : Act} {w : World} (I : DInv ops ord rs0 rsF hs ds n0 g0 w0 m C Q D q rs g a w) {i : Nat} (hi : (effs (cOf C ops) ord)[q]? = some i) (hD : D i) :
    DInv ops ord rs0 rsF hs ds n0 g0 w0 m C Q D (q + 1) rs g a w := by
  obtain ⟨hk, e, ob, hnew, hφ, L⟩ := I.lim q i (Nat.le_refl _) hi hD
  have hlt : q < m := by
    have := (List.getElem?_eq_some_iff.1 hi).1
    rw [K.len] at this; exact this
  have hget : ∀ id, (hs (q + 1)).get id = if id = (hs q).next then some ob else (hs q).get id := fun id => by rw [hnew]; exact H.get_new _ _ _
  have hnx : (hs (q + 1)).next = (hs q).next + 1 := by rw [hnew]; rfl
  have own' : ∀ id o e', (hs (q + 1)).get id = some o → g.φ id = some e' → (id = (hs q).next ∧ e' = e ∧ o = ob) ∨ (id ≠ (hs q).next ∧ (hs q).get id = some o) := by
    intro id o e' h1 h2
    rw [hget] at h1
    split at h1
    · rename_i he; subst he; rw [hφ] at h2; cases h2; cases h1; exact .inl ⟨rfl, rfl, rfl⟩
    · rename_i he; exact .inr ⟨he, h1⟩
  have R := I.st.rel
  have R' : Rel Q g (hs (q + 1)) w := by
    refine ⟨?_, ?_, ?_, R.bnd, ?_⟩
    · intro id o h1
      rw [hget] at h1
      split at h1
      · rename_i he; subst he; cases h1; exact ⟨e, hφ, L.ob'⟩
      · exact R.own id o h1
    · intro id id' o o' e1 e2 h1 h2 p1 p2 hb
      rcases own' _ _ _ h1 p1 with ⟨a1, a2, _⟩ | ⟨a1, a2⟩ <;> rcases own' _ _ _ h2 p2 with ⟨b1, b2, _⟩ | ⟨b1, b2⟩
      · rw [a1, b1]
      · subst a2; exact absurd hb.symm (L.un _ _ _ b2 p2)
      · subst b2; exact absurd hb (L.un _ _ _ a2 p1)
      · exact R.inj _ _ _ _ _ _ a2 b2 p1 p2 hb
    · intro k arr hF
      obtain ⟨h1, h2⟩ := R.frz k arr hF
      refine ⟨h1, fun id o e' h3 h4 => ?_⟩
      rcases own' _ _ _ h3 h4 with ⟨_, rfl, _⟩ | ⟨_, b⟩
      · intro hb; subst hb; rw [L.F] at hF; cases hF
      · exact h2 id o e' b h4
    · intro id hid
      rw [hget, if_neg (by omega)]
      exact R.nxt id (by show (hs q).next ≤ id; omega)
  have hblk : ∀ (ds' : List (Nat × List V)) (l : List Deferred), DefR n0 g (hs q) w ds' l → DefR n0 g (hs (q + 1)) w ds' l := by
    intro ds' l hd
    induction hd with
    | nil => exact .nil
    | call hv _ ih => exact .call hv ih
    | mark hr hb hf hF hl _ ih =>
      refine .mark hr hb ?_ hF hl ih
      intro id o e' h1 h2
      rcases own' _ _ _ h1 h2 with ⟨_, rfl, rfl⟩ | ⟨_, b⟩
      · intro hbk
        have := L.ob'
        rw [hbk, hb] at this
        unfold ORel at this
        split at this <;> simp_all
      · exact hf id o e' b h2
  refine ⟨hlt, I.agree, I.agree0, ⟨I.st.rs, R', hblk _ _ I.st.ds, I.st.gl, I.st.sz⟩, ?_, ?_, ?_, ?_, ?_⟩
  · intro p j hp hj
    by_cases h : p = q
    · subst h; rw [hi] at hj; cases hj; exact hD
    · exact I.pre p j (by omega) hj
  · intro p j hp hj hDj
    obtain ⟨k2, e', ob', h1, h2, L'⟩ := I.lim p j (by omega) hj hDj
    refine ⟨k2, e', ob', h1, h2, ⟨L'.ob', L'.lt, L'.ge, L'.F, ?_⟩⟩
    intro id o e2 h3 h4
    rcases own' _ _ _ h3 h4 with ⟨_, rfl, _⟩ | ⟨_, b⟩
    · exact I.lim2 q p i j _ _ (by omega) (Nat.le_refl _) hi hj hD hDj hφ h2
    · exact L'.un id o e2 b h4
  · intro p p' j j' e1 e2 hpp hp hj hj' d d' p1 p2
    exact I.lim2 p p' j j' e1 e2 hpp (by omega) hj hj' d d' p1 p2
  · intro id h1 h2 h3
    refine I.fresh id (by omega) h2 fun p j hp hj hd => ?_
    by_cases h : p = q
    · subst h; omega
    · exact h3 p j (by omega) hj hd
  · refine ⟨I.far.φ, I.far.le, I.far.sz, ?_, I.far.os, I.far.tape, I.far.output⟩
    intro k hk hf
    obtain ⟨e1, f1, z1⟩ := I.far.free k hk hf
    refine ⟨e1, ?_, z1⟩
    intro id o e2 h3 h4
    rcases own' _ _ _ h3 h4 with ⟨_, rfl, _⟩ | ⟨_, b⟩
    · have := L.ge; omega
    · exact f1 id o e2 b h4

/-- As far as it goes. -/
theorem DInv.settle (hm : x.mono) (K : Canon ops ord rs0 rsF hs m C x) {D : Nat → Prop} {rs : RF} {g : Gh} {a : Act} {w : World} : ∀ (n : Nat) {q : Nat}, m - q ≤ n → DInv ops ord rs0 rsF hs ds n0 g0 w0 m C Q D q rs g a w →
    ∃ q', DInv ops ord rs0 rsF hs ds n0 g0 w0 m C Q D q' rs g a w ∧ ∀ i, (effs (cOf C ops) ord)[q']? = some i → ¬ D i := by
  intro n
  induction n with
  | zero =>
    intro q hq I
    refine ⟨q, I, fun i hi => ?_⟩
    have := (List.getElem?_eq_some_iff.1 hi).1
    rw [K.len] at this
    have := I.le
    omega
  | succ n ih =>
    intro q hq I
    by_cases h : ∃ i, (effs (cOf C ops) ord)[q]? = some i ∧ D i
    · obtain ⟨i, hi, hD⟩ := h
      have hlt := (List.getElem?_eq_some_iff.1 hi).1
      rw [K.len] at hlt
      exact ih (by omega) (I.commit hm K hi hD)
    · exact ⟨q, I, fun i hi hD => h ⟨i, hi, hD⟩⟩
end
end Ax

/- The abstract executor, regions that draw their order, 6: one operation, whenever it comes. -/
namespace Ax
open Go

theorem tmpOK_at {c : Nat → CI} : ∀ {ord : List Nat}, tmpOK c ord = true → ∀ i ∈ ord, (c i).op.plain = true ∧ ∀ d, (c i).dst = some d → d < 256
  | [], _, _, h => by cases h
  | j :: ord, ht, i, h => by
    simp only [tmpOK, Bool.and_eq_true] at ht
    obtain ⟨⟨hp, hd⟩, ht⟩ := ht
    rcases List.mem_cons.1 h with rfl | h
    · refine ⟨hp, fun d hdd => ?_⟩
      rw [hdd] at hd
      simp only [Bool.and_eq_true] at hd
      exact Nat.lt_of_succ_le (by simpa [Nat.blt] using hd.1)
    · exact tmpOK_at ht i h

theorem H.get_emp (n id : Nat) : (⟨n, T.e⟩ : H).get id = none := T.get_e id
theorem Rel.emp {Q : Nat → CC → Code → Prop} {g : Gh} {h : H} {w : World} (R : Rel Q g h w) (n : Nat) : Rel Q g ⟨n, T.e⟩ w :=
  ⟨fun id o h => (by rw [H.get_emp] at h; cases h), fun id id' o o' e e' h => (by rw [H.get_emp] at h; cases h), fun k a hk => ⟨(R.frz k a hk).1, fun id o e h => (by rw [H.get_emp] at h; cases h)⟩, R.bnd, fun id _ => H.get_emp n id⟩
/-- Marks are never owned: what is owned is no record of deferred calls. -/
theorem DefR.of_rel {Q : Nat → CC → Code → Prop} {n0 : Nat} {g : Gh} {h h' : H} {w : World} (R : Rel Q g h w) {ds : List (Nat × List V)} {l : List Deferred} (hd : DefR n0 g h' w ds l) : DefR n0 g h w ds l := by
  induction hd with
  | nil => exact .nil
  | call hv _ ih => exact .call hv ih
  | mark hr hb hf hF hl _ ih =>
    refine .mark hr hb ?_ hF hl ih
    intro id o e h1 h2 hbk
    obtain ⟨e', h3, h4⟩ := R.own id o h1
    rw [h2] at h3; cases h3
    rw [hbk, hb] at h4
    unfold ORel at h4
    split at h4 <;> simp_all

section
variable {C : Fix} {Q : Nat → CC → Code → Prop} {x : Cx}
variable {ops : Array Oper} {ord : List Nat} {rs0 rsF : RF} {hs : Nat → H} {ds : List (Nat × List V)} {n0 : Nat} {g0 : Gh} {w0 : World} {m : Nat}
variable {chk : List (CI × Nat × Nat)}

theorem DInv.op (KF : FixOK C) (hx : CxOK C Q x) (PK : PlanOK C ops ord chk) (K : Canon ops ord rs0 rsF hs m C x) {b : Frame} (hR : x.inR = b.roundOf.isSome) {cs : List Frame} (hkd : x.inR = false → KindOK b.kind cs) {k : List Item}
    {D : Nat → Prop} {q : Nat} {rs : RF} {g : Gh} {a : Act} {w : World} (I : DInv ops ord rs0 rsF hs ds n0 g0 w0 m C Q D q rs g a w) (hset : ∀ i, (effs (cOf C ops) ord)[q]? = some i → ¬ D i) (hsh : Shut ops D)
    {i : Nat} (hn : ¬ D i) (hr : Rdy ops D i) (rest : List Nat) :
    ∃ q' rs' g' a' w', Steps C.P (lone (b.atR a (.inRegion ops (i :: rest) :: k)) cs w) (lone (b.atR a' (.inRegion ops rest :: k)) cs w') ∧ DInv ops ord rs0 rsF hs ds n0 g0 w0 m C Q (fun k => k = i ∨ D k) q' rs' g' a' w' := by
  obtain ⟨o, ho, hedge⟩ := hr
  have hr : Rdy ops D i := ⟨o, ho, hedge⟩
  have hin : i < ops.size := (Array.getElem?_eq_some_iff.1 ho).1
  have hio : i ∈ ord := PK.mem i hin
  have hci : cOf C ops i = cCI C ops o := by unfold cOf; rw [ho]
  obtain ⟨hplain, hd256⟩ := tmpOK_at PK.tmp i hio
  have hvw : Vw (cOf C ops) ord rs0 rsF rs i := by
    intro r hreg
    have early_iff : early (cOf C ops) ord i r = true ↔ ∃ j ∈ pri ord i, (cOf C ops j).dst = some r := by
      unfold early
      rw [List.any_eq_true]
      constructor
      · rintro ⟨j, hj, hd⟩
        refine ⟨j, hj, ?_⟩
        split at hd
        · rename_i d e; rw [e, Nat.eq_of_beq_eq_true hd]
        · cases hd
      · rintro ⟨j, hj, hd⟩
        exact ⟨j, hj, by rw [hd]; simp⟩
    by_cases he : early (cOf C ops) ord i r = true
    · rw [if_pos he]
      obtain ⟨j, hj, hdj⟩ := early_iff.1 he
      have hjo : j ∈ ord := (List.takeWhile_sublist _).mem hj
      refine I.agree r fun j' hj' hd' => ?_
      have := PK.uq j hjo j' hj' r hdj hd'
      subst this
      rcases PK.rd i hio r hreg j hjo hdj with ⟨_, h⟩ | ⟨h, _⟩
      · exact ahead_done hsh i hr j h
      · exact absurd hj h
    · rw [if_neg he]
      refine I.agree0 r fun j hj hdj hD => ?_
      rcases PK.rd i hio r hreg j hj hdj with ⟨h, _⟩ | ⟨_, h⟩
      · exact he (early_iff.2 ⟨j, h, hdj⟩)
      · rcases h with rfl | h
        · exact hn hD
        · exact hn (ahead_done hsh j (hsh j hD) i h)
  have hgo : ∀ h h' v, (∀ rs, Vw (cOf C ops) ord rs0 rsF rs i → ciV x (cOf C ops i) rs h = some (v, h')) → ciGo x (cCI C ops o) ⟨rs, h, ds⟩ = some ⟨setR rs (cOf C ops i).dst v, h', ds⟩ := by
    intro h h' v hv
    rw [← hci, ciGo_eq hplain]
    simp only [hv rs hvw, Option.map_some]
  have agree' : ∀ v, DstIs (cOf C ops i) rsF v → ∀ k, (∀ j ∈ ord, (cOf C ops j).dst = some k → (j = i ∨ D j)) → getR (setR rs (cOf C ops i).dst v) k = getR rsF k := by
    intro v hv k hk
    cases hd : (cOf C ops i).dst with
    | none =>
      simp only [setR]
      refine I.agree k fun j hj hdj => (hk j hj hdj).resolve_left fun e => ?_
      subst e; rw [hd] at hdj; cases hdj
    | some d =>
      simp only [setR]
      rw [getR_set _ (hd256 d hd)]
      by_cases e : k = d
      · subst e; rw [if_pos rfl]; exact (hv _ hd).symm
      · rw [if_neg e]
        refine I.agree k fun j hj hdj => (hk j hj hdj).resolve_left fun e' => ?_
        subst e'; rw [hd] at hdj; cases hdj; exact e rfl
  have agree0' : ∀ v k, (∀ j ∈ ord, (cOf C ops j).dst = some k → ¬ (j = i ∨ D j)) → getR (setR rs (cOf C ops i).dst v) k = getR rs0 k := by
    intro v k hk
    have hold := I.agree0 k fun j hj hdj hD => hk j hj hdj (.inr hD)
    cases hd : (cOf C ops i).dst with
    | none => exact hold
    | some d =>
      simp only [setR]
      rw [getR_set _ (hd256 d hd)]
      by_cases e : k = d
      · subst e; exact absurd (.inl rfl) (hk i hio hd)
      · rw [if_neg e]; exact hold
  have eff_of : ∀ (p j : Nat), (effs (cOf C ops) ord)[p]? = some j → j ∈ ord ∧ 1 ≤ (cOf C ops j).kd := by
    intro p j hj
    have := List.mem_of_getElem? hj
    simp only [effs, List.mem_filter] at this
    exact ⟨this.1, Nat.le_of_ble_eq_true this.2⟩
  have pos_of : 1 ≤ (cOf C ops i).kd → ∃ p : Nat, (effs (cOf C ops) ord)[p]? = some i := by
    intro h1
    have : i ∈ effs (cOf C ops) ord := by
      simp only [effs, List.mem_filter]
      exact ⟨hio, by rw [Nat.ble_eq]; exact h1⟩
    exact List.getElem?_of_mem this
  have hmono := fun {p q : Nat} => hs_mono (p := p) (q := q) hx.mono K
  by_cases hk0 : (cOf C ops i).kd = 0
  · -- it only looks
    obtain ⟨v, hv, hdst⟩ := K.pur i hio hk0 q I.le
      (fun p j hp hj => by
        cases ha : aheadOf (msOf ops) i j with
        | false => rfl
        | true => exact absurd (ahead_done hsh j (hsh j (I.pre p j hp hj)) i ha) hn)
      (fun j hj => by
        cases ha : aheadOf (msOf ops) j i with
        | false => rfl
        | true => exact absurd (ahead_done hsh i hr j ha) (hset j hj))
    obtain ⟨g', a', w', t, st', E⟩ := ci_sound KF hx hR hkd (k := k) (rest := rest) ho (hgo _ _ _ hv) I.st (fun id h1 h2 => by have h1 : (hs q).next ≤ id := h1; have h2 : id < (hs q).next := h2; omega)
    have hφ : ∀ id, g'.φ id = g.φ id := fun id => E.φ id (by show id < (hs q).next ∨ (hs q).next ≤ id; omega)
    refine ⟨q, _, g', a', w', t, I.le, agree' v hdst, agree0' v, st', fun p j hp hj => .inr (I.pre p j hp hj), ?_, ?_, ?_, I.far.step E (hmono (Nat.zero_le _) I.le) (hmono I.le (Nat.le_refl _))⟩
    · intro p j hp hj hD
      have hD : D j := hD.resolve_left fun e => by subst e; have := (eff_of p j hj).2; omega
      obtain ⟨k2, e, ob, h1, h2, L⟩ := I.lim p j hp hj hD
      exact ⟨k2, e, ob, h1, E.le.φ _ _ h2, L.ext E⟩
    · intro p p' j j' e1 e2 hpp hp hj hj' d1 d2 p1 p2
      have d1 : D j := d1.resolve_left fun e => by subst e; have := (eff_of p j hj).2; omega
      have d2 : D j' := d2.resolve_left fun e => by subst e; have := (eff_of p' j' hj').2; omega
      rw [hφ] at p1 p2
      exact I.lim2 p p' j j' e1 e2 hpp hp hj hj' d1 d2 p1 p2
    · intro id h1 h2 h3
      rw [hφ]
      exact I.fresh id h1 h2 fun p j hp hj hD => h3 p j hp hj (.inr hD)
  · obtain ⟨p, hp⟩ := pos_of (by omega)
    have hpm : p < m := by
      have := (List.getElem?_eq_some_iff.1 hp).1
      rw [K.len] at this; exact this
    have hqp : q ≤ p := by
      by_cases h : q ≤ p
      · exact h
      · exact absurd (I.pre p i (by omega) hp) hn
    obtain ⟨v, hv, hdst⟩ := K.eff p i hp
    have inj : ∀ (p' : Nat), (effs (cOf C ops) ord)[p']? = some i → p' = p := by
      intro p' hp'
      have hnd : (effs (cOf C ops) ord).Nodup := PK.nd.filter _
      obtain ⟨l1, e1⟩ := List.getElem?_eq_some_iff.1 hp'
      obtain ⟨l2, e2⟩ := List.getElem?_eq_some_iff.1 hp
      exact (List.getElem_inj hnd).1 (e1.trans e2.symm)
    by_cases hk2 : (cOf C ops i).kd = 2
    · -- it makes one new block
      obtain ⟨ob, hnew, _⟩ := soft_ciV hk2 (hv rs hvw)
      have hemp : ∀ h' : H, h'.next = (hs p).next → ∀ rs, Vw (cOf C ops) ord rs0 rsF rs i → ciV x (cOf C ops i) rs h' = some (v, h'.new ob) := by
        intro h' hn' rs' hvw'
        obtain ⟨ob', hnew', hemp'⟩ := soft_ciV hk2 (hv rs' hvw')
        have : ob' = ob := by
          have e1 := hnew'.symm.trans hnew
          have e2 : ((hs p).new ob').get (hs p).next = ((hs p).new ob).get (hs p).next := by rw [e1]
          rw [H.get_new, H.get_new, if_pos rfl, if_pos rfl] at e2
          exact Option.some.inj e2
        subst this
        exact hemp' h' hn'
      have hnx : (hs (p + 1)).next = (hs p).next + 1 := by rw [hnew]; rfl
      have hlt : (hs p).next < (hs m).next := by have := hmono (p := p + 1) (q := m) hpm (Nat.le_refl _); omega
      have hge : (hs q).next ≤ (hs p).next := hmono hqp (by omega)
      have hge0 : (hs 0).next ≤ (hs p).next := hmono (Nat.zero_le _) (by omega)
      have apart : ∀ (p' j : Nat), (effs (cOf C ops) ord)[p']? = some j → q ≤ p' → D j → (hs p').next ≠ (hs p).next := by
        intro p' j hj hq' hD
        have hpp : p' ≠ p := fun e => by subst e; rw [hp] at hj; cases hj; exact hn hD
        have hp'm : p' < m := by
          have := (List.getElem?_eq_some_iff.1 hj).1
          rw [K.len] at this; exact this
        by_cases hlt' : p' < p
        · obtain ⟨_, e, ob', h1, _, _⟩ := I.lim p' j hq' hj hD
          have h2 : (hs (p' + 1)).next = (hs p').next + 1 := by rw [h1]; rfl
          have := hmono (p := p' + 1) (q := p) hlt' (by omega)
          omega
        · have := hmono (p := p + 1) (q := p') (by omega) (by omega)
          omega
      have hfr : g.φ (hs p).next = none := I.fresh _ hge hlt fun p' j hq' hj hD e => apart p' j hj hq' hD e.symm
      have hvE := hemp ⟨(hs p).next, T.e⟩ rfl
      have stE : StR C Q n0 g ⟨rs, ⟨(hs p).next, T.e⟩, ds⟩ a w := ⟨I.st.rs, I.st.rel.emp _, I.st.ds.of_rel (I.st.rel.emp (hs p).next), I.st.gl, I.st.sz⟩
      obtain ⟨g', a', w', t, st', E⟩ := ci_sound KF hx hR hkd (k := k) (rest := rest) ho (hgo _ _ _ hvE) stE (fun id h1 h2 => by
        have h1 : (hs p).next ≤ id := h1
        have h2 : id < (hs p).next + 1 := h2
        have : id = (hs p).next := by omega
        rw [this]; exact hfr)
      have hφ : ∀ id, id ≠ (hs p).next → g'.φ id = g.φ id := fun id hid => E.φ id (by show id < (hs p).next ∨ (hs p).next + 1 ≤ id; omega)
      have hold : ∀ k, k < w.heap.size → w'.heap[k]? = w.heap[k]? ∧ (∀ id o e, ((⟨(hs p).next, T.e⟩ : H).new ob).get id = some o → g'.φ id = some e → e.blk ≠ k) ∧ (g.F k = none → g'.F k = none) := fun k hk => E.free k hk (fun id o e h => (by rw [H.get_emp] at h; cases h))
      obtain ⟨eN, heN, hoN⟩ := st'.rel.own (hs p).next ob (by show ((⟨(hs p).next, T.e⟩ : H).new ob).get (hs p).next = some ob; rw [H.get_new]; exact if_pos rfl)
      have hgetN : ((⟨(hs p).next, T.e⟩ : H).new ob).get (hs p).next = some ob := by rw [H.get_new]; exact if_pos rfl
      have heNge : w.heap.size ≤ eN.blk := by
        by_cases h : w.heap.size ≤ eN.blk
        · exact h
        · exact absurd rfl ((hold eN.blk (by omega)).2.1 _ _ _ hgetN heN)
      have hidlt : ∀ id o, (hs q).get id = some o → id < (hs q).next := by
        intro id o h
        by_cases hl : id < (hs q).next
        · exact hl
        · have hnone : (hs q).get id = none := I.st.rel.nxt id (by show (hs q).next ≤ id; omega)
          rw [hnone] at h; cases h
      have hφq : ∀ id o, (hs q).get id = some o → g'.φ id = g.φ id := fun id o h => hφ id (by have := hidlt id o h; omega)
      have R' : Rel Q g' (hs q) w' := by
        refine ⟨?_, ?_, ?_, st'.rel.bnd, I.st.rel.nxt⟩
        · intro id o h
          obtain ⟨e, he, hor⟩ := I.st.rel.own id o h
          refine ⟨e, E.le.φ _ _ he, ?_⟩
          rw [(hold e.blk (I.st.rel.bnd _ _ he)).1]
          exact hor.mono Q E.le
        · intro id id' o o' e e' h1 h2 p1 p2 hb
          rw [hφq id o h1] at p1
          rw [hφq id' o' h2] at p2
          exact I.st.rel.inj _ _ _ _ _ _ h1 h2 p1 p2 hb
        · intro k arr hF
          refine ⟨(st'.rel.frz k arr hF).1, fun id o e h1 p1 hb => ?_⟩
          rw [hφq id o h1] at p1
          have hkl := I.st.rel.bnd _ _ p1
          rw [hb] at hkl
          cases hgF : g.F k with
          | none => rw [(hold k hkl).2.2 hgF] at hF; cases hF
          | some arr' => exact (I.st.rel.frz k arr' hgF).2 id o e h1 p1 hb
      have limK : ∀ e ob', Limbo w0 Q g (hs q) w e ob' → Limbo w0 Q g' (hs q) w' e ob' := by
        intro e ob' L
        obtain ⟨e1, _, e3⟩ := hold e.blk L.lt
        exact ⟨by rw [e1]; exact L.ob'.mono Q E.le, Nat.lt_of_lt_of_le L.lt E.sz, L.ge, e3 L.F, fun id o e' h1 p1 => L.un id o e' h1 (by rw [← hφq id o h1]; exact p1)⟩
      refine ⟨q, _, g', a', w', t, I.le, agree' v hdst, agree0' v, ⟨st'.rs, R', st'.ds.of_rel R', st'.gl, st'.sz⟩, fun p' j hp' hj => .inr (I.pre p' j hp' hj), ?_, ?_, ?_, ?_⟩
      · intro p' j hq' hj hD
        by_cases hji : j = i
        · subst hji
          have := inj p' hj
          subst this
          refine ⟨hk2, eN, ob, hnew, heN, ⟨hoN, st'.rel.bnd _ _ heN, Nat.le_trans I.far.sz heNge, ?_, ?_⟩⟩
          · cases hF : g'.F eN.blk with
            | none => rfl
            | some arr => exact absurd rfl ((st'.rel.frz _ arr hF).2 _ _ _ hgetN heN)
          · intro id o e' h1 p1
            rw [hφq id o h1] at p1
            have := I.st.rel.bnd _ _ p1
            omega
        · have hD : D j := hD.resolve_left hji
          obtain ⟨k2, e, ob', h1, h2, L⟩ := I.lim p' j hq' hj hD
          exact ⟨k2, e, ob', h1, E.le.φ _ _ h2, limK e ob' L⟩
      · intro p1 p2 j j' e1 e2 hpp hq' hj hj' d1 d2 f1 f2
        have hb : ∀ (pp jj : Nat) (ee : Ent), q ≤ pp → (effs (cOf C ops) ord)[pp]? = some jj → (jj = i ∨ D jj) → g'.φ (hs pp).next = some ee → (pp = p ∧ ee = eN) ∨ (D jj ∧ g.φ (hs pp).next = some ee ∧ ee.blk < w.heap.size) := by
          intro pp jj ee h1 h2 h3 h4
          by_cases hji : jj = i
          · subst hji
            have := inj pp h2
            subst this
            rw [heN] at h4; cases h4
            exact .inl ⟨rfl, rfl⟩
          · have hD : D jj := h3.resolve_left hji
            rw [hφ _ (apart pp jj h2 h1 hD)] at h4
            exact .inr ⟨hD, h4, I.st.rel.bnd _ _ h4⟩
        rcases hb p1 j e1 hq' hj d1 f1 with ⟨a1, a2⟩ | ⟨a1, a2, a3⟩ <;> rcases hb p2 j' e2 (by omega) hj' d2 f2 with ⟨b1, b2⟩ | ⟨b1, b2, b3⟩
        · omega
        · subst a2; omega
        · subst b2; omega
        · exact I.lim2 p1 p2 j j' e1 e2 hpp hq' hj hj' a1 b1 a2 b2
      · intro id h1 h2 h3
        have hne : id ≠ (hs p).next := h3 p i hqp hp (.inl rfl)
        rw [hφ id hne]
        exact I.fresh id h1 h2 fun p' j hp' hj hD => h3 p' j hp' hj (.inr hD)
      · refine ⟨?_, Gh.le_trans I.far.le E.le, Nat.le_trans I.far.sz E.sz, ?_, E.os.trans I.far.os, E.tape.trans I.far.tape, E.output.trans I.far.output⟩
        · intro id hid
          rw [hφ id (by omega), I.far.φ id hid]
        · intro k hk hf
          obtain ⟨e1, f1, z1⟩ := I.far.free k hk hf
          obtain ⟨e2, _, z2⟩ := hold k (Nat.lt_of_lt_of_le hk I.far.sz)
          exact ⟨e2.trans e1, fun id o e h1 p1 => f1 id o e h1 (by rw [← hφq id o h1]; exact p1), fun hz => z2 (z1 hz)⟩
    · -- it does something
      have hpq : p = q := by
        by_cases h : p = q
        · exact h
        · obtain ⟨j, hj⟩ : ∃ j, (effs (cOf C ops) ord)[q]? = some j := ⟨_, List.getElem?_eq_getElem (by rw [K.len]; omega)⟩
          exact absurd (ahead_done hsh i hr j (PK.ef q p j i (by omega) hj hp hk2)) (hset j hj)
      subst hpq
      have fr : Fresh g (hs p).next (hs (p + 1)).next := by
        intro id h1 h2
        have hm := hmono (p := p + 1) (q := m) hpm (Nat.le_refl _)
        refine I.fresh id h1 (by omega) fun p' j hp' hj hD e => ?_
        have hpp : p' ≠ p := fun e => by subst e; rw [hp] at hj; cases hj; exact hn hD
        have hp'm : p' < m := by
          have := (List.getElem?_eq_some_iff.1 hj).1
          rw [K.len] at this; exact this
        have := hmono (p := p + 1) (q := p') (by omega) (by omega)
        omega
      obtain ⟨g', a', w', t, st', E⟩ := ci_sound KF hx hR hkd (k := k) (rest := rest) ho (hgo _ _ _ hv) I.st fr
      have hφ : ∀ id, (id < (hs p).next ∨ (hs (p + 1)).next ≤ id) → g'.φ id = g.φ id := fun id h => E.φ id h
      have later : ∀ (p' j : Nat), p + 1 ≤ p' → (effs (cOf C ops) ord)[p']? = some j → (hs (p + 1)).next ≤ (hs p').next := by
        intro p' j h1 h2
        have := (List.getElem?_eq_some_iff.1 h2).1
        rw [K.len] at this
        exact hmono h1 (by omega)
      have notI : ∀ (p' j : Nat), p + 1 ≤ p' → (effs (cOf C ops) ord)[p']? = some j → (j = i ∨ D j) → D j := by
        intro p' j h1 h2 h3
        refine h3.resolve_left fun e => ?_
        subst e
        have := inj p' h2
        omega
      refine ⟨p + 1, _, g', a', w', t, hpm, agree' v hdst, agree0' v, st', ?_, ?_, ?_, ?_, I.far.step E (hmono (Nat.zero_le _) I.le) (hmono hpm (Nat.le_refl _))⟩
      · intro p' j hp' hj
        by_cases e : p' = p
        · subst e; rw [hp] at hj; cases hj; exact .inl rfl
        · exact .inr (I.pre p' j (by omega) hj)
      · intro p' j hp' hj hD
        obtain ⟨k2, e, ob, h1, h2, L⟩ := I.lim p' j (by omega) hj (notI p' j hp' hj hD)
        exact ⟨k2, e, ob, h1, E.le.φ _ _ h2, L.ext E⟩
      · intro p1 p2 j j' e1 e2 hpp hq' hj hj' d1 d2 f1 f2
        rw [hφ _ (.inr (later p1 j hq' hj))] at f1
        rw [hφ _ (.inr (later p2 j' (by omega) hj'))] at f2
        exact I.lim2 p1 p2 j j' e1 e2 hpp (by omega) hj hj' (notI p1 j hq' hj d1) (notI p2 j' (by omega) hj' d2) f1 f2
      · intro id h1 h2 h3
        rw [hφ id (.inr h1)]
        have hm := hmono (p := p) (q := p + 1) (by omega) (by omega)
        refine I.fresh id (by omega) h2 fun p' j hp' hj hD => ?_
        by_cases e : p' = p
        · subst e; rw [hp] at hj; cases hj; exact absurd hD hn
        · exact h3 p' j (by omega) hj (.inr hD)
end
end Ax

/- The abstract executor, regions that draw their order, 7: the whole region. -/
namespace Ax
open Go

section
variable {C : Fix} {Q : Nat → CC → Code → Prop} {x : Cx}
variable {ops : Array Oper} {ord : List Nat} {rs0 rsF : RF} {hs : Nat → H} {ds : List (Nat × List V)} {n0 : Nat} {g0 : Gh} {w0 : World} {m : Nat}
variable {chk : List (CI × Nat × Nat)}

theorem DInv.run (KF : FixOK C) (hx : CxOK C Q x) (PK : PlanOK C ops ord chk) (K : Canon ops ord rs0 rsF hs m C x) {b : Frame} (hR : x.inR = b.roundOf.isSome) {cs : List Frame} (hkd : x.inR = false → KindOK b.kind cs) {k : List Item} :
    ∀ {σ : List Nat} {D : Nat → Prop}, Lin ops D σ → Shut ops D → ∀ {q : Nat} {rs : RF} {g : Gh} {a : Act} {w : World}, DInv ops ord rs0 rsF hs ds n0 g0 w0 m C Q D q rs g a w →
      ∃ g' a' w', Steps C.P (lone (b.atR a (.inRegion ops σ :: k)) cs w) (lone (b.atR a' k) cs w') ∧ StR C Q n0 g' ⟨rsF, hs m, ds⟩ a' w' ∧ Far g0 (hs 0) w0 (hs m).next g' (hs m) w' := by
  intro σ
  induction σ with
  | nil =>
    intro D hl _ q rs g a w I
    cases hl with
    | nil hall =>
      obtain ⟨q', I', hq'⟩ := I.settle hx.mono K m (by omega)
      have hm : q' = m := by
        have := I'.le
        by_cases h : q' = m
        · exact h
        · have hlt : q' < (effs (cOf C ops) ord).length := by rw [K.len]; omega
          have hj := List.getElem?_eq_getElem hlt
          exfalso
          have hmem := List.mem_of_getElem? hj
          simp only [effs, List.mem_filter] at hmem
          exact hq' _ hj (hall _ (PK.lt _ hmem.1))
      subst hm
      refine ⟨g, a, w, .one stepR_region_end, ⟨?_, I'.st.rel, I'.st.ds, I'.st.gl, I'.st.sz⟩, I'.far⟩
      refine ⟨I'.st.rs.sz, fun k hk => ?_, I'.st.rs.le⟩
      rw [← I'.agree k fun j hj _ => hall j (PK.lt j hj)]
      exact I'.st.rs.at' k hk
  | cons i σ ih =>
    intro D hl hsh q rs g a w I
    cases hl with
    | cons hn hr hl =>
      obtain ⟨q', I', hq'⟩ := I.settle hx.mono K m (by omega)
      obtain ⟨q2, rs2, g2, a2, w2, t, I2⟩ := I'.op KF hx PK K hR hkd (k := k) hq' hsh hn hr σ
      obtain ⟨g3, a3, w3, t3, st3, F3⟩ := ih hl (hsh.cons hr) I2
      exact ⟨g3, a3, w3, t.trans t3, st3, F3⟩

theorem dreg_canon (hx : x.mono) (PK : PlanOK C ops ord chk) {s s' : St} (hd : dreg x (ord.map (ent (cOf C ops))) chk s = some s') :
    ∃ hs : Nat → H, ∃ m, Canon ops ord s.rs s'.rs hs m C x ∧ hs 0 = s.h ∧ hs m = s'.h ∧ s'.ds = s.ds ∧ ∀ k, (∀ i ∈ ord, (cOf C ops i).dst ≠ some k) → getR s.rs k = getR s'.rs k := by
  unfold dreg at hd
  split at hd
  · rename_i sf hsl hgo
    split at hd
    · rename_i hck
      cases hd
      obtain ⟨e1, e2, e3, e4, e5, e6, e7⟩ := dGo_canon (rs0 := s.rs) (seen := []) (by simpa using PK.nd) PK.tmp (fun d i hi => by cases hi) (fun _ _ => rfl) hgo
      have hget : ∀ (q : Nat) (h : H), hsl[q]? = some h → hsl.getD q ⟨0, T.e⟩ = h := fun q h hq => by rw [List.getD_eq_getElem?_getD, hq]; rfl
      refine ⟨fun q => hsl.getD q ⟨0, T.e⟩, (effs (cOf C ops) ord).length, ⟨rfl, ?_, ?_⟩, hget _ _ e4, hget _ _ e5, e1, fun k hk => (e2 k hk).symm⟩
      · intro q i hi
        obtain ⟨v, h1, h2, a1, a2, a3, a4⟩ := e6 q i hi
        exact ⟨v, by rw [hget _ _ a1, hget _ _ a2]; exact a3, a4⟩
      · intro i hi hk q hq hA hB
        obtain ⟨v, p, h1, a0, a1, a2, a3⟩ := e7 i hi hk
        cases hbl : (cOf C ops i).op.blind with
        | true => exact ⟨v, fun rs hrs => blind_ciV hbl (a2 rs hrs) _, a3⟩
        | false =>
        rcases PK.ck i hi hk with hb | ⟨c1, c2, c3⟩ | ⟨lo, n, hm, c1, c2, c3⟩
        · exact ⟨v, fun rs hrs => blind_ciV hb (a2 rs hrs) _, a3⟩
        · have hp : p = (effs (cOf C ops) (pri ord i)).length := by
            have e : (effs (cOf C ops) []).length = 0 := rfl
            rw [e, List.nil_append] at a0
            omega
          rw [← hp] at c1 c2 c3
          have hqp : q = p := by
            by_cases hlt : q < p
            · have hj := List.getElem?_eq_getElem (l := effs (cOf C ops) ord) (i := q) (by omega)
              have := c1 q _ hlt hj
              rw [hB _ hj] at this
              cases this
            · by_cases hgt : p < q
              · have hj := List.getElem?_eq_getElem (l := effs (cOf C ops) ord) (i := p) (by omega)
                have := c2 _ hj
                rw [hA p _ hgt hj] at this
                cases this
              · omega
          subst hqp
          refine ⟨v, fun rs hrs => ?_, a3⟩
          show ciV x (cOf C ops i) rs (hsl.getD q ⟨0, T.e⟩) = some (v, hsl.getD q ⟨0, T.e⟩)
          rw [hget _ _ a1]
          exact a2 rs hrs
        · have h1 : lo ≤ q := by
            by_cases h : lo ≤ q
            · exact h
            · have hlt : q < (effs (cOf C ops) ord).length := by omega
              have hj := List.getElem?_eq_getElem hlt
              have := c1 q _ (by omega) hj
              rw [hB _ hj] at this
              cases this
          have h2 : q ≤ lo + n := by
            by_cases h : q ≤ lo + n
            · exact h
            · have hlt : lo + n < (effs (cOf C ops) ord).length := by omega
              have hj := List.getElem?_eq_getElem hlt
              have := c2 _ hj
              rw [hA (lo + n) _ (by omega) hj] at this
              cases this
          obtain ⟨h', v', h'', b1, b2, b3⟩ := dChk1_all x (dChk_all hck _ _ _ hm) (q - lo) (by omega)
          rw [List.getElem?_drop] at b1
          have : lo + (q - lo) = q := by omega
          rw [this] at b1
          refine ⟨v', fun rs hrs => ?_, b3⟩
          show ciV x (cOf C ops i) rs (hsl.getD q ⟨0, T.e⟩) = some (v', hsl.getD q ⟨0, T.e⟩)
          have hcg : ciV x (cOf C ops i) rs h' = ciV x (cOf C ops i) s'.rs h' := by
            refine ciV_congr (fun r hr => ?_) _
            rw [hrs r hr]
            by_cases he : early (cOf C ops) ord i r = true
            · rw [if_pos he]
            · rw [if_neg he]
              refine (e2 r fun j hj hdj => he ?_).symm
              have := PK.cke i hi hk hbl r hr j hj hdj
              unfold early
              rw [List.any_eq_true]
              exact ⟨j, this, by rw [hdj]; simp⟩
          rw [hget _ _ b1, hcg, b2, pure_ciV hk b2]
    · cases hd
  · cases hd

theorem draw_sound (KF : FixOK C) (hx : CxOK C Q x) (PK : PlanOK C ops ord chk) {b : Frame} (hR : x.inR = b.roundOf.isSome) {cs : List Frame} (hkd : x.inR = false → KindOK b.kind cs) {k : List Item} {s s' : St}
    (hd : dreg x (ord.map (ent (cOf C ops))) chk s = some s') {g : Gh} {a : Act} {w : World} (st : StR C Q n0 g s a w) (hf : Fresh g s.h.next s'.h.next) {σ : List Nat} (hl : Lin ops (fun _ => False) σ) :
    ∃ g' a' w', Steps C.P (lone (b.atR a (.inRegion ops σ :: k)) cs w) (lone (b.atR a' k) cs w') ∧ StR C Q n0 g' s' a' w' ∧ Ext g s.h w g' s'.h w' := by
  obtain ⟨hs, m, K, h0, hm, hds, hag⟩ := dreg_canon hx.mono PK hd
  have I : DInv ops ord s.rs s'.rs hs s.ds n0 g w m C Q (fun _ => False) 0 s.rs g a w := by
    refine ⟨Nat.zero_le _, fun k hk => hag k fun i hi hd => hk i hi hd, fun _ _ => rfl, by rw [h0]; exact st, fun p i hp => by omega, fun _ _ _ _ h => h.elim, fun _ _ _ _ _ _ _ _ _ _ h => h.elim, ?_, ?_⟩
    · intro id h1 h2 _
      rw [h0] at h1; rw [hm] at h2
      exact hf id h1 h2
    · exact ⟨fun _ _ => rfl, g.le_refl, Nat.le_refl _, fun k _ hk => ⟨rfl, hk, id⟩, rfl, rfl, rfl⟩
  obtain ⟨g', a', w', t, st', F⟩ := I.run KF hx PK K hR hkd (k := k) hl (fun _ h => h.elim)
  rw [hm] at st' F
  rw [h0] at F
  rw [← hds] at st'
  refine ⟨g', a', w', t, st', F.φ, F.le, ?_, F.sz, F.free, F.os, F.tape, F.output⟩
  have := hs_mono hx.mono K (Nat.zero_le m) (Nat.le_refl _)
  rw [h0, hm] at this
  exact this
end
end Ax

/- The abstract executor, regions that draw their order, 8: an order is chosen, and looked over. -/
namespace Ax
open Go

/-- All that may come comes; what makes a new block comes as late as it may. todo: as a row, and as bits. -/
def greedy (ms : List Nat) (kd : Nat → Nat) : Nat → List Nat → Nat → List Nat
  | 0, _, _ => []
  | f + 1, todo, bits =>
    match (match todo.find? (fun i => Nat.beq (Nat.land (ms.getD i 0) bits) 0 && !Nat.beq (kd i) 2) with
      | some i => some i
      | none => todo.find? fun i => Nat.beq (Nat.land (ms.getD i 0) bits) 0) with
    | some i => i :: greedy ms kd f (todo.filter fun j => !Nat.beq j i) (Nat.sub bits (2 ^ i))
    | none => []
section
variable (c : Nat → CI) (ms : List Nat)
def loOf (E : List Nat) (i : Nat) : Nat := (E.takeWhile fun j => aheadOf ms j i).length
def hiOf (E : List Nat) (i : Nat) : Nat := (E.takeWhile fun j => !aheadOf ms i j).length
/-- Is there but one heap that an operation can meet? -/
def oneOf (E ord : List Nat) (i : Nat) : Bool := Nat.beq (loOf ms E i) (hiOf ms E i) && Nat.beq (effs c (pri ord i)).length (loOf ms E i)
def chkOf (E ord : List Nat) : List (CI × Nat × Nat) := ord.filterMap fun i => if (c i).kd = 0 ∧ (c i).op.blind = false ∧ oneOf c ms E ord i = false then some (c i, loOf ms E i, hiOf ms E i - loOf ms E i + 1) else none
def efL : List Nat → Bool
  | [] => true
  | i :: tl => (tl.all fun j => Nat.beq (c j).kd 2 || aheadOf ms i j) && efL tl
def nodupL : List Nat → Bool
  | [] => true
  | i :: tl => (tl.all fun j => !Nat.beq i j) && nodupL tl
def planB (n : Nat) (E ord : List Nat) : Bool :=
  nodupL ord && (List.range n).all (fun i => ord.contains i) && ord.all (Nat.blt · n) && tmpOK c ord &&
  (ord.all fun i => (c i).regs.all fun r => ord.all fun j => (match (c j).dst with | some d => !Nat.beq d r | none => true) || (if (pri ord i).contains j then aheadOf ms j i else Nat.beq j i || aheadOf ms i j)) &&
  (ord.all fun i => !Nat.beq (c i).kd 0 || (c i).op.blind || (c i).regs.all fun r => ord.all fun j => (match (c j).dst with | some d => !Nat.beq d r | none => true) || (pri ord i).contains j) &&
  efL c ms E && (ord.all fun i => !Nat.beq (c i).kd 0 || (c i).op.blind || Nat.ble (loOf ms E i) (hiOf ms E i))
end
def compD (C : Fix) (ops : Array Oper) : CC :=
  let ms := msOf ops
  let cis := ops.toList.map (cCI C ops)
  let c := fun i => cis.getD i ⟨none, .bad, none⟩
  let ord := greedy ms (fun i => (c i).kd) ops.size (List.range ops.size) (2 ^ ops.size - 1)
  let E := effs c ord
  if backB ops && planB c ms ops.size E ord then .dreg (ord.map (ent c)) (chkOf c ms E ord) else .bad

theorem takeWhile_lt {p : Nat → Bool} : ∀ {l : List Nat} {q j : Nat}, q < (l.takeWhile p).length → l[q]? = some j → p j = true
  | [], _, _, h, _ => by simp at h
  | a :: l, q, j, h, hj => by
    rw [List.takeWhile_cons] at h
    split at h
    · rename_i ha
      cases q with
      | zero => simp at hj; subst hj; exact ha
      | succ q => exact takeWhile_lt (by simpa using h) (by simpa using hj)
    · simp at h
theorem takeWhile_end {p : Nat → Bool} : ∀ {l : List Nat} {j : Nat}, l[(l.takeWhile p).length]? = some j → p j = false
  | [], _, h => by simp at h
  | a :: l, j, h => by
    rw [List.takeWhile_cons] at h
    split at h
    · exact takeWhile_end (l := l) (by simpa using h)
    · rename_i ha
      simp at h
      subst h
      simpa using ha
theorem nodupL_nd : ∀ {l : List Nat}, nodupL l = true → l.Nodup
  | [], _ => .nil
  | i :: tl, h => by
    simp only [nodupL, Bool.and_eq_true] at h
    refine List.nodup_cons.2 ⟨fun hm => ?_, nodupL_nd h.2⟩
    have := List.all_eq_true.1 h.1 i hm
    simp at this
theorem efL_at {c : Nat → CI} {ms : List Nat} : ∀ {l : List Nat}, efL c ms l = true → ∀ (p q i j : Nat), p < q → l[p]? = some i → l[q]? = some j → (c j).kd ≠ 2 → aheadOf ms i j = true
  | [], _, _, _, _, _, _, h, _, _ => by simp at h
  | a :: l, h, p, q, i, j, hpq, hi, hj, hk => by
    simp only [efL, Bool.and_eq_true] at h
    obtain ⟨q, rfl⟩ : ∃ q', q = q' + 1 := ⟨q - 1, by omega⟩
    simp only [List.getElem?_cons_succ] at hj
    cases p with
    | zero =>
      simp only [List.getElem?_cons_zero, Option.some.injEq] at hi
      subst hi
      have := List.all_eq_true.1 h.1 j (List.mem_of_getElem? hj)
      simp only [Bool.or_eq_true] at this
      exact this.resolve_left fun e => hk (Nat.eq_of_beq_eq_true e)
    | succ p => exact efL_at h.2 p q i j (by omega) (by simpa using hi) hj hk

theorem tmp_uq {c : Nat → CI} : ∀ {ord : List Nat}, tmpOK c ord = true → ∀ i ∈ ord, ∀ j ∈ ord, ∀ d, (c i).dst = some d → (c j).dst = some d → i = j
  | [], _, _, h, _, _, _, _, _ => by cases h
  | a :: l, h, i, hi, j, hj, d, h1, h2 => by
    simp only [tmpOK, Bool.and_eq_true] at h
    obtain ⟨⟨_, hd⟩, ht⟩ := h
    rcases List.mem_cons.1 hi with e1 | hi' <;> rcases List.mem_cons.1 hj with e2 | hj'
    · rw [e1, e2]
    · subst e1
      rw [h1] at hd
      simp only [Bool.and_eq_true] at hd
      exact absurd h2 (noDst_of hd.2 j hj')
    · subst e2
      rw [h2] at hd
      simp only [Bool.and_eq_true] at hd
      exact absurd h1 (noDst_of hd.2 i hi')
    · exact tmp_uq ht i hi' j hj' d h1 h2
theorem cOf_eq (C : Fix) (ops : Array Oper) : (fun i => (ops.toList.map (cCI C ops)).getD i ⟨none, .bad, none⟩) = cOf C ops := by
  funext i
  unfold cOf
  rw [List.getD_eq_getElem?_getD, List.getElem?_map, Array.getElem?_toList]
  cases ops[i]? <;> rfl
theorem plan_ok {C : Fix} {ops : Array Oper} {ord : List Nat} (hb : backB ops = true) (h : planB (cOf C ops) (msOf ops) ops.size (effs (cOf C ops) ord) ord = true) :
    PlanOK C ops ord (chkOf (cOf C ops) (msOf ops) (effs (cOf C ops) ord) ord) := by
  simp only [planB, Bool.and_eq_true] at h
  obtain ⟨⟨⟨⟨⟨⟨⟨h1, h2⟩, h3⟩, h4⟩, h5⟩, h5'⟩, h6⟩, h7⟩ := h
  refine ⟨hb, nodupL_nd h1, ?_, ?_, h4, ?_, ?_, ?_, efL_at h6, ?_⟩
  · intro i hi
    have := List.all_eq_true.1 h2 i (List.mem_range.2 hi)
    simpa using this
  · intro i hi
    exact Nat.lt_of_succ_le (by simpa [Nat.blt] using List.all_eq_true.1 h3 i hi)
  · intro i hi r hr j hj hd
    have := List.all_eq_true.1 (List.all_eq_true.1 (List.all_eq_true.1 h5 i hi) r hr) j hj
    rw [hd] at this
    by_cases hp : j ∈ pri ord i
    · left
      refine ⟨hp, ?_⟩
      have hc : (pri ord i).contains j = true := by simpa using hp
      rw [hc] at this
      simpa using this
    · right
      refine ⟨hp, ?_⟩
      have hc : (pri ord i).contains j = false := by simpa using hp
      rw [hc] at this
      simpa using this
  · exact fun i hi j hj d h1 h2 => tmp_uq h4 i hi j hj d h1 h2
  · intro i hi hk hbl r hr j hj hd
    have := List.all_eq_true.1 h5' i hi
    rw [hk, hbl] at this
    have h0 : Nat.beq 0 0 = true := rfl
    rw [h0] at this
    simp only [Bool.not_true, Bool.false_or] at this
    have := List.all_eq_true.1 (List.all_eq_true.1 this r hr) j hj
    rw [hd] at this
    simpa using this
  · intro i hi hk
    cases hbl : (cOf C ops i).op.blind with
    | true => exact .inl rfl
    | false =>
      right
      have hup : ∀ j, (effs (cOf C ops) ord)[hiOf (msOf ops) (effs (cOf C ops) ord) i]? = some j → aheadOf (msOf ops) i j = true := by
        intro j hj
        simpa using takeWhile_end (p := fun j => !aheadOf (msOf ops) i j) hj
      cases hone : oneOf (cOf C ops) (msOf ops) (effs (cOf C ops) ord) ord i with
      | true =>
        left
        simp only [oneOf, Bool.and_eq_true] at hone
        have e1 := Nat.eq_of_beq_eq_true hone.1
        have e2 := Nat.eq_of_beq_eq_true hone.2
        refine ⟨?_, ?_, ?_⟩
        · intro p j hp hj
          rw [e2] at hp
          exact takeWhile_lt (p := fun j => aheadOf (msOf ops) j i) hp hj
        · intro j hj
          rw [e2, e1] at hj
          exact hup j hj
        · rw [e2]
          exact (List.takeWhile_sublist _).length_le
      | false =>
      right
      have hle : loOf (msOf ops) (effs (cOf C ops) ord) i ≤ hiOf (msOf ops) (effs (cOf C ops) ord) i := by
        have := List.all_eq_true.1 h7 i hi
        rw [hk, hbl] at this
        simpa using this
      have e : loOf (msOf ops) (effs (cOf C ops) ord) i + (hiOf (msOf ops) (effs (cOf C ops) ord) i - loOf (msOf ops) (effs (cOf C ops) ord) i) = hiOf (msOf ops) (effs (cOf C ops) ord) i := by omega
      refine ⟨loOf (msOf ops) (effs (cOf C ops) ord) i, hiOf (msOf ops) (effs (cOf C ops) ord) i - loOf (msOf ops) (effs (cOf C ops) ord) i, ?_, ?_, ?_, ?_⟩
      · unfold chkOf
        rw [List.mem_filterMap]
        exact ⟨i, hi, by rw [if_pos ⟨hk, hbl, hone⟩]⟩
      · intro p j hp hj
        exact takeWhile_lt (p := fun j => aheadOf (msOf ops) j i) hp hj
      · intro j hj
        rw [e] at hj
        exact hup j hj
      · rw [e]
        exact (List.takeWhile_sublist _).length_le
end Ax
