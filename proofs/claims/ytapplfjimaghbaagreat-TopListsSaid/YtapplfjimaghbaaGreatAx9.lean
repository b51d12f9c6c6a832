/- The abstract executor: from a run of the quick form to a call of the program. -/
import Derived.Test.YtapplfjimaghbaaGreatAx6
import Derived.Test.YtapplfjimaghbaaGreatAx8
import Derived.Below
set_option linter.all false
namespace Ax
open Go

/-- A compiled function. -/
def cfOf (C : Fix) (f : Nat) : Option CF :=
  match C.P.funcs[f]? with
  | some fn => (match fn.body with
    | some c => (if fn.name == "runtime.NumGoroutine" then none else if fn.ntmps ≤ 256 then (match cRess (C.at fn.ntmps) fn.results.toList with
      | some rs => some ⟨comp (C.at fn.ntmps) c, fn.ntmps, rs⟩
      | none => none) else none)
    | none => none)
  | none => none
theorem cfOf_ok {C : Fix} {f : Nat} {cf : CF} (h : cfOf C f = some cf) : ∃ fn c, C.P.funcs[f]? = some fn ∧ fn.body = some c ∧ cf.code = comp (C.at fn.ntmps) c ∧ cf.ntmps = fn.ntmps ∧ cRess (C.at fn.ntmps) fn.results.toList = some cf.res ∧ (fn.name == "runtime.NumGoroutine") = false ∧ fn.ntmps ≤ 256 := by
  unfold cfOf at h
  split at h
  · rename_i fn hfn
    split at h
    · rename_i c hc
      split at h
      · cases h
      · rename_i hname
        split at h
        · rename_i hle
          split at h
          · rename_i rs hrs
            cases h
            exact ⟨fn, c, hfn, hc, rfl, rfl, hrs, by simpa using hname, hle⟩
          · cases h
        · cases h
    · cases h
  · cases h
def AllOK (C : Fix) : Nat → List (Option CF) → Prop
  | _, [] => True
  | k, none :: l => AllOK C (k + 1) l
  | k, some cf :: l => cfOf C k = some cf ∧ AllOK C (k + 1) l
noncomputable def cpt (l : List (Option CF)) (f : Nat) : Option CF := List.rec (motive := fun _ => Nat → Option CF) (fun _ => none) (fun c _ ih k => Nat.rec (motive := fun _ => Option CF) c (fun m _ => ih m) k) l f
theorem cpt_ok {C : Fix} : ∀ {l : List (Option CF)} {k : Nat}, AllOK C k l → ∀ f cf, cpt l f = some cf → cfOf C (k + f) = some cf
  | [], _, _, _, _, h => by cases h
  | none :: l, k, hl, f, cf, h => by
    cases f with
    | zero => cases h
    | succ f =>
      have := cpt_ok (k := k + 1) hl f cf h
      rwa [show k + (f + 1) = k + 1 + f by omega]
  | some c :: l, k, hl, f, cf, h => by
    cases f with
    | zero => cases h; exact hl.1
    | succ f =>
      have := cpt_ok (k := k + 1) hl.2 f cf h
      rwa [show k + (f + 1) = k + 1 + f by omega]
theorem CPOK_of {C : Fix} {l : List (Option CF)} (h : AllOK C 0 l) : CPOK C (cpt l) := by
  intro f cf hf
  have := cpt_ok h f cf hf
  rw [Nat.zero_add] at this
  exact cfOf_ok this

/-- All that is known by depth. -/
theorem fxN_ok {C : Fix} (K : FixOK C) {CP : Nat → Option CF} (hCP : CPOK C CP) (D n : Nat) : CxOK C (QC C) ⟨(fxN CP D n).cx.call, (fxN CP D n).cx.round, false⟩ := by
  obtain ⟨e1, e2⟩ := fxN_eq CP D n
  have h1 : (fxN CP D n).cx.call = (runN' CP (2 ^ D) n).1 := funext fun f => funext fun a => funext fun h => e1 f a h
  have h2 : (fxN CP D n).cx.round = (runN' CP (2 ^ D) n).2 := funext fun f => funext fun a => funext fun h => e2 f a h
  obtain ⟨⟨m1, m2⟩, c1, c2⟩ := runN_sound K hCP (2 ^ D) n
  rw [h1, h2]
  exact ⟨⟨m1, m2⟩, c1, c2⟩

section
variable {C : Fix}
theorem outc_ev (K : FixOK C) {call round : Fun} (hx : CxOK C (QC C) ⟨call, round, false⟩) {n F : Nat} {b : Frame} (hb : b.roundOf = none) {cs : List Frame} (hk : KindOK b.kind cs) {n0 : Nat} {c : Code} {s s' : St} {e : Ex}
    (hev : ev ⟨call, round, false⟩ b.fn n F (comp (C.at n) c) none s = some (e, s')) : Outc (C.at n) (QC C) n0 b cs c e s s' :=
  code_sound (C := C.at n) (K.at n) (hx.at n) (b := b) (x := ⟨call, round, false⟩) (by rw [hb]; rfl) (cs := cs) (fun _ => hk) (n0 := n0) (fn := b.fn) (F := F)
    (fun _ _ _ _ _ _ _ _ hy hr => rng_sound (C := C.at n) (x := ⟨call, round, false⟩) (hx.at n) hb hy hr) c none s e s' hev c rfl
theorem Outc.weak {Q : Nat → CC → Code → Prop} {n0 : Nat} {b : Frame} {cs : List Frame} {c : Code} {e : Ex} {s s1 s' : St} (hh : s1.h = s.h) (hds : s1.ds = s.ds) (hrs : ∀ k, k < C.n → getR s1.rs k = .top ∨ getR s1.rs k = getR s.rs k)
    (ho : Outc C Q n0 b cs c e s1 s') : Outc C Q n0 b cs c e s s' := by
  intro g a w st hf k
  have st1 : StR C Q n0 g s1 a w := by
    refine ⟨⟨st.rs.sz, fun k hk => ?_, st.rs.le⟩, by rw [hh]; exact st.rel, by rw [hh, hds]; exact st.ds, st.gl, st.sz⟩
    rcases hrs k hk with e | e
    · rw [e]; exact .top _
    · rw [e]; exact st.rs.at' k hk
  obtain ⟨g', a', w', A, st', E⟩ := ho g a w st1 (by rw [hh]; exact hf) k
  rw [hh] at E
  exact ⟨g', a', w', A, st', E⟩

theorem calls_outc (K : FixOK C) {call round : Fun} (hx : CxOK C (QC C) ⟨call, round, false⟩) {f : Nat} {fn : Func} {c : Code} {res : List CRes} (hfn : C.P.funcs[f]? = some fn) (hbody : fn.body = some c)
    (hres : cRess (C.at fn.ntmps) fn.results.toList = some res) (h256 : fn.ntmps ≤ 256) {args : List V} {h h' : H} {s : St} {e : Ex} {v : V} (he : e = .norm ∨ e = .ret)
    (ho : ∀ (b : Frame) (cs : List Frame) (n0 : Nat), b.fn = f → b.roundOf = none → KindOK b.kind cs → Outc (C.at fn.ntmps) (QC C) n0 b cs c e ⟨RF.of args, h, []⟩ s)
    (hdef : defGo call s.ds s.h = some h') (hv' : resOf s.rs h' res = some v) {g : Gh} {w : World} {xs : List Value} (hg : GOK C g) (R : Rel (QC C) g h w) (hv : VRs g args xs) (hf : Fresh g h.next h'.next) :
    Calls C.P f xs.toArray w fun e w' => ∃ g' x, e = .returned x ∧ VR g' v x ∧ Rel (QC C) g' h' w' ∧ Ext g h w g' h' w' := by
  intro cs
  let b : Frame := { (default : Frame) with fn := f, kind := .normal, roundOf := none }
  have hen : Frame.enter C.P f xs.toArray .normal = b.atR { tmps := xs.toArray ++ Array.replicate (fn.ntmps - xs.toArray.size) undef, defers := [] } [.code c] := by
    simp [Frame.enter, Frame.atR, hfn, hbody, b]
  have st : StR (C.at fn.ntmps) (QC C) w.heap.size g ⟨RF.of args, h, []⟩ { tmps := xs.toArray ++ Array.replicate (fn.ntmps - xs.toArray.size) undef, defers := [] } w := by
    refine ⟨?_, R, .nil, hg, Nat.le_refl _⟩
    refine ⟨by show fn.ntmps ≤ _; simp; omega, fun k hk => ?_, h256⟩
    rw [RF.getR_of _ _ (by show k < 256; exact Nat.lt_of_lt_of_le hk h256)]
    have := hv.getD k
    have e : (xs.toArray ++ Array.replicate (fn.ntmps - xs.toArray.size) undef).getD k undef = xs.getD k undef := by
      rw [Array.getD_eq_getD_getElem?, Array.getElem?_append, List.getD_eq_getElem?_getD]
      split
      · simp
      · rename_i hh
        rw [Array.getElem?_replicate, List.getElem?_eq_none (by simpa using hh)]
        split <;> rfl
    rw [e]
    exact this
  have m2 := defGo_next hx.mono.call hdef
  obtain ⟨g1, a1, w1, A1, st1, E1⟩ := ho b cs w.heap.size rfl rfl (.inl rfl) g _ w st (hf.sub (Nat.le_refl _) m2) []
  rw [← hen] at A1
  have toRet : ∃ todo, Steps C.P (lone (Frame.enter C.P f xs.toArray .normal) cs w) (lone { b.atR a1 todo with mode := .returning } cs w1) := by
    rcases he with rfl | rfl
    · exact ⟨[], Steps.trans A1 (.one (stepR_end rfl))⟩
    · obtain ⟨k₁, t⟩ := A1
      exact ⟨_, Steps.trans t (.one (stepR_ret rfl))⟩
  obtain ⟨todo, t1⟩ := toRet
  obtain ⟨g2, w2, t2, R2, E2, hle⟩ := def_sound hx.mono.call hx.call (Nat.le_refl _) st1.ds hdef st1.gl st1.rel (E1.fresh hf) E1 { b.atR a1 todo with mode := .returning } cs rfl rfl
  obtain ⟨y, hy, hyv⟩ := res_sound (C := C.at fn.ntmps) K.tt R2 (st1.rs.mono hle) hres hv'
  refine ⟨.returned y, w2, _, ⟨g2, y, rfl, hyv, R2, E2⟩, t1.trans t2, ?_, ?_⟩
  · rfl
  · exact ⟨rfl, rfl, rfl, fn, hfn, hy⟩

/-- Nothing is known, and nothing is needed. -/
def Gh.none : Gh := ⟨fun _ => .none, fun _ => .none⟩
theorem Rel.none (w : World) (n : Nat) : Rel (QC C) Gh.none ⟨n, T.e⟩ w :=
  ⟨fun id o h => (by rw [H.get_emp] at h; cases h), fun id id' o o' e e' h => (by rw [H.get_emp] at h; cases h), fun k a hk => (by cases hk), fun id e h => (by cases h), fun id _ => H.get_emp n id⟩
theorem Ext.below {n : Nat} {w w' : World} {g' : Gh} {h' : H} (E : Ext Gh.none ⟨n, T.e⟩ w g' h' w') : Go.RowKit.Below w.heap.size w w' :=
  ⟨E.os, E.tape, E.output, E.sz, fun k hk => (E.free k hk (fun id o e h => (by rw [H.get_emp] at h; cases h))).1⟩
end

/-! Regions that only look. -/
def pureL (l : List CI) : Bool := l.all fun c => c.op.pure && c.op.plain
theorem pureL_h {x : Cx} : ∀ {l : List CI} {s s' : St}, pureL l = true → opsGo x l s = some s' → s'.h = s.h ∧ s'.ds = s.ds
  | [], s, s', _, h => by cases h; exact ⟨rfl, rfl⟩
  | c :: l, s, s', hp, h => by
    unfold pureL at hp
    rw [List.all_cons, Bool.and_eq_true, Bool.and_eq_true] at hp
    rw [opsGo_cons] at h
    split at h
    · rename_i s1 h1
      rw [ciGo_eq hp.1.2, Option.map_eq_some_iff] at h1
      obtain ⟨⟨v, h'⟩, hv, rfl⟩ := h1
      obtain ⟨a1, a2⟩ := pureL_h (l := l) hp.2 h
      have hk : c.kd = 0 := by unfold CI.kd; rw [hp.1.1]; rfl
      have := pure_ciV hk hv
      subst this
      exact ⟨a1, a2⟩
    · cases h

/-- Code taken apart. -/
def cFst : Code → Code | .seq a _ => a | c => c
def cSnd : Code → Code | .seq _ b => b | c => c
def ccFst : CC → CC | .seq a _ => a | c => c
def ccSnd : CC → CC | .seq _ b => b | c => c
def ccOps : CC → List CI | .reg l => l | _ => []
def isReg : CC → Bool | .reg _ => true | _ => false
def isSeq : Code → Bool | .seq _ _ => true | _ => false
def bodyOf (fn : Func) : Code := fn.body.getD .skip
theorem seq_of {c : Code} (h : isSeq c = true) : c = .seq (cFst c) (cSnd c) := by cases c <;> first | rfl | cases h
theorem reg_of {c : CC} (h : isReg c = true) : c = .reg (ccOps c) := by cases c <;> first | rfl | cases h

/-- What a run must come to: nothing put off, and the answer in a register. -/
noncomputable def endsIn (r : Nat) (v : V) : FR → Bool := FR.rec false (fun rs _ ds => List.rec (veq (getR rs r) v) (fun _ _ _ => false) ds) (fun _ _ _ _ => false) (fun _ _ _ _ => false) (fun rs _ ds => List.rec (veq (getR rs r) v) (fun _ _ _ => false) ds)
theorem endsIn_inv {r : Nat} {v : V} {x : FR} (h : endsIn r v x = true) : ∃ e s, (e = Ex.norm ∨ e = .ret) ∧ x.opt = some (e, s) ∧ s.ds = [] ∧ getR s.rs r = v := by
  cases x with
  | no => cases h
  | norm rs h' ds =>
    cases ds with
    | nil => exact ⟨.norm, _, .inl rfl, rfl, rfl, veq_eq h⟩
    | cons _ _ => cases h
  | exit _ _ _ _ => cases h
  | goto _ _ _ _ => cases h
  | ret rs h' ds =>
    cases ds with
    | nil => exact ⟨.ret, _, .inr rfl, rfl, rfl, veq_eq h⟩
    | cons _ _ => cases h
end Ax

/- The abstract executor: a law of one whole number, of which only what two plain regions make of it counts. -/
namespace Ax
open Go

def isTop : V → Bool | .top => true | _ => false
theorem isTop_eq {v : V} (h : isTop v = true) : v = .top := by cases v <;> first | rfl | cases h
/-- Is what one file of registers tells true of another? -/
noncomputable def agreeB (n : Nat) (rsw rs : RF) : Bool := (List.range n).all fun k => isTop (getR rsw k) || veq (getR rsw k) (getR rs k)
theorem agreeB_ok {n : Nat} {rsw rs : RF} (h : agreeB n rsw rs = true) : ∀ k, k < n → getR rsw k = .top ∨ getR rsw k = getR rs k := by
  intro k hk
  have := List.all_eq_true.1 h k (List.mem_range.2 hk)
  simp only [Bool.or_eq_true] at this
  rcases this with h | h
  · exact .inl (isTop_eq h)
  · exact .inr (veq_eq h)
noncomputable def midB (n : Nat) (rsw : RF) : FR → Bool := FR.rec false (fun rs _ _ => agreeB n rsw rs) (fun _ _ _ _ => false) (fun _ _ _ _ => false) (fun _ _ _ => false)
theorem opsGo_append (x : Cx) : ∀ (a b : List CI) (s : St), opsGo x (a ++ b) s = match opsGo x a s with | some s => opsGo x b s | none => none
  | [], _, _ => rfl
  | c :: a, b, s => by
    rw [List.cons_append, opsGo_cons, opsGo_cons]
    cases ciGo x c s with
    | none => rfl
    | some s1 => exact opsGo_append x a b s1

section
variable {C : Fix}
theorem law1 (K : FixOK C) {CP : Nat → Option CF} (hCP : CPOK C CP) (hG : C.G = fun _ => .none) (D N f : Nat) {fn : Func} {cf : CF} (hfn : C.P.funcs[f]? = some fn) (hcf : cfOf C f = some cf)
    (h1 : isSeq (bodyOf fn) = true) (h2 : isSeq (cSnd (bodyOf fn)) = true) (r1 : isReg (ccFst cf.code) = true) (r2 : isReg (ccFst (ccSnd cf.code)) = true) (p : pureL (ccOps (ccFst cf.code) ++ ccOps (ccFst (ccSnd cf.code))) = true)
    {rr : Nat} (hres : cf.res = [.tmp rr]) {args : List V} {rsw : RF} {v : V}
    (hA : midB cf.ntmps rsw ((denR (ccOps (ccFst cf.code) ++ ccOps (ccFst (ccSnd cf.code)))).run ⟨(fxN CP D N).call, (fxN CP D N).round, false⟩ (RF.of args) ⟨1, T.e⟩ [] .norm) = true)
    (hB : endsIn rr v ((den f cf.ntmps D (ccSnd (ccSnd cf.code))).run ⟨(fxN CP D N).call, (fxN CP D N).round, false⟩ rsw ⟨1, T.e⟩ []) = true)
    (w : World) {xs : List Value} (hv : VRs Gh.none args xs) :
    Calls C.P f xs.toArray w fun e w' => ∃ x, e = .returned x ∧ (∃ g', VR g' v x) ∧ Go.RowKit.Below w.heap.size w w' := by
  have hx := fxN_ok K hCP D N
  obtain ⟨fn', c, hfn', hbody, hcode, hnt, hcr, _, h256⟩ := cfOf_ok hcf
  rw [hfn] at hfn'; cases hfn'
  have hbc : bodyOf fn = c := by unfold bodyOf; rw [hbody]; rfl
  rw [hbc] at h1 h2
  have hc := seq_of h1
  have hc2 := seq_of h2
  have e1 : cf.code = .seq (comp (C.at fn.ntmps) (cFst c)) (.seq (comp (C.at fn.ntmps) (cFst (cSnd c))) (comp (C.at fn.ntmps) (cSnd (cSnd c)))) := by
    rw [hcode]
    conv => lhs; rw [hc, hc2]
    rfl
  rw [e1] at r1 r2 p hA hB
  simp only [ccFst, ccSnd] at r1 r2 p hA hB
  have hr1 := reg_of r1
  have hr2 := reg_of r2
  rw [denR_eq] at hA
  obtain ⟨e, s', he, hopt, hds, hget⟩ := endsIn_inv hB
  rw [(den_eq f cf.ntmps D _).1] at hopt
  have hB' : ev ⟨(fxN CP D N).cx.call, (fxN CP D N).cx.round, false⟩ f cf.ntmps (2 ^ D) (comp (C.at fn.ntmps) (cSnd (cSnd c))) none ⟨rsw, ⟨1, T.e⟩, []⟩ = some (e, s') := hopt
  have hB' := hB'
  rw [hnt] at hB'
  have hA' : ∃ s1 s2, opsGo ⟨(fxN CP D N).cx.call, (fxN CP D N).cx.round, false⟩ (ccOps (comp (C.at fn.ntmps) (cFst c))) ⟨RF.of args, ⟨1, T.e⟩, []⟩ = some s1 ∧
      opsGo ⟨(fxN CP D N).cx.call, (fxN CP D N).cx.round, false⟩ (ccOps (comp (C.at fn.ntmps) (cFst (cSnd c)))) s1 = some s2 ∧ s2.h = ⟨1, T.e⟩ ∧ s2.ds = [] ∧ agreeB cf.ntmps rsw s2.rs = true := by
    have hA : midB cf.ntmps rsw (upS (opsGo ⟨(fxN CP D N).cx.call, (fxN CP D N).cx.round, false⟩ (ccOps (comp (C.at fn.ntmps) (cFst c)) ++ ccOps (comp (C.at fn.ntmps) (cFst (cSnd c)))) ⟨RF.of args, ⟨1, T.e⟩, []⟩) .norm) = true := hA
    cases hg : opsGo ⟨(fxN CP D N).cx.call, (fxN CP D N).cx.round, false⟩ (ccOps (comp (C.at fn.ntmps) (cFst c)) ++ ccOps (comp (C.at fn.ntmps) (cFst (cSnd c)))) ⟨RF.of args, ⟨1, T.e⟩, []⟩ with
    | none => rw [hg] at hA; cases hA
    | some s2 =>
      rw [hg] at hA
      obtain ⟨q1, q2⟩ := pureL_h p hg
      rw [opsGo_append] at hg
      split at hg
      · rename_i s1 hs1
        exact ⟨s1, s2, hs1, hg, q1, q2, hA⟩
      · cases hg
  obtain ⟨s1, s2, ha1, ha2, hh, hd2, hag⟩ := hA'
  have hagree := agreeB_ok hag
  have hmono : (⟨1, T.e⟩ : H).next ≤ s'.h.next := ev_next hx.mono _ _ _ _ _ hB'
  have hm1 : s1.h.next = 1 ∧ True := by
    have m1 := opsGo_next hx.mono ha1
    have m2 := opsGo_next hx.mono ha2
    rw [hh] at m2
    have m1 : 1 ≤ s1.h.next := m1
    have m2 : s1.h.next ≤ 1 := m2
    exact ⟨by omega, trivial⟩
  have hdef : defGo (fxN CP D N).cx.call s'.ds s'.h = some s'.h := by rw [hds]; rfl
  have hro : resOf s'.rs s'.h cf.res = some v := by
    rw [hres]
    show (match (match resV s'.rs s'.h (.tmp rr), resVs s'.rs s'.h [] with | some v, some l => some (v :: l) | _, _ => none) with | some [v] => some v | some vs => some (.tup vs) | none => none) = some v
    show some (getR s'.rs rr) = some v
    rw [hget]
  have main := calls_outc K hx (f := f) (fn := fn) (c := c) (res := cf.res) (args := args) (h := ⟨1, T.e⟩) (h' := s'.h) (s := s') (e := e) (v := v) hfn hbody hcr h256 he
    (by
      intro b cs n0 hb hrd hk
      subst hb
      rw [hc, hc2]
      have E1 : ev ⟨(fxN CP D N).cx.call, (fxN CP D N).cx.round, false⟩ b.fn fn.ntmps (2 ^ D) (comp (C.at fn.ntmps) (cFst c)) none ⟨RF.of args, ⟨1, T.e⟩, []⟩ = some (.norm, s1) := by
        rw [hr1, ev_reg, ha1]
      have E2 : ev ⟨(fxN CP D N).cx.call, (fxN CP D N).cx.round, false⟩ b.fn fn.ntmps (2 ^ D) (comp (C.at fn.ntmps) (cFst (cSnd c))) none s1 = some (.norm, s2) := by
        rw [hr2, ev_reg, ha2]
      have O1 := outc_ev (n0 := n0) K hx hrd hk E1
      have O2 := outc_ev (n0 := n0) K hx hrd hk E2
      have O3 := outc_ev (n0 := n0) K hx hrd hk hB'
      have O3' := Outc.weak (C := C.at fn.ntmps) (s := s2) hh.symm hd2.symm (fun k hk => hagree k (by rw [hnt]; exact hk)) O3
      have n2 : s2.h.next ≤ s'.h.next := by rw [hh]; exact hmono
      exact Outc.seq (s1 := s1) (by rw [hm1.1]; exact hmono) (by rw [hm1.1]; exact Nat.le_refl _) O1 (Outc.seq (s1 := s2) n2 (by rw [hm1.1, hh]; exact Nat.le_refl _) O2 O3'))
    hdef hro (g := Gh.none) (w := w) (xs := xs) (fun k cs h => by rw [hG] at h; cases h) (Rel.none w 1) hv (fun _ _ _ => rfl)
  refine main.mono ?_
  rintro e w' ⟨g', x, rfl, hx', _, E⟩
  exact ⟨x, rfl, ⟨g', hx'⟩, E.below⟩
end
end Ax
