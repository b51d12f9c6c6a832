/- The abstract executor, part 21: code is what its compiled form does. -/
import Derived.Test.YtapplfjimaghbaaGreatAx5
set_option linter.all false
namespace Ax
open Go

/-- How code is left, as the machine stands then. -/
def Arr (P : Program) (m : Machine) (b : Frame) (k : List Item) (cs : List Frame) : Ex → Act → World → Prop
  | .norm, a, w => Steps P m (lone (b.atR a k) cs w)
  | .exit id, a, w => (∀ k', exitTo id k = some k' → Steps P m (lone (b.atR a k') cs w)) ∧ (exitTo id k = none → ∃ k₁, exitTo id k₁ = none ∧ Steps P m (lone (b.atR a (.code (.exit id) :: k₁)) cs w))
  | .goto l, a, w => (∀ k', gotoIn l k = some k' → Steps P m (lone (b.atR a k') cs w)) ∧ (gotoIn l k = none → ∃ k₁, gotoIn l k₁ = none ∧ Steps P m (lone (b.atR a (.code (.goto l) :: k₁)) cs w))
  | .ret, a, w => ∃ k₁, Steps P m (lone (b.atR a (.code .ret :: k₁)) cs w)
theorem Arr.of_steps {P : Program} {m m₁ : Machine} {b : Frame} {k : List Item} {cs : List Frame} {e : Ex} {a : Act} {w : World} (h : Steps P m m₁) (h' : Arr P m₁ b k cs e a w) : Arr P m b k cs e a w := by
  cases e with
  | norm => exact h.trans h'
  | exit id => exact ⟨fun k' hk => h.trans (h'.1 k' hk), fun hk => let ⟨k₁, h1, h2⟩ := h'.2 hk; ⟨k₁, h1, h.trans h2⟩⟩
  | goto l => exact ⟨fun k' hk => h.trans (h'.1 k' hk), fun hk => let ⟨k₁, h1, h2⟩ := h'.2 hk; ⟨k₁, h1, h.trans h2⟩⟩
  | ret => obtain ⟨k₁, hs⟩ := h'; exact ⟨k₁, h.trans hs⟩
theorem Arr.pass {P : Program} {m : Machine} {b : Frame} {y : Item} {k : List Item} {cs : List Frame} {e : Ex} {a : Act} {w : World} (hy : y.plain = true) (he : e ≠ .norm) (h : Arr P m b (y :: k) cs e a w) : Arr P m b k cs e a w := by
  cases e with
  | norm => exact absurd rfl he
  | exit id => exact ⟨fun k' hk => h.1 k' (by rw [exitTo_plain hy]; exact hk), fun hk => h.2 (by rw [exitTo_plain hy]; exact hk)⟩
  | goto l => exact ⟨fun k' hk => h.1 k' (by rw [gotoIn_plain hy]; exact hk), fun hk => h.2 (by rw [gotoIn_plain hy]; exact hk)⟩
  | ret => exact h

def comp (C : Fix) : Code → CC
  | .skip => .skip
  | .region _ ops draw => if draw then compD C ops else .reg (ops.toList.map (cCI C ops))
  | .seq a b => .seq (comp C a) (comp C b)
  | .cond c a b => match cX C c with | some y => .cond y (comp C a) (comp C b) | none => .bad
  | .block id b => .block id (comp C b)
  | .loop b => .loop (comp C b)
  | .exit id => .exit id
  | .goto l => .goto l
  | .ret => .ret
  | .scope b => .scope (comp C b)
  | .label l => .label l
  | .rangeFunc f ps as bd => match cX C f with | some y => .rng y ps.toList (comp C as) (comp C bd) | none => .bad
  | .refuse _ => .bad

theorem hasLab_comp (C : Fix) (l : Nat) : ∀ c : Code, hasLab l (comp C c) = (findLabel c l).isSome := by
  intro c
  induction c with
  | seq a b ia ib =>
    simp only [comp, hasLab, findLabel, ia, ib]
    cases findLabel a l <;> simp
  | label l' =>
    simp only [comp, hasLab, findLabel]
    by_cases h : l' = l
    · subst h; simp
    · have : Nat.beq l' l = false := by
        cases hb : Nat.beq l' l with
        | false => rfl
        | true => exact absurd (Nat.eq_of_beq_eq_true hb) h
      simp [this, h]
  | region id ops draw =>
    simp only [comp]
    cases draw with
    | false => rfl
    | true =>
      show hasLab l (compD C ops) = _
      unfold compD
      simp only
      split <;> rfl
  | cond c a b => simp only [comp]; cases cX C c <;> rfl
  | rangeFunc f ps a b => simp only [comp]; cases cX C f <;> rfl
  | _ => rfl

section
variable {C : Fix} {Q : Nat → CC → Code → Prop} {x : Cx}

theorem ops_sound (K : FixOK C) (hx : CxOK C Q x) {b : Frame} (hR : x.inR = b.roundOf.isSome) {cs : List Frame} (hk : x.inR = false → KindOK b.kind cs) {k : List Item} {ops : Array Oper} {n0 : Nat} :
    ∀ (n i : Nat) (g : Gh) (s s' : St) (a : Act) (w : World), i + n = ops.size → opsGo x ((ops.toList.drop i).map (cCI C ops)) s = some s' → StR C Q n0 g s a w → Fresh g s.h.next s'.h.next →
      ∃ g' a' w', Steps C.P (lone (b.atR a (.inRegion ops (List.range' i n) :: k)) cs w) (lone (b.atR a' k) cs w') ∧ StR C Q n0 g' s' a' w' ∧ Ext g s.h w g' s'.h w' := by
  intro n
  induction n with
  | zero =>
    intro i g s s' a w hi hs st hf
    rw [List.drop_eq_nil_of_le (by simp; omega)] at hs
    cases hs
    exact ⟨g, a, w, .one stepR_region_end, st, Ext.refl _ _ _⟩
  | succ n ih =>
    intro i g s s' a w hi hs st hf
    have hlt : i < ops.size := by omega
    rw [List.drop_eq_getElem_cons (by simpa using hlt), List.map_cons, opsGo_cons] at hs
    split at hs
    · rename_i s1 h1
      have ho : ops[i]? = some ops[i] := Array.getElem?_eq_getElem hlt
      have m1 := ciGo_next hx.mono h1
      have m2 := opsGo_next hx.mono hs
      obtain ⟨g1, a1, w1, t1, st1, E1⟩ := ci_sound K hx hR hk (k := k) (rest := List.range' (i + 1) n) ho (by simpa using h1) st (hf.sub (Nat.le_refl _) m2)
      obtain ⟨g2, a2, w2, t2, st2, E2⟩ := ih (i + 1) g1 s1 s' a1 w1 (by omega) hs st1 ((E1.fresh hf))
      refine ⟨g2, a2, w2, ?_, st2, E1.trans E2⟩
      rw [List.range'_succ]
      exact t1.trans t2
    · cases hs

/-- What the run of a piece of code comes to. -/
def Outc (C : Fix) (Q : Nat → CC → Code → Prop) (n0 : Nat) (b : Frame) (cs : List Frame) (c : Code) (e : Ex) (s s' : St) : Prop :=
  ∀ (g : Gh) (a : Act) (w : World), StR C Q n0 g s a w → Fresh g s.h.next s'.h.next → ∀ k : List Item, ∃ g' a' w', Arr C.P (lone (b.atR a (.code c :: k)) cs w) b k cs e a' w' ∧ StR C Q n0 g' s' a' w' ∧ Ext g s.h w g' s'.h w'

theorem stepR_scope {P : Program} {b : Frame} {a : Act} {k : List Item} {cs : List Frame} {w : World} {c : Code} :
    step P (lone (b.atR a (.code (.scope c) :: k)) cs w) = .next (lone (b.atR a (.code c :: .inScope c :: k)) cs w) :=
  step_lone_go (by simp [stepG, stepG.exec, Frame.atR])
theorem stepR_inScope {P : Program} {b : Frame} {a : Act} {k : List Item} {cs : List Frame} {w : World} {c : Code} :
    step P (lone (b.atR a (.inScope c :: k)) cs w) = .next (lone (b.atR a k) cs w) :=
  step_lone_go (by simp [stepG, stepG.exec, Frame.atR])

theorem Outc.seq {n0 : Nat} {b : Frame} {cs : List Frame} {c d : Code} {s s1 s' : St} {e : Ex} (hn : s1.h.next ≤ s'.h.next) (hn0 : s.h.next ≤ s1.h.next) (h1 : Outc C Q n0 b cs c .norm s s1) (h2 : Outc C Q n0 b cs d e s1 s') : Outc C Q n0 b cs (.seq c d) e s s' := by
  intro g a w st hf k
  obtain ⟨g1, a1, w1, A1, st1, E1⟩ := h1 g a w st (hf.sub (Nat.le_refl _) hn) (.code d :: k)
  obtain ⟨g2, a2, w2, A2, st2, E2⟩ := h2 g1 a1 w1 st1 (E1.fresh hf) k
  exact ⟨g2, a2, w2, .of_steps (.head stepR_seq A1) A2, st2, E1.trans E2⟩
theorem Outc.seq_out {n0 : Nat} {b : Frame} {cs : List Frame} {c d : Code} {s s' : St} {e : Ex} (he : e ≠ .norm) (h1 : Outc C Q n0 b cs c e s s') : Outc C Q n0 b cs (.seq c d) e s s' := by
  intro g a w st hf k
  obtain ⟨g1, a1, w1, A1, st1, E1⟩ := h1 g a w st hf (.code d :: k)
  exact ⟨g1, a1, w1, .of_steps (.one stepR_seq) (A1.pass rfl he), st1, E1⟩

/-- A loop, from where its body is to be run once more. -/
theorem loop_sound {n0 : Nat} {b : Frame} {cs : List Frame} {c : Code} {body : St → Option (Ex × St)} (hb : ∀ s e s', body s = some (e, s') → Outc C Q n0 b cs c e s s') (hm : ∀ s e s', body s = some (e, s') → s.h.next ≤ s'.h.next) :
    ∀ (n : Nat) (s : St) (e : Ex) (s' : St), loopGo body n s = some (e, s') → ∀ (g : Gh) (a : Act) (w : World), StR C Q n0 g s a w → Fresh g s.h.next s'.h.next → ∀ k : List Item,
      ∃ g' a' w', Arr C.P (lone (b.atR a (.code c :: .inLoop c :: k)) cs w) b k cs e a' w' ∧ StR C Q n0 g' s' a' w' ∧ Ext g s.h w g' s'.h w'
  | 0, _, _, _, hs => by cases hs
  | n + 1, s, e, s', hs => by
    intro g a w st hf k
    rw [loopGo_succ] at hs
    split at hs
    · rename_i s1 h1
      have m2 := loopGo_next hm n s1 e s' hs
      obtain ⟨g1, a1, w1, A1, st1, E1⟩ := hb s .norm s1 h1 g a w st (hf.sub (Nat.le_refl _) m2) (.inLoop c :: k)
      obtain ⟨g2, a2, w2, A2, st2, E2⟩ := loop_sound hb hm n s1 e s' hs g1 a1 w1 st1 (E1.fresh hf) k
      exact ⟨g2, a2, w2, .of_steps (Steps.trans A1 (.one stepR_inLoop)) A2, st2, E1.trans E2⟩
    · rename_i hne
      have he : e ≠ .norm := by intro h; subst h; exact hne s' hs
      obtain ⟨g1, a1, w1, A1, st1, E1⟩ := hb s e s' hs g a w st hf (.inLoop c :: k)
      exact ⟨g1, a1, w1, A1.pass rfl he, st1, E1⟩

/-- A scope, from wherever in it. -/
theorem scope_sound {n0 : Nat} {b : Frame} {cs : List Frame} {c : Code} {body : Nat → St → Option (Ex × St)} (hb : ∀ l c0, findLabel c l = some c0 → ∀ s e s', body l s = some (e, s') → Outc C Q n0 b cs c0 e s s')
    (hm : ∀ l s e s', body l s = some (e, s') → s.h.next ≤ s'.h.next) :
    ∀ (n : Nat) (c0 : Code) (s : St) (r : Option (Ex × St)) (e : Ex) (s' : St), (∀ e1 s1, r = some (e1, s1) → s.h.next ≤ s1.h.next ∧ Outc C Q n0 b cs c0 e1 s s1) → scopeGo (fun l => (findLabel c l).isSome) body n r = some (e, s') → ∀ (g : Gh) (a : Act) (w : World), StR C Q n0 g s a w → Fresh g s.h.next s'.h.next → ∀ k : List Item,
      ∃ g' a' w', Arr C.P (lone (b.atR a (.code c0 :: .inScope c :: k)) cs w) b k cs e a' w' ∧ StR C Q n0 g' s' a' w' ∧ Ext g s.h w g' s'.h w'
  | 0, _, _, _, _, _, _, hs => by cases hs
  | n + 1, c0, s, r, e, s', hr, hs => by
    intro g a w st hf k
    rw [scopeGo_succ] at hs
    split at hs
    · rename_i l s1
      obtain ⟨hm1, h1⟩ := hr _ _ rfl
      cases hl : findLabel c l with
      | none =>
        simp only [hl, Option.isSome_none, Bool.false_eq_true, if_false, Option.some.injEq, Prod.mk.injEq] at hs
        obtain ⟨rfl, rfl⟩ := hs
        obtain ⟨g1, a1, w1, A1, st1, E1⟩ := h1 g a w st hf (.inScope c :: k)
        refine ⟨g1, a1, w1, ⟨fun k' hk => A1.1 k' (by simp [gotoIn, hl, hk]), fun hk => A1.2 (by simp [gotoIn, hl, hk])⟩, st1, E1⟩
      | some c1 =>
        simp only [hl, Option.isSome_some, if_true] at hs
        have m2 := scopeGo_next hm s1.h.next n (body l s1) e s' (fun e2 s2 h2 => hm l s1 e2 s2 h2) hs
        obtain ⟨g1, a1, w1, A1, st1, E1⟩ := h1 g a w st (hf.sub (Nat.le_refl _) m2) (.inScope c :: k)
        obtain ⟨g2, a2, w2, A2, st2, E2⟩ := scope_sound hb hm n c1 s1 (body l s1) e s' (fun e2 s2 h2 => ⟨hm l s1 e2 s2 h2, hb l c1 hl s1 e2 s2 h2⟩) hs g1 a1 w1 st1 (E1.fresh hf) k
        exact ⟨g2, a2, w2, .of_steps (A1.1 (.code c1 :: .inScope c :: k) (by simp [gotoIn, hl])) A2, st2, E1.trans E2⟩
    · rename_i hne
      obtain ⟨_, h1⟩ := hr _ _ hs
      obtain ⟨g1, a1, w1, A1, st1, E1⟩ := h1 g a w st hf (.inScope c :: k)
      refine ⟨g1, a1, w1, ?_, st1, E1⟩
      cases e with
      | norm => exact Steps.trans A1 (.one stepR_inScope)
      | exit id => exact ⟨fun k' hk => A1.1 k' (by simp [exitTo, hk]), fun hk => A1.2 (by simp [exitTo, hk])⟩
      | goto l => exact absurd hs (hne l s')
      | ret => exact A1
end
end Ax

/- The abstract executor, part 22: code is what its compiled form does (joined). -/
namespace Ax
open Go

section
variable {C : Fix} {Q : Nat → CC → Code → Prop} {x : Cx}

theorem StR.drew {n0 : Nat} {g : Gh} {s : St} {a : Act} {w : World} (st : StR C Q n0 g s a w) : StR C Q n0 g s a { w with drawn := w.drawn + 1 } :=
  ⟨st.rs, ⟨st.rel.own, st.rel.inj, st.rel.frz, st.rel.bnd, st.rel.nxt⟩, st.ds.ext (Ext.drew g s.h w), st.gl, st.sz⟩
theorem code_sound (K : FixOK C) (hx : CxOK C Q x) {b : Frame} (hR : x.inR = b.roundOf.isSome) {cs : List Frame} (hk : x.inR = false → KindOK b.kind cs) {n0 fn F : Nat}
    (hrng : ∀ f y ps as bd s e s', cX C f = some y → rngGo x fn C.n y ps.toList (comp C as) (comp C bd) s = some (e, s') → Outc C Q n0 b cs (.rangeFunc f ps as bd) e s s') :
    ∀ (c : Code) (fr : Option Nat) (s : St) (e : Ex) (s' : St), ev x fn C.n F (comp C c) fr s = some (e, s') → ∀ c0, (match fr with | none => c0 = c | some l => findLabel c l = some c0) → Outc C Q n0 b cs c0 e s s' := by
  intro c
  induction c with
  | skip =>
    intro fr s e s' hs c0 h0
    cases fr with
    | some l => cases h0
    | none =>
      simp only at h0; subst h0
      cases hs
      exact fun g a w st _ k => ⟨g, a, w, .one stepR_skip, st, Ext.refl _ _ _⟩
  | region id ops draw =>
    intro fr s e s' hs c0 h0
    cases fr with
    | some l => cases h0
    | none =>
      simp only at h0; subst h0
      cases draw with
      | true =>
        have hs : ev x fn C.n F (compD C ops) none s = some (e, s') := hs
        unfold compD at hs
        simp only [cOf_eq] at hs
        split at hs
        · rename_i hplan
          simp only [Bool.and_eq_true] at hplan
          have PK := plan_ok hplan.1 hplan.2
          generalize greedy (msOf ops) (fun i => ((List.map (cCI C ops) ops.toList).getD i ⟨none, .bad, none⟩).kd) ops.size (List.range ops.size) (2 ^ ops.size - 1) = ord at hs PK
          have hs : (match dreg x (ord.map (ent (cOf C ops))) (chkOf (cOf C ops) (msOf ops) (effs (cOf C ops) ord) ord) s with | some s => some (Ex.norm, s) | none => none) = some (e, s') := hs
          split at hs
          · rename_i s1 h1
            cases hs
            intro g a w st hf k
            have st1 : StR C Q n0 g s a { w with drawn := w.drawn + 1 } := st.drew
            obtain ⟨g', a', w', t, st', E⟩ := draw_sound K hx PK hR hk (k := k) h1 st1 hf (lin_any ops hplan.1 (w.tape w.drawn (.order b.fn id)))
            refine ⟨g', a', w', .head stepR_region_draw ?_, st', (Ext.drew g s.h w).trans E⟩
            have e : Region.schedule (C.P.follows .mixedOrders) ops (w.tape w.drawn (.order b.fn id)) = Region.linearise .any ops (w.tape w.drawn (.order b.fn id)) := by simp [Region.schedule, K.mixed]
            rw [e]
            exact t
          · cases hs
        · cases hs
      | false =>
        have hs : (match opsGo x (ops.toList.map (cCI C ops)) s with | some s => some (Ex.norm, s) | none => none) = some (e, s') := hs
        split at hs
        · rename_i s1 h1
          cases hs
          intro g a w st hf k
          obtain ⟨g', a', w', t, st', E⟩ := ops_sound K hx hR hk (k := k) (ops := ops) ops.size 0 g s s' a w (by omega) (by simpa using h1) st hf
          refine ⟨g', a', w', .head stepR_region ?_, st', E⟩
          rw [List.range_eq_range']
          exact t
        · cases hs
  | seq c d ic id =>
    intro fr s e s' hs c0 h0
    cases fr with
    | none =>
      simp only at h0; subst h0
      rw [comp, ev_seq] at hs
      split at hs
      · rename_i s1 h1
        exact Outc.seq (ev_next hx.mono _ _ _ _ _ hs) (ev_next hx.mono _ _ _ _ _ h1) (ic none s _ s1 h1 c rfl) (id none s1 e s' hs d rfl)
      · rename_i hne
        exact Outc.seq_out (fun h => by subst h; exact hne s' hs) (ic none s e s' hs c rfl)
    | some l =>
      simp only [findLabel] at h0
      rw [comp, ev_seq_from, hasLab_comp] at hs
      split at h0
      · rename_i rest hrest
        cases h0
        rw [hrest] at hs
        simp only [Option.isSome_some, if_true] at hs
        split at hs
        · rename_i s1 h1
          exact Outc.seq (ev_next hx.mono _ _ _ _ _ hs) (ev_next hx.mono _ _ _ _ _ h1) (ic (some l) s _ s1 h1 rest hrest) (id none s1 e s' hs d rfl)
        · rename_i hne
          exact Outc.seq_out (fun h => by subst h; exact hne s' hs) (ic (some l) s e s' hs rest hrest)
      · rename_i hnone
        rw [hnone] at hs
        simp only [Option.isSome_none, Bool.false_eq_true, if_false] at hs
        exact id (some l) s e s' hs c0 h0
  | cond y c d ic id =>
    intro fr s e s' hs c0 h0
    cases fr with
    | some l => cases h0
    | none =>
      simp only at h0; subst h0
      simp only [comp] at hs
      split at hs
      · rename_i y' hy
        rw [ev_cond] at hs
        split at hs
        · rename_i t ht
          intro g a w st hf k
          have hv := st.eval _ _ hy
          rw [ht] at hv
          have hc := hv.b_inv
          cases t with
          | true =>
            obtain ⟨g', a', w', A, st', E⟩ := ic none s e s' hs c rfl g a w st hf k
            exact ⟨g', a', w', .of_steps (.one (stepR_cond hc)) A, st', E⟩
          | false =>
            obtain ⟨g', a', w', A, st', E⟩ := id none s e s' hs d rfl g a w st hf k
            exact ⟨g', a', w', .of_steps (.one (stepR_cond hc)) A, st', E⟩
        · cases hs
      · cases hs
  | block i c ic =>
    intro fr s e s' hs c0 h0
    cases fr with
    | some l => cases h0
    | none =>
      simp only at h0; subst h0
      rw [comp, ev_block] at hs
      split at hs
      · rename_i j s1 h1
        split at hs
        · rename_i hj
          cases hs
          intro g a w st hf k
          obtain ⟨g', a', w', A, st', E⟩ := ic none s _ s' h1 c rfl g a w st hf (.inBlock i :: k)
          exact ⟨g', a', w', .head stepR_block (A.1 k (by simp [exitTo, hj])), st', E⟩
        · rename_i hj
          cases hs
          intro g a w st hf k
          obtain ⟨g', a', w', A, st', E⟩ := ic none s _ s' h1 c rfl g a w st hf (.inBlock i :: k)
          have hne : (i == j) = false := by simp; exact fun h => hj h.symm
          exact ⟨g', a', w', .of_steps (e := .exit j) (.one stepR_block) ⟨fun k' hk => A.1 k' (by simp [exitTo, hne, hk]), fun hk => A.2 (by simp [exitTo, hne, hk])⟩, st', E⟩
      · rename_i hne
        intro g a w st hf k
        obtain ⟨g', a', w', A, st', E⟩ := ic none s e s' hs c rfl g a w st hf (.inBlock i :: k)
        refine ⟨g', a', w', ?_, st', E⟩
        cases e with
        | norm => exact .head stepR_block (Steps.trans A (.one stepR_inBlock))
        | exit j => exact absurd hs (hne j s')
        | goto l => exact .of_steps (e := .goto l) (.one stepR_block) ⟨fun k' hk => A.1 k' (by simp [gotoIn, hk]), fun hk => A.2 (by simp [gotoIn, hk])⟩
        | ret => exact .of_steps (e := .ret) (.one stepR_block) A
  | loop c ic =>
    intro fr s e s' hs c0 h0
    cases fr with
    | some l => cases h0
    | none =>
      simp only at h0; subst h0
      rw [comp, ev_loop] at hs
      intro g a w st hf k
      obtain ⟨g', a', w', A, st', E⟩ := loop_sound (c := c) (fun s e s' h => ic none s e s' h c rfl) (fun s e s' h => ev_next hx.mono _ _ _ _ _ h) F s e s' hs g a w st hf k
      exact ⟨g', a', w', .of_steps (.one stepR_loop) A, st', E⟩
  | rangeFunc f ps as bd _ _ =>
    intro fr s e s' hs c0 h0
    cases fr with
    | some l => cases h0
    | none =>
      simp only at h0; subst h0
      simp only [comp] at hs
      split at hs
      · rename_i y hy
        exact hrng f y ps as bd s e s' hy hs
      · cases hs
  | exit i =>
    intro fr s e s' hs c0 h0
    cases fr with
    | some l => cases h0
    | none =>
      simp only at h0; subst h0
      cases hs
      exact fun g a w st _ k => ⟨g, a, w, ⟨fun k' hk => .one (stepR_exit hk), fun hk => ⟨k, hk, .refl _ _⟩⟩, st, Ext.refl _ _ _⟩
  | scope c ic =>
    intro fr s e s' hs c0 h0
    cases fr with
    | some l => cases h0
    | none =>
      simp only at h0; subst h0
      rw [comp, ev_scope] at hs
      have heq : (fun l => hasLab l (comp C c)) = fun l => (findLabel c l).isSome := funext fun l => hasLab_comp C l c
      rw [heq] at hs
      intro g a w st hf k
      obtain ⟨g', a', w', A, st', E⟩ := scope_sound (c := c) (body := fun l s => ev x fn C.n F (comp C c) (some l) s) (fun l c1 hl s e s' h => ic (some l) s e s' h c1 hl) (fun l s e s' h => ev_next hx.mono _ _ _ _ _ h) F c s _ e s'
        (fun e1 s1 h1 => ⟨ev_next hx.mono _ _ _ _ _ h1, ic none s e1 s1 h1 c rfl⟩) hs g a w st hf k
      exact ⟨g', a', w', .of_steps (.one stepR_scope) A, st', E⟩
  | label l' =>
    intro fr s e s' hs c0 h0
    cases fr with
    | none =>
      simp only at h0; subst h0
      cases hs
      exact fun g a w st _ k => ⟨g, a, w, .one stepR_label, st, Ext.refl _ _ _⟩
    | some l =>
      rw [comp, ev_label_from] at hs
      simp only [findLabel] at h0
      split at h0
      · cases h0
        split at hs
        · cases hs
          exact fun g a w st _ k => ⟨g, a, w, .one stepR_skip, st, Ext.refl _ _ _⟩
        · cases hs
      · cases h0
  | goto l' =>
    intro fr s e s' hs c0 h0
    cases fr with
    | some l => cases h0
    | none =>
      simp only at h0; subst h0
      cases hs
      exact fun g a w st _ k => ⟨g, a, w, ⟨fun k' hk => .one (stepR_goto hk), fun hk => ⟨k, hk, .refl _ _⟩⟩, st, Ext.refl _ _ _⟩
  | ret =>
    intro fr s e s' hs c0 h0
    cases fr with
    | some l => cases h0
    | none =>
      simp only at h0; subst h0
      cases hs
      exact fun g a w st _ k => ⟨g, a, w, ⟨k, .refl _ _⟩, st, Ext.refl _ _ _⟩
  | refuse why =>
    intro fr s e s' hs c0 h0
    cases hs
end
end Ax

/- The abstract executor, part 23: results. -/
namespace Ax
open Go

section
variable {C : Fix} {Q : Nat → CC → Code → Prop} {g : Gh} {h : H} {w : World} {rs : RF} {tmps : Array Value}

def cRes (C : Fix) : ResultVar → Option CRes
  | .tmp t => if t < C.n then some (.tmp t) else none
  | .cell a t => if a < C.n then (C.tt t).map fun ti => .cell a ti.n (TypeDesc.isAggB ti.d) else none
def cRess (C : Fix) : List ResultVar → Option (List CRes)
  | [] => some []
  | c :: r => match cRes C c, cRess C r with | some v, some l => some (v :: l) | _, _ => none

def resSem (tmps : Array Value) : ResultVar → Sem Value
  | .tmp t => pure (tmps.getD t undef)
  | .cell a t => do loadVar t (← asAddr (tmps.getD a undef))

theorem resV_sound (hT : TTok C.P C.tt) (r : Rel Q g h w) (hv : RR C.n g rs tmps) {rv : ResultVar} {c : CRes} (hc : cRes C rv = some c) {v : V} (hs : resV rs h c = some v) : ∃ x, (resSem tmps rv).run C.P w = .ok x w ∧ VR g v x := by
  cases rv with
  | tmp t =>
    simp only [cRes] at hc
    split at hc
    · rename_i ht
      cases hc
      simp only [resV, Option.some.injEq] at hs; subst hs
      exact ⟨_, rfl, hv.at' t ht⟩
    · cases hc
  | cell a t =>
    simp only [cRes] at hc
    split at hc
    rotate_left
    · cases hc
    rename_i hat
    simp only [Option.map_eq_some_iff] at hc
    obtain ⟨ti, hti, rfl⟩ := hc
    have hva := hv.at' a hat
    simp only [resV] at hs
    split at hs
    · rename_i hd
      simp only [Option.map_eq_some_iff] at hs
      obtain ⟨vs, hvs, rfl⟩ := hs
      obtain ⟨ad, xs, hxa, hlen, hcx, hr⟩ := ldC_sound r hvs hva
      refine ⟨_, ?_, .agg hr⟩
      have := run_loadCells_list (P := C.P) w ad xs hcx
      rw [hlen] at this
      simp [resSem, hxa, asAddr, loadVar, run_isAgg hT hti, hd, run_siz hT hti, this]
    · rename_i hd
      split at hs
      · rename_i v' hvs
        cases hs
        obtain ⟨ad, xs, hxa, hlen, hcx, hr⟩ := ldC_sound r hvs hva
        cases hr with
        | cons hvx hn =>
          rename_i x0 xs'
          refine ⟨x0, ?_, hvx⟩
          have := hcx 0 x0 rfl
          rw [Addr.add_zero'] at this
          have hd' : TypeDesc.isAggB ti.d = false := by simpa using hd
          simp [resSem, hxa, asAddr, loadVar, run_isAgg hT hti, hd', this]
      · cases hs

theorem resVs_sound (hT : TTok C.P C.tt) (r : Rel Q g h w) (hv : RR C.n g rs tmps) : ∀ {l : List ResultVar} {cs : List CRes}, cRess C l = some cs → ∀ {vs : List V}, resVs rs h cs = some vs → ∃ xs, (l.mapM (resSem tmps)).run C.P w = .ok xs w ∧ VRs g vs xs
  | [], cs, hc, vs, hs => by
    simp only [cRess, Option.some.injEq] at hc; subst hc
    simp only [resVs, Option.some.injEq] at hs; subst hs
    exact ⟨[], by simp, .nil⟩
  | rv :: l, cs, hc, vs, hs => by
    simp only [cRess] at hc
    split at hc
    · rename_i c cs' h1 h2
      cases hc
      simp only [resVs] at hs
      split at hs
      · rename_i v vs' h3 h4
        cases hs
        obtain ⟨x, e1, q1⟩ := resV_sound hT r hv h1 h3
        obtain ⟨xs, e2, q2⟩ := resVs_sound hT r hv h2 h4
        exact ⟨x :: xs, by simp [List.mapM_cons, e1, e2], .cons q1 q2⟩
      · cases hs
    · cases hc

theorem res_sound (hT : TTok C.P C.tt) (r : Rel Q g h w) (hv : RR C.n g rs tmps) {fn : Func} {cs : List CRes} (hc : cRess C fn.results.toList = some cs) {v : V} (hs : resOf rs h cs = some v) : ∃ x, (results fn tmps).run C.P w = .ok x w ∧ VR g v x := by
  have hres : ∀ xs : List Value, (fn.results.toList.mapM (resSem tmps)).run C.P w = .ok xs w → (results fn tmps).run C.P w = .ok (if h : xs.toArray.size = 1 then xs.toArray[0] else .tuple xs.toArray) w := by
    intro xs hx
    have e : results fn tmps = (do let vs ← fn.results.mapM (resSem tmps); pure (if h : vs.size = 1 then vs[0] else .tuple vs)) := by
      unfold results
      congr 1
    rw [e, Array.mapM_eq_mapM_toList]
    simp [hx]
  unfold resOf at hs
  split at hs
  · rename_i v' hvs
    cases hs
    obtain ⟨xs, e, q⟩ := resVs_sound hT r hv hc hvs
    cases q with
    | cons q1 q2 =>
      cases q2
      exact ⟨_, hres _ e, by simpa using q1⟩
  · rename_i vs hne hvs
    cases hs
    obtain ⟨xs, e, q⟩ := resVs_sound hT r hv hc hvs
    refine ⟨_, hres _ e, ?_⟩
    have hl : xs.length ≠ 1 := by
      intro h1
      rw [← q.length] at h1
      match vs, h1 with
      | [u], _ => exact hne u rfl
    simp [hl]
    exact .tup q
  · cases hs
end
end Ax

/- The abstract executor, part 24: deferred calls. -/
namespace Ax
open Go

section
variable {C : Fix} {Q : Nat → CC → Code → Prop}

/-- A block of the activation's own, not told of, turns. -/
theorem Ext.poke {g0 g : Gh} {h0 h : H} {w0 w : World} (E : Ext g0 h0 w0 g h w) (r : Nat) (hr : w0.heap.size ≤ r) (o : Go.Obj) : Ext g0 h0 w0 g h { w with heap := w.heap.setIfInBounds r o } := by
  refine ⟨E.φ, E.le, E.nx, by simpa using E.sz, ?_, E.os, E.tape, E.output⟩
  intro k hk hf
  obtain ⟨e1, e2, e3⟩ := E.free k hk hf
  refine ⟨?_, e2, e3⟩
  rw [← e1]
  show (w.heap.setIfInBounds r o)[k]? = _
  rw [Array.getElem?_setIfInBounds, if_neg (by omega)]
theorem Rel.poke {g : Gh} {h : H} {w : World} (R : Rel Q g h w) (r : Nat) (hf : ∀ id o e, h.get id = some o → g.φ id = some e → e.blk ≠ r) (hF : g.F r = none) (o : Go.Obj) : Rel Q g h { w with heap := w.heap.setIfInBounds r o } := by
  refine ⟨?_, R.inj, ?_, ?_, R.nxt⟩
  · intro id ob hid
    obtain ⟨e, he, hor⟩ := R.own id ob hid
    refine ⟨e, he, ?_⟩
    show ORel Q g e ob (w.heap.setIfInBounds r o)[e.blk]?
    rw [Array.getElem?_setIfInBounds, if_neg (fun h => hf id ob e hid he h.symm)]
    exact hor
  · intro k a hk
    obtain ⟨⟨t, fr, hh⟩, hn⟩ := R.frz k a hk
    refine ⟨⟨t, fr, ?_⟩, hn⟩
    show (w.heap.setIfInBounds r o)[k]? = _
    rw [Array.getElem?_setIfInBounds, if_neg (fun h => by subst h; rw [hF] at hk; cases hk)]
    exact hh
  · intro id e he
    show e.blk < (w.heap.setIfInBounds r o).size
    simpa using R.bnd id e he
theorem DefR.poke {n0 : Nat} {g : Gh} {h : H} {w : World} {r : Nat} {o : Go.Obj} {ds : List (Nat × List V)} {l : List Deferred} (hd : DefR n0 g h w ds l) (hlt : ∀ d ∈ l, ∀ r', d.target = .collected r' → r' < r) :
    DefR n0 g h { w with heap := w.heap.setIfInBounds r o } ds l := by
  induction hd with
  | nil => exact .nil
  | call hv _ ih => exact .call hv (ih fun d hd => hlt d (.tail _ hd))
  | mark hr hb hf hF hl _ ih =>
    refine .mark hr ?_ hf hF hl (ih fun d hd => hlt d (.tail _ hd))
    show (w.heap.setIfInBounds r o)[_]? = _
    have := hlt _ (.head _) _ rfl
    rw [Array.getElem?_setIfInBounds, if_neg (by omega)]
    exact hb

theorem defGo_next {call : Fun} (hm : call.mono) : ∀ {ds : List (Nat × List V)} {h h' : H}, defGo call ds h = some h' → h.next ≤ h'.next
  | [], _, _, hs => by cases hs; exact Nat.le_refl _
  | (f, args) :: r, h, h', hs => by
    simp only [defGo] at hs
    split at hs
    · rename_i h1; exact Nat.le_trans (hm _ _ _ _ _ h1) (defGo_next hm hs)
    · cases hs

theorem def_sound {call : Fun} (hm : call.mono) (hc : CallOK C Q call) {g0 : Gh} {h0 : H} {w0 : World} {n0 : Nat} (hn0 : w0.heap.size ≤ n0) {l : List Deferred} : ∀ {ds : List (Nat × List V)} {g : Gh} {h h' : H} {w : World}, DefR n0 g h w ds l → defGo call ds h = some h' → GOK C g → Rel Q g h w → Fresh g h.next h'.next → Ext g0 h0 w0 g h w →
    ∀ (fr : Frame) (cs : List Frame), fr.mode = .returning → fr.defers = l → ∃ g' w', Steps C.P (lone fr cs w) (lone { fr with defers := [] } cs w') ∧ Rel Q g' h' w' ∧ Ext g0 h0 w0 g' h' w' ∧ g.le g' := by
  induction l with
  | nil =>
    intro ds g h h' w hd hs hg R hf E fr cs hmode hdef
    cases hd
    cases hs
    refine ⟨g, w, ?_, R, E, g.le_refl⟩
    have : ({ fr with defers := [] } : Frame) = fr := by cases fr; simp at hdef; simp [hdef]
    rw [this]; exact .refl _ _
  | cons d l ih =>
    intro ds g h h' w hd hs hg R hf E fr cs hmode hdef
    cases hd with
    | call hv hd =>
      rename_i f vs xs caps ds
      simp only [defGo] at hs
      split at hs
      · rename_i v h1 h1e
        have m2 := defGo_next hm hs
        obtain ⟨henter, hall⟩ := hc f vs h v h1 h1e g w _ hg R hv (hf.sub (Nat.le_refl _) m2)
        obtain ⟨g1, w1, y, frX, hsteps, hv1, R1, E1, hfn, hkind, hmode1, hdef1, fn, hfn2, hres⟩ := hall .deferred ({ fr with defers := l } :: cs) (.inr ⟨rfl, _, _, rfl, hmode⟩)
        have hi : (invoke (.fn (.func f) caps.toArray) xs.toArray).run C.P w = .ok (.enter f (xs ++ caps).toArray) w := by
          simpa [invoke] using henter
        have s1 := step_defer (P := C.P) (cs := cs) (fr := fr) (d := { target := .fn (.func f) caps.toArray, args := xs.toArray }) (by rw [hmode]; simp) hdef rfl hi
        have hgo : frX.going C.P w1 (.returned y) := ⟨hmode1, hdef1, fn, by rw [hfn]; exact hfn2, hres⟩
        have s2 := step_going_returned (P := C.P) (c := { fr with defers := l }) (cs := cs) hkind hgo
        have hset : settle ({ fr with defers := l } : Frame).mode = .returning := by simp [hmode, settle]
        rw [hset] at s2
        have heq : ({ ({ fr with defers := l } : Frame) with mode := .returning } : Frame) = { fr with defers := l } := by simp [← hmode]
        rw [heq] at s2
        obtain ⟨g2, w2, t, R2, E2, hle⟩ := ih (hd.ext E1) hs (hg.mono E1.le) R1 (E1.fresh hf) (E.trans E1) { fr with defers := l } cs hmode rfl
        exact ⟨g2, w2, .head s1 (hsteps.trans (.head s2 t)), R2, E2, Gh.le_trans E1.le hle⟩
      · cases hs
    | mark hr hb hfree hF hlt hd =>
      rename_i r
      obtain ⟨g2, w2, t, R2, E2, hle⟩ := ih (hd.poke (r := r) (o := .deferred none) hlt) hs hg (R.poke r hfree hF _) hf (E.poke r (by omega) _) { fr with defers := l } cs hmode rfl
      refine ⟨g2, w2, .head ?_ t, R2, E2, hle⟩
      refine step_lone_go ?_
      have htake : (Instr.takeDeferred r).run C.P w = .ok [] { w with heap := w.heap.setIfInBounds r (.deferred none) } := by
        simp [Instr.takeDeferred, getObj, setObj, Sem.run, hb, Result.andThen]
      simp [stepG, unwind, hmode, hdef, Sem.runT_eq, htake]
end
end Ax

/- The abstract executor, part 25: functions. -/
namespace Ax
open Go

/-- What is fixed, for a function of n registers. -/
def Fix.at (C : Fix) (n : Nat) : Fix := { C with n := n }
theorem FixOK.at {C : Fix} (K : FixOK C) (n : Nat) : FixOK (C.at n) := ⟨K.tt, K.mixed, K.ne, K.ib⟩
theorem CxOK.at {C : Fix} {Q : Nat → CC → Code → Prop} {x : Cx} (h : CxOK C Q x) (n : Nat) : CxOK (C.at n) Q x := ⟨h.mono, h.call, h.round⟩
/-- The compiled functions are the program's. -/
def CPOK (C : Fix) (CP : Nat → Option CF) : Prop := ∀ f cf, CP f = some cf → ∃ fn c, C.P.funcs[f]? = some fn ∧ fn.body = some c ∧ cf.code = comp (C.at fn.ntmps) c ∧ cf.ntmps = fn.ntmps ∧ cRess (C.at fn.ntmps) fn.results.toList = some cf.res ∧ (fn.name == "runtime.NumGoroutine") = false ∧ fn.ntmps ≤ 256

section
variable {C : Fix} {Q : Nat → CC → Code → Prop}

theorem VRs.undefs {g : Gh} (n : Nat) : VRs g (List.replicate n .undef) (List.replicate n undef) := VRs.replicate VR.undef n

theorem callF_sound (K : FixOK C) {CP : Nat → Option CF} (hCP : CPOK C CP) {F : Nat} {call round : Fun} (hx : CxOK C Q ⟨call, round, false⟩)
    (hrng : ∀ (n : Nat) (b : Frame) (cs : List Frame) (n0 : Nat) f y ps as bd s e s', b.roundOf = none → cX (C.at n) f = some y → rngGo ⟨call, round, false⟩ b.fn n y ps.toList (comp (C.at n) as) (comp (C.at n) bd) s = some (e, s') → Outc (C.at n) Q n0 b cs (.rangeFunc f ps as bd) e s s') :
    CallOK C Q (callF CP F call round) := by
  intro f args h v h' hs g w xs hg R hv hf
  unfold callF at hs
  split at hs
  · rename_i cf hcf
    obtain ⟨fn, c, hfn, hbody, hcode, hnt, hres, hname, h256⟩ := hCP f cf hcf
    rw [hcode, hnt] at hs
    have henter : (callFunc f xs.toArray).run C.P w = .ok (.enter f xs.toArray) w := by
      have hname' : ¬ fn.name = "runtime.NumGoroutine" := by simpa using hname
      simp [callFunc, hfn, hname', hbody]
    refine ⟨henter, fun k cs hk => ?_⟩
    let b : Frame := { (default : Frame) with fn := f, kind := k, roundOf := none }
    have hen : Frame.enter C.P f xs.toArray k = b.atR { tmps := xs.toArray ++ Array.replicate (fn.ntmps - xs.toArray.size) undef, defers := [] } [.code c] := by
      simp [Frame.enter, Frame.atR, hfn, hbody, b]
    have st : StR (C.at fn.ntmps) Q w.heap.size g ⟨RF.of args, h, []⟩ { tmps := xs.toArray ++ Array.replicate (fn.ntmps - xs.toArray.size) undef, defers := [] } w := by
      refine ⟨?_, R, .nil, hg, Nat.le_refl _⟩
      refine ⟨by show fn.ntmps ≤ _; simp; omega, fun k hk => ?_, h256⟩
      rw [RF.getR_of _ _ (by show k < 256; exact Nat.lt_of_lt_of_le hk h256)]
      have := hv.getD k
      have e : (xs.toArray ++ Array.replicate (fn.ntmps - xs.toArray.size) undef).getD k undef = xs.getD k undef := by
        rw [Array.getD_eq_getD_getElem?, Array.getElem?_append, List.getD_eq_getElem?_getD]
        split
        · simp
        · rename_i hh
          rw [Array.getElem?_replicate, List.getElem?_eq_none (by simpa using hh)]
          split <;> rfl
      rw [e]
      exact this
    have fin : ∀ (e : Ex) (s : St), (e = .norm ∨ e = .ret) → ev ⟨call, round, false⟩ f fn.ntmps F (comp (C.at fn.ntmps) c) none ⟨RF.of args, h, []⟩ = some (e, s) →
        (match defGo call s.ds s.h with | some h => (resOf s.rs h cf.res).map fun v => (v, h) | none => none) = some (v, h') →
        ∃ g' w' x fr, Steps C.P (lone (Frame.enter C.P f xs.toArray k) cs w) (lone fr cs w') ∧ VR g' v x ∧ Rel Q g' h' w' ∧ Ext g h w g' h' w' ∧
          fr.fn = f ∧ fr.kind = k ∧ fr.mode = .returning ∧ fr.defers = [] ∧ ∃ fn, C.P.funcs[f]? = some fn ∧ (results fn fr.tmps).run C.P w' = .ok x w' := by
      intro e s he hev hd
      split at hd
      · rename_i h2 hdef
        simp only [Option.map_eq_some_iff, Prod.mk.injEq] at hd
        obtain ⟨v', hv', rfl, rfl⟩ := hd
        have m2 := defGo_next hx.mono.call hdef
        obtain ⟨g1, a1, w1, A1, st1, E1⟩ := code_sound (C := C.at fn.ntmps) (K.at _) (hx.at _) (b := b) (x := ⟨call, round, false⟩) rfl (cs := cs) (fun _ => hk) (n0 := w.heap.size) (fn := f) (F := F) (fun f' y ps as bd s e s' hy hr => hrng fn.ntmps b cs w.heap.size f' y ps as bd s e s' rfl hy hr) c none _ e s hev c rfl g _ w st (hf.sub (Nat.le_refl _) m2) []
        rw [← hen] at A1
        have toRet : ∃ todo, Steps C.P (lone (Frame.enter C.P f xs.toArray k) cs w) (lone { b.atR a1 todo with mode := .returning } cs w1) := by
          rcases he with rfl | rfl
          · exact ⟨[], Steps.trans A1 (.one (stepR_end rfl))⟩
          · obtain ⟨k₁, t⟩ := A1
            exact ⟨_, Steps.trans t (.one (stepR_ret rfl))⟩
        obtain ⟨todo, t1⟩ := toRet
        obtain ⟨g2, w2, t2, R2, E2, hle⟩ := def_sound hx.mono.call hx.call (Nat.le_refl _) st1.ds hdef st1.gl st1.rel (E1.fresh hf) E1 { b.atR a1 todo with mode := .returning } cs rfl rfl
        obtain ⟨y, hy, hyv⟩ := res_sound (C := C.at fn.ntmps) K.tt R2 (st1.rs.mono hle) hres hv'
        exact ⟨g2, w2, y, _, t1.trans t2, hyv, R2, E2, rfl, rfl, rfl, rfl, fn, hfn, hy⟩
      · cases hd
    split at hs
    · rename_i s hev; exact fin .norm s (.inl rfl) hev hs
    · rename_i s hev; exact fin .ret s (.inr rfl) hev hs
    · cases hs
  · cases hs
end
end Ax

/- The abstract executor, part 26: ranges over functions. -/
namespace Ax
open Go

section
variable {C : Fix} {Q : Nat → CC → Code → Prop}

/-- A block more, that is not told of. -/
theorem Rel.more {g : Gh} {h : H} {w : World} (R : Rel Q g h w) (o : Go.Obj) : Rel Q g h (w.alloc o) := by
  have old : ∀ k, k < w.heap.size → (w.alloc o).heap[k]? = w.heap[k]? := fun k hk => heap_alloc_old w o k hk
  refine ⟨?_, R.inj, ?_, ?_, R.nxt⟩
  · intro id ob hid
    obtain ⟨e, he, hor⟩ := R.own id ob hid
    exact ⟨e, he, by rw [old _ (R.bnd id e he)]; exact hor⟩
  · intro k a hk
    obtain ⟨⟨t, fr, hh⟩, hn⟩ := R.frz k a hk
    exact ⟨⟨t, fr, by rw [old _ (Array.getElem?_eq_some_iff.1 hh).1]; exact hh⟩, hn⟩
  · intro id e he
    have := R.bnd id e he
    simp; omega
theorem Ext.more (g : Gh) (h : H) (w : World) (o : Go.Obj) : Ext g h w g h (w.alloc o) :=
  ⟨fun _ _ => rfl, g.le_refl, Nat.le_refl _, by simp, fun k hk hf => ⟨heap_alloc_old w o k hk, hf, id⟩, rfl, rfl, rfl⟩


/-- Which code a compiled one stands for. -/
def QC (C : Fix) : Nat → CC → Code → Prop := fun n cc c => cc = comp (C.at n) c

theorem run_enterLoop {P : Program} {w : World} (fn : FuncId) (tmps : Array Value) (ps : Array Tmp) (as bd : Code) :
    (Instr.enterLoop fn tmps ps as bd none).run P w = .ok (w.heap.size + 1, [{ target := .collected w.heap.size, args := #[] }])
      ((w.alloc (.deferred (some []))).alloc (.loop { state := .ready, pending := none, fn, tmps, params := ps, assign := as, body := bd, defers := w.heap.size })) := by
  simp [Instr.enterLoop, run_newObj, Result.andThen]
  rfl
theorem run_endLoop {P : Program} {w : World} {l : Nat} {L : Loop} (hb : w.heap[l]? = some (.loop L)) (hs : L.state ≠ .busy) :
    (Instr.endLoop l).run P w = .ok L.pending { w with heap := w.heap.setIfInBounds l (.loop { L with state := .exhausted }) } := by
  have : (L.state == LoopState.busy) = false := by cases hst : L.state <;> simp_all <;> rfl
  simp [Instr.endLoop, Instr.getLoop, getObj, setObj, Sem.run, hb, Result.andThen, this]
  intro h
  exact absurd h hs

theorem DefR.noMark {n0 : Nat} {g : Gh} {h : H} {w : World} {ds : List (Nat × List V)} {l : List Deferred} (hd : DefR n0 g h w ds l) : ∀ d ∈ l, ∀ r', d.target = .collected r' → r' < w.heap.size := by
  induction hd with
  | nil => intro d hd; cases hd
  | call hv _ ih =>
    intro d hd r' ht
    cases hd with
    | head => cases ht
    | tail _ hd => exact ih d hd r' ht
  | mark hr hb hf hF hlt _ ih =>
    intro d hd r' ht
    cases hd with
    | head => cases ht; exact (Array.getElem?_eq_some_iff.1 hb).1
    | tail _ hd => exact ih d hd r' ht

theorem VR.fn_inv {g : Gh} {f : Nat} {cs : List V} {x : Value} (h : VR g (.fn f cs) x) : ∃ xs : List Value, x = .func (.func f) #[] xs.toArray ∧ VRs g cs xs := by cases h with | fn h => exact ⟨_, rfl, h⟩
end
end Ax

/- The abstract executor, part 27: range over a function. -/
namespace Ax
open Go

section
variable {C : Fix}
theorem rng_sound {x : Cx} (hx : CxOK C (QC C) x) {b : Frame} (hb : b.roundOf = none) {cs : List Frame} {n0 : Nat} {f : Operand} {y : X} {ps : Array Tmp} {as bd : Code} {s s' : St} {e : Ex} (hy : cX C f = some y)
    (hs : rngGo x b.fn C.n y ps.toList (comp C as) (comp C bd) s = some (e, s')) : Outc C (QC C) n0 b cs (.rangeFunc f ps as bd) e s s' := by
  intro g a w st hf k
  unfold rngGo at hs
  split at hs
  · cases hs
  · split at hs
    · rename_i gf caps hfv
      have hv := st.eval _ _ hy
      rw [hfv] at hv
      unfold afterRng at hs
      split at hs
      · rename_i v1 h2 hcall
        have mono1 : s.h.next + 1 ≤ h2.next := by have := hx.mono.call _ _ _ _ _ hcall; simpa using this
        have hnx : s'.h.next = h2.next := by
          split at hs
          · cases hs; rfl
          · cases hs; rfl
          · cases hs
        generalize hL : ({ state := .ready, pending := none, fn := b.fn, tmps := a.tmps, params := ps, assign := as, body := bd, defers := w.heap.size } : Loop) = L
        have R1 := st.rel.more (.deferred (some []))
        have E1 := Ext.more g s.h w (.deferred (some []))
        have hφ : g.φ s.h.next = none := hf s.h.next (Nat.le_refl _) (by omega)
        obtain ⟨R2, E2⟩ := R1.new hφ (.loop b.fn C.n s.rs ps.toList (comp C as) (comp C bd) 0 none) (.loop L) ⟨(w.alloc (.deferred (some []))).heap.size, 0, 0, 0⟩ rfl (by
          subst hL
          exact ⟨rfl, st.rs.mono (g.le_bind _ _ hφ), rfl, rfl, rfl, rfl, rfl⟩)
        have hfe : ∃ xs : List Value, a.eval f = .func (.func gf) #[] xs.toArray ∧ VRs g caps xs := hv.fn_inv
        obtain ⟨xs, hfe, hxs⟩ := hfe
        have hargs : VRs (g.bind s.h.next ⟨(w.alloc (.deferred (some []))).heap.size, 0, 0, 0⟩) (.yld s.h.next :: caps) (.func (.yield (w.heap.size + 1)) #[] #[] :: xs) :=
          .cons (by
            have := VR.yld (g := g.bind s.h.next ⟨(w.alloc (.deferred (some []))).heap.size, 0, 0, 0⟩) (id := s.h.next) (e := ⟨(w.alloc (.deferred (some []))).heap.size, 0, 0, 0⟩) (by simp)
            simpa using this) (hxs.mono (g.le_bind _ _ hφ))
        obtain ⟨henter, hall⟩ := hx.call gf (.yld s.h.next :: caps) _ v1 h2 hcall _ _ _ (st.gl.mono (E1.trans E2).le) R2 hargs ((E1.trans E2).fresh (hnx ▸ hf))
        have hen := run_enterLoop (P := C.P) (w := w) b.fn a.tmps ps as bd
        rw [hL] at hen
        have hstep := stepR_rangeFunc (P := C.P) (b := b) (a := a) (k := k) (cs := cs) (w := w) (g := f) (ps := ps) (assign := as) (body := bd) (d := { target := .fn (.func gf) xs.toArray, args := #[.func (.yield (w.heap.size + 1)) #[] #[]] })
          (by rw [hb]; exact hen) (by show (Deferred.ofValue (a.eval f) _).run C.P _ = _; rw [hfe]; simp [Deferred.ofValue, Act.eval]; rfl) (by simpa [invoke] using henter)
        obtain ⟨g3, w3, y3, fr3, hsteps, hv3, R3, E3, hfn3, hkind3, hmode3, hdef3, fn3, hfn3', hres3⟩ := hall .normal (b.atR { a with defers := [{ target := .collected w.heap.size, args := #[] }] ++ a.defers } (.inRangeFunc (w.heap.size + 1) :: k) :: cs) (.inl rfl)
        have hleave : fr3.leaving C.P w3 (.returned y3) := ⟨hmode3, hdef3, hkind3, fn3, by rw [hfn3]; exact hfn3', hres3⟩
        have hback := step_leave_returned (cs := cs) (c := b.atR { a with defers := [{ target := .collected w.heap.size, args := #[] }] ++ a.defers } (.inRangeFunc (w.heap.size + 1) :: k)) hleave
        rw [finish_atR_inRangeFunc] at hback
        have hφ3 : g3.φ s.h.next = some ⟨(w.alloc (.deferred (some []))).heap.size, 0, 0, 0⟩ := E3.le.φ _ _ (by simp)
        have dR : DefR n0 g s.h (w.alloc (.deferred (some []))) s.ds ({ target := .collected w.heap.size, args := #[] } :: a.defers) := by
          refine .mark st.sz (heap_alloc_new w _) ?_ ?_ (st.ds.noMark) (st.ds.ext E1)
          · intro id o e _ he hbk
            have := st.rel.bnd id e he
            omega
          · cases hF : g.F w.heap.size with
            | none => rfl
            | some arr =>
              obtain ⟨⟨t, fr, hh⟩, _⟩ := st.rel.frz _ _ hF
              have := (Array.getElem?_eq_some_iff.1 hh).1
              omega
        have fin : ∀ (rg : RF) (ps' : List Nat) (as' bd' : CC) (fn' n' : Nat) (stt : Nat) (pend : Option Pend), h2.get s.h.next = some (.loop fn' n' rg ps' as' bd' stt pend) → (stt = 0 ∨ stt = 2) →
            ∃ g' w', Steps C.P (lone (b.atR a (.code (.rangeFunc f ps as bd) :: k)) cs w) (lone (b.atR { a with defers := [{ target := .collected w.heap.size, args := #[] }] ++ a.defers } (((pend.map Pend.code).map Item.code).toList ++ k)) cs w') ∧
              StR C (QC C) n0 g' ⟨s.rs, h2.put s.h.next (.loop fn' n' rg ps' as' bd' 3 pend), s.ds⟩ { a with defers := [{ target := .collected w.heap.size, args := #[] }] ++ a.defers } w' ∧ Ext g s.h w g' (h2.put s.h.next (.loop fn' n' rg ps' as' bd' 3 pend)) w' := by
          intro rg ps' as' bd' fn' n' stt pend hget hst
          obtain ⟨e3, he3, hor⟩ := R3.own _ _ hget
          rw [hφ3] at he3; cases he3
          obtain ⟨L', hb3, l1, l2, l3, l4, l5, l6, l7⟩ := hor.loop_inv
          have hsz : (w.alloc (.deferred (some []))).heap.size = w.heap.size + 1 := by simp
          simp only [hsz] at hb3 hφ3
          have hend := run_endLoop (P := C.P) hb3 (by rw [l6]; rcases hst with rfl | rfl <;> simp [stOf])
          have hset := MapKept.heap_set (o' := .loop { L' with state := .exhausted }) hb3
          obtain ⟨R4, E4⟩ := R3.put hget hφ3 (.loop fn' n' rg ps' as' bd' 3 pend) (.loop { L' with state := .exhausted }) { w3 with heap := w3.heap.setIfInBounds (w.heap.size + 1) (.loop { L' with state := .exhausted }) } hset.1 (by simp) (fun k hk => hset.2 k hk) rfl rfl rfl ⟨l1, l2, l3, l4, l5, rfl, l7⟩
          have Eall := E1.trans (E2.trans (E3.trans E4))
          refine ⟨g3, _, ?_, ⟨st.rs.mono Eall.le, R4, dR.ext (E2.trans (E3.trans E4)), st.gl.mono Eall.le, Nat.le_trans st.sz Eall.sz⟩, Eall⟩
          refine .head hstep (hsteps.trans (.head hback (.one ?_)))
          have := stepR_endRangeFunc (P := C.P) (b := b) (a := { a with defers := [{ target := .collected w.heap.size, args := #[] }] ++ a.defers }) (k := k) (cs := cs) hend
          rw [← l7]
          exact this
        split at hs
        · rename_i hget
          cases hs
          obtain ⟨g', w', t, st', E'⟩ := fin _ _ _ _ _ _ _ _ hget (.inl rfl)
          exact ⟨g', _, w', t, st', E'⟩
        · rename_i p hget
          cases hs
          obtain ⟨g', w', t, st', E'⟩ := fin _ _ _ _ _ _ _ _ hget (.inr rfl)
          cases p with
          | exit id => exact ⟨g', _, w', ⟨fun k' hk => t.trans (.one (stepR_exit hk)), fun hk => ⟨k, hk, t⟩⟩, st', E'⟩
          | goto l => exact ⟨g', _, w', ⟨fun k' hk => t.trans (.one (stepR_goto hk)), fun hk => ⟨k, hk, t⟩⟩, st', E'⟩
          | ret => exact ⟨g', _, w', ⟨k, t⟩, st', E'⟩
        · cases hs
      · cases hs
    · cases hs
end
end Ax

/- The abstract executor, part 28: rounds; everything by depth. -/
namespace Ax
open Go

section
variable {C : Fix}

theorem putAll_RR {n : Nat} {g : Gh} : ∀ {ps : List Nat} {as : List V} {xs : List Value} {rs : RF} {tm : Array Value}, VRs g as xs → as.length = ps.length → (∀ p ∈ ps, p < n) → RR n g rs tm →
    RR n g (putAll ps as rs) ((ps.zip xs).foldl (fun (tmps : Array Value) (p : Nat × Value) => tmps.setIfInBounds p.1 p.2) tm)
  | [], _, _, _, _, h, hl, _, hr => by
    cases h with
    | nil => exact hr
    | cons _ _ => simp at hl
  | p :: ps, _, _, rs, tm, h, hl, hp, hr => by
    cases h with
    | nil => simp at hl
    | cons hv hvs =>
      simp only [putAll, List.zip_cons_cons, List.foldl_cons]
      exact putAll_RR hvs (by simpa using hl) (fun q hq => hp q (.tail _ hq)) (hr.set (hp p (.head _)) hv)

/-- A loop's record turns. -/
theorem put_loop {g : Gh} {h : H} {w : World} (R : Rel (QC C) g h w) {id : Nat} {fn n : Nat} {rg : RF} {ps : List Nat} {as bd : CC} {st : Nat} {pend : Option Pend} (hid : h.get id = some (.loop fn n rg ps as bd st pend)) {e : Ent} (he : g.φ id = some e) (st' : Nat) (pend' : Option Pend) :
    ∃ L, w.heap[e.blk]? = some (.loop L) ∧ L.state = stOf st ∧ L.pending = pend.map Pend.code ∧ Rel (QC C) g (h.put id (.loop fn n rg ps as bd st' pend')) { w with heap := w.heap.setIfInBounds e.blk (.loop { L with state := stOf st', pending := pend'.map Pend.code }) } ∧
      Ext g h w g (h.put id (.loop fn n rg ps as bd st' pend')) { w with heap := w.heap.setIfInBounds e.blk (.loop { L with state := stOf st', pending := pend'.map Pend.code }) } := by
  obtain ⟨e', he', hor⟩ := R.own _ _ hid
  rw [he] at he'; cases he'
  obtain ⟨L, hb, l1, l2, l3, l4, l5, l6, l7⟩ := hor.loop_inv
  have hset := MapKept.heap_set (o' := .loop { L with state := stOf st', pending := pend'.map Pend.code }) hb
  obtain ⟨R', E'⟩ := R.put hid he (.loop fn n rg ps as bd st' pend') (.loop { L with state := stOf st', pending := pend'.map Pend.code }) { w with heap := w.heap.setIfInBounds e.blk (.loop { L with state := stOf st', pending := pend'.map Pend.code }) } hset.1 (by simp) (fun k hk => hset.2 k hk) rfl rfl rfl ⟨l1, l2, l3, l4, l5, rfl, rfl⟩
  exact ⟨L, hb, l6, l7, R', E'⟩
theorem run_beginRound {P : Program} {w : World} {l : Nat} {L : Loop} (hb : w.heap[l]? = some (.loop L)) (hs : L.state = .ready) :
    (Instr.beginRound l).run P w = .ok () { w with heap := w.heap.setIfInBounds l (.loop { L with state := .busy }) } := by
  simp [Instr.beginRound, Instr.getLoop, getObj, setObj, Sem.run, hb, Result.andThen, hs]
theorem run_endRound {P : Program} {w : World} {l : Nat} {L : Loop} (hb : w.heap[l]? = some (.loop L)) (j : Option Code) :
    (Instr.endRound l j).run P w = .ok (.bool j.isNone) { w with heap := w.heap.setIfInBounds l (.loop { L with state := if j.isNone then .ready else .done, pending := j }) } := by
  simp [Instr.endRound, Instr.getLoop, getObj, setObj, Sem.run, hb, Result.andThen]

theorem roundF_sound (K : FixOK C) {F : Nat} {call round : Fun} (hx : CxOK C (QC C) ⟨call, round, true⟩) : RoundOK C (QC C) (roundF F call round) := by
  intro id args h v h' hs g w xs e hg R hv hf he
  unfold roundF at hs
  split at hs
  · rename_i fn n rg ps as bd pend hid
    split at hs
    · rename_i hlen
      obtain ⟨e0, he0, hor⟩ := R.own _ _ hid
      rw [he] at he0; cases he0
      obtain ⟨L, hb, l1, l2, l3, l4, l5, l6, l7⟩ := hor.loop_inv
      have has : as = comp (C.at n) L.assign := l4
      have hbd : bd = comp (C.at n) L.body := l5
      subst has; subst hbd
      have hxl : xs.toArray.size = L.params.size := by
        have h1 := hv.length
        have hlen := hlen.1
        have h2 : L.params.size = ps.length := by rw [← l3]; simp
        simp; omega
      refine ⟨e.blk, L.fn, (L.params.zip xs.toArray).foldl (fun tmps (t, a) => tmps.setIfInBounds t a) L.tmps, L.assign, L.body, ?_, ?_⟩
      · have hxl' : xs.length = L.params.size := by simpa using hxl
        simp [Instr.yield, Instr.getLoop, getObj, Sem.run, hb, Result.andThen, hxl']
      · intro c cs
        generalize htm : (L.params.zip xs.toArray).foldl (fun (tmps : Array Value) (p : Nat × Value) => tmps.setIfInBounds p.1 p.2) L.tmps = tm
        let b : Frame := { (default : Frame) with fn := L.fn, kind := .normal, roundOf := some e.blk }
        have hen : Frame.round e.blk L.fn tm L.assign L.body .normal = b.atR { tmps := tm, defers := [] } [.code L.assign, .beginRound, .code L.body] := by simp [Frame.round, Frame.atR, b]
        have hcode : ∀ (c0 : Code) (s : St) (e1 : Ex) (s' : St), ev ⟨call, round, true⟩ fn n F (comp (C.at n) c0) none s = some (e1, s') → Outc (C.at n) (QC C) w.heap.size b (c :: cs) c0 e1 s s' := fun c0 s e1 s' hev =>
          code_sound (C := C.at n) (K.at n) (hx.at n) (b := b) (x := ⟨call, round, true⟩) rfl (cs := c :: cs) (fun h => by cases h) (fun _ _ _ _ _ _ _ _ _ hr => by simp [rngGo] at hr) c0 none s e1 s' hev c0 rfl
        have st : StR (C.at n) (QC C) w.heap.size g ⟨putAll ps args rg, h, []⟩ { tmps := tm, defers := [] } w := by
          refine ⟨?_, R, .nil, hg, Nat.le_refl _⟩
          rw [← htm]
          have hp : ∀ p ∈ ps, p < n := fun p hp => by
            have := List.all_eq_true.1 hlen.2 p hp
            exact Nat.lt_of_succ_le (by simpa [Nat.blt] using this)
          have := putAll_RR (ps := ps) hv hlen.1 hp l2
          rw [← l3] at this
          rw [← l3]
          rw [← Array.foldl_toList, Array.toList_zip]
          exact this
        split at hs
        · rename_i s1 hev1
          split at hs
          · rename_i fn' n' rg' ps' as' bd' pend' hid1
            split at hs
            · rename_i e2 s2 hev2
              split at hs
              · rename_i fn2 n2' rg2 ps2 as2 bd2 pend2 hid2
                have n1 := ev_next hx.mono _ _ _ _ _ hev1
                have n2 := ev_next hx.mono _ _ _ _ _ hev2
                simp only [H.next_put] at n2
                have hnx : h'.next = s2.h.next := by cases e2 <;> (cases hs; rfl)
                obtain ⟨g1, a1, w1, A1, st1, E1⟩ := hcode L.assign _ .norm s1 hev1 g _ w st (hf.sub (Nat.le_refl _) (by omega)) [.beginRound, .code L.body]
                have he1 := E1.le.φ _ _ he
                obtain ⟨L1, hb1, hs1, hp1, R1, Eb⟩ := put_loop st1.rel hid1 he1 1 pend'
                have hbr := run_beginRound (P := C.P) hb1 hs1
                have hLe : ({ L1 with state := .busy } : Loop) = { L1 with state := stOf 1, pending := pend'.map Pend.code } := by rw [← hp1]; rfl
                rw [hLe] at hbr
                have st1' : StR (C.at n) (QC C) w.heap.size g1 ⟨s1.rs, s1.h.put id (.loop fn' n' rg' ps' as' bd' 1 pend'), s1.ds⟩ a1 _ := ⟨st1.rs, R1, st1.ds.ext Eb, st1.gl, Nat.le_trans st1.sz Eb.sz⟩
                obtain ⟨g2, a2, w2, A2, st2, E2⟩ := hcode L.body _ e2 s2 hev2 g1 a1 _ st1' ((E1.trans Eb).fresh (hf.sub (Nat.le_refl _) (by omega))) []
                have he2 := E2.le.φ _ _ he1
                rw [← hen] at A1
                have t1 : Steps C.P (lone (Frame.round e.blk L.fn tm L.assign L.body .normal) (c :: cs) w) (lone (b.atR a1 [.code L.body]) (c :: cs) _) := Steps.trans A1 (.one (stepR_beginRound (b := b) rfl hbr))
                have E12 := E1.trans (Eb.trans E2)
                cases e2 with
                | norm =>
                  cases hs
                  obtain ⟨L2, hb2, _, _, R2, Ee⟩ := put_loop st2.rel hid2 he2 0 none
                  have := run_endRound (P := C.P) hb2 none
                  exact ⟨g2, _, .bool true, t1.trans (Steps.trans A2 (.one (stepR_round_end (b := b) rfl rfl this))), .b true, R2, E12.trans Ee⟩
                | exit j =>
                  cases hs
                  obtain ⟨L2, hb2, _, _, R2, Ee⟩ := put_loop st2.rel hid2 he2 2 (some (.exit j))
                  have := run_endRound (P := C.P) hb2 (some (.exit j))
                  obtain ⟨k₁, hk1, A2⟩ := A2.2 rfl
                  exact ⟨g2, _, .bool false, t1.trans (Steps.trans A2 (.one (stepR_round_exit (b := b) rfl rfl hk1 this))), .b false, R2, E12.trans Ee⟩
                | goto j =>
                  cases hs
                  obtain ⟨L2, hb2, _, _, R2, Ee⟩ := put_loop st2.rel hid2 he2 2 (some (.goto j))
                  have := run_endRound (P := C.P) hb2 (some (.goto j))
                  obtain ⟨k₁, hk1, A2⟩ := A2.2 rfl
                  exact ⟨g2, _, .bool false, t1.trans (Steps.trans A2 (.one (stepR_round_goto (b := b) rfl rfl hk1 this))), .b false, R2, E12.trans Ee⟩
                | ret =>
                  cases hs
                  obtain ⟨L2, hb2, _, _, R2, Ee⟩ := put_loop st2.rel hid2 he2 2 (some .ret)
                  have := run_endRound (P := C.P) hb2 (some .ret)
                  obtain ⟨k₁, A2⟩ := A2
                  exact ⟨g2, _, .bool false, t1.trans (Steps.trans A2 (.one (stepR_round_ret (b := b) rfl rfl this))), .b false, R2, E12.trans Ee⟩
              · cases hs
            · cases hs
          · cases hs
        · cases hs
    · cases hs
  · cases hs
end
end Ax

/- The abstract executor, part 29: everything by depth. -/
namespace Ax
open Go

section
variable {C : Fix}
theorem callF_next {CP : Nat → Option CF} {F : Nat} {call round : Fun} (hc : call.mono) (hr : round.mono) : (callF CP F call round).mono := by
  intro f args h v h' hs
  unfold callF at hs
  have fin : ∀ (cf : CF) (e : Ex) (s : St), ev ⟨call, round, false⟩ f cf.ntmps F cf.code none ⟨RF.of args, h, []⟩ = some (e, s) →
      (match defGo call s.ds s.h with | some h => (resOf s.rs h cf.res).map fun v => (v, h) | none => none) = some (v, h') → h.next ≤ h'.next := by
    intro cf e s hev hd
    split at hd
    · rename_i h2 hdef
      simp only [Option.map_eq_some_iff, Prod.mk.injEq] at hd
      obtain ⟨v', _, _, rfl⟩ := hd
      exact Nat.le_trans (ev_next (x := ⟨call, round, false⟩) ⟨hc, hr⟩ _ _ _ _ _ hev) (defGo_next hc hdef)
    · cases hd
  split at hs
  · split at hs
    · rename_i hev; exact fin _ _ _ hev hs
    · rename_i hev; exact fin _ _ _ hev hs
    · cases hs
  · cases hs
theorem roundF_next {F : Nat} {call round : Fun} (hc : call.mono) (hr : round.mono) : (roundF F call round).mono := by
  intro id args h v h' hs
  unfold roundF at hs
  split at hs
  · split at hs
    · split at hs
      · rename_i hev1
        split at hs
        · split at hs
          · rename_i e2 s2 hev2
            split at hs
            · have n1 := ev_next (x := ⟨call, round, true⟩) ⟨hc, hr⟩ _ _ _ _ _ hev1
              have n2 := ev_next (x := ⟨call, round, true⟩) ⟨hc, hr⟩ _ _ _ _ _ hev2
              simp only [H.next_put] at n2
              have hnx : h'.next = s2.h.next := by cases e2 <;> (cases hs; rfl)
              rw [hnx]
              exact Nat.le_trans n1 n2
            · cases hs
          · cases hs
        · cases hs
      · cases hs
    · cases hs
  · cases hs

/-- Calls and rounds, however deep, are what they are in the program. -/
theorem runN_sound (K : FixOK C) {CP : Nat → Option CF} (hCP : CPOK C CP) (F : Nat) : ∀ n, ((runN' CP F n).1.mono ∧ (runN' CP F n).2.mono) ∧ CallOK C (QC C) (runN' CP F n).1 ∧ RoundOK C (QC C) (runN' CP F n).2
  | 0 => by
    have n1 : ∀ f args h v h', (runN' CP F 0).1 f args h = some (v, h') → False := by intro f args h v h' hh; cases hh
    have n2 : ∀ f args h v h', (runN' CP F 0).2 f args h = some (v, h') → False := by intro f args h v h' hh; cases hh
    exact ⟨⟨fun _ _ _ _ _ h => (n1 _ _ _ _ _ h).elim, fun _ _ _ _ _ h => (n2 _ _ _ _ _ h).elim⟩, fun _ _ _ _ _ h => (n1 _ _ _ _ _ h).elim, fun _ _ _ _ _ h => (n2 _ _ _ _ _ h).elim⟩
  | n + 1 => by
    obtain ⟨⟨m1, m2⟩, c1, c2⟩ := runN_sound K hCP F n
    refine ⟨⟨callF_next m1 m2, roundF_next m1 m2⟩, callF_sound K hCP ⟨⟨m1, m2⟩, c1, c2⟩ ?_, roundF_sound K ⟨⟨m1, m2⟩, c1, c2⟩⟩
    intro n b cs n0 f y ps as bd s e s' hb hy hs
    exact rng_sound (C := C.at n) (x := ⟨_, _, false⟩) ⟨⟨m1, m2⟩, c1, c2⟩ hb hy hs
end
end Ax
