/- The abstract executor, part 11: the operations are what their compiled forms say (builtins, conversions, calls). -/
import Derived.Test.YtapplfjimaghbaaGreatAx2
import Derived.Laws.BytesString
import Derived.Laws.Small
import Derived.Laws.Externs
import Derived.Lib.UnsafeStr
import Derived.MapKept
import Derived.Laws.StructEq
import Derived.ChangeKeysEq
import Derived.WideKeyRuns
set_option linter.all false
namespace Ax
open Go

section
variable {C : Fix} {Q : Nat → CC → Code → Prop} {g : Gh} {h : H} {w : World} {rs : RF} {ρ : Operand → Value}
variable (hT : TTok C.P C.tt) (r : Rel Q g h w) (hρ : ∀ x y, cX C x = some y → VR g (y.val rs) (ρ x))

theorem VR.m_inv {id : Nat} {x : Value} (hx : VR g (.m id) x) : ∃ e, g.φ id = some e ∧ x = .map (some e.blk) := by cases hx with | m h => exact ⟨_, h, rfl⟩


theorem getObj_map {P : Program} {w : World} {r : Nat} {es : Array MapEntry} {clock : Nat} (hb : w.heap[r]? = some (.map es clock)) : (getObj r).run P w = .ok (.map es clock) w := by simp [getObj, Sem.run, hb]
theorem MapR.length {es : List (V × V × Nat)} {ens : List MapEntry} (hm : MapR g es ens) : es.length = ens.length := by
  induction es generalizing ens with
  | nil => cases hm; rfl
  | cons e es ih => cases hm with | cons _ _ _ h => simp [ih h]

include hT r hρ in
theorem snd_lenStr {args : Array Operand} {ats : Array TypeId} {t : Nat} {ts : TI} (h0 : ats[0]? = some t) (hts : C.tt t = some ts) (hd : ts.d = .string) {x' : X} (hx : cXs C args.toList = some [x'])
    {o : Oper} (ho : o.op = .call ⟨.builtin .len, args, ats⟩) {or : OR} (hs : opSem (.lenStr x') rs h = some or) : OpOK C.P Q g h w (execOp ρ o) or := by
  obtain ⟨x, rfl, hcx⟩ := cXs_one hx
  have hv := hρ _ _ hcx
  obtain ⟨cs, hcs⟩ := run_builtin (P := C.P) (w := w) (ρ := ρ) ho
  simp only [opSem] at hs
  split at hs
  · rename_i l c e
    rw [e] at hv
    obtain ⟨bs, hxe, hl, _⟩ := hv.s_inv
    cases hs
    refine OpOK.pure r ?_ (.i _)
    rw [hcs]
    simp [builtin, Builtin.len_, h0, run_under hT hts, hd, hxe, hl, goInt]
  · cases hs
include hT r hρ in
theorem snd_lenSl {args : Array Operand} {ats : Array TypeId} {t : Nat} {ts : TI} (h0 : ats[0]? = some t) (hts : C.tt t = some ts) {e : Nat} (hd : ts.d = .slice e) {x' : X} (hx : cXs C args.toList = some [x'])
    {o : Oper} (ho : o.op = .call ⟨.builtin .len, args, ats⟩) {or : OR} (hs : opSem (.lenSl x') rs h = some or) : OpOK C.P Q g h w (execOp ρ o) or := by
  obtain ⟨x, rfl, hcx⟩ := cXs_one hx
  have hv := hρ _ _ hcx
  obtain ⟨cs, hcs⟩ := run_builtin (P := C.P) (w := w) (ρ := ρ) ho
  simp only [opSem] at hs
  split at hs
  · rename_i e'
    rw [e'] at hv
    obtain ⟨_, _, _, _, hxe, _⟩ := hv.sl_inv
    cases hs
    refine OpOK.pure r ?_ (.i _)
    rw [hcs]
    simp [builtin, Builtin.len_, h0, run_under hT hts, hd, hxe, goInt]
  · rename_i e'
    rw [e'] at hv
    obtain ⟨_, _, _, _, _, hxe, _⟩ := hv.fs_inv
    cases hs
    refine OpOK.pure r ?_ (.i _)
    rw [hcs]
    simp [builtin, Builtin.len_, h0, run_under hT hts, hd, hxe, goInt]
  · rename_i e'
    rw [e'] at hv
    cases hs
    refine OpOK.pure r ?_ (.i _)
    rw [hcs]
    simp [builtin, Builtin.len_, h0, run_under hT hts, hd, hv.nils_inv, goInt]
  · cases hs
include hT r hρ in
theorem snd_lenMap {args : Array Operand} {ats : Array TypeId} {t : Nat} {ts : TI} (h0 : ats[0]? = some t) (hts : C.tt t = some ts) {a b : Nat} (hd : ts.d = .map a b) {x' : X} (hx : cXs C args.toList = some [x'])
    {o : Oper} (ho : o.op = .call ⟨.builtin .len, args, ats⟩) {or : OR} (hs : opSem (.lenMap x') rs h = some or) : OpOK C.P Q g h w (execOp ρ o) or := by
  obtain ⟨x, rfl, hcx⟩ := cXs_one hx
  have hv := hρ _ _ hcx
  obtain ⟨cs, hcs⟩ := run_builtin (P := C.P) (w := w) (ρ := ρ) ho
  simp only [opSem] at hs
  split at hs
  · rename_i id e'
    rw [e'] at hv
    obtain ⟨en, hen, hxe⟩ := hv.m_inv
    split at hs
    · rename_i es ck hid
      cases hs
      obtain ⟨en', hen', hor⟩ := r.own _ _ hid
      rw [hen] at hen'; cases hen'
      obtain ⟨ens, hh, hm⟩ := hor.map_inv
      refine OpOK.pure r ?_ (.i _)
      rw [hcs]
      have hl := hm.length
      simp only [Array.length_toList] at hl
      simp [builtin, Builtin.len_, h0, run_under hT hts, hd, hxe, goInt, getObj_map hh, hl]
    · cases hs
  · rename_i e'
    rw [e'] at hv
    cases hs
    refine OpOK.pure r ?_ (.i _)
    rw [hcs]
    simp [builtin, Builtin.len_, h0, run_under hT hts, hd, hv.nilm_inv, goInt]
  · cases hs
include hT r hρ in
theorem snd_lenc {args : Array Operand} {ats : Array TypeId} {t : Nat} {ts : TI} (h0 : ats[0]? = some t) (hts : C.tt t = some ts) {n e : Nat} (hd : ts.d = .array n e) {x' : X} (hx : cXs C args.toList = some [x'])
    {o : Oper} (ho : o.op = .call ⟨.builtin .len, args, ats⟩) {or : OR} (hs : opSem (.lenc n) rs h = some or) : OpOK C.P Q g h w (execOp ρ o) or := by
  obtain ⟨x, rfl, hcx⟩ := cXs_one hx
  obtain ⟨cs, hcs⟩ := run_builtin (P := C.P) (w := w) (ρ := ρ) ho
  simp only [opSem, Option.some.injEq] at hs
  subst hs
  refine OpOK.pure r ?_ (.i _)
  rw [hcs]
  simp [builtin, Builtin.len_, h0, run_under hT hts, hd, goInt]
include hT r hρ in
theorem snd_cap {args : Array Operand} {ats : Array TypeId} {t : Nat} {ts : TI} (h0 : ats[0]? = some t) (hts : C.tt t = some ts) {e : Nat} (hd : ts.d = .slice e) {x' : X} (hx : cXs C args.toList = some [x'])
    {o : Oper} (ho : o.op = .call ⟨.builtin .cap, args, ats⟩) {or : OR} (hs : opSem (.cap x') rs h = some or) : OpOK C.P Q g h w (execOp ρ o) or := by
  obtain ⟨x, rfl, hcx⟩ := cXs_one hx
  have hv := hρ _ _ hcx
  obtain ⟨cs, hcs⟩ := run_builtin (P := C.P) (w := w) (ρ := ρ) ho
  simp only [opSem] at hs
  split at hs
  · rename_i c e'
    rw [e'] at hv
    obtain ⟨_, _, c', _, hxe, _, _, _, hc⟩ := hv.sl_inv
    cases hs
    have := hc c rfl
    subst this
    refine OpOK.pure r ?_ (.i _)
    rw [hcs]
    simp [builtin, Builtin.cap_, h0, run_under hT hts, hd, hxe, goInt]
  · rename_i c e'
    rw [e'] at hv
    obtain ⟨_, _, _, c', _, hxe, _, _, hc⟩ := hv.fs_inv
    cases hs
    have := hc c rfl
    subst this
    refine OpOK.pure r ?_ (.i _)
    rw [hcs]
    simp [builtin, Builtin.cap_, h0, run_under hT hts, hd, hxe, goInt]
  · rename_i e'
    rw [e'] at hv
    cases hs
    refine OpOK.pure r ?_ (.i _)
    rw [hcs]
    simp [builtin, Builtin.cap_, h0, run_under hT hts, hd, hv.nils_inv, goInt]
  · cases hs
include r hρ in
theorem snd_min {args : Array Operand} {ats : Array TypeId} {x' y' : X} (hx : cXs C args.toList = some [x', y'])
    {o : Oper} (ho : o.op = .call ⟨.builtin .min, args, ats⟩) {or : OR} (hs : opSem (.min x' y') rs h = some or) : OpOK C.P Q g h w (execOp ρ o) or := by
  obtain ⟨x, y, rfl, hcx, hcy⟩ := cXs_two hx
  have hvx := hρ _ _ hcx
  have hvy := hρ _ _ hcy
  obtain ⟨cs, hcs⟩ := run_builtin (P := C.P) (w := w) (ρ := ρ) ho
  simp only [opSem] at hs
  split at hs
  · rename_i a b e1 e2
    rw [e1] at hvx; rw [e2] at hvy
    cases hs
    refine OpOK.pure r ?_ (.i _)
    rw [hcs, ltI_eq]
    simp [builtin, hvx.i_inv, hvy.i_inv, run_min_int2]
  · cases hs
include r hρ in
theorem snd_max {args : Array Operand} {ats : Array TypeId} {x' y' : X} (hx : cXs C args.toList = some [x', y'])
    {o : Oper} (ho : o.op = .call ⟨.builtin .max, args, ats⟩) {or : OR} (hs : opSem (.max x' y') rs h = some or) : OpOK C.P Q g h w (execOp ρ o) or := by
  obtain ⟨x, y, rfl, hcx, hcy⟩ := cXs_two hx
  have hvx := hρ _ _ hcx
  have hvy := hρ _ _ hcy
  obtain ⟨cs, hcs⟩ := run_builtin (P := C.P) (w := w) (ρ := ρ) ho
  simp only [opSem] at hs
  split at hs
  · rename_i a b e1 e2
    rw [e1] at hvx; rw [e2] at hvy
    cases hs
    refine OpOK.pure r ?_ (.i _)
    rw [hcs, ltI_eq]
    simp [builtin, hvx.i_inv, hvy.i_inv, run_max_int2]
  · cases hs
include r hρ in
theorem snd_recover {args : Array Operand} {ats : Array TypeId} (hx : cXs C args.toList = some [])
    {o : Oper} (ho : o.op = .call ⟨.builtin .recover, args, ats⟩) {or : OR} (hs : opSem .recover rs h = some or) : OpOK C.P Q g h w (execOp ρ o) or := by
  obtain ⟨cs, hcs⟩ := run_builtin (P := C.P) (w := w) (ρ := ρ) ho
  simp only [opSem, Option.some.injEq] at hs
  subst hs
  show (execOp ρ o).run C.P w = .ok .recover w
  rw [hcs]
  simp [builtin]
include r hρ in
theorem snd_usd {args : Array Operand} {ats : Array TypeId} {x' : X} (hx : cXs C args.toList = some [x'])
    {o : Oper} (ho : o.op = .call ⟨.builtin .unsafeSliceData, args, ats⟩) {or : OR} (hs : opSem (.usd x') rs h = some or) : OpOK C.P Q g h w (execOp ρ o) or := by
  obtain ⟨x, rfl, hcx⟩ := cXs_one hx
  have hv := hρ _ _ hcx
  obtain ⟨cs, hcs⟩ := run_builtin (P := C.P) (w := w) (ρ := ρ) ho
  simp only [opSem] at hs
  split at hs
  · rename_i e'
    rw [e'] at hv
    cases hs
    refine OpOK.pure r ?_ .nilp
    rw [hcs]
    simp only [builtin, List.map_toArray, List.map_cons, List.map_nil, hv.nils_inv, Sem.run_bind, Lib.run_unsafeSliceData_nil, Result.andThen_ok]
    rfl
  · rename_i id off l cap e'
    rw [e'] at hv
    obtain ⟨en, a, c, hen, hxe, hlc, ha, _, _⟩ := hv.sl_inv
    cases hs
    have hc0 : c ≠ 0 := by omega
    refine OpOK.pure r ?_ (.ptr (off := off) hen)
    rw [hcs]
    simp only [builtin, List.map_toArray, List.map_cons, List.map_nil, hxe, Sem.run_bind, Lib.run_unsafeSliceData_row w _ _ _ _ _ hc0, Result.andThen_ok, ha hc0]
    rfl
  · cases hs
include hT r hρ in
theorem snd_copy {args : Array Operand} {ats : Array TypeId} {t : Nat} {ts : TI} (h0 : ats[0]? = some t) (hts : C.tt t = some ts) {e : Nat} (hd : ts.d = .slice e) {te : TI} (hte : C.tt e = some te) {d' x' : X} (hx : cXs C args.toList = some [d', x'])
    {o : Oper} (ho : o.op = .call ⟨.builtin .copy, args, ats⟩) {or : OR} (hs : opSem (.copy te.n d' x') rs h = some or) : OpOK C.P Q g h w (execOp ρ o) or := by
  obtain ⟨d, x, rfl, hcd, hcx⟩ := cXs_two hx
  have hvd := hρ _ _ hcd
  have hvx := hρ _ _ hcx
  obtain ⟨cs, hcs⟩ := run_builtin (P := C.P) (w := w) (ρ := ρ) ho
  simp only [opSem] at hs
  split at hs
  · rename_i m k hm hk
    split at hs
    · rename_i vs id off l cap hfs hde
      split at hs
      · rename_i h' hst
        cases hs
        intro _
        rw [hde] at hvd hk
        simp only [lenV, Option.some.injEq] at hk
        subst hk
        obtain ⟨en, a, c, hen, hxe, hlc, ha, _, _⟩ := hvd.sl_inv
        obtain ⟨xs, hxs, hr⟩ := firstOf_sound r hfs hvx
        have hlen := firstOf_length hfs
        by_cases hc0 : c = 0
        · have hl0 : l = 0 := by omega
          subst hl0
          have hn0 : Nat.min m 0 = 0 := Nat.min_zero _
          rw [hn0] at hlen hfs ⊢
          have hvs : vs = [] := List.eq_nil_of_length_eq_zero (by rw [hlen]; simp)
          subst hvs
          cases hr
          obtain ⟨ad, w', had, hrun, hr2, he, _⟩ := stC_sound (P := C.P) r hst (.ptr hen) .nil
          simp only [storeCells, Sem.run_pure, Result.ok.injEq, true_and] at hrun
          subst hrun
          have h1 := hxs C.P w rfl
          rw [hn0] at h1
          refine ⟨g, w, .int .i64 ((0 : Nat) : Int), _, ?_, .inl rfl, .i _, hr2, he⟩
          rw [hcs]
          simp [builtin, Builtin.copy_, h0, run_under hT hts, hd, run_siz hT hte, hxe, lenV_sound hm hvx, h1, storeCells, goInt]
        · obtain ⟨ad, w', had, hrun, hr2, he, _⟩ := stC_sound (P := C.P) r hst (.ptr hen) hr
          simp only [Value.pointer.injEq, Option.some.injEq] at had
          refine ⟨g, w', .int .i64 ((Nat.min m l : Nat) : Int), _, ?_, .inl rfl, .i _, hr2, he⟩
          have e1 : (⟨en.blk, a, none⟩ : Addr) = ad := by rw [ha hc0, ← had]
          rw [hcs]
          simp only [builtin, List.map_toArray, List.map_cons, List.map_nil, Builtin.copy_, h0, hxe, e1]
          simp [run_under hT hts, hd, run_siz hT hte, lenV_sound hm hvx, hxs C.P w rfl, hrun, goInt]
      · cases hs
    · rename_i vs hfs hde
      cases hs
      rw [hde] at hvd hk
      simp only [lenV, Option.some.injEq] at hk
      subst hk
      have hn0 : Nat.min m 0 = 0 := Nat.min_zero _
      obtain ⟨xs, hxs, hr⟩ := firstOf_sound r hfs hvx
      have h1 := hxs C.P w rfl
      rw [hn0] at h1
      refine OpOK.pure r ?_ (.i 0)
      rw [hcs]
      simp [builtin, Builtin.copy_, h0, run_under hT hts, hd, run_siz hT hte, hvd.nils_inv, lenV_sound hm hvx, h1, goInt]
    · cases hs
  · cases hs
include hT r hρ in
theorem snd_clear {args : Array Operand} {ats : Array TypeId} {t : Nat} {ts : TI} (h0 : ats[0]? = some t) (hts : C.tt t = some ts) {e : Nat} (hd : ts.d = .slice e) {te : TI} (hte : C.tt e = some te) {z : List V} (hz : zeroCells te = some z) {x' : X} (hx : cXs C args.toList = some [x'])
    {o : Oper} (ho : o.op = .call ⟨.builtin .clear, args, ats⟩) {or : OR} (hs : opSem (.clear te.n z x') rs h = some or) : OpOK C.P Q g h w (execOp ρ o) or := by
  obtain ⟨x, rfl, hcx⟩ := cXs_one hx
  have hv := hρ _ _ hcx
  obtain ⟨cs, hcs⟩ := run_builtin (P := C.P) (w := w) (ρ := ρ) ho
  obtain ⟨zv, hzv, hzr, hzn, hzl⟩ := zeroCells_VRs g hz
  simp only [opSem] at hs
  split at hs
  · rename_i e'
    rw [e'] at hv
    cases hs
    refine OpOK.pure r (x := .tuple #[]) ?_ (.tup .nil)
    rw [hcs]
    simp [builtin, Builtin.clear_, h0, run_under hT hts, hd, hv.nils_inv]
  · rename_i id off len cap e'
    rw [e'] at hv
    obtain ⟨en, a, c, hen, hxe, hlc, ha, _, _⟩ := hv.sl_inv
    split at hs
    · cases hs
      refine OpOK.pure r (x := .tuple #[]) ?_ (.tup .nil)
      rw [hcs]
      simp [builtin, Builtin.clear_, h0, run_under hT hts, hd, hxe]
    · rename_i hl0
      by_cases hzz : z.length = te.n
      · rw [if_pos hzz] at hs
        cases hst : stC h (.ptr id off) (reps len z) with
        | none => rw [hst] at hs; cases hs
        | some h' =>
          rw [hst] at hs
          cases hs
          intro _
          have hc0 : c ≠ 0 := by
            intro hc; apply hl0; omega
          have hpos : 0 < zv.cells.size ∨ zv.cells.size = 0 := by omega
          have hnr : VRs g (reps len z) (Builtin.zeroCells zv.cells len).toList := by
            rcases hpos with hp | hp
            · rw [zeroCells_list zv.cells len hp]; exact hzr.reps len
            · have h1 : (Builtin.zeroCells zv.cells len).toList = [] := List.eq_nil_of_length_eq_zero (by rw [zeroCells_length, hp, Nat.mul_zero])
              have h2 : z = [] := List.eq_nil_of_length_eq_zero (by rw [hzr.length]; simpa using hp)
              rw [h1, h2]
              have : reps len ([] : List V) = [] := by unfold reps; induction len with | zero => rfl | succ n ih => simp [List.replicate_succ]
              rw [this]; exact .nil
          obtain ⟨ad, w', had, hrun, hr2, he, _⟩ := stC_sound (P := C.P) r hst (.ptr hen) hnr
          simp only [Value.pointer.injEq, Option.some.injEq] at had
          have e1 : (⟨en.blk, a, none⟩ : Addr) = ad := by rw [ha hc0, ← had]
          refine ⟨g, w', .tuple #[], _, ?_, .inl rfl, .tup .nil, hr2, he⟩
          rw [hcs]
          obtain ⟨len', rfl⟩ : ∃ k, len = k + 1 := ⟨len - 1, by have : len ≠ 0 := fun hh => hl0 hh; omega⟩
          simp only [builtin, List.map_toArray, List.map_cons, List.map_nil, Builtin.clear_, h0, hxe, e1]
          simp [run_under hT hts, hd, run_zero hT hte hzv, hrun]
      · rw [if_neg hzz] at hs; cases hs
  · cases hs
end
end Ax

/- The abstract executor, part 12: the operations are what their compiled forms say (conversions, calls). -/
namespace Ax
open Go

section
variable {C : Fix} {Q : Nat → CC → Code → Prop} {g : Gh} {h : H} {w : World} {rs : RF} {ρ : Operand → Value}

theorem bytesOf_sound : ∀ {vs : List V} {l c : Nat} {xs : List Value}, bytesOf vs = some (l, c) → VRs g vs xs →
    ∃ bs : List UInt8, xs = bs.map (fun b => Value.int .u8 (b.toNat : Int)) ∧ bs.length = l ∧ codeOf bs = c
  | [], l, c, xs, h, hv => by
    simp only [bytesOf, Option.some.injEq, Prod.mk.injEq] at h
    obtain ⟨rfl, rfl⟩ := h
    cases hv
    exact ⟨[], rfl, rfl, rfl⟩
  | v :: vs, l, c, xs, h, hv => by
    cases hv with
    | cons h1 hs =>
      unfold bytesOf at h
      split at h
      · rename_i heq; cases heq
      · rename_i n r heq
        cases heq
        split at h
        · rename_i l' c' hb
          split at h
          · rename_i hn
            simp only [Option.some.injEq, Prod.mk.injEq] at h
            obtain ⟨rfl, rfl⟩ := h
            obtain ⟨bs, q1, q2, q3⟩ := bytesOf_sound hb hs
            refine ⟨UInt8.ofNat n :: bs, ?_, by simp [q2], ?_⟩
            · rw [h1.u_inv, q1]
              simp only [List.map_cons, UInt8.toNat_ofNat', Nat.mod_eq_of_lt hn]
              rfl
            · simp only [codeOf, q3, UInt8.toNat_ofNat', Nat.mod_eq_of_lt hn]
          · cases h
        · cases h
      · cases h

theorem alloc_freeze (w : World) (e : TypeId) (A : Array Value) : (w.alloc (.cells A e)).freeze ⟨w.heap.size, A.size, none⟩ 1 = w.alloc (.cells A e (A.size, A.size + 1)) := by
  unfold World.freeze
  rw [if_neg (by decide)]
  unfold World.alloc
  congr 1
  apply Array.ext
  · simp
  · intro i hi1 hi2
    simp only [Array.size_modify, Array.size_push] at hi1
    rw [Array.getElem_modify]
    by_cases hi : w.heap.size = i
    · subst hi; simp
    · rw [if_neg hi]
      rw [Array.getElem_push_lt (by omega), Array.getElem_push_lt (by omega)]

variable (hT : TTok C.P C.tt) (r : Rel Q g h w) (hρ : ∀ x y, cX C x = some y → VR g (y.val rs) (ρ x))

include hT r hρ in
theorem snd_cvId {s d : TypeId} {ts td : TI} (hts : C.tt s = some ts) (htd : C.tt d = some td) (h1 : ts.d = .string) (h2 : td.d = .string) {x : Operand} {x' : X} (hx : cX C x = some x') {o : Oper} (ho : o.op = .convert s d x) {or : OR} (hs : opSem (.cvS x') rs h = some or) : OpOK C.P Q g h w (execOp ρ o) or := by
  have hv := hρ _ _ hx
  simp only [opSem] at hs
  split at hs
  · rename_i l c e
    cases hs
    rw [e] at hv
    obtain ⟨bs, hxe, hl, hc⟩ := hv.s_inv
    refine OpOK.pure r ?_ hv
    simp only [execOp, ho, convert, Sem.run_bind, run_under hT hts, run_under hT htd, Result.andThen_ok, h1, h2, hxe]
    rfl
  · cases hs
include hT r hρ in
theorem snd_cvBytes {s d : TypeId} {ts td : TI} (hts : C.tt s = some ts) (htd : C.tt d = some td) (h1 : ts.d = .string) {e : Nat} (h2 : td.d = .slice e) {te : TI} (hte : C.tt e = some te) (h3 : te.d = .int .u8) {x : Operand} {x' : X} (hx : cX C x = some x') {o : Oper} (ho : o.op = .convert s d x) {or : OR} (hs : opSem (.cvBytes e x') rs h = some or) : OpOK C.P Q g h w (execOp ρ o) or := by
  have hv := hρ _ _ hx
  simp only [opSem] at hs
  split at hs
  · rename_i l c e1
    cases hs
    intro hf
    rw [e1] at hv
    obtain ⟨bs, hxe, hl, hc⟩ := hv.s_list
    have hnr := bytesV_VRs g bs.data.toList
    rw [hl, hc] at hnr
    have hlx : (bs.data.toList.map fun b => Value.int .u8 (b.toNat : Int)).length = l := by simp [← hl]
    have hge : bs.size ≤ grownCap w bs.size 0 e := grownCap_ge w _ _ _
    have hbs : bs.size = l := by rw [bsize]; exact hl
    obtain ⟨k1, k2⟩ := newCells_sound (r.drew) (fresh_next hf (by simp [newCells])) e 1 (bytesV l c) _ hnr (List.replicate (grownCap w bs.size 0 e - bs.size) (.int .u8 0)) false (by simp)
      (((bs.data.toList.map fun b => Value.int .u8 (b.toNat : Int)) ++ List.replicate (grownCap w bs.size 0 e - bs.size) (Value.int .u8 0)).length, ((bs.data.toList.map fun b => Value.int .u8 (b.toNat : Int)) ++ List.replicate (grownCap w bs.size 0 e - bs.size) (Value.int .u8 0)).length + 1) (.inr (Nat.le_refl _))
    refine ⟨_, _, .slice (some ⟨w.heap.size, 0 + 0, none⟩) bs.size (grownCap w bs.size 0 e), _, ?_, .inl rfl, ?_, k1, (Ext.drew g h w).trans k2⟩
    · simp only [execOp, ho, convert, Sem.run_bind, run_under hT hts, run_under hT htd, run_under hT hte, Result.andThen_ok, h1, h2, h3, hxe, Conv.stringToBytes, run_choose]
      have hfc : (Question.appendCap bs.size 0 e).forced = false := rfl
      simp only [hfc, Bool.false_eq_true, if_false, Result.andThen_ok, World.drew_eq]
      have e5 : (bs.data.map (fun b => Value.int .u8 (b.toNat : Int)) ++ Array.replicate ((Question.appendCap bs.size 0 e).cut (w.tape w.drawn (Question.appendCap bs.size 0 e)) - bs.size) (Value.int .u8 0)) =
          ((bs.data.toList.map fun b => Value.int .u8 (b.toNat : Int)) ++ List.replicate (grownCap w bs.size 0 e - bs.size) (Value.int .u8 0)).toArray := by
        apply Array.ext'; simp [grownCap]
      rw [e5]
      simp only [newRow, Sem.run_bind, run_newObj, Result.andThen_ok, Sem.run_pure, World.alloc_eq, markStringish, run_shape]
      have hsh : ∀ (A : Array Value), (w.drew.alloc (.cells A e)).shape? w.drew.heap.size = some (e, A.size) := by
        intro A
        simp only [World.shape?, heap_alloc_new]
      rw [hsh]
      simp only [run_freeze, Result.andThen_ok]
      have := alloc_freeze w.drew e ((bs.data.toList.map fun b => Value.int .u8 (b.toNat : Int)) ++ List.replicate (grownCap w bs.size 0 e - bs.size) (Value.int .u8 0)).toArray
      rw [show (World.freeze _ _ 1) = _ from this]
      simp
      rfl
    · rw [← hbs]
      refine .sl (e := ⟨w.heap.size, 0, _, 1⟩) (by simp [Gh.bind]; rfl) hge (fun _ => rfl) (fun _ => ?_) (fun cp hc => by omega)
      simp only [List.length_append, List.length_map, List.length_replicate, ← bsize]
      omega
  · cases hs

theorem foldl_push : ∀ (bs : List UInt8) (acc : ByteArray), ((bs.map fun b => ((b.toNat : Nat) : Int)).foldl (fun (r : ByteArray) (n : Int) => r.push (UInt8.ofNat n.toNat)) acc).data.toList = acc.data.toList ++ bs
  | [], acc => by simp
  | b :: bs, acc => by
    simp only [List.map_cons, List.foldl_cons]
    rw [foldl_push bs]
    simp [ByteArray.push]

include hT r hρ in
theorem snd_cvStr {s d : TypeId} {ts td : TI} (hts : C.tt s = some ts) (htd : C.tt d = some td) {e : Nat} (h1 : ts.d = .slice e) (h2 : td.d = .string) {te : TI} (hte : C.tt e = some te) (h3 : te.d = .int .u8) {x : Operand} {x' : X} (hx : cX C x = some x') {o : Oper} (ho : o.op = .convert s d x) {or : OR} (hs : opSem (.cvStr x') rs h = some or) : OpOK C.P Q g h w (execOp ρ o) or := by
  have hv := hρ _ _ hx
  simp only [opSem] at hs
  split at hs
  · rename_i l c hb
    cases hs
    simp only [Option.bind_eq_some_iff] at hb
    obtain ⟨n, hn, vs, hvs, hb⟩ := hb
    obtain ⟨xs, hxs, hr⟩ := firstOf_sound r hvs hv
    obtain ⟨bs, q1, q2, q3⟩ := bytesOf_sound hb hr
    have hlen := firstOf_length hvs
    have hrl := hr.length
    rw [q1, List.length_map] at hrl
    have hcv : (execOp ρ o).run C.P w = ((Conv.bytesToString (ρ x)).run C.P w).andThen fun v w' => .ok (.value v) w' := by
      have hsl : ∃ a l c, ρ x = .slice a l c := by
        unfold lenQ at hn
        split at hn <;> first | (cases hn; done) | skip
        · rename_i e'; rw [e'] at hv; obtain ⟨_, _, _, _, h, _⟩ := hv.sl_inv; exact ⟨_, _, _, h⟩
        · rename_i e'; rw [e'] at hv; obtain ⟨_, _, _, _, _, h, _⟩ := hv.fs_inv; exact ⟨_, _, _, h⟩
        · rename_i e'; rw [e'] at hv; exact ⟨_, _, _, hv.nils_inv⟩
      obtain ⟨a, l, c, hsl⟩ := hsl
      have hgo : (convert s d (ρ x)).run C.P w = (Conv.bytesToString (ρ x)).run C.P w := by
        rw [hsl]
        exact run_convert_bytes_string w s d e a l c (by rw [(hT _ _ hts).1, h1]) (by rw [(hT _ _ hte).1, h3]) (by rw [(hT _ _ htd).1, h2])
      simp only [execOp, ho, Sem.run_bind, hgo]
      rfl
    have h1 := hxs C.P w rfl
    have hstr : VR g (.s l c) (.string ⟨bs.toArray⟩) := by
      have := VR.str (g := g) ⟨bs.toArray⟩ bs (by simp)
      rw [q2, q3] at this; exact this
    unfold lenQ at hn
    split at hn <;> first | (cases hn; done) | skip
    · rename_i id off l2 cap e'
      simp only [Option.some.injEq] at hn
      subst hn
      rw [e'] at hv
      obtain ⟨en, a, cc, _, hxe, _⟩ := hv.sl_inv
      refine OpOK.pure r ?_ hstr
      rw [hcv, hxe]
      rw [hxe] at h1
      simp only [Builtin.firstCells, Nat.mul_one] at h1
      rw [q1] at h1
      have := run_bytesToString (P := C.P) w ⟨en.blk, a, none⟩ l2 cc (bs.map fun b => ((b.toNat : Nat) : Int)) (by rw [List.map_map]; exact h1)
      rw [this]
      simp only [Result.andThen_ok]
      congr 2
      congr 1
      apply ByteArray.ext
      apply Array.ext'
      rw [foldl_push]
      simp
    · rename_i cs l2 cap e'
      simp only [Option.some.injEq] at hn
      subst hn
      rw [e'] at hv
      obtain ⟨k, oo, arr, cc, _, hxe, _⟩ := hv.fs_inv
      refine OpOK.pure r ?_ hstr
      rw [hcv, hxe]
      rw [hxe] at h1
      simp only [Builtin.firstCells, Nat.mul_one] at h1
      rw [q1] at h1
      have := run_bytesToString (P := C.P) w ⟨k, oo, none⟩ l2 cc (bs.map fun b => ((b.toNat : Nat) : Int)) (by rw [List.map_map]; exact h1)
      rw [this]
      simp only [Result.andThen_ok]
      congr 2
      congr 1
      apply ByteArray.ext
      apply Array.ext'
      rw [foldl_push]
      simp
    · rename_i e'
      simp only [Option.some.injEq] at hn
      subst hn
      rw [e'] at hv
      have hb0 : bs = [] := List.eq_nil_of_length_eq_zero (by omega)
      subst hb0
      refine OpOK.pure r ?_ hstr
      rw [hcv, hv.nils_inv]
      simp [Conv.bytesToString]
      rfl
  · cases hs

/-- What an owned block of cells is. -/
theorem own_cells (r : Rel Q g h w) {id : Nat} {c : T V} {n e es : Nat} {cl : Bool} (hid : h.get id = some (.cells c n e es cl)) {en : Ent} (hen : g.φ id = some en) :
    ∃ arr fr, w.heap[en.blk]? = some (.cells arr e fr) ∧ arr.size = en.size ∧ es = en.es ∧ CellsR g c n arr en.off ∧ (cl = true → en.off = 0 ∧ n = arr.size) := by
  obtain ⟨en', hen', hor⟩ := r.own _ _ hid
  rw [hen] at hen'; cases hen'
  obtain ⟨arr, fr, h1, h2, h3, _, h5, h6⟩ := hor.cells_inv
  exact ⟨arr, fr, h1, h2, h3, h5, h6⟩

include hT r hρ in
theorem snd_cvUp {s d : TypeId} {ts td : TI} (hts : C.tt s = some ts) (htd : C.tt d = some td) {t : Nat} (h1 : ts.d = .pointer t) (h2 : td.d = .unsafePointer) {te : TI} (hte : C.tt t = some te) (hne : te.n ≠ 0) {x : Operand} {x' : X} (hx : cX C x = some x') {o : Oper} (ho : o.op = .convert s d x) {or : OR} (hs : opSem (.cvUp t x') rs h = some or) : OpOK C.P Q g h w (execOp ρ o) or := by
  have hv := hρ _ _ hx
  have hcv : ∀ p, ρ x = .pointer p → (execOp ρ o).run C.P w = ((Conv.unsafePointer s d (.pointer p)).run C.P w).andThen fun v w' => .ok (.value v) w' := by
    intro p hp
    simp only [execOp, ho, convert, Sem.run_bind, run_under hT hts, run_under hT htd, Result.andThen_ok, h1, h2, hp]
    rfl
  simp only [opSem] at hs
  split at hs
  · rename_i e
    cases hs
    rw [e] at hv
    refine OpOK.pure r ?_ .nilp
    rw [hcv _ hv.nilp_inv]
    simp [Conv.unsafePointer, run_under hT hts, run_under hT htd, h1, h2]
  · rename_i id off e
    split at hs
    · rename_i c n t' es cl hid
      split at hs
      · rename_i hlt
        cases hs
        rw [e] at hv
        obtain ⟨en, hen, hxe⟩ := hv.ptr_inv
        obtain ⟨arr, fr, hh, hsz, _, hcells, _⟩ := own_cells r hid hen
        have hfit := hcells.fits
        refine OpOK.pure r ?_ hv
        rw [hcv _ hxe, hxe]
        have hsh : w.shape? en.blk = some (t', arr.size) := by simp [World.shape?, hh]
        have hnot : ¬ (arr.size ≤ en.off + off) := by omega
        simp [Conv.unsafePointer, run_under hT hts, run_under hT htd, h1, h2, Conv.seenAt, viewAt, hsh, cellsIn, run_siz hT hte, hne, hnot]
      · cases hs
    · cases hs
  · cases hs
include hT r hρ in
theorem snd_cvDn {s d : TypeId} {ts td : TI} (hts : C.tt s = some ts) (htd : C.tt d = some td) {u : Nat} (h1 : ts.d = .unsafePointer) (h2 : td.d = .pointer u) {x : Operand} {x' : X} (hx : cX C x = some x') {o : Oper} (ho : o.op = .convert s d x) {or : OR} (hs : opSem (.cvDn u (C.up.filter (upFits C u)) x') rs h = some or) : OpOK C.P Q g h w (execOp ρ o) or := by
  have hv := hρ _ _ hx
  have hcv : ∀ p, ρ x = .pointer p → (execOp ρ o).run C.P w = ((Conv.unsafePointer s d (.pointer p)).run C.P w).andThen fun v w' => .ok (.value v) w' := by
    intro p hp
    simp only [execOp, ho, convert, Sem.run_bind, run_under hT hts, run_under hT htd, Result.andThen_ok, h1, h2, hp]
    rfl
  simp only [opSem] at hs
  split at hs
  · rename_i e
    cases hs
    rw [e] at hv
    refine OpOK.pure r ?_ .nilp
    rw [hcv _ hv.nilp_inv]
    simp [Conv.unsafePointer, run_under hT hts, run_under hT htd, h1, h2]
  · rename_i id e
    split at hs
    · rename_i c n t' es hid
      split at hs
      · rename_i hany
        cases hs
        rw [e] at hv
        obtain ⟨en, hen, hxe⟩ := hv.ptr_inv
        obtain ⟨arr, fr, hh, hsz, _, hcells, hcl⟩ := own_cells r hid hen
        obtain ⟨ho0, hn⟩ := hcl rfl
        simp only [List.any_eq_true, Bool.and_eq_true] at hany
        obtain ⟨p, hp, hp1, hp2⟩ := hany
        have hp1 := Nat.eq_of_beq_eq_true hp1
        have hp2 := Nat.eq_of_beq_eq_true hp2
        simp only [List.mem_filter] at hp
        obtain ⟨_, hfit⟩ := hp
        simp only [upFits, Bool.and_eq_true] at hfit
        obtain ⟨hf1, hf2⟩ := hfit
        split at hf1
        · rename_i tu htu
          have hnu : tu.n ≠ 0 := by simpa using hf1
          refine OpOK.pure r ?_ hv
          rw [hcv _ hxe, hxe]
          have hsh : w.shape? en.blk = some (t', arr.size) := by simp [World.shape?, hh]
          rw [hp1, hp2, hn] at hf2
          simp [Conv.unsafePointer, run_under hT hts, run_under hT htd, h1, h2, Conv.seenAt, viewAt, hsh, run_siz hT htu, hnu, variablesAt, ho0, hf2]
        · cases hf1
      · cases hs
    · cases hs
  · cases hs

theorem liesAt_bytes_off {P : Program} {e : TypeId} (hc : P.cellsOf e = 1) (count off n : Nat) (hn : off + n ≤ count) : liesAt P P.depth e count off e n = true := by
  have hd : P.depth = (2 * (P.types.size + Made.depth) + 1) + 1 := rfl
  rw [hd]
  simp only [liesAt, Bool.or_eq_true]
  left
  rw [hd]
  simp [rowAt, hc, hn, sameLayout, Nat.mod_one]

/-- unsafe.String of some bytes, wherever they lie in a row. -/
theorem run_us (w : World) (pt it ty e : TypeId) (hp : C.P.underlying pt = some (.pointer e)) (hc : C.P.cellsOf e = 1) (b o cells : Nat) (hsh : w.shape? b = some (e, cells)) (l : List UInt8) (h0 : l ≠ []) (hn : o + l.length ≤ cells) (h63 : l.length ≤ 9223372036854775807)
    (hcell : ∀ j x, l[j]? = some x → w.cell? ((⟨b, o, none⟩ : Addr).add j) = some (.int .u8 x.toNat)) (k : IntKind) :
    (Builtin.unsafeString_ #[pt, it] ty #[.pointer (some ⟨b, o, none⟩), .int k l.length]).run C.P w = .ok (.string ⟨l.toArray⟩) (w.freeze ⟨b, o, none⟩ l.length) := by
  have hl : l.length ≠ 0 := by simpa using h0
  have hlb := Lib.run_loadBytes (P := C.P) w l ⟨b, o, none⟩ .empty hcell
  have hlies := liesAt_bytes_off (P := C.P) hc (cells / C.P.cellsOf e) o l.length (by rw [hc]; simpa using hn)
  have h63' : ¬ (9223372036854775807 : Int) < (l.length : Int) := by omega
  have hneg : ¬ (l.length : Int) < 0 := by omega
  have key : ∀ (s : Sem Value), s = Builtin.unsafeString_ #[pt, it] ty #[.pointer (some ⟨b, o, none⟩), .int k l.length] → s.run C.P w = .ok (.string ⟨l.toArray⟩) (w.freeze ⟨b, o, none⟩ l.length) := by
    rintro s rfl
    have hd : Builtin.unsafeString_ #[pt, it] ty #[.pointer (some ⟨b, o, none⟩), .int k l.length] = (asInt (.int k l.length) >>= fun n => _) := rfl
    rw [hd]
    have hmax : IntKind.i64.max = 9223372036854775807 := rfl
    simp [asInt, asIntOf, hmax, h63', hneg, hl, variablesAt, hsh, elemOf, run_underlying hp, hlies, hlb]
  exact key _ rfl

include hT r hρ in
theorem snd_us {args : Array Operand} {ats : Array TypeId} {t t2 : Nat} {ts : TI} (h0 : ats = #[t, t2]) (hts : C.tt t = some ts) {e : Nat} (hd : ts.d = .pointer e) {te : TI} (hte : C.tt e = some te) (hn1 : te.n = 1) {p' n' : X} (hx : cXs C args.toList = some [p', n'])
    {o : Oper} (ho : o.op = .call ⟨.builtin .unsafeString, args, ats⟩) {or : OR} (hs : opSem (.us e p' n') rs h = some or) : OpOK C.P Q g h w (execOp ρ o) or := by
  obtain ⟨p, n, rfl, hcp, hcn⟩ := cXs_two hx
  have hvp := hρ _ _ hcp
  have hvn := hρ _ _ hcn
  obtain ⟨cs, hcs⟩ := run_builtin (P := C.P) (w := w) (ρ := ρ) ho
  have hmax : IntKind.i64.max = 9223372036854775807 := rfl
  simp only [opSem] at hs
  split at hs
  · rename_i e1 e2
    cases hs
    rw [e1] at hvp
    obtain ⟨k, hk⟩ := natI_inv e2 hvn
    refine OpOK.pure r (x := .string .empty) ?_ (.s .empty)
    rw [hcs]
    simp only [builtin, List.map_toArray, List.map_cons, List.map_nil, hvp.nilp_inv, hk, h0]
    have hd : Builtin.unsafeString_ #[t, t2] o.type #[.pointer none, .int k (Int.ofNat 0)] = (asInt (.int k (Int.ofNat 0)) >>= fun n => _) := rfl
    rw [hd]
    simp [asInt, asIntOf, hmax]
  · rename_i id off m e1 e2
    split at hs
    · rename_i c kk e' cl hid
      split at hs
      · rename_i hee
        obtain ⟨rfl, hm⟩ := hee
        split at hs
        · rename_i l cc hb
          cases hs
          intro _
          simp only [Option.bind_eq_some_iff] at hb
          obtain ⟨vs, hvs, hb⟩ := hb
          rw [e1] at hvp
          obtain ⟨k, hk⟩ := natI_inv e2 hvn
          obtain ⟨en, hen, hxe⟩ := hvp.ptr_inv
          obtain ⟨a, xs, hxa, hxl, hcell, hr⟩ := ldC_sound r hvs hvp
          rw [hxe] at hxa
          simp only [Value.pointer.injEq, Option.some.injEq] at hxa
          obtain ⟨arr, fr, hh, hsz, hes, hcells, _⟩ := own_cells r hid hen
          obtain ⟨bs, q1, q2, q3⟩ := bytesOf_sound hb hr
          have hbl : bs.length = m + 1 := by rw [q1] at hxl; simpa using hxl
          have hfit : off + (m + 1) ≤ kk := by
            unfold ldC at hvs
            simp only [hid] at hvs
            split at hvs
            · assumption
            · cases hvs
          have hfit2 := hcells.fits
          have hsh : w.shape? en.blk = some (e, arr.size) := by simp [World.shape?, hh]
          obtain ⟨ie, hie, hib1, _⟩ := (hT _ _ hte).2
          have hco : C.P.cellsOf e = 1 := by simp [Program.cellsOf, hie, hib1, hn1]
          have hcellb : ∀ j x, bs[j]? = some x → w.cell? ((⟨en.blk, en.off + off, none⟩ : Addr).add j) = some (.int .u8 x.toNat) := by
            intro j x hj
            rw [hxa]
            refine hcell j _ ?_
            rw [q1, List.getElem?_map, hj]; rfl
          have hrun : (execOp ρ o).run C.P w = .ok (.value (.string ⟨bs.toArray⟩)) (w.freeze ⟨en.blk, en.off + off, none⟩ (m + 1)) := by
            rw [hcs]
            simp only [builtin, List.map_toArray, List.map_cons, List.map_nil, hxe, hk, h0]
            have := run_us (C := C) w t t2 o.type e (by rw [(hT _ _ hts).1, hd]) hco en.blk (en.off + off) arr.size hsh bs (by intro hb0; rw [hb0] at hbl; simp at hbl) (by omega) (by omega) hcellb k
            rw [hbl] at this
            simp only [Sem.run_bind]
            rw [show (Int.ofNat (m + 1)) = (((m + 1 : Nat)) : Int) from rfl, this]
            rfl
          obtain ⟨d1, d2⟩ := r.del id
          -- freezing touches the block that is given up alone
          have hfz : ∀ k, k ≠ en.blk → (w.freeze ⟨en.blk, en.off + off, none⟩ (m + 1)).heap[k]? = w.heap[k]? := by
            intro k hk2
            simp only [World.freeze, Nat.add_eq_zero_iff, Nat.one_ne_zero, and_false, if_false]
            rw [Array.getElem?_modify, if_neg (fun hh => hk2 hh.symm)]
          have hfs : (w.freeze ⟨en.blk, en.off + off, none⟩ (m + 1)).heap.size = w.heap.size := by simp [World.freeze]
          have hlive : ∀ j o', (h.del id).get j = some o' → h.get j = some o' ∧ j ≠ id := by
            intro j o' hj
            rw [H.get_del] at hj
            by_cases hji : j = id
            · simp [hji] at hj
            · rw [if_neg hji] at hj; exact ⟨hj, hji⟩
          have hblk : ∀ j o' ej, (h.del id).get j = some o' → g.φ j = some ej → ej.blk ≠ en.blk := by
            intro j o' ej hj hp hbb
            obtain ⟨hj1, hj2⟩ := hlive j o' hj
            exact hj2 (r.inj j id o' _ ej en hj1 hid hp hen hbb)
          refine ⟨g, _, _, _, hrun, .inl rfl, ?_, ?_, ?_⟩
          · have := VR.str (g := g) ⟨bs.toArray⟩ bs (by simp)
            rw [q2, q3] at this; exact this
          · refine ⟨?_, d1.inj, ?_, ?_, d1.nxt⟩
            · intro j o' hj
              obtain ⟨ej, hej, hor⟩ := d1.own j o' hj
              refine ⟨ej, hej, ?_⟩
              rw [hfz _ (hblk j o' ej hj hej)]; exact hor
            · intro k a' hk2
              obtain ⟨⟨t', fr', hh'⟩, hn⟩ := d1.frz k a' hk2
              have hne : k ≠ en.blk := fun hkk => (r.frz k a' hk2).2 id _ en hid hen hkk.symm
              exact ⟨⟨t', fr', by rw [hfz k hne]; exact hh'⟩, hn⟩
            · intro j ej hj; rw [hfs]; exact d1.bnd j ej hj
          · refine ⟨d2.φ, d2.le, d2.nx, by rw [hfs]; exact Nat.le_refl _, ?_, by simp [World.freeze], by simp [World.freeze], by simp [World.freeze]⟩
            intro k hk2 hfr
            obtain ⟨f1, f2, f3⟩ := d2.free k hk2 hfr
            exact ⟨by rw [hfz k (fun hkk => hfr id _ en hid hen hkk.symm)], f2, f3⟩
        · cases hs
      · cases hs
    · cases hs
  · cases hs

/-- A call of a function that is named. -/
theorem run_call_func {P : Program} {f : FuncId} {args : Array Operand} {ats : Array TypeId} {o : Oper} (ho : o.op = .call ⟨.value (.func f), args, ats⟩) (hfun : ρ (.func f) = .func (.func f) #[] #[]) :
    (execOp ρ o).run P w = (callFunc f (args.toList.map ρ).toArray).run P w := by
  have e1 : Array.map ρ args = (args.toList.map ρ).toArray := by apply Array.ext'; simp
  simp [execOp, ho, resolve, Deferred.ofValue, invoke, hfun, e1]

include hρ in
theorem snd_call {f : FuncId} {args : Array Operand} {ats : Array TypeId} {xs : List X} (hx : cXs C args.toList = some xs) {o : Oper} (ho : o.op = .call ⟨.value (.func f), args, ats⟩) (hfun : ρ (.func f) = .func (.func f) #[] #[])
    {or : OR} (hs : opSem (.call f xs) rs h = some or) : OpOK C.P Q g h w (execOp ρ o) or := by
  simp only [opSem, Option.some.injEq] at hs
  subst hs
  exact ⟨_, run_call_func ho hfun, cXs_VRs hρ hx⟩
include r hρ in
theorem snd_callv {fo : Operand} {args : Array Operand} {ats : Array TypeId} {fx : X} (hf : cX C fo = some fx) {xs : List X} (hx : cXs C args.toList = some xs) {o : Oper} (ho : o.op = .call ⟨.value fo, args, ats⟩)
    {or : OR} (hs : opSem (.callv fx xs) rs h = some or) : OpOK C.P Q g h w (execOp ρ o) or := by
  have hv := hρ _ _ hf
  have hr := cXs_VRs hρ hx
  have e1 : Array.map ρ args = (args.toList.map ρ).toArray := by apply Array.ext'; simp
  simp only [opSem] at hs
  split at hs
  · rename_i f caps e
    cases hs
    rw [e] at hv
    generalize hz : ρ fo = z at hv
    cases hv with
    | fn hc =>
      refine ⟨_, ?_, hr.append hc⟩
      simp [execOp, ho, resolve, Deferred.ofValue, invoke, hz, e1]
  · rename_i id e
    cases hs
    rw [e] at hv
    generalize hz : ρ fo = z at hv
    cases hv with
    | yld hc =>
      refine ⟨_, _, hc, ?_, hr⟩
      simp [execOp, ho, resolve, Deferred.ofValue, invoke, hz, e1]
  · cases hs
include hρ in
theorem snd_defer {f : FuncId} {args : Array Operand} {ats : Array TypeId} {xs : List X} (hx : cXs C args.toList = some xs) {o : Oper} (ho : o.op = .defer ⟨.value (.func f), args, ats⟩) (hfun : ρ (.func f) = .func (.func f) #[] #[])
    {or : OR} (hs : opSem (.defer f xs) rs h = some or) : OpOK C.P Q g h w (execOp ρ o) or := by
  simp only [opSem, Option.some.injEq] at hs
  subst hs
  have e1 : Array.map ρ args = (args.toList.map ρ).toArray := by apply Array.ext'; simp
  refine ⟨args.toList.map ρ, [], ?_, by simpa using cXs_VRs hρ hx⟩
  simp [execOp, ho, resolve, Deferred.ofValue, hfun, e1]
include hρ in
theorem snd_deferv {fo : Operand} {args : Array Operand} {ats : Array TypeId} {fx : X} (hf : cX C fo = some fx) {xs : List X} (hx : cXs C args.toList = some xs) {o : Oper} (ho : o.op = .defer ⟨.value fo, args, ats⟩)
    {or : OR} (hs : opSem (.deferv fx xs) rs h = some or) : OpOK C.P Q g h w (execOp ρ o) or := by
  have hv := hρ _ _ hf
  have hr := cXs_VRs hρ hx
  have e1 : Array.map ρ args = (args.toList.map ρ).toArray := by apply Array.ext'; simp
  simp only [opSem] at hs
  split at hs
  · rename_i f caps e
    cases hs
    rw [e] at hv
    generalize hz : ρ fo = z at hv
    cases hv with
    | fn hc =>
      refine ⟨args.toList.map ρ, _, ?_, hr.append hc⟩
      simp [execOp, ho, resolve, Deferred.ofValue, hz, e1]
  · cases hs
theorem find_congr' {α : Type} (p q : α → Bool) : ∀ (l : List α), (∀ x ∈ l, p x = q x) → l.find? p = l.find? q
  | [], _ => rfl
  | x :: l, h => by
    simp only [List.find?_cons]
    rw [h x (by simp), find_congr' p q l (fun y hy => h y (by simp [hy]))]
include r hρ in
theorem snd_noesc (hC : FixOK C) {f : FuncId} {fn : Func} (hfn : C.P.funcs[f]? = some fn) (hb : fn.body = none) (hname : fn.name = "internal/abi.NoEscape") {args : Array Operand} {ats : Array TypeId} {x' : X} (hx : cXs C args.toList = some [x']) {o : Oper} (ho : o.op = .call ⟨.value (.func f), args, ats⟩) (hfun : ρ (.func f) = .func (.func f) #[] #[])
    {or : OR} (hs : opSem (.noesc x') rs h = some or) : OpOK C.P Q g h w (execOp ρ o) or := by
  obtain ⟨x, rfl, hcx⟩ := cXs_one hx
  simp only [opSem, Option.some.injEq] at hs
  subst hs
  obtain ⟨h1, h2⟩ := hC.ne f fn hfn hb hname
  refine OpOK.pure r ?_ (hρ _ _ hcx)
  rw [run_call_func ho hfun, run_callFunc_extern hfn (by rw [hname]; rfl) (by simp [hb]) h1 h2]
  have e1 : Extern.AbiNoEscape.same (List.map ρ #[x].toList).toArray = pure (ρ x) := rfl
  rw [e1]
  simp
include r hρ in
theorem snd_ixByte (hC : FixOK C) {f : FuncId} {fn : Func} (hfn : C.P.funcs[f]? = some fn) (hb : fn.body = none) (hname : fn.name = "internal/bytealg.IndexByteString") {args : Array Operand} {ats : Array TypeId} {x' y' : X} (hx : cXs C args.toList = some [x', y']) {o : Oper} (ho : o.op = .call ⟨.value (.func f), args, ats⟩) (hfun : ρ (.func f) = .func (.func f) #[] #[])
    {or : OR} (hs : opSem (.ixByte x' y') rs h = some or) : OpOK C.P Q g h w (execOp ρ o) or := by
  obtain ⟨x, y, rfl, hcx, hcy⟩ := cXs_two hx
  have hvx := hρ _ _ hcx
  have hvy := hρ _ _ hcy
  simp only [opSem] at hs
  split at hs
  · rename_i l a n e1 e2
    cases hs
    rw [e1] at hvx
    rw [e2] at hvy
    obtain ⟨bs, hxe, hl, hc⟩ := hvx.s_list
    obtain ⟨h1, h2⟩ := hC.ib f fn hfn hb hname
    have hrun : (execOp ρ o).run C.P w = .ok (.value (.int .i64 (firstIdx bs n.toUInt8))) w := by
      rw [run_call_func ho hfun, run_callFunc_extern hfn (by rw [hname]; rfl) (by simp [hb]) h1 h2]
      have := run_indexByte_string (P := C.P) bs (Int.ofNat n) w
      simp only [List.map_cons, List.map_nil, hxe, hvy.u_inv]
      rw [this]
      simp
    have hfi : firstIdx bs n.toUInt8 = (match (List.range l).find? fun j => Nat.beq (byteAt a j) (n % 256) with | some j => (j : Int) | none => -1) := by
      unfold firstIdx
      rw [bsize, hl]
      have hpred : ∀ j ∈ List.range l, (bs[j]! == n.toUInt8) = Nat.beq (byteAt a j) (n % 256) := by
        intro j hj
        have hj : j < l := List.mem_range.1 hj
        have hget : bs.data.toList[j]? = some bs.data.toList[j] := List.getElem?_eq_getElem (by omega)
        have hb := byteAt_code _ _ _ hget
        rw [hc] at hb
        have hbj : bs[j]! = bs.data.toList[j] := by
          have hs : j < bs.size := by rw [bsize]; omega
          rw [getElem!_pos bs j hs]
          simp only [Array.getElem_toList]
          rfl
        rw [hbj, hb, Bool.eq_iff_iff]
        simp only [beq_iff_eq, Nat.beq_eq]
        constructor
        · intro h; rw [h]; simp
        · intro h; apply UInt8.toNat_inj.1; rw [h]; simp
      have hfc := find_congr' (fun i => bs[i]! == n.toUInt8) (fun j => Nat.beq (byteAt a j) (n % 256)) _ hpred
      rw [hfc]
      cases (List.range l).find? (fun j => Nat.beq (byteAt a j) (n % 256)) <;> rfl
    refine OpOK.pure r hrun ?_
    rw [hfi]
    split <;> (rename_i e3; rw [e3]; exact .i _)
  · cases hs
end
end Ax

/- The abstract executor, part 13: the operations are what their compiled forms say (sameness; maps). -/
namespace Ax
open Go

section
variable {C : Fix} {Q : Nat → CC → Code → Prop} {g : Gh} {h : H} {w : World} {rs : RF} {ρ : Operand → Value}
variable (r : Rel Q g h w) (hρ : ∀ x y, cX C x = some y → VR g (y.val rs) (ρ x))

def LK.At : LK → TypeDesc → Prop
  | .int, d => ∃ j, d = .int j
  | .bool, d => d = .bool
  | .str, d => d = .string

theorem leafK_spec {t : Nat} {k : LK} (h : leafK C t = some k) : ∃ ti, C.tt t = some ti ∧ ti.n = 1 ∧ k.At ti.d := by
  unfold leafK at h
  split at h
  · rename_i ti hti
    split at h
    · rename_i hn
      refine ⟨ti, hti, hn, ?_⟩
      split at h <;> first | (cases h; done) | (rename_i e; cases h; first | exact e | exact ⟨_, e⟩)
    · cases h
  · cases h

theorem VR.s_eq {l c m d : Nat} {x y : Value} (hx : VR g (.s l c) x) (hy : VR g (.s m d) y) : ∃ a b : ByteArray, x = .string a ∧ y = .string b ∧ (a == b) = strEq l c m d ∧ ((a == b) = true → a = b) := by
  obtain ⟨a, rfl, hl, hc⟩ := hx.s_inv
  obtain ⟨b, rfl, hm, hd⟩ := hy.s_inv
  refine ⟨a, b, rfl, rfl, ?_, (MapKept.bytes_beq a b).1⟩
  have := strEq_code a.data.toList b.data.toList
  rw [hc, hd] at this
  have e1 : a.data.toList.length = l := by rw [← hl]; rfl
  have e2 : b.data.toList.length = m := by rw [← hm]; rfl
  rw [e1, e2] at this
  rw [this, Bool.eq_iff_iff, MapKept.bytes_beq]
  obtain ⟨⟨x⟩⟩ := a
  obtain ⟨⟨y⟩⟩ := b
  simp

/-- The test of two leaves, at a fitting type. -/
theorem equalIn_leaf (hT : TTok C.P C.tt) {t : Nat} {k : LK} (hk : leafK C t = some k) {a b : V} {x y : Value} (hx : VR g a x) (hy : VR g b y) (hf : k.fits a = true) {r : Bool} (he : leafEq a b = some r) (d : Nat) (w : World) :
    (Op.equalIn (d + 1) t x y).run C.P w = .ok r w ∧ (r = true → x = y) := by
  obtain ⟨ti, hti, hn, hd⟩ := leafK_spec hk
  have hu := run_under hT hti
  unfold leafEq at he
  split at he
  · cases he
    rw [hx.i_inv, hy.i_inv]
    cases k <;> simp [LK.fits] at hf
    simp only [LK.At] at hd
    obtain ⟨j, hd⟩ := hd
    refine ⟨by simp [Op.equalIn, hu, hd, eqI_eq], fun h => ?_⟩
    rw [eqI_eq] at h; simp at h; rw [h]
  · split at he
    · rename_i hkk
      cases he
      subst hkk
      rw [hx.u_inv, hy.u_inv]
      cases k <;> simp [LK.fits] at hf
      simp only [LK.At] at hd
      obtain ⟨j, hd⟩ := hd
      refine ⟨by simp [Op.equalIn, hu, hd, eqI_eq], fun h => ?_⟩
      rw [eqI_eq] at h; simp at h; rw [h]
    · cases he
  · cases he
    rw [hx.b_inv, hy.b_inv]
    cases k <;> simp [LK.fits] at hf
    simp only [LK.At] at hd
    refine ⟨by simp [Op.equalIn, hu, hd], fun h => ?_⟩
    simp at h; rw [h]
  · cases he
    obtain ⟨p, q, rfl, rfl, h1, h2⟩ := VR.s_eq hx hy
    cases k <;> simp [LK.fits] at hf
    simp only [LK.At] at hd
    refine ⟨by simp [Op.equalIn, hu, hd, h1], fun h => ?_⟩
    rw [← h1] at h; rw [h2 h]
  · cases he
theorem part_leaf (hT : TTok C.P C.tt) {t : Nat} {k : LK} (hk : leafK C t = some k) {xs : Array Value} {o : Nat} {x : Value} (hx : xs[o]? = some x) (w : World) : (part t xs o).run C.P w = .ok x w := by
  obtain ⟨ti, hti, hn, hd⟩ := leafK_spec hk
  have : TypeDesc.isAggB ti.d = false := by
    cases k <;> simp only [LK.At] at hd
    · obtain ⟨j, hd⟩ := hd; rw [hd]; rfl
    · rw [hd]; rfl
    · rw [hd]; rfl
  simp [part, run_isAgg hT hti, this, hx]

theorem fitsL_length : ∀ {ks : List LK} {cs : List V}, fitsL ks cs = true → ks.length = cs.length
  | [], [], _ => rfl
  | k :: r, v :: q, h => by simp [fitsL] at h; simp [fitsL_length h.2]
  | [], _ :: _, h => by simp [fitsL] at h
  | _ :: _, [], h => by simp [fitsL] at h

/-- A struct of leaves: field after field. -/
theorem eqFields_flat (hT : TTok C.P C.tt) (d : Nat) (xs ys : Array Value) (w : World) : ∀ (fs : List Field) (i : Nat) (ks : List LK) (as bs : List V), flatFs C fs i = some ks → fitsL ks as = true → VRs g as (xs.toList.drop i) → VRs g bs (ys.toList.drop i) → ∀ r, leavesEq as bs = some r →
    (Op.eqFields (d + 1) xs ys fs).run C.P w = .ok r w ∧ (r = true → xs.toList.drop i = ys.toList.drop i) := by
  intro fs
  induction fs with
  | nil =>
    intro i ks as bs hk hf hx hy r hr
    simp only [flatFs, Option.some.injEq] at hk
    subst hk
    cases as with
    | cons _ _ => simp [fitsL] at hf
    | nil =>
      cases bs with
      | cons _ _ => simp [leavesEq] at hr
      | nil =>
        simp only [leavesEq, Option.some.injEq] at hr
        subst hr
        refine ⟨by simp [Op.eqFields], fun _ => ?_⟩
        have h1 := hx.length; have h2 := hy.length
        simp at h1 h2
        rw [List.drop_eq_nil_of_le (by simpa using by omega), List.drop_eq_nil_of_le (by simpa using by omega)]
  | cons f fs ih =>
    intro i ks as bs hk hf hx hy r hr
    simp only [flatFs] at hk
    split at hk
    · rename_i hc
      split at hk
      · rename_i k l hk1 hk2
        cases hk
        cases as with
        | nil => simp [fitsL] at hf
        | cons a as =>
          simp only [fitsL, Bool.and_eq_true] at hf
          cases bs with
          | nil => simp [leavesEq] at hr
          | cons b bs =>
            generalize hX : xs.toList.drop i = X at hx
            generalize hY : ys.toList.drop i = Y at hy
            cases hx with
            | cons hx1 hx2 =>
              cases hy with
              | cons hy1 hy2 =>
                rename_i x X y Y
                have ex : xs[i]? = some x := by
                  have : (xs.toList.drop i)[0]? = some x := by rw [hX]; rfl
                  simpa using this
                have ey : ys[i]? = some y := by
                  have : (ys.toList.drop i)[0]? = some y := by rw [hY]; rfl
                  simpa using this
                have dx : xs.toList.drop (i + 1) = X := by rw [← List.tail_drop, hX]; rfl
                have dy : ys.toList.drop (i + 1) = Y := by rw [← List.tail_drop, hY]; rfl
                have px := part_leaf hT hk1 (hc.2 ▸ ex) w
                have py := part_leaf hT hk1 (hc.2 ▸ ey) w
                simp only [leavesEq] at hr
                split at hr
                · rename_i e
                  obtain ⟨q1, q2⟩ := equalIn_leaf hT hk1 hx1 hy1 hf.1 e d w
                  obtain ⟨s1, s2⟩ := ih (i + 1) l as bs hk2 hf.2 (by rw [dx]; exact hx2) (by rw [dy]; exact hy2) r hr
                  refine ⟨by simp [Op.eqFields, hc.1, px, py, q1, s1], fun hh => ?_⟩
                  rw [q2 rfl, ← dx, ← dy, s2 hh]
                · rename_i e
                  cases hr
                  obtain ⟨q1, q2⟩ := equalIn_leaf hT hk1 hx1 hy1 hf.1 e d w
                  exact ⟨by simp [Op.eqFields, hc.1, px, py, q1], fun hh => by cases hh⟩
                · cases hr
      · cases hk
    · cases hk

/-- An array of leaves: element after element. -/
theorem eqItems_flat (hT : TTok C.P C.tt) {t : Nat} {k : LK} (hk : leafK C t = some k) (d : Nat) (xs ys : Array Value) (w : World) : ∀ (n i : Nat) (as bs : List V), fitsL (List.replicate n k) as = true → VRs g as (xs.toList.drop i) → VRs g bs (ys.toList.drop i) → ∀ r, leavesEq as bs = some r →
    (Op.eqItems (d + 1) t 1 xs ys (List.range' i n)).run C.P w = .ok r w ∧ (r = true → xs.toList.drop i = ys.toList.drop i) := by
  intro n
  induction n with
  | zero =>
    intro i as bs hf hx hy r hr
    cases as with
    | cons _ _ => simp [fitsL] at hf
    | nil =>
      cases bs with
      | cons _ _ => simp [leavesEq] at hr
      | nil =>
        simp only [leavesEq, Option.some.injEq] at hr
        subst hr
        refine ⟨by simp [Op.eqItems], fun _ => ?_⟩
        have h1 := hx.length; have h2 := hy.length
        simp at h1 h2
        rw [List.drop_eq_nil_of_le (by simpa using by omega), List.drop_eq_nil_of_le (by simpa using by omega)]
  | succ n ih =>
    intro i as bs hf hx hy r hr
    rw [List.replicate_succ] at hf
    cases as with
    | nil => simp [fitsL] at hf
    | cons a as =>
      simp only [fitsL, Bool.and_eq_true] at hf
      cases bs with
      | nil => simp [leavesEq] at hr
      | cons b bs =>
        generalize hX : xs.toList.drop i = X at hx
        generalize hY : ys.toList.drop i = Y at hy
        cases hx with
        | cons hx1 hx2 =>
          cases hy with
          | cons hy1 hy2 =>
            rename_i x X y Y
            have ex : xs[i]? = some x := by
              have : (xs.toList.drop i)[0]? = some x := by rw [hX]; rfl
              simpa using this
            have ey : ys[i]? = some y := by
              have : (ys.toList.drop i)[0]? = some y := by rw [hY]; rfl
              simpa using this
            have dx : xs.toList.drop (i + 1) = X := by rw [← List.tail_drop, hX]; rfl
            have dy : ys.toList.drop (i + 1) = Y := by rw [← List.tail_drop, hY]; rfl
            have px := part_leaf hT hk ex w
            have py := part_leaf hT hk ey w
            simp only [leavesEq] at hr
            rw [List.range'_succ]
            split at hr
            · rename_i e
              obtain ⟨q1, q2⟩ := equalIn_leaf hT hk hx1 hy1 hf.1 e d w
              obtain ⟨s1, s2⟩ := ih (i + 1) as bs hf.2 (by rw [dx]; exact hx2) (by rw [dy]; exact hy2) r hr
              refine ⟨by simp [Op.eqItems, px, py, q1, s1], fun hh => ?_⟩
              rw [q2 rfl, ← dx, ← dy, s2 hh]
            · rename_i e
              cases hr
              obtain ⟨q1, q2⟩ := equalIn_leaf hT hk hx1 hy1 hf.1 e d w
              exact ⟨by simp [Op.eqItems, px, py, q1], fun hh => by cases hh⟩
            · cases hr

theorem flatK_spec {t : Nat} {ks : List LK} (h : flatK C t = some ks) : ∃ ti, C.tt t = some ti ∧ C.P.stoodInHeld t = false ∧ C.P.eqGuardType C.P.depth t = false ∧
    ((∃ fs, ti.d = .struct fs ∧ flatFs C fs.toList 0 = some ks) ∨ ∃ n e k, ti.d = .array n e ∧ leafK C e = some k ∧ ks = List.replicate n k) := by
  unfold flatK at h
  split at h
  · rename_i ti hti
    split at h
    · rename_i hc
      refine ⟨ti, hti, hc.1, hc.2, ?_⟩
      split at h
      · rename_i fs hd
        exact .inl ⟨fs, hd, h⟩
      · rename_i n e hd
        simp only [Option.map_eq_some_iff] at h
        obtain ⟨k, hk, rfl⟩ := h
        exact .inr ⟨n, e, k, hd, hk, rfl⟩
      · cases h
    · cases h
  · cases h
theorem equalIn_flat (hT : TTok C.P C.tt) {t : Nat} {ks : List LK} (hk : flatK C t = some ks) {as bs : List V} {xs ys : List Value} (hx : VRs g as xs) (hy : VRs g bs ys) (hf : fitsL ks as = true) {r : Bool} (he : leavesEq as bs = some r) (d : Nat) (w : World) :
    (Op.equalIn (d + 2) t (.agg xs.toArray) (.agg ys.toArray)).run C.P w = .ok r w ∧ (r = true → xs = ys) := by
  obtain ⟨ti, hti, hst, _, hc⟩ := flatK_spec hk
  rcases hc with ⟨fs, hd, hfs⟩ | ⟨n, e, k, hd, hke, rfl⟩
  · have hu : C.P.underlying t = some (.struct fs) := by rw [← hd]; exact (hT t ti hti).1
    have hfo : C.P.fieldsOf t = fs := by simp [Program.fieldsOf, hu]
    rw [run_equalIn_struct w (d + 1) t xs.toArray ys.toArray (by rw [hfo]; exact hu) hst, hfo]
    obtain ⟨a, b⟩ := eqFields_flat (g := g) hT d xs.toArray ys.toArray w fs.toList 0 ks as bs hfs hf (by simpa using hx) (by simpa using hy) r he
    exact ⟨a, by simpa using b⟩
  · have hu : C.P.underlying t = some (.array n e) := by rw [← hd]; exact (hT t ti hti).1
    obtain ⟨te, hte, hn, _⟩ := leafK_spec hke
    obtain ⟨i, hi, hsz, _⟩ := (hT e te hte).2
    rw [run_equalIn_array w (d + 1) xs.toArray ys.toArray hu hi]
    have hc : C.P.cellsOf e = 1 := by simp [Program.cellsOf, hi, hsz, hn]
    rw [hc, List.range_eq_range']
    obtain ⟨a, b⟩ := eqItems_flat (g := g) hT hke d xs.toArray ys.toArray w n 0 as bs hf (by simpa using hx) (by simpa using hy) r he
    exact ⟨a, by simpa using b⟩

theorem eqKind_spec {t : Nat} {x y : Operand} {k : EqK} (h : eqKind C t x y = some k) : ∃ ti, C.tt t = some ti ∧ (match k with
    | .bool => ti.d = .bool
    | .ptr => ∃ e te, ti.d = .pointer e ∧ C.tt e = some te ∧ te.n ≠ 0
    | .slice => ∃ e, ti.d = .slice e
    | .map => ∃ a b, ti.d = .map a b
    | .func => ∃ a b c, ti.d = .func a b c
    | .iface => (∃ ms, ti.d = .interface ms) ∧ ((∃ c, x = .const c) ∨ ∃ c, y = .const c)
    | .flat ks => flatK C t = some ks) := by
  unfold eqKind at h
  split at h
  · rename_i ti hti
    refine ⟨ti, hti, ?_⟩
    split at h
    · rename_i hd; cases h; exact hd
    · rename_i e hd
      split at h
      · rename_i te hte
        split at h
        · cases h
        · rename_i hn; cases h; exact ⟨e, te, hd, hte, hn⟩
      · cases h
    · rename_i e hd; cases h; exact ⟨e, hd⟩
    · rename_i a b hd; cases h; exact ⟨a, b, hd⟩
    · rename_i a b c hd; cases h; exact ⟨a, b, c, hd⟩
    · rename_i ms hd
      split at h
      · rename_i hc
        cases h
        refine ⟨⟨ms, hd⟩, ?_⟩
        simp only [Bool.or_eq_true] at hc
        rcases hc with hc | hc
        · left
          unfold isNilC at hc
          split at hc
          · exact ⟨_, rfl⟩
          · cases hc
        · right
          unfold isNilC at hc
          split at hc
          · exact ⟨_, rfl⟩
          · cases hc
      · cases h
    · simp only [Option.map_eq_some_iff] at h; obtain ⟨ks, hks, rfl⟩ := h; exact hks
    · simp only [Option.map_eq_some_iff] at h; obtain ⟨ks, hks, rfl⟩ := h; exact hks
    · cases h
  · cases h

theorem VR.fp_inv' {cs : List V} {x : Value} (hx : VR g (.fp cs) x) : ∃ a, x = .pointer (some a) := by cases hx with | fp h hc => exact ⟨_, rfl⟩
theorem VR.fn_inv' {f : Nat} {cs : List V} {x : Value} (hx : VR g (.fn f cs) x) : ∃ a b c, x = .func a b c := by cases hx with | fn h => exact ⟨_, _, _, rfl⟩
theorem VR.ifc_inv' {t : Nat} {v : V} {x : Value} (hx : VR g (.ifc t v) x) : ∃ z, x = .iface t z ∧ VR g v z := by cases hx with | ifc h => exact ⟨_, rfl, h⟩

theorem eq_of {P : Program} {w : World} {T : Nat} {a b : Value} {t : Bool} (h1 : binOp .eql T a b = (do pure (.bool (← Op.equal T a b)))) (h2 : binOp .neq T a b = (do pure (.bool (!(← Op.equal T a b)))))
    (h : ∀ d, (Op.equalIn (d + 1) T a b).run P w = .ok t w) : (binOp .eql T a b).run P w = .ok (.bool t) w ∧ (binOp .neq T a b).run P w = .ok (.bool (!t)) w := by
  have : (Op.equal T a b).run P w = .ok t w := h 9999
  rw [h1, h2]
  constructor
  · simp only [Sem.run_bind, this, Result.andThen_ok, Sem.run_pure]
  · simp only [Sem.run_bind, this, Result.andThen_ok, Sem.run_pure]
set_option maxHeartbeats 1000000 in
theorem eq_core (hT : TTok C.P C.tt) {T : Nat} {x y : Operand} {k : EqK} (hk : eqKind C T x y = some k) {v1 v2 : V} {a b : Value} (h1 : VR g v1 a) (h2 : VR g v2 b) {t : Bool} (he : eqV k v1 v2 = some t) (op : BinOp) (w : World) :
    (eqGuard op T x y a b).run C.P w = .ok () w ∧ (binOp .eql T a b).run C.P w = .ok (.bool t) w ∧ (binOp .neq T a b).run C.P w = .ok (.bool (!t)) w := by
  obtain ⟨ti, hti, hd⟩ := eqKind_spec hk
  have hu := run_under hT hti
  unfold eqV at he
  split at he
  · cases he
    rw [h1.b_inv, h2.b_inv]
    exact ⟨by rw [eqGuard_at_bool]; rfl, eq_of rfl rfl (fun d => by simp [Op.equalIn, hu, hd])⟩
  · cases he
    obtain ⟨e, te, hd, _⟩ := hd
    rw [h1.nilp_inv, h2.nilp_inv]
    exact ⟨by rw [eqGuard_at_pointer]; rfl, eq_of rfl rfl (fun d => by simp [Op.equalIn, hu, hd])⟩
  · cases he
    obtain ⟨e, te, hd, _⟩ := hd
    obtain ⟨_, _, e2⟩ := h2.ptr_inv
    rw [h1.nilp_inv, e2]
    exact ⟨by rw [eqGuard_at_pointer]; rfl, eq_of rfl rfl (fun d => by simp [Op.equalIn, hu, hd])⟩
  · cases he
    obtain ⟨e, te, hd, _⟩ := hd
    obtain ⟨_, _, e1⟩ := h1.ptr_inv
    rw [h2.nilp_inv, e1]
    exact ⟨by rw [eqGuard_at_pointer]; rfl, eq_of rfl rfl (fun d => by simp [Op.equalIn, hu, hd])⟩
  · cases he
    obtain ⟨e, te, hd, _⟩ := hd
    obtain ⟨_, e2⟩ := h2.fp_inv'
    rw [h1.nilp_inv, e2]
    exact ⟨by rw [eqGuard_at_pointer]; rfl, eq_of rfl rfl (fun d => by simp [Op.equalIn, hu, hd])⟩
  · cases he
    obtain ⟨e, te, hd, _⟩ := hd
    obtain ⟨_, e1⟩ := h1.fp_inv'
    rw [h2.nilp_inv, e1]
    exact ⟨by rw [eqGuard_at_pointer]; rfl, eq_of rfl rfl (fun d => by simp [Op.equalIn, hu, hd])⟩
  · split at he
    · split at he
      · rename_i i1 o1 i2 o2 e1 e2
        cases he
        subst e1; subst e2
        obtain ⟨e, te, hd, hte, hn⟩ := hd
        obtain ⟨en, p1, q1⟩ := h1.ptr_inv
        obtain ⟨en', p2, q2⟩ := h2.ptr_inv
        rw [p1] at p2; cases p2
        rw [q1, q2]
        exact ⟨by rw [eqGuard_at_pointer]; rfl, eq_of rfl rfl (fun d => by simp [Op.equalIn, hu, hd, run_siz hT hte, hn, sameAddr])⟩
      · cases he
    · cases he
  · cases he
    obtain ⟨e, hd⟩ := hd
    rw [h1.nils_inv, h2.nils_inv]
    exact ⟨by rw [eqGuard_at_slice]; rfl, eq_of rfl rfl (fun d => by simp [Op.equalIn, hu, hd])⟩
  · cases he
    obtain ⟨e, hd⟩ := hd
    obtain ⟨_, _, _, _, e2, _⟩ := h2.sl_inv
    rw [h1.nils_inv, e2]
    exact ⟨by rw [eqGuard_at_slice]; rfl, eq_of rfl rfl (fun d => by simp [Op.equalIn, hu, hd])⟩
  · cases he
    obtain ⟨e, hd⟩ := hd
    obtain ⟨_, _, _, _, e1, _⟩ := h1.sl_inv
    rw [h2.nils_inv, e1]
    exact ⟨by rw [eqGuard_at_slice]; rfl, eq_of rfl rfl (fun d => by simp [Op.equalIn, hu, hd])⟩
  · cases he
    obtain ⟨e, hd⟩ := hd
    obtain ⟨_, _, _, _, _, e2, _⟩ := h2.fs_inv
    rw [h1.nils_inv, e2]
    exact ⟨by rw [eqGuard_at_slice]; rfl, eq_of rfl rfl (fun d => by simp [Op.equalIn, hu, hd])⟩
  · cases he
    obtain ⟨e, hd⟩ := hd
    obtain ⟨_, _, _, _, _, e1, _⟩ := h1.fs_inv
    rw [h2.nils_inv, e1]
    exact ⟨by rw [eqGuard_at_slice]; rfl, eq_of rfl rfl (fun d => by simp [Op.equalIn, hu, hd])⟩
  · cases he
    obtain ⟨e, e', hd⟩ := hd
    rw [h1.nilm_inv, h2.nilm_inv]
    exact ⟨by rw [eqGuard_at_map]; rfl, eq_of rfl rfl (fun d => by simp [Op.equalIn, hu, hd])⟩
  · cases he
    obtain ⟨e, e', hd⟩ := hd
    obtain ⟨_, _, e2⟩ := h2.m_inv
    rw [h1.nilm_inv, e2]
    exact ⟨by rw [eqGuard_at_map]; rfl, eq_of rfl rfl (fun d => by simp [Op.equalIn, hu, hd])⟩
  · cases he
    obtain ⟨e, e', hd⟩ := hd
    obtain ⟨_, _, e1⟩ := h1.m_inv
    rw [h2.nilm_inv, e1]
    exact ⟨by rw [eqGuard_at_map]; rfl, eq_of rfl rfl (fun d => by simp [Op.equalIn, hu, hd])⟩
  · cases he
    obtain ⟨_, _, _, hd⟩ := hd
    rw [h1.nilf_inv, h2.nilf_inv]
    exact ⟨by rw [eqGuard_at_nilFunc]; rfl, eq_of rfl rfl (fun d => by simp [Op.equalIn, hu, hd])⟩
  · cases he
    obtain ⟨_, _, _, hd⟩ := hd
    obtain ⟨_, _, _, e2⟩ := h2.fn_inv'
    rw [h1.nilf_inv, e2]
    exact ⟨by rw [eqGuard_at_nilFunc]; rfl, eq_of rfl rfl (fun d => by simp [Op.equalIn, hu, hd])⟩
  · cases he
    obtain ⟨_, _, _, hd⟩ := hd
    obtain ⟨_, _, _, e1⟩ := h1.fn_inv'
    rw [h2.nilf_inv, e1]
    exact ⟨by rw [eqGuard_at_func]; rfl, eq_of rfl rfl (fun d => by simp [Op.equalIn, hu, hd])⟩
  · cases he
    obtain ⟨⟨ms, hd⟩, hc⟩ := hd
    rw [h1.nili_inv, h2.nili_inv]
    refine ⟨?_, eq_of rfl rfl (fun d => by simp [Op.equalIn, hu, hd])⟩
    rcases hc with ⟨c, rfl⟩ | ⟨c, rfl⟩
    · rw [eqGuard_nil_constL]; rfl
    · rw [eqGuard_nil_constR]; rfl
  · cases he
    obtain ⟨⟨ms, hd⟩, hc⟩ := hd
    obtain ⟨_, e2, _⟩ := h2.ifc_inv'
    rw [h1.nili_inv, e2]
    exact ⟨by rw [eqGuard_nil_iface]; rfl, eq_of rfl rfl (fun d => by simp [Op.equalIn, hu, hd])⟩
  · cases he
    obtain ⟨⟨ms, hd⟩, hc⟩ := hd
    obtain ⟨_, e1, _⟩ := h1.ifc_inv'
    rw [h2.nili_inv, e1]
    exact ⟨by rw [eqGuard_at_iface]; rfl, eq_of rfl rfl (fun d => by simp [Op.equalIn, hu, hd])⟩
  · split at he
    · rename_i ks as bs hf
      obtain ⟨xs, rfl, hx⟩ := h1.agg_inv
      obtain ⟨ys, rfl, hy⟩ := h2.agg_inv
      obtain ⟨_, _, _, hg, _⟩ := flatK_spec hd
      obtain ⟨q, _⟩ := equalIn_flat hT hd hx hy hf he 9998 w
      refine ⟨run_eqGuard_agg w op T x y _ _ hg, ?_, ?_⟩
      · rw [run_eql_struct, q]; rfl
      · rw [run_neq_struct, q]; rfl
    · cases he
  · cases he

include hρ r in
theorem snd_eq (hT : TTok C.P C.tt) {op : BinOp} {t yt : TypeId} {x y : Operand} {x' y' : X} (hx : cX C x = some x') (hy : cX C y = some y') {k : EqK} (hk : eqKind C t x y = some k) {neg : Bool} (hop : (op = .eql ∧ neg = false) ∨ (op = .neq ∧ neg = true))
    {o : Oper} (ho : o.op = .binOp op t x y yt) {or : OR} (hs : opSem (.eq k neg x' y') rs h = some or) : OpOK C.P Q g h w (execOp ρ o) or := by
  have hvx := hρ _ _ hx
  have hvy := hρ _ _ hy
  simp only [opSem] at hs
  split at hs
  · rename_i b hb
    cases hs
    obtain ⟨e1, e2, e3⟩ := eq_core hT hk hvx hvy hb op w
    refine OpOK.pure r (x := .bool (b != neg)) ?_ (.b _)
    rcases hop with ⟨rfl, rfl⟩ | ⟨rfl, rfl⟩
    · simp [execOp, ho, e1, e2]
    · simp [execOp, ho, e1, e3]
  · cases hs
end
end Ax

/- The abstract executor, part 14: the operations are what their compiled forms say (maps). -/
namespace Ax
open Go

section
variable {C : Fix} {Q : Nat → CC → Code → Prop} {g : Gh} {h : H} {w : World} {rs : RF} {ρ : Operand → Value}

/-! A map's key. -/
theorem fits_leafEq_sameNow {k : LK} {ti : TI} (hd : k.At ti.d) {a b : V} {x y : Value} (hx : VR g a x) (hy : VR g b y) (hf : k.fits a = true) {r : Bool} (he : leafEq a b = some r) :
    Instr.sameNow ti.d x y = some r := by
  unfold leafEq at he
  split at he
  · cases he
    rw [hx.i_inv, hy.i_inv]
    cases k <;> simp [LK.fits] at hf
    simp only [LK.At] at hd
    obtain ⟨j, hd⟩ := hd
    simp [hd, Instr.sameNow, eqI_eq]
  · split at he
    · rename_i hkk
      cases he
      subst hkk
      rw [hx.u_inv, hy.u_inv]
      cases k <;> simp [LK.fits] at hf
      simp only [LK.At] at hd
      obtain ⟨j, hd⟩ := hd
      simp [hd, Instr.sameNow, eqI_eq]
    · cases he
  · cases he
    rw [hx.b_inv, hy.b_inv]
    cases k <;> simp [LK.fits] at hf
    simp only [LK.At] at hd
    simp [hd, Instr.sameNow]
  · cases he
    obtain ⟨p, q, rfl, rfl, h1, h2⟩ := VR.s_eq hx hy
    cases k <;> simp [LK.fits] at hf
    simp only [LK.At] at hd
    simp [hd, Instr.sameNow, h1]
  · cases he

theorem fits_check {k : LK} {d : TypeDesc} (hd : k.At d) {P : Program} {t : Nat} (hu : ∀ w : World, (underlying t).run P w = .ok d w) (x : Value) (em : Bool) (n : Nat) (w : World) :
    (Instr.checkKey em (n + 1) t x).run P w = .ok () w := by
  cases k
  · obtain ⟨j, rfl⟩ := hd
    simp [Instr.checkKey, hu]
  · simp only [LK.At] at hd; subst hd
    simp [Instr.checkKey, hu]
  · simp only [LK.At] at hd; subst hd
    simp [Instr.checkKey, hu]

theorem checkFields (hT : TTok C.P C.tt) (em : Bool) (d : Nat) (xs : Array Value) (w : World) : ∀ (fs : List Field) (i : Nat) (ks : List LK), flatFs C fs i = some ks → i + ks.length ≤ xs.size →
    (forIn (m := Sem) fs PUnit.unit (fun f _ => do
      if f.name ≠ "_" then
        Instr.checkKey em (d + 1) f.type (← part f.type xs f.offset)
        pure (ForInStep.yield PUnit.unit)
      else pure (ForInStep.yield PUnit.unit))).run C.P w = .ok PUnit.unit w := by
  intro fs
  induction fs with
  | nil => intro i ks _ _; simp
  | cons f fs ih =>
    intro i ks hk hl
    simp only [flatFs] at hk
    split at hk
    · rename_i hc
      split at hk
      · rename_i k l hk1 hk2
        cases hk
        simp only [List.length_cons] at hl
        obtain ⟨ti, hti, hn, hd⟩ := leafK_spec hk1
        have ex : xs[i]? = some xs[i] := Array.getElem?_eq_getElem (by omega)
        have ho := hc.2
        have px := part_leaf hT hk1 (o := f.offset) (by rw [ho]; exact ex) w
        have pc := fits_check hd (fun w => run_under hT hti w) xs[i] em d w
        simp only [List.forIn_cons, Sem.run_bind, hc.1, ne_eq, not_false_eq_true, if_true, px, pc, Result.andThen_ok, Sem.run_pure]
        exact ih (i + 1) l hk2 (by omega)
      · cases hk
    · cases hk
theorem checkItems (hT : TTok C.P C.tt) {e : Nat} {k : LK} (hk : leafK C e = some k) (em : Bool) (d : Nat) (xs : Array Value) (w : World) : ∀ (n i : Nat), i + n ≤ xs.size →
    (forIn (m := Sem) (List.range' i n) PUnit.unit (fun i _ => do
      Instr.checkKey em (d + 1) e (← part e xs (i * (← sizeOf e)))
      pure (ForInStep.yield PUnit.unit))).run C.P w = .ok PUnit.unit w := by
  intro n
  obtain ⟨ti, hti, hn, hd⟩ := leafK_spec hk
  induction n with
  | zero => intro i _; simp
  | succ n ih =>
    intro i hl
    have ex : xs[i]? = some xs[i] := Array.getElem?_eq_getElem (by omega)
    have px := part_leaf hT hk ex w
    have pc := fits_check hd (fun w => run_under hT hti w) xs[i] em d w
    rw [List.range'_succ]
    simp only [List.forIn_cons, Sem.run_bind, run_siz hT hti, hn, Nat.mul_one, px, pc, Result.andThen_ok, Sem.run_pure]
    exact ih (i + 1) (by omega)

theorem keyK_spec {t : Nat} {kk : KK} (h : keyK C t = some kk) : (∃ k, kk = .leaf k ∧ leafK C t = some k) ∨ ∃ ks, kk = .flat ks ∧ flatK C t = some ks := by
  unfold keyK at h
  split at h
  · rename_i k hk; cases h; exact .inl ⟨k, rfl, hk⟩
  · simp only [Option.map_eq_some_iff] at h; obtain ⟨ks, hks, rfl⟩ := h; exact .inr ⟨ks, rfl, hks⟩

theorem KK.flat_inv {ks : List LK} {v : V} (h : (KK.flat ks).fits v = true) : ∃ cs, v = .agg cs ∧ fitsL ks cs = true := by
  cases v <;> simp [KK.fits] at h
  exact ⟨_, rfl, h⟩

theorem run_check (hT : TTok C.P C.tt) {t : Nat} {kk : KK} (hk : keyK C t = some kk) {k : V} {x : Value} (hx : VR g k x) (hf : kk.fits k = true) (em : Bool) (w : World) : (Instr.checkKey em 10000 t x).run C.P w = .ok () w := by
  rcases keyK_spec hk with ⟨k', rfl, hk'⟩ | ⟨ks, rfl, hk'⟩
  · obtain ⟨ti, hti, hn, hd⟩ := leafK_spec hk'
    exact fits_check hd (fun w => run_under hT hti w) x em 9999 w
  · obtain ⟨cs, rfl, hf⟩ := KK.flat_inv hf
    obtain ⟨xs, rfl, hxs⟩ := hx.agg_inv
    have hl := fitsL_length hf
    have hl' := hxs.length
    obtain ⟨ti, hti, _, _, hc⟩ := flatK_spec hk'
    have hu := run_under hT hti
    rcases hc with ⟨fs, hd, hfs⟩ | ⟨n, e, k, hd, hke, rfl⟩
    · show (Instr.checkKey em (9998 + 1 + 1) t _).run C.P w = _
      have := checkFields hT em 9998 xs.toArray w fs.toList 0 ks hfs (by simp; omega)
      rw [Instr.checkKey]
      simp only [Sem.run_bind, hu, Result.andThen_ok, hd]
      rw [← Array.forIn_toList]
      simp at this
      simp [this]
    · show (Instr.checkKey em (9998 + 1 + 1) t _).run C.P w = _
      have := checkItems hT hke em 9998 xs.toArray w n 0 (by simp at hl ⊢; omega)
      rw [Instr.checkKey]
      simp only [Sem.run_bind, hu, Result.andThen_ok, hd]
      simp only [Std.Legacy.Range.forIn_eq_forIn_range', Std.Legacy.Range.size, Nat.sub_zero, Nat.add_one_sub_one, Nat.div_one]
      simp at this
      simp [this]

theorem KK.keyEq_leaf {k : LK} {a b : V} (hf : k.fits a = true) : keyEq a b = leafEq a b := by
  cases a <;> first | rfl | (cases k <;> simp [LK.fits] at hf)
theorem MapR.get {es : List (V × V × Nat)} {ens : List MapEntry} (hm : MapR g es ens) : ∀ (j : Nat) (k v : V) (n : Nat), es[j]? = some (k, v, n) → ∃ e, ens[j]? = some e ∧ VR g k e.key ∧ VR g v e.val ∧ e.born = n := by
  induction es generalizing ens with
  | nil => intro j k v n h; simp at h
  | cons a es ih =>
    cases hm with
    | cons hk hv hb hm =>
      intro j k v n h
      cases j with
      | zero => simp at h; obtain ⟨rfl, rfl, rfl⟩ := h; exact ⟨_, rfl, hk, hv, hb⟩
      | succ j => simp at h; simpa using ih hm j k v n h

/-- What is found. -/
def FoundR (g : Gh) (x : Value) (es : List (V × V × Nat)) (ens : List MapEntry) (i : Nat) : Option (Nat × V × Nat) → Option (Nat × Value) → Prop
  | none, none => True
  | some (j, v, n), some (j', y) => ∃ m e, j = i + m ∧ j' = j ∧ ens[m]? = some e ∧ e.key = x ∧ e.val = y ∧ VR g v y ∧ e.born = n ∧ m < es.length
  | _, _ => False

theorem find_leaf {k : LK} {ti : TI} (hd : k.At ti.d) {a : V} {x : Value} (hx : VR g a x) (hf : k.fits a = true) (hT : TTok C.P C.tt) {t : Nat} (hkt : leafK C t = some k) :
    ∀ (es : List (V × V × Nat)) (ens : List MapEntry) (i : Nat) (f : Option (Nat × V × Nat)), MapR g es ens → mapFind a es i = some f → ∃ y, Instr.findNow ti.d x ens i = some y ∧ FoundR g x es ens i f y := by
  intro es
  induction es with
  | nil => intro ens i f hm hs; cases hm; simp only [mapFind, Option.some.injEq] at hs; subst hs; exact ⟨none, rfl, trivial⟩
  | cons p es ih =>
    intro ens i f hm hs
    cases hm with
    | cons hk hv hb hm =>
      rename_i kk v n e ens
      simp only [mapFind] at hs
      split at hs
      · rename_i he
        cases hs
        rw [KK.keyEq_leaf hf] at he
        have := fits_leafEq_sameNow hd hx hk hf he
        refine ⟨some (i, e.val), by simp [Instr.findNow, this], 0, e, rfl, rfl, rfl, ?_, rfl, hv, hb, by simp⟩
        exact ((equalIn_leaf hT hkt hx hk hf he 0 default).2 rfl).symm
      · rename_i he
        rw [KK.keyEq_leaf hf] at he
        have := fits_leafEq_sameNow hd hx hk hf he
        obtain ⟨y, h1, h2⟩ := ih ens (i + 1) f hm hs
        refine ⟨y, by simp [Instr.findNow, this, h1], ?_⟩
        cases f with
        | none => cases y with | none => trivial | some _ => exact h2
        | some f =>
          obtain ⟨j, v', n'⟩ := f
          cases y with
          | none => exact h2
          | some y =>
            obtain ⟨m, e', q1, q2, q3, q4, q5, q6, q7, q8⟩ := h2
            exact ⟨m + 1, e', by omega, q2, by simpa using q3, q4, q5, q6, q7, by simp; omega⟩
      · cases hs
theorem find_flat {ks : List LK} (hT : TTok C.P C.tt) {t : Nat} (hkt : flatK C t = some ks) {as : List V} {xs : List Value} (hx : VRs g as xs) (hf : fitsL ks as = true) (w : World) :
    ∀ (es : List (V × V × Nat)) (ens : List MapEntry) (i : Nat) (f : Option (Nat × V × Nat)), MapR g es ens → mapFind (.agg as) es i = some f → ∃ y, (Instr.findAsking t (.agg xs.toArray) ens i).run C.P w = .ok y w ∧ FoundR g (.agg xs.toArray) es ens i f y := by
  intro es
  induction es with
  | nil => intro ens i f hm hs; cases hm; simp only [mapFind, Option.some.injEq] at hs; subst hs; exact ⟨none, rfl, trivial⟩
  | cons p es ih =>
    intro ens i f hm hs
    cases hm with
    | cons hk hv hb hm =>
      rename_i kk v n e ens
      simp only [mapFind] at hs
      have key : ∀ r, keyEq (.agg as) kk = some r → (Op.equal t (.agg xs.toArray) e.key).run C.P w = .ok r w ∧ (r = true → (.agg xs.toArray) = e.key) := by
        intro r he
        cases kk <;> simp only [keyEq, leafEq, reduceCtorEq] at he
        obtain ⟨ys, hy, hys⟩ := hk.agg_inv
        rw [hy]
        obtain ⟨a, b⟩ := equalIn_flat hT hkt hx hys hf he 9998 w
        exact ⟨a, fun h => by rw [b h]⟩
      split at hs
      · rename_i he
        cases hs
        obtain ⟨k1, k2⟩ := key _ he
        refine ⟨some (i, e.val), by simp [Instr.findAsking, k1], 0, e, rfl, rfl, rfl, (k2 rfl).symm, rfl, hv, hb, by simp⟩
      · rename_i he
        obtain ⟨k1, k2⟩ := key _ he
        obtain ⟨y, h1, h2⟩ := ih ens (i + 1) f hm hs
        refine ⟨y, by simp [Instr.findAsking, k1, h1], ?_⟩
        cases f with
        | none => cases y with | none => trivial | some _ => exact h2
        | some f =>
          obtain ⟨j, v', n'⟩ := f
          cases y with
          | none => exact h2
          | some y =>
            obtain ⟨m, e', q1, q2, q3, q4, q5, q6, q7, q8⟩ := h2
            exact ⟨m + 1, e', by omega, q2, by simpa using q3, q4, q5, q6, q7, by simp; omega⟩
      · cases hs
theorem run_find (hT : TTok C.P C.tt) {t : Nat} {kk : KK} (hk : keyK C t = some kk) {k : V} {x : Value} (hx : VR g k x) (hf : kk.fits k = true) (w : World) {es : List (V × V × Nat)} {ens : List MapEntry} (hm : MapR g es ens) {f : Option (Nat × V × Nat)} (hs : mapFind k es 0 = some f) :
    ∃ y, (Instr.findKey t x ens).run C.P w = .ok y w ∧ FoundR g x es ens 0 f y := by
  rcases keyK_spec hk with ⟨k', rfl, hk'⟩ | ⟨ks, rfl, hk'⟩
  · obtain ⟨ti, hti, hn, hd⟩ := leafK_spec hk'
    obtain ⟨y, h1, h2⟩ := find_leaf (g := g) hd hx hf hT hk' es ens 0 f hm hs
    exact ⟨y, MapKept.run_findKey (hT t ti hti).1 h1, h2⟩
  · obtain ⟨cs, rfl, hf⟩ := KK.flat_inv hf
    obtain ⟨xs, rfl, hxs⟩ := hx.agg_inv
    obtain ⟨ti, hti, _, _, hc⟩ := flatK_spec hk'
    have hu := (hT t ti hti).1
    obtain ⟨y, h1, h2⟩ := find_flat (g := g) hT hk' hxs hf w es ens 0 f hm hs
    refine ⟨y, ?_, h2⟩
    rw [run_findKey_eq]
    · exact h1
    · rw [hu]
      rcases hc with ⟨fs, hd, _⟩ | ⟨n, e, k, hd, _⟩ <;> rw [hd]

theorem sameBits_leaf {k : LK} {a : V} {x : Value} (hx : VR g a x) (hf : k.fits a = true) (n : Nat) : Instr.sameBits n x x = true := by
  cases hx <;> cases k <;> simp [LK.fits] at hf <;> simp [Instr.sameBits, MapKept.bytes_beq]
theorem sameBits_flat : ∀ {ks : List LK} {as : List V} {xs : List Value}, VRs g as xs → fitsL ks as = true → ∀ n, ((xs.zip xs).all fun (x, y) => Instr.sameBits n x y) = true
  | [], [], _, hx, _, n => by cases hx; rfl
  | k :: ks, a :: as, _, hx, hf, n => by
    cases hx with
    | cons h1 h2 =>
      simp only [fitsL, Bool.and_eq_true] at hf
      simp only [List.zip_cons_cons, List.all_cons, Bool.and_eq_true]
      exact ⟨sameBits_leaf h1 hf.1 n, sameBits_flat h2 hf.2 n⟩
  | [], _ :: _, _, _, hf, _ => by simp [fitsL] at hf
  | _ :: _, [], _, _, hf, _ => by simp [fitsL] at hf
theorem run_stays {kk : KK} {k : V} {x : Value} (hx : VR g k x) (hf : kk.fits k = true) (P : Program) (w : World) : (Instr.keyThatStays x x).run P w = .ok x w := by
  have : Instr.sameBits 10000 x x = true := by
    cases kk with
    | leaf k => exact sameBits_leaf hx hf _
    | flat ks =>
      obtain ⟨cs, rfl, hf⟩ := KK.flat_inv hf
      obtain ⟨xs, rfl, hxs⟩ := hx.agg_inv
      show Instr.sameBits (9999 + 1) _ _ = true
      have := sameBits_flat hxs hf 9999
      simp only [Instr.sameBits, beq_self_eq_true, Bool.true_and]
      exact this
  simp [Instr.keyThatStays, this]

theorem VR.m_or {x : Value} {id : Nat} (hx : VR g (.m id) x) : ∃ e, g.φ id = some e ∧ x = .map (some e.blk) := hx.m_inv

theorem MapR.modify {f : MapEntry → MapEntry} {k v : V} {n : Nat} : ∀ {es : List (V × V × Nat)} {ens : List MapEntry}, MapR g es ens → ∀ i, (∀ e, ens[i]? = some e → VR g k (f e).key ∧ VR g v (f e).val ∧ (f e).born = n) → MapR g (es.set i (k, v, n)) (ens.modify i f)
  | _, _, .nil, i, _ => by simp; exact .nil
  | _, _, .cons hk hv hb hm, i, hf => by
    cases i with
    | zero =>
      obtain ⟨a, b, c⟩ := hf _ rfl
      simp
      exact .cons a b c hm
    | succ i =>
      simp
      exact .cons hk hv hb (MapR.modify hm i (fun e he => hf e (by simpa using he)))
theorem MapR.push {k v : V} {n : Nat} {e : MapEntry} (hk : VR g k e.key) (hv : VR g v e.val) (hb : e.born = n) : ∀ {es : List (V × V × Nat)} {ens : List MapEntry}, MapR g es ens → MapR g (es ++ [(k, v, n)]) (ens ++ [e])
  | _, _, .nil => .cons hk hv hb .nil
  | _, _, .cons a b c hm => .cons a b c (MapR.push hk hv hb hm)

variable (r : Rel Q g h w) (hρ : ∀ x y, cX C x = some y → VR g (y.val rs) (ρ x))
include hρ r in
theorem snd_lookup (hT : TTok C.P C.tt) {T kt e : Nat} {ti te : TI} (hti : C.tt T = some ti) (hd : ti.d = .map kt e) (hte : C.tt e = some te) {z : V} (hz : zeroVal te = some z) {kk : KK} (hk : keyK C kt = some kk)
    {x k : Operand} {x' k' : X} (hx : cX C x = some x') (hkx : cX C k = some k') {ok : Bool} {o : Oper} (ho : o.op = .lookup T x k ok) {or : OR} (hs : opSem (.lookup kk z ok x' k') rs h = some or) : OpOK C.P Q g h w (execOp ρ o) or := by
  have hvx := hρ _ _ hx
  have hvk := hρ _ _ hkx
  have hu := run_under hT hti
  obtain ⟨zv, hzv, hzr⟩ := zeroVal_VR g hz
  have hzero := run_zero hT hte hzv
  simp only [opSem] at hs
  split at hs
  · rename_i hfit
    have main : ∀ (ens : Array MapEntry) (es : List (V × V × Nat)) (f : Option (Nat × V × Nat)), MapR g es ens.toList → mapFind (k'.val rs) es 0 = some f →
        ((∃ rr, ρ x = .map (some rr) ∧ ∃ ck, w.heap[rr]? = some (.map ens ck)) ∨ (ρ x = .map none ∧ ens = #[])) →
        ∃ y, (execOp ρ o).run C.P w = .ok (.value y) w ∧ VR g (foundV z ok f) y := by
      intro ens es f hm hf hxx
      obtain ⟨y, hy, hfr⟩ := run_find hT hk hvk hfit w hm hf
      have hc := run_check hT hk hvk hfit ens.isEmpty w
      have hrun : ∀ y, (Instr.findKey kt (ρ k) ens.toList).run C.P w = .ok y w → (execOp ρ o).run C.P w = .ok (.value (match y with | some (_, v) => if ok then .tuple #[v, .bool true] else v | none => if ok then .tuple #[zv, .bool false] else zv)) w := by
        intro y hy
        rcases hxx with ⟨rr, hr, ck, hb⟩ | ⟨hr, rfl⟩
        · have hg := MapKept.run_getObj_map (P := C.P) hb
          simp only [execOp, ho, Instr.lookup, Sem.run_bind, hu, hd, Result.andThen_ok, hr, hg, Sem.run_pure, hc, hy]
          cases y <;> simp [hzero]
        · have hc' := hc
          simp only [execOp, ho, Instr.lookup, Sem.run_bind, hu, hd, Result.andThen_ok, hr, Sem.run_pure, hc', hy]
          cases y <;> simp [hzero]
      refine ⟨_, hrun y hy, ?_⟩
      cases f with
      | none =>
        cases y with
        | some _ => exact hfr.elim
        | none =>
          cases ok
          · exact hzr
          · exact .tup (.cons hzr (.cons (.b _) .nil))
      | some f =>
        obtain ⟨j, v, n⟩ := f
        cases y with
        | none => exact hfr.elim
        | some y =>
          obtain ⟨m, e', q1, q2, q3, q4, q5, q6, q7, q8⟩ := hfr
          cases ok
          · exact q6
          · exact .tup (.cons q6 (.cons (.b _) .nil))
    split at hs
    · rename_i f hF
      cases hs
      suffices hh : ∃ y, (execOp ρ o).run C.P w = .ok (.value y) w ∧ VR g (foundV z ok f) y by
        obtain ⟨y, h1, h2⟩ := hh
        exact OpOK.pure r h1 h2
      unfold mapSel at hF
      split at hF
      · rename_i e1
        rw [e1] at hvx
        exact main #[] [] f .nil hF (.inr ⟨hvx.nilm_inv, rfl⟩)
      · rename_i id e1
        rw [e1] at hvx
        obtain ⟨en, hen, hxe⟩ := hvx.m_inv
        split at hF
        · rename_i es ck hid
          obtain ⟨e', he', hor⟩ := r.own id _ hid
          rw [hen] at he'; cases he'
          obtain ⟨ens, hb, hm⟩ := hor.map_inv
          exact main ens es f hm hF (.inl ⟨_, hxe, _, hb⟩)
        · cases hF
      · cases hF
    · cases hs
  · cases hs

include r in
/-- A map's block turns. -/
theorem put_map {id : Nat} {es : List (V × V × Nat)} {ck : Nat} (hid : h.get id = some (.map es ck)) {e : Ent} (he : g.φ id = some e) {ens : Array MapEntry} (hb : w.heap[e.blk]? = some (.map ens ck)) (es' : List (V × V × Nat)) (ens' : Array MapEntry) (ck' : Nat) (hm : MapR g es' ens'.toList) :
    let w' := { w with heap := w.heap.setIfInBounds e.blk (.map ens' ck') }
    Rel Q g (h.put id (.map es' ck')) w' ∧ Ext g h w g (h.put id (.map es' ck')) w' := by
  have hs := MapKept.heap_set (o' := .map ens' ck') hb
  exact r.put hid he (.map es' ck') (.map ens' ck') _ hs.1 (by simp) (fun k hk => hs.2 k hk) rfl rfl rfl ⟨rfl, hm⟩

include hρ r in
theorem snd_mupd (hT : TTok C.P C.tt) {T kt e : Nat} {ti : TI} (hti : C.tt T = some ti) (hd : ti.d = .map kt e) {kk : KK} (hk : keyK C kt = some kk)
    {x k y : Operand} {x' k' y' : X} (hx : cX C x = some x') (hkx : cX C k = some k') (hy : cX C y = some y') {o : Oper} (ho : o.op = .mapUpdate T x k y ∨ o.op = .insert T x k y) {or : OR} (hs : opSem (.mupd kk x' k' y') rs h = some or) : OpOK C.P Q g h w (execOp ρ o) or := by
  have hvx := hρ _ _ hx
  have hvk := hρ _ _ hkx
  have hvy := hρ _ _ hy
  have hu := run_under hT hti
  have hexec : ∀ w', (Instr.mapUpdate T (ρ x) (ρ k) (ρ y)).run C.P w = .ok () w' → (execOp ρ o).run C.P w = .ok .skip w' := by
    intro w' hr
    rcases ho with ho | ho <;> simp [execOp, ho, hr]
  simp only [opSem] at hs
  split at hs
  · rename_i hfit
    split at hs
    · rename_i id e1
      rw [e1] at hvx
      obtain ⟨en, hen, hxe⟩ := hvx.m_inv
      split at hs
      · rename_i es ck hid
        obtain ⟨e', he', hor⟩ := r.own id _ hid
        rw [hen] at he'; cases he'
        obtain ⟨ens, hb, hm⟩ := hor.map_inv
        have hg := MapKept.run_getObj_map (P := C.P) hb
        have hc := run_check hT hk hvk hfit false w
        split at hs
        · rename_i i v born hf
          cases hs
          obtain ⟨yy, hy1, hfr⟩ := run_find hT hk hvk hfit w hm hf
          cases yy with
          | none => exact hfr.elim
          | some yy =>
            obtain ⟨m, e2, q1, q2, q3, q4, q5, q6, q7, q8⟩ := hfr
            have hi : yy.1 = i := q2
            have hmi : m = i := by omega
            subst hmi
            have q3' : ens[m]? = some e2 := by simpa using q3
            obtain ⟨R, E⟩ := put_map r hid hen hb (es.set m (k'.val rs, y'.val rs, born)) (ens.modify m fun e => { e with key := ρ k, val := ρ y }) ck (by
              rw [Array.toList_modify]
              refine hm.modify m ?_
              intro e3 he3
              rw [q3] at he3; cases he3
              exact ⟨hvk, hvy, q7⟩)
            refine OpOK.skip (hexec _ ?_) R E
            obtain ⟨j, yv⟩ := yy
            simp only at hi
            subst hi
            simp [Instr.mapUpdate, hu, hd, hxe, hg, hc, hy1, q3', q4, run_stays hvk hfit, MapKept.run_setObj_map _ hb]
        · rename_i hf
          cases hs
          obtain ⟨yy, hy1, hfr⟩ := run_find hT hk hvk hfit w hm hf
          cases yy with
          | some _ => exact hfr.elim
          | none =>
            obtain ⟨R, E⟩ := put_map r hid hen hb (es ++ [(k'.val rs, y'.val rs, ck)]) (ens.push { key := ρ k, val := ρ y, born := ck }) (ck + 1) (by
              rw [Array.toList_push]
              exact hm.push (e := { key := ρ k, val := ρ y, born := ck }) hvk hvy rfl)
            refine OpOK.skip (hexec _ ?_) R E
            simp [Instr.mapUpdate, hu, hd, hxe, hg, hc, hy1, MapKept.run_setObj_map _ hb]
        · cases hs
      · cases hs
    · cases hs
  · cases hs

include hρ r in
theorem snd_ment (hT : TTok C.P C.tt) {T kt e : Nat} {ti te : TI} (hti : C.tt T = some ti) (hd : ti.d = .map kt e) (hte : C.tt e = some te) {z : V} (hz : zeroVal te = some z) {kk : KK} (hk : keyK C kt = some kk)
    {x k : Operand} {x' k' : X} (hx : cX C x = some x') (hkx : cX C k = some k') {o : Oper} (ho : o.op = .mapEntry T x k) {or : OR} (hs : opSem (.ment kk z x' k') rs h = some or) : OpOK C.P Q g h w (execOp ρ o) or := by
  have hvx := hρ _ _ hx
  have hvk := hρ _ _ hkx
  have hu := run_under hT hti
  obtain ⟨zv, hzv, hzr⟩ := zeroVal_VR g hz
  have hzero := run_zero hT hte hzv
  simp only [opSem] at hs
  split at hs
  · rename_i hfit
    split at hs
    · rename_i id e1
      rw [e1] at hvx
      obtain ⟨en, hen, hxe⟩ := hvx.m_inv
      split at hs
      · rename_i es ck hid
        obtain ⟨e', he', hor⟩ := r.own id _ hid
        rw [hen] at he'; cases he'
        obtain ⟨ens, hb, hm⟩ := hor.map_inv
        have hg := MapKept.run_getObj_map (P := C.P) hb
        have hc := run_check hT hk hvk hfit false w
        split at hs
        · rename_i i v born hf
          cases hs
          obtain ⟨yy, hy1, hfr⟩ := run_find hT hk hvk hfit w hm hf
          cases yy with
          | none => exact hfr.elim
          | some yy =>
            obtain ⟨m, e2, q1, q2, q3, q4, q5, q6, q7, q8⟩ := hfr
            have hmi : m = i := by omega
            subst hmi
            obtain ⟨j, yv⟩ := yy
            simp only at q2 q5 q6
            subst q2
            have q3' : ens[j]? = some e2 := by simpa using q3
            have same : ens.modify j (fun e => { e with key := ρ k }) = ens := by
              apply Array.ext_getElem?
              intro i'
              rw [Array.getElem?_modify]
              split
              · rename_i hji; subst hji; rw [q3', ← q4]; rfl
              · rfl
            have hw : ({ w with heap := w.heap.setIfInBounds en.blk (.map ens ck) } : World) = w := by
              have : w.heap.setIfInBounds en.blk (.map ens ck) = w.heap := by
                apply Array.ext_getElem?
                intro i'
                rw [Array.getElem?_setIfInBounds]
                split
                · rename_i hii; subst hii
                  have := (Array.getElem?_eq_some_iff.1 hb).1
                  simp [this, hb]
                  exact (Array.getElem?_eq_some_iff.1 hb).2.symm
                · rfl
              rw [this]
            refine OpOK.pure r (x := .tuple #[yv, goInt born]) ?_ (.tup (.cons q6 (.cons (.i _) .nil)))
            simp [execOp, ho, Instr.mapEntry, hu, hd, hxe, hg, hc, hy1, q3', q4, q7, run_stays hvk hfit, same, MapKept.run_setObj_map _ hb, hw]
        · rename_i hf
          cases hs
          obtain ⟨yy, hy1, hfr⟩ := run_find hT hk hvk hfit w hm hf
          cases yy with
          | some _ => exact hfr.elim
          | none =>
            obtain ⟨R, E⟩ := put_map r hid hen hb (es ++ [(k'.val rs, z, ck)]) (ens.push { key := ρ k, val := zv, born := ck }) (ck + 1) (by
              rw [Array.toList_push]
              exact hm.push (e := { key := ρ k, val := zv, born := ck }) hvk hzr rfl)
            refine fun _ => ⟨g, _, .tuple #[zv, goInt ck], _, ?_, .inl rfl, .tup (.cons hzr (.cons (.i _) .nil)), R, E⟩
            simp [execOp, ho, Instr.mapEntry, hu, hd, hxe, hg, hc, hy1, hzero, MapKept.run_setObj_map _ hb]
        · cases hs
      · cases hs
    · cases hs
  · cases hs
end
end Ax

/- The abstract executor, part 15: the operations are what their compiled forms say (maps made, entries, ranges over strings, type assertions). -/
namespace Ax
open Go

section
variable {C : Fix} {Q : Nat → CC → Code → Prop} {g : Gh} {h : H} {w : World} {rs : RF} {ρ : Operand → Value}
variable (r : Rel Q g h w) (hρ : ∀ x y, cX C x = some y → VR g (y.val rs) (ρ x))

include r in
theorem snd_mkMap {t : Nat} {o : Oper} (ho : o.op = .makeMap t none) {or : OR} (hs : opSem .mkMap rs h = some or) : OpOK C.P Q g h w (execOp ρ o) or := by
  simp only [opSem, Option.some.injEq] at hs
  subst hs
  intro hf
  have := r.new (fresh_next hf (by simp)) (.map [] 0) (.map #[] 0) ⟨w.heap.size, 0, 0, 0⟩ rfl ⟨rfl, .nil⟩
  refine ⟨_, _, .map (some w.heap.size), _, ?_, .inl rfl, VR.m (e := ⟨w.heap.size, 0, 0, 0⟩) (by simp), this.1, this.2⟩
  simp [execOp, ho, Instr.makeMap, run_newObj]

include r hρ in
theorem snd_rng (hT : TTok C.P C.tt) {t : Nat} {ti : TI} (hti : C.tt t = some ti) (hd : ti.d = .string) {x : Operand} {y : X} (hx : cX C x = some y) {o : Oper} (ho : o.op = .range t x) {or : OR} (hs : opSem (.rng y) rs h = some or) : OpOK C.P Q g h w (execOp ρ o) or := by
  have hv := hρ _ _ hx
  simp only [opSem] at hs
  split at hs
  · rename_i l c e
    rw [e] at hv
    cases hs
    obtain ⟨bs, hxe, hl, hc⟩ := hv.s_inv
    intro hf
    have := r.new (fresh_next hf (by simp)) (.iter l c 0) (.stringIter bs 0) ⟨w.heap.size, 0, 0, 0⟩ rfl ⟨hl, hc, rfl, rfl⟩
    refine ⟨_, _, .pointer (some ⟨w.heap.size, 0 + 0, none⟩), _, ?_, .inl rfl, VR.ptr (e := ⟨w.heap.size, 0, 0, 0⟩) (by simp), this.1, this.2⟩
    simp [execOp, ho, Instr.range, run_under hT hti, hd, hxe, run_newObj]
  · cases hs

theorem decode_ascii {bs : ByteArray} {pos : Nat} {b : UInt8} (hb : bs.data.toList[pos]? = some b) (hl : b.toNat < 128) : Utf8.decode bs pos = (b.toNat, 1) := by
  have hg : bs.get! pos = b := by
    show bs.data[pos]! = b
    rw [getElem!_def, ← Array.getElem?_toList, hb]
  simp [Utf8.decode, hg, hl]

include r hρ in
theorem snd_nxt {it : Operand} {y : X} (hx : cX C it = some y) {o : Oper} (ho : o.op = .next it true) {or : OR} (hs : opSem (.nxt y) rs h = some or) : OpOK C.P Q g h w (execOp ρ o) or := by
  have hv := hρ _ _ hx
  simp only [opSem] at hs
  split at hs
  · rename_i id e1
    rw [e1] at hv
    obtain ⟨en, hen, hxe⟩ := hv.ptr_inv
    split at hs
    · rename_i l c pos hid
      obtain ⟨e', he', hor⟩ := r.own id _ hid
      rw [hen] at he'; cases he'
      obtain ⟨bs, hb, hl, hc, h0⟩ := hor.iter_inv
      have hget : (getObj en.blk).run C.P w = .ok (.stringIter bs pos) w := by simp [getObj, Sem.run, hb]
      split at hs
      · rename_i hlt
        split at hs
        · rename_i hasc
          cases hs
          have hsz : bs.data.toList.length = l := by rw [← hl]; rfl
          have hgt : bs.data.toList[pos]? = some bs.data.toList[pos] := List.getElem?_eq_getElem (by omega)
          have hba := byteAt_code _ _ _ hgt
          rw [hc] at hba
          rw [hba] at hasc
          have hdec := decode_ascii hgt hasc
          have hset := MapKept.heap_set (o' := .stringIter bs (pos + 1)) hb
          obtain ⟨R, E⟩ := r.put hid hen (.iter l c (pos + 1)) (.stringIter bs (pos + 1)) { w with heap := w.heap.setIfInBounds en.blk (.stringIter bs (pos + 1)) } hset.1 (by simp) (fun k hk => hset.2 k hk) rfl rfl rfl ⟨hl, hc, rfl, h0⟩
          intro hf
          refine ⟨g, _, .tuple #[.bool true, goInt pos, .int .i32 (bs.data.toList[pos]).toNat], _, ?_, .inl rfl, .tup (.cons (.b _) (.cons (.i _) (.cons (by rw [hba]; exact .u _ _) .nil))), R, E⟩
          have hstore : (setObj en.blk (.stringIter bs (pos + 1))).run C.P w = .ok () { w with heap := w.heap.setIfInBounds en.blk (.stringIter bs (pos + 1)) } := by simp [setObj, Sem.run, hb]
          have hlt' : pos < bs.size := by rw [hl]; exact hlt
          simp [execOp, ho, Instr.next, hxe, h0, hget, hlt', hdec, hstore]
        · cases hs
      · rename_i hlt
        cases hs
        refine OpOK.pure r (x := .tuple #[.bool false]) ?_ (.tup (.cons (.b _) .nil))
        have hlt' : ¬ pos < bs.size := by rw [hl]; exact hlt
        simp [execOp, ho, Instr.next, hxe, h0, hget, hlt']
    · cases hs
  · cases hs

include r hρ in
theorem snd_tas (hT : TTok C.P C.tt) {t st : Nat} {ti : TI} (hti : C.tt t = some ti) (hd : ∀ ms, ti.d ≠ .interface ms) {z : V} (hz : zeroVal ti = some z) {ok : Bool} {x : Operand} {y : X} (hx : cX C x = some y) {o : Oper} (ho : o.op = .typeAssert x st t ok)
    {or : OR} (hs : opSem (.tas z t ok y) rs h = some or) : OpOK C.P Q g h w (execOp ρ o) or := by
  have hv := hρ _ _ hx
  obtain ⟨zv, hzv, hzr⟩ := zeroVal_VR g hz
  have hzero := run_zero hT hti hzv
  have hu := run_under hT hti
  have hn : ∀ (k : Value), k = ρ x → (∀ tt vv, k = .iface tt vv → (Instr.typeAssert k st t ok).run C.P w = (if tt = t then .ok (if ok then .tuple #[vv, .bool true] else vv) w else (if ok then .ok (.tuple #[zv, .bool false]) w else (Instr.typeAssert k st t ok).run C.P w))) ∧
      (k = .nilIface → ok = true → (Instr.typeAssert k st t ok).run C.P w = .ok (.tuple #[zv, .bool false]) w) := by
    intro k hk
    constructor
    · intro tt vv hkk
      subst hkk
      simp only [Instr.typeAssert, Sem.run_bind, hu, Result.andThen_ok]
      generalize hdd : ti.d = dd
      cases dd <;> first | (exact absurd hdd (hd _)) | (by_cases htt : tt = t <;> cases ok <;> simp [htt, hzero])
    · intro hkk hok
      subst hkk; subst hok
      simp only [Instr.typeAssert, Sem.run_bind, hu, Result.andThen_ok]
      generalize hdd : ti.d = dd
      cases dd <;> first | (exact absurd hdd (hd _)) | simp [hzero]
  obtain ⟨n1, n2⟩ := hn (ρ x) rfl
  simp only [opSem] at hs
  split at hs
  · rename_i e
    rw [e] at hv
    split at hs
    · rename_i hok
      cases hs
      refine OpOK.pure r (x := .tuple #[zv, .bool false]) ?_ (.tup (.cons hzr (.cons (.b _) .nil)))
      simp [execOp, ho, n2 hv.nili_inv hok]
    · cases hs
  · rename_i t' v e
    rw [e] at hv
    obtain ⟨vv, hxe, hvr⟩ := hv.ifc_inv'
    have n1' := n1 _ _ hxe
    split at hs
    · rename_i htt
      cases hs
      refine OpOK.pure r (x := if ok then .tuple #[vv, .bool true] else vv) ?_ ?_
      · rw [if_pos htt] at n1'
        simp [execOp, ho, n1']
      · cases ok
        · exact hvr
        · exact .tup (.cons hvr (.cons (.b _) .nil))
    · rename_i htt
      split at hs
      · rename_i hok
        cases hs
        refine OpOK.pure r (x := .tuple #[zv, .bool false]) ?_ (.tup (.cons hzr (.cons (.b _) .nil)))
        rw [if_neg htt, if_pos hok] at n1'
        simp [execOp, ho, n1']
      · cases hs
  · cases hs

theorem MapR.findIdx {born : Nat} : ∀ {es : List (V × V × Nat)} {ens : List MapEntry}, MapR g es ens → ens.findIdx? (fun e => (e.born : Int) == (born : Int)) = es.findIdx? fun e => Nat.beq e.2.2 born
  | _, _, .nil => rfl
  | _, _, .cons (n := n) hk hv hb hm => by
    rw [List.findIdx?_cons, List.findIdx?_cons, MapR.findIdx hm, hb]
    have : ((n : Int) == (born : Int)) = Nat.beq n born := by
      rw [Bool.eq_iff_iff]; simp
      constructor <;> intro h <;> omega
    rw [this]

include r hρ in
theorem snd_mst {T : Nat} {x st y : Operand} {x' st' y' : X} (hx : cX C x = some x') (hst : cX C st = some st') (hy : cX C y = some y') {o : Oper} (ho : o.op = .entryStore T x st y) {or : OR} (hs : opSem (.mst x' st' y') rs h = some or) : OpOK C.P Q g h w (execOp ρ o) or := by
  have hvx := hρ _ _ hx
  have hvs := hρ _ _ hst
  have hvy := hρ _ _ hy
  simp only [opSem] at hs
  split at hs
  · rename_i id born e1 e2
    rw [e1] at hvx
    obtain ⟨en, hen, hxe⟩ := hvx.m_inv
    obtain ⟨k, hk⟩ := natI_inv e2 hvs
    split at hs
    · rename_i es ck hid
      obtain ⟨e', he', hor⟩ := r.own id _ hid
      rw [hen] at he'; cases he'
      obtain ⟨ens, hb, hm⟩ := hor.map_inv
      have hg := MapKept.run_getObj_map (P := C.P) hb
      split at hs
      · rename_i i hi
        split at hs
        · rename_i kk v born' hii
          cases hs
          have hfi : ens.findIdx? (fun e => (e.born : Int) == (born : Int)) = some i := by
            have h6 := hm.findIdx (born := born); rw [hi] at h6; rw [← h6]; obtain ⟨l⟩ := ens; simp
          obtain ⟨R, E⟩ := put_map r hid hen hb (es.set i (kk, y'.val rs, born)) (ens.modify i fun e => { e with val := ρ y }) ck (by
            rw [Array.toList_modify]
            refine hm.modify i ?_
            intro e3 he3
            obtain ⟨e4, q1, q2, q3, q4⟩ := hm.get i _ _ _ hii
            rw [he3] at q1; cases q1
            refine ⟨q2, hvy, ?_⟩
            have := List.findIdx?_eq_some_iff_getElem.1 hi
            obtain ⟨hlt, hbeq, _⟩ := this
            have h5 : es[i] = (kk, v, born') := by
              have := List.getElem?_eq_some_iff.1 hii
              exact this.2
            rw [h5] at hbeq
            have := Nat.eq_of_beq_eq_true hbeq
            simp only at this
            show e3.born = born
            rw [q4, this])
          refine OpOK.skip ?_ R E
          simp [execOp, ho, Instr.entryStore, hxe, hg, hk, asInt, asIntOf, hfi, MapKept.run_setObj_map _ hb]
        · cases hs
      · cases hs
    · cases hs
  · cases hs
end
end Ax

/- The abstract executor, part 16: every operation is what its compiled form says. -/
namespace Ax
open Go

section
variable {C : Fix} {Q : Nat → CC → Code → Prop} {g : Gh} {h : H} {w : World} {rs : RF} {ρ : Operand → Value}

theorem bad_sem {rs : RF} {h : H} {or : OR} {p : Prop} (hs : opSem .bad rs h = some or) : p := by cases hs

theorem cBin_sound (K : FixOK C) (r : Rel Q g h w) (hρ : ∀ x y, cX C x = some y → VR g (y.val rs) (ρ x)) {op : BinOp} {t yt : TypeId} {x y : Operand} {x' y' : X} (hx : cX C x = some x') (hy : cX C y = some y') {o : Oper} (ho : o.op = .binOp op t x y yt)
    {or : OR} (hs : opSem (cBin C op t x y x' y') rs h = some or) : OpOK C.P Q g h w (execOp ρ o) or := by
  unfold cBin at hs
  split at hs
  · split at hs
    · rename_i k hk; exact snd_eq r hρ K.tt hx hy hk (.inl ⟨rfl, rfl⟩) ho hs
    · exact snd_bin r hρ hx hy ho hs
  · split at hs
    · rename_i k hk; exact snd_eq r hρ K.tt hx hy hk (.inr ⟨rfl, rfl⟩) ho hs
    · exact snd_bin r hρ hx hy ho hs
  · exact snd_bin r hρ hx hy ho hs

theorem bind_tt {α : Type} {C : Fix} {x : Option Nat} {f : TI → Option α} {a : α} (h : ((x.bind C.tt).bind f) = some a) : ∃ t ti, x = some t ∧ C.tt t = some ti ∧ f ti = some a := by
  cases x with
  | none => cases h
  | some t =>
    simp only [Option.bind_some, Option.bind_eq_some_iff] at h
    obtain ⟨ti, h1, h2⟩ := h
    exact ⟨t, ti, rfl, h1, h2⟩
theorem bind_t {C : Fix} {x : Option Nat} {ti : TI} (h : x.bind C.tt = some ti) : ∃ t, x = some t ∧ C.tt t = some ti := by
  cases x with
  | none => cases h
  | some t => exact ⟨t, rfl, h⟩
theorem two_of {α : Type} {a : Array α} {t : α} (h0 : a[0]? = some t) (hs : a.size = 2) : ∃ t2, a = #[t, t2] := by
  obtain ⟨l⟩ := a
  match l, hs with
  | [x, y], _ => simp at h0; exact ⟨y, by rw [h0]⟩

theorem cCall_sound (K : FixOK C) (r : Rel Q g h w) (hρ : ∀ x y, cX C x = some y → VR g (y.val rs) (ρ x)) (hfun : ∀ f, ρ (.func f) = .func (.func f) #[] #[]) {c : Call} {o : Oper} (ho : o.op = .call c)
    {or : OR} (hs : opSem (cCall C c) rs h = some or) : OpOK C.P Q g h w (execOp ρ o) or := by
  obtain ⟨callee, args, ats⟩ := c
  unfold cCall at hs
  split at hs
  · exact bad_sem hs
  · rename_i xs hxs
    simp only at hxs hs
    split at hs
    · rename_i f
      split at hs
      · rename_i fn hfn
        split at hs
        · exact snd_call hρ hxs ho (hfun f) hs
        · rename_i hb
          have hb' : fn.body = none := by cases hbb : fn.body <;> simp [hbb] at hb ⊢
          split at hs
          · rename_i hn
            have hn := beq_iff_eq.1 hn
            split at hs
            · exact snd_noesc r hρ K hfn hb' hn hxs ho (hfun f) hs
            · exact bad_sem hs
          · split at hs
            · rename_i hn
              have hn := beq_iff_eq.1 hn
              split at hs
              · exact snd_ixByte r hρ K hfn hb' hn hxs ho (hfun f) hs
              · exact bad_sem hs
            · exact bad_sem hs
      · exact bad_sem hs
    · split at hs
      · exact snd_callv r hρ (by assumption) hxs ho hs
      · exact bad_sem hs
    · exact bad_sem hs
    · split at hs
      · split at hs
        · rename_i ts tx h0 h1
          obtain ⟨t0, q0, p0⟩ := bind_t h0
          obtain ⟨t1, q1, p1⟩ := bind_t h1
          split at hs
          · rename_i e hd
            split at hs
            · rename_i te hte
              split at hs
              · exact bad_sem hs
              · rename_i hc
                split at hs
                · rename_i z hz
                  split at hs
                  · rename_i k hk
                    exact snd_appZ K.tt r hρ q0 p0 hd hte (by omega) (by omega) hz q1 p1 hk hxs ho hs
                  · rename_i e' hk
                    exact snd_app K.tt r hρ q0 p0 hd hte (by omega) (by omega) hz q1 p1 (fun k hk' => by rw [hk] at hk'; cases hk') hxs ho hs
                  · rename_i hk
                    exact snd_app K.tt r hρ q0 p0 hd hte (by omega) (by omega) hz q1 p1 (fun k hk' => by rw [hk] at hk'; cases hk') hxs ho hs
                  · exact bad_sem hs
                · exact bad_sem hs
            · exact bad_sem hs
          · exact bad_sem hs
        · exact bad_sem hs
      · split at hs
        · rename_i ts h0
          obtain ⟨t0, q0, p0⟩ := bind_t h0
          split at hs
          · exact snd_lenStr K.tt r hρ q0 p0 (by assumption) hxs ho hs
          · exact snd_lenSl K.tt r hρ q0 p0 (by assumption) hxs ho hs
          · exact snd_lenMap K.tt r hρ q0 p0 (by assumption) hxs ho hs
          · exact snd_lenc K.tt r hρ q0 p0 (by assumption) hxs ho hs
          · exact bad_sem hs
        · exact bad_sem hs
      · split at hs
        · rename_i ts h0
          obtain ⟨t0, q0, p0⟩ := bind_t h0
          split at hs
          · exact snd_cap K.tt r hρ q0 p0 (by assumption) hxs ho hs
          · exact bad_sem hs
        · exact bad_sem hs
      · split at hs
        · rename_i ts h0
          obtain ⟨t0, q0, p0⟩ := bind_t h0
          split at hs
          · split at hs
            · exact snd_copy K.tt r hρ q0 p0 (by assumption) (by assumption) hxs ho hs
            · exact bad_sem hs
          · exact bad_sem hs
        · exact bad_sem hs
      · exact snd_min r hρ hxs ho hs
      · exact snd_max r hρ hxs ho hs
      · split at hs
        · rename_i ts h0
          obtain ⟨t0, q0, p0⟩ := bind_t h0
          split at hs
          · split at hs
            · split at hs
              · exact snd_clear K.tt r hρ q0 p0 (by assumption) (by assumption) (by assumption) hxs ho hs
              · exact bad_sem hs
            · exact bad_sem hs
          · exact bad_sem hs
        · exact bad_sem hs
      · exact snd_recover r hρ hxs ho hs
      · exact snd_usd r hρ hxs ho hs
      · split at hs
        · rename_i ts h0
          obtain ⟨t0, q0, p0⟩ := bind_t h0
          split at hs
          · split at hs
            · split at hs
              · rename_i hc
                obtain ⟨t2, h2⟩ := two_of q0 hc.2
                exact snd_us K.tt r hρ h2 p0 (by assumption) (by assumption) hc.1 hxs ho hs
              · exact bad_sem hs
            · exact bad_sem hs
          · exact bad_sem hs
        · exact bad_sem hs
      · exact bad_sem hs

/-- Every operation is what its compiled form says. -/
theorem cOp_sound (K : FixOK C) (r : Rel Q g h w) (hρ : ∀ x y, cX C x = some y → VR g (y.val rs) (ρ x)) (hfun : ∀ f, ρ (.func f) = .func (.func f) #[] #[]) {o : Oper}
    {or : OR} (hs : opSem (cOp C o.op) rs h = some or) : OpOK C.P Q g h w (execOp ρ o) or := by
  generalize ho : o.op = op at hs
  unfold cOp at hs
  split at hs
  · split at hs
    · exact snd_mv r hρ (by assumption) (.inl ho) hs
    · exact bad_sem hs
  · split at hs
    · exact snd_mv r hρ (by assumption) (.inr ho) hs
    · exact bad_sem hs
  · split at hs
    · exact snd_pick r hρ (by assumption) (by assumption) (by assumption) ho hs
    · exact bad_sem hs
  · split at hs
    · rename_i z hz
      simp only [Option.bind_eq_some_iff] at hz
      obtain ⟨ti, h1, h2⟩ := hz
      exact snd_alloc K.tt r h1 h2 ho hs
    · exact bad_sem hs
  · split at hs
    · exact snd_box r hρ (by assumption) ho hs
    · exact bad_sem hs
  · split at hs
    · rename_i ti hti
      split at hs
      · rename_i z fs hz hd
        split at hs
        · rename_i pl hpl
          split at hs
          · exact snd_buildS K.tt r hρ hti hz hd hpl (by assumption) ho hs
          · exact bad_sem hs
        · exact bad_sem hs
      · rename_i z n e hz hd
        split at hs
        · rename_i te hte
          split at hs
          · exact snd_buildA K.tt r hρ hti hz hd hte (by assumption) ho hs
          · exact bad_sem hs
        · exact bad_sem hs
      · exact bad_sem hs
    · exact bad_sem hs
  · split at hs
    · rename_i ti hti
      split at hs
      · rename_i e hd
        split at hs
        · rename_i te hte
          split at hs
          · rename_i z l hz hl
            split at hs
            · rename_i hc
              exact snd_bslice K.tt r hρ hti hd hte hz hl hc.1 hc.2 ho hs
            · exact bad_sem hs
          · exact bad_sem hs
        · exact bad_sem hs
      · exact bad_sem hs
    · exact bad_sem hs
  · split at hs
    · rename_i ti a hti ha
      split at hs
      · rename_i hd
        exact snd_lda K.tt r hρ hti hd ha ho hs
      · rename_i hd
        exact snd_ld K.tt r hρ hti (by simpa using hd) ha ho hs
    · exact bad_sem hs
  · split at hs
    · exact snd_st K.tt r hρ (by assumption) (by assumption) (by assumption) ho hs
    · exact bad_sem hs
  · split at hs
    · exact snd_nilck r hρ (by assumption) ho hs
    · exact bad_sem hs
  · split at hs
    · exact cBin_sound K r hρ (by assumption) (by assumption) ho hs
    · exact bad_sem hs
  · split at hs
    · exact snd_un r hρ (by assumption) ho hs
    · exact bad_sem hs
  · split at hs
    · rename_i ts td x hts htd hx
      split at hs
      · rename_i h1 h2
        exact snd_cvInt r hρ K.tt hts htd h1 h2 hx ho hs
      · rename_i h1 h2
        exact snd_cvId K.tt r hρ hts htd h1 h2 hx ho hs
      · rename_i e h1 h2
        split at hs
        · rename_i te hte
          split at hs
          · rename_i h3
            split at hs
            · exact snd_cvBytes K.tt r hρ hts htd h1 h2 hte h3 hx ho hs
            · exact bad_sem hs
          · exact bad_sem hs
        · exact bad_sem hs
      · rename_i e h1 h2
        split at hs
        · rename_i te hte
          split at hs
          · rename_i h3
            exact snd_cvStr K.tt r hρ hts htd h1 h2 hte h3 hx ho hs
          · exact bad_sem hs
        · exact bad_sem hs
      · rename_i t h1 h2
        split at hs
        · rename_i te hte
          split at hs
          · exact bad_sem hs
          · rename_i hne
            exact snd_cvUp K.tt r hρ hts htd h1 h2 hte hne hx ho hs
        · exact bad_sem hs
      · rename_i u h1 h2
        exact snd_cvDn K.tt r hρ hts htd h1 h2 hx ho hs
      · exact bad_sem hs
    · exact bad_sem hs
  · split at hs
    · rename_i ti x hti hx
      split at hs
      · exact bad_sem hs
      · rename_i hd
        exact snd_mkIf r hρ hti hx hd ho hs K.tt
    · exact bad_sem hs
  · split at hs
    · split at hs
      · exact snd_mkFn r hρ (by assumption) (by assumption) ho hs
      · exact bad_sem hs
    · exact bad_sem hs
  · exact snd_mkMap r ho hs
  · split at hs
    · rename_i ti l c hti hl hc
      split at hs
      · rename_i e hd
        split at hs
        · rename_i te hte
          split at hs
          · rename_i z hz
            split at hs
            · rename_i hh
              exact snd_mkSl K.tt r hρ hti hd hte hz hh.1 hh.2 hl hc ho hs
            · exact bad_sem hs
          · exact bad_sem hs
        · exact bad_sem hs
      · exact bad_sem hs
    · exact bad_sem hs
  · rename_i t x lo hi mx
    split at hs
    · rename_i ti x' lo' hi' mx' hti hx hlo hhi hmx
      split at hs
      · rename_i n e hd
        split at hs
        · rename_i te hte
          split at hs
          · rename_i hc
            have hmh : mx.isSome → hi.isSome := by
              intro hm
              cases mx with
              | none => cases hm
              | some m =>
                cases hi with
                | some _ => rfl
                | none =>
                  simp only [cOX, Option.map_eq_some_iff, Option.some.injEq] at hmx hhi
                  obtain ⟨_, _, rfl⟩ := hmx
                  subst hhi
                  simpa using hc rfl
            exact snd_slArr K.tt r hρ hti hd hte hx hlo hhi hmx hmh ho hs
          · exact bad_sem hs
        · exact bad_sem hs
      · rename_i e hd
        split at hs
        · rename_i te hte
          split at hs
          · rename_i hc
            have hmh : mx.isSome → hi.isSome := by
              intro hm
              cases mx with
              | none => cases hm
              | some m =>
                cases hi with
                | some _ => rfl
                | none =>
                  simp only [cOX, Option.map_eq_some_iff, Option.some.injEq] at hmx hhi
                  obtain ⟨_, _, rfl⟩ := hmx
                  subst hhi
                  simpa using hc.2 rfl
            exact snd_slSl K.tt r hρ hti hd hte hc.1 hx hlo hhi hmx hmh ho hs
          · exact bad_sem hs
        · exact bad_sem hs
      · rename_i hd
        split at hs
        · rename_i hm
          cases mx with
          | some m =>
            simp only [cOX, Option.map_eq_some_iff] at hmx
            obtain ⟨_, _, rfl⟩ := hmx
            cases hm
          | none => exact snd_slStr K.tt r hρ hti hd hx hlo hhi ho hs
        · exact bad_sem hs
      · exact bad_sem hs
    · exact bad_sem hs
  · split at hs
    · rename_i ti x hti hx
      split at hs
      · rename_i fs hd
        split at hs
        · rename_i f hf
          split at hs
          · rename_i tf htf
            split at hs
            · exact bad_sem hs
            · rename_i hne
              exact snd_fadr K.tt r hρ hti hd hf htf hne hx ho hs
          · exact bad_sem hs
        · exact bad_sem hs
      · exact bad_sem hs
    · exact bad_sem hs
  · split at hs
    · rename_i ti x hti hx
      split at hs
      · rename_i fs hd
        split at hs
        · rename_i f hf
          split at hs
          · rename_i tf htf
            exact snd_fld K.tt r hρ hti hd hf htf hx ho hs
          · exact bad_sem hs
        · exact bad_sem hs
      · exact bad_sem hs
    · exact bad_sem hs
  · split at hs
    · rename_i ti x i hti hx hi
      split at hs
      · rename_i n e hd
        split at hs
        · exact snd_ixArr K.tt r hρ hti hd (by assumption) hx hi ho hs
        · exact bad_sem hs
      · rename_i e hd
        split at hs
        · exact snd_ixSl K.tt r hρ hti hd (by assumption) hx hi ho hs
        · exact bad_sem hs
      · exact bad_sem hs
    · exact bad_sem hs
  · split at hs
    · rename_i ti x i hti hx hi
      split at hs
      · rename_i n e hd
        split at hs
        · exact snd_idxArr K.tt r hρ hti hd (by assumption) hx hi ho hs
        · exact bad_sem hs
      · rename_i hd
        exact snd_idxStr K.tt r hρ hti hd hx hi ho hs
      · exact bad_sem hs
    · exact bad_sem hs
  · split at hs
    · rename_i ti x k hti hx hk
      split at hs
      · rename_i kt e hd
        split at hs
        · rename_i z kk hz hkk
          simp only [Option.bind_eq_some_iff] at hz
          obtain ⟨te, hte, hz⟩ := hz
          exact snd_lookup r hρ K.tt hti hd hte hz hkk hx hk ho hs
        · exact bad_sem hs
      · exact bad_sem hs
    · exact bad_sem hs
  · split at hs
    · rename_i ti x k y hti hx hk hy
      split at hs
      · rename_i kt e hd
        split at hs
        · rename_i kk hkk
          exact snd_mupd r hρ K.tt hti hd hkk hx hk hy (.inl ho) hs
        · exact bad_sem hs
      · exact bad_sem hs
    · exact bad_sem hs
  · split at hs
    · rename_i ti x k y hti hx hk hy
      split at hs
      · rename_i kt e hd
        split at hs
        · rename_i kk hkk
          exact snd_mupd r hρ K.tt hti hd hkk hx hk hy (.inr ho) hs
        · exact bad_sem hs
      · exact bad_sem hs
    · exact bad_sem hs
  · split at hs
    · rename_i ti x k hti hx hk
      split at hs
      · rename_i kt e hd
        split at hs
        · rename_i z kk hz hkk
          simp only [Option.bind_eq_some_iff] at hz
          obtain ⟨te, hte, hz⟩ := hz
          exact snd_ment r hρ K.tt hti hd hte hz hkk hx hk ho hs
        · exact bad_sem hs
      · exact bad_sem hs
    · exact bad_sem hs
  · split at hs
    · exact snd_mst r hρ (by assumption) (by assumption) (by assumption) ho hs
    · exact bad_sem hs
  · split at hs
    · rename_i ti x hti hx
      split at hs
      · exact snd_rng r hρ K.tt hti (by assumption) hx ho hs
      · exact bad_sem hs
    · exact bad_sem hs
  · split at hs
    · exact snd_nxt r hρ (by assumption) ho hs
    · exact bad_sem hs
  · split at hs
    · rename_i ti x hti hx
      split at hs
      · exact bad_sem hs
      · rename_i hd
        split at hs
        · rename_i z hz
          exact snd_tas r hρ K.tt hti hd hz hx ho hs
        · exact bad_sem hs
    · exact bad_sem hs
  · split at hs
    · exact snd_ext r hρ (by assumption) ho hs
    · exact bad_sem hs
  · exact cCall_sound K r hρ hfun ho hs
  · rename_i c
    obtain ⟨callee, args, ats⟩ := c
    simp only at hs
    split at hs
    · exact snd_defer hρ (by assumption) ho (hfun _) hs
    · split at hs
      · exact snd_deferv hρ (by assumption) (by assumption) ho hs
      · exact bad_sem hs
    · exact bad_sem hs
  · exact bad_sem hs
end
end Ax
