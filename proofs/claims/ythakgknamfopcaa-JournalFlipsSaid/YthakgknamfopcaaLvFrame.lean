/- Lv: a frame's steps: the machine goes as the evaluator does. -/
import Derived.Test.YthakgknamfopcaaLvSound
namespace Go.Lv
open Go
set_option linter.unusedVariables false
set_option linter.unusedSimpArgs false

section
variable {P : Program} {rec : Task → Option Res}

theorem FIn.val {b : Frame} {a : Act} {cs : List Frame} {x : Value} {w w' : World} {R R' : Ren} {S : FS} {H' : LH} (h : FIn P b a cs x w R S)
    (hg : Goes R S.H w R' H' w') (hd : Den R' H' w') (hl : LGo P S.H H') (dst : Option Nat) {v : LV} {y : Value} (hv : DV R' v y) :
    FIn P b (a.put dst y) cs x w' R' { S with E := S.E.putO dst v, H := H' } where
  fn := h.fn
  env := (h.env.mono hg.ext).putO dst hv
  dfs := by rw [Act.put_defers']; exact h.dfs.mono hg.ext
  den := hd
  rnd := h.rnd.mono hg.ext
  pan := h.pan.mono hg.ext
  glob := h.glob.mono hg.ext
  loops := hl.loops h.loops

theorem FIn.put {b : Frame} {a : Act} {cs : List Frame} {x : Value} {w : World} {R : Ren} {S : FS} (h : FIn P b a cs x w R S)
    (dst : Option Nat) {v : LV} {y : Value} (hv : DV R v y) : FIn P b (a.put dst y) cs x w R { S with E := S.E.putO dst v } :=
  h.val (Goes.refl _ _ _) h.den (LGo.refl _ _) dst hv

theorem FIn.heap {b : Frame} {a : Act} {cs : List Frame} {x : Value} {w w' : World} {R R' : Ren} {S : FS} {H' : LH} (h : FIn P b a cs x w R S)
    (hg : Goes R S.H w R' H' w') (hd : Den R' H' w') (hl : LGo P S.H H') : FIn P b a cs x w' R' { S with H := H' } where
  fn := h.fn
  env := h.env.mono hg.ext
  dfs := h.dfs.mono hg.ext
  den := hd
  rnd := h.rnd.mono hg.ext
  pan := h.pan.mono hg.ext
  glob := h.glob.mono hg.ext
  loops := hl.loops h.loops

theorem defer_iff {E : Env} {H : LH} {o : Oper} {r : OR} (h : lop P E H o = some r) (hr : ∀ d, r ≠ .defer d) : ∀ c, o.op ≠ .defer c := by
  intro c hc
  obtain ⟨dst, op, ty, pos, after, guard⟩ := o
  simp only at hc
  subst hc
  unfold lop at h
  simp only at h
  repeat' split at h
  all_goals first
    | (cases h; done)
    | (cases h; exact hr _ rfl)

/-- What is asked of a region that draws its order. -/
def DrawOk (P : Program) (rec : Task → Option Res) : Prop :=
  ∀ (id : Nat) (ops : Array Oper) (S : FS) (r : FR), drawOk P ops = true → drun P rec ops (!(confl P ops).isEmpty) ops.toList 0 [] S = some r →
    ∀ (b : Frame) (a : Act) (k : List Item) (cs : List Frame) (x : Value) (w : World) (R : Ren), FIn P b a cs x w R S → Fresh R S.H.next r.st.H.next →
    (∃ v, r = .panic v r.st ∧ Ends P (lone (b.atR a (.code (.region id ops true) :: k)) (csOf cs x S.pan) w) b cs x S R w r) ∨
    ∃ R' w' a', r = .ret r.st ∧ Goes R S.H w R' r.st.H w' ∧ LGo P S.H r.st.H ∧ FIn P b a' cs x w' R' r.st ∧ r.st.fn = S.fn ∧ r.st.rnd = S.rnd ∧ r.st.pan = S.pan ∧
      Steps P (lone (b.atR a (.code (.region id ops true) :: k)) (csOf cs x S.pan) w) (lone (b.atR a' k) (csOf cs x S.pan) w')

theorem FIn.leave {b : Frame} {a : Act} {cs : List Frame} {x : Value} {w : World} {R : Ren} {S : FS} (h : FIn P b a cs x w R S) {k : List Item} (j : Option Code) {r : FR}
    (hr : (match S.rnd with
      | none => (match j with | none | some .ret => some (Res.fr (.ret S)) | _ => none)
      | some _ => some (Res.fr (.jump j S))) = some (.fr r))
    (hk : match j with
      | none => k = []
      | some .ret => ∃ k', k = .code .ret :: k'
      | some (.exit id) => ∃ k', k = .code (.exit id) :: k' ∧ exitTo id k' = none
      | _ => False) : Ends P (lone (b.atR a k) (csOf cs x S.pan) w) b cs x S R w r := by
  have ends : ∀ {r' : FR}, r'.st = S → Last P (lone (b.atR a k) (csOf cs x S.pan) w) b cs x R w a r' → Ends P (lone (b.atR a k) (csOf cs x S.pan) w) b cs x S R w r' := fun {r'} e hl => by
    refine ⟨R, w, a, ?_, ?_, ?_, ?_, ?_, ?_, ?_, ?_, hl⟩ <;> rw [e]
    · exact Goes.refl _ _ _
    · exact LGo.refl _ _
    · exact h.den
    · exact h.env
    · exact h.dfs
  split at hr
  · rename_i hn
    have hb : b.roundOf = none := by have := h.rnd; rw [hn] at this; exact this
    split at hr
    · simp only [Option.some.injEq, Res.fr.injEq] at hr
      subst hr
      simp only at hk
      subst hk
      exact ends rfl ⟨[], .one (stepR_end hb)⟩
    · simp only [Option.some.injEq, Res.fr.injEq] at hr
      subst hr
      simp only at hk
      obtain ⟨k', rfl⟩ := hk
      exact ends rfl ⟨_, .one (stepR_ret hb)⟩
    · cases hr
  · simp only [Option.some.injEq, Res.fr.injEq] at hr
    subst hr
    refine ends rfl ?_
    unfold Last
    split at hk
    · simp only; rw [hk]; exact Steps.refl _ _
    · obtain ⟨k', rfl⟩ := hk; exact ⟨k', Steps.refl _ _⟩
    · obtain ⟨k', rfl, h2⟩ := hk; exact ⟨k', h2, Steps.refl _ _⟩
    · exact hk.elim

theorem range_open {b : Frame} {a : Act} {cs : List Frame} {x : Value} {w : World} {R : Ren} {S : FS} (hin : FIn P b a cs x w R S) (hst : rangeStands S = true) {ps : Array Tmp} {aa bb : Code}
    (hcode : codeOk P aa = true ∧ codeOk P bb = true) (hfr : Fresh R S.H.next (rangeLoop S ps aa bb).next) :
    ∃ lb mark w₁ R₁ d e, (Instr.enterLoop b.fn a.tmps ps aa bb b.roundOf).run P w = .ok (lb, mark) w₁ ∧ Goes R S.H w R₁ (rangeLoop S ps aa bb) w₁ ∧ Den R₁ (rangeLoop S ps aa bb) w₁ ∧
      LGo P S.H (rangeLoop S ps aa bb) ∧ R₁ (rangeOpen S).1.next = some (lb, d, e) ∧ DefsR R₁ (rangeOpen S).2.1 (mark ++ a.defers) := by
  have hgood : ∀ fn env ps dn, (LO.loop .ready none fn env ps aa bb dn).good P = true := fun _ _ _ _ => by simp [LO.good, hcode.1, hcode.2]
  cases hn : S.rnd with
  | none =>
    have hb : b.roundOf = none := by have := hin.rnd; rw [hn] at this; exact this
    have e1 : rangeOpen S = (S.H.new (.defd false), { fn := .func 0, captured := [], args := [], mark := some S.H.next } :: S.D, S.H.next) := by simp [rangeOpen, hn]
    have e2 : rangeLoop S ps aa bb = (S.H.new (.defd false)).new (.loop .ready none S.fn S.E ps.toList aa bb S.H.next) := by simp [rangeLoop, e1]
    rw [e2] at hfr ⊢
    rw [e1]
    have hf0 : R S.H.next = none := hfr _ (Nat.le_refl _) (by simp only [LH.next_new]; omega)
    have hf1 : R (S.H.next + 1) = none := hfr _ (by omega) (by simp only [LH.next_new]; omega)
    obtain ⟨hg1, hd1⟩ := goes_new hin.den hf0 (.defd false) (.deferred (some [])) 0 rfl
    have hle := hg1.ext
    obtain ⟨hg2, hd2⟩ := goes_new (w := w.alloc (.deferred (some []))) hd1 (by simp [Ren.put, hf1]) (.loop .ready none S.fn S.E ps.toList aa bb S.H.next)
      (.loop { state := .ready, pending := none, fn := b.fn, tmps := a.tmps, params := ps, assign := aa, body := bb, defers := w.heap.size }) 0
      ⟨a.tmps, w.heap.size, 0, 0, by simp [hin.fn], (hin.env.mono hle).mono (RLe_put (by simp [Ren.put, hf1])), by simp [Ren.put]⟩
    refine ⟨w.heap.size + 1, [{ target := .collected w.heap.size, args := #[] }], _, _, 0, 0, by rw [hb]; exact run_enterLoop_outer _ _ _ _ _, hg1.trans hg2, hd2,
      (LGo.new P S.H (.defd false) rfl rfl).trans (LGo.new P _ _ rfl (hgood _ _ _ _)), by simp [Ren.put, alloc_size], ?_⟩
    simp only [List.cons_append, List.nil_append, DefsR]
    exact ⟨_, _, rfl, ⟨w.heap.size, 0, 0, by simp [Ren.put], rfl⟩, hin.dfs.mono (hle.trans hg2.ext)⟩
  | some l =>
    have hrnd := hin.rnd
    rw [hn] at hrnd
    obtain ⟨lb, d, e, hRl, hb⟩ := hrnd
    simp only [rangeStands, hn] at hst
    split at hst
    · rename_i st0 pend0 fn0 env0 ps0 aa0 bb0 dn hget
      have e1 : rangeOpen S = (S.H, S.D, dn) := by simp [rangeOpen, hn, hget]
      have e2 : rangeLoop S ps aa bb = S.H.new (.loop .ready none S.fn S.E ps.toList aa bb dn) := by simp [rangeLoop, e1]
      rw [e2] at hfr ⊢
      rw [e1]
      have hf0 : R S.H.next = none := hfr _ (Nat.le_refl _) (by simp)
      obtain ⟨lb', d', e', hRl', hO⟩ := hin.den.obj l _ hget
      rw [hRl] at hRl'
      cases hRl'
      obtain ⟨tmps0, db, dd, de, hw0, henv0, hdn⟩ := hO
      obtain ⟨hg2, hd2⟩ := goes_new (w := w) hin.den hf0 (.loop .ready none S.fn S.E ps.toList aa bb dn)
        (.loop { state := .ready, pending := none, fn := b.fn, tmps := a.tmps, params := ps, assign := aa, body := bb, defers := db }) 0
        ⟨a.tmps, db, dd, de, by simp [hin.fn], hin.env.mono (RLe_put hf0), RLe_put hf0 _ _ hdn⟩
      exact ⟨w.heap.size, [], _, _, 0, 0, by rw [hb]; exact run_enterLoop_inner hw0 _ _ _ _ _, hg2, hd2, LGo.new P _ _ rfl (hgood _ _ _ _), by simp [Ren.put], hin.dfs.mono hg2.ext⟩
    · cases hst

theorem code_frame {K : List LItem} {c : Code} (h : KOk P (.code c :: K)) : codeOk P c = true := h.head

theorem frame_ok (hD : DrawOk P rec) (hC : CallOk P rec) (hR : RoundOk P rec) (hF : FrameOk P rec) (hN : ∀ t r, rec t = some r → t.next ≤ r.next) : FrameOk P (runStep P rec) := by
  intro K S r h b a k0 cs x w R hk0 ho hin hfr
  have hnext : ∀ {K' S'}, rec (.frame K' S') = some (.fr r) → S'.H.next ≤ r.st.H.next := fun hh => hN _ _ hh
  cases K with
  | nil =>
    simp only [runStep] at h
    simp only [KR] at hk0
    subst hk0
    exact hin.leave none h rfl
  | cons it K =>
    obtain ⟨y, k, rfl, hi, hk⟩ := hk0.uncons
    clear hk0
    have hoK := ho.tail
    cases it with
    | inBlock id =>
      simp only [ItemR] at hi
      subst hi
      exact (hF _ _ _ h b a k cs x w R hk hoK hin hfr).calm stepR_inBlock
    | inScope c =>
      simp only [ItemR] at hi
      subst hi
      exact (hF _ _ _ h b a k cs x w R hk hoK hin hfr).calm stepR_inScope
    | inLoop c =>
      simp only [ItemR] at hi
      subst hi
      exact (hF _ _ _ h b a _ cs x w R (KR.cons rfl (KR.cons rfl hk)) (KOk.cons ho.head (KOk.cons ho.head hoK)) hin hfr).calm stepR_inLoop
    | beginRound =>
      simp only [ItemR] at hi
      subst hi
      simp only [runStep] at h
      split at h
      · rename_i l hl
        split at h
        · rename_i pend fn env ps aa bb dn hget
          obtain ⟨lb, d, e, hRl, hO⟩ := hin.den.obj l _ hget
          have hrnd := hin.rnd
          rw [hl] at hrnd
          obtain ⟨lb', d', e', hRl', hb⟩ := hrnd
          rw [hRl] at hRl'
          cases hRl'
          obtain ⟨tmps, db, dd, de, hw, henv, hdn⟩ := hO
          have hs := stepR_beginRound (P := P) (b := b) (a := a) (k := k) (cs := csOf cs x S.pan) (w := w) hb (run_beginRound hw rfl)
          have hlt : lb < w.heap.size := (Array.getElem?_eq_some_iff.1 hw).1
          obtain ⟨hg, hd⟩ := goes_put (w' := w.putObj lb (.loop { state := .busy, pending := pend, fn := fn, tmps := tmps, params := ps.toArray, assign := aa, body := bb, defers := db })) hin.den hget rfl hRl
            ⟨World.putObj_size, fun j hj => World.putObj_heap_other hj, rfl, rfl, rfl⟩ (o' := .loop .busy pend fn env ps aa bb dn) rfl
            ⟨tmps, db, dd, de, by rw [World.putObj_heap_same hlt], henv, hdn⟩
          have hlg : LGo P S.H (S.H.put l (.loop .busy pend fn env ps aa bb dn)) := LGo.put P S.H hget rfl (fun hgd => hgd)
          exact (hF _ _ _ h b a k cs x _ R hk hoK (hin.heap hg hd hlg) hfr).head (.one hs) hg hlg rfl rfl rfl
        · cases h
      · cases h
    | endRange l =>
      obtain ⟨lb, d0, e0, hRl0, rfl⟩ := hi
      simp only [runStep] at h
      split at h
      · rename_i st pend fn env ps aa bb dn hget
        split at h
        · cases h
        · rename_i hbusy
          obtain ⟨lb', d, e, hRl, hO⟩ := hin.den.obj l _ hget
          rw [hRl0] at hRl
          cases hRl
          obtain ⟨tmps, db, dd, de, hw, henv, hdn⟩ := hO
          have hs := stepR_endRangeFunc (P := P) (b := b) (a := a) (k := k) (cs := csOf cs x S.pan) (w := w) (run_endLoop hw hbusy)
          have hlt : lb < w.heap.size := (Array.getElem?_eq_some_iff.1 hw).1
          obtain ⟨hg, hd⟩ := goes_put (w' := w.putObj lb (.loop { state := .exhausted, pending := pend, fn := fn, tmps := tmps, params := ps.toArray, assign := aa, body := bb, defers := db })) hin.den hget rfl hRl0
            ⟨World.putObj_size, fun j hj => World.putObj_heap_other hj, rfl, rfl, rfl⟩ (o' := .loop .exhausted pend fn env ps aa bb dn) rfl
            ⟨tmps, db, dd, de, by rw [World.putObj_heap_same hlt], henv, hdn⟩
          have hlg : LGo P S.H (S.H.put l (.loop .exhausted pend fn env ps aa bb dn)) := LGo.put P S.H hget rfl (fun hgd => hgd)
          split at h
          · rename_i c
            have hgd := hin.loops l _ hget
            simp only [LO.good, Bool.and_eq_true] at hgd
            exact (hF _ _ _ h b a _ cs x _ R (KR.cons rfl hk) (KOk.cons hgd.2 hoK) (hin.heap hg hd hlg) hfr).head (.one hs) hg hlg rfl rfl rfl
          · exact (hF _ _ _ h b a k cs x _ R hk hoK (hin.heap hg hd hlg) hfr).head (.one hs) hg hlg rfl rfl rfl
      · cases h
    | ops ops rest =>
      obtain ⟨i, rfl, hrest⟩ := hi
      cases rest with
      | nil =>
        exact (hF _ _ _ h b a k cs x w R hk hoK hin hfr).calm stepR_region_end
      | cons o rest =>
        have hio : ops[i]? = some o := by
          have := congrArg (fun l : List Oper => l[0]?) hrest
          simpa using this.symm
        have hrest' : rest = ops.toList.drop (i + 1) := by
          have := congrArg List.tail hrest
          simpa using this
        have hkk : ∀ R', RLe R R' → KR R' (.ops ops rest :: K) (.inRegion ops (List.range' (i + 1) rest.length) :: k) := fun R' hR' =>
          KR.cons ⟨i + 1, rfl, hrest'⟩ (hk.mono hR')
        have hko : KOk P (.ops ops rest :: K) := KOk.cons trivial hoK
        have hrng : List.range' i (o :: rest).length = i :: List.range' (i + 1) rest.length := by simp [List.range'_succ]
        rw [hrng]
        simp only [runStep] at h
        split at h
        · rename_i hw
          have hwt := wantedL_sound (a := a) hin.env hw
          have hs := stepR_op_skip (P := P) (b := b) (a := a) (k := k) (cs := csOf cs x S.pan) (w := w) (ops := ops) (i := i) (rest := List.range' (i + 1) rest.length) (by simp [hio, hwt])
          simp only [hio, Option.bind_some] at hs
          exact (hF _ _ _ h b _ _ cs x w R (hkk R (RLe.refl R)) hko (hin.put o.dst DV_undef) hfr).head (.one hs) (Goes.refl _ _ _) (LGo.refl _ _) rfl rfl rfl
        · rename_i hw
          have hwt := wantedL_sound (a := a) hin.env hw
          have sem : ∀ {q : OR}, lop P S.E S.H o = some q → (∀ d, q ≠ .defer d) → o.semAt b.roundOf a.eval = execOp a.eval o := fun hq hnd =>
            Oper.semAt_eq _ _ _ (defer_iff hq hnd)
          split at h
          · rename_i v H' hq
            obtain ⟨R', y, w', hrun, hg, hd, hv⟩ := lop_sound hin.env hin.den hq (hfr.mono (Nat.le_refl _) (hnext h))
            have hs := op_value (P := P) (b := b) (k := k) (cs := csOf cs x S.pan) (rest := List.range' (i + 1) rest.length) hio hwt (by rw [sem hq (by simp)]; exact hrun)
            have hl := lop_lgo hq
            exact (hF _ _ _ h b _ _ cs x w' R' (hkk R' hg.ext) hko (hin.val hg hd hl o.dst hv) (hfr.after hg)).head (.one hs) hg hl rfl rfl rfl
          · rename_i H' hq
            obtain ⟨R', w', hrun, hg, hd⟩ := lop_sound hin.env hin.den hq (hfr.mono (Nat.le_refl _) (hnext h))
            have hs := op_skip (P := P) (b := b) (k := k) (cs := csOf cs x S.pan) (rest := List.range' (i + 1) rest.length) hio hwt (by rw [sem hq (by simp)]; exact hrun)
            have hl := lop_lgo hq
            exact (hF _ _ _ h b _ _ cs x w' R' (hkk R' hg.ext) hko (hin.val hg hd hl o.dst DV_undef) (hfr.after hg)).head (.one hs) hg hl rfl rfl rfl
          · rename_i f args hq
            have hsound := lop_sound hin.env hin.den hq (fun j h1 h2 => by simp only [OR.next] at h2; omega)
            obtain ⟨av, hrun, hargs, hent⟩ := hsound
            have henter := op_enter (P := P) (b := b) (k := k) (cs := csOf cs x S.pan) (rest := List.range' (i + 1) rest.length) hio hwt (by rw [sem hq (by simp)]; exact hrun)
            split at h
            · rename_i v H' hc
              have hcall := hC _ _ _ _ _ hc R w av hargs hin.den hin.glob hin.loops (hfr.mono (Nat.le_refl _) (hnext h))
              obtain ⟨e, w', fr, ⟨R', hg, hl, hd, he⟩, hcomes, hfn, hleave⟩ := hcall (b.atR a (.inRegion ops (i :: List.range' (i + 1) rest.length) :: k) :: csOf cs x S.pan)
              cases e with
              | returned y =>
                have hback := step_leave_returned (c := b.atR a (.inRegion ops (i :: List.range' (i + 1) rest.length) :: k)) (cs := csOf cs x S.pan) hleave
                rw [finishR hio] at hback
                exact (hF _ _ _ h b _ _ cs x w' R' (hkk R' hg.ext) hko (hin.val hg hd hl o.dst he) (hfr.after hg)).head (.head henter (Steps.trans hcomes (.one hback))) hg hl rfl rfl rfl
              | panicked ch => exact he.elim
              | outgrown => exact he.elim
            · rename_i v H' hc
              simp only [Option.some.injEq, Res.fr.injEq] at h
              subst h
              have hcall := hC _ _ _ _ _ hc R w av hargs hin.den hin.glob hin.loops hfr
              obtain ⟨e, w', fr, ⟨R', hg, hl, hd, he⟩, hcomes, hfn, hleave⟩ := hcall (b.atR a (.inRegion ops (i :: List.range' (i + 1) rest.length) :: k) :: csOf cs x S.pan)
              cases e with
              | panicked ch =>
                obtain ⟨y, rfl, hy⟩ := he
                have hback := step_leave_panicked (c := b.atR a (.inRegion ops (i :: List.range' (i + 1) rest.length) :: k)) (cs := csOf cs x S.pan) hleave
                rw [Frame.raise_atR] at hback
                exact ⟨R', w', a, hg, hl, hd, hin.env.mono hg.ext, hin.dfs.mono hg.ext, rfl, rfl, rfl, y, _, hy, .head henter (Steps.trans hcomes (.one hback))⟩
              | returned y => exact he.elim
              | outgrown => exact he.elim
            · cases h
          · rename_i l args hq
            obtain ⟨lb, d, e, av, hRl, hrun, hargs⟩ := lop_sound hin.env hin.den hq (fun j h1 h2 => by simp only [OR.next] at h2; omega)
            split at h
            · rename_i v H' hc
              obtain ⟨f, tmps, aa, bb, hy, hround⟩ := hR _ _ _ _ _ hc R w av lb d e hRl hargs hin.den hin.glob hin.loops (hfr.mono (Nat.le_refl _) (hnext h))
              have henter := op_round (P := P) (b := b) (k := k) (cs := csOf cs x S.pan) (rest := List.range' (i + 1) rest.length) hio hwt (by rw [sem hq (by simp)]; exact hrun.trans hy)
              obtain ⟨e, w', ⟨R', hg, hl, hd, he⟩, hcomes⟩ := hround.2 (b.atR a (.inRegion ops (i :: List.range' (i + 1) rest.length) :: k)) (csOf cs x S.pan) (room_wide _)
              cases e with
              | returned y =>
                have hback := hcomes.comes
                simp only [finishR hio] at hback
                exact (hF _ _ _ h b _ _ cs x w' R' (hkk R' hg.ext) hko (hin.val hg hd hl o.dst he) (hfr.after hg)).head (.head henter hback) hg hl rfl rfl rfl
              | panicked ch => exact he.elim
              | outgrown => exact he.elim
            · rename_i v H' hc
              simp only [Option.some.injEq, Res.fr.injEq] at h
              subst h
              obtain ⟨f, tmps, aa, bb, hy, hround⟩ := hR _ _ _ _ _ hc R w av lb d e hRl hargs hin.den hin.glob hin.loops hfr
              have henter := op_round (P := P) (b := b) (k := k) (cs := csOf cs x S.pan) (rest := List.range' (i + 1) rest.length) hio hwt (by rw [sem hq (by simp)]; exact hrun.trans hy)
              obtain ⟨e, w', ⟨R', hg, hl, hd, he⟩, hcomes⟩ := hround.2 (b.atR a (.inRegion ops (i :: List.range' (i + 1) rest.length) :: k)) (csOf cs x S.pan) (room_wide _)
              cases e with
              | panicked ch =>
                obtain ⟨y, rfl, hy⟩ := he
                have hback := hcomes.comes
                simp only [Frame.raise_atR] at hback
                exact ⟨R', w', a, hg, hl, hd, hin.env.mono hg.ext, hin.dfs.mono hg.ext, rfl, rfl, rfl, y, _, hy, .head henter hback⟩
              | returned y => exact he.elim
              | outgrown => exact he.elim
            · cases h
          · rename_i d hq
            split at h
            · rename_i hn
              have hb : b.roundOf = none := by have := hin.rnd; rw [hn] at this; exact this
              obtain ⟨y, hrun, hdr⟩ := lop_sound hin.env hin.den hq (fun j h1 h2 => by simp only [OR.next] at h2; omega)
              have hs := op_defer (P := P) (b := b) (k := k) (cs := csOf cs x S.pan) (rest := List.range' (i + 1) rest.length) hio hwt (by rw [hb, Oper.semAt_none]; exact hrun)
              refine (hF _ _ _ h b _ _ cs x w R (hkk R (RLe.refl R)) hko ?_ hfr).head (.one hs) (Goes.refl _ _ _) (LGo.refl _ _) rfl rfl rfl
              exact ⟨hin.fn, EnvR.putO (a := { a with defers := y :: a.defers }) hin.env o.dst DV_undef, by rw [Act.put_defers']; exact ⟨y, a.defers, rfl, hdr, hin.dfs⟩, hin.den, hin.rnd, hin.pan, hin.glob, hin.loops⟩
            · cases h
          · rename_i hq
            have hrun := lop_sound hin.env hin.den hq (fun j h1 h2 => by simp only [OR.next] at h2; omega)
            simp only [OpR] at hrun
            split at h
            · rename_i v hn hp
              have hb : b.roundOf = none := by have := hin.rnd; rw [hn] at this; exact this
              have hpan := hin.pan
              rw [hp] at hpan
              obtain ⟨hkd, hcs, hdv⟩ := hpan
              obtain ⟨c, cs', rfl⟩ := List.exists_cons_of_ne_nil hcs
              have hs := op_recover_some (P := P) (b := b) (k := k) (rest := List.range' (i + 1) rest.length) (cs := cs') (c := c) (x := x) hb hkd hio hwt (by rw [sem hq (by simp)]; exact hrun)
              have hin' : FIn P b (a.put o.dst x) (c :: cs') x w R { S with E := S.E.putO o.dst v, pan := some (v, true) } :=
                ⟨hin.fn, hin.env.putO o.dst hdv, by rw [Act.put_defers']; exact hin.dfs, hin.den, hin.rnd, ⟨hkd, hcs, hdv⟩, hin.glob, hin.loops⟩
              rw [hp]
              exact (hF _ _ _ h b _ _ (c :: cs') x w R (hkk R (RLe.refl R)) hko hin' hfr).head (.one hs) (Goes.refl _ _ _) (LGo.refl _ _) rfl rfl (by rw [hp]; rfl)
            · rename_i hn hp
              have hb : b.roundOf = none := by have := hin.rnd; rw [hn] at this; exact this
              have hpan := hin.pan
              rw [hp] at hpan
              have hs := op_recover_none (P := P) (b := b) (k := k) (rest := List.range' (i + 1) rest.length) (cs := csOf cs x S.pan) hb hio hwt (by rw [sem hq (by simp)]; exact hrun) (by rw [hp]; exact hpan)
              exact (hF _ _ _ h b _ _ cs x w R (hkk R (RLe.refl R)) hko (hin.put o.dst (by simp [DV])) hfr).head (.one hs) (Goes.refl _ _ _) (LGo.refl _ _) rfl rfl rfl
            · cases h
          · rename_i v hq
            simp only [Option.some.injEq, Res.fr.injEq] at h
            subst h
            obtain ⟨y, hrun, hv⟩ := lop_sound hin.env hin.den hq (fun j h1 h2 => by simp only [OR.next] at h2; omega)
            have hs := op_panic (P := P) (b := b) (k := k) (cs := csOf cs x S.pan) (rest := List.range' (i + 1) rest.length) hio hwt (by rw [sem hq (by simp)]; exact hrun)
            exact ⟨R, w, a, Goes.refl _ _ _, LGo.refl _ _, hin.den, hin.env, hin.dfs, rfl, rfl, rfl, y, _, hv, .one hs⟩
          · cases h
        · cases h
    | code c =>
      simp only [ItemR] at hi
      subst hi
      have hcd := code_frame ho
      cases c with
      | ret => simp only [runStep] at h; exact hin.leave (some .ret) h ⟨_, rfl⟩
      | skip => exact (hF _ _ _ h b a k cs x w R hk hoK hin hfr).calm stepR_skip
      | seq c d =>
        simp only [codeOk, Bool.and_eq_true] at hcd
        exact (hF _ _ _ h b a _ cs x w R (KR.cons rfl (KR.cons rfl hk)) (KOk.cons hcd.1 (KOk.cons hcd.2 hoK)) hin hfr).calm stepR_seq
      | cond c u v =>
        simp only [codeOk, Bool.and_eq_true] at hcd
        simp only [runStep] at h
        split at h
        · rename_i hc
          have hv := ev_sound hin.env hc
          simp only [DV] at hv
          exact (hF _ _ _ h b a _ cs x w R (KR.cons rfl hk) (KOk.cons hcd.1 hoK) hin hfr).calm (stepR_cond hv)
        · rename_i hc
          have hv := ev_sound hin.env hc
          simp only [DV] at hv
          exact (hF _ _ _ h b a _ cs x w R (KR.cons rfl hk) (KOk.cons hcd.2 hoK) hin hfr).calm (stepR_cond hv)
        · cases h
      | block id c =>
        simp only [codeOk] at hcd
        exact (hF _ _ _ h b a _ cs x w R (KR.cons rfl (KR.cons rfl hk)) (KOk.cons hcd (KOk.cons trivial hoK)) hin hfr).calm stepR_block
      | loop c =>
        simp only [codeOk] at hcd
        exact (hF _ _ _ h b a _ cs x w R (KR.cons rfl (KR.cons rfl hk)) (KOk.cons hcd (KOk.cons hcd hoK)) hin hfr).calm stepR_loop
      | exit id =>
        simp only [runStep] at h
        split at h
        · rename_i K' hx
          obtain ⟨k', h1, h2, h3⟩ := lexit_some hk hoK hx
          exact (hF _ _ _ h b a k' cs x w R h2 h3 hin hfr).calm (stepR_exit h1)
        · rename_i hx
          exact hin.leave (some (.exit id)) h ⟨k, rfl, lexit_none hk hx⟩
      | region id ops draw =>
        cases draw with
        | false =>
          have h' : rec (.frame (.ops ops ops.toList :: K) S) = some (.fr r) := h
          have e : List.range ops.size = List.range' 0 ops.toList.length := by rw [List.range_eq_range']; simp
          refine (hF _ _ _ h' b a _ cs x w R (KR.cons ⟨0, rfl, by simp⟩ hk) (KOk.cons trivial hoK) hin hfr).calm ?_
          rw [← e]; exact stepR_region
        | true =>
          simp only [codeOk] at hcd
          simp only [runStep] at h
          split at h
          · rename_i S' hd
            have hle := hnext h
            rcases hD id ops S _ hcd hd b a k cs x w R hin (hfr.mono (Nat.le_refl _) hle) with ⟨v, he, _⟩ | ⟨R', w', a', _, hg, hl, hin', hf, hr, hp, hs⟩
            · cases he
            · simp only [FR.st] at hg hl hin' hf hr hp
              refine (hF _ _ _ h b a' k cs x w' R' (hk.mono hg.ext) hoK hin' (hfr.after hg)).head (by rw [hp]; exact hs) hg hl hf hr (by rw [hp])
          · rename_i v S' hd
            simp only [Option.some.injEq, Res.fr.injEq] at h
            subst h
            rcases hD id ops S _ hcd hd b a k cs x w R hin hfr with ⟨v, _, he⟩ | ⟨R', w', a', he, _⟩
            · exact he
            · cases he
          · cases h
      | rangeFunc f ps aa bb =>
        simp only [codeOk, Bool.and_eq_true] at hcd
        simp only [runStep] at h
        split at h
        · cases h
        · rename_i g hgv
          split at h
          · cases h
          · rename_i hst
            have hst : rangeStands S = true := by simpa using hst
            split at h
            · rename_i fi args hcv
              have hnx : (rangeLoop S ps aa bb).next ≤ r.st.H.next := by
                split at h
                · rename_i hc; exact Nat.le_trans (hN _ _ hc) (hnext h)
                · rename_i hc; simp only [Option.some.injEq, Res.fr.injEq] at h; subst h; exact hN _ _ hc
                · cases h
              obtain ⟨lb, mark, w₁, R₁, d, e, hent, hg, hd, hl, hRl, hdf⟩ := range_open (ps := ps) hin hst hcd (hfr.mono (Nat.le_refl _) hnx)
              have hgd : DV R₁ g (a.eval f) := DV_mono hg.ext _ _ (ev_sound hin.env hgv)
              have hav : DVs R₁ [LV.yield (rangeOpen S).1.next] (#[Value.func (.yield lb) #[] #[]] : Array Value).toList := DVs_one (by simp only [DV]; exact ⟨lb, d, e, hRl, rfl⟩)
              obtain ⟨av, hinv, hargs, _⟩ := callValue_sound hd hcv hgd hav
              obtain ⟨dd, w₂, hres, hinv⟩ : ∃ dd w₂, (Deferred.ofValue (a.eval f) #[Value.func (.yield lb) #[] #[]]).run P w₁ = .ok dd w₂ ∧ (invoke dd.target dd.args).run P w₂ = .ok (.enter fi av) w₁ := by
                rw [Sem.run_bind] at hinv
                cases hq : (Deferred.ofValue (a.eval f) #[Value.func (.yield lb) #[] #[]]).run P w₁ with
                | ok dd w₂ => rw [hq] at hinv; exact ⟨dd, w₂, rfl, hinv⟩
                | halt y w₂ => rw [hq] at hinv; simp [Result.andThen] at hinv
              have henter := stepR_rangeFunc (P := P) (b := b) (a := a) (k := k) (cs := csOf cs x S.pan) (w := w) (g := f) (ps := ps) (assign := aa) (body := bb) hent (show (resolve a.eval (rangeCall f lb) 0).run P w₁ = .ok dd w₂ by rw [← hres]; simp [resolve, rangeCall, Act.eval]) hinv
              have hin₁ : ∀ {R' H' w'}, Goes R₁ (rangeLoop S ps aa bb) w₁ R' H' w' → Den R' H' w' → LGo P (rangeLoop S ps aa bb) H' →
                  FIn P b { a with defers := mark ++ a.defers } cs x w' R' { S with H := H', D := (rangeOpen S).2.1 } := fun {R' H' w'} hg' hd' hl' =>
                have hle := hg.ext.trans hg'.ext
                ⟨hin.fn, hin.env.mono hle, hdf.mono hg'.ext, hd', hin.rnd.mono hle, hin.pan.mono hle, hin.glob.mono hle, (hl.trans hl').loops hin.loops⟩
              split at h
              · rename_i v H' hc
                have hcall := hC _ _ _ _ _ hc R₁ w₁ av hargs hd (hin.glob.mono hg.ext) (hl.loops hin.loops) ((hfr.after hg).mono (Nat.le_refl _) (hnext h))
                obtain ⟨e, w', fr, ⟨R', hg', hl', hd', he⟩, hcomes, hfn, hleave⟩ := hcall (b.atR { a with defers := mark ++ a.defers } (.inRangeFunc lb :: k) :: csOf cs x S.pan)
                cases e with
                | returned y =>
                  have hback := step_leave_returned (c := b.atR { a with defers := mark ++ a.defers } (.inRangeFunc lb :: k)) (cs := csOf cs x S.pan) hleave
                  rw [finish_atR_inRangeFunc] at hback
                  have hgg := hg.trans hg'
                  exact (hF _ _ _ h b _ _ cs x w' R' (KR.cons ⟨lb, d, e, hg'.ext _ _ hRl, rfl⟩ (hk.mono hgg.ext)) (KOk.cons trivial hoK) (hin₁ hg' hd' hl') (hfr.after hgg)).head
                    (.head henter (Steps.trans hcomes (.one hback))) hgg (hl.trans hl') rfl rfl rfl
                | panicked ch => exact he.elim
                | outgrown => exact he.elim
              · rename_i v H' hc
                simp only [Option.some.injEq, Res.fr.injEq] at h
                subst h
                have hcall := hC _ _ _ _ _ hc R₁ w₁ av hargs hd (hin.glob.mono hg.ext) (hl.loops hin.loops) (hfr.after hg)
                obtain ⟨e, w', fr, ⟨R', hg', hl', hd', he⟩, hcomes, hfn, hleave⟩ := hcall (b.atR { a with defers := mark ++ a.defers } (.inRangeFunc lb :: k) :: csOf cs x S.pan)
                cases e with
                | panicked ch =>
                  obtain ⟨y, rfl, hy⟩ := he
                  have hback := step_leave_panicked (c := b.atR { a with defers := mark ++ a.defers } (.inRangeFunc lb :: k)) (cs := csOf cs x S.pan) hleave
                  rw [Frame.raise_atR] at hback
                  have hin' := hin₁ hg' hd' hl'
                  exact ⟨R', w', _, hg.trans hg', hl.trans hl', hd', hin'.env, hin'.dfs, rfl, rfl, rfl, y, _, hy, .head henter (Steps.trans hcomes (.one hback))⟩
                | returned y => exact he.elim
                | outgrown => exact he.elim
              · cases h
            · cases h
      | label l => exact (hF _ _ _ h b a k cs x w R hk hoK hin hfr).calm stepR_label
      | scope c =>
        simp only [codeOk] at hcd
        exact (hF _ _ _ h b a _ cs x w R (KR.cons rfl (KR.cons rfl hk)) (KOk.cons hcd (KOk.cons hcd hoK)) hin hfr).calm stepR_scope
      | goto l =>
        simp only [runStep] at h
        split at h
        · rename_i K' hx
          obtain ⟨k', h1, h2, h3⟩ := lgoto_some hk hoK hx
          exact (hF _ _ _ h b a k' cs x w R h2 h3 hin hfr).calm (stepR_goto h1)
        · cases h
      | refuse s => simp [runStep] at h

end
end Go.Lv
