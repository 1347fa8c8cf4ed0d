/- Lv: regions that draw their order: the machine's part; and the whole evaluator sound. -/
import Derived.Test.YthakgknamfopcaaLvDraw
namespace Go.Lv
open Go
set_option linter.unusedVariables false
set_option linter.unusedSimpArgs false

section
variable {P : Program} {rec : Task → Option Res} {ops : Array Oper} {chk : Bool} {S : FS} {r : FR} {E : Nat → Env} {H : Nat → LH} {v : Nat → LV} {pan : Bool}

def Done (P : Program) (ops : Array Oper) (S : FS) (E : Nat → Env) (H : Nat → LH) (R0 : Ren) (w0 : World) (a0 : Act) (R : Ren) (a : Act) (w : World) : Prop :=
  Goes R0 S.H w0 R (H ops.size) w ∧ Den R (H ops.size) w ∧ LGo P S.H (H ops.size) ∧ EnvR R (E ops.size) a.tmps ∧ a.defers = a0.defers

def drawQ (P : Program) (ops : Array Oper) (S : FS) (E : Nat → Env) (H : Nat → LH) (v : Nat → LV) (pan : Bool) (R0 : Ren) (w0 : World) (a0 : Act) : Exit → Act → World → Prop
  | .normal, a, w => pan = false ∧ ∃ R, Done P ops S E H R0 w0 a0 R a w
  | .panic ch, a, w => pan = true ∧ ∃ R y, ch = [{ v := y, recovered := false }] ∧ DV R (v (ops.size - 1)) y ∧ Done P ops S E H R0 w0 a0 R a w
  | _, _, _ => False

theorem RegInv.goes {R0 R : Ren} {H0 HN : LH} {w0 w : World} {X : Nat → Option LO} (h : RegInv P R0 H0 w0 HN.next R X w) (hs : ∀ i o, HN.get i = some o → X i = some o) (hn : H0.next ≤ HN.next) :
    Goes R0 H0 w0 R HN w ∧ Den R HN w :=
  ⟨⟨h.ext, h.dom, hn, h.size, h.keep, fun b ⟨i, o, d, e, h1, h2, h3⟩ => h.own i o b d e (hs i o h1) h2 h3, h.os, h.tape, h.output⟩, h.den hs⟩

/-- The evaluation's own place. -/
structure Place (P : Program) (rec : Task → Option Res) (ops : Array Oper) (chk : Bool) (S : FS) (r : FR) (E : Nat → Env) (H : Nat → LH) (v : Nat → LV) (pan : Bool) (R0 : Ren) (w0 : World) (a0 : Act) : Prop where
  tr : Trc P rec ops chk 0 [] S r E H v pan
  ck : chk = !(confl P ops).isEmpty
  nx : ∀ t r, rec t = some r → t.next ≤ r.next
  st : Stat P ops
  den : Den R0 S.H w0
  fresh : Fresh R0 S.H.next (H ops.size).next
  glob : GlobR P R0
  loops : LoopsOk P S.H
  call : CallOk P rec
  round : RoundOk P rec

variable {R0 R : Ren} {w0 w : World} {a0 a : Act} {D : Nat → Bool} {X : Nat → Option LO}

theorem looks_eval (hp : Place P rec ops chk S r E H v pan R0 w0 a0) (h : DInv P ops S E H v R0 w0 a0 D R X a w) {j : Nat} {o : Oper} (hj : Rdy ops D j o) :
    (∀ x ∈ o.op.operands, (envD ops v S.E D ops.size).ev x = (E j).ev x) ∧ wantedL ops (envD ops v S.E D ops.size) o = wantedL ops (E j) o := by
  have key : ∀ t, t ∈ o.looksAt ops → (envD ops v S.E D ops.size).get t = (E j).get t := fun t ht => envD_looks hp.tr hp.st hj.op hj.un hj.pre h.clo ht
  constructor
  · intro x hx
    cases x with
    | tmp t =>
      exact key t (List.mem_append_left _ (List.mem_filterMap.2 ⟨.tmp t, by simpa using hx, rfl⟩))
    | const c => rfl
    | global g => simp only [Env.ev]; rw [(envD_n D _).2, (hp.tr.n j (Nat.le_of_lt hj.lt)).2]
    | func f => rfl
  · unfold wantedL
    cases hg : o.guard with
    | none => rfl
    | some p =>
      obtain ⟨g, want⟩ := p
      obtain ⟨t, ht⟩ := hp.st.guards j o g want hj.op hg
      simp only [ht, Option.bind_some]
      rw [key t (List.mem_append_right _ (by rw [hg]; simp [ht]))]

theorem wp_val {F : Fence} {n : Nat} {Q : Exit → Act → World → Prop} {K : Act → World → Prop} (hF : ∀ f, F.fn f) (hst : Stat P ops) {j : Nat} {o : Oper} (ho : ops[j]? = some o)
    (hw : Region.wanted o (yielded ops a.tmps) = true) {y : Value} {w' : World} (hr : (execOp a.eval o).run P w = .ok (.value y) w') (hk : K (a.put o.dst y) w') : wpOpIn F n P ops Q j K a w := by
  unfold wpOpIn
  simp only [ho, hw, if_true]
  refine ⟨fun f _ => hF f, ?_⟩
  rw [Oper.semAt_eq _ _ _ (hst.nodef j o ho), hr]
  exact hk

theorem pure_step (hp : Place P rec ops chk S r E H v pan R0 w0 a0) (h : DInv P ops S E H v R0 w0 a0 D R X a w) {j : Nat} {o : Oper} (hj : Rdy ops D j o) {H1 H1' : LH} (hs : ∀ i o, H1.get i = some o → X i = some o)
    (hn : H1.next = (H j).next) (hn' : H1'.next = (H (j + 1)).next) (hl : lop P (E j) H1 o = some (.val (v j) H1')) :
    ∃ R' y w', (execOp a.eval o).run P w = .ok (.value y) w' ∧ Goes R H1 w R' H1' w' ∧ Den R' H1' w' ∧ DV R' (v j) y ∧ LGo P H1 H1' := by
  obtain ⟨h1, _⟩ := looks_eval hp h hj
  rw [← lop_env h1] at hl
  obtain ⟨R', y, w', hrun, hg, hd, hv⟩ := lop_sound h.env (h.reg.den hs) hl (fun i h2 h3 => h.x3 j hj.lt hj.un i (by rw [← hn]; exact h2) (by rw [← hn']; exact h3))
  exact ⟨R', y, w', hrun, hg, hd, hv, lop_lgo hl⟩

/-- One operation that is ready. -/
theorem draw_step {F : Fence} (hF : ∀ f, F.fn f) (hFd : F.depth = none) (hFa : ∀ f av w R, Calls P f av w R → CallsIn F 0 P f av w R)
    (hFr : ∀ l f tmps as_ body w R, RoundIn Fence.wide 0 P l f tmps as_ body w R → RoundIn F 0 P l f tmps as_ body w R)
    (hp : Place P rec ops chk S r E H v pan R0 w0 a0) (h : DInv P ops S E H v R0 w0 a0 D R X a w) (hpd : pan = true → D (ops.size - 1) = false) {j : Nat} {o : Oper} (hj : Rdy ops D j o) :
    wpOpIn F 0 P ops (drawQ P ops S E H v pan R0 w0 a0) j (fun a' w' => ∃ R' X', DInv P ops S E H v R0 w0 a0 (DS D j) R' X' a' w' ∧ (pan = true → DS D j (ops.size - 1) = false)) a w := by
  have hlt := hj.lt
  obtain ⟨hev, hwe⟩ := looks_eval hp h hj
  have hs := hp.tr.step j o (Nat.zero_le _) hj.op
  have hsub0 : ∀ i oo, ({ next := (H j).next, t := .leaf } : LH).get i = some oo → X i = some oo := fun i oo hi => by simp [LH.get, Tr.get_leaf] at hi
  generalize hpp : (pan && j + 1 == ops.size) = pp at hs
  have hkeep : pp = false → pan = true → DS D j (ops.size - 1) = false := fun e1 e2 => by
    subst e1
    rw [e2] at hpp
    simp at hpp
    rw [DS_ne (by omega)]
    exact hpd e2
  generalize hv : v j = vj at hs
  generalize hH : H (j + 1) = Hj at hs
  cases hs with
  | no hw =>
    have hwt := wantedL_sound (a := a) h.env (hwe.trans hw)
    unfold wpOpIn
    simp only [hj.op, hwt]
    refine ⟨fun f _ => hF f, R, _, h.still hp.tr hp.nx hp.st hj (H1 := { next := (H j).next, t := .leaf }) hsub0 rfl hH (Goes.refl _ _ _) (h.reg.den hsub0) (by rw [hv]; exact DV_undef) ?_ ?_, hkeep rfl⟩
    · rintro ⟨o', ⟨h1, h2⟩, _⟩
      rw [hj.op] at h1; cases h1
      rw [hw] at h2; cases h2
    · rintro ⟨o', ⟨h1, h2⟩, _⟩
      rw [hj.op] at h1; cases h1
      rw [hw] at h2; cases h2
  | pure hw hk hl =>
    have hwt := wantedL_sound (a := a) h.env (hwe.trans hw)
    have hnm : ∀ {kk}, okind P o = kk → kk ≠ .mut → ¬ isM P ops E j := fun {kk} e1 e2 => by
      rintro ⟨o', ⟨h1, _⟩, h3⟩
      rw [hj.op] at h1; cases h1
      exact e2 (e1.symm.trans h3)
    have hnk : ∀ {kk}, okind P o = kk → kk ≠ .make → ¬ isK P ops E j := fun {kk} e1 e2 => by
      rintro ⟨o', ⟨h1, _⟩, h3⟩
      rw [hj.op] at h1; cases h1
      exact e2 (e1.symm.trans h3)
    subst hv
    cases hkk : okind P o with
    | «mut» => exact absurd hkk hk
    | free =>
      obtain ⟨he, hall⟩ := okind_free hkk hl
      subst he
      obtain ⟨R', y, w', hrun, hg, hd, hdv, _⟩ := pure_step hp h hj (H1 := { next := (H j).next, t := .leaf }) hsub0 rfl (by rw [hH]) (hall _)
      exact wp_val hF hp.st hj.op hwt hrun ⟨R', _, h.still hp.tr hp.nx hp.st hj hsub0 rfl hH hg hd hdv (hnm hkk (by simp)) (hnk hkk (by simp)), hkeep rfl⟩
    | make =>
      obtain ⟨f, hf⟩ := okind_make (P := P) (E := E j) hkk
      have hl0 := hl
      rw [hf] at hl
      obtain ⟨q, hq, he⟩ := Option.map_eq_some_iff.1 hl
      simp only [OR.val.injEq] at he
      obtain ⟨he1, he2⟩ := he
      have hl2 : lop P (E j) { next := (H j).next, t := .leaf } o = some (.val (v j) (LH.new { next := (H j).next, t := .leaf } q.2)) := by rw [hf, hq]; simp [he1]
      obtain ⟨R', y, w', hrun, hg, hd, hdv, hlg⟩ := pure_step hp h hj (H1 := { next := (H j).next, t := .leaf }) hsub0 rfl (by rw [hH, ← he2]; rfl) hl2
      have hlg0 := lop_lgo hl0
      exact wp_val hF hp.st hj.op hwt hrun ⟨R', _, h.make hp.tr hp.nx hp.st hj hkk hw (by rw [hH, ← he2]) (by rw [hH]; exact hlg0) hg hd hlg hdv, hkeep rfl⟩
    | read =>
      have hHH := (okind_read hkk hl).1
      subst hHH
      -- the heap in which it is known to yield this
      obtain ⟨q, hq⟩ := fu_ex (P := P) (ops := ops) (E := E) D
      have hrd : Wt ops E j o := ⟨hj.op, hw⟩
      have known : ∀ {n k oo}, n ≤ q → (∀ p, n ≤ p → p < q → ¬ isM P ops E p) → (H n).get k = some oo → (∃ z, R k = some z) → X k = some oo := fun {n k oo} hnq hnM hget hRk => by
        have hup : (H q).get k = some oo := by
          have e : q = n + (q - n) := by omega
          rw [e]
          refine hp.tr.up hget _ (by have := hq.le; omega) (fun p h1 h2 => hnM p h1 (by omega)) (fun p h1 h2 => ?_)
          by_cases hK : isK P ops E p
          · left
            intro e2
            have hps : p < ops.size := by have := hq.le; omega
            have h3 := hp.tr.le hp.nx h1 (Nat.le_of_lt hps)
            have hbn := h.bnd hp.tr hp.den hp.fresh hq hnq hget
            obtain ⟨obj, e3⟩ := hp.tr.makes hK
            have h4 := hp.tr.le hp.nx (a := p + 1) (b := ops.size) hps (Nat.le_refl _)
            rw [e3] at h4
            simp at h4
            exact hbn ⟨by omega, by omega⟩
          · exact .inr hK
        rcases h.x1 q hq k oo hup with h1 | ⟨m, h1, h2, hK, h4⟩
        · exact h1
        · exfalso
          obtain ⟨z, hz⟩ := hRk
          obtain ⟨obj, e3⟩ := hp.tr.makes hK
          rw [h.x3 m (by have := hq.le; omega) h2 k (by omega) (by rw [e3]; simp; omega)] at hz
          cases hz
      obtain ⟨G, G', hG, hGX⟩ : ∃ G G', lop P (E j) G o = some (.val (v j) G') ∧ ∀ k oo, G.get k = some oo → (∃ z, R k = some z) → X k = some oo := by
        rcases Nat.lt_or_ge q j with hqj | hqj
        · obtain ⟨⟨oq, hwq, hkq⟩, hDq⟩ := hq.here (by omega)
          have ha : ahead (Region.before ops) q j = true ∨ again P (E j) { H q with next := (H j).next } o (v j) = true := by
            cases hc : chk with
            | true => exact hp.tr.c4 hc q j oq o (Nat.zero_le _) hqj hwq hrd hkq hkk
            | false =>
              have := hp.ck
              rw [hc] at this
              exact .inl (confl_nil (by simpa using this.symm) hwq.1 hj.op hqj (.inr ⟨hkq, hkk⟩))
          rcases ha with ha | ha
          · have := hj.pre q ha
            rw [hDq] at this; cases this
          · obtain ⟨G', hG⟩ := again_spec ha
            exact ⟨_, G', hG, fun k oo hk hz => known (n := q) (Nat.le_refl _) (fun p h1 h2 => by omega) hk hz⟩
        · have hne : j ≠ q := fun e => by
            have h2 := hq.here (by omega)
            rw [← e] at h2
            exact hnm hkk (by simp) h2.1
          have last : ∀ n, n ≤ q → (∀ p, j < p → p < n → ¬ isM P ops E p) ∨ ∃ m, j < m ∧ m < n ∧ isM P ops E m ∧ ∀ p, m < p → p < n → ¬ isM P ops E p := by
            intro n
            induction n with
            | zero => exact fun _ => .inl fun p h1 h2 => by omega
            | succ n ih =>
              intro hn
              by_cases hM : j < n ∧ isM P ops E n
              · exact .inr ⟨n, hM.1, by omega, hM.2, fun p h1 h2 => by omega⟩
              · rcases ih (by omega) with h1 | ⟨m, h1, h2, h3, h4⟩
                · refine .inl fun p h2 h3 hp2 => ?_
                  by_cases e : p = n
                  · subst e; exact hM ⟨h2, hp2⟩
                  · exact h1 p h2 (by omega) hp2
                · refine .inr ⟨m, h1, by omega, h3, fun p h5 h6 hp2 => ?_⟩
                  by_cases e : p = n
                  · subst e; exact hM ⟨by omega, hp2⟩
                  · exact h4 p h5 (by omega) hp2
          rcases last q (Nat.le_refl _) with hno | ⟨m, h1, h2, hM, hno⟩
          · exact ⟨H j, H j, hl, fun k oo hk hz => known (n := j) hqj (fun p h1 h2 hp2 => by
              by_cases e : p = j
              · subst e; exact hnm hkk (by simp) hp2
              · exact hno p (by omega) h2 hp2) hk hz⟩
          · have hDm := hq.below m h2 hM
            obtain ⟨om, hwm, hkm⟩ := hM
            have ha : ahead (Region.before ops) j m = true ∨ again P (E j) { H (m + 1) with next := (H j).next } o (v j) = true := by
              cases hc : chk with
              | true => exact hp.tr.c2 hc j m o om (Nat.zero_le _) h1 hrd hwm hkk hkm
              | false =>
                have := hp.ck
                rw [hc] at this
                exact .inl (confl_nil (by simpa using this.symm) hj.op hwm.1 h1 (.inl ⟨hkk, hkm⟩))
            rcases ha with ha | ha
            · have := h.clo j m (by have := hq.le; omega) hDm ha
              rw [hj.un] at this; cases this
            · obtain ⟨G', hG⟩ := again_spec ha
              exact ⟨_, G', hG, fun k oo hk hz => known (n := m + 1) h2 (fun p h1 h2 => hno p (by omega) h2) hk hz⟩
      obtain ⟨_, x, hx, lv, hlv, hloc⟩ := okind_read hkk hG
      let t1 : Tr LO := match lv.id? with
        | some k => Tr.leaf.set k (G.get k)
        | none => .leaf
      have hl1 : lop P (E j) { next := (H j).next, t := t1 } o = some (.val (v j) { next := (H j).next, t := t1 }) := hloc _ (fun i hi => by
        simp only [LH.get, t1, hi, Tr.get_set, if_true])
      have hsub1 : ∀ i oo, ({ next := (H j).next, t := t1 } : LH).get i = some oo → X i = some oo := fun i oo hi => by
        simp only [LH.get, t1] at hi
        split at hi
        · rename_i k hk
          rw [Tr.get_set] at hi
          split at hi
          · rename_i e
            subst e
            have := ev_sound (a := a) h.env ((hev x hx).trans hlv)
            exact hGX _ _ hi (DV_id this hk)
          · simp [Tr.get_leaf] at hi
        · simp [Tr.get_leaf] at hi
      obtain ⟨R', y, w', hrun, hg, hd, hdv, _⟩ := pure_step hp h hj (H1 := { next := (H j).next, t := t1 }) hsub1 rfl (by rw [hH]) hl1
      exact wp_val hF hp.st hj.op hwt hrun ⟨R', _, h.still hp.tr hp.nx hp.st hj hsub1 rfl hH hg hd hdv (hnm hkk (by simp)) (hnk hkk (by simp)), hkeep rfl⟩
  | «mut» hw hk hU hpn hm =>
    rename_i H1' U
    have hwt := wantedL_sound (a := a) h.env (hwe.trans hw)
    have hM : isM P ops E j := ⟨o, ⟨hj.op, hw⟩, hk⟩
    have hfull := h.full hp.tr hp.st hj hM hU
    have hdj := h.reg.den hfull
    have hgl : GlobR P R := hp.glob.mono h.reg.ext
    have hfu := fu_here hp.st hj hM
    have hnx : H1'.next = (H (j + 1)).next := by rw [hH, LH.next_back]
    have hlj : LoopsOk P ((H j).hide U) := fun i oo hi => by
      rw [LH.get_hide] at hi
      split at hi
      · cases hi
      · exact (h.chain hp.tr hfu j (Nat.le_refl _)).loops hp.loops i oo hi
    have hfr : Fresh R ((H j).hide U).next H1'.next := fun i h1 h2 => h.x3 j hlt hj.un i (by rw [LH.next_hide] at h1; exact h1) (by rw [← hnx]; exact h2)
    have dpan : pp = true → ∀ {R' w' y}, Goes R ((H j).hide U) w R' H1' w' → Den R' H1' w' → LGo P ((H j).hide U) H1' → DV R' (v j) y →
        drawQ P ops S E H v pan R0 w0 a0 (.panic [{ v := y, recovered := false }]) a w' := fun e {R' w' y} hg hd hl hy => by
      obtain rfl := hpn e
      simp only [LH.hide, LH.back] at hg hl hH hfull
      subst hH
      subst e
      simp only [Bool.and_eq_true, beq_iff_eq] at hpp
      obtain ⟨hpan, hsz⟩ := hpp
      have e1 : ops.size - 1 = j := by omega
      have h0 : S.H.next ≤ (H j).next := by rw [← hp.tr.h0]; exact hp.tr.le hp.nx (Nat.zero_le _) (Nat.le_of_lt hlt)
      have hreg := h.reg.step hfull hg hd hl h0 (by rw [hsz]; exact Nat.le_refl _)
      rw [← hsz] at hreg
      obtain ⟨hg', hd'⟩ := hreg.goes (fun i oo hi => by
        unfold stepX
        rw [if_pos]
        · exact hi
        · rcases hl.back i oo hi with ⟨h1, h2, _⟩ | ⟨o', h1, _⟩
          · exact .inr ⟨h1, h2⟩
          · exact .inl (by rw [h1]; rfl)) (Nat.le_trans h0 hl.next)
      have hall : ∀ i, i < j → D i = true := fun i hi => by
        have := (hp.tr.last hpan).2 i (by omega)
        rw [e1] at this
        exact hj.pre i this
      have hE : E ops.size = E j := by
        rw [← hsz, hp.tr.env j o (Nat.zero_le _) hj.op, if_pos (by simp [hpan, hsz])]
      refine ⟨hpan, R', y, rfl, by rw [e1]; exact hy, by rw [← hsz]; exact hg', by rw [← hsz]; exact hd', by rw [← hsz]; exact (h.chain hp.tr hfu j (Nat.le_refl _)).trans hl, ?_, h.dfs⟩
      rw [hE, ← envD_all hp.tr j (Nat.le_of_lt hlt) (fun _ => hlt) hall]
      have h3 := h.env.mono hg.ext
      rw [← hsz] at h3
      simp only [envD, hj.op, hj.un, Bool.false_eq_true, if_false] at h3
      exact h3
    cases hm with
    | val hl =>
      subst hv
      obtain ⟨R', y, w', hrun, hg, hd, hdv, hlg⟩ := pure_step hp h hj (H1 := (H j).hide U) hfull (LH.next_hide _ _) hnx hl
      exact wp_val hF hp.st hj.op hwt hrun ⟨R', _, h.mutate hp.tr hp.nx hp.st hp.den hp.fresh hj hM hU hH hg hd hlg hdv, hkeep rfl⟩
    | skip hl =>
      rw [← lop_env hev] at hl
      obtain ⟨R', w', hrun, hg, hd⟩ := lop_sound h.env hdj hl hfr
      have hlg : LGo P ((H j).hide U) H1' := lop_lgo hl
      unfold wpOpIn
      simp only [hj.op, hwt, if_true]
      refine ⟨fun f _ => hF f, ?_⟩
      rw [Oper.semAt_eq _ _ _ (hp.st.nodef j o hj.op), hrun]
      exact ⟨R', _, h.mutate hp.tr hp.nx hp.st hp.den hp.fresh hj hM hU hH hg hd hlg (by rw [hv]; exact DV_undef), hkeep rfl⟩
    | call hl hr =>
      subst hv
      rename_i f args
      rw [← lop_env hev] at hl
      obtain ⟨av, hrun, hargs, _⟩ := lop_sound h.env hdj hl (fun i h1 h2 => by simp only [OR.next] at h2; omega)
      have hcall := hp.call _ _ _ _ _ hr R w av hargs hdj hgl hlj hfr
      unfold wpOpIn
      simp only [hj.op, hwt, if_true]
      refine ⟨fun f _ => hF f, ?_⟩
      rw [Oper.semAt_eq _ _ _ (hp.st.nodef j o hj.op), hrun]
      refine ⟨fun hh => by rw [hFd] at hh; simp at hh, CallsIn.mono (hFa _ _ _ _ hcall) fun e w' hpost => ?_⟩
      obtain ⟨R', hg, hlg, hd, he⟩ := hpost
      cases e with
      | returned y =>
        cases pp with
        | true => exact he.elim
        | false => exact ⟨R', _, h.mutate hp.tr hp.nx hp.st hp.den hp.fresh hj hM hU hH hg hd hlg he, hkeep rfl⟩
      | panicked ch =>
        cases pp with
        | true =>
          obtain ⟨y, rfl, hy⟩ := he
          exact dpan rfl hg hd hlg hy
        | false => exact he.elim
      | outgrown => cases pp <;> exact he.elim
    | round hl hr =>
      subst hv
      rename_i l args
      rw [← lop_env hev] at hl
      obtain ⟨lb, d, e, av, hRl, hrun, hargs⟩ := lop_sound h.env hdj hl (fun i h1 h2 => by simp only [OR.next] at h2; omega)
      obtain ⟨f, tmps, aa, bb, hy, hround⟩ := hp.round _ _ _ _ _ hr R w av lb d e hRl hargs hdj hgl hlj hfr
      unfold wpOpIn
      simp only [hj.op, hwt, if_true]
      refine ⟨fun f _ => hF f, ?_⟩
      rw [Oper.semAt_eq _ _ _ (hp.st.nodef j o hj.op), hrun.trans hy]
      refine ⟨fun hh => by rw [hFd] at hh; simp at hh, RoundIn.mono (hFr _ _ _ _ _ _ _ hround) fun e w' hpost => ?_⟩
      obtain ⟨R', hg, hlg, hd, he⟩ := hpost
      cases e with
      | returned y =>
        cases pp with
        | true => exact he.elim
        | false => exact ⟨R', _, h.mutate hp.tr hp.nx hp.st hp.den hp.fresh hj hM hU hH hg hd hlg he, hkeep rfl⟩
      | panicked ch =>
        cases pp with
        | true =>
          obtain ⟨y, rfl, hy⟩ := he
          exact dpan rfl hg hd hlg hy
        | false => exact he.elim
      | outgrown => cases pp <;> exact he.elim

/-! ### how many are still to come -/
def cntF (D : Nat → Bool) : Nat → Nat
  | 0 => 0
  | n + 1 => cntF D n + if D n then 0 else 1
theorem cnt_set {D : Nat → Bool} {j : Nat} (hj : D j = false) : ∀ n, cntF (DS D j) n + (if j < n then 1 else 0) = cntF D n
  | 0 => by simp [cntF]
  | n + 1 => by
    have ih := cnt_set hj n
    simp only [cntF]
    by_cases e : n = j
    · subst e
      rw [DS_self, hj]
      simp at ih ⊢
      omega
    · rw [DS_ne e]
      by_cases h1 : j < n
      · have h2 : j < n + 1 := by omega
        simp only [h1, h2, if_true] at ih ⊢; omega
      · have h2 : ¬ j < n + 1 := by omega
        simp only [h1, h2, if_false] at ih ⊢; omega
theorem cnt_zero {D : Nat → Bool} : ∀ {n}, cntF D n = 0 → ∀ i, i < n → D i = true
  | 0, _, i, hi => by omega
  | n + 1, h, i, hi => by
    simp only [cntF] at h
    have h1 : cntF D n = 0 := by omega
    have h2 : (if D n then 0 else 1) = 0 := by omega
    by_cases e : i = n
    · subst e
      cases hd : D i with
      | true => rfl
      | false => rw [hd] at h2; simp at h2
    · exact cnt_zero h1 i (by omega)

/-- All are done. -/
theorem DInv.finish (hp : Place P rec ops chk S r E H v pan R0 w0 a0) (h : DInv P ops S E H v R0 w0 a0 D R X a w) (hpd : pan = true → D (ops.size - 1) = false) (hall : ∀ i, i < ops.size → D i = true) :
    drawQ P ops S E H v pan R0 w0 a0 .normal a w := by
  have hpan : pan = false := by
    cases hq : pan with
    | false => rfl
    | true =>
      have h1 := hp.tr.last hq
      have := hpd hq
      rw [hall _ (by omega)] at this; cases this
  have hfu : FU P ops E D ops.size := ⟨Nat.le_refl _, fun hh => by omega, fun p hh _ => hall p hh⟩
  have hx : ∀ i o, (H ops.size).get i = some o → X i = some o := fun i o hi => by
    rcases h.x1 _ hfu i o hi with h1 | ⟨k, h1, h2, _⟩
    · exact h1
    · rw [hall k h1] at h2; cases h2
  have hn : S.H.next ≤ (H ops.size).next := by rw [← hp.tr.h0]; exact hp.tr.le hp.nx (Nat.zero_le _) (Nat.le_refl _)
  obtain ⟨hg, hd⟩ := h.reg.goes hx hn
  refine ⟨hpan, R, hg, hd, h.chain hp.tr hfu _ (Nat.le_refl _), ?_, h.dfs⟩
  have := h.env
  rwa [envD_all hp.tr ops.size (Nat.le_refl _) (fun hh => by rw [hpan] at hh; cases hh) hall] at this

theorem draw_any {F : Fence} (hF : ∀ f, F.fn f) (hFd : F.depth = none) (hFa : ∀ f av w R, Calls P f av w R → CallsIn F 0 P f av w R)
    (hFr : ∀ l f tmps as_ body w R, RoundIn Fence.wide 0 P l f tmps as_ body w R → RoundIn F 0 P l f tmps as_ body w R)
    (hp : Place P rec ops chk S r E H v pan R0 w0 a0) : ∀ (fuel : Nat) (listed : Array Bool) (a : Act) (w : World), listed.size = ops.size → cntF (fun i => listed.getD i true) ops.size ≤ fuel →
      (∃ R X, DInv P ops S E H v R0 w0 a0 (fun i => listed.getD i true) R X a w) → (pan = true → listed.getD (ops.size - 1) true = false) →
      wpAnyIn F 0 P .any ops (drawQ P ops S E H v pan R0 w0 a0) fuel listed a w := by
  have rd : ∀ {listed : Array Bool} {j : Nat}, listed.size = ops.size → (∀ i j, j < ops.size → listed.getD j true = true → ahead (Region.before ops) i j = true → listed.getD i true = true) →
      j ∈ Region.ready .any ops listed → ∃ o, Rdy ops (fun i => listed.getD i true) j o := fun {listed j} hsz hclo hj => by
    obtain ⟨h1, o, h2, h3⟩ := mem_ready.1 hj
    have up : ∀ {i}, listed.getD i false = true → listed.getD i true = true := fun {i} hi => by
      rw [Array.getD_eq_getD_getElem?] at hi ⊢
      cases hq : listed[i]? with
      | none => rfl
      | some b => rw [hq] at hi; exact hi
    refine ⟨o, h2, h1, fun i hi => ?_⟩
    obtain ⟨e, h4, h5, h6⟩ := ahead_edge hp.st.edges h2 hi
    have h7 := h3 e h4 h5
    rcases h6 with h6 | h6
    · rw [h6]; exact up h7
    · exact hclo i e.on (by have := hp.st.edges j o h2 e h4 h5; have := (Array.getElem?_eq_some_iff.1 h2).1; omega) (up h7) h6
  have nil : ∀ {listed : Array Bool}, listed.size = ops.size → Region.ready .any ops listed = [] → ∀ n i, i < n → i < ops.size → listed.getD i true = true := fun {listed} hsz hnil => by
    intro n
    induction n with
    | zero => intro i h; omega
    | succ n ih =>
      intro i h1 h2
      by_cases e : i < n
      · exact ih i e h2
      · have e : i = n := by omega
        cases hd : listed.getD i true with
        | true => rfl
        | false =>
          exfalso
          have hm : i ∈ Region.ready .any ops listed := by
            refine mem_ready.2 ⟨hd, ops[i], Array.getElem?_eq_getElem h2, fun ed h3 h4 => ?_⟩
            have h5 := hp.st.edges i _ (Array.getElem?_eq_getElem h2) ed h3 h4
            have h6 := ih ed.on (by omega) (by omega)
            rw [Array.getD_eq_getD_getElem?] at h6 ⊢
            rw [Array.getElem?_eq_getElem (by omega)] at h6 ⊢
            exact h6
          rw [hnil] at hm; cases hm
  intro fuel
  induction fuel with
  | zero =>
    intro listed a w hsz hc ⟨R, X, h⟩ hpd
    have hall := cnt_zero (Nat.le_zero.1 hc)
    refine ⟨List.eq_nil_iff_forall_not_mem.2 fun j hj => ?_, h.finish hp hpd hall⟩
    obtain ⟨o, hr⟩ := rd hsz h.clo hj
    have := hall j hr.lt
    rw [hr.un] at this; cases this
  | succ fuel ih =>
    intro listed a w hsz hc ⟨R, X, h⟩ hpd
    refine ⟨fun hnil => h.finish hp hpd (fun i hi => nil hsz hnil (i + 1) i (by omega) hi), fun j hj => ?_⟩
    obtain ⟨o, hr⟩ := rd hsz h.clo hj
    refine wpOpIn_mono (fun a' w' hh => ?_) (draw_step hF hFd hFa hFr hp h hpd hr)
    obtain ⟨R', X', h', hpd'⟩ := hh
    have eD : (fun i => (listed.setIfInBounds j true).getD i true) = DS (fun i => listed.getD i true) j := funext fun i => by
      have hlt := hr.lt
      simp only [DS, Array.getD_eq_getD_getElem?, Array.getElem?_setIfInBounds]
      by_cases e : j = i
      · subst e; simp [hsz, hlt]
      · have e2 : (i == j) = false := by simp; omega
        simp [e, e2]
    refine ih _ a' w' (by simp [hsz]) ?_ ⟨R', X', by rw [eD]; exact h'⟩ (fun hq => ?_)
    · rw [eD]
      have := cnt_set (D := fun i => listed.getD i true) (j := j) hr.un ops.size
      rw [if_pos hr.lt] at this
      omega
    · have h1 := hpd' hq
      rw [← eD] at h1
      exact h1

theorem draw_ok (hP : progOk P = true) (hC : CallOk P rec) (hR : RoundOk P rec) (hN : ∀ t r, rec t = some r → t.next ≤ r.next) : DrawOk P rec := by
  intro id ops S r hok hrun b a k cs x w R hin hfr
  obtain ⟨E, H, v, pan, ht⟩ := drun_trace ops.toList 0 [] S r (by simp) (Nat.zero_le _) hrun
  have hrst : r.st = { S with E := E ops.size, H := H ops.size } := by rw [ht.fin]; cases pan <;> rfl
  obtain ⟨hg0, hd0⟩ := goes_drew hin.den (w.drawn + 1)
  have hp : Place P rec ops (!(confl P ops).isEmpty) S r E H v pan R { w with drawn := w.drawn + 1 } a :=
    ⟨ht, rfl, hN, stat_of hok, hd0, by rw [hrst] at hfr; exact hfr, hin.glob, hin.loops, hC, hR⟩
  have hreg : RegInv P R S.H { w with drawn := w.drawn + 1 } (H ops.size).next R S.H.get { w with drawn := w.drawn + 1 } :=
    ⟨RLe.refl R, fun _ _ h => .inl h, Nat.le_refl _, fun _ _ _ => rfl, fun i o b d e h1 h2 h3 => .inl ⟨i, o, d, e, h1, h2, h3⟩, fun _ _ h _ => h, rfl, rfl, rfl, hd0.obj, hd0.inj, hin.loops⟩
  have e0 : (fun i => (Array.replicate ops.size false).getD i true) = fun i => decide (ops.size ≤ i) := funext fun i => by
    rw [Array.getD_eq_getD_getElem?, Array.getElem?_replicate]
    by_cases e : i < ops.size
    · simp [e]
    · simp [e]; omega
  have hlow : ∀ n, n ≤ ops.size → envD ops v S.E (fun i => decide (ops.size ≤ i)) n = S.E := by
    intro n
    induction n with
    | zero => exact fun _ => rfl
    | succ n ih =>
      intro hn
      simp only [envD]
      split
      · rw [if_neg (by simp; omega)]; exact ih (by omega)
      · exact ih (by omega)
  have hinv : DInv P ops S E H v R { w with drawn := w.drawn + 1 } a (fun i => decide (ops.size ≤ i)) R S.H.get a { w with drawn := w.drawn + 1 } := by
    refine ⟨by rw [hlow _ (Nat.le_refl _)]; exact hin.env, rfl, hreg, fun i j hj hd => by simp at hd; omega, fun p hp' hd => by simp at hd; omega, ?_, fun q hq j h1 hd hK => ?_, ?_⟩
    · intro q hq i o hi
      have hnM : ∀ p, 0 ≤ p → p < 0 + q → ¬ isM P ops E p := fun p _ h2 hM => by
        have := hq.below p (by omega) hM
        have := hq.le
        simp at *; omega
      have e : q = 0 + q := by omega
      rw [e] at hi
      rcases ht.down q (by have := hq.le; omega) hnM hi with h1 | ⟨m, h1, h2, h3, h4, _⟩
      · left; rw [ht.h0] at h1; exact h1
      · exact .inr ⟨m, by omega, by have := hq.le; simp; omega, h3, h4⟩
    · obtain ⟨_, ⟨hok', _⟩, _⟩ := hK
      have := (Array.getElem?_eq_some_iff.1 hok').1
      simp at hd; omega
    · intro j hj _ i h1 h2
      rw [hrst] at hfr
      refine hfr i ?_ ?_
      · have := ht.le hN (Nat.zero_le j) (Nat.le_of_lt hj)
        rw [ht.h0] at this; omega
      · have := ht.le hN (a := j + 1) (b := ops.size) hj (Nat.le_refl _)
        show i < (H ops.size).next
        omega
  have hcnt : ∀ n, cntF (fun i => decide (ops.size ≤ i)) n ≤ n := by
    intro n
    induction n with
    | zero => exact Nat.le_refl _
    | succ n ih => simp only [cntF]; split <;> omega
  let F : Fence := { Fence.wide with round := b.roundOf }
  have hwp := draw_any (F := F) (fun _ => trivial) rfl (fun f av w R hc => callsIn_wide.2 hc) (fun l f tmps as_ body w R hc => hc) hp ops.size (Array.replicate ops.size false) a { w with drawn := w.drawn + 1 }
    (by simp) (by rw [e0]; exact hcnt _) ⟨R, S.H.get, by rw [e0]; exact hinv⟩ (fun hq => by
      have := ht.last hq
      rw [Array.getD_eq_getD_getElem?, Array.getElem?_replicate]
      rw [if_pos (by omega)]; rfl)
  have hcode := wpIn_region_any (F := F) (n := 0) (id := id) (progOk_mixed hP) hwp
  obtain ⟨e, a', w', hq, harr⟩ := hcode b k (csOf cs x S.pan) rfl trivial (room_wide _)
  cases e with
  | normal =>
    obtain ⟨hpan, R', hg, hd, hl, he, hdf⟩ := hq
    right
    have hr : r = .ret r.st := by rw [ht.fin, hpan]; rfl
    refine ⟨R', w', a', hr, ?_, ?_, ?_, ?_, ?_, ?_, StepsIn.steps harr⟩
    · rw [hrst]; exact hg0.trans hg
    · rw [hrst]; exact hl
    · rw [hrst]
      have hgg := hg0.trans hg
      exact ⟨hin.fn, he, by rw [hdf]; exact hin.dfs.mono hgg.ext, hd, hin.rnd.mono hgg.ext, hin.pan.mono hgg.ext, hin.glob.mono hgg.ext, hl.loops hin.loops⟩
    · rw [hrst]
    · rw [hrst]
    · rw [hrst]
  | panic ch =>
    obtain ⟨hpan, R', y, rfl, hy, hg, hd, hl, he, hdf⟩ := hq
    left
    have hr : r = .panic (v (ops.size - 1)) r.st := by rw [ht.fin, hpan]; rfl
    have hgg := hg0.trans hg
    obtain ⟨todo, hs⟩ := harr
    refine ⟨_, hr, R', w', a', ?_, ?_, ?_, ?_, ?_, ?_, ?_, ?_, ?_⟩
    · rw [hrst]; exact hgg
    · rw [hrst]; exact hl
    · rw [hrst]; exact hd
    · rw [hrst]; exact he
    · rw [hrst, hdf]; exact hin.dfs.mono hgg.ext
    · rw [hrst]
    · rw [hrst]
    · rw [hrst]
    · rw [hr]
      refine ⟨y, todo, hy, ?_⟩
      have : (r.st).pan = S.pan := by rw [hrst]
      rw [this]
      exact StepsIn.steps hs
  | exit id => exact hq.elim
  | goto l => exact hq.elim
  | ret => exact hq.elim
  | outgrown => exact hq.elim

/-- The evaluator is sound. -/
theorem call_sound (hP : progOk P = true) {n f : Nat} {args : List LV} {h h' : LH} {o : LOut} (hrun : run P n (.call f args h) = some (.out o h')) {R : Ren} {w : World} {av : Array Value}
    (ha : DVs R args av.toList) (hd : Den R h w) (hg : GlobR P R) (hl : LoopsOk P h) (hf : Fresh R h.next h'.next) : Calls P f av w (OutPost P R h w o h') :=
  (run_ok hP (fun rec hC hR hN => draw_ok hP hC hR hN) n).2.1 _ _ _ _ _ hrun R w av ha hd hg hl hf

end
end Go.Lv
