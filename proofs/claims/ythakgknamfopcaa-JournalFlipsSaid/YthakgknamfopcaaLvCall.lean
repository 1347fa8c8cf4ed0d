/- Lv: calls, rounds, deferred calls: the machine goes as the evaluator does. -/
import Derived.Test.YthakgknamfopcaaLvFrame
namespace Go.Lv
open Go
set_option linter.unusedVariables false
set_option linter.unusedSimpArgs false

section
variable {P : Program} {rec : Task → Option Res}

theorem progOk_code (hP : progOk P = true) {f : Nat} {fn : Func} {c : Code} (hf : P.funcs[f]? = some fn) (hb : fn.body = some c) : codeOk P c = true := by
  simp only [progOk, Bool.and_eq_true, List.all_eq_true] at hP
  have hm : fn ∈ P.funcs.toList := by
    have := Array.getElem?_eq_some_iff.1 hf
    obtain ⟨h1, h2⟩ := this
    rw [← h2]; exact Array.getElem_mem_toList h1
  have := hP.2 fn hm
  rw [hb] at this
  exact this
theorem progOk_mixed (hP : progOk P = true) : P.follows .mixedOrders = true := by
  simp only [progOk, Bool.and_eq_true] at hP
  exact hP.1

theorem putAll_spec : ∀ (vs : List LV) (E : Env) (i : Nat), (Env.putAll E i vs).n = E.n ∧ (Env.putAll E i vs).g = E.g ∧
    ∀ k v, (Env.putAll E i vs).get k = some v → (i ≤ k ∧ vs[k - i]? = some v ∧ k < E.n) ∨ E.get k = some v
  | [], E, i => ⟨rfl, rfl, fun k v h => .inr h⟩
  | x :: vs, E, i => by
    obtain ⟨h1, h2, h3⟩ := putAll_spec vs (E.put i x) (i + 1)
    refine ⟨by simpa [Env.putAll] using h1, by simpa [Env.putAll] using h2, fun k v h => ?_⟩
    simp only [Env.putAll] at h
    rcases h3 k v h with ⟨h4, h5, h6⟩ | h4
    · refine .inl ⟨by omega, ?_, by simpa using h6⟩
      have : k - i = (k - (i + 1)) + 1 := by omega
      rw [this]; simpa using h5
    · rw [Env.get_put] at h4
      split at h4
      · rename_i hc
        cases h4
        exact .inl ⟨by omega, by simp [hc.1], by omega⟩
      · exact .inr h4

theorem start_sound {R : Ren} {n : Nat} {args : List LV} {av : Array Value} (ha : DVs R args av.toList) (hg : GlobR P R) :
    EnvR R (Env.start P n args) (av ++ Array.replicate (n - av.size) undef) := by
  have hl : av.size = args.length := by simpa using DVs_length ha
  obtain ⟨h1, h2, h3⟩ := putAll_spec args { n := args.length + (n - args.length), g := P.globals.size, t := .leaf } 0
  refine ⟨by simp [Env.start, h1, hl], fun k v hk => ?_, fun k hk => hg k (by simpa [Env.start, h2] using hk)⟩
  rcases h3 k v hk with ⟨_, h5, _⟩ | h4
  · obtain ⟨x, hx, hd⟩ := DVs_get ha k v (by simpa using h5)
    have hx' : av[k]? = some x := by simpa using hx
    refine ⟨x, ?_, hd⟩
    rw [Array.getElem?_append_left (Array.getElem?_eq_some_iff.1 hx').1]
    exact hx'
  · simp [Env.get, Tr.get_leaf] at h4

def resF (tmps : Array Value) : ResultVar → Sem Value
  | .tmp t => pure (tmps.getD t undef)
  | .cell a t => do loadVar t (← asAddr (tmps.getD a undef))
theorem results_eq (fn : Func) (tmps : Array Value) : Go.results fn tmps = (do let vs ← fn.results.mapM (resF tmps); pure (if h : vs.size = 1 then vs[0] else .tuple vs)) := rfl

theorem results_sound {R : Ren} {H : LH} {w : World} {E : Env} {tmps : Array Value} (he : EnvR R E tmps) (hd : Den R H w) {fn : Func} {vs : List LV}
    (h : results P H E fn.results.toList = some vs) : ∃ v, (Go.results fn tmps).run P w = .ok v w ∧ DV R (oneOr vs) v := by
  have key : ∀ (l : List ResultVar) (vs : List LV), results P H E l = some vs → ∃ us : List Value, (l.mapM (resF tmps)).run P w = .ok us w ∧ DVs R vs us := by
    intro l
    induction l with
    | nil => intro vs h; simp [results] at h; subst h; exact ⟨[], by simp, DVs_nil⟩
    | cons r rs ih =>
      intro vs h
      simp only [results] at h
      split at h
      · rename_i v vs' h1 h2
        cases h
        obtain ⟨us, hu, hdu⟩ := ih _ h2
        cases r with
        | tmp t =>
          simp only at h1
          obtain ⟨y, hy, hdv⟩ := he.slot t v h1
          have hg : tmps.getD t undef = y := by simp [Array.getD_eq_getD_getElem?, hy]
          exact ⟨y :: us, by simp [List.mapM_cons, resF, hu, hg, Result.andThen], DVs_cons hdv hdu⟩
        | cell a t =>
          simp only at h1
          obtain ⟨z, hz, hl⟩ := Option.bind_eq_some_iff.1 h1
          obtain ⟨y, hy, hdv⟩ := he.slot a z hz
          have hg : tmps.getD a undef = y := by simp [Array.getD_eq_getD_getElem?, hy]
          obtain ⟨ad, u, rfl, hrun, hdu'⟩ := rn_loadVar hd hl hdv
          exact ⟨u :: us, by simp [List.mapM_cons, resF, hu, hg, hrun, asAddr, Result.andThen], DVs_cons hdu' hdu⟩
      · cases h
  obtain ⟨us, hu, hdu⟩ := key _ _ h
  have hm : (fn.results.mapM (resF tmps)).run P w = .ok us.toArray w := by
    rw [Array.mapM_eq_mapM_toList]
    simp [hu]
  refine ⟨if h : us.toArray.size = 1 then us.toArray[0] else .tuple us.toArray, ?_, ?_⟩
  · rw [results_eq, Sem.run_bind, hm]
    simp [Result.andThen]
  · have hlen := DVs_length hdu
    match vs, us, hdu, hlen with
    | [v], [u], hdu, _ => simp only [DVs] at hdu; obtain ⟨_, _, hl, h1, rfl⟩ := hdu; cases hl; exact h1
    | [], [], hdu, _ => simp only [oneOr, DV]; exact ⟨_, rfl, hdu⟩
    | _ :: _ :: _, u :: u' :: us', hdu, _ => simp only [oneOr, DV]; exact ⟨(u :: u' :: us').toArray, by simp, by simpa using hdu⟩
    | [_], [], _, hlen => simp at hlen
    | [_], _ :: _ :: _, _, hlen => simp at hlen
    | [], _ :: _, _, hlen => simp at hlen
    | _ :: _ :: _, [], _, hlen => simp at hlen
    | _ :: _ :: _, [_], _, hlen => simp at hlen

def modeOf (y : Value) : Option (LV × Bool) → FrameMode
  | none => .returning
  | some (_, r) => .panicking [{ v := y, recovered := r }]

def DefsOk (P : Program) (rec : Task → Option Res) : Prop :=
  ∀ S p o H', rec (.defs S p) = some (.out o H') → ∀ (fr : Frame) (cs : List Frame) (w : World) (R : Ren) (y : Value), fr.mode = modeOf y p → EnvR R S.E fr.tmps → DefsR R S.D fr.defers →
    fr.fn = S.fn → fr.kind = .normal → Den R S.H w → GlobR P R → LoopsOk P S.H → (∀ v r, p = some (v, r) → DV R v y) → (∃ fn, P.funcs[S.fn]? = some fn) → Fresh R S.H.next H'.next →
    ∃ e w' fr', OutPost P R S.H w o H' e w' ∧ Comes P (lone fr cs w) (lone fr' cs w') e ∧ fr'.fn = fr.fn ∧ fr'.leaving P w' e

theorem call_ok (hP : progOk P = true) (hF : FrameOk P rec) (hDf : DefsOk P rec) (hN : ∀ t r, rec t = some r → t.next ≤ r.next) : CallOk P (runStep P rec) := by
  intro f args H o H' h R w av ha hd hg hlo hfr cs
  simp only [runStep] at h
  split at h
  · rename_i fn hf
    split at h
    · rename_i c hb
      let b : Frame := { (default : Frame) with fn := f, kind := .normal, roundOf := none }
      let a : Act := { tmps := av ++ Array.replicate (fn.ntmps - av.size) undef, defers := [] }
      have henter : Frame.enter P f av .normal = b.atR a [.code c] := by simp [Frame.enter, Frame.atR, hf, hb, b, a]
      rw [henter]
      have hin : FIn P b a cs undef w R { fn := f, E := Env.start P fn.ntmps args, H, D := [], rnd := none, pan := none } :=
        ⟨rfl, start_sound ha hg, rfl, hd, rfl, fun fr hk => by
          have hk' : fr.kind = .normal := hk
          cases cs <;> simp [tryRecover, hk'], hg, hlo⟩
      have hk : KR R [.code c] [.code c] := KR.cons rfl (by simp [KR])
      have hko : KOk P [.code c] := KOk.cons (progOk_code hP hf hb) KOk.nil
      split at h
      · rename_i S hfr'
        have hle := hN _ _ h
        obtain ⟨R', w', a', hg', hl', hd', he', hdf', hfn', hrnd', hpan', todo, hs⟩ := hF _ _ _ hfr' b a _ cs undef w R hk hko hin (hfr.mono (Nat.le_refl _) hle)
        simp only [FR.st] at hg' hl' hd' he' hdf' hfn' hrnd' hpan'
        have hpn : S.pan = none := by simpa using hpan'
        rw [hpn] at hs
        obtain ⟨e, w'', fr', hpost, hc, hfn2, hlv⟩ := hDf _ _ _ _ h { b.atR a' todo with mode := .returning } cs w' R' undef rfl he' hdf' hfn'.symm rfl hd' (hg.mono hg'.ext) (hl'.loops hlo)
          (fun _ _ q => by cases q) ⟨fn, by rw [hfn']; exact hf⟩ (hfr.after hg')
        exact ⟨e, w'', fr', hpost.head hg' hl', Comes.of_steps hs hc, hfn2, hlv⟩
      · rename_i v S hfr'
        have hle := hN _ _ h
        obtain ⟨R', w', a', hg', hl', hd', he', hdf', hfn', hrnd', hpan', y, todo, hy, hs⟩ := hF _ _ _ hfr' b a _ cs undef w R hk hko hin (hfr.mono (Nat.le_refl _) hle)
        simp only [FR.st] at hg' hl' hd' he' hdf' hfn' hrnd' hpan'
        have hpn : S.pan = none := by simpa using hpan'
        rw [hpn] at hs
        obtain ⟨e, w'', fr', hpost, hc, hfn2, hlv⟩ := hDf _ _ _ _ h { b.atR a' todo with mode := .panicking [{ v := y, recovered := false }] } cs w' R' y rfl he' hdf' hfn'.symm rfl hd' (hg.mono hg'.ext) (hl'.loops hlo)
          (fun _ _ q => by cases q; exact hy) ⟨fn, by rw [hfn']; exact hf⟩ (hfr.after hg')
        exact ⟨e, w'', fr', hpost.head hg' hl', Comes.of_steps hs hc, hfn2, hlv⟩
      · cases h
    · cases h
  · cases h

theorem round_env {R : Ren} : ∀ {ps : List Nat} {args : List LV} {av : List Value} {E : Env} {tmps : Array Value}, EnvR R E tmps → DVs R args av →
    EnvR R ((ps.zip args).foldl (fun E (p : Nat × LV) => E.put p.1 p.2) E) ((ps.zip av).foldl (fun (tmps : Array Value) (p : Nat × Value) => tmps.setIfInBounds p.1 p.2) tmps)
  | [], _, _, _, _, h, _ => by simpa using h
  | p :: ps, [], _, _, _, h, ha => by simp only [DVs] at ha; subst ha; simpa using h
  | p :: ps, x :: args, _, _, _, h, ha => by
    simp only [DVs] at ha
    obtain ⟨v, vs, rfl, h1, h2⟩ := ha
    simpa using round_env (ps := ps) (h.put p h1) h2

theorem round_ok (hF : FrameOk P rec) : RoundOk P (runStep P rec) := by
  intro l args H o H' h R w av lb d e hRl ha hd hg hlo hfr
  simp only [runStep] at h
  split at h
  · rename_i st0 pend0 fn env ps aa bb dn0 hget
    split at h
    · cases h
    · rename_i hlen
      have hgood := hlo l _ hget
      simp only [LO.good, Bool.and_eq_true] at hgood
      obtain ⟨lb', d', e', hRl', hO⟩ := hd.obj l _ hget
      rw [hRl] at hRl'
      cases hRl'
      obtain ⟨tmps, db, dd, de, hw, henv, hdn⟩ := hO
      have hla : av.size = args.length := by simpa using DVs_length ha
      have hy := run_yield (P := P) (args := av) hw (by simp [hla]; simpa using (Decidable.of_not_not hlen).symm)
      refine ⟨_, _, _, _, hy, trivial, fun c cs _ => ?_⟩
      simp only
      have htm : (ps.toArray.zip av).foldl (fun (tmps : Array Value) (p : Nat × Value) => tmps.setIfInBounds p.1 p.2) tmps =
          (ps.zip av.toList).foldl (fun (tmps : Array Value) (p : Nat × Value) => tmps.setIfInBounds p.1 p.2) tmps := by
        rw [← Array.foldl_toList]; simp
      let b : Frame := { (default : Frame) with fn := fn, kind := .normal, roundOf := some lb }
      let a : Act := { tmps := (ps.toArray.zip av).foldl (fun (tmps : Array Value) (p : Nat × Value) => tmps.setIfInBounds p.1 p.2) tmps, defers := [] }
      have henter : Frame.round lb fn ((ps.toArray.zip av).foldl (fun (tmps : Array Value) (p : Nat × Value) => tmps.setIfInBounds p.1 p.2) tmps) aa bb .normal = b.atR a [.code aa, .beginRound, .code bb] := by
        simp [Frame.round, Frame.atR, b, a]
      have hin : FIn P b a (c :: cs) undef w R { fn, E := (ps.zip args).foldl (fun E (p : Nat × LV) => E.put p.1 p.2) env, H, D := [], rnd := some l, pan := none } :=
        ⟨rfl, by show EnvR R _ a.tmps; simp only [a]; rw [htm]; exact round_env henv ha, rfl, hd, ⟨lb, d, e, hRl, rfl⟩, fun fr hk => by
          have hk' : fr.kind = .normal := hk
          simp [tryRecover, hk'], hg, hlo⟩
      have hk : KR R [.code aa, .beginRound, .code bb] [.code aa, .beginRound, .code bb] := KR.cons rfl (KR.cons rfl (KR.cons rfl (by simp [KR])))
      have hko : KOk P [.code aa, .beginRound, .code bb] := KOk.cons hgood.1.1 (KOk.cons trivial (KOk.cons hgood.1.2 KOk.nil))
      split at h
      · rename_i j S hfr'
        split at h
        · rename_i st1 pend1 fn1 env1 ps1 aa1 bb1 dn1 hD hget1
          simp only [Option.some.injEq, Res.out.injEq] at h
          obtain ⟨rfl, rfl⟩ := h
          obtain ⟨R', w', a', hg', hl', hd', he', hdf', hfn', hrnd', hpan', hlast⟩ := hF _ _ _ hfr' b a _ (c :: cs) undef w R hk hko hin hfr
          simp only [FR.st] at hg' hl' hd' he' hdf' hfn' hrnd' hpan'
          have hpn : S.pan = none := by simpa using hpan'
          obtain ⟨lb2, d2, e2, hRl2, hO2⟩ := hd'.obj l _ hget1
          rw [hg'.ext _ _ hRl] at hRl2
          cases hRl2
          obtain ⟨tmps1, db1, dd1, de1, hw1, henv1, hdn1⟩ := hO2
          have hlt : lb < w'.heap.size := (Array.getElem?_eq_some_iff.1 hw1).1
          have hend := run_endRound (P := P) j hw1
          have hjok : codeOk P (j.getD .skip) = true := by
            unfold Last at hlast
            split at hlast
            · rename_i q; cases q
            · rename_i q; cases q
            · rename_i q; cases q; rfl
            · rename_i q; cases q; rfl
            · rename_i q; cases q; rfl
            · exact hlast.elim
          obtain ⟨hgp, hdp⟩ := goes_put (w' := w'.putObj lb (.loop { state := if j.isNone then .ready else .done, pending := j, fn := fn1, tmps := tmps1, params := ps1.toArray, assign := aa1, body := bb1, defers := db1 }))
            hd' hget1 rfl (hg'.ext _ _ hRl) ⟨World.putObj_size, fun k hk => World.putObj_heap_other hk, rfl, rfl, rfl⟩ (o' := .loop (if j.isNone then .ready else .done) j fn1 env1 ps1 aa1 bb1 dn1) rfl
            ⟨tmps1, db1, dd1, de1, by rw [World.putObj_heap_same hlt], henv1, hdn1⟩
          have hlg : LGo P S.H (S.H.put l (.loop (if j.isNone then .ready else .done) j fn1 env1 ps1 aa1 bb1 dn1)) := LGo.put P S.H hget1 rfl (fun hgd => by
            simp only [LO.good, Bool.and_eq_true] at hgd ⊢
            refine ⟨hgd.1, ?_⟩
            cases j with
            | none => rfl
            | some q => exact hjok)
          refine ⟨.returned (.bool j.isNone), _, ⟨R', hg'.trans hgp, hl'.trans hlg, hdp, by simp [EndR, DV]⟩, comesIn_wide.2 ?_⟩
          rw [henter]
          unfold Last at hlast
          split at hlast
          · rename_i q; cases q
          · rename_i q; cases q
          · rename_i q; cases q; rw [hpn] at hlast; exact Steps.trans hlast (.one (stepR_round_end rfl rfl hend))
          · rename_i q; cases q; obtain ⟨todo, hlast⟩ := hlast; rw [hpn] at hlast; exact Steps.trans hlast (.one (stepR_round_ret rfl rfl hend))
          · rename_i q; cases q; obtain ⟨todo, hx, hlast⟩ := hlast; rw [hpn] at hlast; exact Steps.trans hlast (.one (stepR_round_exit rfl rfl hx hend))
          · exact hlast.elim
        · cases h
      · rename_i v S hfr'
        split at h
        · rename_i fn1 hD hfn1
          simp only [Option.some.injEq, Res.out.injEq] at h
          obtain ⟨rfl, rfl⟩ := h
          obtain ⟨R', w', a', hg', hl', hd', he', hdf', hfn', hrnd', hpan', y, todo, hy', hs⟩ := hF _ _ _ hfr' b a _ (c :: cs) undef w R hk hko hin hfr
          simp only [FR.st] at hg' hl' hd' he' hdf' hfn' hrnd' hpan'
          have hpn : S.pan = none := by simpa using hpan'
          rw [hpn] at hs
          rw [hD] at hdf'
          simp only [DefsR] at hdf'
          refine ⟨.panicked [{ v := y, recovered := false }], w', ⟨R', hg', hl', hd', y, rfl, hy'⟩, comesIn_wide.2 ?_⟩
          rw [henter]
          refine Steps.trans hs (.one (step_leave_panicked ⟨rfl, hdf', fn1, ?_⟩))
          show P.funcs[b.fn]? = some fn1
          rw [← hfn1, hfn']
        · cases h
      · cases h
  · cases h

theorem defs_ok (hP : progOk P = true) (hF : FrameOk P rec) (hDf : DefsOk P rec) (hN : ∀ t r, rec t = some r → t.next ≤ r.next) : DefsOk P (runStep P rec) := by
  intro S p o H' h fr cs w R y hm he hdf hfn hkd hd hg hlo hpv hfun hfr
  simp only [runStep] at h
  obtain ⟨fn0, hfun⟩ := hfun
  split at h
  · rename_i hD
    rw [hD] at hdf
    simp only [DefsR] at hdf
    split at h
    · rename_i v
      cases h
      refine ⟨.panicked [{ v := y, recovered := false }], w, fr, ⟨R, Goes.refl _ _ _, LGo.refl _ _, hd, y, rfl, hpv _ _ rfl⟩, Steps.refl _ _, rfl, hm, hdf, fn0, by rw [hfn]; exact hfun⟩
    · cases h
    · split at h
      · rename_i fn hf
        obtain ⟨vs, hvs, heq⟩ := Option.map_eq_some_iff.1 h
        cases heq
        obtain ⟨v, hrun, hv⟩ := results_sound he hd hvs
        exact ⟨.returned v, w, fr, ⟨R, Goes.refl _ _ _, LGo.refl _ _, hd, hv⟩, Steps.refl _ _, rfl, hm, hdf, hkd, fn, by rw [hfn]; exact hf, hrun⟩
      · cases h
  · rename_i dd ds hD
    rw [hD] at hdf
    simp only [DefsR] at hdf
    obtain ⟨xd, xs, hxs, hxd, hds⟩ := hdf
    have hmr : fr.mode ≠ .run := by rw [hm]; unfold modeOf; split <;> simp
    split at h
    · rename_i i hi
      split at h
      · rename_i hget
        simp only [DefR, hi] at hxd
        obtain ⟨bb, d1, e1, hRi, rfl⟩ := hxd
        obtain ⟨bb', d', e', hRi', hO⟩ := hd.obj i _ hget
        rw [hRi] at hRi'
        cases hRi'
        have hw : w.heap[bb]? = some (.deferred (some [])) := hO
        have hlt : bb < w.heap.size := (Array.getElem?_eq_some_iff.1 hw).1
        have hs := step_collected (cs := cs) hmr hxs rfl (run_takeDeferred (P := P) hw)
        obtain ⟨hgp, hdp⟩ := goes_put (w' := w.putObj bb (.deferred none)) hd hget rfl hRi ⟨World.putObj_size, fun k hk => World.putObj_heap_other hk, rfl, rfl, rfl⟩ (o' := .defd true) rfl
          (by show _ = _; rw [World.putObj_heap_same hlt]; rfl)
        have hlg : LGo P S.H (S.H.put i (.defd true)) := LGo.put P S.H hget rfl (fun _ => rfl)
        obtain ⟨e, w'', fr', hpost, hc, hfn2, hlv⟩ := hDf _ _ _ _ h { fr with defers := [] ++ xs } cs _ R y hm he hds hfn hkd hdp hg (hlg.loops hlo) hpv ⟨fn0, hfun⟩ hfr
        exact ⟨e, w'', fr', hpost.head hgp hlg, Comes.of_steps (.one hs) hc, hfn2, hlv⟩
      · cases h
    · rename_i hi
      simp only [DefR, hi] at hxd
      obtain ⟨cap, htar, hcap, hargs⟩ := hxd
      split at h
      · rename_i g hg0
        split at h
        · cases h
        · rename_i hent
          have hent : enterable P g = true := Decidable.of_not_not hent
          split at h
          · rename_i fn hf
            split at h
            · rename_i c hb
              have hal : DVs R (dd.args ++ dd.captured) (xd.args ++ cap).toList := by simpa using DVs_append hargs hcap
              have htar' : xd.target = .fn (.func g) cap := by rw [htar, hg0]
              have hinv : (invoke xd.target xd.args).run P w = .ok (.enter g (xd.args ++ cap)) w := by
                rw [htar']; simp only [invoke]; exact rn_callFunc hent _
              have hs := step_defer (cs := cs) hmr hxs htar' hinv
              let b : Frame := { (default : Frame) with fn := g, kind := .deferred, roundOf := none }
              let a : Act := { tmps := (xd.args ++ cap) ++ Array.replicate (fn.ntmps - (xd.args ++ cap).size) undef, defers := [] }
              let c0 : Frame := { fr with defers := xs }
              have henter : Frame.enter P g (xd.args ++ cap) .deferred = b.atR a [.code c] := by simp [Frame.enter, Frame.atR, hf, hb, b, a]
              have hcs : csOf (c0 :: cs) y p = c0 :: cs := by
                cases p with
                | none => rfl
                | some q => obtain ⟨v, r⟩ := q; simp only [csOf, modeOf] at hm ⊢; simp only [c0]; rw [← hm]
              have hin : FIn P b a (c0 :: cs) y w R { fn := g, E := Env.start P fn.ntmps (dd.args ++ dd.captured), H := S.H, D := [], rnd := none, pan := p } :=
                ⟨rfl, start_sound hal hg, rfl, hd, rfl, by
                  cases p with
                  | none =>
                    intro fr2 hk2
                    rw [tryRecover_deferred hk2]
                    have : c0.mode = .returning := hm
                    simp [recoverD, this]
                  | some q => exact ⟨rfl, by simp, hpv _ _ rfl⟩, hg, hlo⟩
              have hk : KR R [.code c] [.code c] := KR.cons rfl (by simp [KR])
              have hko : KOk P [.code c] := KOk.cons (progOk_code hP hf hb) KOk.nil
              rw [henter] at hs
              split at h
              · rename_i S' hfr'
                split at h
                · rename_i hD'
                  split at h
                  · rename_i vs hres
                    have hle := hN _ _ h
                    obtain ⟨R', w', a', hg', hl', hd', he', hdf', hfn', hrnd', hpan', todo, hs2⟩ := hF _ _ _ hfr' b a _ (c0 :: cs) y w R hk hko hin (hfr.mono (Nat.le_refl _) hle)
                    simp only [FR.st] at hg' hl' hd' he' hdf' hfn' hrnd' hpan' hs2
                    rw [hcs] at hs2
                    rw [hD'] at hdf'
                    simp only [DefsR] at hdf'
                    obtain ⟨v, hrun, hv⟩ := results_sound he' hd' hres
                    have hgo : ∀ c1 : Frame, step P (lone { b.atR a' todo with mode := .returning } (c1 :: cs) w') = .next (lone { c1 with mode := settle c1.mode } cs w') := fun c1 =>
                      step_going_returned rfl ⟨rfl, hdf', fn, hf, hrun⟩
                    have fin : ∀ (q : Option (LV × Bool)) (c1 : Frame), c1.tmps = fr.tmps → c1.defers = xs → c1.fn = fr.fn → c1.kind = fr.kind → settle c1.mode = modeOf y q →
                        csOf (c0 :: cs) y S'.pan = c1 :: cs → rec (.defs { S with D := ds, H := S'.H } q) = some (.out o H') → (∀ v r, q = some (v, r) → DV R' v y) →
                        ∃ e w' fr', OutPost P R S.H w o H' e w' ∧ Comes P (lone fr cs w) (lone fr' cs w') e ∧ fr'.fn = fr.fn ∧ fr'.leaving P w' e := by
                      intro q c1 e1 e2 e3 e4 e5 e6 hq hqv
                      rw [e6] at hs2
                      obtain ⟨e, w'', fr', hpost, hc, hfn2, hlv⟩ := hDf _ _ _ _ hq { c1 with mode := settle c1.mode } cs w' R' y e5 (by show EnvR R' S.E c1.tmps; rw [e1]; exact he.mono hg'.ext)
                        (by show DefsR R' ds c1.defers; rw [e2]; exact hds.mono hg'.ext) (e3.trans hfn) (e4.trans hkd) hd' (hg.mono hg'.ext) (hl'.loops hlo) hqv ⟨fn0, hfun⟩ (hfr.after hg')
                      exact ⟨e, w'', fr', hpost.head hg' hl', Comes.of_steps (.head hs (Steps.trans hs2 (.one (hgo c1)))) hc, hfn2.trans e3, hlv⟩
                    cases hpn : S'.pan with
                    | none =>
                      rw [hpn] at h hpan'
                      have hp : p = none := by simpa using hpan'.symm
                      subst hp
                      refine fin none c0 rfl rfl rfl rfl ?_ (by rw [hpn]; rfl) h (fun _ _ q => by cases q)
                      show settle fr.mode = _
                      rw [hm]; rfl
                    | some q =>
                      obtain ⟨v1, r1⟩ := q
                      rw [hpn] at h hpan'
                      have hdv : DV R' v1 y := by
                        cases p with
                        | none => simp at hpan'
                        | some p0 => obtain ⟨v0, r0⟩ := p0; simp at hpan'; subst hpan'; exact DV_mono hg'.ext _ _ (hpv _ _ rfl)
                      cases r1 with
                      | true =>
                        exact fin none { c0 with mode := .panicking [{ v := y, recovered := true }] } rfl rfl rfl rfl rfl (by rw [hpn]; rfl) h (fun _ _ q => by cases q)
                      | false =>
                        exact fin (some (v1, false)) { c0 with mode := .panicking [{ v := y, recovered := false }] } rfl rfl rfl rfl rfl (by rw [hpn]; rfl) h (fun _ _ q => by cases q; exact hdv)
                  · cases h
                · cases h
              · rename_i v S' hfr'
                split at h
                · rename_i hD' hpn
                  have hle := hN _ _ h
                  obtain ⟨R', w', a', hg', hl', hd', he', hdf', hfn', hrnd', hpan', y', todo, hy', hs2⟩ := hF _ _ _ hfr' b a _ (c0 :: cs) y w R hk hko hin (hfr.mono (Nat.le_refl _) hle)
                  simp only [FR.st] at hg' hl' hd' he' hdf' hfn' hrnd' hpan' hs2
                  rw [hcs, hpn] at hs2
                  rw [hD'] at hdf'
                  simp only [DefsR] at hdf'
                  rw [hpn] at hpan'
                  have hp : p = none := by simpa using hpan'.symm
                  subst hp
                  have hgo : step P (lone { b.atR a' todo with mode := .panicking [{ v := y', recovered := false }] } (c0 :: cs) w') = .next (lone { c0 with mode := raised c0.mode [{ v := y', recovered := false }] } cs w') :=
                    step_going_panicked ⟨rfl, hdf', fn, hf⟩
                  have hmode : raised c0.mode [{ v := y', recovered := false }] = modeOf y' (some (v, false)) := by
                    show raised fr.mode _ = _
                    rw [hm]; rfl
                  obtain ⟨e, w'', fr', hpost, hc, hfn2, hlv⟩ := hDf _ _ _ _ h { c0 with mode := raised c0.mode [{ v := y', recovered := false }] } cs w' R' y' hmode (he.mono hg'.ext)
                    (hds.mono hg'.ext) hfn hkd hd' (hg.mono hg'.ext) (hl'.loops hlo) (fun _ _ q => by cases q; exact hy') ⟨fn0, hfun⟩ (hfr.after hg')
                  exact ⟨e, w'', fr', hpost.head hg' hl', Comes.of_steps (.head hs (Steps.trans hs2 (.one hgo))) hc, hfn2, hlv⟩
                · cases h
              · cases h
            · cases h
          · cases h
      · cases h

theorem run_ok (hP : progOk P = true) (hDraw : ∀ rec : Task → Option Res, CallOk P rec → RoundOk P rec → (∀ t r, rec t = some r → t.next ≤ r.next) → DrawOk P rec) : ∀ n, FrameOk P (run P n) ∧ CallOk P (run P n) ∧ RoundOk P (run P n) ∧ DefsOk P (run P n)
  | 0 => ⟨fun _ _ _ h => by simp [run] at h, fun _ _ _ _ _ h => by simp [run] at h, fun _ _ _ _ _ h => by simp [run] at h, fun _ _ _ _ h => by simp [run] at h⟩
  | n + 1 =>
    have ⟨hF, hC, hR, hD⟩ := run_ok hP hDraw n
    have hN : ∀ t r, run P n t = some r → t.next ≤ r.next := fun t r h => run_next h
    ⟨frame_ok (hDraw _ hC hR hN) hC hR hF hN, call_ok hP hF hD hN, round_ok hF, defs_ok hP hF hD hN⟩

end
end Go.Lv
