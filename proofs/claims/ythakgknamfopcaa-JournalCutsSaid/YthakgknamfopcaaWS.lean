/- The statement JournalCuts, walked. -/
import Derived.Test.YthakgknamfopcaaJrG
namespace Go.Proofs.Ythakgknamfopcaa
open Go Go.Lv
set_option linter.unusedVariables false
set_option maxRecDepth 100000

/-! ### the records of a cut journal -/
theorem chain_at {bs : List UInt8} {r : Rec} : ∀ {at_ : Nat} {last : List UInt8} {rs : List Rec} {k : Nat}, Chain bs at_ last rs → rs[k]? = some r → nextR bs (finOf at_ (rs.take k)) (sumOf last (rs.take k)) = some r
  | _, _, [], k, _, h => by simp at h
  | _, _, q :: rs, 0, hc, h => by
    simp at h
    subst h
    exact hc.1
  | at_, last, q :: rs, k + 1, hc, h => by
    rw [List.take_succ_cons, finOf_cons, sumOf_cons]
    exact chain_at hc.2 (by simpa using h)
theorem recs_stop {j : Jr} (hg : j.Good) {bs : List UInt8} {n w : Nat} (hb : bs.take n = j.b.take n) (h1 : ∀ r ∈ j.rs.take w, r.fin ≤ n) (h2 : nextR bs (lastFin (j.rs.take w)) (lastSum (j.rs.take w)) = none) : recs bs = j.rs.take w :=
  recs_chain (chain_same hb (chain_take w hg.ch) h1) h2
theorem recs_cut {j : Jr} (hg : j.Good) {n w : Nat} (hw : w ≤ j.rs.length) (h1 : ∀ r ∈ j.rs.take w, r.fin ≤ n) (h2 : ∀ r, j.rs[w]? = some r → n < r.fin) : recs (j.b.take n) = j.rs.take w := by
  refine recs_stop hg (n := n) (by rw [List.take_take, Nat.min_self]) h1 ?_
  cases hr : nextR (j.b.take n) (lastFin (j.rs.take w)) (lastSum (j.rs.take w)) with
  | none => rfl
  | some q =>
    exfalso
    have hq := nextR_fin hr
    rw [List.length_take] at hq
    have hs := nextR_same (bs' := j.b) (m := n) hr (by omega) (by rw [List.take_take, Nat.min_self])
    cases hg' : j.rs[w]? with
    | none =>
      have : j.rs.take w = j.rs := List.take_of_length_le (List.getElem?_eq_none_iff.1 hg')
      rw [this, hg.fin, nextR_end (Nat.le_refl _)] at hs
      cases hs
    | some r =>
      have h3 := chain_at hg.ch hg'
      have h4 : some q = some r := hs.symm.trans h3
      cases h4
      have := h2 q hg'
      omega

theorem CmdsC.take {H : LH} : ∀ {cl : List LCmd} {ls : List LV} (k : Nat), CmdsC H cl ls → CmdsC H (cl.take k) (ls.take (k * 7))
  | [], ls, k, h => by
    have h : ls = [] := h
    subst h
    simp [CmdsC]
  | c :: cl, ls, 0, h => by simp [CmdsC]
  | c :: cl, ls, k + 1, ⟨cs, rest, e, h1, h2⟩ => by
    subst e
    refine ⟨cs, rest.take (k * 7), ?_, h1, h2.take k⟩
    have := cmd_len h1
    rw [List.take_append, List.take_of_length_le (by omega), show (k + 1) * 7 - cs.length = k * 7 by omega]
theorem CV.take {H : LH} {v : LV} {cl : List LCmd} {ls : List LV} (h : CV H v cl ls) {w : Nat} (hw : w ≤ cl.length) : ∃ v', sliceL Try.prog H 30 v none (some (.int .i64 (w : Int))) none = some v' ∧ CV H v' (cl.take w) (ls.take (w * 7)) := by
  obtain ⟨v', g1, g2, g3⟩ := SV.slice (P := Try.prog) (t := 30) (sz := 7) (by omega) h.1 (lo := none) (hi := some (.int .i64 (w : Int))) (l := 0) (r := w) rfl (natOf_cast (k := .i64)) (Nat.zero_le _) hw
  refine ⟨v', g1, ?_, h.2.take w⟩
  rw [Nat.sub_zero, Nat.zero_mul, List.drop_zero] at g2
  rw [List.length_take, Nat.min_eq_left hw]
  exact g2
theorem ends_get {cl : List LCmd} {k : Nat} (h : k < (jof cl).rs.length) : (ends cl)[k]? = some (.int .i64 ((jof cl).rs[k].fin : Int)) := by
  unfold ends
  rw [List.getElem?_map, List.getElem?_eq_getElem h]
  rfl
theorem lastFin_take {rs : List Rec} {w : Nat} (h : w < rs.length) : lastFin (rs.take (w + 1)) = rs[w].fin := by
  rw [List.take_succ_eq_append_getElem h, lastFin_snoc]
theorem mem_take_get {rs : List Rec} {w n : Nat} (h : ∀ k, (hk : k < rs.length) → k < w → rs[k].fin ≤ n) : ∀ r ∈ rs.take w, r.fin ≤ n := by
  intro r hr
  obtain ⟨k, hk, rfl⟩ := List.mem_take_iff_getElem.1 hr
  exact h k (by omega) (by omega)
/-- What is known of a journal's fins. -/
theorem fin_le {cl : List LCmd} (hok : ∀ c ∈ cl, c.Ok) {k : Nat} (h : k < (jof cl).rs.length) : (jof cl).rs[k].fin ≤ (jof cl).b.length := by
  have hg := jof_good cl hok
  have := (chain_mono hg.ch _ (List.getElem_mem h)).2
  have h2 : finOf 0 (jof cl).rs = (jof cl).b.length := hg.fin
  omega

theorem LK.lss_to {P : Program} [Known] {G : Nat} {g : Kno} {H : LH} {x y : Operand} {t t' : Nat} {k : IntKind} {a b : Int} {c : Bool} (hx : evk g G x = some (.int k a)) (hy : evk g G y = some (.int k b)) (e : decide (a < b) = c) : LK P G g H (.binOp .lss t x y t') (.val (.bool c) H) := e ▸ LK.lss hx hy
theorem LK.leq_to {P : Program} [Known] {G : Nat} {g : Kno} {H : LH} {x y : Operand} {t t' : Nat} {k : IntKind} {a b : Int} {c : Bool} (hx : evk g G x = some (.int k a)) (hy : evk g G y = some (.int k b)) (e : decide (a ≤ b) = c) : LK P G g H (.binOp .leq t x y t') (.val (.bool c) H) := e ▸ LK.leq hx hy
theorem LK.neq_to {P : Program} [Known] {G : Nat} {g : Kno} {H : LH} {x y : Operand} {t t' : Nat} {k : IntKind} {a b : Int} {c : Bool} (hx : evk g G x = some (.int k a)) (hy : evk g G y = some (.int k b)) (e : (a != b) = c) : LK P G g H (.binOp .neq t x y t') (.val (.bool c) H) := e ▸ LK.neq hx hy
theorem LK.eql_to {P : Program} [Known] {G : Nat} {g : Kno} {H : LH} {x y : Operand} {t t' : Nat} {k : IntKind} {a b : Int} {c : Bool} (hx : evk g G x = some (.int k a)) (hy : evk g G y = some (.int k b)) (e : (a == b) = c) : LK P G g H (.binOp .eql t x y t') (.val (.bool c) H) := e ▸ LK.eql hx hy
set_option maxHeartbeats 16000000 in
theorem cutsLaw (H : LH) (a : LV) (cl : List LCmd) (la : List LV) (ha : CV H a cl la) (hla : ∀ x ∈ la, ∀ i, x.bid? = some i → i < H.next) (hok : ∀ c ∈ cl, c.Ok) :
    CallP Try.prog 4 [a] H (fun o H' => o = .ret (.bool true)) := by
  refine en4 (by simp) ?_
  unfold c4
  refine WP.seq ?_
  refine WP.region rfl ?_
  refine WS.val rfl (LK.assign rfl) ?_
  refine WS.nil ?_
  refine WP.seq ?_
  refine WP.seq ?_
  refine WP.region rfl ?_
  refine WS.val rfl (LK.move rfl) ?_
  (refine WS.call rfl (LK.call rfl) (CallP.mono (few H a cl la ha 20 (by decide)) ?_); rintro _ Hf ⟨rfl, q, rfl, hq1⟩)
  refine WS.val rfl (LK.not rfl) ?_
  refine WS.nil ?_
  refine WP.sub (gs := [(13, _), (2, _), (0, _)]) ?_ ⟨rfl, rfl, rfl, trivial⟩
  refine WP.cond rfl (fun h13 => ?_) (fun h13 => ?_)
  · skip
    refine WP.seq ?_
    refine WP.region rfl ?_
    (refine WS.call rfl (LK.call rfl) (CallP.mono (worksK _) ?_); rintro _ Hc ⟨rfl, rfl⟩)
    refine WS.val rfl (LK.assign rfl) ?_
    refine WS.nil ?_
    refine WP.sub (gs := [(2, _), (0, _)]) ?_ ⟨rfl, rfl, trivial⟩
    exact WP.ret rfl (Fin.ret' rfl rfl rfl)
  · skip
    refine WP.skip ?_
    refine WP.seq ?_
    have hq : q = true := by simpa using h13
    obtain ⟨hl30, hsm⟩ := hq1 hq
    have hjl := jof_len cl hok
    have hgood := jof_good cl hok
    have hkl := kept_le cl
    refine WP.region rfl ?_
    refine WS.val rfl (LK.move rfl) ?_
    (refine WS.call rfl (LK.call rfl) (CallP.mono (journaled Hf a cl la ha hla hok (by omega)) ?_); rintro _ Hj ⟨vb, vk, ve, lk, rfl, S⟩)
    refine WS.val rfl (LK.move rfl) ?_
    refine WS.val rfl (LK.extract rfl rfl) ?_
    refine WS.val rfl (LK.extract rfl rfl) ?_
    refine WS.val rfl (LK.extract rfl rfl) ?_
    refine WS.val rfl (LK.assign rfl) ?_
    refine WS.val rfl (LK.assign rfl) ?_
    refine WS.val rfl (LK.assign rfl) ?_
    refine WS.nil ?_
    refine WP.sub (gs := [(5, _), (4, _), (3, _), (2, _)]) ?_ ⟨rfl, rfl, rfl, rfl, trivial⟩
    refine WP.seq ?_
    refine WP.seq ?_
    refine WP.region rfl ?_
    refine WS.val rfl (LK.move rfl) ?_
    first | refine WS.val rfl (SV.len S.b rfl) ?_ | refine WS.val rfl (LK.len rfl) ?_ | refine WS.val rfl (LK.len_str rfl) ?_ | refine WS.val rfl (LK.len_emp rfl) ?_
    refine WS.val rfl (LK.gtr rfl rfl) ?_
    refine WS.nil ?_
    refine WP.sub (gs := [(23, _), (5, _), (4, _), (3, _), (2, _)]) ?_ ⟨rfl, rfl, rfl, rfl, rfl, trivial⟩
    refine WP.cond rfl (fun h23 => ?_) (fun h23 => ?_)
    · skip
      refine WP.seq ?_
      refine WP.region rfl ?_
      (refine WS.call rfl (LK.call rfl) (CallP.mono (worksK _) ?_); rintro _ Hc ⟨rfl, rfl⟩)
      refine WS.val rfl (LK.assign rfl) ?_
      refine WS.nil ?_
      refine WP.sub (gs := [(2, _), (5, _), (4, _), (3, _)]) ?_ ⟨rfl, rfl, rfl, rfl, trivial⟩
      exact WP.ret rfl (Fin.ret' rfl rfl rfl)
    · skip
      refine WP.skip ?_
      refine WP.seq ?_
      refine WP.region rfl ?_
      refine WS.val rfl (LK.assign rfl) ?_
      refine WS.nil ?_
      refine WP.sub (gs := [(6, _), (5, _), (4, _), (3, _), (2, _)]) ?_ ⟨rfl, rfl, rfl, rfl, rfl, trivial⟩
      refine WP.seq ?_
      refine WP.seq ?_
      refine WP.region rfl ?_
      refine WS.val rfl (LK.assign rfl) ?_
      refine WS.nil ?_
      refine WP.block ?_
      refine WP.loop ?_
      have hb15 : (jof cl).b.length ≤ 1500 := by have := of_decide_eq_false h23; omega
      have hrl := jof_rs_len cl
      refine WP.sub (gs := [(3, vb), (4, vk), (5, ve), (6, .int .i64 ((0 : Nat) : Int)), (7, .int .i64 ((0 : Nat) : Int))]) ?_ ⟨rfl, rfl, rfl, rfl, rfl, trivial⟩
      refine WP.inv (fun m g H' => ∃ (n w : Nat), m = (jof cl).b.length + 1 - n ∧ n ≤ (jof cl).b.length + 1 ∧ w ≤ (jof cl).rs.length ∧ Ext Hj H' none' ∧ g = [(3, vb), (4, vk), (5, ve), (6, .int .i64 (w : Int)), (7, .int .i64 (n : Int))] ∧ ∀ k, (hk : k < (jof cl).rs.length) → k < w → (jof cl).rs[k].fin ≤ n) (n := (jof cl).b.length + 1) ⟨0, 0, rfl, Nat.zero_le _, Nat.zero_le _, Ext.refl _ _, rfl, fun k _ h => absurd h (Nat.not_lt_zero _)⟩ ?_
      rintro m g H' ⟨n, w, rfl, hn, hw, hE, rfl, hle⟩ ih
      have S2 := S.ext2 hE
      by_cases hlt : n ≤ (jof cl).b.length
      · skip
        refine WP.seq ?_
        refine WP.seq ?_
        refine WP.region rfl ?_
        refine WS.val rfl (LK.move rfl) ?_
        refine WS.val rfl (LK.move rfl) ?_
        first | refine WS.val rfl (SV.len S2.b rfl) ?_ | refine WS.val rfl (LK.len rfl) ?_ | refine WS.val rfl (LK.len_str rfl) ?_ | refine WS.val rfl (LK.len_emp rfl) ?_
        refine WS.val rfl (LK.leq rfl rfl) ?_
        refine WS.nil ?_
        refine WP.cond rfl (fun h28 => ?_) (fun h28 => ?_)
        · first
            | ((exfalso; have := of_decide_eq_false h28; omega); done)
            | skip
              refine WP.skip ?_
              refine WP.seq ?_
              refine WP.block ?_
              refine WP.seq ?_
              refine WP.block ?_
              refine WP.loop ?_
              have hEv := S2.e.sv
              refine WP.sub (gs := [(3, vb), (4, vk), (5, ve), (6, .int .i64 (w : Int)), (7, .int .i64 (n : Int))]) ?_ ⟨rfl, rfl, rfl, rfl, rfl, trivial⟩
              refine WP.inv (fun m g H'' => ∃ (x : Nat), m = (jof cl).rs.length - x ∧ x ≤ (jof cl).rs.length ∧ H'' = H' ∧ g = [(3, vb), (4, vk), (5, ve), (6, .int .i64 (x : Int)), (7, .int .i64 (n : Int))] ∧ ∀ k, (hk : k < (jof cl).rs.length) → k < x → (jof cl).rs[k].fin ≤ n) (n := (jof cl).rs.length - w) ⟨w, rfl, hw, rfl, rfl, hle⟩ ?_
              rintro m g H'' ⟨x, rfl, hx, rfl, rfl, hlx⟩ ih2
              have hnw : (n : Int) < 2 ^ 62 := by omega
              by_cases hlx2 : x < (jof cl).rs.length
              · obtain ⟨i1, o1, c1, cs1, e1, w1, p1, hv1, _, g1, k1⟩ := hEv.at1 (k := x) (by omega)
                rw [ends_get hlx2] at k1
                have hk1 : IntKind.i64.wrap ((x : Int) + 1) = ((x + 1 : Nat) : Int) := by rw [wrap_i64 (by omega) (by omega)]; rfl
                have hfl := fin_le hok hlx2
                have hd35 : decide ((x : Int) < ((kept cl).length : Int)) = true := decide_eq_true (by omega)
                have hix : natOf (.int .i64 (x : Int)) = some x := natOf_cast
                have hxk : x < (kept cl).length := by omega
                by_cases hfn : (jof cl).rs[x].fin ≤ n
                · have hd41 : decide (((jof cl).rs[x].fin : Int) ≤ (n : Int)) = true := decide_eq_true (by omega)
                  refine WP.seq ?_
                  refine WP.seq ?_
                  refine WP.region rfl ?_
                  refine WS.val rfl (LK.move rfl) ?_
                  refine WS.val rfl (LK.move rfl) ?_
                  first | refine WS.val rfl (SV.len hEv rfl) ?_ | refine WS.val rfl (LK.len rfl) ?_ | refine WS.val rfl (LK.len_str rfl) ?_ | refine WS.val rfl (LK.len_emp rfl) ?_
                  first | refine WS.val rfl (LK.lss_to rfl rfl hd35) ?_ | refine WS.val rfl (LK.lss rfl rfl) ?_
                  refine WS.val rfl (LK.move rfl) ?_
                  first | refine WS.val rfl (LK.move rfl) ?_ | refine WS.no rfl ?_ | (refine WS.guard rfl (fun h35 => ?_) (fun h35 => ?_) <;> first | refine WS.val rfl (LK.move rfl) ?_ | refine WS.no rfl ?_)
                  all_goals first | refine WS.val rfl (LK.move rfl) ?_ | refine WS.no rfl ?_ | (refine WS.guard rfl (fun h35 => ?_) (fun h35 => ?_) <;> first | refine WS.val rfl (LK.move rfl) ?_ | refine WS.no rfl ?_)
                  all_goals first | refine WS.val rfl (LK.indexAddr (congrArg some hv1) rfl hix hxk) ?_ | refine WS.no rfl ?_ | (refine WS.guard rfl (fun h35 => ?_) (fun h35 => ?_) <;> first | refine WS.val rfl (LK.indexAddr (congrArg some hv1) rfl hix hxk) ?_ | refine WS.no rfl ?_)
                  all_goals first | refine WS.val rfl (LK.load rfl g1 k1) ?_ | refine WS.no rfl ?_ | (refine WS.guard rfl (fun h35 => ?_) (fun h35 => ?_) <;> first | refine WS.val rfl (LK.load rfl g1 k1) ?_ | refine WS.no rfl ?_)
                  all_goals first | refine WS.val rfl (LK.move rfl) ?_ | refine WS.no rfl ?_ | (refine WS.guard rfl (fun h35 => ?_) (fun h35 => ?_) <;> first | refine WS.val rfl (LK.move rfl) ?_ | refine WS.no rfl ?_)
                  all_goals first | refine WS.val rfl (LK.leq_to rfl rfl hd41) ?_ | refine WS.val rfl (LK.leq rfl rfl) ?_ | refine WS.no rfl ?_ | (refine WS.guard rfl (fun h35 => ?_) (fun h35 => ?_) <;> first | refine WS.val rfl (LK.leq_to rfl rfl hd41) ?_ | refine WS.val rfl (LK.leq rfl rfl) ?_ | refine WS.no rfl ?_)
                  all_goals first | refine WS.val rfl (LK.pick_t rfl rfl) ?_ | refine WS.val rfl (LK.pick_f rfl rfl) ?_ | refine WS.val rfl (LK.pick rfl rfl rfl) ?_
                  all_goals
                    refine WS.nil ?_
                    refine WP.cond rfl (fun h42 => ?_) (fun h42 => ?_)
                    · first
                        | ((exfalso; simp at h42; done); done)
                        | skip
                          refine WP.skip ?_
                          refine WP.block ?_
                          refine WP.region rfl ?_
                          refine WS.val rfl (LK.move rfl) ?_
                          first | refine WS.val rfl (LK.add_to rfl rfl hk1) ?_ | refine WS.val rfl (LK.add rfl rfl) ?_
                          refine WS.val rfl (LK.assign rfl) ?_
                          refine WS.nil ?_
                          refine WP.inBlock ?_
                          exact WP.sub (gs := [(3, _), (4, _), (5, _), (6, .int .i64 ((x + 1 : Nat) : Int)), (7, .int .i64 (n : Int))]) (ih2 ((jof cl).rs.length - (x + 1)) _ _ (by omega) ⟨x + 1, rfl, by omega, rfl, rfl, fun k hk h => by rcases Nat.lt_succ_iff_lt_or_eq.1 h with h | rfl; exact hlx k hk h; exact hfn⟩) ⟨rfl, rfl, rfl, rfl, rfl, trivial⟩
                    · first
                        | ((exfalso; simp at h42; done); done)
                        | skip
                          refine WP.exit rfl ?_
                          refine WP.seq ?_
                          refine WP.region rfl ?_
                          refine WS.val rfl (LK.move rfl) ?_
                          refine WS.val rfl (LK.move rfl) ?_
                          skip -- NO RULE: .slice 22 (.tmp 46) none (some (.tmp 47)) none
                          refine WS.val rfl (SV.len hEv rfl) ?_
                          refine WS.val rfl (LK.move rfl) ?_
                          refine WS.val rfl (LK.extract rfl rfl) ?_
                          refine WS.val rfl (LK.extract rfl rfl) ?_
                          refine WS.val rfl (LK.assign rfl) ?_
                          refine WS.val rfl (LK.assign rfl) ?_
                          refine WS.nil ?_
                          refine WP.seq ?_
                          refine WP.region rfl ?_
                          refine WS.val rfl (LK.assign rfl) ?_
                          refine WS.nil ?_
                          refine WP.seq ?_
                          refine WP.seq ?_
                          refine WP.region rfl ?_
                          refine WS.val rfl (LK.move rfl) ?_
                          refine WS.val rfl (LK.gtr rfl rfl) ?_
                          refine WS.nil ?_
                          refine WP.cond rfl (fun h53 => ?_) (fun h53 => ?_)
                          · first
                              | ((exfalso; simp at h53; done); done)
                              | skip
                                refine WP.region rfl ?_
                                refine WS.val rfl (LK.move rfl) ?_
                                refine WS.val rfl (LK.move rfl) ?_
                                refine WS.val rfl (LK.sub rfl rfl) ?_
                                refine WS.val rfl (LK.indexAddr (congrArg some hv1) rfl hix hxk) ?_
                                refine WS.val rfl (LK.load rfl g1 k1) ?_
                                refine WS.val rfl (LK.assign rfl) ?_
                                refine WS.nil ?_
                                refine WP.seq ?_
                                refine WP.region rfl ?_
                                refine WS.val rfl (LK.move rfl) ?_
                                refine WS.val rfl (LK.move rfl) ?_
                                refine WS.val rfl (LK.neq rfl rfl) ?_
                                refine WS.val rfl (LK.move rfl) ?_
                                first | refine WS.val rfl (LK.move rfl) ?_ | refine WS.no rfl ?_ | (refine WS.guard rfl (fun h62 => ?_) (fun h62 => ?_) <;> first | refine WS.val rfl (LK.move rfl) ?_ | refine WS.no rfl ?_)
                                all_goals first | refine WS.val rfl (LK.move rfl) ?_ | refine WS.no rfl ?_ | (refine WS.guard rfl (fun h62 => ?_) (fun h62 => ?_) <;> first | refine WS.val rfl (LK.move rfl) ?_ | refine WS.no rfl ?_)
                                all_goals first | refine WS.val rfl (LK.move rfl) ?_ | refine WS.no rfl ?_ | (refine WS.guard rfl (fun h62 => ?_) (fun h62 => ?_) <;> first | refine WS.val rfl (LK.move rfl) ?_ | refine WS.no rfl ?_)
                                all_goals skip -- NO RULE: .slice 30 (.tmp 64) none (some (.tmp 65)) none
                                all_goals first | refine WS.val rfl (SV.len hEv rfl) ?_ | refine WS.no rfl ?_ | (refine WS.guard rfl (fun h62 => ?_) (fun h62 => ?_) <;> first | refine WS.val rfl (SV.len hEv rfl) ?_ | refine WS.no rfl ?_)
                                all_goals first | refine WS.val rfl (LK.not rfl) ?_ | refine WS.no rfl ?_ | (refine WS.guard rfl (fun h62 => ?_) (fun h62 => ?_) <;> first | refine WS.val rfl (LK.not rfl) ?_ | refine WS.no rfl ?_)
                                all_goals first | refine WS.val rfl (LK.pick_t rfl rfl) ?_ | refine WS.val rfl (LK.pick_f rfl rfl) ?_ | refine WS.val rfl (LK.pick rfl rfl rfl) ?_
                                all_goals
                                  refine WS.nil ?_
                                  refine WP.cond rfl (fun h69 => ?_) (fun h69 => ?_)
                                  · first
                                      | ((exfalso; simp at h69; done); done)
                                      | skip
                                        refine WP.seq ?_
                                        refine WP.region rfl ?_
                                        refine WS.val rfl (LK.assign rfl) ?_
                                        refine WS.nil ?_
                                        skip
                                  · first
                                      | ((exfalso; simp at h69; done); done)
                                      | skip
                                        refine WP.skip ?_
                                        refine WP.inBlock ?_
                                        refine WP.region rfl ?_
                                        refine WS.val rfl (LK.move rfl) ?_
                                        first | refine WS.val rfl (LK.add_to rfl rfl hk1) ?_ | refine WS.val rfl (LK.add rfl rfl) ?_
                                        refine WS.val rfl (LK.assign rfl) ?_
                                        refine WS.nil ?_
                                        exact WP.sub (gs := [(3, _), (4, _), (5, _), (6, .int .i64 ((x + 1 : Nat) : Int)), (7, .int .i64 (n : Int))]) (ih2 ((jof cl).rs.length - (x + 1)) _ _ (by omega) ⟨x + 1, rfl, by omega, rfl, rfl, fun k hk h => by rcases Nat.lt_succ_iff_lt_or_eq.1 h with h | rfl; exact hlx k hk h; exact hfn⟩) ⟨rfl, rfl, rfl, rfl, rfl, trivial⟩
                          · first
                              | ((exfalso; simp at h53; done); done)
                              | skip
                                refine WP.skip ?_
                                refine WP.seq ?_
                                refine WP.region rfl ?_
                                refine WS.val rfl (LK.move rfl) ?_
                                refine WS.val rfl (LK.move rfl) ?_
                                refine WS.val rfl (LK.neq rfl rfl) ?_
                                refine WS.val rfl (LK.move rfl) ?_
                                first | refine WS.val rfl (LK.move rfl) ?_ | refine WS.no rfl ?_ | (refine WS.guard rfl (fun h62 => ?_) (fun h62 => ?_) <;> first | refine WS.val rfl (LK.move rfl) ?_ | refine WS.no rfl ?_)
                                all_goals first | refine WS.val rfl (LK.move rfl) ?_ | refine WS.no rfl ?_ | (refine WS.guard rfl (fun h62 => ?_) (fun h62 => ?_) <;> first | refine WS.val rfl (LK.move rfl) ?_ | refine WS.no rfl ?_)
                                all_goals first | refine WS.val rfl (LK.move rfl) ?_ | refine WS.no rfl ?_ | (refine WS.guard rfl (fun h62 => ?_) (fun h62 => ?_) <;> first | refine WS.val rfl (LK.move rfl) ?_ | refine WS.no rfl ?_)
                                all_goals skip -- NO RULE: .slice 30 (.tmp 64) none (some (.tmp 65)) none
                                all_goals first | refine WS.val rfl (SV.len hEv rfl) ?_ | refine WS.no rfl ?_ | (refine WS.guard rfl (fun h62 => ?_) (fun h62 => ?_) <;> first | refine WS.val rfl (SV.len hEv rfl) ?_ | refine WS.no rfl ?_)
                                all_goals first | refine WS.val rfl (LK.not rfl) ?_ | refine WS.no rfl ?_ | (refine WS.guard rfl (fun h62 => ?_) (fun h62 => ?_) <;> first | refine WS.val rfl (LK.not rfl) ?_ | refine WS.no rfl ?_)
                                all_goals first | refine WS.val rfl (LK.pick_t rfl rfl) ?_ | refine WS.val rfl (LK.pick_f rfl rfl) ?_ | refine WS.val rfl (LK.pick rfl rfl rfl) ?_
                                all_goals
                                  refine WS.nil ?_
                                  refine WP.cond rfl (fun h69 => ?_) (fun h69 => ?_)
                                  · first
                                      | ((exfalso; simp at h69; done); done)
                                      | skip
                                        refine WP.seq ?_
                                        refine WP.region rfl ?_
                                        refine WS.val rfl (LK.assign rfl) ?_
                                        refine WS.nil ?_
                                        skip
                                  · first
                                      | ((exfalso; simp at h69; done); done)
                                      | skip
                                        refine WP.skip ?_
                                        refine WP.inBlock ?_
                                        refine WP.region rfl ?_
                                        refine WS.val rfl (LK.move rfl) ?_
                                        first | refine WS.val rfl (LK.add_to rfl rfl hk1) ?_ | refine WS.val rfl (LK.add rfl rfl) ?_
                                        refine WS.val rfl (LK.assign rfl) ?_
                                        refine WS.nil ?_
                                        exact WP.sub (gs := [(3, _), (4, _), (5, _), (6, .int .i64 ((x + 1 : Nat) : Int)), (7, .int .i64 (n : Int))]) (ih2 ((jof cl).rs.length - (x + 1)) _ _ (by omega) ⟨x + 1, rfl, by omega, rfl, rfl, fun k hk h => by rcases Nat.lt_succ_iff_lt_or_eq.1 h with h | rfl; exact hlx k hk h; exact hfn⟩) ⟨rfl, rfl, rfl, rfl, rfl, trivial⟩
                · have hd41 : decide (((jof cl).rs[x].fin : Int) ≤ (n : Int)) = false := decide_eq_false (by omega)
                  have hcut := recs_cut hgood (n := n) hx (mem_take_get hlx) (fun r hr => by rw [List.getElem?_eq_getElem hlx2] at hr; cases hr; omega)
                  have hS := S2.b
                  have hlen := hS.length
                  obtain ⟨v', hsl, hb', hv'⟩ := BV.slice (v := vb) (bs := (jof cl).b) S2.b (t := 22) (lo := none) (hi := some (.int .i64 ((n : Nat) : Int))) (l := 0) (r := n) rfl (natOf_cast (k := .i64)) (Nat.zero_le _) hlt
                  rw [List.drop_zero, Nat.sub_zero] at hb'
                  have hread := read _ v' _ hb' (by rw [List.length_take]; omega)
                  rw [hcut] at hread
                  have hB0 : x = 0 → lastFin ((jof cl).rs.take x) = 0 := by rintro rfl; rfl
                  have hB1 : 0 < x → (ends cl)[x - 1]? = some (.int .i64 (lastFin ((jof cl).rs.take x) : Int)) := by
                    intro h0
                    obtain ⟨y, rfl⟩ : ∃ y, x = y + 1 := ⟨x - 1, by omega⟩
                    rw [lastFin_take (by omega), Nat.add_sub_cancel, ends_get (by omega)]
                  have hcl3 : ((jof cl).rs.take x).length = ((kept cl).take x).length := by rw [← jof_cmds]; simp
                  have hcl4 : ((jof cl).rs.take x).map (·.c) = (kept cl).take x := by rw [← jof_cmds, List.map_take]
                  generalize lastFin ((jof cl).rs.take x) = B at *
                  have hne0 : decide ((0 : Int) < (x : Int)) = false → ((B : Int) != 0) = false := fun h => by
                    rw [hB0 (by have := of_decide_eq_false h; omega)]; rfl
                  have hne1 : ((B : Int) != (B : Int)) = false := by simp
                  have hkn : IntKind.i64.wrap ((n : Int) + 1) = ((n + 1 : Nat) : Int) := by rw [wrap_i64 (by omega) (by omega)]; rfl
                  refine WP.seq ?_
                  refine WP.seq ?_
                  refine WP.region rfl ?_
                  refine WS.val rfl (LK.move rfl) ?_
                  refine WS.val rfl (LK.move rfl) ?_
                  first | refine WS.val rfl (SV.len hEv rfl) ?_ | refine WS.val rfl (LK.len rfl) ?_ | refine WS.val rfl (LK.len_str rfl) ?_ | refine WS.val rfl (LK.len_emp rfl) ?_
                  first | refine WS.val rfl (LK.lss_to rfl rfl hd35) ?_ | refine WS.val rfl (LK.lss rfl rfl) ?_
                  refine WS.val rfl (LK.move rfl) ?_
                  first | refine WS.val rfl (LK.move rfl) ?_ | refine WS.no rfl ?_ | (refine WS.guard rfl (fun h35 => ?_) (fun h35 => ?_) <;> first | refine WS.val rfl (LK.move rfl) ?_ | refine WS.no rfl ?_)
                  all_goals first | refine WS.val rfl (LK.move rfl) ?_ | refine WS.no rfl ?_ | (refine WS.guard rfl (fun h35 => ?_) (fun h35 => ?_) <;> first | refine WS.val rfl (LK.move rfl) ?_ | refine WS.no rfl ?_)
                  all_goals first | refine WS.val rfl (LK.indexAddr (congrArg some hv1) rfl hix hxk) ?_ | refine WS.val rfl (LK.indexAddr (congrArg some hv2) rfl hix2 hxk2) ?_ | refine WS.no rfl ?_ | (refine WS.guard rfl (fun h35 => ?_) (fun h35 => ?_) <;> first | refine WS.val rfl (LK.indexAddr (congrArg some hv1) rfl hix hxk) ?_ | refine WS.val rfl (LK.indexAddr (congrArg some hv2) rfl hix2 hxk2) ?_ | refine WS.no rfl ?_)
                  all_goals first | refine WS.val rfl (LK.load rfl g1 k1) ?_ | refine WS.val rfl (LK.load rfl g2 k2) ?_ | refine WS.no rfl ?_ | (refine WS.guard rfl (fun h35 => ?_) (fun h35 => ?_) <;> first | refine WS.val rfl (LK.load rfl g1 k1) ?_ | refine WS.val rfl (LK.load rfl g2 k2) ?_ | refine WS.no rfl ?_)
                  all_goals first | refine WS.val rfl (LK.move rfl) ?_ | refine WS.no rfl ?_ | (refine WS.guard rfl (fun h35 => ?_) (fun h35 => ?_) <;> first | refine WS.val rfl (LK.move rfl) ?_ | refine WS.no rfl ?_)
                  all_goals first | refine WS.val rfl (LK.leq_to rfl rfl hd41) ?_ | refine WS.val rfl (LK.leq rfl rfl) ?_ | refine WS.no rfl ?_ | (refine WS.guard rfl (fun h35 => ?_) (fun h35 => ?_) <;> first | refine WS.val rfl (LK.leq_to rfl rfl hd41) ?_ | refine WS.val rfl (LK.leq rfl rfl) ?_ | refine WS.no rfl ?_)
                  all_goals first | refine WS.val rfl (LK.pick_t rfl rfl) ?_ | refine WS.val rfl (LK.pick_f rfl rfl) ?_ | refine WS.val rfl (LK.pick rfl rfl rfl) ?_
                  all_goals
                    refine WS.nil ?_
                    refine WP.cond rfl (fun h42 => ?_) (fun h42 => ?_)
                    · first
                        | ((exfalso; simp at h42; done); done)
                        | skip
                          refine WP.skip ?_
                          refine WP.block ?_
                          refine WP.region rfl ?_
                          refine WS.val rfl (LK.move rfl) ?_
                          first | refine WS.val rfl (LK.add_to rfl rfl hkn) ?_ | refine WS.val rfl (LK.add rfl rfl) ?_
                          refine WS.val rfl (LK.assign rfl) ?_
                          refine WS.nil ?_
                          refine WP.inBlock ?_
                          exact WP.sub (gs := [(3, _), (4, _), (5, _), (6, .int .i64 (x : Int)), (7, .int .i64 ((n + 1 : Nat) : Int))]) (ih ((jof cl).b.length + 1 - (n + 1)) _ _ (by omega) ⟨n + 1, x, rfl, by omega, hx, (hE.trans hE2 (fun i _ h => h)).trans hE3 (fun i _ h => h), rfl, fun k hk h => Nat.le_succ_of_le (hlx k hk h)⟩) ⟨rfl, rfl, rfl, rfl, rfl, trivial⟩
                    · first
                        | ((exfalso; simp at h42; done); done)
                        | skip
                          refine WP.exit rfl ?_
                          refine WP.seq ?_
                          refine WP.region rfl ?_
                          refine WS.val rfl (LK.move rfl) ?_
                          refine WS.val rfl (LK.move rfl) ?_
                          first | refine WS.val rfl (LK.slice rfl rfl rfl rfl hsl) ?_ | refine WS.val rfl (LK.slice rfl rfl rfl rfl hsl2) ?_
                          (refine WS.call rfl (LK.call rfl) (CallP.mono (hread) ?_); rintro _ Hr ⟨hE2, v, ls, rfl, hOv, hcv, _⟩; (have S3 := S2.ext2 hE2); (have hcm : CV Hr v ((kept cl).take x) ls := ⟨by rw [← hcl3]; exact hOv.sv, by rw [← hcl4]; exact hcv⟩); (obtain ⟨v2, hsl2, hcv2⟩ := CV.take S3.cv (w := x) (by omega)); (have hcmds := cmds Hr v v2 _ ls _ hcm hcv2 (by rw [List.length_take]; omega) (fun c hc => small_bound (hsm c (kept_mem (List.mem_of_mem_take hc))))))
                          refine WS.val rfl (LK.move rfl) ?_
                          refine WS.val rfl (LK.extract rfl rfl) ?_
                          refine WS.val rfl (LK.extract rfl rfl) ?_
                          refine WS.val rfl (LK.assign rfl) ?_
                          refine WS.val rfl (LK.assign rfl) ?_
                          refine WS.nil ?_
                          refine WP.seq ?_
                          refine WP.region rfl ?_
                          refine WS.val rfl (LK.assign rfl) ?_
                          refine WS.nil ?_
                          refine WP.seq ?_
                          refine WP.seq ?_
                          refine WP.region rfl ?_
                          refine WS.val rfl (LK.move rfl) ?_
                          refine WS.val rfl (LK.gtr rfl rfl) ?_
                          refine WS.nil ?_
                          refine WP.cond rfl (fun h53 => ?_) (fun h53 => ?_)
                          · first
                              | ((exfalso; simp at h53; done); done)
                              | skip
                                have hpos : 0 < x := by have := of_decide_eq_true h53; omega
                                obtain ⟨i2, o2, c2, cs2, e2, w2, p2, hv2, _, g2, k2⟩ := S3.e.sv.at1 (k := x - 1) (by omega)
                                rw [hB1 hpos] at k2
                                have hix2 : natOf (.int .i64 ((x - 1 : Nat) : Int)) = some (x - 1) := natOf_cast
                                have hxk2 : x - 1 < (kept cl).length := by omega
                                have hk2 : IntKind.i64.wrap ((x : Int) - 1) = ((x - 1 : Nat) : Int) := by rw [wrap_i64 (by omega) (by omega)]; omega
                                refine WP.region rfl ?_
                                refine WS.val rfl (LK.move rfl) ?_
                                refine WS.val rfl (LK.move rfl) ?_
                                first | refine WS.val rfl (LK.sub_to rfl rfl hk2) ?_ | refine WS.val rfl (LK.sub rfl rfl) ?_
                                first | refine WS.val rfl (LK.indexAddr (congrArg some hv1) rfl hix hxk) ?_ | refine WS.val rfl (LK.indexAddr (congrArg some hv2) rfl hix2 hxk2) ?_
                                first | refine WS.val rfl (LK.load rfl g1 k1) ?_ | refine WS.val rfl (LK.load rfl g2 k2) ?_
                                refine WS.val rfl (LK.assign rfl) ?_
                                refine WS.nil ?_
                                refine WP.seq ?_
                                refine WP.region rfl ?_
                                refine WS.val rfl (LK.move rfl) ?_
                                refine WS.val rfl (LK.move rfl) ?_
                                first | refine WS.val rfl (LK.neq_to rfl rfl (hne0 h53)) ?_ | refine WS.val rfl (LK.neq_to rfl rfl hne1) ?_ | refine WS.val rfl (LK.neq rfl rfl) ?_
                                refine WS.val rfl (LK.move rfl) ?_
                                first | refine WS.val rfl (LK.move rfl) ?_ | refine WS.no rfl ?_ | (refine WS.guard rfl (fun h62 => ?_) (fun h62 => ?_) <;> first | refine WS.val rfl (LK.move rfl) ?_ | refine WS.no rfl ?_)
                                all_goals first | refine WS.val rfl (LK.move rfl) ?_ | refine WS.no rfl ?_ | (refine WS.guard rfl (fun h62 => ?_) (fun h62 => ?_) <;> first | refine WS.val rfl (LK.move rfl) ?_ | refine WS.no rfl ?_)
                                all_goals first | refine WS.val rfl (LK.move rfl) ?_ | refine WS.no rfl ?_ | (refine WS.guard rfl (fun h62 => ?_) (fun h62 => ?_) <;> first | refine WS.val rfl (LK.move rfl) ?_ | refine WS.no rfl ?_)
                                all_goals first | refine WS.val rfl (LK.slice rfl rfl rfl rfl hsl) ?_ | refine WS.val rfl (LK.slice rfl rfl rfl rfl hsl2) ?_ | refine WS.no rfl ?_ | (refine WS.guard rfl (fun h62 => ?_) (fun h62 => ?_) <;> first | refine WS.val rfl (LK.slice rfl rfl rfl rfl hsl) ?_ | refine WS.val rfl (LK.slice rfl rfl rfl rfl hsl2) ?_ | refine WS.no rfl ?_)
                                all_goals first | (refine WS.call rfl (LK.call rfl) (CallP.mono (hcmds) ?_); rintro _ Hc ⟨hE3, rfl⟩) | refine WS.no rfl ?_ | (refine WS.guard rfl (fun h62 => ?_) (fun h62 => ?_) <;> first | (refine WS.call rfl (LK.call rfl) (CallP.mono (hcmds) ?_); rintro _ Hc ⟨hE3, rfl⟩) | refine WS.no rfl ?_)
                                all_goals first | refine WS.val rfl (LK.not rfl) ?_ | refine WS.no rfl ?_ | (refine WS.guard rfl (fun h62 => ?_) (fun h62 => ?_) <;> first | refine WS.val rfl (LK.not rfl) ?_ | refine WS.no rfl ?_)
                                all_goals first | refine WS.val rfl (LK.pick_t rfl rfl) ?_ | refine WS.val rfl (LK.pick_f rfl rfl) ?_ | refine WS.val rfl (LK.pick rfl rfl rfl) ?_
                                all_goals
                                  refine WS.nil ?_
                                  refine WP.cond rfl (fun h69 => ?_) (fun h69 => ?_)
                                  · first
                                      | ((exfalso; simp at h69; done); done)
                                      | skip
                                        refine WP.seq ?_
                                        refine WP.region rfl ?_
                                        refine WS.val rfl (LK.assign rfl) ?_
                                        refine WS.nil ?_
                                        skip
                                  · first
                                      | ((exfalso; simp at h69; done); done)
                                      | skip
                                        refine WP.skip ?_
                                        refine WP.inBlock ?_
                                        refine WP.region rfl ?_
                                        refine WS.val rfl (LK.move rfl) ?_
                                        first | refine WS.val rfl (LK.add_to rfl rfl hkn) ?_ | refine WS.val rfl (LK.add rfl rfl) ?_
                                        refine WS.val rfl (LK.assign rfl) ?_
                                        refine WS.nil ?_
                                        exact WP.sub (gs := [(3, _), (4, _), (5, _), (6, .int .i64 (x : Int)), (7, .int .i64 ((n + 1 : Nat) : Int))]) (ih ((jof cl).b.length + 1 - (n + 1)) _ _ (by omega) ⟨n + 1, x, rfl, by omega, hx, (hE.trans hE2 (fun i _ h => h)).trans hE3 (fun i _ h => h), rfl, fun k hk h => Nat.le_succ_of_le (hlx k hk h)⟩) ⟨rfl, rfl, rfl, rfl, rfl, trivial⟩
                          · first
                              | ((exfalso; simp at h53; done); done)
                              | skip
                                refine WP.skip ?_
                                refine WP.seq ?_
                                refine WP.region rfl ?_
                                refine WS.val rfl (LK.move rfl) ?_
                                refine WS.val rfl (LK.move rfl) ?_
                                first | refine WS.val rfl (LK.neq_to rfl rfl (hne0 h53)) ?_ | refine WS.val rfl (LK.neq_to rfl rfl hne1) ?_ | refine WS.val rfl (LK.neq rfl rfl) ?_
                                refine WS.val rfl (LK.move rfl) ?_
                                first | refine WS.val rfl (LK.move rfl) ?_ | refine WS.no rfl ?_ | (refine WS.guard rfl (fun h62 => ?_) (fun h62 => ?_) <;> first | refine WS.val rfl (LK.move rfl) ?_ | refine WS.no rfl ?_)
                                all_goals first | refine WS.val rfl (LK.move rfl) ?_ | refine WS.no rfl ?_ | (refine WS.guard rfl (fun h62 => ?_) (fun h62 => ?_) <;> first | refine WS.val rfl (LK.move rfl) ?_ | refine WS.no rfl ?_)
                                all_goals first | refine WS.val rfl (LK.move rfl) ?_ | refine WS.no rfl ?_ | (refine WS.guard rfl (fun h62 => ?_) (fun h62 => ?_) <;> first | refine WS.val rfl (LK.move rfl) ?_ | refine WS.no rfl ?_)
                                all_goals first | refine WS.val rfl (LK.slice rfl rfl rfl rfl hsl) ?_ | refine WS.val rfl (LK.slice rfl rfl rfl rfl hsl2) ?_ | refine WS.no rfl ?_ | (refine WS.guard rfl (fun h62 => ?_) (fun h62 => ?_) <;> first | refine WS.val rfl (LK.slice rfl rfl rfl rfl hsl) ?_ | refine WS.val rfl (LK.slice rfl rfl rfl rfl hsl2) ?_ | refine WS.no rfl ?_)
                                all_goals first | (refine WS.call rfl (LK.call rfl) (CallP.mono (hcmds) ?_); rintro _ Hc ⟨hE3, rfl⟩) | refine WS.no rfl ?_ | (refine WS.guard rfl (fun h62 => ?_) (fun h62 => ?_) <;> first | (refine WS.call rfl (LK.call rfl) (CallP.mono (hcmds) ?_); rintro _ Hc ⟨hE3, rfl⟩) | refine WS.no rfl ?_)
                                all_goals first | refine WS.val rfl (LK.not rfl) ?_ | refine WS.no rfl ?_ | (refine WS.guard rfl (fun h62 => ?_) (fun h62 => ?_) <;> first | refine WS.val rfl (LK.not rfl) ?_ | refine WS.no rfl ?_)
                                all_goals first | refine WS.val rfl (LK.pick_t rfl rfl) ?_ | refine WS.val rfl (LK.pick_f rfl rfl) ?_ | refine WS.val rfl (LK.pick rfl rfl rfl) ?_
                                all_goals
                                  refine WS.nil ?_
                                  refine WP.cond rfl (fun h69 => ?_) (fun h69 => ?_)
                                  · first
                                      | ((exfalso; simp at h69; done); done)
                                      | skip
                                        refine WP.seq ?_
                                        refine WP.region rfl ?_
                                        refine WS.val rfl (LK.assign rfl) ?_
                                        refine WS.nil ?_
                                        skip
                                  · first
                                      | ((exfalso; simp at h69; done); done)
                                      | skip
                                        refine WP.skip ?_
                                        refine WP.inBlock ?_
                                        refine WP.region rfl ?_
                                        refine WS.val rfl (LK.move rfl) ?_
                                        first | refine WS.val rfl (LK.add_to rfl rfl hkn) ?_ | refine WS.val rfl (LK.add rfl rfl) ?_
                                        refine WS.val rfl (LK.assign rfl) ?_
                                        refine WS.nil ?_
                                        exact WP.sub (gs := [(3, _), (4, _), (5, _), (6, .int .i64 (x : Int)), (7, .int .i64 ((n + 1 : Nat) : Int))]) (ih ((jof cl).b.length + 1 - (n + 1)) _ _ (by omega) ⟨n + 1, x, rfl, by omega, hx, (hE.trans hE2 (fun i _ h => h)).trans hE3 (fun i _ h => h), rfl, fun k hk h => Nat.le_succ_of_le (hlx k hk h)⟩) ⟨rfl, rfl, rfl, rfl, rfl, trivial⟩
              · have hd35 : decide ((x : Int) < ((kept cl).length : Int)) = false := decide_eq_false (by omega)
                have hcut := recs_cut hgood (n := n) hx (mem_take_get hlx) (fun r hr => by rw [List.getElem?_eq_none_iff.2 (by omega)] at hr; cases hr)
                have hS := S2.b
                have hlen := hS.length
                obtain ⟨v', hsl, hb', hv'⟩ := BV.slice (v := vb) (bs := (jof cl).b) S2.b (t := 22) (lo := none) (hi := some (.int .i64 ((n : Nat) : Int))) (l := 0) (r := n) rfl (natOf_cast (k := .i64)) (Nat.zero_le _) hlt
                rw [List.drop_zero, Nat.sub_zero] at hb'
                have hread := read _ v' _ hb' (by rw [List.length_take]; omega)
                rw [hcut] at hread
                have hB0 : x = 0 → lastFin ((jof cl).rs.take x) = 0 := by rintro rfl; rfl
                have hB1 : 0 < x → (ends cl)[x - 1]? = some (.int .i64 (lastFin ((jof cl).rs.take x) : Int)) := by
                  intro h0
                  obtain ⟨y, rfl⟩ : ∃ y, x = y + 1 := ⟨x - 1, by omega⟩
                  rw [lastFin_take (by omega), Nat.add_sub_cancel, ends_get (by omega)]
                have hcl3 : ((jof cl).rs.take x).length = ((kept cl).take x).length := by rw [← jof_cmds]; simp
                have hcl4 : ((jof cl).rs.take x).map (·.c) = (kept cl).take x := by rw [← jof_cmds, List.map_take]
                generalize lastFin ((jof cl).rs.take x) = B at *
                have hne0 : decide ((0 : Int) < (x : Int)) = false → ((B : Int) != 0) = false := fun h => by
                  rw [hB0 (by have := of_decide_eq_false h; omega)]; rfl
                have hne1 : ((B : Int) != (B : Int)) = false := by simp
                have hkn : IntKind.i64.wrap ((n : Int) + 1) = ((n + 1 : Nat) : Int) := by rw [wrap_i64 (by omega) (by omega)]; rfl
                refine WP.seq ?_
                refine WP.seq ?_
                refine WP.region rfl ?_
                refine WS.val rfl (LK.move rfl) ?_
                refine WS.val rfl (LK.move rfl) ?_
                first | refine WS.val rfl (SV.len hEv rfl) ?_ | refine WS.val rfl (LK.len rfl) ?_ | refine WS.val rfl (LK.len_str rfl) ?_ | refine WS.val rfl (LK.len_emp rfl) ?_
                first | refine WS.val rfl (LK.lss_to rfl rfl hd35) ?_ | refine WS.val rfl (LK.lss rfl rfl) ?_
                refine WS.val rfl (LK.move rfl) ?_
                first | refine WS.val rfl (LK.move rfl) ?_ | refine WS.no rfl ?_ | (refine WS.guard rfl (fun h35 => ?_) (fun h35 => ?_) <;> first | refine WS.val rfl (LK.move rfl) ?_ | refine WS.no rfl ?_)
                all_goals first | refine WS.val rfl (LK.move rfl) ?_ | refine WS.no rfl ?_ | (refine WS.guard rfl (fun h35 => ?_) (fun h35 => ?_) <;> first | refine WS.val rfl (LK.move rfl) ?_ | refine WS.no rfl ?_)
                all_goals first | refine WS.val rfl (LK.indexAddr (congrArg some hv2) rfl hix2 hxk2) ?_ | refine WS.no rfl ?_ | (refine WS.guard rfl (fun h35 => ?_) (fun h35 => ?_) <;> first | refine WS.val rfl (LK.indexAddr (congrArg some hv2) rfl hix2 hxk2) ?_ | refine WS.no rfl ?_)
                all_goals first | refine WS.val rfl (LK.load rfl g2 k2) ?_ | refine WS.no rfl ?_ | (refine WS.guard rfl (fun h35 => ?_) (fun h35 => ?_) <;> first | refine WS.val rfl (LK.load rfl g2 k2) ?_ | refine WS.no rfl ?_)
                all_goals first | refine WS.val rfl (LK.move rfl) ?_ | refine WS.no rfl ?_ | (refine WS.guard rfl (fun h35 => ?_) (fun h35 => ?_) <;> first | refine WS.val rfl (LK.move rfl) ?_ | refine WS.no rfl ?_)
                all_goals first | refine WS.val rfl (LK.leq rfl rfl) ?_ | refine WS.no rfl ?_ | (refine WS.guard rfl (fun h35 => ?_) (fun h35 => ?_) <;> first | refine WS.val rfl (LK.leq rfl rfl) ?_ | refine WS.no rfl ?_)
                all_goals first | refine WS.val rfl (LK.pick_t rfl rfl) ?_ | refine WS.val rfl (LK.pick_f rfl rfl) ?_ | refine WS.val rfl (LK.pick rfl rfl rfl) ?_
                all_goals
                  refine WS.nil ?_
                  refine WP.cond rfl (fun h42 => ?_) (fun h42 => ?_)
                  · first
                      | ((exfalso; simp at h42; done); done)
                      | skip
                        refine WP.skip ?_
                        refine WP.block ?_
                        refine WP.region rfl ?_
                        refine WS.val rfl (LK.move rfl) ?_
                        first | refine WS.val rfl (LK.add_to rfl rfl hkn) ?_ | refine WS.val rfl (LK.add rfl rfl) ?_
                        refine WS.val rfl (LK.assign rfl) ?_
                        refine WS.nil ?_
                        refine WP.inBlock ?_
                        exact WP.sub (gs := [(3, _), (4, _), (5, _), (6, .int .i64 (x : Int)), (7, .int .i64 ((n + 1 : Nat) : Int))]) (ih ((jof cl).b.length + 1 - (n + 1)) _ _ (by omega) ⟨n + 1, x, rfl, by omega, hx, (hE.trans hE2 (fun i _ h => h)).trans hE3 (fun i _ h => h), rfl, fun k hk h => Nat.le_succ_of_le (hlx k hk h)⟩) ⟨rfl, rfl, rfl, rfl, rfl, trivial⟩
                  · first
                      | ((exfalso; simp at h42; done); done)
                      | skip
                        refine WP.exit rfl ?_
                        refine WP.seq ?_
                        refine WP.region rfl ?_
                        refine WS.val rfl (LK.move rfl) ?_
                        refine WS.val rfl (LK.move rfl) ?_
                        first | refine WS.val rfl (LK.slice rfl rfl rfl rfl hsl) ?_ | refine WS.val rfl (LK.slice rfl rfl rfl rfl hsl2) ?_
                        (refine WS.call rfl (LK.call rfl) (CallP.mono (hread) ?_); rintro _ Hr ⟨hE2, v, ls, rfl, hOv, hcv, _⟩; (have S3 := S2.ext2 hE2); (have hcm : CV Hr v ((kept cl).take x) ls := ⟨by rw [← hcl3]; exact hOv.sv, by rw [← hcl4]; exact hcv⟩); (obtain ⟨v2, hsl2, hcv2⟩ := CV.take S3.cv (w := x) (by omega)); (have hcmds := cmds Hr v v2 _ ls _ hcm hcv2 (by rw [List.length_take]; omega) (fun c hc => small_bound (hsm c (kept_mem (List.mem_of_mem_take hc))))))
                        refine WS.val rfl (LK.move rfl) ?_
                        refine WS.val rfl (LK.extract rfl rfl) ?_
                        refine WS.val rfl (LK.extract rfl rfl) ?_
                        refine WS.val rfl (LK.assign rfl) ?_
                        refine WS.val rfl (LK.assign rfl) ?_
                        refine WS.nil ?_
                        refine WP.seq ?_
                        refine WP.region rfl ?_
                        refine WS.val rfl (LK.assign rfl) ?_
                        refine WS.nil ?_
                        refine WP.seq ?_
                        refine WP.seq ?_
                        refine WP.region rfl ?_
                        refine WS.val rfl (LK.move rfl) ?_
                        refine WS.val rfl (LK.gtr rfl rfl) ?_
                        refine WS.nil ?_
                        refine WP.cond rfl (fun h53 => ?_) (fun h53 => ?_)
                        · first
                            | ((exfalso; simp at h53; done); done)
                            | skip
                              have hpos : 0 < x := by have := of_decide_eq_true h53; omega
                              obtain ⟨i2, o2, c2, cs2, e2, w2, p2, hv2, _, g2, k2⟩ := S3.e.sv.at1 (k := x - 1) (by omega)
                              rw [hB1 hpos] at k2
                              have hix2 : natOf (.int .i64 ((x - 1 : Nat) : Int)) = some (x - 1) := natOf_cast
                              have hxk2 : x - 1 < (kept cl).length := by omega
                              have hk2 : IntKind.i64.wrap ((x : Int) - 1) = ((x - 1 : Nat) : Int) := by rw [wrap_i64 (by omega) (by omega)]; omega
                              refine WP.region rfl ?_
                              refine WS.val rfl (LK.move rfl) ?_
                              refine WS.val rfl (LK.move rfl) ?_
                              first | refine WS.val rfl (LK.sub_to rfl rfl hk2) ?_ | refine WS.val rfl (LK.sub rfl rfl) ?_
                              refine WS.val rfl (LK.indexAddr (congrArg some hv2) rfl hix2 hxk2) ?_
                              refine WS.val rfl (LK.load rfl g2 k2) ?_
                              refine WS.val rfl (LK.assign rfl) ?_
                              refine WS.nil ?_
                              refine WP.seq ?_
                              refine WP.region rfl ?_
                              refine WS.val rfl (LK.move rfl) ?_
                              refine WS.val rfl (LK.move rfl) ?_
                              first | refine WS.val rfl (LK.neq_to rfl rfl (hne0 h53)) ?_ | refine WS.val rfl (LK.neq_to rfl rfl hne1) ?_ | refine WS.val rfl (LK.neq rfl rfl) ?_
                              refine WS.val rfl (LK.move rfl) ?_
                              first | refine WS.val rfl (LK.move rfl) ?_ | refine WS.no rfl ?_ | (refine WS.guard rfl (fun h62 => ?_) (fun h62 => ?_) <;> first | refine WS.val rfl (LK.move rfl) ?_ | refine WS.no rfl ?_)
                              all_goals first | refine WS.val rfl (LK.move rfl) ?_ | refine WS.no rfl ?_ | (refine WS.guard rfl (fun h62 => ?_) (fun h62 => ?_) <;> first | refine WS.val rfl (LK.move rfl) ?_ | refine WS.no rfl ?_)
                              all_goals first | refine WS.val rfl (LK.move rfl) ?_ | refine WS.no rfl ?_ | (refine WS.guard rfl (fun h62 => ?_) (fun h62 => ?_) <;> first | refine WS.val rfl (LK.move rfl) ?_ | refine WS.no rfl ?_)
                              all_goals first | refine WS.val rfl (LK.slice rfl rfl rfl rfl hsl) ?_ | refine WS.val rfl (LK.slice rfl rfl rfl rfl hsl2) ?_ | refine WS.no rfl ?_ | (refine WS.guard rfl (fun h62 => ?_) (fun h62 => ?_) <;> first | refine WS.val rfl (LK.slice rfl rfl rfl rfl hsl) ?_ | refine WS.val rfl (LK.slice rfl rfl rfl rfl hsl2) ?_ | refine WS.no rfl ?_)
                              all_goals first | (refine WS.call rfl (LK.call rfl) (CallP.mono (hcmds) ?_); rintro _ Hc ⟨hE3, rfl⟩) | refine WS.no rfl ?_ | (refine WS.guard rfl (fun h62 => ?_) (fun h62 => ?_) <;> first | (refine WS.call rfl (LK.call rfl) (CallP.mono (hcmds) ?_); rintro _ Hc ⟨hE3, rfl⟩) | refine WS.no rfl ?_)
                              all_goals first | refine WS.val rfl (LK.not rfl) ?_ | refine WS.no rfl ?_ | (refine WS.guard rfl (fun h62 => ?_) (fun h62 => ?_) <;> first | refine WS.val rfl (LK.not rfl) ?_ | refine WS.no rfl ?_)
                              all_goals first | refine WS.val rfl (LK.pick_t rfl rfl) ?_ | refine WS.val rfl (LK.pick_f rfl rfl) ?_ | refine WS.val rfl (LK.pick rfl rfl rfl) ?_
                              all_goals
                                refine WS.nil ?_
                                refine WP.cond rfl (fun h69 => ?_) (fun h69 => ?_)
                                · first
                                    | ((exfalso; simp at h69; done); done)
                                    | skip
                                      refine WP.seq ?_
                                      refine WP.region rfl ?_
                                      refine WS.val rfl (LK.assign rfl) ?_
                                      refine WS.nil ?_
                                      skip
                                · first
                                    | ((exfalso; simp at h69; done); done)
                                    | skip
                                      refine WP.skip ?_
                                      refine WP.inBlock ?_
                                      refine WP.region rfl ?_
                                      refine WS.val rfl (LK.move rfl) ?_
                                      first | refine WS.val rfl (LK.add_to rfl rfl hkn) ?_ | refine WS.val rfl (LK.add rfl rfl) ?_
                                      refine WS.val rfl (LK.assign rfl) ?_
                                      refine WS.nil ?_
                                      exact WP.sub (gs := [(3, _), (4, _), (5, _), (6, .int .i64 (x : Int)), (7, .int .i64 ((n + 1 : Nat) : Int))]) (ih ((jof cl).b.length + 1 - (n + 1)) _ _ (by omega) ⟨n + 1, x, rfl, by omega, hx, (hE.trans hE2 (fun i _ h => h)).trans hE3 (fun i _ h => h), rfl, fun k hk h => Nat.le_succ_of_le (hlx k hk h)⟩) ⟨rfl, rfl, rfl, rfl, rfl, trivial⟩
                        · first
                            | ((exfalso; simp at h53; done); done)
                            | skip
                              refine WP.skip ?_
                              refine WP.seq ?_
                              refine WP.region rfl ?_
                              refine WS.val rfl (LK.move rfl) ?_
                              refine WS.val rfl (LK.move rfl) ?_
                              first | refine WS.val rfl (LK.neq_to rfl rfl (hne0 h53)) ?_ | refine WS.val rfl (LK.neq_to rfl rfl hne1) ?_ | refine WS.val rfl (LK.neq rfl rfl) ?_
                              refine WS.val rfl (LK.move rfl) ?_
                              first | refine WS.val rfl (LK.move rfl) ?_ | refine WS.no rfl ?_ | (refine WS.guard rfl (fun h62 => ?_) (fun h62 => ?_) <;> first | refine WS.val rfl (LK.move rfl) ?_ | refine WS.no rfl ?_)
                              all_goals first | refine WS.val rfl (LK.move rfl) ?_ | refine WS.no rfl ?_ | (refine WS.guard rfl (fun h62 => ?_) (fun h62 => ?_) <;> first | refine WS.val rfl (LK.move rfl) ?_ | refine WS.no rfl ?_)
                              all_goals first | refine WS.val rfl (LK.move rfl) ?_ | refine WS.no rfl ?_ | (refine WS.guard rfl (fun h62 => ?_) (fun h62 => ?_) <;> first | refine WS.val rfl (LK.move rfl) ?_ | refine WS.no rfl ?_)
                              all_goals first | refine WS.val rfl (LK.slice rfl rfl rfl rfl hsl) ?_ | refine WS.val rfl (LK.slice rfl rfl rfl rfl hsl2) ?_ | refine WS.no rfl ?_ | (refine WS.guard rfl (fun h62 => ?_) (fun h62 => ?_) <;> first | refine WS.val rfl (LK.slice rfl rfl rfl rfl hsl) ?_ | refine WS.val rfl (LK.slice rfl rfl rfl rfl hsl2) ?_ | refine WS.no rfl ?_)
                              all_goals first | (refine WS.call rfl (LK.call rfl) (CallP.mono (hcmds) ?_); rintro _ Hc ⟨hE3, rfl⟩) | refine WS.no rfl ?_ | (refine WS.guard rfl (fun h62 => ?_) (fun h62 => ?_) <;> first | (refine WS.call rfl (LK.call rfl) (CallP.mono (hcmds) ?_); rintro _ Hc ⟨hE3, rfl⟩) | refine WS.no rfl ?_)
                              all_goals first | refine WS.val rfl (LK.not rfl) ?_ | refine WS.no rfl ?_ | (refine WS.guard rfl (fun h62 => ?_) (fun h62 => ?_) <;> first | refine WS.val rfl (LK.not rfl) ?_ | refine WS.no rfl ?_)
                              all_goals first | refine WS.val rfl (LK.pick_t rfl rfl) ?_ | refine WS.val rfl (LK.pick_f rfl rfl) ?_ | refine WS.val rfl (LK.pick rfl rfl rfl) ?_
                              all_goals
                                refine WS.nil ?_
                                refine WP.cond rfl (fun h69 => ?_) (fun h69 => ?_)
                                · first
                                    | ((exfalso; simp at h69; done); done)
                                    | skip
                                      refine WP.seq ?_
                                      refine WP.region rfl ?_
                                      refine WS.val rfl (LK.assign rfl) ?_
                                      refine WS.nil ?_
                                      skip
                                · first
                                    | ((exfalso; simp at h69; done); done)
                                    | skip
                                      refine WP.skip ?_
                                      refine WP.inBlock ?_
                                      refine WP.region rfl ?_
                                      refine WS.val rfl (LK.move rfl) ?_
                                      first | refine WS.val rfl (LK.add_to rfl rfl hkn) ?_ | refine WS.val rfl (LK.add rfl rfl) ?_
                                      refine WS.val rfl (LK.assign rfl) ?_
                                      refine WS.nil ?_
                                      exact WP.sub (gs := [(3, _), (4, _), (5, _), (6, .int .i64 (x : Int)), (7, .int .i64 ((n + 1 : Nat) : Int))]) (ih ((jof cl).b.length + 1 - (n + 1)) _ _ (by omega) ⟨n + 1, x, rfl, by omega, hx, (hE.trans hE2 (fun i _ h => h)).trans hE3 (fun i _ h => h), rfl, fun k hk h => Nat.le_succ_of_le (hlx k hk h)⟩) ⟨rfl, rfl, rfl, rfl, rfl, trivial⟩
        · first
            | ((exfalso; have := of_decide_eq_false h28; omega); done)
            | skip
              refine WP.exit rfl ?_
              refine WP.seq ?_
              refine WP.region rfl ?_
              refine WS.val rfl (SV.len S2.b rfl) ?_
              refine WS.val rfl (LK.assign rfl) ?_
              refine WS.nil ?_
              refine WP.sub (gs := [(2, _)]) ?_ ⟨rfl, trivial⟩
              skip
      · skip
        refine WP.seq ?_
        refine WP.seq ?_
        refine WP.region rfl ?_
        refine WS.val rfl (LK.move rfl) ?_
        refine WS.val rfl (LK.move rfl) ?_
        first | refine WS.val rfl (SV.len S2.b rfl) ?_ | refine WS.val rfl (LK.len rfl) ?_ | refine WS.val rfl (LK.len_str rfl) ?_ | refine WS.val rfl (LK.len_emp rfl) ?_
        refine WS.val rfl (LK.leq rfl rfl) ?_
        refine WS.nil ?_
        refine WP.cond rfl (fun h28 => ?_) (fun h28 => ?_)
        · first
            | ((exfalso; have := of_decide_eq_true h28; omega); done)
            | skip
              refine WP.skip ?_
              refine WP.seq ?_
              refine WP.block ?_
              refine WP.seq ?_
              refine WP.block ?_
              refine WP.loop ?_
              skip
        · first
            | ((exfalso; have := of_decide_eq_true h28; omega); done)
            | skip
              refine WP.exit rfl ?_
              refine WP.seq ?_
              refine WP.region rfl ?_
              (refine WS.call rfl (LK.call rfl) (CallP.mono (worksK _) ?_); rintro _ Hc ⟨rfl, rfl⟩)
              refine WS.val rfl (LK.assign rfl) ?_
              refine WS.nil ?_
              refine WP.sub (gs := [(2, _)]) ?_ ⟨rfl, trivial⟩
              exact WP.ret rfl (Fin.ret' rfl rfl rfl)
end Go.Proofs.Ythakgknamfopcaa
