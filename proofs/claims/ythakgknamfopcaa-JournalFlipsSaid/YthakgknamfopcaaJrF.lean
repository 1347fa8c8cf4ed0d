/- Walks of the statements' own functions: comparing, and the bounds. -/
import Derived.Test.YthakgknamfopcaaJrE
namespace Go.Proofs.Ythakgknamfopcaa
open Go Go.Lv
set_option linter.unusedVariables false
set_option maxRecDepth 100000

set_option maxHeartbeats 4000000 in
theorem bytes (H : LH) (a b : LV) (bs : List UInt8) (ha : BV H a bs) (hb : BV H b bs) (hl : bs.length < 2 ^ 62) : CallP Try.prog 12 [a, b] H (fun o H' => H' = H ∧ o = .ret (.bool true)) := by
  refine en12 (by simp) ?_
  unfold c12
  have hneq : ∀ n : Int, (n != n) = false := fun n => by simp
  refine WP.seq ?_
  refine WP.region rfl ?_
  refine WS.val rfl (LK.assign rfl) ?_
  refine WS.nil ?_
  refine WP.seq ?_
  refine WP.seq ?_
  refine WP.region rfl ?_
  refine WS.val rfl (LK.move rfl) ?_
  refine WS.val rfl (SV.len ha rfl) ?_
  refine WS.val rfl (LK.move rfl) ?_
  refine WS.val rfl (SV.len hb rfl) ?_
  refine WS.val rfl (LK.neq rfl rfl) ?_
  refine WS.nil ?_
  refine WP.sub (gs := [(10, _), (4, _), (0, _), (1, _)]) ?_ ⟨rfl, rfl, rfl, rfl, trivial⟩
  refine WP.cond rfl (fun h10 => ?_) (fun h10 => ?_)
  · exfalso; simp at h10; done
  refine WP.skip ?_
  refine WP.seq ?_
  refine WP.seq ?_
  refine WP.region rfl ?_
  refine WS.val rfl (LK.assign rfl) ?_
  refine WS.nil ?_
  refine WP.sub (gs := [(5, _), (4, _), (0, _), (1, _)]) ?_ ⟨rfl, rfl, rfl, rfl, trivial⟩
  refine WP.block ?_
  refine WP.loop ?_
  refine WP.sub (gs := [(0, a), (1, b), (5, .int .i64 ((0 : Nat) : Int))]) ?_ ⟨rfl, rfl, rfl, trivial⟩
  refine WP.inv (fun n g H' => ∃ i : Nat, n = bs.length - i ∧ i ≤ bs.length ∧ H' = H ∧ g = [(0, a), (1, b), (5, .int .i64 (i : Int))]) (n := bs.length) ⟨0, rfl, Nat.zero_le _, rfl, rfl⟩ ?_
  rintro n g H' ⟨i, rfl, hi, rfl, rfl⟩ ih
  by_cases hlt : i < bs.length
  · obtain ⟨i1, o1, c1, cs1, e1, w1, p1, hv1, _, g1, k1⟩ := ha.at1 hlt
    obtain ⟨i2, o2, c2, cs2, e2, w2, p2, hv2, _, g2, k2⟩ := hb.at1 hlt
    rw [bytesL_get hlt] at k1 k2
    have hk1 : IntKind.i64.wrap ((i : Int) + 1) = ((i + 1 : Nat) : Int) := by rw [wrap_i64 (by omega) (by omega)]; rfl
    refine WP.seq ?_
    refine WP.seq ?_
    refine WP.region rfl ?_
    refine WS.val rfl (LK.move rfl) ?_
    refine WS.val rfl (LK.move rfl) ?_
    refine WS.val rfl (SV.len ha rfl) ?_
    refine WS.val rfl (LK.lss rfl rfl) ?_
    refine WS.nil ?_
    refine WP.cond rfl (fun h14 => ?_) (fun h14 => ?_)
    rotate_left
    · first | (exfalso; have := of_decide_eq_false h14; omega) | (exfalso; simp at h14; done)
    refine WP.skip ?_
    refine WP.seq ?_
    refine WP.block ?_
    refine WP.seq ?_
    refine WP.draw rfl ?_
    refine WD.val rfl (LK.move rfl) ?_
    refine WD.val rfl (LK.move rfl) ?_
    refine WD.val rfl (LK.indexAddr (congrArg some hv1) rfl natOf_cast hlt) ?_
    refine WD.val rfl (LK.load rfl g1 k1) ?_
    refine WD.val rfl (LK.move rfl) ?_
    refine WD.val rfl (LK.move rfl) ?_
    refine WD.val rfl (LK.indexAddr (congrArg some hv2) rfl natOf_cast hlt) ?_
    refine WD.val rfl (LK.load rfl g2 k2) ?_
    refine WD.val rfl (LK.neq rfl rfl) ?_
    refine WD.nil ?_
    refine WP.cond rfl (fun h25 => ?_) (fun h25 => ?_)
    · first | (exfalso; have := of_decide_eq_false h25; omega) | (exfalso; simp at h25; done)
    refine WP.skip ?_
    refine WP.inBlock ?_
    refine WP.region rfl ?_
    refine WS.val rfl (LK.move rfl) ?_
    refine WS.val rfl (LK.add_to rfl rfl hk1) ?_
    refine WS.val rfl (LK.assign rfl) ?_
    refine WS.nil ?_
    exact WP.sub (gs := [(0, _), (1, _), (5, .int .i64 ((i + 1 : Nat) : Int))]) (ih (bs.length - (i + 1)) _ _ (by omega) ⟨i + 1, rfl, by omega, rfl, rfl⟩) ⟨rfl, rfl, rfl, trivial⟩
  · skip
    refine WP.seq ?_
    refine WP.seq ?_
    refine WP.region rfl ?_
    refine WS.val rfl (LK.move rfl) ?_
    refine WS.val rfl (LK.move rfl) ?_
    refine WS.val rfl (SV.len ha rfl) ?_
    refine WS.val rfl (LK.lss rfl rfl) ?_
    refine WS.nil ?_
    refine WP.cond rfl (fun h14 => ?_) (fun h14 => ?_)
    · exfalso; have := of_decide_eq_true h14; omega
    refine WP.exit rfl ?_
    refine WP.seq ?_
    refine WP.region rfl ?_
    refine WS.val rfl (LK.assign rfl) ?_
    refine WS.nil ?_
    refine WP.sub (gs := [(4, _)]) ?_ ⟨rfl, trivial⟩
    exact WP.ret rfl (Fin.ret' rfl rfl ⟨rfl, rfl⟩)
set_option maxHeartbeats 16000000 in
theorem cmd (H : LH) (c : LCmd) (ca cb : List LV) (ha : CmdC H c ca) (hb : CmdC H c cb) (hl1 : c.draws.length < 2 ^ 62) (hl2 : c.bounds.length < 2 ^ 62) : CallP Try.prog 31 [.agg ca, .agg cb] H (fun o H' => Ext H H' none' ∧ o = .ret (.bool true)) := by
  obtain ⟨d1, b1, rfl, hd1, hb1⟩ := ha
  obtain ⟨d2, b2, rfl, hd2, hb2⟩ := hb
  have ho1 := cells7_one (op := c.op) (u := c.u) (v := c.v) (w := c.w) (t := c.t) (SV.one hd1) (SV.one hb1)
  have ho2 := cells7_one (op := c.op) (u := c.u) (v := c.v) (w := c.w) (t := c.t) (SV.one hd2) (SV.one hb2)
  refine en31 (by simp) ?_
  unfold c31
  generalize hH2 : (H.new (.cells (cells7 c.op c.u c.v c.w c.t d1 b1) 28 true false)).new (.cells (cells7 c.op c.u c.v c.w c.t d2 b2) 28 true false) = H2
  have hn2 : H2.next = H.next + 2 := by rw [← hH2]; rfl
  have hE2 : Ext H H2 none' := by rw [← hH2]; exact ((Ext.refl _ _).new _).new _
  have g1 : H2.get H.next = some (.cells (cells7 c.op c.u c.v c.w c.t d1 b1) 28 true false) := by rw [← hH2, get_new_old (by simp)]; exact get_new_self
  have g2 : H2.get (H.next + 1) = some (.cells (cells7 c.op c.u c.v c.w c.t d2 b2) 28 true false) := by rw [← hH2]; exact get_new_self
  have hd1' := hd1.ext hE2 (fun i _ h => h)
  have hd2' := hd2.ext hE2 (fun i _ h => h)
  have hb1' := hb1.ext hE2 (fun i _ h => h)
  have hb2' := hb2.ext hE2 (fun i _ h => h)
  refine WP.seq ?_
  refine WP.region rfl ?_
  refine WS.val rfl (LK.box rfl ho1) ?_
  refine WS.val rfl (LK.box rfl ho2) ?_
  refine WS.val rfl (LK.assign rfl) ?_
  refine WS.nil ?_
  refine WP.sub (gs := [(4, _), (3, _), (2, _)]) ?_ ⟨rfl, rfl, rfl, trivial⟩
  refine WP.seq ?_
  refine WP.seq ?_
  refine (?_ : WP Try.prog _ _ _ ((H.new (.cells (cells7 c.op c.u c.v c.w c.t d1 b1) 28 true false)).new (.cells (cells7 c.op c.u c.v c.w c.t d2 b2) 28 true false)) _)
  rw [hH2]
  refine WP.region rfl ?_
  refine WS.val rfl (LK.fieldAddr rfl rfl) ?_
  refine WS.val rfl (LK.load rfl g1 rfl) ?_
  refine WS.val rfl (LK.fieldAddr rfl rfl) ?_
  refine WS.val rfl (LK.load rfl g2 rfl) ?_
  refine WS.val rfl (LK.neq rfl rfl) ?_
  refine WS.val rfl (LK.move rfl) ?_
  first | refine WS.val rfl (LK.fieldAddr rfl rfl) ?_ | refine WS.no rfl ?_ | (refine WS.guard rfl (fun h12 => ?_) (fun h12 => ?_) <;> first | refine WS.val rfl (LK.fieldAddr rfl rfl) ?_ | refine WS.no rfl ?_)
  all_goals first | refine WS.val rfl (LK.load rfl g1 rfl) ?_ | refine WS.no rfl ?_
  all_goals first | refine WS.val rfl (LK.fieldAddr rfl rfl) ?_ | refine WS.no rfl ?_
  all_goals first | refine WS.val rfl (LK.load rfl g2 rfl) ?_ | refine WS.no rfl ?_
  all_goals first | refine WS.val rfl (LK.neq rfl rfl) ?_ | refine WS.no rfl ?_
  all_goals first | refine WS.val rfl (LK.pick_t rfl rfl) ?_ | refine WS.val rfl (LK.pick_f rfl rfl) ?_
  all_goals (refine WS.val rfl (LK.move rfl) ?_)
  all_goals first | refine WS.val rfl (LK.fieldAddr rfl rfl) ?_ | refine WS.no rfl ?_ | (refine WS.guard rfl (fun h19 => ?_) (fun h19 => ?_) <;> first | refine WS.val rfl (LK.fieldAddr rfl rfl) ?_ | refine WS.no rfl ?_)
  all_goals first | refine WS.val rfl (LK.load rfl g1 rfl) ?_ | refine WS.no rfl ?_
  all_goals first | refine WS.val rfl (LK.fieldAddr rfl rfl) ?_ | refine WS.no rfl ?_
  all_goals first | refine WS.val rfl (LK.load rfl g2 rfl) ?_ | refine WS.no rfl ?_
  all_goals first | refine WS.val rfl (LK.neq rfl rfl) ?_ | refine WS.no rfl ?_
  all_goals first | refine WS.val rfl (LK.pick_t rfl rfl) ?_ | refine WS.val rfl (LK.pick_f rfl rfl) ?_
  all_goals (refine WS.val rfl (LK.move rfl) ?_)
  all_goals first | refine WS.val rfl (LK.fieldAddr rfl rfl) ?_ | refine WS.no rfl ?_ | (refine WS.guard rfl (fun h26 => ?_) (fun h26 => ?_) <;> first | refine WS.val rfl (LK.fieldAddr rfl rfl) ?_ | refine WS.no rfl ?_)
  all_goals first | refine WS.val rfl (LK.load rfl g1 rfl) ?_ | refine WS.no rfl ?_
  all_goals first | refine WS.val rfl (LK.fieldAddr rfl rfl) ?_ | refine WS.no rfl ?_
  all_goals first | refine WS.val rfl (LK.load rfl g2 rfl) ?_ | refine WS.no rfl ?_
  all_goals first | refine WS.val rfl (LK.neq rfl rfl) ?_ | refine WS.no rfl ?_
  all_goals first | refine WS.val rfl (LK.pick_t rfl rfl) ?_ | refine WS.val rfl (LK.pick_f rfl rfl) ?_
  all_goals (refine WS.val rfl (LK.move rfl) ?_)
  all_goals first | refine WS.val rfl (LK.fieldAddr rfl rfl) ?_ | refine WS.no rfl ?_ | (refine WS.guard rfl (fun h33 => ?_) (fun h33 => ?_) <;> first | refine WS.val rfl (LK.fieldAddr rfl rfl) ?_ | refine WS.no rfl ?_)
  all_goals first | refine WS.val rfl (LK.load rfl g1 rfl) ?_ | refine WS.no rfl ?_
  all_goals first | refine WS.val rfl (LK.fieldAddr rfl rfl) ?_ | refine WS.no rfl ?_
  all_goals first | refine WS.val rfl (LK.load rfl g2 rfl) ?_ | refine WS.no rfl ?_
  all_goals first | refine WS.val rfl (LK.neq rfl rfl) ?_ | refine WS.no rfl ?_
  all_goals first | refine WS.val rfl (LK.pick_t rfl rfl) ?_ | refine WS.val rfl (LK.pick_f rfl rfl) ?_
  all_goals (refine WS.val rfl (LK.move rfl) ?_)
  all_goals first | refine WS.val rfl (LK.fieldAddr rfl rfl) ?_ | refine WS.no rfl ?_ | (refine WS.guard rfl (fun h40 => ?_) (fun h40 => ?_) <;> first | refine WS.val rfl (LK.fieldAddr rfl rfl) ?_ | refine WS.no rfl ?_)
  all_goals first | refine WS.val rfl (LK.load rfl g1 rfl) ?_ | refine WS.no rfl ?_
  all_goals first | refine WS.val rfl (SV.len hd1' rfl) ?_ | refine WS.no rfl ?_
  all_goals first | refine WS.val rfl (LK.fieldAddr rfl rfl) ?_ | refine WS.no rfl ?_
  all_goals first | refine WS.val rfl (LK.load rfl g2 rfl) ?_ | refine WS.no rfl ?_
  all_goals first | refine WS.val rfl (SV.len hd2' rfl) ?_ | refine WS.no rfl ?_
  all_goals first | refine WS.val rfl (LK.neq rfl rfl) ?_ | refine WS.no rfl ?_
  all_goals first | refine WS.val rfl (LK.pick_t rfl rfl) ?_ | refine WS.val rfl (LK.pick_f rfl rfl) ?_
  all_goals (refine WS.val rfl (LK.move rfl) ?_)
  all_goals first | refine WS.val rfl (LK.fieldAddr rfl rfl) ?_ | refine WS.no rfl ?_ | (refine WS.guard rfl (fun h49 => ?_) (fun h49 => ?_) <;> first | refine WS.val rfl (LK.fieldAddr rfl rfl) ?_ | refine WS.no rfl ?_)
  all_goals first | refine WS.val rfl (LK.load rfl g1 rfl) ?_ | refine WS.no rfl ?_
  all_goals first | refine WS.val rfl (SV.len hb1' rfl) ?_ | refine WS.no rfl ?_
  all_goals first | refine WS.val rfl (LK.fieldAddr rfl rfl) ?_ | refine WS.no rfl ?_
  all_goals first | refine WS.val rfl (LK.load rfl g2 rfl) ?_ | refine WS.no rfl ?_
  all_goals first | refine WS.val rfl (SV.len hb2' rfl) ?_ | refine WS.no rfl ?_
  all_goals first | refine WS.val rfl (LK.neq rfl rfl) ?_ | refine WS.no rfl ?_
  all_goals first | refine WS.val rfl (LK.pick_t rfl rfl) ?_ | refine WS.val rfl (LK.pick_f rfl rfl) ?_
  all_goals
   refine WS.nil ?_
   refine WP.sub (gs := [(57, _), (4, _), (3, _), (2, _)]) ?_ ⟨rfl, rfl, rfl, rfl, trivial⟩
   refine WP.cond rfl (fun h57 => ?_) (fun h57 => ?_)
   · exfalso; simp at *; done
   first
    | ((exfalso; simp at *; done); done)
    | skip
      refine WP.skip ?_
      refine WP.seq ?_
      refine WP.seq ?_
      refine WP.region rfl ?_
      refine WS.val rfl (LK.assign rfl) ?_
      refine WS.nil ?_
      refine WP.sub (gs := [(5, _), (4, _), (3, _), (2, _)]) ?_ ⟨rfl, rfl, rfl, rfl, trivial⟩
      refine WP.block ?_
      refine WP.loop ?_
      refine WP.sub (gs := [(2, .ptr (some (H.next, 0))), (3, .ptr (some (H.next + 1, 0))), (5, .int .i64 ((0 : Nat) : Int))]) ?_ ⟨rfl, rfl, rfl, trivial⟩
      refine WP.inv (fun n g H' => ∃ i : Nat, n = c.draws.length - i ∧ i ≤ c.draws.length ∧ H' = H2 ∧ g = [(2, .ptr (some (H.next, 0))), (3, .ptr (some (H.next + 1, 0))), (5, .int .i64 (i : Int))]) (n := c.draws.length) ⟨0, rfl, Nat.zero_le _, rfl, rfl⟩ ?_
      rintro n g H' ⟨i, rfl, hi, rfl, rfl⟩ ih
      by_cases hlt : i < c.draws.length
      · obtain ⟨i1, o1, c1, cs1, e1, w1, p1, hv1, _, x1, k1⟩ := hd1'.at1 hlt
        obtain ⟨i2, o2, c2, cs2, e2, w2, p2, hv2, _, x2, k2⟩ := hd2'.at1 hlt
        have hk : (u64L c.draws)[i]? = some (.int .u64 (c.draws[i] : Int)) := by simp [u64L, hlt]
        rw [hk] at k1 k2
        have hk1 : IntKind.i64.wrap ((i : Int) + 1) = ((i + 1 : Nat) : Int) := by rw [wrap_i64 (by omega) (by omega)]; rfl
        refine WP.seq ?_
        refine WP.seq ?_
        refine WP.region rfl ?_
        refine WS.val rfl (LK.move rfl) ?_
        refine WS.val rfl (LK.fieldAddr rfl rfl) ?_
        refine WS.val rfl (LK.load rfl g1 rfl) ?_
        refine WS.val rfl (SV.len hd1' rfl) ?_
        refine WS.val rfl (LK.lss rfl rfl) ?_
        refine WS.nil ?_
        refine WP.cond rfl (fun h62 => ?_) (fun h62 => ?_)
        rotate_left
        · first | (exfalso; have := of_decide_eq_false h62; omega) | (exfalso; simp at h62; done)
        refine WP.skip ?_
        refine WP.seq ?_
        refine WP.block ?_
        refine WP.seq ?_
        refine WP.draw rfl ?_
        refine WD.val rfl (LK.fieldAddr rfl rfl) ?_
        refine WD.val rfl (LK.load rfl g1 rfl) ?_
        refine WD.val rfl (LK.move rfl) ?_
        refine WD.val rfl (LK.indexAddr (congrArg some hv1) rfl natOf_cast hlt) ?_
        refine WD.val rfl (LK.load rfl x1 k1) ?_
        refine WD.val rfl (LK.fieldAddr rfl rfl) ?_
        refine WD.val rfl (LK.load rfl g2 rfl) ?_
        refine WD.val rfl (LK.move rfl) ?_
        refine WD.val rfl (LK.indexAddr (congrArg some hv2) rfl natOf_cast hlt) ?_
        refine WD.val rfl (LK.load rfl x2 k2) ?_
        refine WD.val rfl (LK.neq rfl rfl) ?_
        refine WD.nil ?_
        refine WP.cond rfl (fun h75 => ?_) (fun h75 => ?_)
        · first | (exfalso; have := of_decide_eq_false h75; omega) | (exfalso; simp at h75; done)
        refine WP.skip ?_
        refine WP.inBlock ?_
        refine WP.region rfl ?_
        refine WS.val rfl (LK.move rfl) ?_
        refine WS.val rfl (LK.add_to rfl rfl hk1) ?_
        refine WS.val rfl (LK.assign rfl) ?_
        refine WS.nil ?_
        exact WP.sub (gs := [(2, _), (3, _), (5, .int .i64 ((i + 1 : Nat) : Int))]) (ih (c.draws.length - (i + 1)) _ _ (by omega) ⟨i + 1, rfl, by omega, rfl, rfl⟩) ⟨rfl, rfl, rfl, trivial⟩
      · skip
        refine WP.seq ?_
        refine WP.seq ?_
        refine WP.region rfl ?_
        refine WS.val rfl (LK.move rfl) ?_
        refine WS.val rfl (LK.fieldAddr rfl rfl) ?_
        refine WS.val rfl (LK.load rfl g1 rfl) ?_
        refine WS.val rfl (SV.len hd1' rfl) ?_
        refine WS.val rfl (LK.lss rfl rfl) ?_
        refine WS.nil ?_
        refine WP.cond rfl (fun h62 => ?_) (fun h62 => ?_)
        · exfalso; have := of_decide_eq_true h62; omega
        refine WP.exit rfl ?_
        refine WP.seq ?_
        refine WP.seq ?_
        refine WP.region rfl ?_
        refine WS.val rfl (LK.assign rfl) ?_
        refine WS.nil ?_
        refine WP.sub (gs := [(6, _), (2, _), (3, _)]) ?_ ⟨rfl, rfl, rfl, trivial⟩
        refine WP.block ?_
        refine WP.loop ?_
        refine WP.sub (gs := [(2, .ptr (some (H.next, 0))), (3, .ptr (some (H.next + 1, 0))), (6, .int .i64 ((0 : Nat) : Int))]) ?_ ⟨rfl, rfl, rfl, trivial⟩
        refine WP.inv (fun n g H'' => ∃ i : Nat, n = c.bounds.length - i ∧ i ≤ c.bounds.length ∧ H'' = H' ∧ g = [(2, .ptr (some (H.next, 0))), (3, .ptr (some (H.next + 1, 0))), (6, .int .i64 (i : Int))]) (n := c.bounds.length) ⟨0, rfl, Nat.zero_le _, rfl, rfl⟩ ?_
        rintro n g H'' ⟨j, rfl, hj, rfl, rfl⟩ ih2
        by_cases hlj : j < c.bounds.length
        · obtain ⟨i1, o1, c1, cs1, e1, w1, p1, hv1, _, x1, k1⟩ := hb1'.at1 hlj
          obtain ⟨i2, o2, c2, cs2, e2, w2, p2, hv2, _, x2, k2⟩ := hb2'.at1 hlj
          have hk : (i64L c.bounds)[j]? = some (.int .i64 c.bounds[j]) := by simp [i64L, hlj]
          rw [hk] at k1 k2
          have hk1 : IntKind.i64.wrap ((j : Int) + 1) = ((j + 1 : Nat) : Int) := by rw [wrap_i64 (by omega) (by omega)]; rfl
          refine WP.seq ?_
          refine WP.seq ?_
          refine WP.region rfl ?_
          refine WS.val rfl (LK.move rfl) ?_
          refine WS.val rfl (LK.fieldAddr rfl rfl) ?_
          refine WS.val rfl (LK.load rfl g1 rfl) ?_
          refine WS.val rfl (SV.len hb1' rfl) ?_
          refine WS.val rfl (LK.lss rfl rfl) ?_
          refine WS.nil ?_
          refine WP.cond rfl (fun h80 => ?_) (fun h80 => ?_)
          rotate_left
          · first | (exfalso; have := of_decide_eq_false h80; omega) | (exfalso; simp at h80; done)
          refine WP.skip ?_
          refine WP.seq ?_
          refine WP.block ?_
          refine WP.seq ?_
          refine WP.draw rfl ?_
          refine WD.val rfl (LK.fieldAddr rfl rfl) ?_
          refine WD.val rfl (LK.load rfl g1 rfl) ?_
          refine WD.val rfl (LK.move rfl) ?_
          refine WD.val rfl (LK.indexAddr (congrArg some hv1) rfl natOf_cast hlj) ?_
          refine WD.val rfl (LK.load rfl x1 k1) ?_
          refine WD.val rfl (LK.fieldAddr rfl rfl) ?_
          refine WD.val rfl (LK.load rfl g2 rfl) ?_
          refine WD.val rfl (LK.move rfl) ?_
          refine WD.val rfl (LK.indexAddr (congrArg some hv2) rfl natOf_cast hlj) ?_
          refine WD.val rfl (LK.load rfl x2 k2) ?_
          refine WD.val rfl (LK.neq rfl rfl) ?_
          refine WD.nil ?_
          refine WP.cond rfl (fun h93 => ?_) (fun h93 => ?_)
          · first | (exfalso; have := of_decide_eq_false h93; omega) | (exfalso; simp at h93; done)
          refine WP.skip ?_
          refine WP.inBlock ?_
          refine WP.region rfl ?_
          refine WS.val rfl (LK.move rfl) ?_
          refine WS.val rfl (LK.add_to rfl rfl hk1) ?_
          refine WS.val rfl (LK.assign rfl) ?_
          refine WS.nil ?_
          exact WP.sub (gs := [(2, _), (3, _), (6, .int .i64 ((j + 1 : Nat) : Int))]) (ih2 (c.bounds.length - (j + 1)) _ _ (by omega) ⟨j + 1, rfl, by omega, rfl, rfl⟩) ⟨rfl, rfl, rfl, trivial⟩
        · skip
          refine WP.seq ?_
          refine WP.seq ?_
          refine WP.region rfl ?_
          refine WS.val rfl (LK.move rfl) ?_
          refine WS.val rfl (LK.fieldAddr rfl rfl) ?_
          refine WS.val rfl (LK.load rfl g1 rfl) ?_
          refine WS.val rfl (SV.len hb1' rfl) ?_
          refine WS.val rfl (LK.lss rfl rfl) ?_
          refine WS.nil ?_
          refine WP.cond rfl (fun h80 => ?_) (fun h80 => ?_)
          · exfalso; have := of_decide_eq_true h80; omega
          refine WP.exit rfl ?_
          refine WP.seq ?_
          refine WP.region rfl ?_
          refine WS.val rfl (LK.assign rfl) ?_
          refine WS.nil ?_
          refine WP.sub (gs := [(4, _)]) ?_ ⟨rfl, trivial⟩
          exact WP.ret rfl (Fin.ret' rfl rfl ⟨hE2, rfl⟩)
/-- A slice of commands. -/
def CV (H : LH) (v : LV) (cl : List LCmd) (ls : List LV) : Prop := SV H 7 v cl.length ls ∧ CmdsC H cl ls
theorem CV.at {H : LH} {v : LV} {cl : List LCmd} {ls : List LV} (h : CV H v cl ls) {k : Nat} (hk : k < cl.length) : ∃ i off c cs e own opn, v = .slice (some (i, off)) cl.length c ∧ i < H.next ∧ H.get i = some (.cells cs e own opn) ∧
    off + k * 7 + 7 ≤ cs.length ∧ (cs.drop (off + k * 7)).take 7 = (ls.drop (k * 7)).take 7 ∧ CmdC H cl[k] ((ls.drop (k * 7)).take 7) := by
  obtain ⟨i, off, c, cs, e, own, opn, h1, h2, h3, h4, h5, h6⟩ := h.1.at hk
  exact ⟨i, off, c, cs, e, own, opn, h1, h2, h3, h4, h6, h.2.at (by simp [hk])⟩
theorem CV.ext {H H' : LH} {W : Nat → Prop} {v : LV} {cl : List LCmd} {ls : List LV} (h : CV H v cl ls) (hE : Ext H H' W) (h1 : ∀ i, v.bid? = some i → ¬ W i) (h2 : ∀ x ∈ ls, ∀ i, x.bid? = some i → ¬ W i) : CV H' v cl ls :=
  ⟨h.1.ext hE h1, CmdsC.ext hE h.2 h2⟩

set_option maxHeartbeats 4000000 in
theorem cmds (H : LH) (a b : LV) (cl : List LCmd) (la lb : List LV) (ha : CV H a cl la) (hb : CV H b cl lb) (hl : cl.length < 2 ^ 62) (hs : ∀ c ∈ cl, c.draws.length < 2 ^ 62 ∧ c.bounds.length < 2 ^ 62) : CallP Try.prog 17 [a, b] H (fun o H' => Ext H H' none' ∧ o = .ret (.bool true)) := by
  refine en17 (by simp) ?_
  unfold c17
  refine WP.seq ?_
  refine WP.region rfl ?_
  refine WS.val rfl (LK.assign rfl) ?_
  refine WS.nil ?_
  refine WP.seq ?_
  refine WP.seq ?_
  refine WP.region rfl ?_
  refine WS.val rfl (LK.move rfl) ?_
  refine WS.val rfl (SV.len ha.1 rfl) ?_
  refine WS.val rfl (LK.move rfl) ?_
  refine WS.val rfl (SV.len hb.1 rfl) ?_
  refine WS.val rfl (LK.neq rfl rfl) ?_
  refine WS.nil ?_
  refine WP.sub (gs := [(10, _), (4, _), (0, _), (1, _)]) ?_ ⟨rfl, rfl, rfl, rfl, trivial⟩
  refine WP.cond rfl (fun h10 => ?_) (fun h10 => ?_)
  · exfalso; simp at h10; done
  refine WP.skip ?_
  refine WP.seq ?_
  refine WP.seq ?_
  refine WP.region rfl ?_
  refine WS.val rfl (LK.assign rfl) ?_
  refine WS.nil ?_
  refine WP.sub (gs := [(5, _), (4, _), (0, _), (1, _)]) ?_ ⟨rfl, rfl, rfl, rfl, trivial⟩
  refine WP.block ?_
  refine WP.loop ?_
  refine WP.sub (gs := [(0, a), (1, b), (5, .int .i64 ((0 : Nat) : Int))]) ?_ ⟨rfl, rfl, rfl, trivial⟩
  refine WP.inv (fun n g H' => ∃ i : Nat, n = cl.length - i ∧ i ≤ cl.length ∧ Ext H H' none' ∧ g = [(0, a), (1, b), (5, .int .i64 (i : Int))]) (n := cl.length) ⟨0, rfl, Nat.zero_le _, Ext.refl _ _, rfl⟩ ?_
  rintro n g H' ⟨i, rfl, hi, hE, rfl⟩ ih
  have ha' := ha.ext hE (fun i _ h => h) (fun _ _ _ _ h => h)
  have hb' := hb.ext hE (fun i _ h => h) (fun _ _ _ _ h => h)
  by_cases hlt : i < cl.length
  · obtain ⟨i1, o1, c1, cs1, e1, w1, p1, hv1, _, g1, l1, k1, m1⟩ := ha'.at hlt
    obtain ⟨i2, o2, c2, cs2, e2, w2, p2, hv2, _, g2, l2, k2, m2⟩ := hb'.at hlt
    have hk1 : IntKind.i64.wrap ((i : Int) + 1) = ((i + 1 : Nat) : Int) := by rw [wrap_i64 (by omega) (by omega)]; rfl
    have hsc := hs _ (List.getElem_mem hlt)
    have hcall := cmd H' cl[i] _ _ m1 m2 hsc.1 hsc.2
    refine WP.seq ?_
    refine WP.seq ?_
    refine WP.region rfl ?_
    refine WS.val rfl (LK.move rfl) ?_
    refine WS.val rfl (LK.move rfl) ?_
    refine WS.val rfl (SV.len ha'.1 rfl) ?_
    refine WS.val rfl (LK.lss rfl rfl) ?_
    refine WS.nil ?_
    refine WP.cond rfl (fun h14 => ?_) (fun h14 => ?_)
    rotate_left
    · first | (exfalso; have := of_decide_eq_false h14; omega) | (exfalso; simp at h14; done)
    refine WP.skip ?_
    refine WP.seq ?_
    refine WP.block ?_
    refine WP.seq ?_
    refine WP.draw rfl ?_
    refine WD.val rfl (LK.move rfl) ?_
    refine WD.val rfl (LK.move rfl) ?_
    refine WD.val rfl (LK.indexAddr (congrArg some hv1) rfl natOf_cast hlt) ?_
    refine WD.val rfl (LK.load_agg (xs := (la.drop (i * 7)).take 7) rfl g1 l1 k1) ?_
    refine WD.val rfl (LK.move rfl) ?_
    refine WD.val rfl (LK.move rfl) ?_
    refine WD.val rfl (LK.indexAddr (congrArg some hv2) rfl natOf_cast hlt) ?_
    refine WD.val rfl (LK.load_agg (xs := (lb.drop (i * 7)).take 7) rfl g2 l2 k2) ?_
    (refine WD.call rfl (LK.call rfl) (fun o h => by simp only [okind, h]) (CallP.mono (hcall) ?_); rintro _ Hc ⟨hE2, rfl⟩)
    refine WD.val rfl (LK.not rfl) ?_
    refine WD.nil ?_
    refine WP.cond rfl (fun h26 => ?_) (fun h26 => ?_)
    · first | (exfalso; have := of_decide_eq_false h26; omega) | (exfalso; simp at h26; done)
    refine WP.skip ?_
    refine WP.inBlock ?_
    refine WP.region rfl ?_
    refine WS.val rfl (LK.move rfl) ?_
    refine WS.val rfl (LK.add_to rfl rfl hk1) ?_
    refine WS.val rfl (LK.assign rfl) ?_
    refine WS.nil ?_
    exact WP.sub (gs := [(0, _), (1, _), (5, .int .i64 ((i + 1 : Nat) : Int))]) (ih (cl.length - (i + 1)) _ _ (by omega) ⟨i + 1, rfl, by omega, hE.trans hE2 (fun i _ h => h), rfl⟩) ⟨rfl, rfl, rfl, trivial⟩
  · skip
    refine WP.seq ?_
    refine WP.seq ?_
    refine WP.region rfl ?_
    refine WS.val rfl (LK.move rfl) ?_
    refine WS.val rfl (LK.move rfl) ?_
    refine WS.val rfl (SV.len ha'.1 rfl) ?_
    refine WS.val rfl (LK.lss rfl rfl) ?_
    refine WS.nil ?_
    refine WP.cond rfl (fun h14 => ?_) (fun h14 => ?_)
    · exfalso; have := of_decide_eq_true h14; omega
    refine WP.exit rfl ?_
    refine WP.seq ?_
    refine WP.region rfl ?_
    refine WS.val rfl (LK.assign rfl) ?_
    refine WS.nil ?_
    refine WP.sub (gs := [(4, _)]) ?_ ⟨rfl, trivial⟩
    exact WP.ret rfl (Fin.ret' rfl rfl ⟨hE, rfl⟩)
def Small (c : LCmd) : Prop := c.draws.length ≤ 50 ∧ c.bounds.length ≤ 50
set_option maxHeartbeats 4000000 in
theorem few (H : LH) (a : LV) (cl : List LCmd) (la : List LV) (ha : CV H a cl la) (most : Nat) (hl : most < 2 ^ 62) : CallP Try.prog 8 [a, .int .i64 most] H (fun o H' => H' = H ∧ ∃ q, o = .ret (.bool q) ∧ (q = true → cl.length ≤ most ∧ ∀ c ∈ cl, Small c)) := by
  refine en8 (by simp) ?_
  unfold c8
  refine WP.seq ?_
  refine WP.region rfl ?_
  refine WS.val rfl (LK.assign rfl) ?_
  refine WS.nil ?_
  refine WP.seq ?_
  refine WP.seq ?_
  refine WP.region rfl ?_
  refine WS.val rfl (LK.move rfl) ?_
  refine WS.val rfl (SV.len ha.1 rfl) ?_
  refine WS.val rfl (LK.move rfl) ?_
  refine WS.val rfl (LK.gtr rfl rfl) ?_
  refine WS.nil ?_
  refine WP.sub (gs := [(9, _), (4, _), (0, _)]) ?_ ⟨rfl, rfl, rfl, trivial⟩
  refine WP.cond rfl (fun h9 => ?_) (fun h9 => ?_)
  · skip
    refine WP.seq ?_
    refine WP.region rfl ?_
    refine WS.val rfl (LK.assign rfl) ?_
    refine WS.nil ?_
    refine WP.sub (gs := [(4, _), (0, _)]) ?_ ⟨rfl, rfl, trivial⟩
    exact WP.ret rfl (Fin.ret' rfl rfl ⟨rfl, false, rfl, fun h => (nomatch h)⟩)
  refine WP.skip ?_
  refine WP.seq ?_
  refine WP.seq ?_
  refine WP.region rfl ?_
  refine WS.val rfl (LK.assign rfl) ?_
  refine WS.nil ?_
  refine WP.sub (gs := [(5, _), (4, _), (0, _)]) ?_ ⟨rfl, rfl, rfl, trivial⟩
  refine WP.block ?_
  refine WP.loop ?_
  have hm : cl.length ≤ most := by have := of_decide_eq_false h9; omega
  refine WP.sub (gs := [(0, a), (5, .int .i64 ((0 : Nat) : Int))]) ?_ ⟨rfl, rfl, trivial⟩
  refine WP.inv (fun n g H' => ∃ i : Nat, n = cl.length - i ∧ i ≤ cl.length ∧ H' = H ∧ g = [(0, a), (5, .int .i64 (i : Int))] ∧ ∀ c ∈ cl.take i, Small c) (n := cl.length) ⟨0, rfl, Nat.zero_le _, rfl, rfl, by simp⟩ ?_
  rintro n g H' ⟨i, rfl, hi, rfl, rfl, hsm⟩ ih
  by_cases hlt : i < cl.length
  · obtain ⟨i1, o1, c1, cs1, e1, w1, p1, hv1, _, g1, l1, k1, m1⟩ := ha.at hlt
    have hk1 : IntKind.i64.wrap ((i : Int) + 1) = ((i + 1 : Nat) : Int) := by rw [wrap_i64 (by omega) (by omega)]; rfl
    obtain ⟨d, b, hcs, hd, hb⟩ := m1
    rw [hcs] at k1
    have kd : cs1[o1 + i * 7 + 5]? = some d := by
      have := congrArg (fun l => l[5]?) k1
      simp only [List.getElem?_take, List.getElem?_drop] at this
      rw [if_pos (by omega)] at this
      exact this
    have kb : cs1[o1 + i * 7 + 6]? = some b := by
      have := congrArg (fun l => l[6]?) k1
      simp only [List.getElem?_take, List.getElem?_drop] at this
      rw [if_pos (by omega)] at this
      exact this
    refine WP.seq ?_
    refine WP.seq ?_
    refine WP.region rfl ?_
    refine WS.val rfl (LK.move rfl) ?_
    refine WS.val rfl (LK.move rfl) ?_
    refine WS.val rfl (SV.len ha.1 rfl) ?_
    refine WS.val rfl (LK.lss rfl rfl) ?_
    refine WS.nil ?_
    refine WP.cond rfl (fun h13 => ?_) (fun h13 => ?_)
    rotate_left
    · first | (exfalso; have := of_decide_eq_false h13; omega) | (exfalso; simp at h13; done)
    refine WP.skip ?_
    refine WP.seq ?_
    refine WP.block ?_
    refine WP.seq ?_
    refine WP.region rfl ?_
    refine WS.val rfl (LK.move rfl) ?_
    refine WS.val rfl (LK.move rfl) ?_
    refine WS.val rfl (LK.indexAddr (congrArg some hv1) rfl natOf_cast hlt) ?_
    refine WS.val rfl (LK.fieldAddr rfl rfl) ?_
    refine WS.val rfl (LK.load rfl g1 kd) ?_
    refine WS.val rfl (SV.len hd rfl) ?_
    refine WS.val rfl (LK.gtr rfl rfl) ?_
    refine WS.val rfl (LK.move rfl) ?_
    first | refine WS.val rfl (LK.move rfl) ?_ | refine WS.no rfl ?_ | (refine WS.guard rfl (fun h23 => ?_) (fun h23 => ?_) <;> first | refine WS.val rfl (LK.move rfl) ?_ | refine WS.no rfl ?_)
    all_goals first | refine WS.val rfl (LK.move rfl) ?_ | refine WS.no rfl ?_
    all_goals first | refine WS.val rfl (LK.indexAddr (congrArg some hv1) rfl natOf_cast hlt) ?_ | refine WS.no rfl ?_
    all_goals first | refine WS.val rfl (LK.fieldAddr rfl rfl) ?_ | refine WS.no rfl ?_
    all_goals first | refine WS.val rfl (LK.load rfl g1 kb) ?_ | refine WS.no rfl ?_
    all_goals first | refine WS.val rfl (SV.len hb rfl) ?_ | refine WS.no rfl ?_
    all_goals first | refine WS.val rfl (LK.gtr rfl rfl) ?_ | refine WS.no rfl ?_
    all_goals first | refine WS.val rfl (LK.pick_t rfl rfl) ?_ | refine WS.val rfl (LK.pick_f rfl rfl) ?_
    all_goals
     refine WS.nil ?_
     refine WP.cond rfl (fun h31 => ?_) (fun h31 => ?_)
     · skip
       refine WP.seq ?_
       refine WP.region rfl ?_
       refine WS.val rfl (LK.assign rfl) ?_
       refine WS.nil ?_
       exact WP.ret rfl (Fin.ret' rfl rfl ⟨rfl, false, rfl, fun h => (nomatch h)⟩)
     first
      | ((first | (exfalso; have := of_decide_eq_false h31; omega) | (exfalso; simp at h31; done)); done)
      | skip
        refine WP.skip ?_
        refine WP.inBlock ?_
        refine WP.region rfl ?_
        refine WS.val rfl (LK.move rfl) ?_
        refine WS.val rfl (LK.add_to rfl rfl hk1) ?_
        refine WS.val rfl (LK.assign rfl) ?_
        refine WS.nil ?_
        have hsmall : Small cl[i] := by
          simp only [Bool.not_true, decide_eq_false_iff_not] at h23 h31
          constructor <;> omega
        exact WP.sub (gs := [(0, _), (5, .int .i64 ((i + 1 : Nat) : Int))]) (ih (cl.length - (i + 1)) _ _ (by omega) ⟨i + 1, rfl, by omega, rfl, rfl, fun c hc => by
          rw [List.take_succ_eq_append_getElem hlt] at hc
          rcases List.mem_append.1 hc with hc | hc
          · exact hsm c hc
          · simp at hc; subst hc; exact hsmall⟩) ⟨rfl, rfl, trivial⟩
  · have hall : cl.take i = cl := List.take_of_length_le (by omega)
    rw [hall] at hsm
    refine WP.seq ?_
    refine WP.seq ?_
    refine WP.region rfl ?_
    refine WS.val rfl (LK.move rfl) ?_
    refine WS.val rfl (LK.move rfl) ?_
    refine WS.val rfl (SV.len ha.1 rfl) ?_
    refine WS.val rfl (LK.lss rfl rfl) ?_
    refine WS.nil ?_
    refine WP.cond rfl (fun h13 => ?_) (fun h13 => ?_)
    · exfalso; have := of_decide_eq_true h13; omega
    refine WP.exit rfl ?_
    refine WP.seq ?_
    refine WP.region rfl ?_
    refine WS.val rfl (LK.assign rfl) ?_
    refine WS.nil ?_
    refine WP.sub (gs := [(4, _)]) ?_ ⟨rfl, trivial⟩
    exact WP.ret rfl (Fin.ret' rfl rfl ⟨rfl, true, rfl, fun _ => ⟨hm, hsm⟩⟩)
/-! ### numbers -/
theorem gu_enc (rest : List UInt8) : ∀ (x i acc : Nat), x * 128 ^ i < 2 ^ 64 → (i = 0 ∨ 0 < x) → gu (encU x ++ rest) i acc = some (acc + x * 128 ^ i, i + (encU x).length) := by
  intro x
  induction x using Nat.strongRecOn with
  | ind x ih =>
    intro i acc hx h0
    have hi : i ≤ 9 := by
      rcases Nat.lt_or_ge 9 i with h | h
      · have h1 : 128 ^ 10 ≤ 128 ^ i := Nat.pow_le_pow_right (by omega) h
        have h2 : 0 < x := by omega
        have h3 : 1 * 128 ^ i ≤ x * 128 ^ i := Nat.mul_le_mul_right _ h2
        omega
      · exact h
    have h9 : i = 9 → x ≤ 1 := fun h => by subst h; omega
    rw [encU]
    by_cases hc : x < 128
    · rw [dif_pos hc]
      have e : (UInt8.ofNat x).toNat = x := by simp; omega
      simp only [List.cons_append, List.nil_append, gu, e]
      rw [if_neg, if_pos hc]
      · rfl
      · rintro (h | ⟨h, h'⟩ | ⟨h, h'⟩)
        · omega
        · have := h9 h; omega
        · omega
    · rw [dif_neg hc]
      have e : (UInt8.ofNat (x % 128 + 128)).toNat = x % 128 + 128 := by simp; omega
      simp only [List.cons_append, gu, e]
      have hi8 : i ≠ 9 := fun h => by have := h9 h; omega
      rw [if_neg (by omega), if_neg (by omega), ih (x / 128) (by omega) (i + 1) _ ?_ (.inr (by omega))]
      · have e1 : (x % 128 + 128) % 128 = x % 128 := by omega
        rw [e1, Nat.pow_succ]
        have e2 : x * 128 ^ i = (x % 128) * 128 ^ i + (x / 128) * (128 ^ i * 128) := by
          have : x = x % 128 + x / 128 * 128 := by omega
          conv => lhs; rw [this]
          rw [Nat.add_mul]
          congr 1
          rw [Nat.mul_assoc, Nat.mul_comm 128]
        simp only [List.length_cons]
        rw [e2]
        congr 2
        · omega
        · omega
      · rw [Nat.pow_succ]
        have : x / 128 * (128 ^ i * 128) = (x / 128 * 128) * 128 ^ i := by rw [Nat.mul_comm (128 ^ i), Nat.mul_assoc]
        rw [this]
        exact Nat.lt_of_le_of_lt (Nat.mul_le_mul_right _ (by omega)) hx
theorem rdU_enc {x : Nat} (h : x < 2 ^ 64) (rest : List UInt8) : rdU (encU x ++ rest) = some (x, rest) := by
  have := gu_enc rest x 0 0 (by simpa using h) (.inl rfl)
  simp only [Nat.pow_zero, Nat.mul_one, Nat.zero_add] at this
  unfold rdU getU
  rw [this]
  simp
theorem gu_append (ys : List UInt8) : ∀ {xs : List UInt8} {i x : Nat} {p : Nat × Nat}, gu xs i x = some p → gu (xs ++ ys) i x = some p
  | [], i, x, p, h => by cases h
  | c :: r, i, x, p, h => by
    simp only [List.cons_append, gu] at h ⊢
    split
    · rename_i hh; rw [if_pos hh] at h; cases h
    · rename_i hh
      rw [if_neg hh] at h
      split
      · rename_i h2; rw [if_pos h2] at h; exact h
      · rename_i h2; rw [if_neg h2] at h; exact gu_append ys h
theorem gu_take : ∀ {xs : List UInt8} {i x y k : Nat}, gu xs i x = some (y, k) → ∀ m, k ≤ i + m → gu (xs.take m) i x = some (y, k)
  | [], i, x, y, k, h, m, _ => by cases h
  | c :: r, i, x, y, k, h, 0, hm => by
    exfalso
    have : ∀ {xs : List UInt8} {i x y k : Nat}, gu xs i x = some (y, k) → i < k := by
      intro xs
      induction xs with
      | nil => intro i x y k h; cases h
      | cons c r ih =>
        intro i x y k h
        simp only [gu] at h
        split at h
        · cases h
        · split at h
          · cases h; omega
          · have := ih h; omega
    have := this h
    omega
  | c :: r, i, x, y, k, h, m + 1, hm => by
    simp only [List.take_succ_cons, gu] at h ⊢
    split
    · rename_i hh; rw [if_pos hh] at h; cases h
    · rename_i hh
      rw [if_neg hh] at h
      split
      · rename_i h2; rw [if_pos h2] at h; exact h
      · rename_i h2; rw [if_neg h2] at h; exact gu_take h m (by omega)
theorem getU_append (ys : List UInt8) {xs : List UInt8} {p : Nat × Nat} (h : getU xs = some p) : getU (xs ++ ys) = some p := gu_append ys h
theorem getU_take {xs : List UInt8} {y k : Nat} (h : getU xs = some (y, k)) {m : Nat} (hm : k ≤ m) : getU (xs.take m) = some (y, k) := gu_take h m (by omega)

/-! ### frames depend on their own bytes alone -/
theorem getC_iff {bs : List UInt8} {size k : Nat} (h : getU bs = some (size, k)) : getC bs = if size = 0 ∨ bs.length < k + size then none else
    (vis ((((bs.drop k).take size).getD 0 0).toNat : Int)).bind fun l => (decL l { zeroC with op := ((((bs.drop k).take size).getD 0 0).toNat : Int) } (((bs.drop k).take size).drop 1)).bind fun q => if q.2.length = 0 then some (q.1, k + size) else none := by
  have hs := getU_spec h
  unfold getC rdU
  rw [h]
  simp only [Option.map_some, Option.bind_some, List.length_drop]
  by_cases hh : size = 0 ∨ bs.length < k + size
  · rw [if_pos hh, if_pos (by omega)]
  · rw [if_neg hh, if_neg (by omega)]
    have e : bs.length - (bs.length - k) + size = k + size := by omega
    rw [e]
theorem getC_size {bs : List UInt8} {c : LCmd} {n : Nat} (h : getC bs = some (c, n)) : ∃ size k, getU bs = some (size, k) ∧ n = k + size ∧ 0 < size ∧ k + size ≤ bs.length := by
  cases hg : getU bs with
  | none => unfold getC rdU at h; rw [hg] at h; cases h
  | some p =>
    obtain ⟨size, k⟩ := p
    rw [getC_iff hg] at h
    split at h
    · cases h
    · rename_i hh
      refine ⟨size, k, rfl, ?_, by omega, by omega⟩
      cases hv : vis ((((bs.drop k).take size).getD 0 0).toNat : Int) with
      | none => rw [hv] at h; cases h
      | some l =>
        rw [hv, Option.bind_some] at h
        cases hd : decL l { zeroC with op := ((((bs.drop k).take size).getD 0 0).toNat : Int) } (((bs.drop k).take size).drop 1) with
        | none => rw [hd] at h; cases h
        | some q =>
          rw [hd, Option.bind_some] at h
          split at h
          · cases h; rfl
          · cases h
theorem getC_append (ys : List UInt8) {xs : List UInt8} {c : LCmd} {n : Nat} (h : getC xs = some (c, n)) : getC (xs ++ ys) = some (c, n) := by
  obtain ⟨size, k, hg, rfl, h0, hle⟩ := getC_size h
  rw [getC_iff hg, if_neg (by omega)] at h
  rw [getC_iff (getU_append ys hg), if_neg (by rw [List.length_append]; omega)]
  have e : ((xs ++ ys).drop k).take size = (xs.drop k).take size := by
    rw [List.drop_append_of_le_length (by omega), List.take_append_of_le_length (by rw [List.length_drop]; omega)]
  rw [e]; exact h
theorem getC_take {xs : List UInt8} {c : LCmd} {n : Nat} (h : getC xs = some (c, n)) {m : Nat} (hm : n ≤ m) : getC (xs.take m) = some (c, n) := by
  obtain ⟨size, k, hg, rfl, h0, hle⟩ := getC_size h
  rw [getC_iff hg, if_neg (by omega)] at h
  rw [getC_iff (getU_take hg (by omega)), if_neg (by rw [List.length_take]; omega)]
  have e : ((xs.take m).drop k).take size = (xs.drop k).take size := by
    rw [List.drop_take, List.take_take, Nat.min_eq_left (by omega)]
  rw [e]; exact h
theorem getC_same {xs ys : List UInt8} {c : LCmd} {n : Nat} (h : getC xs = some (c, n)) (he : ys.take n = xs.take n) : getC ys = some (c, n) := by
  have h1 := getC_take h (Nat.le_refl n)
  rw [← he] at h1
  have h2 := getC_append (ys.drop n) h1
  rw [List.take_append_drop] at h2
  exact h2
/-- The same record is there where the bytes up to its end are the same. -/
theorem nextR_same {bs bs' last : List UInt8} {at_ m : Nat} {r : Rec} (h : nextR bs at_ last = some r) (hm : r.fin ≤ m) (he : bs'.take m = bs.take m) : nextR bs' at_ last = some r := by
  have hf := nextR_fin h
  have hlen : r.fin ≤ bs'.length := by
    have := congrArg List.length he
    rw [List.length_take, List.length_take] at this
    omega
  unfold nextR at h
  split at h
  · rename_i hlt
    cases hg : getC (bs.drop at_) with
    | none => rw [hg] at h; cases h
    | some p =>
      obtain ⟨c, n⟩ := p
      rw [hg, Option.bind_some] at h
      split at h
      · cases h
      · rename_i h4
        split at h
        · rename_i h5
          cases h
          simp only at hm hlen h4 h5
          have e1 : ∀ j, at_ + j ≤ m → (bs'.drop at_).take j = (bs.drop at_).take j := fun j hj => by
            have := congrArg (fun l => (l.drop at_).take j) he
            simp only [List.drop_take, List.take_take] at this
            rw [Nat.min_eq_left (by omega)] at this
            exact this
          have e2 : (bs'.drop (at_ + n)).take 4 = (bs.drop (at_ + n)).take 4 := by
            have := congrArg (fun l => (l.drop (at_ + n)).take 4) he
            simp only [List.drop_take, List.take_take] at this
            rw [Nat.min_eq_left (by omega)] at this
            exact this
          unfold nextR
          rw [if_pos (by omega), getC_same hg (e1 n (by omega)), Option.bind_some, if_neg (by simp only; omega), e1 n (by omega), e2, if_pos h5]
        · cases h
  · cases h

/-! ### chains of records -/
def Chain (bs : List UInt8) : Nat → List UInt8 → List Rec → Prop
  | _, _, [] => True
  | at_, last, r :: rs => nextR bs at_ last = some r ∧ Chain bs r.fin r.sum rs
def finOf (at_ : Nat) (rs : List Rec) : Nat := (rs.getLast?.map (·.fin)).getD at_
def sumOf (last : List UInt8) (rs : List Rec) : List UInt8 := (rs.getLast?.map (·.sum)).getD last
theorem finOf_cons (at_ : Nat) (r : Rec) (rs : List Rec) : finOf at_ (r :: rs) = finOf r.fin rs := by
  cases rs with
  | nil => rfl
  | cons q rs =>
    simp only [finOf, List.getLast?_cons_cons]
    cases h : (q :: rs).getLast? with
    | none => simp at h
    | some z => rfl
theorem sumOf_cons (last : List UInt8) (r : Rec) (rs : List Rec) : sumOf last (r :: rs) = sumOf r.sum rs := by
  cases rs with
  | nil => rfl
  | cons q rs =>
    simp only [sumOf, List.getLast?_cons_cons]
    cases h : (q :: rs).getLast? with
    | none => simp at h
    | some z => rfl
theorem recsF_chain : ∀ (f : Nat) (bs : List UInt8) (at_ : Nat) (last : List UInt8) (rs : List Rec), Chain bs at_ last rs → nextR bs (finOf at_ rs) (sumOf last rs) = none → rs.length < f → recsF f bs at_ last = rs
  | 0, _, _, _, _, _, _, h => by omega
  | f + 1, bs, at_, last, [], _, hn, _ => by
    have hn : nextR bs at_ last = none := hn
    simp only [recsF, hn]
  | f + 1, bs, at_, last, r :: rs, hc, hn, hl => by
    rw [finOf_cons, sumOf_cons] at hn
    simp only [recsF, hc.1]
    rw [recsF_chain f bs r.fin r.sum rs hc.2 hn (by simpa using hl)]
theorem chain_len : ∀ (bs : List UInt8) (at_ : Nat) (last : List UInt8) (rs : List Rec), at_ ≤ bs.length → Chain bs at_ last rs → at_ + rs.length ≤ bs.length ∧ finOf at_ rs ≤ bs.length
  | bs, at_, last, [], h, _ => ⟨by simpa using h, h⟩
  | bs, at_, last, r :: rs, h, hc => by
    have hf := nextR_fin hc.1
    have := chain_len bs r.fin r.sum rs hf.2 hc.2
    rw [finOf_cons]
    refine ⟨?_, this.2⟩
    simp only [List.length_cons]; omega
theorem recs_chain {bs : List UInt8} {rs : List Rec} (hc : Chain bs 0 [0, 0, 0, 0] rs) (hn : nextR bs (lastFin rs) (lastSum rs) = none) : recs bs = rs := by
  have := chain_len bs 0 _ rs (Nat.zero_le _) hc
  exact recsF_chain _ _ _ _ _ hc hn (by omega)
theorem nextR_end {bs last : List UInt8} {at_ : Nat} (h : bs.length ≤ at_) : nextR bs at_ last = none := by
  unfold nextR
  rw [if_neg (by omega)]
theorem chain_same {bs bs' : List UInt8} {m : Nat} (he : bs'.take m = bs.take m) : ∀ {at_ : Nat} {last : List UInt8} {rs : List Rec}, Chain bs at_ last rs → (∀ r ∈ rs, r.fin ≤ m) → Chain bs' at_ last rs
  | _, _, [], _, _ => trivial
  | at_, last, r :: rs, hc, hm => ⟨nextR_same hc.1 (hm r List.mem_cons_self) he, chain_same he hc.2 (fun q hq => hm q (List.mem_cons_of_mem _ hq))⟩
theorem chain_snoc {bs : List UInt8} {q : Rec} : ∀ {at_ : Nat} {last : List UInt8} {rs : List Rec}, Chain bs at_ last rs → nextR bs (finOf at_ rs) (sumOf last rs) = some q → Chain bs at_ last (rs ++ [q])
  | at_, last, [], _, hq => ⟨hq, trivial⟩
  | at_, last, r :: rs, hc, hq => by
    rw [finOf_cons, sumOf_cons] at hq
    exact ⟨hc.1, chain_snoc hc.2 hq⟩
theorem chain_take {bs : List UInt8} : ∀ {at_ : Nat} {last : List UInt8} {rs : List Rec} (k : Nat), Chain bs at_ last rs → Chain bs at_ last (rs.take k)
  | _, _, [], k, _ => by simp [Chain]
  | _, _, r :: rs, 0, _ => by simp [Chain]
  | _, _, r :: rs, k + 1, hc => ⟨hc.1, chain_take k hc.2⟩
theorem chain_mono : ∀ {bs : List UInt8} {at_ : Nat} {last : List UInt8} {rs : List Rec}, Chain bs at_ last rs → ∀ r ∈ rs, at_ + 4 ≤ r.fin ∧ r.fin ≤ finOf at_ rs
  | bs, at_, last, [], _, r, h => by cases h
  | bs, at_, last, q :: rs, hc, r, h => by
    have hf := nextR_fin hc.1
    have hfin : q.fin ≤ finOf q.fin rs := by
      cases hl : rs.getLast? with
      | none => simp [finOf, hl]
      | some z =>
        have := (chain_mono hc.2 z (List.mem_of_getLast? hl)).1
        simp [finOf, hl]; omega
    rw [finOf_cons]
    rcases List.mem_cons.1 h with rfl | h
    · exact ⟨hf.1, hfin⟩
    · have := chain_mono hc.2 r h
      exact ⟨by omega, this.2⟩

/-! ### what is written is read again -/
theorem rdUs_enc : ∀ (l : List Nat) (rest : List UInt8), (∀ x ∈ l, x < 2 ^ 64) → rdUs l.length (encUs l ++ rest) = some (l, rest)
  | [], rest, _ => rfl
  | x :: l, rest, h => by
    have e : encUs (x :: l) ++ rest = encU x ++ (encUs l ++ rest) := by simp [encUs]
    simp only [List.length_cons, rdUs]
    rw [e, rdU_enc (h x List.mem_cons_self), Option.bind_some, rdUs_enc l rest (fun y hy => h y (List.mem_cons_of_mem _ hy))]
    rfl
theorem encZs_map (l : List Int) : encZs l = encUs (l.map zzN) := by
  simp [encZs, encUs, List.flatMap_map]
theorem encUs_ge (l : List Nat) : l.length ≤ (encUs l).length := by
  induction l with
  | nil => simp
  | cons x l ih =>
    have := encU_pos x
    simp only [encUs, List.flatMap_cons, List.length_append, List.length_cons] at ih ⊢
    omega
/-- A command with one field taken over. -/
def setF (c c0 : LCmd) : Vk × Nat → LCmd
  | (.id, off) => if off = 1 then { c0 with u := c.u } else { c0 with v := c.v }
  | (.num, off) => if off = 3 then { c0 with w := c.w } else { c0 with t := c.t }
  | (.draws, _) => { c0 with draws := c.draws }
  | (.bounds, _) => { c0 with bounds := c.bounds }
theorem decF_enc {c : LCmd} (hc : c.Ok) (hd : c.draws.length ≤ 16384) (hb : c.bounds.length ≤ 1024) (c0 : LCmd) (p : Vk × Nat) (rest : List UInt8) : decF c0 (encF c p ++ rest) p = some (setF c c0 p, rest) := by
  obtain ⟨k, off⟩ := p
  cases k with
  | id =>
    simp only [decF, encF]
    rw [rdU_enc (by split; exact hc.u; exact hc.v)]
    simp only [Option.map_some, setF]
    split <;> rfl
  | num =>
    simp only [decF, encF]
    rw [rdU_enc (zzN_lt (by split; exact hc.w.1; exact hc.t.1) (by split; exact hc.w.2; exact hc.t.2))]
    simp only [Option.map_some, setF, zzI_zzN]
    split <;> rfl
  | draws =>
    simp only [decF, encF, rdC]
    rw [List.append_assoc, rdU_enc (by omega)]
    simp only [Option.bind_some]
    have := encUs_ge c.draws
    rw [if_neg (by rw [List.length_append]; omega), Option.bind_some, rdUs_enc _ _ hc.draws]
    rfl
  | bounds =>
    simp only [decF, encF, rdC]
    rw [List.append_assoc, rdU_enc (by omega)]
    simp only [Option.bind_some]
    have h1 := encUs_ge (c.bounds.map zzN)
    rw [List.length_map] at h1
    rw [encZs_map, if_neg (by rw [List.length_append]; omega), Option.bind_some]
    have h2 := rdUs_enc (c.bounds.map zzN) rest (fun x hx => by
      obtain ⟨y, hy, rfl⟩ := List.mem_map.1 hx
      have := hc.bounds y hy
      exact zzN_lt this.1 this.2)
    rw [List.length_map] at h2
    rw [h2]
    simp only [Option.map_some, setF, List.map_map]
    congr 3
    rw [show (zzI ∘ zzN) = id from funext fun x => zzI_zzN x, List.map_id]
theorem decL_enc {c : LCmd} (hc : c.Ok) (hd : c.draws.length ≤ 16384) (hb : c.bounds.length ≤ 1024) : ∀ (l : List (Vk × Nat)) (c0 : LCmd) (rest : List UInt8), decL l c0 (l.flatMap (encF c) ++ rest) = some (l.foldl (setF c) c0, rest)
  | [], c0, rest => rfl
  | p :: l, c0, rest => by
    simp only [List.flatMap_cons, List.append_assoc, decL]
    rw [decF_enc hc hd hb, Option.bind_some]
    exact decL_enc hc hd hb l _ rest
/-- The fields that a valid command uses are all of it. -/
theorem set_all {c : LCmd} (h : checkC c = 0) {l : List (Vk × Nat)} (hl : vis c.op = some l) : l.foldl (setF c) { zeroC with op := c.op } = c := by
  unfold checkC at h
  simp only [hl] at h
  split at h
  · cases h
  · rename_i hh
    obtain ⟨op, u, v, w, t, ds, bs⟩ := c
    simp only [not_or, ne_eq, Decidable.not_not, Nat.not_lt, Nat.le_zero] at hh
    obtain ⟨h1, h2, h3, h4, h5, h6⟩ := hh
    simp only [uses, hl] at h1 h2 h3 h4 h5 h6
    simp only at hl
    unfold vis at hl
    have e5 : ds.length = 0 → ds = [] := List.length_eq_zero_iff.1
    have e6 : bs.length = 0 → bs = [] := List.length_eq_zero_iff.1
    repeat' (split at hl)
    all_goals first
      | (cases hl; done)
      | (cases hl
         simp [restN, restI] at h1 h2 h3 h4 h5 h6
         simp [setF, zeroC, *])
theorem putC_split (c : LCmd) : ∃ l, (vis c.op).getD [] = l ∧ putC c = encU (payload c).length ++ (UInt8.ofNat c.op.toNat :: l.flatMap (encF c)) := ⟨_, rfl, rfl⟩
theorem getC_put {c : LCmd} (hc : c.Ok) (h : checkC c = 0) (rest : List UInt8) : getC (putC c ++ rest) = some (c, (putC c).length) := by
  obtain ⟨l, hl, hd, hb⟩ := checkC_zero h
  have hpl := payload_len hc h
  have hr := vis_range hl
  have h0 : 0 < (payload c).length := by unfold payload; simp
  have hp : payload c = UInt8.ofNat c.op.toNat :: l.flatMap (encF c) := by unfold payload; rw [hl]; rfl
  unfold getC
  have e1 : putC c ++ rest = encU (payload c).length ++ (payload c ++ rest) := by unfold putC; rw [List.append_assoc]
  rw [e1, rdU_enc (by omega), Option.bind_some, if_neg (by rw [List.length_append]; omega)]
  have e2 : (payload c ++ rest).take (payload c).length = payload c := by rw [List.take_append_of_le_length (Nat.le_refl _), List.take_of_length_le (Nat.le_refl _)]
  simp only [e2]
  have e3 : (((payload c).getD 0 0).toNat : Int) = c.op := by
    rw [hp]
    simp
    omega
  have e4 : (payload c).drop 1 = l.flatMap (encF c) ++ [] := by rw [hp]; simp
  rw [e3, hl, Option.bind_some, e4, decL_enc hc hd hb, Option.bind_some, set_all h hl]
  simp only [List.length_nil, if_true]
  congr 2
  unfold putC
  simp only [List.length_append]
  omega

/-! ### journals -/
/-- A journal: its bytes and its records. -/
structure Jr where
  b : List UInt8
  rs : List Rec
def Jr.push (j : Jr) (c : LCmd) : Jr := ⟨j.b ++ recB j.rs c, j.rs ++ [⟨c, (j.b ++ recB j.rs c).length, sumR (lastSum j.rs) (putC c)⟩]⟩
structure Jr.Good (j : Jr) : Prop where
  ch : Chain j.b 0 [0, 0, 0, 0] j.rs
  fin : lastFin j.rs = j.b.length
theorem Jr.Good.recs {j : Jr} (h : j.Good) : recs j.b = j.rs := recs_chain h.ch (nextR_end (by rw [h.fin]; exact Nat.le_refl _))
theorem Jr.good_nil : (⟨[], []⟩ : Jr).Good := ⟨trivial, rfl⟩
theorem recB_len (rs : List Rec) (c : LCmd) : (recB rs c).length = (putC c).length + 4 := by unfold recB; rw [List.length_append, sumR_len]
theorem Jr.Good.push {j : Jr} (h : j.Good) {c : LCmd} (hc : c.Ok) (hz : checkC c = 0) : (j.push c).Good := by
  have hfin : finOf 0 j.rs = j.b.length := h.fin
  refine ⟨?_, by simp [Jr.push, lastFin]⟩
  refine chain_snoc (chain_same (bs := j.b) (m := j.b.length) (by simp [Jr.push]) h.ch (fun r hr => ?_)) ?_
  · have := (chain_mono h.ch r hr).2; omega
  · rw [hfin]
    show nextR (j.b ++ recB j.rs c) j.b.length (lastSum j.rs) = _
    unfold nextR
    have hp := encU_pos (payload c).length
    have hpl : 0 < (putC c).length := by unfold putC; rw [List.length_append]; omega
    rw [if_pos (by rw [List.length_append, recB_len]; omega), List.drop_left, show recB j.rs c = putC c ++ sumR (lastSum j.rs) (putC c) from rfl, getC_put hc hz, Option.bind_some]
    have e1 : (j.b ++ (putC c ++ sumR (lastSum j.rs) (putC c))).drop (j.b.length + (putC c).length) = sumR (lastSum j.rs) (putC c) := by
      rw [← List.append_assoc, List.drop_left' (by simp)]
    have e2 : (putC c ++ sumR (lastSum j.rs) (putC c)).take (putC c).length = putC c := by simp
    simp only [e1, e2]
    rw [if_neg (by simp [sumR_len]; omega), if_pos (by rw [List.take_of_length_le (by rw [sumR_len]; omega)])]
    congr 2
    simp [sumR_len]; omega
end Go.Proofs.Ythakgknamfopcaa
