/- Towards the statement ViewNilCardSaid: views that are nil, or were not made by New, answer as the document says, whatever the arguments. No condition. -/
import Derived.Test.YtdbpidkbpiidiaaGreatDoorCards
import Derived.Test.YtdbpidkbpiidiaaGreatDoorTie
import Derived.Test.YtdbpidkbpiidiaaGreatDoorNilB
import Derived.Stop.Joined
import Derived.SevenTiedAt
namespace Go.Proofs.YtdbpidkbpiidiaaGreatDoor.viewNil
open Go.ChangeShapes Go.WideShapes Go.ChangeAt Go.RowKit Go.Lv
set_option linter.unusedVariables false
set_option linter.constructorNameAsVariable false
set_option maxRecDepth 100000

theorem own : ownKnob Tryz.prog.godebug = none := by kernel_rfl
theorem laidOut : laidOutB Tryz.prog = true := by kernel_rfl
theorem of_laid {W : World} (h : laidMetH Tryz.prog Rows.viewNilRow.laid W) {R : Ren} : ∀ i cs, (i, cs) ∈ gl → DO R W.heap[i]? 0 cs.length (.cells cs 0 false false) := by
  rw [MakeChecks.laidMetH_plain _ _ _ (by kernel_rfl)] at h
  obtain ⟨ps, ⟨g0, t0, cs0, f0, p0, q0, hg0, ht0, hv0, hd0, ⟨g1, t1, cs1, f1, p1, q1, hg1, ht1, hv1, hd1, _, _⟩, _⟩, _, _⟩ := h
  obtain rfl := Option.some.inj ((show Tryz.prog.globalNamed "math/bits.deBruijn32tab" = some 0 by kernel_rfl).symm.trans hg0)
  obtain rfl := Option.some.inj ((show Tryz.prog.globalNamed "math/bits.deBruijn64tab" = some 1 by kernel_rfl).symm.trans hg1)
  obtain rfl := Option.some.inj ((show (Tryz.prog.globals[0]?).map (·.type) = some 436 by kernel_rfl).symm.trans ht0)
  obtain rfl := Option.some.inj ((show (Tryz.prog.globals[1]?).map (·.type) = some 437 by kernel_rfl).symm.trans ht1)
  intro i cs hi
  simp only [gl, List.mem_cons, List.mem_nil_iff, or_false, Prod.mk.injEq] at hi
  rcases hi with ⟨rfl, rfl⟩ | ⟨rfl, rfl⟩
  · exact DO_table (k := .u8) (n := 32) (e := 5) hg0 hv0 (by kernel_rfl) (by kernel_rfl) (by kernel_rfl) (by kernel_rfl) hd0 (by rfl)
  · exact DO_table (k := .u8) (n := 64) (e := 5) hg1 hv1 (by kernel_rfl) (by kernel_rfl) (by kernel_rfl) (by kernel_rfl) hd1 (by rfl)

theorem walk (W : World) (v0 v1 v2 : Value) {base : Nat} (k0 : Value.okWide Tryz.prog W .any base 29 v0) (k1 : Value.okWide Tryz.prog W .any base 2 v1) (k2 : Value.okWide Tryz.prog W .any base 35 v2) (hL : laidMetH Tryz.prog Rows.viewNilRow.laid W) :
    Calls Tryz.prog 4 #[v0, v1, v2] W fun e w' => e = .returned (.bool true) ∧ Below W.heap.size W w' := by
  obtain ⟨u, rfl⟩ := wide_int (show Tryz.prog.underlying 29 = some (.int .u64) by kernel_rfl) k0
  obtain ⟨θ, rfl⟩ := wide_int (show Tryz.prog.underlying 2 = some (.int .i64) by kernel_rfl) k1
  have hg : (gl.all fun p => decide (p.1 < Tryz.prog.globals.size)) = true := by kernel_rfl
  rcases wide_slice (show Tryz.prog.underlying 35 = some (.slice 2) by kernel_rfl) k2 with rfl | ⟨b, off, len, cap, rfl, _, _⟩
  · obtain ⟨m, hm⟩ := fast_ok tab_ok (nil_a u θ)
    exact law_in prog_ok gl [] hm hg [] rfl (DVs_cons (by simp [DV]) (DVs_cons (by simp [DV]) (DVs_one (by simp [DV])))) (fun k cs el b d e h => by simp at h) (of_laid hL)
  · obtain ⟨m, hm⟩ := fast_ok tab_ok (nil_b u θ len cap)
    refine law_in prog_ok gl [none] hm hg [(b, off, 0)] rfl (DVs_cons (by simp [DV]) (DVs_cons (by simp [DV]) (DVs_one ?_))) (fun k cs el b d e h => ?_) (of_laid hL)
    · exact DV_sl (P := Tryz.prog) (gl := gl) (tr := [(b, off, 0)]) (k := 0) rfl
    · cases k with
      | zero => simp at h
      | succ k => simp at h

end Go.Proofs.YtdbpidkbpiidiaaGreatDoor.viewNil
