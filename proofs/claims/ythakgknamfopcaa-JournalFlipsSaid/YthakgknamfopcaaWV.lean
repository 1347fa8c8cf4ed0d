/- What the statements on cut and changed journals need. -/
import Derived.Test.YthakgknamfopcaaJrG
namespace Go.Proofs.Ythakgknamfopcaa
open Go Go.Lv
set_option linter.unusedVariables false
set_option maxRecDepth 100000

/-! ### the records of a cut journal -/
theorem chain_at {bs : List UInt8} {r : Rec} : ∀ {at_ : Nat} {last : List UInt8} {rs : List Rec} {k : Nat}, Chain bs at_ last rs → rs[k]? = some r → nextR bs (finOf at_ (rs.take k)) (sumOf last (rs.take k)) = some r
  | _, _, [], k, _, h => by simp at h
  | _, _, q :: rs, 0, hc, h => by
    simp at h
    subst h
    exact hc.1
  | at_, last, q :: rs, k + 1, hc, h => by
    rw [List.take_succ_cons, finOf_cons, sumOf_cons]
    exact chain_at hc.2 (by simpa using h)
theorem recs_stop {j : Jr} (hg : j.Good) {bs : List UInt8} {n w : Nat} (hb : bs.take n = j.b.take n) (h1 : ∀ r ∈ j.rs.take w, r.fin ≤ n) (h2 : nextR bs (lastFin (j.rs.take w)) (lastSum (j.rs.take w)) = none) : recs bs = j.rs.take w :=
  recs_chain (chain_same hb (chain_take w hg.ch) h1) h2
theorem recs_cut {j : Jr} (hg : j.Good) {n w : Nat} (hw : w ≤ j.rs.length) (h1 : ∀ r ∈ j.rs.take w, r.fin ≤ n) (h2 : ∀ r, j.rs[w]? = some r → n < r.fin) : recs (j.b.take n) = j.rs.take w := by
  refine recs_stop hg (n := n) (by rw [List.take_take, Nat.min_self]) h1 ?_
  cases hr : nextR (j.b.take n) (lastFin (j.rs.take w)) (lastSum (j.rs.take w)) with
  | none => rfl
  | some q =>
    exfalso
    have hq := nextR_fin hr
    rw [List.length_take] at hq
    have hs := nextR_same (bs' := j.b) (m := n) hr (by omega) (by rw [List.take_take, Nat.min_self])
    cases hg' : j.rs[w]? with
    | none =>
      have : j.rs.take w = j.rs := List.take_of_length_le (List.getElem?_eq_none_iff.1 hg')
      rw [this, hg.fin, nextR_end (Nat.le_refl _)] at hs
      cases hs
    | some r =>
      have h3 := chain_at hg.ch hg'
      have h4 : some q = some r := hs.symm.trans h3
      cases h4
      have := h2 q hg'
      omega

theorem CmdsC.take {H : LH} : ∀ {cl : List LCmd} {ls : List LV} (k : Nat), CmdsC H cl ls → CmdsC H (cl.take k) (ls.take (k * 7))
  | [], ls, k, h => by
    have h : ls = [] := h
    subst h
    simp [CmdsC]
  | c :: cl, ls, 0, h => by simp [CmdsC]
  | c :: cl, ls, k + 1, ⟨cs, rest, e, h1, h2⟩ => by
    subst e
    refine ⟨cs, rest.take (k * 7), ?_, h1, h2.take k⟩
    have := cmd_len h1
    rw [List.take_append, List.take_of_length_le (by omega), show (k + 1) * 7 - cs.length = k * 7 by omega]
theorem CV.take {H : LH} {v : LV} {cl : List LCmd} {ls : List LV} (h : CV H v cl ls) {w : Nat} (hw : w ≤ cl.length) : ∃ v', sliceL Try.prog H 30 v none (some (.int .i64 (w : Int))) none = some v' ∧ CV H v' (cl.take w) (ls.take (w * 7)) := by
  obtain ⟨v', g1, g2, g3⟩ := SV.slice (P := Try.prog) (t := 30) (sz := 7) (by omega) h.1 (lo := none) (hi := some (.int .i64 (w : Int))) (l := 0) (r := w) rfl (natOf_cast (k := .i64)) (Nat.zero_le _) hw
  refine ⟨v', g1, ?_, h.2.take w⟩
  rw [Nat.sub_zero, Nat.zero_mul, List.drop_zero] at g2
  rw [List.length_take, Nat.min_eq_left hw]
  exact g2
theorem ends_get {cl : List LCmd} {k : Nat} (h : k < (jof cl).rs.length) : (ends cl)[k]? = some (.int .i64 ((jof cl).rs[k].fin : Int)) := by
  unfold ends
  rw [List.getElem?_map, List.getElem?_eq_getElem h]
  rfl
theorem lastFin_take {rs : List Rec} {w : Nat} (h : w < rs.length) : lastFin (rs.take (w + 1)) = rs[w].fin := by
  rw [List.take_succ_eq_append_getElem h, lastFin_snoc]
theorem mem_take_get {rs : List Rec} {w n : Nat} (h : ∀ k, (hk : k < rs.length) → k < w → rs[k].fin ≤ n) : ∀ r ∈ rs.take w, r.fin ≤ n := by
  intro r hr
  obtain ⟨k, hk, rfl⟩ := List.mem_take_iff_getElem.1 hr
  exact h k (by omega) (by omega)
/-- What is known of a journal's fins. -/
theorem fin_le {cl : List LCmd} (hok : ∀ c ∈ cl, c.Ok) {k : Nat} (h : k < (jof cl).rs.length) : (jof cl).rs[k].fin ≤ (jof cl).b.length := by
  have hg := jof_good cl hok
  have := (chain_mono hg.ch _ (List.getElem_mem h)).2
  have h2 : finOf 0 (jof cl).rs = (jof cl).b.length := hg.fin
  omega

theorem LK.lss_to {P : Program} [Known] {G : Nat} {g : Kno} {H : LH} {x y : Operand} {t t' : Nat} {k : IntKind} {a b : Int} {c : Bool} (hx : evk g G x = some (.int k a)) (hy : evk g G y = some (.int k b)) (e : decide (a < b) = c) : LK P G g H (.binOp .lss t x y t') (.val (.bool c) H) := e ▸ LK.lss hx hy
theorem LK.leq_to {P : Program} [Known] {G : Nat} {g : Kno} {H : LH} {x y : Operand} {t t' : Nat} {k : IntKind} {a b : Int} {c : Bool} (hx : evk g G x = some (.int k a)) (hy : evk g G y = some (.int k b)) (e : decide (a ≤ b) = c) : LK P G g H (.binOp .leq t x y t') (.val (.bool c) H) := e ▸ LK.leq hx hy
theorem LK.neq_to {P : Program} [Known] {G : Nat} {g : Kno} {H : LH} {x y : Operand} {t t' : Nat} {k : IntKind} {a b : Int} {c : Bool} (hx : evk g G x = some (.int k a)) (hy : evk g G y = some (.int k b)) (e : (a != b) = c) : LK P G g H (.binOp .neq t x y t') (.val (.bool c) H) := e ▸ LK.neq hx hy
theorem LK.eql_to {P : Program} [Known] {G : Nat} {g : Kno} {H : LH} {x y : Operand} {t t' : Nat} {k : IntKind} {a b : Int} {c : Bool} (hx : evk g G x = some (.int k a)) (hy : evk g G y = some (.int k b)) (e : (a == b) = c) : LK P G g H (.binOp .eql t x y t') (.val (.bool c) H) := e ▸ LK.eql hx hy
end Go.Proofs.Ythakgknamfopcaa
