/- Lv: how a logical heap goes on under one operation: no more than its numbers, what it owns, and its loops' code. -/
import Derived.Test.YthakgknamfopcaaLvNext
namespace Go.Lv
open Go
set_option linter.unusedVariables false
set_option linter.unusedSimpArgs false

/-- The code of a loop's record is such as the evaluator asks for. -/
def LO.good (P : Program) : LO → Bool
  | .loop _ pend _ _ _ a b _ => codeOk P a && codeOk P b && (match pend with | some c => codeOk P c | none => true)
  | _ => true

structure LGo (P : Program) (H H' : LH) : Prop where
  next : H.next ≤ H'.next
  back : ∀ i o, H'.get i = some o → (H.next ≤ i ∧ i < H'.next ∧ o.owns = true ∧ o.good P = true) ∨ ∃ o', H.get i = some o' ∧ (o.owns = false → o' = o) ∧ (o'.good P = true → o.good P = true)

def LoopsOk (P : Program) (H : LH) : Prop := ∀ i o, H.get i = some o → o.good P = true

theorem LGo.refl (P : Program) (H : LH) : LGo P H H := ⟨Nat.le_refl _, fun i o h => .inr ⟨o, h, fun _ => rfl, id⟩⟩
theorem LGo.trans {P : Program} {H H' H'' : LH} (h : LGo P H H') (k : LGo P H' H'') : LGo P H H'' := by
  refine ⟨Nat.le_trans h.next k.next, fun i o hi => ?_⟩
  rcases k.back i o hi with ⟨h1, h2, h3, h4⟩ | ⟨o', h1, h2, h3⟩
  · exact .inl ⟨Nat.le_trans h.next h1, h2, h3, h4⟩
  · rcases h.back i o' h1 with ⟨k1, k2, k3, k4⟩ | ⟨o'', k1, k2, k3⟩
    · refine .inl ⟨k1, Nat.lt_of_lt_of_le k2 k.next, ?_, h3 k4⟩
      cases ho : o.owns with
      | true => rfl
      | false => rw [h2 ho, ho] at k3; cases k3
    · exact .inr ⟨o'', k1, fun ho => by have := h2 ho; subst this; exact k2 ho, fun g => h3 (k3 g)⟩
theorem LGo.loops {P : Program} {H H' : LH} (h : LGo P H H') (k : LoopsOk P H) : LoopsOk P H' := fun i o hi => by
  rcases h.back i o hi with ⟨_, _, _, h4⟩ | ⟨o', h1, _, h3⟩
  · exact h4
  · exact h3 (k i o' h1)

theorem LGo.new (P : Program) (H : LH) (o : LO) (ho : o.owns = true) (hg : o.good P = true) : LGo P H (H.new o) := by
  refine ⟨by simp, fun i p hi => ?_⟩
  rw [LH.get_new] at hi
  split at hi
  · rename_i e; cases hi; subst e; exact .inl ⟨Nat.le_refl _, by simp, ho, hg⟩
  · exact .inr ⟨p, hi, fun _ => rfl, id⟩
theorem LGo.put (P : Program) (H : LH) {i : Nat} {o o' : LO} (hi : H.get i = some o) (ho : o'.owns = true) (hg : o.good P = true → o'.good P = true) : LGo P H (H.put i o') := by
  refine ⟨by simp, fun j p hj => ?_⟩
  rw [LH.get_put] at hj
  split at hj
  · rename_i e; cases hj; subst e; exact .inr ⟨o, hi, (fun h => by rw [ho] at h; cases h), hg⟩
  · exact .inr ⟨p, hj, fun _ => rfl, id⟩
theorem LGo.del (P : Program) (H : LH) (i : Nat) : LGo P H (H.del i) := by
  refine ⟨by simp, fun j p hj => ?_⟩
  rw [LH.get_del] at hj
  split at hj
  · cases hj
  · exact .inr ⟨p, hj, fun _ => rfl, id⟩

theorem storeCellsL_lgo {P : Program} {H H' : LH} {i off : Nat} {xs : List LV} (h : storeCellsL H i off xs = some H') : LGo P H H' := by
  unfold storeCellsL at h
  split at h
  · rename_i hi
    split at h
    · cases h; exact LGo.put P H hi rfl (fun _ => rfl)
    · cases h
  · cases h

theorem storeL_lgo {P : Program} {H H' : LH} {t : Nat} {a x : LV} (h : storeL P H t a x = some H') : LGo P H H' := by
  unfold storeL at h
  split at h
  · split at h
    · exact storeCellsL_lgo h
    · cases h
  · cases h

theorem appendL_lgo {P : Program} {H H' : LH} {e n : Nat} {s r : LV} {xs : List LV} (h : appendL P H e s n xs = some (r, H')) : LGo P H H' := by
  unfold appendL at h
  repeat' split at h
  all_goals first
    | (cases h; done)
    | (cases h; exact LGo.refl _ _)
    | (cases h; exact LGo.new _ _ _ rfl rfl)
    | (cases h; exact (LGo.del _ _ _).trans (LGo.new _ _ _ rfl rfl))
    | (obtain ⟨a, ha, hb⟩ := Option.map_eq_some_iff.1 h; cases hb; first | exact storeCellsL_lgo ha | exact LGo.new _ _ _ rfl rfl | exact (LGo.del _ _ _).trans (LGo.new _ _ _ rfl rfl))

theorem makeSliceL_lgo {P : Program} {H H' : LH} {t : Nat} {l c r : LV} (h : makeSliceL P H t l c = some (r, H')) : LGo P H H' := by
  unfold makeSliceL at h
  repeat' split at h
  all_goals first
    | (cases h; done)
    | (cases h; exact LGo.new _ _ _ rfl rfl)

theorem copyL_lgo {P : Program} {H H' : LH} {t : Nat} {d s r : LV} (h : copyL P H t d s = some (r, H')) : LGo P H H' := by
  unfold copyL at h
  simp only at h
  repeat' split at h
  all_goals first
    | (cases h; done)
    | (cases h; exact LGo.refl _ _)
    | (obtain ⟨a, ha, hb⟩ := Option.map_eq_some_iff.1 h; cases hb; exact storeCellsL_lgo ha)

theorem convertL_lgo {P : Program} {H H' : LH} {s d : Nat} {x r : LV} (h : convertL P H s d x = some (r, H')) : LGo P H H' := by
  unfold convertL at h
  repeat' split at h
  all_goals first
    | (cases h; done)
    | (cases h; exact LGo.refl _ _)
    | (cases h; exact LGo.new _ _ _ rfl rfl)
    | (obtain ⟨a, ha, hb⟩ := Option.bind_eq_some_iff.1 h; obtain ⟨c, hc, hd⟩ := Option.map_eq_some_iff.1 hb; cases hd; exact LGo.refl _ _)

theorem mapUpdateL_lgo {P : Program} {H H' : LH} {t : Nat} {m k v : LV} (h : mapUpdateL P H t m k v = some H') : LGo P H H' := by
  unfold mapUpdateL at h
  repeat' split at h
  all_goals first
    | (cases h; done)
    | (cases h; exact LGo.put P H (by assumption) rfl (fun _ => rfl))
theorem deleteL_lgo {P : Program} {H H' : LH} {t : Nat} {m k : LV} (h : deleteL P H t m k = some H') : LGo P H H' := by
  unfold deleteL at h
  repeat' split at h
  all_goals first
    | (cases h; done)
    | (cases h; exact LGo.refl _ _)
    | (cases h; exact LGo.put P H (by assumption) rfl (fun _ => rfl))

def OR.heap (r : OR) (H : LH) : LH :=
  match r with
  | .val _ H' => H'
  | .skip H' => H'
  | _ => H
theorem OR.heap_next (r : OR) (H : LH) : (r.heap H).next = r.next H := by cases r <;> rfl

theorem callFn_heap {P : Program} {H : LH} {f : Nat} {args : List LV} {r : OR} (h : callFn P f args = some r) : r.heap H = H := by
  unfold callFn at h
  split at h
  · cases h; rfl
  · cases h

theorem callValue_heap {P : Program} {H : LH} {g : LV} {args : List LV} {r : OR} (h : callValue P H g args = some r) : r.heap H = H := by
  unfold callValue at h
  repeat' split at h
  all_goals first
    | (cases h; done)
    | (cases h; rfl)
    | exact callFn_heap h
    | (obtain ⟨⟨f, rv⟩, ha, hb⟩ := Option.bind_eq_some_iff.1 h; exact callFn_heap hb)

theorem builtinL_lgo {P : Program} {H : LH} {b : Builtin} {ts : List Nat} {args : List LV} {r : OR} (h : builtinL P H b ts args = some r) : LGo P H (r.heap H) := by
  unfold builtinL at h
  repeat' split at h
  all_goals first
    | (cases h; done)
    | (cases h; exact LGo.refl _ _)
    | (obtain ⟨⟨v, H'⟩, ha, hb⟩ := Option.map_eq_some_iff.1 h; cases hb; exact appendL_lgo ha)
    | (obtain ⟨⟨v, H'⟩, ha, hb⟩ := Option.map_eq_some_iff.1 h; cases hb; exact copyL_lgo ha)
    | (obtain ⟨v, ha, hb⟩ := Option.map_eq_some_iff.1 h; cases hb; exact LGo.refl _ _)
    | (obtain ⟨H', ha, hb⟩ := Option.map_eq_some_iff.1 h; cases hb; exact deleteL_lgo ha)
    | (obtain ⟨xs, hx, h⟩ := Option.bind_eq_some_iff.1 h
       split at h
       · obtain ⟨⟨v, H'⟩, ha, hb⟩ := Option.map_eq_some_iff.1 h; cases hb; exact appendL_lgo ha
       · cases h)

set_option maxHeartbeats 2000000 in
theorem lop_lgo {P : Program} {E : Env} {H : LH} {o : Oper} {r : OR} (h : lop P E H o = some r) : LGo P H (r.heap H) := by
  obtain ⟨dst, op, ty, pos, after, guard⟩ := o
  unfold lop at h
  have same : ∀ x : Option LV, (x.map fun v => OR.val v H) = some r → LGo P H (r.heap H) := fun x hx => by
    obtain ⟨v, _, hb⟩ := Option.map_eq_some_iff.1 hx; cases hb; exact LGo.refl _ _
  cases op <;> simp only at h
  all_goals (repeat' split at h)
  all_goals first
    | (cases h; done)
    | exact same _ h
    | (cases h; exact LGo.refl _ _)
    | (cases h; exact LGo.new _ _ _ rfl rfl)
    | (obtain ⟨v, ha, hb⟩ := Option.bind_eq_some_iff.1 h; exact same _ hb)
    | (obtain ⟨v, ha, hb⟩ := Option.bind_eq_some_iff.1 h; cases hb; exact LGo.new _ _ _ rfl rfl)
    | (obtain ⟨v, ha, hb⟩ := Option.bind_eq_some_iff.1 h
       split at hb
       · cases hb; exact LGo.new _ _ _ rfl rfl
       · cases hb)
    | (obtain ⟨v, ha, hb⟩ := Option.bind_eq_some_iff.1 h; obtain ⟨⟨u, H'⟩, hc, hd⟩ := Option.map_eq_some_iff.1 hb; cases hd; exact convertL_lgo hc)
    | (obtain ⟨⟨u, H'⟩, hc, hd⟩ := Option.map_eq_some_iff.1 h; cases hd; exact makeSliceL_lgo hc)
    | (obtain ⟨H', hc, hd⟩ := Option.map_eq_some_iff.1 h; cases hd; exact storeL_lgo hc)
    | (obtain ⟨H', hc, hd⟩ := Option.map_eq_some_iff.1 h; cases hd; exact mapUpdateL_lgo hc)
    | exact builtinL_lgo h
    | (obtain ⟨v, ha, hb⟩ := Option.bind_eq_some_iff.1 h; rw [callValue_heap hb]; exact LGo.refl _ _)
    | (obtain ⟨⟨f, rv⟩, ha, hb⟩ := Option.bind_eq_some_iff.1 h; rw [callFn_heap hb]; exact LGo.refl _ _)

end Go.Lv
