/- Lv: the evaluator only goes on giving out numbers of blocks. -/
import Derived.Test.YthakgknamfopcaaLvLop
namespace Go.Lv
open Go
set_option linter.unusedVariables false
set_option linter.unusedSimpArgs false

theorem storeCellsL_next {H H' : LH} {i off : Nat} {xs : List LV} (h : storeCellsL H i off xs = some H') : H'.next = H.next := by
  unfold storeCellsL at h
  split at h
  · split at h
    · cases h; rfl
    · cases h
  · cases h

theorem storeL_next {P : Program} {H H' : LH} {t : Nat} {a x : LV} (h : storeL P H t a x = some H') : H'.next = H.next := by
  unfold storeL at h
  split at h
  · split at h
    · exact storeCellsL_next h
    · cases h
  · cases h

theorem appendL_next {P : Program} {H H' : LH} {e n : Nat} {s r : LV} {xs : List LV} (h : appendL P H e s n xs = some (r, H')) : H.next ≤ H'.next := by
  unfold appendL at h
  repeat' split at h
  all_goals first
    | (cases h; done)
    | (cases h; exact Nat.le_refl _)
    | (cases h; simp; done)
    | (obtain ⟨a, ha, hb⟩ := Option.map_eq_some_iff.1 h; cases hb; first | exact Nat.le_of_eq (storeCellsL_next ha).symm | simp)

theorem makeSliceL_next {P : Program} {H H' : LH} {t : Nat} {l c r : LV} (h : makeSliceL P H t l c = some (r, H')) : H.next ≤ H'.next := by
  unfold makeSliceL at h
  repeat' split at h
  all_goals first
    | (cases h; done)
    | (cases h; simp; done)

theorem copyL_next {P : Program} {H H' : LH} {t : Nat} {d s r : LV} (h : copyL P H t d s = some (r, H')) : H.next ≤ H'.next := by
  unfold copyL at h
  simp only at h
  repeat' split at h
  all_goals first
    | (cases h; done)
    | (cases h; exact Nat.le_refl _)
    | (obtain ⟨a, ha, hb⟩ := Option.map_eq_some_iff.1 h; cases hb; exact Nat.le_of_eq (storeCellsL_next ha).symm)

theorem convertL_next {P : Program} {H H' : LH} {s d : Nat} {x r : LV} (h : convertL P H s d x = some (r, H')) : H.next ≤ H'.next := by
  unfold convertL at h
  repeat' split at h
  all_goals first
    | (cases h; done)
    | (cases h; exact Nat.le_refl _)
    | (cases h; simp; done)
    | (obtain ⟨a, ha, hb⟩ := Option.bind_eq_some_iff.1 h; obtain ⟨c, hc, hd⟩ := Option.map_eq_some_iff.1 hb; cases hd; exact Nat.le_refl _)

theorem mapUpdateL_next {P : Program} {H H' : LH} {t : Nat} {m k v : LV} (h : mapUpdateL P H t m k v = some H') : H'.next = H.next := by
  unfold mapUpdateL at h
  repeat' split at h
  all_goals first
    | (cases h; done)
    | (cases h; rfl)
theorem deleteL_next {P : Program} {H H' : LH} {t : Nat} {m k : LV} (h : deleteL P H t m k = some H') : H'.next = H.next := by
  unfold deleteL at h
  repeat' split at h
  all_goals first
    | (cases h; done)
    | (cases h; rfl)

theorem callFn_next {P : Program} {H : LH} {f : Nat} {args : List LV} {r : OR} (h : callFn P f args = some r) : r.next H = H.next := by
  unfold callFn at h
  split at h
  · cases h; rfl
  · cases h

theorem callValue_next {P : Program} {H : LH} {g : LV} {args : List LV} {r : OR} (h : callValue P H g args = some r) : r.next H = H.next := by
  unfold callValue at h
  repeat' split at h
  all_goals first
    | (cases h; done)
    | (cases h; rfl)
    | exact callFn_next h
    | (obtain ⟨⟨f, rv⟩, ha, hb⟩ := Option.bind_eq_some_iff.1 h; exact callFn_next hb)

theorem builtinL_next {P : Program} {H : LH} {b : Builtin} {ts : List Nat} {args : List LV} {r : OR} (h : builtinL P H b ts args = some r) : H.next ≤ r.next H := by
  unfold builtinL at h
  repeat' split at h
  all_goals first
    | (cases h; done)
    | (cases h; exact Nat.le_refl _)
    | (obtain ⟨⟨v, H'⟩, ha, hb⟩ := Option.map_eq_some_iff.1 h; cases hb; exact appendL_next ha)
    | (obtain ⟨⟨v, H'⟩, ha, hb⟩ := Option.map_eq_some_iff.1 h; cases hb; exact copyL_next ha)
    | (obtain ⟨v, ha, hb⟩ := Option.map_eq_some_iff.1 h; cases hb; exact Nat.le_refl _)
    | (obtain ⟨H', ha, hb⟩ := Option.map_eq_some_iff.1 h; cases hb; exact Nat.le_of_eq (deleteL_next ha).symm)
    | (obtain ⟨xs, hx, h⟩ := Option.bind_eq_some_iff.1 h
       split at h
       · obtain ⟨⟨v, H'⟩, ha, hb⟩ := Option.map_eq_some_iff.1 h; cases hb; exact appendL_next ha
       · cases h)

set_option maxHeartbeats 2000000 in
theorem lop_next {P : Program} {E : Env} {H : LH} {o : Oper} {r : OR} (h : lop P E H o = some r) : H.next ≤ r.next H := by
  obtain ⟨dst, op, ty, pos, after, guard⟩ := o
  unfold lop at h
  have same : ∀ x : Option LV, (x.map fun v => OR.val v H) = some r → H.next ≤ r.next H := fun x hx => by
    obtain ⟨v, _, hb⟩ := Option.map_eq_some_iff.1 hx; cases hb; exact Nat.le_refl _
  cases op <;> simp only at h
  all_goals (repeat' split at h)
  all_goals first
    | (cases h; done)
    | exact same _ h
    | (cases h; exact Nat.le_refl _)
    | (cases h; simp [OR.next]; done)
    | (obtain ⟨v, ha, hb⟩ := Option.bind_eq_some_iff.1 h; exact same _ hb)
    | (obtain ⟨v, ha, hb⟩ := Option.bind_eq_some_iff.1 h; cases hb; simp [OR.next]; done)
    | (obtain ⟨v, ha, hb⟩ := Option.bind_eq_some_iff.1 h
       split at hb
       · cases hb; simp [OR.next]; done
       · cases hb)
    | (obtain ⟨v, ha, hb⟩ := Option.bind_eq_some_iff.1 h; obtain ⟨⟨u, H'⟩, hc, hd⟩ := Option.map_eq_some_iff.1 hb; cases hd; exact convertL_next hc)
    | (obtain ⟨⟨u, H'⟩, hc, hd⟩ := Option.map_eq_some_iff.1 h; cases hd; exact makeSliceL_next hc)
    | (obtain ⟨H', hc, hd⟩ := Option.map_eq_some_iff.1 h; cases hd; exact Nat.le_of_eq (storeL_next hc).symm)
    | (obtain ⟨H', hc, hd⟩ := Option.map_eq_some_iff.1 h; cases hd; exact Nat.le_of_eq (mapUpdateL_next hc).symm)
    | exact builtinL_next h
    | (obtain ⟨v, ha, hb⟩ := Option.bind_eq_some_iff.1 h; exact Nat.le_of_eq (callValue_next hb).symm)
    | (obtain ⟨⟨f, rv⟩, ha, hb⟩ := Option.bind_eq_some_iff.1 h; exact Nat.le_of_eq (callFn_next hb).symm)

def Task.next : Task → Nat
  | .frame _ S => S.H.next
  | .call _ _ H => H.next
  | .round _ _ H => H.next
  | .defs S _ => S.H.next
def FR.st : FR → FS
  | .ret S => S
  | .panic _ S => S
  | .jump _ S => S
def Res.next : Res → Nat
  | .fr r => r.st.H.next
  | .out _ H => H.next

theorem LH.next_hide (H : LH) : ∀ l, (H.hide l).next = H.next
  | [] => rfl
  | i :: l => by simp only [LH.hide, LH.next_del]; exact H.next_hide l
theorem LH.next_back (H0 H : LH) : ∀ l, (LH.back H0 H l).next = H.next
  | [] => rfl
  | i :: l => by
    simp only [LH.back]
    split
    · simp only [LH.next_put]; exact LH.next_back H0 H l
    · exact LH.next_back H0 H l
theorem LH.get_hide (H : LH) (j : Nat) : ∀ l, (H.hide l).get j = if j ∈ l then none else H.get j
  | [] => by simp [LH.hide]
  | i :: l => by
    simp only [LH.hide, LH.get_del, H.get_hide j l, List.mem_cons]
    by_cases e : j = i
    · simp [e]
    · simp [e]
theorem LH.get_back (H0 H : LH) (j : Nat) : ∀ l, (LH.back H0 H l).get j = if j ∈ l ∧ (H0.get j).isSome then H0.get j else H.get j
  | [] => by simp [LH.back]
  | i :: l => by
    have ih := LH.get_back H0 H j l
    simp only [LH.back, List.mem_cons]
    by_cases e : j = i
    · subst e
      split
      · rename_i o ho
        simp [LH.get_put, ho]
      · rename_i ho
        rw [ih]; simp [ho]
    · split
      · rw [LH.get_put, if_neg e, ih]; simp [e]
      · rw [ih]; simp [e]
theorem hidU_nil {P : Program} {ops : Array Oper} {E : Env} {j : Nat} {o : Oper} {U : List Nat} (h : hidU P ops E j o = some U) (hk : okind P o ≠ .mut) : U = [] := by
  unfold hidU at h
  rw [if_pos (by simp [hk])] at h
  cases h; rfl

theorem drun_next {P : Program} {rec : Task → Option Res} (ih : ∀ t r, rec t = some r → t.next ≤ r.next) {ops : Array Oper} {chk : Bool} :
    ∀ (l : List Oper) (j : Nat) (recs : List DRec) (S : FS) (r : FR), drun P rec ops chk l j recs S = some r → S.H.next ≤ r.st.H.next
  | [], j, recs, S, r, h => by simp only [drun, Option.some.injEq] at h; subst h; exact Nat.le_refl _
  | o :: rest, j, recs, S, r, h => by
    have ih' := drun_next (P := P) ih (ops := ops) (chk := chk) rest
    simp only [drun] at h
    split at h
    · have q := ih' _ _ _ _ h; exact q
    · cases h
    · split at h
      · cases h
      rename_i U hU
      split at h
      · rename_i q hk hq
        have hn := lop_next hq
        rw [LH.next_hide] at hn
        split at h
        · cases h
        · rename_i v H hm
          have hH : S.H.next ≤ H.next := by
            split at hm
            · simp at hm
            · simp at hm
            · split at hm
              · simp at hm
              · rename_i hr; simp only [Option.some.injEq, Prod.mk.injEq, and_true] at hm; obtain ⟨rfl, rfl⟩ := hm; have := ih _ _ hr; simp only [Task.next, LH.next_hide] at this; exact this
              · cases hm
            · split at hm
              · simp at hm
              · rename_i hr; simp only [Option.some.injEq, Prod.mk.injEq, and_true] at hm; obtain ⟨rfl, rfl⟩ := hm; have := ih _ _ hr; simp only [Task.next, LH.next_hide] at this; exact this
              · cases hm
            · cases hm
          split at h
          · simp only [Option.some.injEq] at h; subst h; exact hH
          · cases h
        · rename_i v H hm
          have hH : S.H.next ≤ H.next := by
            split at hm
            · simp only [Option.some.injEq, Prod.mk.injEq, and_true] at hm; obtain ⟨rfl, rfl⟩ := hm; exact hn
            · simp only [Option.some.injEq, Prod.mk.injEq, and_true] at hm; obtain ⟨rfl, rfl⟩ := hm; exact hn
            · split at hm
              · rename_i hr; simp only [Option.some.injEq, Prod.mk.injEq, and_true] at hm; obtain ⟨rfl, rfl⟩ := hm; have := ih _ _ hr; simp only [Task.next, LH.next_hide] at this; exact this
              · simp at hm
              · cases hm
            · split at hm
              · rename_i hr; simp only [Option.some.injEq, Prod.mk.injEq, and_true] at hm; obtain ⟨rfl, rfl⟩ := hm; have := ih _ _ hr; simp only [Task.next, LH.next_hide] at this; exact this
              · simp at hm
              · cases hm
            · cases hm
          split at h
          · cases h
          · have q := ih' _ _ _ _ h; simp only [LH.next_back] at q; exact Nat.le_trans hH q
      · rename_i v H hk hq
        have hn := lop_next hq
        rw [LH.next_hide] at hn
        split at h
        · cases h
        · have q := ih' _ _ _ _ h; exact Nat.le_trans hn q
      · have hn := lop_next ‹lop P S.E (S.H.hide U) o = some _›
        rw [LH.next_hide] at hn
        have q := ih' _ _ _ _ h; exact Nat.le_trans hn q
      · cases h


theorem put_next' (H : LH) (b : Nat) (o : LO) : (H.put b o).next = H.next := rfl
theorem new_next' (H : LH) (o : LO) : (H.new o).next = H.next + 1 := rfl

theorem rangeOpen_next (S : FS) : S.H.next ≤ (rangeOpen S).1.next := by
  unfold rangeOpen
  split
  · exact Nat.le_succ _
  · exact Nat.le_refl _
theorem rangeLoop_next (S : FS) (ps : Array Tmp) (a b : Code) : S.H.next ≤ (rangeLoop S ps a b).next :=
  Nat.le_trans (rangeOpen_next S) (Nat.le_succ _)

set_option maxHeartbeats 4000000 in
theorem frame_next {P : Program} {rec : Task → Option Res} (ih : ∀ t r, rec t = some r → t.next ≤ r.next) {K : List LItem} {S : FS} {r : Res}
    (h : runStep P rec (.frame K S) = some r) : S.H.next ≤ r.next := by
  unfold runStep at h
  simp only at h
  have leave : ∀ j : Option Code, (match S.rnd with
      | none => (match j with | none | some .ret => some (Res.fr (.ret S)) | _ => none)
      | some _ => some (Res.fr (.jump j S))) = some r → S.H.next ≤ r.next := fun j hj => by
    repeat' split at hj
    all_goals first
      | (cases hj; done)
      | (simp only [Option.some.injEq] at hj; subst hj; exact Nat.le_refl _)
  repeat' split at h
  all_goals first
    | (cases h; done)
    | (have q := ih _ _ h; exact q)
    | (simp only [Option.some.injEq] at h; subst h; exact Nat.le_refl _)
    | (have q := ih _ _ h; have q2 := lop_next ‹lop _ _ _ _ = some _›; exact Nat.le_trans q2 q)
    | (have q := ih _ _ h; rename_i hr; have q2 := ih _ _ hr; exact Nat.le_trans q2 q)
    | (rename_i hr; have q2 := ih _ _ hr; simp only [Option.some.injEq] at h; subst h; exact q2)
    | (have q := ih _ _ h; rename_i hr; have q2 := drun_next ih _ _ _ _ _ hr; exact Nat.le_trans q2 q)
    | (rename_i hr; have q2 := drun_next ih _ _ _ _ _ hr; simp only [Option.some.injEq] at h; subst h; exact q2)
    | (have q := ih _ _ h; rename_i hr; have q2 := ih _ _ hr; simp only [Task.next, Res.next, new_next', put_next', FR.st] at q q2 ⊢; omega)
    | (rename_i hr; have q2 := ih _ _ hr; simp only [Option.some.injEq] at h; subst h; simp only [Task.next, Res.next, new_next', put_next', FR.st] at q2 ⊢; omega)
    | (have q := ih _ _ h; rename_i hr; have q2 := ih _ _ hr; exact Nat.le_trans (Nat.le_trans (rangeLoop_next _ _ _ _) q2) q)
    | (rename_i hr; have q2 := ih _ _ hr; simp only [Option.some.injEq] at h; subst h; exact Nat.le_trans (rangeLoop_next _ _ _ _) q2)

theorem call_next {P : Program} {rec : Task → Option Res} (ih : ∀ t r, rec t = some r → t.next ≤ r.next) {f : Nat} {args : List LV} {H : LH} {r : Res}
    (h : runStep P rec (.call f args H) = some r) : H.next ≤ r.next := by
  unfold runStep at h
  simp only at h
  repeat' split at h
  all_goals first
    | (cases h; done)
    | (have q := ih _ _ h; rename_i hr; have q2 := ih _ _ hr; exact Nat.le_trans q2 q)

theorem round_next {P : Program} {rec : Task → Option Res} (ih : ∀ t r, rec t = some r → t.next ≤ r.next) {l : Nat} {args : List LV} {H : LH} {r : Res}
    (h : runStep P rec (.round l args H) = some r) : H.next ≤ r.next := by
  unfold runStep at h
  simp only at h
  repeat' split at h
  all_goals first
    | (cases h; done)
    | (simp only [Option.some.injEq] at h; subst h; exact ih _ _ ‹rec (.frame _ _) = some _›)

theorem defs_next {P : Program} {rec : Task → Option Res} (ih : ∀ t r, rec t = some r → t.next ≤ r.next) {S : FS} {p : Option (LV × Bool)} {r : Res}
    (h : runStep P rec (.defs S p) = some r) : S.H.next ≤ r.next := by
  unfold runStep at h
  simp only at h
  repeat' split at h
  all_goals first
    | (cases h; done)
    | (have q := ih _ _ h; exact q)
    | (simp only [Option.some.injEq] at h; subst h; exact Nat.le_refl _)
    | (have q := ih _ _ h; have q2 := ih _ _ ‹rec (.frame _ _) = some _›; exact Nat.le_trans q2 q)
    | (obtain ⟨vs, _, hb⟩ := Option.map_eq_some_iff.1 h; subst hb; exact Nat.le_refl _)

theorem run_next {P : Program} : ∀ {n : Nat} {t : Task} {r : Res}, run P n t = some r → t.next ≤ r.next
  | 0, _, _, h => by simp [run] at h
  | n + 1, .frame K S, r, h => frame_next (fun t r => run_next) h
  | n + 1, .call f args H, r, h => call_next (fun t r => run_next) h
  | n + 1, .round l args H, r, h => round_next (fun t r => run_next) h
  | n + 1, .defs S p, r, h => defs_next (fun t r => run_next) h

end Go.Lv
