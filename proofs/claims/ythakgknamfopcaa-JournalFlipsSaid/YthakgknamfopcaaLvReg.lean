/- Lv: regions that draw their order: what stands ahead of what; a step within a larger heap. -/
import Derived.Test.YthakgknamfopcaaLvCall
namespace Go.Lv
open Go
set_option linter.unusedVariables false
set_option linter.unusedSimpArgs false

/-! ### what stands ahead -/
def befF (acc : Array Nat) (o : Oper) : Array Nat :=
  acc.push (o.after.foldl (fun s e => if Region.binds .any e then s ||| 2 ^ e.on ||| acc.getD e.on 0 else s) 0)

theorem before_eq (ops : Array Oper) : Region.before ops = ops.toList.foldl befF #[] := by
  unfold Region.before
  rw [← Array.foldl_toList]
  rfl

theorem befF_size : ∀ (l : List Oper) (acc : Array Nat), (l.foldl befF acc).size = acc.size + l.length
  | [], acc => by simp
  | o :: l, acc => by simp only [List.foldl_cons]; rw [befF_size l]; simp [befF]; omega
theorem befF_keep : ∀ (l : List Oper) (acc : Array Nat) (i : Nat), i < acc.size → (l.foldl befF acc)[i]? = acc[i]?
  | [], acc, i, h => rfl
  | o :: l, acc, i, h => by
    simp only [List.foldl_cons]
    rw [befF_keep l _ i (by simp [befF]; omega)]
    simp only [befF]
    rw [Array.getElem?_push, if_neg (by omega)]

theorem bits_foldl (p : Edge → Bool) (g : Edge → Nat) (h : Edge → Nat) (i : Nat) : ∀ (l : List Edge) (s : Nat),
    (l.foldl (fun s e => if p e then s ||| 2 ^ g e ||| h e else s) s).testBit i = true → s.testBit i = true ∨ ∃ e ∈ l, p e = true ∧ (i = g e ∨ (h e).testBit i = true)
  | [], s, hb => .inl hb
  | e :: l, s, hb => by
    simp only [List.foldl_cons] at hb
    rcases bits_foldl p g h i l _ hb with h1 | ⟨e', h1, h2, h3⟩
    · split at h1
      · rename_i hp
        simp only [Nat.testBit_or, Bool.or_eq_true] at h1
        rcases h1 with (h1 | h1) | h1
        · exact .inl h1
        · rw [Nat.testBit_two_pow] at h1
          exact .inr ⟨e, by simp, hp, .inl (by simpa using (of_decide_eq_true h1).symm)⟩
        · exact .inr ⟨e, by simp, hp, .inr h1⟩
      · exact .inl h1
    · exact .inr ⟨e', List.mem_cons_of_mem _ h1, h2, h3⟩

/-- What is ahead of j is one that j waits for, or ahead of such a one. -/
theorem ahead_edge {ops : Array Oper} (hed : ∀ (i : Nat) (o : Oper), ops[i]? = some o → ∀ e ∈ o.after, Region.binds .any e = true → e.on < i) {i j : Nat} {o : Oper} (ho : ops[j]? = some o)
    (h : ahead (Region.before ops) i j = true) : ∃ e ∈ o.after, Region.binds .any e = true ∧ (i = e.on ∨ ahead (Region.before ops) i e.on = true) := by
  have hj : j < ops.toList.length := by simpa using (Array.getElem?_eq_some_iff.1 ho).1
  have hsplit : ops.toList = ops.toList.take j ++ o :: ops.toList.drop (j + 1) := by
    have h1 : ops.toList[j]? = some o := by simpa using ho
    obtain ⟨h2, h3⟩ := List.getElem?_eq_some_iff.1 h1
    rw [← h3, ← List.drop_eq_getElem_cons h2, List.take_append_drop]
  obtain ⟨A, hAd⟩ : ∃ A, A = (ops.toList.take j).foldl befF #[] := ⟨_, rfl⟩
  have hA : A.size = j := by rw [hAd, befF_size]; simp; simp at hj; omega
  have hb : Region.before ops = (ops.toList.drop (j + 1)).foldl befF (befF A o) := by
    rw [before_eq]
    conv => lhs; rw [hsplit]
    rw [List.foldl_append, List.foldl_cons, ← hAd]
  have hge : (Region.before ops)[j]? = some (o.after.foldl (fun s e => if Region.binds .any e then s ||| 2 ^ e.on ||| A.getD e.on 0 else s) 0) := by
    rw [hb, befF_keep _ _ _ (by simp [befF, hA])]
    simp only [befF]
    rw [Array.getElem?_push, if_pos hA.symm]
  have hlow : ∀ m, m < j → A.getD m 0 = (Region.before ops).getD m 0 := fun m hm => by
    rw [Array.getD_eq_getD_getElem?, Array.getD_eq_getD_getElem?, hb, befF_keep _ _ _ (by simp [befF, hA]; omega)]
    simp only [befF]
    rw [Array.getElem?_push, if_neg (by rw [hA]; omega)]
  unfold ahead at h
  rw [Array.getD_eq_getD_getElem?, hge] at h
  simp only [Option.getD_some] at h
  rw [← Array.foldl_toList] at h
  rcases bits_foldl (Region.binds .any) (·.on) (fun e => A.getD e.on 0) i _ _ h with h1 | ⟨e, h1, h2, h3⟩
  · simp at h1
  · have he : e ∈ o.after := by simpa using h1
    refine ⟨e, he, h2, h3.imp id fun h4 => ?_⟩
    unfold ahead
    rw [← hlow e.on (hed j o ho e he h2)]
    exact h4

/-! ### a step within a larger heap -/
structure RegInv (P : Program) (R0 : Ren) (H0 : LH) (w0 : World) (top : Nat) (R : Ren) (X : Nat → Option LO) (w : World) : Prop where
  ext : RLe R0 R
  dom : ∀ i x, R i = some x → R0 i = some x ∨ (H0.next ≤ i ∧ i < top)
  size : w0.heap.size ≤ w.heap.size
  keep : ∀ b, b < w0.heap.size → ¬ Owned R0 H0 b → w.heap[b]? = w0.heap[b]?
  own : ∀ i o b d e, X i = some o → o.owns = true → R i = some (b, d, e) → Owned R0 H0 b ∨ w0.heap.size ≤ b
  nown : ∀ i o, X i = some o → o.owns = false → H0.get i = some o
  os : w.os = w0.os
  tape : w.tape = w0.tape
  output : w.output = w0.output
  obj : ∀ i o, X i = some o → ∃ b d e, R i = some (b, d, e) ∧ DO R w.heap[b]? d e o
  inj : ∀ i j oi oj b d e b' d' e', X i = some oi → X j = some oj → i ≠ j → R i = some (b, d, e) → R j = some (b', d', e') → oi.owns = true → b ≠ b'
  good : ∀ i o, X i = some o → o.good P = true

/-- The heap after a step in the part H1 of it. -/
def stepX (X : Nat → Option LO) (H1 H1' : LH) : Nat → Option LO := fun i => if (H1.get i).isSome ∨ (H1.next ≤ i ∧ i < H1'.next) then H1'.get i else X i

theorem RegInv.den {P : Program} {R0 R : Ren} {H0 H1 : LH} {w0 w : World} {top : Nat} {X : Nat → Option LO} (h : RegInv P R0 H0 w0 top R X w) (hs : ∀ i o, H1.get i = some o → X i = some o) : Den R H1 w :=
  ⟨fun i o hi => h.obj i o (hs i o hi), fun i j oi oj b d e b' d' e' hi hj => h.inj i j oi oj b d e b' d' e' (hs i oi hi) (hs j oj hj)⟩

theorem RegInv.step {P : Program} {R0 R R' : Ren} {H0 H1 H1' : LH} {w0 w w' : World} {top : Nat} {X : Nat → Option LO} (h : RegInv P R0 H0 w0 top R X w)
    (hs : ∀ i o, H1.get i = some o → X i = some o) (hg : Goes R H1 w R' H1' w') (hd' : Den R' H1' w') (hl : LGo P H1 H1') (hlo : H0.next ≤ H1.next) (hhi : H1'.next ≤ top) :
    RegInv P R0 H0 w0 top R' (stepX X H1 H1') w' := by
  have hd := h.den hs
  have lt : ∀ {i o b d e}, X i = some o → R i = some (b, d, e) → b < w.heap.size := fun {i o b d e} hi hr => by
    obtain ⟨b2, d2, e2, h2, h3⟩ := h.obj i o hi
    rw [hr] at h2; cases h2; exact h3.lt
  have same : ∀ {i b d e}, (∃ o, X i = some o) → R' i = some (b, d, e) → R i = some (b, d, e) := fun {i b d e} ho hr => by
    obtain ⟨o, ho⟩ := ho
    obtain ⟨b2, d2, e2, h2, _⟩ := h.obj i o ho
    rw [hg.ext _ _ h2] at hr; cases hr; exact h2
  have nown1 : ∀ {b}, (∃ i o d e, X i = some o ∧ R i = some (b, d, e) ∧ H1.get i = none) → ¬ Owned R H1 b := by
    rintro b ⟨i, o, d, e, hi, hr, hn⟩ ⟨j, oj, dj, ej, hj, hoj, hrj⟩
    have hne : j ≠ i := fun e => by subst e; rw [hn] at hj; cases hj
    exact h.inj j i oj o b dj ej b d e (hs j oj hj) hi hne hrj hr hoj rfl
  have out : ∀ {i}, ¬((H1.get i).isSome = true ∨ (H1.next ≤ i ∧ i < H1'.next)) → H1.get i = none := fun {i} hc => by
    cases hq : H1.get i with
    | none => rfl
    | some o => exact absurd (.inl (by rw [hq]; rfl)) hc
  refine ⟨h.ext.trans hg.ext, ?_, Nat.le_trans h.size hg.size, ?_, ?_, ?_, hg.os.trans h.os, hg.tape.trans h.tape, hg.output.trans h.output, ?_, ?_, ?_⟩
  · intro i x hx
    rcases hg.dom i x hx with h1 | h1
    · exact h.dom i x h1
    · exact .inr ⟨Nat.le_trans hlo h1.1, Nat.lt_of_lt_of_le h1.2 hhi⟩
  · intro b hb hno
    rw [hg.keep b (Nat.lt_of_lt_of_le hb h.size), h.keep b hb hno]
    rintro ⟨i, o, d, e, hi, ho, hr⟩
    rcases h.own i o b d e (hs i o hi) ho hr with h1 | h1
    · exact hno h1
    · omega
  · intro i o b d e hi ho hr
    unfold stepX at hi
    split at hi
    · rcases hg.own b ⟨i, o, d, e, hi, ho, hr⟩ with ⟨j, oj, dj, ej, hj, hoj, hrj⟩ | h1
      · exact h.own j oj b dj ej (hs j oj hj) hoj hrj
      · exact .inr (Nat.le_trans h.size h1)
    · exact h.own i o b d e hi ho (same ⟨o, hi⟩ hr)
  · intro i o hi ho
    unfold stepX at hi
    split at hi
    · rcases hl.back i o hi with ⟨_, _, h3, _⟩ | ⟨o', h1, h2, _⟩
      · rw [ho] at h3; cases h3
      · have := h2 ho; subst this; exact h.nown i o' (hs i o' h1) ho
    · exact h.nown i o hi ho
  · intro i o hi
    unfold stepX at hi
    split at hi
    · exact hd'.obj i o hi
    · rename_i hc
      obtain ⟨b, d, e, hr, hO⟩ := h.obj i o hi
      refine ⟨b, d, e, hg.ext _ _ hr, ?_⟩
      rw [hg.keep b hO.lt (nown1 ⟨i, o, d, e, hi, hr, out hc⟩)]
      exact hO.mono hg.ext
  · intro i j oi oj b d e b' d' e' hi hj hne hri hrj hoi
    unfold stepX at hi hj
    split at hi
    · split at hj
      · exact hd'.inj i j oi oj b d e b' d' e' hi hj hne hri hrj hoi
      · rename_i hc
        have hrj' := same ⟨oj, hj⟩ hrj
        rcases hg.own b ⟨i, oi, d, e, hi, hoi, hri⟩ with h1 | h1
        · intro e1
          subst e1
          exact nown1 ⟨j, oj, d', e', hj, hrj', out hc⟩ h1
        · have := lt hj hrj'; omega
    · rename_i hc
      have hri' := same ⟨oi, hi⟩ hri
      split at hj
      · rcases hl.back j oj hj with ⟨h1, h2, h3, _⟩ | ⟨o', h1, h2, _⟩
        · rcases hg.own b' ⟨j, oj, d', e', hj, h3, hrj⟩ with h4 | h4
          · intro e1
            subst e1
            exact nown1 ⟨i, oi, d, e, hi, hri', out hc⟩ h4
          · have := lt hi hri'; omega
        · have hrj' := same ⟨o', hs j o' h1⟩ hrj
          exact h.inj i j oi o' b d e b' d' e' hi (hs j o' h1) hne hri' hrj' hoi
      · exact h.inj i j oi oj b d e b' d' e' hi hj hne hri' (same ⟨oj, hj⟩ hrj) hoi
  · intro i o hi
    unfold stepX at hi
    split at hi
    · rcases hl.back i o hi with ⟨_, _, _, h4⟩ | ⟨o', h1, _, h3⟩
      · exact h4
      · exact h3 (h.good i o' (hs i o' h1))
    · exact h.good i o hi

end Go.Lv
