/- Lv: a law's call, by one run of the evaluator. -/
import Derived.Test.YthakgknamfopcaaLvAny
import Derived.Below
namespace Go.Lv
open Go Go.RowKit
set_option linter.unusedVariables false
set_option linter.unusedSimpArgs false

section
variable {P : Program}

def okB : Option Res → Bool
  | some (.out (.ret (.bool true)) _) => true
  | _ => false
theorem okB_spec {r : Option Res} (h : okB r = true) : ∃ h', r = some (.out (.ret (.bool true)) h') := by
  unfold okB at h
  split at h
  · exact ⟨_, rfl⟩
  · cases h

theorem law_calls (hP : progOk P = true) {n f : Nat} {args : List LV} {h : LH} (hrun : okB (run P n (.call f args h)) = true) {R : Ren} {w : World} {av : Array Value}
    (ha : DVs R args av.toList) (hd : Den R h w) (hg : GlobR P R) (hl : LoopsOk P h) (hf : ∀ i, h.next ≤ i → R i = none) (hro : ∀ i o, h.get i = some o → o.owns = false) :
    Calls P f av w fun e w' => e = .returned (.bool true) ∧ Below w.heap.size w w' := by
  obtain ⟨h', hr⟩ := okB_spec hrun
  refine (call_sound hP hr ha hd hg hl (fun i h1 _ => hf i h1)).mono fun e w' hpost => ?_
  obtain ⟨R', hgo, _, _, he⟩ := hpost
  refine ⟨?_, hgo.os, hgo.tape, hgo.output, hgo.size, fun k hk => hgo.keep k hk ?_⟩
  · cases e with
    | returned x => simp only [EndR, DV] at he; rw [he]
    | panicked ch => exact he.elim
    | outgrown => exact he.elim
  · rintro ⟨i, o, d, e', h1, h2, _⟩
    rw [hro i o h1] at h2; cases h2

/-- The blocks of what came in: the package's variables ('gl': what some of them hold), and behind them those that arguments name. -/
def glExt (gl : List (Nat × List LV)) (i : Nat) : Nat := match gl.find? (fun p => p.1 == i) with | some p => p.2.length | none => 0
def inR (P : Program) (gl : List (Nat × List LV)) (tr : List (Nat × Nat × Nat)) : Ren := fun i => if i < P.globals.size then some (i, 0, glExt gl i) else tr[i - P.globals.size]?
def glT (gl : List (Nat × List LV)) : Tr LO := gl.foldr (fun p t => t.set p.1 (some (.cells p.2 0 false false))) .leaf
def inH (P : Program) (gl : List (Nat × List LV)) (bs : List (Option (List LV × Nat))) : LH :=
  { next := P.globals.size + bs.length, t := (bs.zipIdx.foldl (fun (t : Tr LO) p => match p.1 with | some (cs, el) => t.set (P.globals.size + p.2) (some (.cells cs el false false)) | none => t) (glT gl)) }

theorem inR_glob (gl : List (Nat × List LV)) (tr : List (Nat × Nat × Nat)) : GlobR P (inR P gl tr) := fun g hg => ⟨glExt gl g, by simp [inR, hg]⟩
theorem inR_at (gl : List (Nat × List LV)) (tr : List (Nat × Nat × Nat)) (k : Nat) : inR P gl tr (P.globals.size + k) = tr[k]? := by
  unfold inR
  rw [if_neg (by omega), Nat.add_sub_cancel_left]

theorem glT_get : ∀ (gl : List (Nat × List LV)) (i : Nat) (o : LO), (glT gl).get i = some o → ∃ cs, gl.find? (fun p => p.1 == i) = some (i, cs) ∧ o = .cells cs 0 false false
  | [], i, o, h => by simp [glT, Tr.get_leaf] at h
  | (j, cs) :: gl, i, o, h => by
    simp only [glT, List.foldr_cons] at h
    rw [Tr.get_set] at h
    by_cases e : i = j
    · subst e
      simp at h
      exact ⟨cs, by simp, h.symm⟩
    · rw [if_neg e] at h
      obtain ⟨cs', h1, h2⟩ := glT_get gl i o h
      refine ⟨cs', ?_, h2⟩
      rw [List.find?_cons_of_neg (by simpa using Ne.symm e)]
      exact h1

theorem inH_get (gl : List (Nat × List LV)) (bs : List (Option (List LV × Nat))) (i : Nat) (o : LO) (h : (inH P gl bs).get i = some o) :
    (∃ k cs el, i = P.globals.size + k ∧ bs[k]? = some (some (cs, el)) ∧ o = .cells cs el false false) ∨ ∃ cs, gl.find? (fun p => p.1 == i) = some (i, cs) ∧ o = .cells cs 0 false false := by
  have key : ∀ (l : List (Option (List LV × Nat) × Nat)) (t : Tr LO), (l.foldl (fun (t : Tr LO) p => match p.1 with | some (cs, el) => t.set (P.globals.size + p.2) (some (.cells cs el false false)) | none => t) t).get i = some o →
      t.get i = some o ∨ ∃ k cs el, i = P.globals.size + k ∧ (some (cs, el), k) ∈ l ∧ o = .cells cs el false false := by
    intro l
    induction l with
    | nil => exact fun t h => .inl h
    | cons p l ih =>
      intro t h
      simp only [List.foldl_cons] at h
      rcases ih _ h with h1 | ⟨k, cs, el, h1, h2, h3⟩
      · obtain ⟨q, k⟩ := p
        cases q with
        | none => exact .inl h1
        | some q =>
          obtain ⟨cs, el⟩ := q
          simp only [Tr.get_set] at h1
          split at h1
          · rename_i e
            cases h1
            exact .inr ⟨k, cs, el, e, List.mem_cons_self, rfl⟩
          · exact .inl h1
      · exact .inr ⟨k, cs, el, h1, List.mem_cons_of_mem _ h2, h3⟩
  rcases key _ _ h with h1 | ⟨k, cs, el, h1, h2, h3⟩
  · exact .inr (glT_get gl i o h1)
  · exact .inl ⟨k, cs, el, h1, List.mem_zipIdx_iff_getElem?.1 h2, h3⟩

/-- A law's call whose slices' cells the evaluator is told of ('bs': some: the cells from the place on; none: nothing is told). -/
theorem law_in (hP : progOk P = true) {n f : Nat} {args : List LV} (gl : List (Nat × List LV)) (bs : List (Option (List LV × Nat))) (hrun : okB (run P n (.call f args (inH P gl bs))) = true) {w : World} {av : Array Value}
    (hgl : (gl.all fun p => decide (p.1 < P.globals.size)) = true)
    (tr : List (Nat × Nat × Nat)) (hlen : tr.length = bs.length) (ha : DVs (inR P gl tr) args av.toList)
    (hcells : ∀ (k : Nat) cs el b d e, bs[k]? = some (some (cs, el)) → tr[k]? = some (b, d, e) → DO (inR P gl tr) w.heap[b]? d e (.cells cs el false false))
    (hglob : ∀ i cs, (i, cs) ∈ gl → DO (inR P gl tr) w.heap[i]? 0 cs.length (.cells cs 0 false false)) :
    Calls P f av w fun e w' => e = .returned (.bool true) ∧ Below w.heap.size w w' := by
  have glt : ∀ {i cs}, gl.find? (fun p => p.1 == i) = some (i, cs) → i < P.globals.size ∧ inR P gl tr i = some (i, 0, cs.length) := fun {i cs} h => by
    have h1 := List.mem_of_find?_eq_some h
    rw [List.all_eq_true] at hgl
    have h2 := of_decide_eq_true (hgl _ h1)
    exact ⟨h2, by unfold inR; rw [if_pos h2]; simp only [glExt, h]⟩
  refine law_calls hP hrun ha ⟨fun i o hi => ?_, fun i j oi oj b d e b' d' e' hi hj hne hri hrj ho => ?_⟩ (inR_glob gl tr) (fun i o hi => ?_) (fun i hi => ?_) (fun i o hi => ?_)
  · rcases inH_get gl bs i o hi with ⟨k, cs, el, rfl, h2, rfl⟩ | ⟨cs, h1, rfl⟩
    · have hk : k < tr.length := by rw [hlen]; exact (List.getElem?_eq_some_iff.1 h2).1
      obtain ⟨⟨b, d, e⟩, h3⟩ : ∃ x, tr[k]? = some x := ⟨tr[k], List.getElem?_eq_getElem hk⟩
      exact ⟨b, d, e, by rw [inR_at, h3], hcells k cs el b d e h2 h3⟩
    · exact ⟨i, 0, cs.length, (glt h1).2, hglob i cs (List.mem_of_find?_eq_some h1)⟩
  · rcases inH_get gl bs i oi hi with ⟨k, cs, el, rfl, h2, rfl⟩ | ⟨cs, h1, rfl⟩ <;> cases ho
  · rcases inH_get gl bs i o hi with ⟨k, cs, el, rfl, h2, rfl⟩ | ⟨cs, h1, rfl⟩ <;> rfl
  · have h1 : P.globals.size + bs.length ≤ i := hi
    unfold inR
    rw [if_neg (by omega), List.getElem?_eq_none (by omega)]
  · rcases inH_get gl bs i o hi with ⟨k, cs, el, rfl, h2, rfl⟩ | ⟨cs, h1, rfl⟩ <;> rfl

end
end Go.Lv
