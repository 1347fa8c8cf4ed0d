/- Lv: operations that make, read or write memory run in the model as the evaluator says. -/
import Derived.Test.YthakgknamfopcaaLvEq
import Derived.Laws.Tables
namespace Go.Lv
open Go
set_option linter.unusedVariables false
set_option linter.unusedSimpArgs false

section
variable {P : Program} {w : World}

/-- The run of s yields what v denotes, and the world goes on to one that H' denotes. -/
def VR (P : Program) (s : Sem Value) (R : Ren) (H : LH) (w : World) (v : LV) (H' : LH) : Prop :=
  ∃ R' x w', s.run P w = .ok x w' ∧ Goes R H w R' H' w' ∧ Den R' H' w' ∧ DV R' v x

theorem VR.same {s : Sem Value} {R : Ren} {H : LH} {v : LV} {x : Value} (hd : Den R H w) (h : s.run P w = .ok x w) (hv : DV R v x) : VR P s R H w v H :=
  ⟨R, x, w, h, Goes.refl R H w, hd, hv⟩

theorem VR.map {s : Sem Value} {R : Ren} {H H' : LH} {v : LV} (h : VR P s R H w v H') (f : Value → Sem Value) (g : LV)
    (hf : ∀ R' x w', DV R' v x → Den R' H' w' → ∃ y, (f x).run P w' = .ok y w' ∧ DV R' g y) : VR P (do f (← s)) R H w g H' := by
  obtain ⟨R', x, w', h1, h2, h3, h4⟩ := h
  obtain ⟨y, hy, hd⟩ := hf R' x w' h4 h3
  exact ⟨R', y, w', by rw [Sem.run_bind, h1]; exact hy, h2, h3, hd⟩

/-- A new row of cells of the evaluator's own. -/
theorem new_row {R : Ren} {H : LH} (hd : Den R H w) (hf : R H.next = none) {cs : List LV} (el : Nat) (opn : Bool) {arr : Array Value}
    (hle : cs.length ≤ arr.size) (hc : ∀ R', RLe R R' → DVs R' cs (arr.toList.take cs.length)) (fr : Nat × Nat := (0, 0)) (hfr : fr.1 = fr.2 ∨ arr.size ≤ fr.1) :
    Goes R H w (R.put H.next (w.heap.size, 0, arr.size)) (H.new (.cells cs el true opn)) (w.alloc (.cells arr el fr)) ∧
      Den (R.put H.next (w.heap.size, 0, arr.size)) (H.new (.cells cs el true opn)) (w.alloc (.cells arr el fr)) := by
  refine goes_new hd hf _ _ _ ?_
  refine DO_of_cells rfl (by omega) (Nat.le_refl _) (by simpa using hc _ (RLe_put hf)) (fun _ => ⟨rfl, fun k _ hk hc => ?_⟩)
  omega

theorem oneCell_vals {R : Ren} : ∀ {xs : List LV} {vs : List Value}, DVs R xs vs → xs.all oneCell = true → ∀ v ∈ vs, v.oneCell' = true
  | [], vs, h, _ => by simp [DVs] at h; subst h; simp
  | x :: xs, _, h, ho => by
    simp only [DVs] at h
    obtain ⟨v, vs, rfl, h1, h2⟩ := h
    simp only [List.all_cons, Bool.and_eq_true] at ho
    intro u hu
    rcases List.mem_cons.1 hu with rfl | hu
    · rw [← oneCell_iff h1] at ho
      have := ho.1
      cases u <;> simp_all [Value.oneCell']
    · exact oneCell_vals h2 ho.2 u hu

/-- Cells of the evaluator's own are written. -/
theorem rn_store_own {R : Ren} {H H' : LH} (hd : Den R H w) {i off b d e : Nat} {xs : List LV} {vs : List Value} (hs : storeCellsL H i off xs = some H')
    (hr : R i = some (b, d, e)) (hx : DVs R xs vs) (ho : ∀ v ∈ vs, v.oneCell' = true) :
    ∃ w', (storeCells ⟨b, d + off, none⟩ vs).run P w = .ok () w' ∧ Goes R H w R H' w' ∧ Den R H' w' := by
  unfold storeCellsL at hs
  split at hs
  · rename_i cs el opn hg
    split at hs
    · rename_i hle
      cases hs
      obtain ⟨b', d', e', hr', hO⟩ := hd.obj i _ hg
      rw [hr] at hr'; cases hr'
      obtain ⟨arr, el', fr, h1, h2, h3, h4, h5⟩ := DO_cells hO
      obtain ⟨rfl, h6⟩ := h5 rfl
      have hl := DVs_length hx
      obtain ⟨w', arr', hrun, hb, hh, hsz, hk⟩ := rn_storeCells (P := P) vs w b (d + off) 0 el' arr fr h1 (by omega) ho (fun k hk1 hk2 => h6 k (by omega) (by omega))
      refine ⟨w', hrun, goes_put hd hg rfl hr hb rfl ?_⟩
      have hlen : (splice cs off xs).length = cs.length := by simp [splice]; omega
      refine ⟨arr', el', fr, hh, by omega, by omega, fun k x hkx => ?_, fun _ => ⟨rfl, h6⟩⟩
      have hkl : k < cs.length := by
        have := (List.getElem?_eq_some_iff.1 hkx).1
        omega
      rw [hk]
      simp only [Nat.add_zero]
      by_cases hin : off ≤ k ∧ k < off + xs.length
      · rw [if_pos (by omega)]
        have hx' : xs[k - off]? = some x := by
          simp only [splice, List.append_assoc] at hkx
          rw [List.getElem?_append_right (by simp; omega), List.length_take, Nat.min_eq_left (by omega), List.getElem?_append_left (by omega)] at hkx
          exact hkx
        obtain ⟨v, hv, hdv⟩ := DVs_get hx _ _ hx'
        exact ⟨v, by rw [← hv]; congr 1; omega, hdv⟩
      · rw [if_neg (by omega)]
        have hx' : cs[k]? = some x := by
          simp only [splice, List.append_assoc] at hkx
          by_cases hlt : k < off
          · rw [List.getElem?_append_left (by simp; omega), List.getElem?_take, if_pos hlt] at hkx
            exact hkx
          · rw [List.getElem?_append_right (by simp; omega), List.length_take, Nat.min_eq_left (by omega), List.getElem?_append_right (by omega), List.getElem?_drop] at hkx
            rw [← hkx]; congr 1; omega
        obtain ⟨v, hv, hdv⟩ := DVs_get h4 _ _ hx'
        rw [List.getElem?_take, if_pos hkl, List.getElem?_drop] at hv
        exact ⟨v, by simpa using hv, hdv⟩
    · cases hs
  · cases hs

theorem rn_storeVar {R : Ren} {H H' : LH} (hd : Den R H w) {t : Nat} {a x : LV} (hs : storeL P H t a x = some H') {av xv : Value} (ha : DV R a av) (hx : DV R x xv) :
    ∃ ad w', av = .pointer (some ad) ∧ (storeVar t ad xv).run P w = .ok () w' ∧ Goes R H w R H' w' ∧ Den R H' w' := by
  unfold storeL at hs
  split at hs
  · rename_i i off
    simp only [DV] at ha
    obtain ⟨b, d, e, hr, rfl⟩ := ha
    split at hs
    · rename_i hc
      obtain ⟨hsz, hone⟩ := hc
      have hcells := DV_cells hx
      obtain ⟨w', hrun, hg, hdd⟩ := rn_store_own (P := P) hd hs hr hcells (oneCell_vals hcells hone)
      refine ⟨_, w', rfl, ?_, hg, hdd⟩
      have hl := DVs_length hcells
      simp only [storeVar, Sem.run_bind, rn_sizeOf hsz, Result.andThen_ok]
      rw [if_neg (by simpa using hl)]
      simpa using hrun
    · cases hs
  · cases hs

/-- The cells of n zero values. -/
theorem zeros_eq {R : Ren} {z : List LV} {zv : Array Value} (hz : DVs R z zv.toList) (hp : 0 < zv.size) : ∀ n, DVs R (zerosL n z) (((Array.range (n * zv.size)).map (zv[· % zv.size]!)).toList) := by
  intro n
  have key : ∀ n, ((Array.range (n * zv.size)).map (zv[· % zv.size]!)).toList = (List.replicate n zv.toList).flatten := by
    intro n
    induction n with
    | zero => simp
    | succ n ih =>
      rw [List.replicate_succ', List.flatten_append, ← ih]
      simp only [Array.toList_map, Array.toList_range, List.flatten_singleton]
      rw [show (n + 1) * zv.size = n * zv.size + zv.size by rw [Nat.add_mul, Nat.one_mul], List.range_add, List.map_append]
      congr 1
      apply List.ext_getElem?
      intro j
      simp only [List.map_map, List.getElem?_map, List.getElem?_range, Array.getElem?_toList]
      by_cases hj : j < zv.size
      · rw [List.getElem?_range hj]
        simp only [Option.map_some, Function.comp]
        rw [show (n * zv.size + j) % zv.size = j by rw [Nat.mul_comm, Nat.mul_add_mod, Nat.mod_eq_of_lt hj]]
        simp [hj]
      · rw [List.getElem?_eq_none (by simpa using hj)]
        simp [hj]
  rw [key]
  induction n with
  | zero => simpa [zerosL] using DVs_nil
  | succ n ih => simpa [zerosL, List.replicate_succ] using DVs_append hz ih

/-! ### aggregates filled part by part -/
theorem foldl_set (off : Nat) : ∀ (l : List Value) (k : Nat) (arr : Array Value), off + k + l.length ≤ arr.size →
    ((l.zipIdx k).foldl (fun (cs : Array Value) (p : Value × Nat) => cs.setIfInBounds (off + p.2) p.1) arr).size = arr.size ∧
      ∀ m, ((l.zipIdx k).foldl (fun (cs : Array Value) (p : Value × Nat) => cs.setIfInBounds (off + p.2) p.1) arr)[m]? =
        if off + k ≤ m ∧ m < off + k + l.length then l[m - (off + k)]? else arr[m]?
  | [], k, arr, _ => ⟨rfl, fun m => by rw [if_neg (by simp)]; rfl⟩
  | v :: l, k, arr, h => by
    simp only [List.length_cons] at h
    have ih := foldl_set off l (k + 1) (arr.setIfInBounds (off + k) v) (by simp; omega)
    simp only [List.zipIdx_cons, List.foldl_cons]
    refine ⟨by rw [ih.1]; simp, fun m => ?_⟩
    rw [ih.2]
    by_cases e1 : m = off + k
    · subst e1
      rw [if_neg (by omega), if_pos ⟨by omega, by simp⟩, Array.getElem?_setIfInBounds, if_pos rfl, if_pos (by omega)]
      simp
    · by_cases e2 : off + k ≤ m ∧ m < off + k + (l.length + 1)
      · rw [if_pos ⟨by omega, by omega⟩, if_pos (by simpa using e2)]
        have : m - (off + k) = (m - (off + (k + 1))) + 1 := by omega
        rw [this]; simp
      · rw [if_neg (by omega), if_neg (by simpa using e2), Array.getElem?_setIfInBounds, if_neg (by omega)]

theorem splice_length {cs xs : List LV} {off : Nat} (h : off + xs.length ≤ cs.length) : (splice cs off xs).length = cs.length := by simp [splice]; omega

theorem splice_get {cs xs : List LV} {off : Nat} (h : off + xs.length ≤ cs.length) (k : Nat) :
    (splice cs off xs)[k]? = if off ≤ k ∧ k < off + xs.length then xs[k - off]? else cs[k]? := by
  simp only [splice, List.append_assoc]
  by_cases h1 : k < off
  · rw [if_neg (by omega), List.getElem?_append_left (by simp; omega), List.getElem?_take, if_pos h1]
  · rw [List.getElem?_append_right (by simp; omega), List.length_take, Nat.min_eq_left (by omega)]
    by_cases h2 : k < off + xs.length
    · rw [if_pos ⟨by omega, h2⟩, List.getElem?_append_left (by omega)]
    · rw [if_neg (by omega), List.getElem?_append_right (by omega), List.getElem?_drop]
      congr 1; omega

inductive PartsR (R : Ren) : List (Nat × LV) → List (Nat × Value) → Prop where
  | nil : PartsR R [] []
  | cons {i : Nat} {x : LV} {v : Value} {ps : List (Nat × LV)} {vs : List (Nat × Value)} (h : DV R x v) (k : PartsR R ps vs) : PartsR R ((i, x) :: ps) ((i, v) :: vs)

theorem fill_sound {R : Ren} {place : Nat → Option (Nat × Nat)} : ∀ {ps : List (Nat × LV)} {vs : List (Nat × Value)} {cs out : List LV} {arr : Array Value},
    PartsR R ps vs → DVs R cs arr.toList → fillL place cs ps = some out → ∃ arr', Instr.fill place arr vs = some arr' ∧ DVs R out arr'.toList ∧ out.length = cs.length := by
  intro ps vs cs out arr hp
  induction hp generalizing cs arr with
  | nil => intro hc h; simp [fillL] at h; subst h; exact ⟨arr, rfl, hc, rfl⟩
  | @cons i x v ps vs hx hps ih =>
    intro hc h
    simp only [fillL] at h
    cases hpl : place i with
    | none => simp [hpl] at h
    | some p =>
      obtain ⟨off, size⟩ := p
      simp only [hpl] at h
      split at h
      · rename_i hcond
        obtain ⟨hsz, hle⟩ := hcond
        have hcells := DV_cells hx
        have hl := DVs_length hcells
        have hlc := DVs_length hc
        simp only [Array.length_toList] at hl hlc
        have hf := foldl_set off v.cells.toList 0 arr (by simp; omega)
        have hfold : v.cells.zipIdx.foldl (fun (cs : Array Value) (p : Value × Nat) => cs.setIfInBounds (off + p.2) p.1) arr =
            (v.cells.toList.zipIdx 0).foldl (fun (cs : Array Value) (p : Value × Nat) => cs.setIfInBounds (off + p.2) p.1) arr := by
          rw [← Array.foldl_toList, Array.toList_zipIdx]
        have hdv : DVs R (splice cs off x.cells) (((v.cells.toList.zipIdx 0).foldl (fun (cs : Array Value) (p : Value × Nat) => cs.setIfInBounds (off + p.2) p.1) arr).toList) := by
          refine DVs_of_get _ _ ?_ fun k y hk => ?_
          · rw [splice_length (by omega), Array.length_toList, hf.1]; omega
          · rw [splice_get (by omega)] at hk
            rw [Array.getElem?_toList, hf.2]
            simp only [Nat.add_zero, Array.length_toList]
            by_cases hin : off ≤ k ∧ k < off + x.cells.length
            · rw [if_pos hin] at hk
              rw [if_pos (by omega)]
              exact DVs_get hcells _ _ hk
            · rw [if_neg hin] at hk
              rw [if_neg (by omega)]
              obtain ⟨u, hu, hd⟩ := DVs_get hc _ _ hk
              exact ⟨u, by simpa using hu, hd⟩
        obtain ⟨arr', h1, h2, h3⟩ := ih hdv h
        refine ⟨arr', ?_, h2, by rw [h3, splice_length (by omega)]⟩
        simp only [Instr.fill, hpl]
        rw [if_neg]
        · rw [← h1]; congr 1
        · simp; omega
      · cases h

theorem evParts_sound {R : Ren} {E : Env} {a : Act} (h : EnvR R E a.tmps) : ∀ {xs : List (Nat × Operand)} {vs : List (Nat × LV)}, evParts E xs = some vs →
    PartsR R vs (xs.map fun (i, x) => (i, a.eval x))
  | [], vs, hx => by simp [evParts] at hx; subst hx; exact .nil
  | (i, x) :: xs, vs, hx => by
    simp only [evParts] at hx
    split at hx
    · rename_i v us hv hu
      cases hx
      exact .cons (ev_sound h hv) (evParts_sound h hu)
    · cases hx

end
end Go.Lv
