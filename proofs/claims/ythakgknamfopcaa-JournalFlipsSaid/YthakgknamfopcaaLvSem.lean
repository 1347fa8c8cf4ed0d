/- Lv: runs of the model's small parts (types, loads, stores of several cells) in a world that a logical heap denotes. -/
import Derived.Test.YthakgknamfopcaaLvHeap
import Derived.Laws.Sem
import Derived.Laws.Cells
import Derived.Laws.World
namespace Go.Lv
open Go
set_option linter.unusedVariables false
set_option linter.unusedSimpArgs false

section
variable {P : Program} {w : World}

theorem rn_underlying {t : Nat} {d : TypeDesc} (h : P.underlying t = some d) : (underlying t).run P w = .ok d w := by
  simp [underlying, h]
theorem rn_typeInfo {t : Nat} {i : TypeInfo} (h : P.info? t = some i) : (typeInfo t).run P w = .ok i w := by
  simp [typeInfo, h]
theorem rn_sizeOf {t n : Nat} (h : sizeT P t = some n) : (sizeOf t).run P w = .ok n w := by
  unfold sizeT at h
  obtain ⟨i, hi, rfl⟩ := Option.map_eq_some_iff.1 h
  simp [sizeOf, rn_typeInfo hi]
theorem rn_bytes {t n : Nat} (h : bytesT P t = some n) : ∃ i, (typeInfo t).run P w = .ok i w ∧ i.bytes = n := by
  unfold bytesT at h
  obtain ⟨i, hi, rfl⟩ := Option.map_eq_some_iff.1 h
  exact ⟨i, rn_typeInfo hi, rfl⟩
theorem rn_isAgg {t : Nat} {b : Bool} (h : isAggT P t = some b) : (isAgg t).run P w = .ok b w := by
  unfold isAggT at h
  obtain ⟨d, hd, rfl⟩ := Option.map_eq_some_iff.1 h
  cases d <;> simp [isAgg, rn_underlying hd]
theorem rn_zeroValue {t : Nat} {z : LV} (h : zeroT P t = some z) : ∃ v, (∀ w, (zeroValue t).run P w = .ok v w) ∧ ∀ R, DV R z v := by
  unfold zeroT at h
  cases hi : P.info? t with
  | none => simp [hi] at h
  | some i =>
    cases hz : i.zero with
    | none => simp [hi, hz] at h
    | some v =>
      simp [hi, hz] at h
      exact ⟨v, fun w => by simp [zeroValue, rn_typeInfo hi, hz], fun R => ofV_DV _ _ _ h⟩

theorem addr_add (b o n : Nat) : (⟨b, o, none⟩ : Addr).add n = ⟨b, o + n, none⟩ := by
  unfold Addr.add
  split
  · rename_i h; subst h; rfl
  · rfl

theorem cell_at {b o el : Nat} {arr : Array Value} {fr : Nat × Nat} (h : w.heap[b]? = some (.cells arr el fr)) : w.cell? ⟨b, o, none⟩ = arr[o]? := by
  simp [World.cell?, h]

theorem frozen_at {b o el : Nat} {arr : Array Value} {fr : Nat × Nat} (h : w.heap[b]? = some (.cells arr el fr)) :
    w.frozen? ⟨b, o, none⟩ = (decide (fr.1 ≤ o) && decide (o < fr.2)) := by
  obtain ⟨lo, hi⟩ := fr
  simp [World.frozen?, h]

/-- A cell that is there is read. -/
theorem rn_load {b o el : Nat} {arr : Array Value} {fr : Nat × Nat} {v : Value} (h : w.heap[b]? = some (.cells arr el fr)) (hv : arr[o]? = some v) :
    (load ⟨b, o, none⟩).run P w = .ok v w := by
  have hc : w.cell? ⟨b, o, none⟩ = some v := by rw [cell_at h]; exact hv
  simp [load, Sem.run, hc]

/-- The logical cells of an object, and the cells that they denote. -/
theorem DO_cells {R : Ren} {b d e el : Nat} {cs : List LV} {own opn : Bool} (h : DO R w.heap[b]? d e (.cells cs el own opn)) :
    ∃ arr el' fr, w.heap[b]? = some (.cells arr el' fr) ∧ d + cs.length ≤ e ∧ e ≤ arr.size ∧ DVs R cs ((arr.toList.drop d).take cs.length) ∧
      (own = true → el' = el ∧ ∀ k, d ≤ k → k < e → ¬ (fr.1 ≤ k ∧ k < fr.2)) := by
  obtain ⟨arr, el', fr, h1, h2, h3, h4, h5⟩ := h
  refine ⟨arr, el', fr, h1, h2, h3, DVs_of_get _ _ (by simp; omega) fun i x hx => ?_, h5⟩
  obtain ⟨v, hv, hd⟩ := h4 i x hx
  have hi : i < cs.length := (List.getElem?_eq_some_iff.1 hx).1
  exact ⟨v, by rw [List.getElem?_take, if_pos hi, List.getElem?_drop]; simpa using hv, hd⟩

theorem DO_of_cells {R : Ren} {o : Option Obj} {d e el el' : Nat} {cs : List LV} {own opn : Bool} {arr : Array Value} {fr : Nat × Nat}
    (h1 : o = some (.cells arr el' fr)) (h2 : d + cs.length ≤ e) (h3 : e ≤ arr.size) (h4 : DVs R cs ((arr.toList.drop d).take cs.length))
    (h5 : own = true → el' = el ∧ ∀ k, d ≤ k → k < e → ¬ (fr.1 ≤ k ∧ k < fr.2)) : DO R o d e (.cells cs el own opn) := by
  refine ⟨arr, el', fr, h1, h2, h3, fun k x hx => ?_, h5⟩
  obtain ⟨v, hv, hd⟩ := DVs_get h4 k x hx
  have hi : k < cs.length := (List.getElem?_eq_some_iff.1 hx).1
  rw [List.getElem?_take, if_pos hi, List.getElem?_drop] at hv
  exact ⟨v, by simpa using hv, hd⟩

/-- So many cells from a place on are read. -/
theorem rn_loadCells {R : Ren} {H : LH} (hd : Den R H w) {i off n b d e : Nat} {xs : List LV} (hx : cellsAt H i off n = some xs) (hr : R i = some (b, d, e)) :
    ∃ vs : List Value, (loadCells ⟨b, d + off, none⟩ n).run P w = .ok vs.toArray w ∧ DVs R xs vs ∧ vs.length = n ∧ xs.length = n := by
  unfold cellsAt at hx
  split at hx
  · rename_i cs el own opn ho
    split at hx
    · rename_i hle
      cases hx
      obtain ⟨b', d', e', hr', hO⟩ := hd.obj i _ ho
      rw [hr] at hr'; cases hr'
      obtain ⟨arr, el', fr, h1, h2, h3, h4, _⟩ := DO_cells hO
      have hlen : (((arr.toList.drop (d + off)).take n)).length = n := by simp; omega
      have hdv : DVs R ((cs.drop off).take n) ((arr.toList.drop (d + off)).take n) := by
        refine DVs_of_get _ _ (by simp; omega) fun k x hk => ?_
        have hkl : k < n := by
          have := (List.getElem?_eq_some_iff.1 hk).1
          simp at this; omega
        rw [List.getElem?_take, if_pos hkl, List.getElem?_drop] at hk
        obtain ⟨v, hv, hdd⟩ := DVs_get h4 _ x hk
        refine ⟨v, ?_, hdd⟩
        have hol : off + k < cs.length := (List.getElem?_eq_some_iff.1 hk).1
        rw [List.getElem?_take, if_pos hol, List.getElem?_drop] at hv
        rw [List.getElem?_take, if_pos hkl, List.getElem?_drop, ← hv]
        congr 1; omega
      refine ⟨_, ?_, hdv, hlen, by simp; omega⟩
      have := run_loadCells_list (P := P) w ⟨b, d + off, none⟩ ((arr.toList.drop (d + off)).take n) (fun j v hj => by
        rw [addr_add, cell_at h1]
        have hjn : j < n := by
          have := (List.getElem?_eq_some_iff.1 hj).1
          simp at this; omega
        rw [List.getElem?_take, if_pos hjn, List.getElem?_drop] at hj
        simpa using hj)
      rwa [hlen] at this
    · cases hx
  · cases hx

theorem rn_load1 {R : Ren} {H : LH} (hd : Den R H w) {i off b d e : Nat} {x : LV} (hx : cellsAt H i off 1 = some [x]) (hr : R i = some (b, d, e)) :
    ∃ v, (load ⟨b, d + off, none⟩).run P w = .ok v w ∧ DV R x v := by
  unfold cellsAt at hx
  split at hx
  · rename_i cs el own opn ho
    split at hx
    · rename_i hle
      obtain ⟨b', d', e', hr', hO⟩ := hd.obj i _ ho
      rw [hr] at hr'; cases hr'
      obtain ⟨arr, el', fr, h1, h2, h3, h4, h5⟩ := hO
      have hx' : cs[off]? = some x := by
        have := congrArg (fun l : Option (List LV) => (l.getD [])[0]?) hx
        simpa using this
      obtain ⟨v, hv, hdv⟩ := h4 off x hx'
      exact ⟨v, rn_load h1 hv, hdv⟩
    · cases hx
  · cases hx

theorem rn_loadVar {R : Ren} {H : LH} (hd : Den R H w) {t : Nat} {a x : LV} (hx : loadL P H t a = some x) {av : Value} (ha : DV R a av) :
    ∃ ad v, av = .pointer (some ad) ∧ (loadVar t ad).run P w = .ok v w ∧ DV R x v := by
  unfold loadL at hx
  split at hx
  · rename_i i off
    simp only [DV] at ha
    obtain ⟨b, d, e, hr, rfl⟩ := ha
    split at hx
    · rename_i n hagg hsz
      obtain ⟨xs, hxs, rfl⟩ := Option.map_eq_some_iff.1 hx
      obtain ⟨vs, hrun, hdv, _, _⟩ := rn_loadCells (P := P) hd hxs hr
      refine ⟨_, .agg vs.toArray, rfl, ?_, by simp only [DV]; exact ⟨_, rfl, by simpa using hdv⟩⟩
      simp [loadVar, rn_isAgg hagg, rn_sizeOf hsz, hrun]
    · rename_i n hagg hsz
      split at hx
      · rename_i y hy
        cases hx
        obtain ⟨v, hrun, hdv⟩ := rn_load1 (P := P) hd hy hr
        refine ⟨_, v, rfl, ?_, hdv⟩
        simp [loadVar, rn_isAgg hagg, -run_load, hrun]
      · cases hx
    · cases hx
  · cases hx

/-! ### stores -/
theorem setCell_but (w : World) (b o : Nat) (v : Value) : But w (w.setCell ⟨b, o, none⟩ v) b where
  size := by simp
  same k hk := by
    show (w.heap.modify b _)[k]? = _
    rw [Array.getElem?_modify, if_neg (fun e => hk e.symm)]
  os := rfl
  tape := rfl
  output := rfl

theorem But.trans {w w' w'' : World} {b : Nat} (h : But w w' b) (k : But w' w'' b) : But w w'' b :=
  ⟨k.size.trans h.size, fun i hi => (k.same i hi).trans (h.same i hi), k.os.trans h.os, k.tape.trans h.tape, k.output.trans h.output⟩
theorem But.refl (w : World) (b : Nat) : But w w b := ⟨rfl, fun _ _ => rfl, rfl, rfl, rfl⟩

theorem setCell_heap {b o el : Nat} {arr : Array Value} {fr : Nat × Nat} (v : Value) (h : w.heap[b]? = some (.cells arr el fr)) :
    (w.setCell ⟨b, o, none⟩ v).heap[b]? = some (.cells (arr.setIfInBounds o v) el fr) := by
  obtain ⟨lo, hi⟩ := fr
  simp [World.setCell, Array.getElem?_modify, h]

theorem rn_storeCells : ∀ (vs : List Value) (w : World) (b o i el : Nat) (arr : Array Value) (fr : Nat × Nat), w.heap[b]? = some (.cells arr el fr) → o + i + vs.length ≤ arr.size →
    (∀ v ∈ vs, v.oneCell' = true) → (∀ k, o + i ≤ k → k < o + i + vs.length → ¬ (fr.1 ≤ k ∧ k < fr.2)) →
    ∃ w' arr', (storeCells ⟨b, o, none⟩ vs i).run P w = .ok () w' ∧ But w w' b ∧ w'.heap[b]? = some (.cells arr' el fr) ∧ arr'.size = arr.size ∧
      ∀ k, arr'[k]? = if o + i ≤ k ∧ k < o + i + vs.length then vs[k - (o + i)]? else arr[k]?
  | [], w, b, o, i, el, arr, fr, h, _, _, _ => ⟨w, arr, by simp [storeCells], But.refl _ _, h, rfl, fun k => by rw [if_neg]; simp⟩
  | v :: vs, w, b, o, i, el, arr, fr, h, hle, h1, hfr => by
    simp only [List.length_cons] at hle hfr
    have hc : w.cell? ⟨b, o + i, none⟩ = some arr[o + i] := by rw [cell_at h]; exact Array.getElem?_eq_getElem (by omega)
    have hf : w.frozen? ⟨b, o + i, none⟩ = false := by
      rw [frozen_at h]
      have := hfr (o + i) (by omega) (by omega)
      simp; omega
    have hst : (store ⟨b, o + i, none⟩ v).run P w = .ok () (w.setCell ⟨b, o + i, none⟩ v) := by
      rw [run_store P w _ v _ (h1 v (by simp)), hc]; simp [hf]
    obtain ⟨w', arr', hrun, hb, hh, hs, hk⟩ := rn_storeCells vs (w.setCell ⟨b, o + i, none⟩ v) b o (i + 1) el (arr.setIfInBounds (o + i) v) fr (setCell_heap v h)
      (by simp; omega) (fun u hu => h1 u (by simp [hu])) (fun k hk1 hk2 => hfr k (by omega) (by omega))
    refine ⟨w', arr', ?_, (setCell_but w b (o + i) v).trans hb, hh, by simpa using hs, fun k => ?_⟩
    · simp only [storeCells, Sem.run_bind, addr_add, hst, Result.andThen_ok, hrun]
    · rw [hk]
      by_cases e1 : k = o + i
      · subst e1
        rw [if_neg (by omega), if_pos ⟨by omega, by simp⟩, Array.getElem?_setIfInBounds, if_pos rfl, if_pos (by omega)]
        simp
      · by_cases e2 : o + i ≤ k ∧ k < o + i + (vs.length + 1)
        · rw [if_pos ⟨by omega, by omega⟩, if_pos (by simpa using e2)]
          have : k - (o + i) = (k - (o + (i + 1))) + 1 := by omega
          rw [this]; simp
        · rw [if_neg (by omega), if_neg (by simpa using e2), Array.getElem?_setIfInBounds, if_neg (by omega)]

end
end Go.Lv
