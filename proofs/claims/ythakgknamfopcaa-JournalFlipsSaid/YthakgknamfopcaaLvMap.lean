/- Lv: maps whose keys are integers: definitions and the model's run of them (not yet within 'lop'). -/
import Derived.Test.YthakgknamfopcaaLvOps
namespace Go.Lv
open Go
set_option linter.unusedVariables false
set_option linter.unusedSimpArgs false

section
variable {P : Program} {R : Ren} {H : LH} {w : World}

theorem findL_sound {a : IntKind} {x : Int} {kk : IntKind} : ∀ {es : List (LV × LV × Nat)} {xs : List MapEntry} {i : Nat} {r : Option (Nat × LV)}, EntR R es xs → findL a x es i = some r →
    ∃ r', Instr.findNow (.int kk) (.int a x) xs i = some r' ∧ (match r with | none => r' = none | some (j, v) => ∃ v', r' = some (j, v') ∧ DV R v v')
  | [], xs, i, r, he, h => by
    simp only [EntR] at he
    subst he
    simp only [findL, Option.some.injEq] at h
    subst h
    exact ⟨none, rfl, rfl⟩
  | (k, v, n) :: es, xs, i, r, he, h => by
    simp only [EntR] at he
    obtain ⟨y, ys, rfl, hk, hv, hn, hes⟩ := he
    simp only [findL] at h
    split at h
    · rename_i b z
      simp only [DV] at hk
      split at h
      · rename_i hab
        subst hab
        split at h
        · rename_i hxy
          subst hxy
          cases h
          exact ⟨some (i, y.val), by simp [Instr.findNow, Instr.sameNow, hk], y.val, rfl, hv⟩
        · rename_i hxy
          obtain ⟨r', h1, h2⟩ := findL_sound (kk := kk) hes h
          have e : (x == z) = false := by simpa using hxy
          exact ⟨r', by simp [Instr.findNow, Instr.sameNow, hk, e, h1], h2⟩
      · cases h
    · cases h

theorem run_checkKey_int {kt : Nat} {kk : IntKind} (hk : P.underlying kt = some (.int kk)) (em : Bool) (n : Nat) (a : IntKind) (x : Int) :
    (Instr.checkKey em (n + 1) kt (.int a x)).run P w = .ok () w := by
  simp [Instr.checkKey, rn_underlying hk]

theorem rn_getMap {r : Nat} {es : Array MapEntry} {c : Nat} (h : w.heap[r]? = some (.map es c)) : (getObj r).run P w = .ok (.map es c) w := by simp [getObj, Sem.run, h]
theorem rn_setMap {r : Nat} {es : Array MapEntry} {c : Nat} (o : Obj) (h : w.heap[r]? = some (.map es c)) : (setObj r o).run P w = .ok () (w.putObj r o) := by simp [setObj, Sem.run, h, World.putObj]

theorem lookup_sound (hd : Den R H w) {t : Nat} {m key r : LV} {ok : Bool} {mv kv : Value} (h : lookupL P H t m key ok = some r) (hm : DV R m mv) (hk : DV R key kv) :
    ∃ v, (Instr.lookup t mv kv ok).run P w = .ok v w ∧ DV R r v := by
  unfold lookupL at h
  split at h
  · rename_i kt et ht
    split at h
    · rename_i kk a x hkt
      simp only [DV] at hk
      subst hk
      split at h
      · rename_i es hes
        have hsrc : ∃ xs : Array MapEntry, EntR R es xs.toList ∧ ((mv = .map none ∧ xs = #[]) ∨ ∃ b c, mv = .map (some b) ∧ w.heap[b]? = some (.map xs c)) := by
          split at hes
          · cases hes
            simp only [DV] at hm
            exact ⟨#[], by simp [EntR], .inl ⟨hm, rfl⟩⟩
          · rename_i i
            split at hes
            · rename_i es' c hget
              cases hes
              simp only [DV] at hm
              obtain ⟨b, d, e, hR, hmv⟩ := hm
              obtain ⟨b', d', e', hR', hO⟩ := hd.obj _ _ hget
              rw [hR] at hR'
              cases hR'
              obtain ⟨xs, hw, hx⟩ := hO
              exact ⟨xs, hx, .inr ⟨b, c, hmv, hw⟩⟩
            · cases hes
          · cases hes
        obtain ⟨xs, hx, hmv⟩ := hsrc
        have hrun : ∀ {r' : Option (Nat × Value)} {z : Value}, Instr.findNow (.int kk) (.int a x) xs.toList 0 = some r' → (r' = none → (zeroValue et).run P w = .ok z w) →
            (Instr.lookup t mv (.int a x) ok).run P w = .ok (match r' with | some (_, v) => if ok then .tuple #[v, .bool true] else v | none => if ok then .tuple #[z, .bool false] else z) w := fun {r' z} h1 hz => by
          rcases hmv with ⟨rfl, rfl⟩ | ⟨b, c, rfl, hw⟩
          · cases r' with
            | none => simp [Instr.lookup, rn_underlying ht, run_checkKey_int hkt, Instr.findKey, rn_underlying hkt, h1, hz rfl, Result.andThen]
            | some q => simp [Instr.lookup, rn_underlying ht, run_checkKey_int hkt, Instr.findKey, rn_underlying hkt, h1, Result.andThen]
          · cases r' with
            | none => simp [Instr.lookup, rn_underlying ht, rn_getMap hw, run_checkKey_int hkt, Instr.findKey, rn_underlying hkt, h1, hz rfl, Result.andThen]
            | some q => simp [Instr.lookup, rn_underlying ht, rn_getMap hw, run_checkKey_int hkt, Instr.findKey, rn_underlying hkt, h1, Result.andThen]
        split at h
        · rename_i j v hf
          obtain ⟨r', h1, v', rfl, hv⟩ := findL_sound (kk := kk) hx hf
          cases h
          refine ⟨_, hrun (z := undef) h1 (fun e => by cases e), ?_⟩
          cases ok
          · exact hv
          · simp only [if_true, DV]; exact ⟨_, rfl, DVs_cons hv (DVs_one (by simp [DV]))⟩
        · rename_i hf
          obtain ⟨r', h1, h2⟩ := findL_sound (kk := kk) hx hf
          simp only at h2
          subst h2
          obtain ⟨z, hz, rfl⟩ := Option.map_eq_some_iff.1 h
          obtain ⟨zv, hz1, hz2⟩ := rn_zeroValue (P := P) hz
          refine ⟨_, hrun h1 (fun _ => hz1 w), ?_⟩
          cases ok
          · exact hz2 R
          · simp only [if_true, DV]; exact ⟨_, rfl, DVs_cons (hz2 R) (DVs_one (by simp [DV]))⟩
        · cases h
      · cases h
    · cases h
  · cases h

theorem findL_at {a : IntKind} {x : Int} : ∀ {es : List (LV × LV × Nat)} {i j : Nat} {v : LV}, findL a x es i = some (some (j, v)) → i ≤ j ∧ ∃ n, es[j - i]? = some (.int a x, v, n)
  | [], i, j, v, h => by simp [findL] at h
  | (k, u, n) :: es, i, j, v, h => by
    simp only [findL] at h
    split at h
    · rename_i b y
      split at h
      · rename_i hab
        subst hab
        split at h
        · rename_i hxy
          subst hxy
          cases h
          exact ⟨Nat.le_refl _, n, by simp⟩
        · obtain ⟨h1, m, h2⟩ := findL_at h
          refine ⟨by omega, m, ?_⟩
          have : j - i = (j - (i + 1)) + 1 := by omega
          rw [this]; simpa using h2
      · cases h
    · cases h

theorem EntR_get : ∀ {es : List (LV × LV × Nat)} {xs : List MapEntry} {j : Nat} {k v : LV} {n : Nat}, EntR R es xs → es[j]? = some (k, v, n) → ∃ y, xs[j]? = some y ∧ DV R k y.key
  | [], xs, j, k, v, n, h, hj => by simp at hj
  | (k', u, n') :: es, xs, j, k, v, n, h, hj => by
    simp only [EntR] at h
    obtain ⟨y, ys, rfl, h1, h2, h3, h4⟩ := h
    cases j with
    | zero => simp at hj; obtain ⟨rfl, rfl, rfl⟩ := hj; exact ⟨y, by simp, h1⟩
    | succ j => simp at hj; obtain ⟨z, hz, hd⟩ := EntR_get h4 hj; exact ⟨z, by simpa using hz, hd⟩

theorem EntR_set {key val : LV} {kv vv : Value} (hk : DV R key kv) (hv : DV R val vv) : ∀ {es : List (LV × LV × Nat)} {xs : List MapEntry} (i : Nat), EntR R es xs →
    EntR R (setE key val es i) (xs.modify i fun e => { e with key := kv, val := vv })
  | [], xs, i, h => by
    simp only [EntR] at h
    subst h
    cases i <;> simp [setE, EntR, List.modify]
  | (k, u, n) :: es, xs, 0, h => by
    simp only [EntR] at h
    obtain ⟨y, ys, rfl, h1, h2, h3, h4⟩ := h
    simp only [setE, List.modify_zero_cons, EntR]
    exact ⟨_, _, rfl, hk, hv, h3, h4⟩
  | (k, u, n) :: es, xs, i + 1, h => by
    simp only [EntR] at h
    obtain ⟨y, ys, rfl, h1, h2, h3, h4⟩ := h
    simp only [setE, List.modify_succ_cons, EntR]
    exact ⟨_, _, rfl, h1, h2, h3, EntR_set hk hv i h4⟩

theorem EntR_push {key val : LV} {kv vv : Value} (hk : DV R key kv) (hv : DV R val vv) (c : Nat) : ∀ {es : List (LV × LV × Nat)} {xs : List MapEntry}, EntR R es xs →
    EntR R (es ++ [(key, val, c)]) (xs ++ [{ key := kv, val := vv, born := c }])
  | [], xs, h => by
    simp only [EntR] at h
    subst h
    exact ⟨_, _, rfl, hk, hv, rfl, rfl⟩
  | (k, u, n) :: es, xs, h => by
    simp only [EntR] at h
    obtain ⟨y, ys, rfl, h1, h2, h3, h4⟩ := h
    exact ⟨_, _, rfl, h1, h2, h3, EntR_push hk hv c h4⟩

theorem EntR_erase : ∀ {es : List (LV × LV × Nat)} {xs : List MapEntry} (i : Nat), EntR R es xs → EntR R (es.eraseIdx i) (xs.eraseIdx i)
  | [], xs, i, h => by
    simp only [EntR] at h
    subst h
    cases i <;> simp [EntR]
  | (k, u, n) :: es, xs, 0, h => by
    simp only [EntR] at h
    obtain ⟨y, ys, rfl, h1, h2, h3, h4⟩ := h
    simpa using h4
  | (k, u, n) :: es, xs, i + 1, h => by
    simp only [EntR] at h
    obtain ⟨y, ys, rfl, h1, h2, h3, h4⟩ := h
    simp only [List.eraseIdx_cons_succ]
    exact ⟨_, _, rfl, h1, h2, h3, EntR_erase i h4⟩

theorem mapUpdate_sound (hd : Den R H w) {t : Nat} {m key val : LV} {H' : LH} (h : mapUpdateL P H t m key val = some H') {mv kv vv : Value} (hm : DV R m mv) (hk : DV R key kv) (hv : DV R val vv) :
    ∃ w', (Instr.mapUpdate t mv kv vv).run P w = .ok () w' ∧ Goes R H w R H' w' ∧ Den R H' w' := by
  unfold mapUpdateL at h
  split at h
  · rename_i kt et r a x ht
    split at h
    · rename_i kk es c hkt hget
      have hk0 := hk
      simp only [DV] at hk hm
      subst hk
      obtain ⟨b, d, e, hR, rfl⟩ := hm
      obtain ⟨b', d', e', hR', hO⟩ := hd.obj _ _ hget
      rw [hR] at hR'
      cases hR'
      obtain ⟨xs, hw, hx⟩ := hO
      have hlt : b < w.heap.size := (Array.getElem?_eq_some_iff.1 hw).1
      have put : ∀ (es' : List (LV × LV × Nat)) (c' : Nat) (xs' : Array MapEntry), EntR R es' xs'.toList → Goes R H w R (H.put r (.map es' c')) (w.putObj b (.map xs' c')) ∧ Den R (H.put r (.map es' c')) (w.putObj b (.map xs' c')) := fun es' c' xs' hx' =>
        goes_put hd hget rfl hR ⟨World.putObj_size, fun j hj => World.putObj_heap_other hj, rfl, rfl, rfl⟩ rfl (by rw [World.putObj_heap_same hlt]; exact ⟨xs', rfl, hx'⟩)
      split at h
      · rename_i j v hf
        cases h
        obtain ⟨r', h1, v', rfl, _⟩ := findL_sound (kk := kk) hx hf
        obtain ⟨_, n, hj⟩ := findL_at hf
        have hkey : ((xs[j]?).map (·.key)).getD (.int a x) = .int a x := by
          obtain ⟨y, hy, hdy⟩ := EntR_get hx (by simpa using hj)
          simp only [DV] at hdy
          have hy' : xs[j]? = some y := by simpa using hy
          rw [hy']; simp [hdy]
        have hstay : (Instr.keyThatStays (.int a x) (.int a x)).run P w = .ok (.int a x) w := by simp [Instr.keyThatStays, Instr.sameBits]
        obtain ⟨hg, hd'⟩ := put (setE (.int a x) val es j) c (xs.modify j fun e => { e with key := .int a x, val := vv }) (by rw [Array.toList_modify]; exact EntR_set hk0 hv j hx)
        exact ⟨_, by simp [Instr.mapUpdate, rn_underlying ht, rn_getMap hw, run_checkKey_int hkt, Instr.findKey, rn_underlying hkt, h1, hkey, hstay, rn_setMap _ hw, Result.andThen], hg, hd'⟩
      · rename_i hf
        cases h
        obtain ⟨r', h1, h2⟩ := findL_sound (kk := kk) hx hf
        simp only at h2
        subst h2
        obtain ⟨hg, hd'⟩ := put (es ++ [(.int a x, val, c)]) (c + 1) (xs.push { key := .int a x, val := vv, born := c }) (by rw [Array.toList_push]; exact EntR_push hk0 hv c hx)
        exact ⟨_, by simp [Instr.mapUpdate, rn_underlying ht, rn_getMap hw, run_checkKey_int hkt, Instr.findKey, rn_underlying hkt, h1, rn_setMap _ hw, Result.andThen], hg, hd'⟩
      · cases h
    · cases h
  · cases h

theorem delete_sound (hd : Den R H w) {t ty : Nat} {ts : Array Nat} (hts : ts[0]? = some t) {m key : LV} {H' : LH} (h : deleteL P H t m key = some H') {mv kv : Value} (hm : DV R m mv) (hk : DV R key kv) :
    ∃ w', (Builtin.delete_ ts ty #[mv, kv]).run P w = .ok (.tuple #[]) w' ∧ Goes R H w R H' w' ∧ Den R H' w' := by
  unfold deleteL at h
  split at h
  · rename_i kt et a x ht
    simp only [DV] at hk
    subst hk
    split at h
    · rename_i kk hkt
      cases h
      simp only [DV] at hm
      subst hm
      exact ⟨w, by simp [Builtin.delete_, hts, rn_underlying ht, run_checkKey_int hkt, Result.andThen], Goes.refl _ _ _, hd⟩
    · rename_i kk r hkt
      split at h
      · rename_i es c hget
        simp only [DV] at hm
        obtain ⟨b, d, e, hR, rfl⟩ := hm
        obtain ⟨b', d', e', hR', hO⟩ := hd.obj _ _ hget
        rw [hR] at hR'
        cases hR'
        obtain ⟨xs, hw, hx⟩ := hO
        have hlt : b < w.heap.size := (Array.getElem?_eq_some_iff.1 hw).1
        have put : ∀ (es' : List (LV × LV × Nat)) (xs' : Array MapEntry), EntR R es' xs'.toList → Goes R H w R (H.put r (.map es' c)) (w.putObj b (.map xs' c)) ∧ Den R (H.put r (.map es' c)) (w.putObj b (.map xs' c)) := fun es' xs' hx' =>
          goes_put hd hget rfl hR ⟨World.putObj_size, fun j hj => World.putObj_heap_other hj, rfl, rfl, rfl⟩ rfl (by rw [World.putObj_heap_same hlt]; exact ⟨xs', rfl, hx'⟩)
        split at h
        · rename_i j v hf
          cases h
          obtain ⟨r', h1, v', rfl, _⟩ := findL_sound (kk := kk) hx hf
          obtain ⟨hg, hd'⟩ := put (es.eraseIdx j) (xs.eraseIdxIfInBounds j) (by rw [Array.toList_eraseIdxIfInBounds]; exact EntR_erase j hx)
          exact ⟨_, by simp [Builtin.delete_, hts, rn_underlying ht, rn_getMap hw, run_checkKey_int hkt, Instr.findKey, rn_underlying hkt, h1, rn_setMap _ hw, Result.andThen], hg, hd'⟩
        · rename_i hf
          cases h
          obtain ⟨r', h1, h2⟩ := findL_sound (kk := kk) hx hf
          simp only at h2
          subst h2
          obtain ⟨hg, hd'⟩ := put es xs hx
          exact ⟨_, by simp [Builtin.delete_, hts, rn_underlying ht, rn_getMap hw, run_checkKey_int hkt, Instr.findKey, rn_underlying hkt, h1, rn_setMap _ hw, Result.andThen], hg, hd'⟩
        · cases h
      · cases h
    · cases h
  · cases h
end
end Go.Lv
