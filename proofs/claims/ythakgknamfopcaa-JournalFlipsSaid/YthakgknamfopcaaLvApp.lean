/- Lv: append, copy and make run in the model as the evaluator says. -/
import Derived.Test.YthakgknamfopcaaLvPut
import Derived.IntWalk
namespace Go.Lv
open Go
set_option linter.unusedVariables false
set_option linter.unusedSimpArgs false

/-- A block is given up. -/
theorem goes_del {R : Ren} {H : LH} {w : World} (hd : Den R H w) (i : Nat) : Goes R H w R (H.del i) w ∧ Den R (H.del i) w := by
  have hget : ∀ j p, (H.del i).get j = some p → H.get j = some p := by
    intro j p hj
    rw [LH.get_del] at hj
    split at hj
    · cases hj
    · exact hj
  refine ⟨⟨RLe.refl R, fun _ _ h => .inl h, by simp, Nat.le_refl _, fun _ _ _ => rfl, ?_, rfl, rfl, rfl⟩, ⟨fun j p hj => hd.obj j p (hget j p hj), ?_⟩⟩
  · rintro b ⟨j, p, d, e, hj, hp, hr⟩
    exact .inl ⟨j, p, d, e, hget j p hj, hp, hr⟩
  · intro j k oj ok b1 d1 e1 b2 d2 e2 hj hk hne
    exact hd.inj j k oj ok b1 d1 e1 b2 d2 e2 (hget j oj hj) (hget k ok hk) hne

/-- A block goes on under a new number, from a place in it on. -/
theorem goes_move {R : Ren} {H : LH} {w w' : World} (hd : Den R H w) (hf : R H.next = none) {i : Nat} {o o' : LO} {b d e d' e' : Nat} (hi : H.get i = some o)
    (ho : o.owns = true) (hr : R i = some (b, d, e)) (hb : But w w' b) (hO : DO (R.put H.next (b, d', e')) w'.heap[b]? d' e' o') :
    Goes R H w (R.put H.next (b, d', e')) ((H.del i).new o') w' ∧ Den (R.put H.next (b, d', e')) ((H.del i).new o') w' := by
  have hle : RLe R (R.put H.next (b, d', e')) := RLe_put hf
  have hget : ∀ j p, ((H.del i).new o').get j = some p → j ≠ H.next → H.get j = some p ∧ j ≠ i := by
    intro j p hj hne
    rw [LH.get_new, LH.next_del, if_neg hne, LH.get_del] at hj
    split at hj
    · cases hj
    · rename_i h; exact ⟨hj, h⟩
  have hR : ∀ j y, (R.put H.next (b, d', e')) j = some y → j ≠ H.next → R j = some y := by
    intro j y hj hne
    simpa [Ren.put, hne] using hj
  refine ⟨⟨hle, ?_, by simp, by rw [hb.size]; exact Nat.le_refl _, ?_, ?_, hb.os, hb.tape, hb.output⟩, ⟨?_, ?_⟩⟩
  · intro j y hy
    by_cases e1 : j = H.next
    · subst e1; exact .inr ⟨Nat.le_refl _, by simp⟩
    · exact .inl (hR j y hy e1)
  · intro c _ hno
    exact hb.same c (fun e1 => hno ⟨i, o, d, e, hi, ho, by rw [e1]; exact hr⟩)
  · rintro c ⟨j, p, d1, e1, hj, hp, hrj⟩
    by_cases e2 : j = H.next
    · subst e2
      rw [Ren.put_same] at hrj; cases hrj
      exact .inl ⟨i, o, d, e, hi, ho, hr⟩
    · exact .inl ⟨j, p, d1, e1, (hget j p hj e2).1, hp, hR j _ hrj e2⟩
  · intro j p hj
    by_cases e2 : j = H.next
    · subst e2
      have : ((H.del i).new o').get H.next = some o' := by rw [LH.get_new, LH.next_del, if_pos rfl]
      rw [this] at hj; cases hj
      exact ⟨b, d', e', Ren.put_same _ _ _, hO⟩
    · obtain ⟨hj', hne⟩ := hget j p hj e2
      obtain ⟨b2, d2, e3, hrj, hOj⟩ := hd.obj j p hj'
      refine ⟨b2, d2, e3, hle _ _ hrj, ?_⟩
      rw [hb.same b2 (fun e4 => hd.inj i j o p b d e b2 d2 e3 hi hj' (Ne.symm hne) hr hrj ho e4.symm)]
      exact hOj.mono hle
  · intro j k oj ok b1 d1 e1 b2 d2 e2 hj hk hne hrj hrk hown
    by_cases e3 : j = H.next
    · subst e3
      rw [Ren.put_same] at hrj; cases hrj
      obtain ⟨hk', hki⟩ := hget k ok hk (Ne.symm hne)
      exact hd.inj i k o ok _ _ _ _ _ _ hi hk' (Ne.symm hki) hr (hR k _ hrk (Ne.symm hne)) ho
    · obtain ⟨hj', hji⟩ := hget j oj hj e3
      by_cases e4 : k = H.next
      · subst e4
        rw [Ren.put_same] at hrk; cases hrk
        exact hd.inj j i oj o _ _ _ _ _ _ hj' hi hji (hR j _ hrj e3) hr hown
      · exact hd.inj j k oj ok _ _ _ _ _ _ hj' (hget k ok hk e4).1 hne (hR j _ hrj e3) (hR k _ hrk e4) hown

section
variable {P : Program} {w : World}

theorem rn_lenOf {R : Ren} {x : LV} {n : Nat} {v : Value} (h : lenL x = some n) (hv : DV R x v) : (Builtin.lenOf v).run P w = .ok n w := by
  unfold lenL at h
  split at h
  · rename_i a m c
    cases h
    cases a with
    | none => simp only [DV] at hv; obtain ⟨rfl, rfl, _⟩ := hv; rfl
    | some p =>
      obtain ⟨i, o⟩ := p
      cases c with
      | ex c => simp only [DV] at hv; obtain ⟨b, d, e, _, rfl⟩ := hv; rfl
      | op c => simp only [DV] at hv; obtain ⟨b, d, e, c', _, _, rfl⟩ := hv; rfl
  · cases h; simp only [DV] at hv; obtain ⟨a, c, rfl⟩ := hv; rfl
  · cases h; simp only [DV] at hv; subst hv
    simp [Builtin.lenOf, ByteArray.size]
  · cases h

theorem rn_loadCells0 (a : Addr) : (loadCells a 0).run P w = .ok #[] w := by simp [loadCells, loadCellsFrom]

theorem DVs_bytes {R : Ren} : ∀ (l : List UInt8), DVs R (bytesL l) (l.map fun b => Value.int .u8 b.toNat)
  | [] => DVs_nil
  | b :: l => by
    have := DVs_cons (R := R) (x := .int .u8 b.toNat) (v := .int .u8 b.toNat) (by simp [DV]) (DVs_bytes l)
    simpa [bytesL] using this

theorem rn_firstCells {R : Ren} {H : LH} (hd : Den R H w) {size n : Nat} {x : LV} {xs : List LV} {v : Value} (h : firstL H size n x = some xs) (hv : DV R x v) :
    ∃ vs : List Value, (Builtin.firstCells size n v).run P w = .ok vs.toArray w ∧ DVs R xs vs := by
  unfold firstL at h
  split at h
  · rename_i i off m c
    have hx : ∃ b d e cc, R i = some (b, d, e) ∧ v = .slice (some ⟨b, d + off, none⟩) m cc := by
      cases c with
      | ex c => simp only [DV] at hv; obtain ⟨b, d, e, h1, rfl⟩ := hv; exact ⟨b, d, e, _, h1, rfl⟩
      | op c => simp only [DV] at hv; obtain ⟨b, d, e, c', h1, _, rfl⟩ := hv; exact ⟨b, d, e, _, h1, rfl⟩
    obtain ⟨b, d, e, cc, hr, rfl⟩ := hx
    obtain ⟨vs, hrun, hdv, _, _⟩ := rn_loadCells (P := P) hd h hr
    exact ⟨vs, hrun, hdv⟩
  · rename_i m c
    split at h
    · cases h; simp only [DV] at hv; obtain ⟨rfl, _⟩ := hv
      exact ⟨[], rfl, DVs_nil⟩
    · cases h
  · split at h
    · rename_i hn
      cases h; simp only [DV] at hv; obtain ⟨a, c, rfl⟩ := hv
      subst hn
      exact ⟨[], by simp [Builtin.firstCells, rn_loadCells0], DVs_nil⟩
    · cases h
  · rename_i s
    split at h
    · rename_i hle
      obtain ⟨hle, _⟩ := hle
      cases h; simp only [DV] at hv; subst hv
      refine ⟨_, ?_, DVs_bytes (s.take n)⟩
      simp only [Builtin.firstCells, Sem.run_pure]
      congr 1
      apply Array.toList_inj.1
      simp [ByteArray.data_extract, List.extract_eq_drop_take']
    · cases h
  · cases h

theorem growBy_le (need : Nat) : ∀ (rounds c : Nat), c < need → 256 ≤ c → Builtin.growBy need rounds c ≤ 2 * need := by
  intro rounds
  induction rounds with
  | zero => intro c h _; simp [Builtin.growBy]; omega
  | succ r ih =>
    intro c h h2
    simp only [Builtin.growBy]
    rw [if_neg (by omega)]
    by_cases hc : c + (c + 768) / 4 < need
    · exact ih _ hc (by omega)
    · cases r with
      | zero => simp only [Builtin.growBy]; omega
      | succ r => simp only [Builtin.growBy]; rw [if_pos (by omega)]; omega

theorem nextslicecap_le {need old : Nat} (h : old < need) : Builtin.nextslicecap need old ≤ 2 * need := by
  unfold Builtin.nextslicecap
  split
  · omega
  · split
    · omega
    · exact growBy_le need 4 old h (by omega)

theorem zeros_len {z : List LV} {sz : Nat} (h : z.length = sz) : ∀ n, (zerosL n z).length = n * sz
  | 0 => by simp [zerosL]
  | n + 1 => by simp [zerosL, zeros_len h n, h, Nat.add_mul]; omega

theorem zeroCells_eq {R : Ren} {z : LV} {zv : Value} (hz : DV R z zv) {sz : Nat} (hl : z.cells.length = sz) (hs : 0 < sz) (n : Nat) :
    DVs R (zerosL n z.cells) (Builtin.zeroCells zv.cells n).toList ∧ (Builtin.zeroCells zv.cells n).size = n * sz := by
  have hc := DV_cells hz
  have hlen := DVs_length hc
  simp only [Array.length_toList] at hlen
  refine ⟨zeros_eq hc (by omega) n, ?_⟩
  simp [Builtin.zeroCells, hlen, hl]

/-- A slice that is not the nil one, not known to be empty somewhere: where it lies. -/
theorem DV_slice {R : Ren} {i off n : Nat} {c : LCap} {v : Value} (hv : DV R (.slice (some (i, off)) n c) v) :
    ∃ b d e cc, R i = some (b, d, e) ∧ v = .slice (some ⟨b, d + off, none⟩) n cc ∧ (∀ k, c = .ex k → cc = k) ∧ (∀ z, c = .op z → d + off + cc * z = e) := by
  cases c with
  | ex c => simp only [DV] at hv; obtain ⟨b, d, e, h1, rfl⟩ := hv; exact ⟨b, d, e, c, h1, rfl, (fun k hk => by cases hk; rfl), (fun z hz => by cases hz)⟩
  | op c => simp only [DV] at hv; obtain ⟨b, d, e, c', h1, h2, rfl⟩ := hv; exact ⟨b, d, e, c', h1, rfl, (fun k hk => by cases hk), (fun z hz => by cases hz; exact h2)⟩

section
variable {R : Ren} {H : LH}

/-- The growing arm: the old cells and the new ones in a new row. -/
theorem grow_new (hd : Den R H w) (hf : R H.next = none) {e sz need : Nat} {z0 : LV} {zv : Value} (hz : DV R z0 zv) (hzl : z0.cells.length = sz) (hs : 0 < sz) {old xs : List LV}
    {ov vs : List Value} (ho : DVs R old ov) (hx : DVs R xs vs) (hneed : need * sz = old.length + xs.length) (cap : Nat) (hcap : need ≤ cap) :
    let arr := ov.toArray ++ vs.toArray ++ Builtin.zeroCells zv.cells (cap - need)
    Goes R H w (R.put H.next (w.heap.size, 0, cap * sz)) (H.new (.cells (old ++ xs) e true true)) (w.alloc (.cells arr e)) ∧
      Den (R.put H.next (w.heap.size, 0, cap * sz)) (H.new (.cells (old ++ xs) e true true)) (w.alloc (.cells arr e)) := by
  intro arr
  have hl1 := DVs_length ho
  have hl2 := DVs_length hx
  have hzs := (zeroCells_eq hz hzl hs (cap - need)).2
  have hsize : arr.size = cap * sz := by
    simp only [arr, Array.size_append, List.size_toArray, hzs, hl1, hl2]
    rw [← hneed, ← Nat.add_mul]
    congr 1; omega
  have := new_row (w := w) (arr := arr) (cs := old ++ xs) hd hf e true (by simp [hsize, ← hneed]; exact Nat.mul_le_mul_right _ hcap)
    (fun R' hR' => by
      have : (arr.toList.take (old ++ xs).length) = ov ++ vs := by
        simp only [arr, Array.toList_append, List.length_append, ← hl1, ← hl2]
        rw [List.take_append_of_le_length (by simp)]
        exact List.take_of_length_le (by simp)
      rw [this]
      exact DVs_append (DVs_mono hR' _ _ ho) (DVs_mono hR' _ _ hx)) (0, 0) (.inl rfl)
  rw [hsize] at this
  exact this

end

theorem run_append_room {st xt e sz n sLen sCap : Nat} {dx : TypeDesc} {ts : Array Nat} {ty : Nat} {base : Option Addr} {xv : Value} {vs : List Value}
    (h0 : ts[0]? = some st) (h1 : ts[1]? = some xt) (hst : P.underlying st = some (.slice e)) (hxt : P.underlying xt = some dx) (hnz : ∀ k, dx ≠ .int k) (hsz : sizeT P e = some sz)
    (hn : ∀ w, (Builtin.lenOf xv).run P w = .ok n w) (hle : sLen + n ≤ sCap) (hx : (Builtin.firstCells sz n xv).run P w = .ok vs.toArray w) :
    (Builtin.append_ ts ty #[.slice base sLen sCap, xv]).run P w =
      (match base with | some a => (storeCells (a.add (sLen * sz)) vs).run P w | none => .ok () w).andThen fun _ w' => .ok (.slice base (sLen + n) sCap) w' := by
  have hm : (match dx with | .int _ => true | _ => false) = false := by cases dx <;> first | rfl | exact absurd rfl (hnz _)
  cases base <;> simp [Builtin.append_, h0, h1, rn_underlying hst, rn_underlying hxt, rn_sizeOf hsz, hm, hn, hle, hx]

theorem run_append_grow {st xt e sz by_ n sLen sCap : Nat} {dx : TypeDesc} {ts : Array Nat} {ty : Nat} {base : Option Addr} {xv zv : Value} {ov vs : List Value}
    (h0 : ts[0]? = some st) (h1 : ts[1]? = some xt) (hst : P.underlying st = some (.slice e)) (hxt : P.underlying xt = some dx) (hnz : ∀ k, dx ≠ .int k) (hsz : sizeT P e = some sz)
    (hby : bytesT P e = some by_) (hby0 : by_ ≠ 0) (hmax : (sLen + n) * by_ ≤ growMax)
    (hn : ∀ w, (Builtin.lenOf xv).run P w = .ok n w) (hgt : ¬ sLen + n ≤ sCap) (hx : (Builtin.firstCells sz n xv).run P w.drew = .ok vs.toArray w.drew)
    (ho : (Builtin.firstCells sz sLen (.slice base sLen sCap)).run P w.drew = .ok ov.toArray w.drew) (hz : ∀ w, (zeroValue e).run P w = .ok zv w) :
    ∃ cap, sLen + n ≤ cap ∧ (Builtin.append_ ts ty #[.slice base sLen sCap, xv]).run P w =
      .ok (.slice (some ⟨w.heap.size, 0, none⟩) (sLen + n) cap) (w.drew.alloc (.cells (ov.toArray ++ vs.toArray ++ Builtin.zeroCells zv.cells (cap - (sLen + n))) e)) := by
  have hm : (match dx with | .int _ => true | _ => false) = false := by cases dx <;> first | rfl | exact absurd rfl (hnz _)
  obtain ⟨i, hi, rfl⟩ := rn_bytes (P := P) (w := w) hby
  have hnx := nextslicecap_le (Nat.lt_of_not_le hgt)
  have hb1 : ¬ Builtin.nextslicecap (sLen + n) sCap * i.bytes > 2 ^ 48 := by
    have h2 : Builtin.nextslicecap (sLen + n) sCap * i.bytes ≤ 2 * (sLen + n) * i.bytes := Nat.mul_le_mul_right _ hnx
    rw [Nat.mul_assoc] at h2
    unfold growMax at hmax
    omega
  refine ⟨sLen + n + w.tape w.drawn (.appendCap (sLen + n) sCap e) % (2 ^ 63 - (sLen + n)), by omega, ?_⟩
  have hi' : ∀ w, (typeInfo e).run P w = .ok i w := by
    intro w'
    unfold bytesT at hby
    obtain ⟨j, hj, _⟩ := Option.map_eq_some_iff.1 hby
    have h3 := rn_typeInfo (w := w) hj
    rw [hi] at h3
    cases h3
    exact rn_typeInfo hj
  have hq : (Question.appendCap (sLen + n) sCap e).forced = false := rfl
  have hc : (Question.appendCap (sLen + n) sCap e).cut (w.tape w.drawn (.appendCap (sLen + n) sCap e)) =
      sLen + n + w.tape w.drawn (.appendCap (sLen + n) sCap e) % (2 ^ 63 - (sLen + n)) := rfl
  simp [Builtin.append_, h0, h1, rn_underlying hst, rn_underlying hxt, rn_sizeOf hsz, hm, hn, hgt, hi', hby0, hb1, hz, hq, hc, hx, ho, newRow]
  rw [← List.append_toArray, Array.append_assoc]

theorem firstL_length {H : LH} {size n : Nat} {x : LV} {xs : List LV} (h : firstL H size n x = some xs) : xs.length = n * size := by
  unfold firstL at h
  split at h
  · unfold cellsAt at h
    split at h
    · split at h
      · rename_i hle; cases h; simp; omega
      · cases h
    · cases h
  · split at h
    · rename_i hn; cases h; simp [hn]
    · cases h
  · split at h
    · rename_i hn; cases h; simp [hn]
    · cases h
  · split at h
    · rename_i hle; cases h; simp [bytesL, hle.2]; omega
    · cases h
  · cases h

theorem oneCell_bytes {R : Ren} {l : List LV} {vs : List Value} (h : DVs R l vs) (hb : l.all oneCell = true) : ∀ v ∈ vs, v.oneCell' = true := oneCell_vals h hb

/-- append, given what its two arms come to. -/
theorem append_core {R : Ren} {H H' : LH} (hd : Den R H w) (hf : H.next < H'.next → R H.next = none) {e sz n : Nat} {ts : Array Nat} {ty : Nat} {s r : LV} {sv xv : Value} {xs : List LV} {vs us : List Value}
    (hsz : sizeT P e = some sz) (hdv : DVs R xs vs) (hdu : DVs R xs us) (hlen : xs.length = n * sz) (hone : xs.all oneCell = true)
    (hroomR : ∀ base sLen sCap, sLen + n ≤ sCap → (Builtin.append_ ts ty #[.slice base sLen sCap, xv]).run P w =
      (match base with | some a => (storeCells (a.add (sLen * sz)) vs).run P w | none => .ok () w).andThen fun _ w' => .ok (.slice base (sLen + n) sCap) w')
    (hgrowR : ∀ base sLen sCap (ov : List Value) by_, bytesT P e = some by_ → by_ ≠ 0 → (sLen + n) * by_ ≤ growMax → ¬ sLen + n ≤ sCap →
      (Builtin.firstCells sz sLen (.slice base sLen sCap)).run P w.drew = .ok ov.toArray w.drew → ∀ zv, (∀ w, (zeroValue e).run P w = .ok zv w) →
      ∃ cap, sLen + n ≤ cap ∧ (Builtin.append_ ts ty #[.slice base sLen sCap, xv]).run P w =
        .ok (.slice (some ⟨w.heap.size, 0, none⟩) (sLen + n) cap) (w.drew.alloc (.cells (ov.toArray ++ us.toArray ++ Builtin.zeroCells zv.cells (cap - (sLen + n))) e)))
    (ha : appendL P H e s n xs = some (r, H')) (hs : DV R s sv) :
    VR P (Builtin.append_ ts ty #[sv, xv]) R H w r H' := by
  have hdd : Den R H w.drew := (goes_drew hd _).2
  have hvone := oneCell_vals hdv hone
  unfold appendL at ha
  rw [hsz] at ha
  cases hby : bytesT P e with
  | none => simp [hby] at ha
  | some by_ =>
  cases hz0 : zeroT P e with
  | none => simp [hby, hz0] at ha
  | some z0 =>
  obtain ⟨zv, hzrun, hzdv⟩ := rn_zeroValue (P := P) hz0
  simp only [hby, hz0] at ha
  split at ha
  · cases ha
  rename_i hsz0
  split at ha
  · cases ha
  rename_i hby0
  split at ha
  · cases ha
  rename_i hzl
  have hzl : z0.cells.length = sz := Decidable.not_not.1 hzl
  have hpos : 0 < sz := Nat.pos_of_ne_zero hsz0
  split at ha
  · -- nil
    rename_i m c
    have hs' := hs
    simp only [DV] at hs
    obtain ⟨rfl, rfl, rfl⟩ := hs
    split at ha
    · rename_i hn0
      cases ha; subst hn0
      refine VR.same hd ?_ (x := .slice none 0 0) (by simp [DV])
      rw [hroomR _ _ _ (by omega)]; simp
    · rename_i hn0
      split at ha
      · rename_i hmax
        cases ha
        obtain ⟨cap, hcap, hrun⟩ := hgrowR (none) 0 0 [] by_ hby hby0 (by simpa using hmax) (by omega) (by simp [Builtin.firstCells]) zv hzrun
        obtain ⟨g, hdn⟩ := grow_new (w := w.drew) (e := e) hdd (hf (by simp)) (hzdv R) hzl hpos (old := []) (ov := []) DVs_nil hdu (need := 0 + n) (by simp [hlen]) cap hcap
        refine ⟨_, _, _, hrun, (goes_drew hd _).1.trans g, hdn, ?_⟩
        simp only [DV]
        exact ⟨_, _, _, cap, Ren.put_same _ _ _, by simp, by simp⟩
      · cases ha
  · -- an empty slice somewhere
    split at ha
    · rename_i hn0
      cases ha; subst hn0
      simp only [DV] at hs
      obtain ⟨a, c, rfl⟩ := hs
      have : vs = [] := by have := DVs_length hdv; simp at hlen; subst hlen; simpa using this
      subst this
      refine VR.same hd ?_ (x := .slice (some a) 0 c) (by simp [DV])
      rw [hroomR _ _ _ (by omega)]; simp [storeCells]
    · cases ha
  · -- a known capacity
    rename_i i off len c
    obtain ⟨b, d, ex, cc, hr, rfl, hcc, _⟩ := DV_slice hs
    obtain rfl := hcc c rfl
    split at ha
    · rename_i hroom
      split at ha
      · rename_i hn0
        cases ha; subst hn0
        have : vs = [] := by have := DVs_length hdv; simp at hlen; subst hlen; simpa using this
        subst this
        refine VR.same hd ?_ hs
        rw [hroomR _ _ _ hroom]; simp [storeCells]
      · obtain ⟨H1, hst1, hr1⟩ := Option.map_eq_some_iff.1 ha
        cases hr1
        obtain ⟨w', hrun, g, hdn⟩ := rn_store_own (P := P) hd hst1 hr hdv hvone
        refine ⟨R, .slice (some ⟨b, d + off, none⟩) (len + n) cc, w', ?_, g, hdn, ?_⟩
        · rw [hroomR _ _ _ hroom]
          simp only [addr_add]
          rw [show d + off + len * sz = d + (off + len * sz) by omega, hrun]
          rfl
        · simp only [DV]; exact ⟨b, d, ex, hr, rfl⟩
    · rename_i hroom
      split at ha
      · rename_i hmax
        obtain ⟨old, hold, hr1⟩ := Option.map_eq_some_iff.1 ha
        cases hr1
        obtain ⟨ov, hov, hdo, hol, hol'⟩ := rn_loadCells (P := P) hdd hold hr
        obtain ⟨cap, hcap, hrun⟩ := hgrowR (some ⟨b, d + off, none⟩) len cc ov by_ hby hby0 hmax hroom (by simpa [Builtin.firstCells] using hov) zv hzrun
        obtain ⟨g, hdn⟩ := grow_new (w := w.drew) (e := e) hdd (hf (by simp)) (hzdv R) hzl hpos hdo hdu (need := len + n) (by rw [hlen, hol', Nat.add_mul]) cap hcap
        refine ⟨_, _, _, hrun, (goes_drew hd _).1.trans g, hdn, ?_⟩
        simp only [DV]
        exact ⟨_, _, _, cap, Ren.put_same _ _ _, by simp, by simp⟩
      · cases ha
  · -- an open capacity
    rename_i i off len z
    split at ha
    · cases ha
    rename_i hzz
    have hzz : z = sz := Decidable.not_not.1 hzz
    subst hzz
    have hs' := hs
    obtain ⟨b, d, ex, cc, hr, rfl, _, hcc⟩ := DV_slice hs
    have hcc := hcc z rfl
    split at ha
    · rename_i cs el hg
      split at ha
      · cases ha
      rename_i hel
      have hel : el = e := Decidable.not_not.1 hel
      subst hel
      obtain ⟨b', d', ex', hr', hO⟩ := hd.obj i _ hg
      rw [hr] at hr'; cases hr'
      obtain ⟨arr, el', fr, hh, hle1, hle2, hdc, hown⟩ := DO_cells hO
      obtain ⟨rfl, hnf⟩ := hown rfl
      split at ha
      · rename_i hn0
        split at ha
        · rename_i hle4
          cases ha; subst hn0
          have hvs : vs = [] := by have := DVs_length hdv; simp at hlen; subst hlen; simpa using this
          subst hvs
          have hroom : len ≤ cc := Nat.le_of_mul_le_mul_right (by omega : len * z ≤ cc * z) hpos
          refine VR.same hd ?_ hs'
          rw [hroomR _ _ _ (by omega)]; simp [storeCells]
        · cases ha
      · rename_i hn0
        split at ha
        · rename_i hin
          obtain ⟨H1, hst1, hr1⟩ := Option.map_eq_some_iff.1 ha
          cases hr1
          have hroom : len + n ≤ cc := by
            have h5 : d + (off + (len + n) * z) ≤ d + off + cc * z := by omega
            exact Nat.le_of_mul_le_mul_right (by omega : (len + n) * z ≤ cc * z) hpos
          obtain ⟨w', hrun, g, hdn⟩ := rn_store_own (P := P) hd hst1 hr hdv hvone
          refine ⟨R, .slice (some ⟨b, d + off, none⟩) (len + n) cc, w', ?_, g, hdn, ?_⟩
          · rw [hroomR _ _ _ hroom]
            simp only [addr_add]
            rw [show d + off + len * z = d + (off + len * z) by omega, hrun]
            rfl
          · simp only [DV]; exact ⟨b, d, ex, cc, hr, hcc, rfl⟩
        · rename_i hin
          split at ha
          · rename_i hmax
            obtain ⟨hmax, hle3⟩ := hmax
            cases ha
            have hold : cellsAt H i off (len * z) = some ((cs.drop off).take (len * z)) := by simp [cellsAt, hg, hle3]
            by_cases hroom : len + n ≤ cc
            · -- in place
              have h6 : (len + n) * z ≤ cc * z := Nat.mul_le_mul_right _ hroom
              have hlv := DVs_length hdv
              rw [Nat.add_mul] at h6
              obtain ⟨w', arr', hrun, hb, hh', hsz', hk⟩ := rn_storeCells (P := P) vs w b (d + (off + len * z)) 0 el' arr fr hh (by omega) hvone (fun k hk1 hk2 => hnf k (by omega) (by omega))
              have hm := goes_move (w := w) (w' := w') (d' := d + off) (e' := ex) hd (hf (by simp)) hg rfl hr hb (o' := .cells ((cs.drop off).take (len * z) ++ xs) el' true true) (by
                refine DO_of_cells hh' (by simp; omega) (by omega) ?_ (fun _ => ⟨rfl, fun k hk1 hk2 => hnf k (by omega) hk2⟩)
                refine DVs_of_get _ _ (by simp; omega) fun k y hky => ?_
                have hkl : k < len * z + n * z := by
                  have := (List.getElem?_eq_some_iff.1 hky).1
                  simp at this; omega
                rw [List.getElem?_take, if_pos (by simp; omega), List.getElem?_drop, Array.getElem?_toList, hk]
                by_cases hk3 : k < len * z
                · rw [List.getElem?_append_left (by simp; omega), List.getElem?_take, if_pos hk3, List.getElem?_drop] at hky
                  rw [if_neg (by omega)]
                  obtain ⟨v, hv, hdv1⟩ := DVs_get hdc _ _ hky
                  have hol : off + k < cs.length := (List.getElem?_eq_some_iff.1 hky).1
                  rw [List.getElem?_take, if_pos hol, List.getElem?_drop] at hv
                  refine ⟨v, ?_, DV_mono (RLe_put (hf (by simp))) _ _ hdv1⟩
                  rw [← hv, Array.getElem?_toList]; congr 1; omega
                · rw [List.getElem?_append_right (by simp; omega)] at hky
                  rw [if_pos (by omega)]
                  have e5 : ((cs.drop off).take (len * z)).length = len * z := by simp; omega
                  rw [e5] at hky
                  obtain ⟨v, hv, hdv1⟩ := DVs_get hdv _ _ hky
                  exact ⟨v, by rw [← hv]; congr 1; omega, DV_mono (RLe_put (hf (by simp))) _ _ hdv1⟩)
              obtain ⟨g, hdn⟩ := hm
              refine ⟨_, .slice (some ⟨b, d + off, none⟩) (len + n) cc, w', ?_, g, hdn, ?_⟩
              · rw [hroomR _ _ _ hroom]
                simp only [addr_add]
                rw [show d + off + len * z = d + (off + len * z) by omega, hrun]
                rfl
              · simp only [DV]
                exact ⟨b, d + off, ex, cc, Ren.put_same _ _ _, by omega, rfl⟩
            · -- a new row
              obtain ⟨ov, hov, hdo, hol, hol'⟩ := rn_loadCells (P := P) hdd hold hr
              obtain ⟨cap, hcap, hrun⟩ := hgrowR (some ⟨b, d + off, none⟩) len cc ov by_ hby hby0 hmax hroom (by simpa [Builtin.firstCells] using hov) zv hzrun
              obtain ⟨g1, hd1⟩ := goes_del hdd i
              obtain ⟨g, hdn⟩ := grow_new (w := w.drew) (e := el') (H := H.del i) hd1 (hf (by simp)) (hzdv R) hzl hpos hdo hdu (need := len + n) (by rw [hlen, hol', Nat.add_mul]) cap hcap
              refine ⟨_, _, _, hrun, ((goes_drew hd _).1.trans g1).trans g, hdn, ?_⟩
              simp only [DV]
              exact ⟨_, _, _, cap, Ren.put_same _ _ _, by simp, by simp⟩
          · cases ha
    · cases ha
  · cases ha

/-- append: what is appended is a slice or a string. -/
theorem append_sound {R : Ren} {H H' : LH} (hd : Den R H w) (hf : H.next < H'.next → R H.next = none) {st xt e sz n : Nat} {dx : TypeDesc} {ts : Array Nat} {ty : Nat} {s x r : LV} {sv xv : Value} {xs : List LV}
    (h0 : ts[0]? = some st) (h1 : ts[1]? = some xt) (hst : P.underlying st = some (.slice e)) (hxt : P.underlying xt = some dx) (hnz : ∀ k, dx ≠ .int k) (hsz : sizeT P e = some sz)
    (hn : lenL x = some n) (hx : firstL H sz n x = some xs) (hone : xs.all oneCell = true) (ha : appendL P H e s n xs = some (r, H')) (hs : DV R s sv) (hxv : DV R x xv) :
    VR P (Builtin.append_ ts ty #[sv, xv]) R H w r H' := by
  have hnrun : ∀ w, (Builtin.lenOf xv).run P w = .ok n w := fun w => rn_lenOf hn hxv
  obtain ⟨vs, hfirst, hdv⟩ := rn_firstCells (P := P) hd hx hxv
  have hdd : Den R H w.drew := (goes_drew hd _).2
  obtain ⟨us, hfirst', hdu⟩ := rn_firstCells (P := P) hdd hx hxv
  exact append_core hd hf hsz hdv hdu (firstL_length hx) hone (fun base sLen sCap hle => run_append_room h0 h1 hst hxt hnz hsz hnrun hle hfirst)
    (fun base sLen sCap ov by_ hby hby0 hmax hgt ho zv hz => run_append_grow h0 h1 hst hxt hnz hsz hby hby0 hmax hnrun hgt hfirst' ho hz) ha hs

theorem run_append_room_z {st xt e sz n sLen sCap by_ : Nat} {k : IntKind} {ts : Array Nat} {ty : Nat} {base : Option Addr} {kx : IntKind} {x : Int} {zv : Value}
    (h0 : ts[0]? = some st) (h1 : ts[1]? = some xt) (hst : P.underlying st = some (.slice e)) (hxt : P.underlying xt = some (.int k)) (hsz : sizeT P e = some sz)
    (hby : bytesT P e = some by_) (hx : x = (n : Int)) (hn1 : n ≤ growMax) (hn2 : n * by_ ≤ growMax) (hz : ∀ w, (zeroValue e).run P w = .ok zv w) (hzs : zv.cells.size = sz) (hle : sLen + n ≤ sCap) :
    (Builtin.append_ ts ty #[.slice base sLen sCap, .int kx x]).run P w =
      (match base with | some a => (storeCells (a.add (sLen * sz)) (Builtin.zeroCells zv.cells n).toList).run P w | none => .ok () w).andThen fun _ w' => .ok (.slice base (sLen + n) sCap) w' := by
  obtain ⟨i, hi, rfl⟩ := rn_bytes (P := P) (w := w) hby
  unfold growMax at hn1 hn2
  have hw : IntKind.i64.wrap x = (n : Int) := by subst hx; exact IntWalk.i64_in _ (by omega)
  have hneg : ¬ (n : Int) < 0 := by omega
  have hb : ¬ (281474976710656 : Int) < (n : Int) * (i.bytes : Int) := by
    have := Int.ofNat_le.2 hn2
    rw [Int.natCast_mul] at this
    omega
  by_cases hz0 : n * sz = 0
  · have hzc : Builtin.zeroCells zv.cells n = #[] := by simp [Builtin.zeroCells, hzs, hz0]
    cases base <;> simp [Builtin.append_, h0, h1, rn_underlying hst, rn_underlying hxt, rn_sizeOf hsz, asInt, asIntOf, hw, hneg, hb, hi, hle, hz0, hzc]
  · cases base <;> simp [Builtin.append_, h0, h1, rn_underlying hst, rn_underlying hxt, rn_sizeOf hsz, asInt, asIntOf, hw, hneg, hb, hi, hle, hz0, hz]

theorem run_append_grow_z {st xt e sz n sLen sCap by_ : Nat} {k : IntKind} {ts : Array Nat} {ty : Nat} {base : Option Addr} {kx : IntKind} {x : Int} {zv : Value} {ov : List Value}
    (h0 : ts[0]? = some st) (h1 : ts[1]? = some xt) (hst : P.underlying st = some (.slice e)) (hxt : P.underlying xt = some (.int k)) (hsz : sizeT P e = some sz)
    (hby : bytesT P e = some by_) (hby0 : by_ ≠ 0) (hmax : (sLen + n) * by_ ≤ growMax) (hx : x = (n : Int)) (hn1 : n ≤ growMax) (hn2 : n * by_ ≤ growMax)
    (hz : ∀ w, (zeroValue e).run P w = .ok zv w) (hzs : zv.cells.size = sz) (hgt : ¬ sLen + n ≤ sCap)
    (ho : (Builtin.firstCells sz sLen (.slice base sLen sCap)).run P w.drew = .ok ov.toArray w.drew) :
    ∃ cap, sLen + n ≤ cap ∧ (Builtin.append_ ts ty #[.slice base sLen sCap, .int kx x]).run P w =
      .ok (.slice (some ⟨w.heap.size, 0, none⟩) (sLen + n) cap) (w.drew.alloc (.cells (ov.toArray ++ (Builtin.zeroCells zv.cells n).toList.toArray ++ Builtin.zeroCells zv.cells (cap - (sLen + n))) e)) := by
  obtain ⟨i, hi, rfl⟩ := rn_bytes (P := P) (w := w) hby
  have hi' : ∀ w, (typeInfo e).run P w = .ok i w := by
    intro w'
    unfold bytesT at hby
    obtain ⟨j, hj, _⟩ := Option.map_eq_some_iff.1 hby
    have h3 := rn_typeInfo (w := w) hj
    rw [hi] at h3
    cases h3
    exact rn_typeInfo hj
  have hnx := nextslicecap_le (Nat.lt_of_not_le hgt)
  have hb1 : ¬ Builtin.nextslicecap (sLen + n) sCap * i.bytes > 2 ^ 48 := by
    have h2 : Builtin.nextslicecap (sLen + n) sCap * i.bytes ≤ 2 * (sLen + n) * i.bytes := Nat.mul_le_mul_right _ hnx
    rw [Nat.mul_assoc] at h2
    unfold growMax at hmax
    omega
  have hneed : sLen + n ≤ 70368744177664 := by
    have : (sLen + n) * 1 ≤ (sLen + n) * i.bytes := Nat.mul_le_mul_left _ (Nat.pos_of_ne_zero hby0)
    unfold growMax at hmax
    omega
  unfold growMax at hn1 hn2
  have hw : IntKind.i64.wrap x = (n : Int) := by subst hx; exact IntWalk.i64_in _ (by omega)
  have hneg : ¬ (n : Int) < 0 := by omega
  have hb : ¬ (281474976710656 : Int) < (n : Int) * (i.bytes : Int) := by
    have := Int.ofNat_le.2 hn2
    rw [Int.natCast_mul] at this
    omega
  have hm1 : ¬ (9223372036854775807 : Int) < (sLen : Int) + (n : Int) := by omega
  refine ⟨sLen + n + w.tape w.drawn (.appendCap (sLen + n) sCap e) % (2 ^ 63 - (sLen + n)), by omega, ?_⟩
  have hq : (Question.appendCap (sLen + n) sCap e).forced = false := rfl
  have hc : (Question.appendCap (sLen + n) sCap e).cut (w.tape w.drawn (.appendCap (sLen + n) sCap e)) =
      sLen + n + w.tape w.drawn (.appendCap (sLen + n) sCap e) % (2 ^ 63 - (sLen + n)) := rfl
  by_cases hz0 : n * sz = 0
  · have hzc : Builtin.zeroCells zv.cells n = #[] := by simp [Builtin.zeroCells, hzs, hz0]
    simp [Builtin.append_, h0, h1, rn_underlying hst, rn_underlying hxt, rn_sizeOf hsz, asInt, asIntOf, hw, hneg, hb, hm1, hgt, hi', hby0, hb1, hz, hz0, hzc, hq, hc, ho, newRow]
  · simp [Builtin.append_, h0, h1, rn_underlying hst, rn_underlying hxt, rn_sizeOf hsz, asInt, asIntOf, hw, hneg, hb, hm1, hgt, hi', hby0, hb1, hz, hz0, hq, hc, ho, newRow]

end
end Go.Lv
