/- Lv: the other operations on memory, slices, conversions run in the model as the evaluator says. -/
import Derived.Test.YthakgknamfopcaaLvApp
import Derived.Laws.BytesString
namespace Go.Lv
open Go
set_option linter.unusedVariables false
set_option linter.unusedSimpArgs false

section
variable {P : Program} {w : World} {R : Ren} {H H' : LH}

theorem natOf_sound {x : LV} {n : Nat} {v : Value} (h : natOf x = some n) (hv : DV R x v) : ∃ k m, v = .int k m ∧ 0 ≤ m ∧ m.toNat = n := by
  unfold natOf at h
  split at h
  · rename_i k m
    split at h
    · rename_i hm; cases h; simp only [DV] at hv; exact ⟨k, m, hv, hm, rfl⟩
    · cases h
  · cases h

theorem sliceElem_spec {t e : Nat} (h : sliceElem P t = some e) : P.underlying t = some (.slice e) := by
  unfold sliceElem at h
  split at h
  · rename_i e' he; cases h; exact he
  · cases h

/-! ### make, copy -/
theorem makeSlice_sound (hd : Den R H w) (hf : H.next < H'.next → R H.next = none) {t : Nat} {l c r : LV} {lv cv : Value} (h : makeSliceL P H t l c = some (r, H')) (hl : DV R l lv) (hc : DV R c cv) :
    VR P (Instr.makeSlice t lv cv) R H w r H' := by
  unfold makeSliceL at h
  split at h
  · rename_i e n m he hn hm
    split at h
    · rename_i sz by_ z hsz hby hz
      split at h
      · rename_i hcond
        obtain ⟨h1, h2, h3, h4, h5⟩ := hcond
        cases h
        obtain ⟨kl, il, rfl, hil, hil'⟩ := natOf_sound hn hl
        obtain ⟨kc, ic, rfl, hic, hic'⟩ := natOf_sound hm hc
        obtain ⟨i, hi, hib⟩ := rn_bytes (P := P) (w := w) hby
        obtain ⟨zv, hzr, hzd⟩ := rn_zeroValue (P := P) hz
        have hz0 := hzd R
        unfold growMax at h2 h3
        have wl : IntKind.i64.wrap il = (n : Int) := by rw [IntWalk.i64_in _ (by omega)]; omega
        have wc : IntKind.i64.wrap ic = (m : Int) := by rw [IntWalk.i64_in _ (by omega)]; omega
        have hbb : ¬ (281474976710656 : Int) < (i.bytes : Int) * (m : Int) := by
          have := Int.ofNat_le.2 h2
          rw [← hib, Int.natCast_mul, Int.mul_comm] at this
          omega
        have hln : ¬ (m : Int) < (n : Int) := by omega
        have hc0 : ¬ (m : Int) < 0 := by omega
        have hn0 : ¬ (n : Int) < 0 := by omega
        have hcells := DV_cells hz0
        have hzl := DVs_length hcells
        simp only [Array.length_toList] at hzl
        have hz1 := zeros_eq hcells (by omega) m
        have hlen1 := zeros_len h5 m
        have hlen2 := DVs_length hz1
        rw [hzl, h5] at hz1 hlen2
        have hrun : (Instr.makeSlice t (.int kl il) (.int kc ic)).run P w = .ok (.slice (some ⟨w.heap.size, 0, none⟩) n m)
            (w.alloc (.cells ((Array.range (m * sz)).map (zv.cells[· % sz]!)) e)) := by
          by_cases hm0 : m * sz = 0
          · simp [Instr.makeSlice, rn_underlying (sliceElem_spec he), asInt, asIntOf, hi, wl, wc, hbb, hln, hc0, hn0, rn_sizeOf hsz, hm0, newRow]
            have e0 : (Array.range 0 : Array Nat) = #[] := Array.eq_empty_of_size_eq_zero (by simp)
            rw [e0]; simp
          · simp [Instr.makeSlice, rn_underlying (sliceElem_spec he), asInt, asIntOf, hi, wl, wc, hbb, hln, hc0, hn0, rn_sizeOf hsz, hm0, hzr, newRow, hzl, h5]
        have hnr := new_row (w := w) (cs := zerosL m z.cells) hd (hf (by simp)) e false (arr := (Array.range (m * sz)).map (zv.cells[· % sz]!)) (by simp; omega)
          (fun R' hR' => by
            rw [List.take_of_length_le (by rw [hlen2]; omega)]
            exact DVs_mono hR' _ _ hz1) (0, 0) (.inl rfl)
        refine ⟨_, _, _, hrun, hnr.1, hnr.2, ?_⟩
        simp only [DV]
        exact ⟨_, _, _, Ren.put_same _ _ _, by simp⟩
      · cases h
    · cases h
  · cases h

theorem firstCells0 {s : LV} {sv : Value} {n sz : Nat} (h : lenL s = some n) (hs : DV R s sv) : (Builtin.firstCells sz 0 sv).run P w = .ok #[] w := by
  unfold lenL at h
  split at h
  · rename_i a m c
    cases a with
    | none => simp only [DV] at hs; obtain ⟨rfl, _⟩ := hs; rfl
    | some p =>
      obtain ⟨i, off⟩ := p
      obtain ⟨b, d', e', cc, hr, rfl, _⟩ := DV_slice hs
      simp [Builtin.firstCells, rn_loadCells0]
  · simp only [DV] at hs; obtain ⟨a, c, rfl⟩ := hs; simp [Builtin.firstCells, rn_loadCells0]
  · simp only [DV] at hs; subst hs; simp [Builtin.firstCells, ByteArray.data_extract]
  · cases h

theorem lenD_form {d : LV} {n : Nat} {v : Value} (h : lenD d = some n) (hv : DV R d v) :
    ∃ base cap, v = .slice base n cap ∧ (∀ i off c, d = .slice (some (i, off)) n c → ∃ b d' e', R i = some (b, d', e') ∧ base = some ⟨b, d' + off, none⟩) := by
  unfold lenD at h
  split at h
  · rename_i a m c
    cases h
    cases a with
    | none => simp only [DV] at hv; obtain ⟨rfl, rfl, _⟩ := hv; exact ⟨none, 0, rfl, fun i off c hh => by cases hh⟩
    | some p =>
      obtain ⟨i, off⟩ := p
      obtain ⟨b, d', e', cc, hr, rfl, _⟩ := DV_slice hv
      exact ⟨_, cc, rfl, fun i2 off2 c2 hh => by cases hh; exact ⟨b, d', e', hr, rfl⟩⟩
  · cases h; simp only [DV] at hv; obtain ⟨a, c, rfl⟩ := hv; exact ⟨some a, c, rfl, fun i off c hh => by cases hh⟩
  · cases h

theorem copy_sound (hd : Den R H w) {ts : Array Nat} {t ty : Nat} (h0 : ts[0]? = some t) {d s r : LV} {dv sv : Value} (h : copyL P H t d s = some (r, H')) (hdv : DV R d dv) (hsv : DV R s sv) :
    VR P (Builtin.copy_ ts ty #[dv, sv]) R H w r H' := by
  unfold copyL at h
  split at h
  · rename_i e dn sn he hdn hsn
    split at h
    · rename_i sz hsz
      have hl1 := rn_lenOf (P := P) (w := w) hsn hsv
      obtain ⟨base, cap, rfl, hbase⟩ := lenD_form hdn hdv
      have hu := sliceElem_spec he
      simp only at h
      split at h
      · rename_i hn0
        cases h
        have hf0 := firstCells0 (P := P) (w := w) (sz := sz) hsn hsv
        have hmin : Nat.min sn dn = 0 := hn0
        refine VR.same hd ?_ (x := .int .i64 0) (by simp [DV])
        cases base <;> simp [Builtin.copy_, h0, rn_underlying hu, rn_sizeOf hsz, hl1, hmin, hf0, storeCells, goInt]
      · rename_i hn0
        split at h
        · rename_i xs i off n c hfirst
          split at h
          · rename_i hone
            obtain ⟨H1, hst, hr1⟩ := Option.map_eq_some_iff.1 h
            cases hr1
            simp only [lenD, Option.some.injEq] at hdn
            subst hdn
            obtain ⟨b, d', e', hr, rfl⟩ := hbase i off c rfl
            obtain ⟨vs, hrun1, hdv1⟩ := rn_firstCells (P := P) hd hfirst hsv
            obtain ⟨w', hrun2, hg, hdn⟩ := rn_store_own (P := P) hd hst hr hdv1 (oneCell_vals hdv1 hone)
            refine ⟨R, .int .i64 (min sn n : Nat), w', ?_, hg, hdn, by simp [DV]⟩
            have hrun1' : (Builtin.firstCells sz (Nat.min sn n) sv).run P w = .ok vs.toArray w := hrun1
            simp [Builtin.copy_, h0, rn_underlying hu, rn_sizeOf hsz, hl1, hrun1', hrun2, goInt]
          · cases h
        · cases h
    · cases h
  · cases h

/-! ### slices, indexes, fields -/
theorem addr_add_zero (b o : Nat) : (⟨b, o, none⟩ : Addr).add 0 = ⟨b, o, none⟩ := by simp [Addr.add]

theorem rn_sliceBound {x : LV} {n y : Nat} {v : Value} {code : BoundsCode} (h : natOf x = some n) (hv : DV R x v) (hle : n ≤ y) : (Instr.sliceBound v y code).run P w = .ok n w := by
  obtain ⟨k, m, rfl, h1, h2⟩ := natOf_sound h hv
  have h3 : 0 ≤ m ∧ m ≤ (y : Int) := ⟨h1, by omega⟩
  simp [Instr.sliceBound, asIntOf, h3, h2]

/-- An operand that may be left out. -/
def OptR (R : Ren) (x : Option LV) (v : Option Value) : Prop :=
  match x, v with
  | none, none => True
  | some x, some v => DV R x v
  | _, _ => False

theorem rn_sliceBounds {lo hi mx : Option LV} {lv hv mv : Option Value} {isS : Bool} {len cap l h m : Nat} (hlo : OptR R lo lv) (hhi : OptR R hi hv) (hmx : OptR R mx mv)
    (h1 : boundO lo 0 = some l) (h2 : boundO hi len = some h) (h3 : boundO mx cap = some m) (hle1 : l ≤ h) (hle2 : h ≤ m) (hle3 : m ≤ cap) (hm : mx.isSome = true → hi.isSome = true) :
    (Instr.sliceBounds isS len cap lv hv mv).run P w = .ok (l, h, m) w := by
  unfold Instr.sliceBounds
  cases mx with
  | none =>
    cases mv with
    | some _ => exact hmx.elim
    | none =>
      simp only [boundO, Option.some.injEq] at h3
      subst h3
      cases hi with
      | none =>
        cases hv with
        | some _ => exact hhi.elim
        | none =>
          simp only [boundO, Option.some.injEq] at h2
          subst h2
          cases lo with
          | none =>
            cases lv with
            | some _ => exact hlo.elim
            | none => simp only [boundO, Option.some.injEq] at h1; subst h1; simp
          | some lo =>
            cases lv with
            | none => exact hlo.elim
            | some lv => simp [rn_sliceBound (P := P) (w := w) (x := lo) h1 hlo hle1]
      | some hi =>
        cases hv with
        | none => exact hhi.elim
        | some hv =>
          have e2 : ∀ code, (Instr.sliceBound hv cap code).run P w = .ok h w := fun code => rn_sliceBound (x := hi) h2 hhi hle2
          cases lo with
          | none =>
            cases lv with
            | some _ => exact hlo.elim
            | none => simp only [boundO, Option.some.injEq] at h1; subst h1; simp [e2]
          | some lo =>
            cases lv with
            | none => exact hlo.elim
            | some lv => simp [e2, rn_sliceBound (P := P) (w := w) (x := lo) h1 hlo hle1]
  | some mx =>
    cases mv with
    | none => exact hmx.elim
    | some mv =>
      have e3 : ∀ code, (Instr.sliceBound mv cap code).run P w = .ok m w := fun code => rn_sliceBound (x := mx) h3 hmx hle3
      cases hi with
      | none => simp at hm
      | some hi =>
        cases hv with
        | none => exact hhi.elim
        | some hv =>
          have e2 : ∀ code, (Instr.sliceBound hv m code).run P w = .ok h w := fun code => rn_sliceBound (x := hi) h2 hhi hle2
          cases lo with
          | none =>
            cases lv with
            | some _ => exact hlo.elim
            | none => simp only [boundO, Option.some.injEq] at h1; subst h1; simp [e2, e3]
          | some lo =>
            cases lv with
            | none => exact hlo.elim
            | some lv => simp [e2, e3, rn_sliceBound (P := P) (w := w) (x := lo) h1 hlo hle1]

theorem knownRoom_ex {i off c n : Nat} (h : knownRoom H i off (.ex c) = some n) : n = c := by simp [knownRoom] at h; exact h.symm

/-- There is at least the known room. -/
theorem knownRoom_le (hd : Den R H w) {i off z n b d e cc : Nat} (h : knownRoom H i off (.op z) = some n) (hr : R i = some (b, d, e)) (hc : d + off + cc * z = e) : n ≤ cc ∧ 0 < z := by
  simp only [knownRoom] at h
  split at h
  · rename_i cs el own opn hg
    split at h
    · rename_i hcond
      cases h
      obtain ⟨b', d', e', hr', hO⟩ := hd.obj i _ hg
      rw [hr] at hr'; cases hr'
      obtain ⟨arr, el', fr, _, hle1, _, _, _⟩ := DO_cells hO
      refine ⟨?_, hcond.2⟩
      have h1 : (cs.length - off) / z * z ≤ cs.length - off := Nat.div_mul_le_self _ _
      exact Nat.le_of_mul_le_mul_right (by omega : (cs.length - off) / z * z ≤ cc * z) hcond.2
    · cases h
  · cases h

theorem slice_sound (hd : Den R H w) {t : Nat} {x r : LV} {lo hi mx : Option LV} {xv : Value} {lv hv mv : Option Value} (h : sliceL P H t x lo hi mx = some r)
    (hx : DV R x xv) (hlo : OptR R lo lv) (hhi : OptR R hi hv) (hmx : OptR R mx mv) : ∃ v, (Instr.sliceAt t xv lv hv mv).run P w = .ok v w ∧ DV R r v := by
  unfold sliceL at h
  split at h
  · -- a string
    rename_i s hu
    split at h
    · rename_i l hh hb1 hb2
      split at h
      · rename_i hcond
        cases h
        simp only [DV] at hx; subst hx
        cases mv with
        | some _ => exact hmx.elim
        | none =>
          have hs : (⟨s.toArray⟩ : ByteArray).size = s.length := by simp [ByteArray.size]
          have hb := rn_sliceBounds (P := P) (w := w) (isS := false) (len := s.length) (cap := s.length) (mx := none) (mv := none) hlo hhi trivial hb1 hb2 rfl hcond.1 hcond.2 (Nat.le_refl _) (by simp)
          refine ⟨.string ((⟨s.toArray⟩ : ByteArray).extract l hh), by simp [Instr.sliceAt, Instr.slice, rn_underlying hu, hs, hb], ?_⟩
          simp only [DV]
          congr 1
          apply ByteArray.ext
          apply Array.toList_inj.1
          simp [ByteArray.data_extract, List.extract_eq_drop_take']
      · cases h
    · cases h
  · -- a slice that lies somewhere
    rename_i e i off n c hu
    obtain ⟨b, d, ex, cc, hr, rfl, hcx, hcz⟩ := DV_slice hx
    split at h
    · rename_i sz l hh room hsz hb1 hb2 hroom
      split at h
      · cases h
      rename_i hc
      have hc : l ≤ hh ∧ hh ≤ room := Decidable.not_not.1 hc
      have hroomle : room ≤ cc := by
        cases c with
        | ex k => rw [hcx k rfl]; exact Nat.le_of_eq (knownRoom_ex hroom)
        | op z => exact (knownRoom_le hd hroom hr (hcz z rfl)).1
      split at h
      · -- with a maximum
        rename_i mxv
        split at h
        · rename_i m hiv hm
          split at h
          · rename_i hcm
            cases h
            cases mv with
            | none => exact hmx.elim
            | some mv =>
              have hb := rn_sliceBounds (P := P) (w := w) (isS := true) (len := n) (cap := cc) hlo hhi hmx hb1 hb2 (show boundO (some mxv) cc = some m from hm) hc.1 hcm.1 (by omega) (by simp)
              refine ⟨_, by simp [Instr.sliceAt, Instr.slice, rn_underlying hu, hb, rn_sizeOf hsz]; rfl, ?_⟩
              simp only [DV]
              refine ⟨b, d, ex, hr, ?_⟩
              by_cases hml : m = l
              · simp [hml]
              · simp [hml, addr_add]; omega
          · cases h
        · cases h
      · -- without
        have hm1 : mv = none := by cases mv with
          | none => rfl
          | some _ => exact hmx.elim
        subst hm1
        have hb := rn_sliceBounds (P := P) (w := w) (isS := true) (len := n) (cap := cc) (mx := none) (mv := none) hlo hhi trivial hb1 hb2 rfl hc.1 (by omega) (Nat.le_refl _) (by simp)
        have hrun : (Instr.sliceAt t (.slice (some ⟨b, d + off, none⟩) n cc) lv hv none).run P w =
            .ok (.slice (if cc = l then some ⟨b, d + off, none⟩ else some ⟨b, d + off + l * sz, none⟩) (hh - l) (cc - l)) w := by
          simp [Instr.sliceAt, Instr.slice, rn_underlying hu, hb, rn_sizeOf hsz, addr_add]
        split at h
        · rename_i k
          cases h
          obtain rfl := hcx _ rfl
          refine ⟨_, hrun, ?_⟩
          simp only [DV]
          refine ⟨b, d, ex, hr, ?_⟩
          by_cases hml : cc = l
          · simp [hml]
          · simp [hml]; omega
        · rename_i z
          split at h
          · cases h
          rename_i hzz
          have hzz : z = sz := Decidable.not_not.1 hzz
          subst hzz
          have hcz := hcz z rfl
          have hzpos := (knownRoom_le hd hroom hr hcz).2
          split at h
          · rename_i hl
            cases h
            refine ⟨_, hrun, ?_⟩
            simp only [DV]
            refine ⟨b, d, ex, cc - l, hr, ?_, ?_⟩
            · rw [Nat.sub_mul]
              have : l * z ≤ cc * z := Nat.mul_le_mul_right _ (by omega)
              omega
            · by_cases hml : cc = l
              · have : l = 0 := by omega
                simp [hml, this]
              · simp [hml]; omega
          · rename_i hl
            cases h
            refine ⟨_, hrun, ?_⟩
            simp only [DV]
            have : hh - l = 0 := by omega
            rw [this]
            by_cases hml : cc = l
            · exact ⟨_, _, by simp [hml]; exact ⟨rfl, rfl⟩⟩
            · exact ⟨_, _, by simp [hml]; exact ⟨rfl, rfl⟩⟩
    · cases h
  · -- nil
    rename_i e n c hu
    simp only [DV] at hx
    obtain ⟨rfl, rfl, rfl⟩ := hx
    split at h
    · rename_i hsz hb1 hb2 hb3
      split at h
      · rename_i hms
        cases h
        have hb := rn_sliceBounds (P := P) (w := w) (isS := true) (len := 0) (cap := 0) hlo hhi hmx hb1 hb2 hb3 (Nat.le_refl _) (Nat.le_refl _) (Nat.le_refl _) hms
        refine ⟨_, by simp [Instr.sliceAt, Instr.slice, rn_underlying hu, hb, rn_sizeOf hsz]; rfl, by simp [DV]⟩
      · cases h
    · cases h
  · -- an empty slice somewhere
    rename_i e hu
    simp only [DV] at hx
    obtain ⟨a, c, rfl⟩ := hx
    split at h
    · rename_i hsz hb1 hb2
      cases h
      cases mv with
      | some _ => exact hmx.elim
      | none =>
        have hb := rn_sliceBounds (P := P) (w := w) (isS := true) (len := 0) (cap := c) (mx := none) (mv := none) hlo hhi trivial hb1 hb2 rfl (Nat.le_refl _) (Nat.zero_le _) (Nat.le_refl _) (by simp)
        refine ⟨.slice (if c = 0 then some a else some (a.add 0)) 0 c, by simp [Instr.sliceAt, Instr.slice, rn_underlying hu, hb, rn_sizeOf hsz], ?_⟩
        simp only [DV]
        by_cases hc0 : c = 0
        · exact ⟨a, c, by simp [hc0]⟩
        · exact ⟨a.add 0, c, by simp [hc0]⟩
    · cases h
  · -- an array behind a pointer
    rename_i n e i off hu
    simp only [DV] at hx
    obtain ⟨b, d, ex, hr, rfl⟩ := hx
    split at h
    · rename_i sz l hh hsz hb1 hb2
      split at h
      · rename_i hcond
        cases h
        cases mv with
        | some _ => exact hmx.elim
        | none =>
          have hb := rn_sliceBounds (P := P) (w := w) (isS := false) (len := n) (cap := n) (mx := none) (mv := none) hlo hhi trivial hb1 hb2 rfl hcond.1 hcond.2 (Nat.le_refl _) (by simp)
          refine ⟨_, by simp [Instr.sliceAt, Instr.sureAddr, rn_underlying hu, hb, rn_sizeOf hsz, addr_add]; rfl, ?_⟩
          simp only [DV]
          refine ⟨b, d, ex, hr, ?_⟩
          by_cases hml : n = l
          · simp [hml]
          · simp [hml]; omega
      · cases h
    · cases h
  · cases h

theorem indexAddr_sound {t : Nat} {x ix r : LV} {xv iv : Value} (h : indexAddrL P t x ix = some r) (hx : DV R x xv) (hi : DV R ix iv) :
    ∃ v, (Instr.indexAt t xv iv).run P w = .ok v w ∧ DV R r v := by
  unfold indexAddrL at h
  split at h
  · rename_i n e i off j hu hj
    obtain ⟨sz, hsz, h⟩ := Option.bind_eq_some_iff.1 h
    split at h
    · rename_i hlt
      cases h
      obtain ⟨k, m, rfl, h1, h2⟩ := natOf_sound hj hi
      simp only [DV] at hx
      obtain ⟨b, d, ex, hr, rfl⟩ := hx
      have hc : 0 ≤ m ∧ m < (n : Int) := ⟨h1, by omega⟩
      refine ⟨.pointer (some ⟨b, d + off + j * sz, none⟩), by simp [Instr.indexAt, asIntOf, rn_underlying hu, Instr.sureAddr, hc, rn_sizeOf hsz, h2, addr_add], ?_⟩
      simp only [DV]
      exact ⟨b, d, ex, hr, by rw [Nat.add_assoc]⟩
    · cases h
  · rename_i e i off n c j hu hj
    obtain ⟨sz, hsz, h⟩ := Option.bind_eq_some_iff.1 h
    split at h
    · rename_i hlt
      cases h
      obtain ⟨k, m, rfl, h1, h2⟩ := natOf_sound hj hi
      obtain ⟨b, d, ex, cc, hr, rfl, _⟩ := DV_slice hx
      have hc : 0 ≤ m ∧ m < (n : Int) := ⟨h1, by omega⟩
      refine ⟨.pointer (some ⟨b, d + off + j * sz, none⟩), by simp [Instr.indexAt, asIntOf, rn_underlying hu, hc, rn_sizeOf hsz, h2, addr_add], ?_⟩
      simp only [DV]
      exact ⟨b, d, ex, hr, by rw [Nat.add_assoc]⟩
    · cases h
  · cases h

theorem index_sound {t : Nat} {x ix r : LV} {xv iv : Value} (h : indexL P t x ix = some r) (hx : DV R x xv) (hi : DV R ix iv) :
    ∃ v, (Instr.index t xv iv).run P w = .ok v w ∧ DV R r v := by
  unfold indexL at h
  split at h
  · rename_i n e cs j hu hj
    obtain ⟨sz, hsz, h⟩ := Option.bind_eq_some_iff.1 h
    split at h
    · rename_i hlt
      obtain ⟨k, m, rfl, h1, h2⟩ := natOf_sound hj hi
      simp only [DV] at hx
      obtain ⟨a, rfl, ha⟩ := hx
      have hc : 0 ≤ m ∧ m < (n : Int) := ⟨h1, by omega⟩
      obtain ⟨v, hv, hd⟩ := rn_part (P := P) (w := w) h ha
      exact ⟨v, by simp [Instr.index, asIntOf, rn_underlying hu, hc, rn_sizeOf hsz, h2, hv], hd⟩
    · cases h
  · rename_i s j hu hj
    obtain ⟨b, hb, rfl⟩ := Option.map_eq_some_iff.1 h
    obtain ⟨k, m, rfl, h1, h2⟩ := natOf_sound hj hi
    simp only [DV] at hx; subst hx
    have hg : (⟨s.toArray⟩ : ByteArray)[m.toNat]? = some b := by
      obtain ⟨hlt, hb'⟩ := List.getElem?_eq_some_iff.1 hb
      subst h2
      have hsz : m.toNat < (⟨s.toArray⟩ : ByteArray).size := hlt
      rw [getElem?_pos (⟨s.toArray⟩ : ByteArray) m.toNat hsz]
      exact congrArg some hb'
    exact ⟨.int .u8 b.toNat, by simp [Instr.index, asIntOf, rn_underlying hu, h1, hg], by simp [DV]⟩
  · cases h

theorem stringOf_sound : ∀ {cs : List LV} {s : List UInt8} {vs : List Value}, stringOf cs = some s → DVs R cs vs →
    ∃ ns : List Int, vs = ns.map (Value.int .u8) ∧ s = ns.map fun n => UInt8.ofNat n.toNat
  | [], s, vs, h, hv => by simp [stringOf] at h; simp [DVs] at hv; subst h hv; exact ⟨[], rfl, rfl⟩
  | c :: cs, s, vs, h, hv => by
    unfold stringOf at h
    split at h
    · rename_i heq; cases heq
    · rename_i n r heq
      cases heq
      obtain ⟨s', hs', rfl⟩ := Option.map_eq_some_iff.1 h
      simp only [DVs] at hv
      obtain ⟨v, vs', rfl, h1, h2⟩ := hv
      simp only [DV] at h1; subst h1
      obtain ⟨ns, rfl, rfl⟩ := stringOf_sound hs' h2
      exact ⟨n :: ns, rfl, rfl⟩
    · cases h

theorem foldl_push : ∀ (ns : List Int) (acc : ByteArray), ns.foldl (fun r n => r.push (UInt8.ofNat n.toNat)) acc = ⟨acc.data ++ (ns.map fun n => UInt8.ofNat n.toNat).toArray⟩
  | [], acc => by simp
  | n :: ns, acc => by
    simp only [List.foldl_cons]
    rw [foldl_push ns]
    congr 1
    apply Array.toList_inj.1
    simp [ByteArray.push]

/-- The world with a new row whose end is marked as of a string. -/
theorem alloc_mark (w : World) (arr : Array Value) (e : Nat) :
    (w.alloc (.cells arr e)).freeze ⟨w.heap.size, arr.size, none⟩ 1 = w.alloc (.cells arr e (arr.size, arr.size + 1)) := by
  have hh : ((w.alloc (.cells arr e)).freeze ⟨w.heap.size, arr.size, none⟩ 1).heap = (w.alloc (.cells arr e (arr.size, arr.size + 1))).heap := by
    apply Array.ext_getElem?
    intro i
    simp only [World.freeze]
    rw [if_neg (by omega)]
    simp only [Array.getElem?_modify, alloc_get]
    by_cases hi : i = w.heap.size
    · subst hi; simp
    · simp [hi, Ne.symm hi]
  have : ∀ a b : World, a.heap = b.heap → a.tape = b.tape → a.drawn = b.drawn → a.os = b.os → a.output = b.output → a = b := by
    rintro ⟨⟩ ⟨⟩ h1 h2 h3 h4 h5; simp_all
  exact this _ _ hh rfl rfl rfl rfl

theorem convert_sound (hd : Den R H w) (hf : H.next < H'.next → R H.next = none) {src dst : Nat} {x r : LV} {xv : Value} (h : convertL P H src dst x = some (r, H')) (hx : DV R x xv) :
    VR P (convert src dst xv) R H w r H' := by
  unfold convertL at h
  cases hs : P.underlying src with
  | none => simp [hs] at h
  | some sd =>
  cases hdt : P.underlying dst with
  | none => simp [hs, hdt] at h
  | some dd =>
  have hrun0 : (convert src dst xv).run P w = (convert src dst xv).run P w := rfl
  simp only [hs, hdt] at h
  split at h
  · -- numbers
    rename_i k k' n hsd heq
    cases h
    cases heq
    simp only [DV] at hx; subst hx
    refine VR.same hd (x := .int k (k.wrap n)) ?_ (by simp [DV])
    simp [convert, rn_underlying hs, rn_underlying hdt, Conv.intToInt]
  · rename_i s hsd heq
    cases h
    cases heq
    have hx' := hx
    simp only [DV] at hx; subst hx
    refine VR.same hd (x := .string ⟨s.toArray⟩) ?_ hx'
    simp [convert, rn_underlying hs, rn_underlying hdt]
  · -- bytes of a string
    rename_i e s hsd heq
    cases heq
    split at h
    · rename_i i hu hsz hinf
      cases h
      simp only [DV] at hx; subst hx
      have hsize : (⟨s.toArray⟩ : ByteArray).size = s.length := by simp [ByteArray.size]
      let q : Question := .appendCap s.length 0 e
      let cap := s.length + w.tape w.drawn q % (2 ^ 63 - s.length)
      let arr : Array Value := (s.toArray.map fun b => Value.int .u8 b.toNat) ++ Array.replicate (cap - s.length) (.int .u8 0)
      have harr : arr.size = cap := by simp [arr, cap]
      have hrun : (convert src dst (.string ⟨s.toArray⟩)).run P w =
          .ok (.slice (some ⟨w.heap.size, 0, none⟩) s.length cap) (w.drew.alloc (.cells arr e (arr.size, arr.size + 1))) := by
        have hq : q.forced = false := rfl
        have hc : q.cut (w.tape w.drawn q) = cap := rfl
        have hsh : (w.drew.alloc (.cells arr e)).shape? w.heap.size = some (e, arr.size) := by
          have := alloc_get w.drew (.cells arr e) w.heap.size
          simp only [World.size_drew, if_true] at this
          unfold World.shape?
          rw [this]
        have hfz := alloc_mark w.drew arr e
        simp only [World.size_drew] at hfz
        simp only [convert, Sem.run_bind, rn_underlying hs, rn_underlying hdt, Result.andThen_ok, rn_underlying hu, Conv.stringToBytes, hsize, run_choose]
        rw [show (Question.appendCap s.length 0 e) = q from rfl]
        simp only [hq, hc, Bool.false_eq_true, if_false, Result.andThen_ok, newRow, Sem.run_bind, run_newObj, Sem.run_pure, markStringish, run_shape, World.alloc_eq, World.drew_eq, World.size_drew]
        rw [show (Array.map (fun b => Value.int .u8 b.toNat) s.toArray ++ Array.replicate (cap - s.length) (.int .u8 0)) = arr from rfl, hsh]
        simp only [run_freeze, Result.andThen_ok, hfz, Sem.run_bind, Sem.run_pure]
      have hdd : Den R H w.drew := (goes_drew hd _).2
      have hnr := new_row (w := w.drew) (cs := bytesL s) hdd (hf (by simp)) e true (arr := arr) (by rw [harr]; simp [bytesL, cap])
        (fun R' _ => by
          have : arr.toList.take (bytesL s).length = s.map fun b => Value.int .u8 b.toNat := by
            simp only [arr, Array.toList_append, Array.toList_map, bytesL, List.length_map]
            rw [List.take_append_of_le_length (by simp)]
            exact List.take_of_length_le (by simp)
          rw [this]
          exact DVs_bytes s) (arr.size, arr.size + 1) (.inr (Nat.le_refl _))
      refine ⟨_, _, _, hrun, (goes_drew hd _).1.trans hnr.1, hnr.2, ?_⟩
      simp only [DV]
      exact ⟨_, _, _, cap, Ren.put_same _ _ _, by simp [harr], by simp⟩
    · cases h
  · rename_i e m c hsd heq
    cases hsd; cases heq
    split at h
    · rename_i hu
      cases h
      simp only [DV] at hx; obtain ⟨rfl, _⟩ := hx
      refine VR.same hd (x := .string .empty) ?_ (by simp [DV]; rfl)
      rw [run_convert_bytes_string w src dst e none 0 0 hs hu hdt]; rfl
    · cases h
  · rename_i e hsd heq
    cases hsd; cases heq
    split at h
    · rename_i hu
      cases h
      simp only [DV] at hx; obtain ⟨a, c, rfl⟩ := hx
      refine VR.same hd (x := .string ⟨#[]⟩) ?_ (by simp [DV])
      rw [run_convert_bytes_string w src dst e (some a) 0 c hs hu hdt, run_bytesToString w a 0 c [] (by simpa using rn_loadCells0 a)]
      rfl
    · cases h
  · rename_i e i off n c hsd heq
    cases hsd; cases heq
    split at h
    · rename_i hu
      obtain ⟨cs, hcs, h⟩ := Option.bind_eq_some_iff.1 h
      obtain ⟨s, hs', h⟩ := Option.map_eq_some_iff.1 h
      cases h
      obtain ⟨b, d, ex, cc, hr, rfl, _⟩ := DV_slice hx
      obtain ⟨vs, hrun, hdv, _, _⟩ := rn_loadCells (P := P) hd hcs hr
      obtain ⟨ns, rfl, rfl⟩ := stringOf_sound hs' hdv
      refine VR.same hd (x := .string ⟨(ns.map fun n => UInt8.ofNat n.toNat).toArray⟩) ?_ (by simp [DV])
      rw [run_convert_bytes_string w src dst e _ n cc hs hu hdt, run_bytesToString w _ n cc ns hrun, foldl_push]
      simp
    · cases h
  · cases h

end
end Go.Lv
