/- Walks of the journal: checksums. -/
import Derived.Test.YthakgknamfopcaaJrC
namespace Go.Proofs.Ythakgknamfopcaa
open Go Go.Lv
set_option linter.unusedVariables false
set_option maxRecDepth 100000

/-! ### image.Sum -/
def crc1 (r : Nat) : Nat := if r % 2 = 1 then (r / 2) ^^^ 3988292384 else r / 2
def crcN : Nat → Nat → Nat
  | 0, r => r
  | n + 1, r => crcN n (crc1 r)
def crcB (r : Nat) (b : UInt8) : Nat := crcN 8 (r ^^^ b.toNat)
def crcL : Nat → List UInt8 → Nat
  | r, [] => r
  | r, b :: bs => crcL (crcB r b) bs
def sumC (bs : List UInt8) : Nat := crcL 4294967295 bs ^^^ 4294967295
theorem crc1_lt {r : Nat} (h : r < 2 ^ 32) : crc1 r < 2 ^ 32 := by
  unfold crc1
  split
  · exact Nat.xor_lt_two_pow (by omega) (by decide)
  · omega
theorem crcN_lt : ∀ {n r : Nat}, r < 2 ^ 32 → crcN n r < 2 ^ 32
  | 0, r, h => h
  | n + 1, r, h => by show crcN n (crc1 r) < _; exact crcN_lt (crc1_lt h)
theorem crcB_lt {r : Nat} {b : UInt8} (h : r < 2 ^ 32) : crcB r b < 2 ^ 32 :=
  crcN_lt (Nat.xor_lt_two_pow h (Nat.lt_of_lt_of_le (UInt8.toNat_lt b) (by decide)))
theorem crcL_lt : ∀ {bs : List UInt8} {r : Nat}, r < 2 ^ 32 → crcL r bs < 2 ^ 32
  | [], r, h => h
  | b :: bs, r, h => by show crcL (crcB r b) bs < _; exact crcL_lt (crcB_lt h)
theorem sumC_lt (bs : List UInt8) : sumC bs < 2 ^ 32 := Nat.xor_lt_two_pow (crcL_lt (by decide)) (by decide)
theorem crc_go {r : Nat} (h : r < 2 ^ 32) :
    bitI .xor .u32 ((r : Int).fdiv (2 ^ (min (1 : Int).toNat IntKind.u32.bits))) (bitI .and .u32 3988292384 (IntKind.u32.wrap (0 - bitI .and .u32 r 1))) = (crc1 r : Int) := by
  have e1 : (2 : Int) ^ (min (1 : Int).toNat IntKind.u32.bits) = ((2 : Nat) : Int) := rfl
  have e2 : bitI .and .u32 (r : Int) 1 = ((r % 2 : Nat) : Int) := by
    have := bit_and (k := .u32) rfl (a := r) (b := 1) h (by decide)
    rw [show ((1 : Nat) : Int) = 1 from rfl] at this
    rw [this, Nat.and_one_is_mod]
  rw [e1, fdiv_nat, e2, wrap_u32_mod]
  unfold crc1
  by_cases hp : r % 2 = 1
  · rw [if_pos hp, hp]
    have e3 : bitI .and .u32 3988292384 ((0 - ((1 : Nat) : Int)) % 4294967296) = ((3988292384 : Nat) : Int) := by decide
    rw [e3, bit_xor (k := .u32) rfl (by show _ < 2 ^ 32; omega) (by decide)]
  · have hp0 : r % 2 = 0 := by omega
    rw [if_neg hp, hp0]
    have e3 : bitI .and .u32 3988292384 ((0 - ((0 : Nat) : Int)) % 4294967296) = ((0 : Nat) : Int) := by decide
    rw [e3, bit_xor (k := .u32) rfl (by show _ < 2 ^ 32; omega) (by decide), Nat.xor_zero]

set_option maxHeartbeats 4000000 in
theorem isum (H : LH) (b : LV) (bs : List UInt8) (hb : BV H b bs) (hl : bs.length < 2 ^ 62) : CallP Try.prog 38 [b] H (fun o H' => H' = H ∧ o = .ret (.int .u32 (sumC bs : Int))) := by
  refine en38 (by simp) ?_
  unfold c38
  refine WP.seq ?_
  refine WP.region rfl ?_
  refine WS.val rfl (LK.assign rfl) ?_
  refine WS.nil ?_
  refine WP.seq ?_
  refine WP.region rfl ?_
  refine WS.val rfl (LK.assign rfl) ?_
  refine WS.nil ?_
  refine WP.seq ?_
  refine WP.seq ?_
  refine WP.region rfl ?_
  refine WS.val rfl (LK.move rfl) ?_
  refine WS.val rfl (SV.len hb rfl) ?_
  refine WS.val rfl (LK.move rfl) ?_
  refine WS.nil ?_
  refine WP.sub (gs := [(8, _), (7, _), (6, _), (3, _), (2, _)]) ?_ ⟨rfl, rfl, rfl, rfl, rfl, trivial⟩
  refine WP.block ?_
  refine WP.loop ?_
  skip
  refine WP.sub (gs := [(3, .int .u32 ((4294967295 : Nat) : Int)), (6, b), (7, .int .i64 bs.length), (8, .int .i64 ((0 : Nat) : Int))]) ?_ ⟨rfl, rfl, rfl, rfl, trivial⟩
  refine WP.inv (fun n g H' => ∃ i r : Nat, n = bs.length - i ∧ i ≤ bs.length ∧ H' = H ∧ g = [(3, .int .u32 (r : Int)), (6, b), (7, .int .i64 bs.length), (8, .int .i64 (i : Int))] ∧ r < 2 ^ 32 ∧ crcL 4294967295 bs = crcL r (bs.drop i)) (n := bs.length) ⟨0, 4294967295, rfl, Nat.zero_le _, rfl, rfl, by decide, rfl⟩ ?_
  rintro n g H' ⟨i, r, rfl, hi, rfl, rfl, hr, hc⟩ ih
  by_cases hlt : i < bs.length
  · obtain ⟨bi, off, c, cs, e, own, opn, hbv, _, h2, h3⟩ := hb.at1 hlt
    rw [bytesL_get hlt] at h3
    rw [List.drop_eq_getElem_cons hlt] at hc
    have hget : bs[i] = bs.getD i 0 := by simp [List.getD, hlt]
    rw [hget] at hc
    generalize bs.getD i 0 = y at *
    have hy := UInt8.toNat_lt y
    have hx : bitI .xor .u32 (r : Int) (IntKind.u32.wrap (y.toNat : Int)) = ((r ^^^ y.toNat : Nat) : Int) := by
      rw [wrap_u32 (by omega) (by omega), bit_xor (k := .u32) rfl hr (by show _ < 2 ^ 32; omega)]
    have hrx : r ^^^ y.toNat < 2 ^ 32 := Nat.xor_lt_two_pow hr (by omega)
    refine WP.seq ?_
    refine WP.region rfl ?_
    refine WS.val rfl (LK.lss rfl rfl) ?_
    refine WS.nil ?_
    refine WP.seq ?_
    refine WP.cond rfl (fun h9 => ?_) (fun h9 => ?_)
    rotate_left
    · exfalso; have := of_decide_eq_false h9; omega
    refine WP.skip ?_
    refine WP.seq ?_
    refine WP.block ?_
    refine WP.seq ?_
    refine WP.region rfl ?_
    refine WS.val rfl (LK.indexAddr (congrArg some hbv) rfl natOf_cast hlt) ?_
    refine WS.val rfl (LK.load rfl h2 h3) ?_
    refine WS.val rfl (LK.assign rfl) ?_
    refine WS.nil ?_
    refine WP.seq ?_
    refine WP.region rfl ?_
    refine WS.val rfl (LK.move rfl) ?_
    refine WS.val rfl (LK.move rfl) ?_
    refine WS.val rfl (LK.conv_int rfl) ?_
    refine WS.val rfl (LK.xor rfl rfl) ?_
    refine WS.val rfl (LK.assign rfl) ?_
    refine WS.nil ?_
    refine WP.seq ?_
    refine WP.region rfl ?_
    refine WS.val rfl (LK.move rfl) ?_
    refine WS.nil ?_
    refine WP.block ?_
    refine WP.loop ?_
    refine WP.sub (gs := [(3, .int .u32 ((r ^^^ y.toNat : Nat) : Int)), (6, b), (7, .int .i64 bs.length), (8, .int .i64 (i : Int)), (16, .int .i64 ((0 : Nat) : Int))]) ?_ ⟨by rw [← hx]; rfl, rfl, rfl, rfl, rfl, trivial⟩
    refine WP.inv (fun n g H'' => ∃ k q : Nat, n = 8 - k ∧ k ≤ 8 ∧ H'' = H' ∧ g = [(3, .int .u32 (q : Int)), (6, b), (7, .int .i64 bs.length), (8, .int .i64 (i : Int)), (16, .int .i64 (k : Int))] ∧ q < 2 ^ 32 ∧ crcB r y = crcN (8 - k) q) (n := 8) ⟨0, _, rfl, Nat.zero_le _, rfl, rfl, hrx, rfl⟩ ?_
    rintro n g H'' ⟨k, q, rfl, hk, rfl, rfl, hq, hcq⟩ ih2
    by_cases hlk : k < 8
    · have e8 : 8 - k = (8 - (k + 1)) + 1 := by omega
      refine WP.seq ?_
      refine WP.region rfl ?_
      refine WS.val rfl (LK.lss rfl rfl) ?_
      refine WS.nil ?_
      refine WP.seq ?_
      refine WP.cond rfl (fun h17 => ?_) (fun h17 => ?_)
      rotate_left
      · exfalso; have := of_decide_eq_false h17; omega
      refine WP.skip ?_
      refine WP.seq ?_
      refine WP.block ?_
      refine WP.region rfl ?_
      refine WS.val rfl (LK.move rfl) ?_
      refine WS.val rfl (LK.shr rfl rfl (by decide)) ?_
      refine WS.val rfl (LK.move rfl) ?_
      refine WS.val rfl (LK.and rfl rfl) ?_
      refine WS.val rfl (LK.neg rfl) ?_
      refine WS.val rfl (LK.and rfl rfl) ?_
      refine WS.val rfl (LK.xor rfl rfl) ?_
      refine WS.val rfl (LK.assign rfl) ?_
      refine WS.nil ?_
      refine WP.inBlock ?_
      refine WP.region rfl ?_
      refine WS.val rfl (LK.add rfl rfl) ?_
      refine WS.val rfl (LK.move rfl) ?_
      refine WS.nil ?_
      refine WP.sub (gs := [(3, .int .u32 ((crc1 q : Nat) : Int)), (6, _), (7, _), (8, _), (16, .int .i64 ((k + 1 : Nat) : Int))]) (ih2 (8 - (k + 1)) _ _ (by omega) ⟨k + 1, _, rfl, by omega, rfl, rfl, crc1_lt hq, by rw [hcq, e8]; rfl⟩) ⟨by rw [← crc_go hq]; rfl, rfl, rfl, rfl, ?_, trivial⟩
      show some (LV.int .i64 _) = _
      rw [wrap_i64 (by omega) (by omega)]; rfl
    · have e8 : 8 - k = 0 := by omega
      rw [e8] at hcq
      refine WP.seq ?_
      refine WP.region rfl ?_
      refine WS.val rfl (LK.lss rfl rfl) ?_
      refine WS.nil ?_
      refine WP.seq ?_
      refine WP.cond rfl (fun h17 => ?_) (fun h17 => ?_)
      · exfalso; have := of_decide_eq_true h17; omega
      refine WP.exit rfl ?_
      refine WP.inBlock ?_
      refine WP.region rfl ?_
      refine WS.val rfl (LK.add rfl rfl) ?_
      refine WS.val rfl (LK.move rfl) ?_
      refine WS.nil ?_
      refine WP.sub (gs := [(3, .int .u32 (q : Int)), (6, _), (7, _), (8, .int .i64 ((i + 1 : Nat) : Int))]) (ih (bs.length - (i + 1)) _ _ (by omega) ⟨i + 1, q, rfl, by omega, rfl, rfl, hq, by rw [hc]; show crcL (crcB r y) _ = _; rw [hcq]; rfl⟩) ⟨rfl, rfl, rfl, ?_, trivial⟩
      show some (LV.int .i64 _) = _
      rw [wrap_i64 (by omega) (by omega)]; rfl
  · have hd : bs.drop i = [] := List.drop_eq_nil_of_le (by omega)
    rw [hd] at hc
    have hfin : bitI .xor .u32 4294967295 (r : Int) = ((sumC bs : Nat) : Int) := by
      have := bit_xor (k := .u32) rfl (a := 4294967295) (b := r) (by decide) hr
      rw [show ((4294967295 : Nat) : Int) = 4294967295 from rfl] at this
      rw [this]
      unfold sumC
      rw [hc, Nat.xor_comm]; rfl
    refine WP.seq ?_
    refine WP.region rfl ?_
    refine WS.val rfl (LK.lss rfl rfl) ?_
    refine WS.nil ?_
    refine WP.seq ?_
    refine WP.cond rfl (fun h9 => ?_) (fun h9 => ?_)
    · exfalso; have := of_decide_eq_true h9; omega
    refine WP.exit rfl ?_
    refine WP.seq ?_
    refine WP.region rfl ?_
    refine WS.val rfl (LK.move rfl) ?_
    refine WS.val rfl (LK.compl rfl) ?_
    refine WS.val rfl (LK.assign rfl) ?_
    refine WS.nil ?_
    refine WP.sub (gs := [(2, _)]) ?_ ⟨rfl, trivial⟩
    exact WP.ret rfl (Fin.ret' rfl rfl ⟨rfl, by rw [← hfin]; rfl⟩)

/-! ### chain -/
/-- A checksum's bytes. -/
def sumB (x : Nat) : List UInt8 := [UInt8.ofNat (x / 16777216), UInt8.ofNat (x / 65536), UInt8.ofNat (x / 256), UInt8.ofNat x]
/-- The checksum of a record. -/
def sumR (last frame : List UInt8) : List UInt8 := sumB (sumC (last ++ frame))
theorem sumR_len (last frame : List UInt8) : (sumR last frame).length = 4 := rfl
theorem chain (H : LH) (last : List UInt8) (hl : last.length = 4) : CallP Try.prog 24 [.agg (bytesL last)] H (fun o H' => H' = H.new (.cells (bytesL last) 53 true false) ∧ o = .ret (.func (.func 37) [] [.ptr (some (H.next, 0))])) := by
  refine en24 (by simp) ?_
  unfold c24
  refine WP.seq ?_
  refine WP.region rfl ?_
  refine WS.val rfl (LK.box rfl (bytesL_one _)) ?_
  refine WS.val rfl (LK.assign rfl) ?_
  refine WS.nil ?_
  refine WP.sub (gs := [(2, _), (1, _)]) ?_ ⟨rfl, rfl, trivial⟩
  refine WP.seq ?_
  refine WP.region rfl ?_
  refine WS.val rfl (LK.makeFunc rfl rfl) ?_
  refine WS.val rfl (LK.assign rfl) ?_
  refine WS.nil ?_
  refine WP.sub (gs := [(2, _)]) ?_ ⟨rfl, trivial⟩
  exact WP.ret rfl (Fin.ret' rfl rfl ⟨rfl, rfl⟩)

theorem copy_out {H : LH} {t e i off m n : Nat} {c : LCap} {cs xs : List LV} {el : Nat} {opn : Bool} {x : LV} [hu : TUnd Try.prog t (.slice e)] [hs : TSize Try.prog e 1] (hi : H.get i = some (.cells cs el true opn)) (hx : SV H 1 x m xs) (hone : xs.all oneCell = true) (hm : m ≤ n) (hl : off + n ≤ cs.length) :
    copyL Try.prog H t (.slice (some (i, off)) n c) x = some (.int .i64 m, if m = 0 then H else H.put i (.cells (splice cs off xs) el true opn)) := by
  have he : sliceElem Try.prog t = some e := by simp only [sliceElem, hu.out]
  have hxl := hx.length
  simp only [copyL, he, hs.out, lenD, hx.lenL, Nat.min_eq_left hm]
  by_cases h0 : m = 0
  · subst h0; simp
  · rw [if_neg h0, if_neg h0, hx.firstL (Nat.le_refl _)]
    simp only
    rw [← hxl, List.take_length, hone, if_pos rfl]
    simp only [storeCellsL, hi]
    rw [if_pos (by omega)]
    rfl
theorem copy_call {H : LH} {t t' e i off m n : Nat} {c : LCap} {cs xs : List LV} {el : Nat} {opn : Bool} {x : LV} [hu : TUnd Try.prog t (.slice e)] [hs : TSize Try.prog e 1] (hi : H.get i = some (.cells cs el true opn)) (hx : SV H 1 x m xs) (hone : xs.all oneCell = true) (hm : m ≤ n) (hl : off + n ≤ cs.length) :
    builtinL Try.prog H .copy [t, t'] [.slice (some (i, off)) n c, x] = some (.val (.int .i64 m) (if m = 0 then H else H.put i (.cells (splice cs off xs) el true opn))) := by
  simp only [builtinL]
  rw [copy_out (t := t) hi hx hone hm hl]
  rfl
theorem slice_arr {H : LH} {cb : Nat} : sliceL Try.prog H 53 (.ptr (some (cb, 0))) none none none = some (.slice (some (cb, 0)) 4 (.ex 4)) := by
  simp only [sliceL, TUnd.out (P := Try.prog) (t := 53), TSize.out (P := Try.prog) (t := 5), boundO]
  rfl
theorem byte_of (x n : Nat) : IntKind.u8.wrap ((x / n : Nat) : Int) = ((UInt8.ofNat (x / n)).toNat : Int) := by rw [wrap_u8']; simp
theorem zerosL_one (z : LV) : ∀ n, zerosL n [z] = List.replicate n z
  | 0 => rfl
  | n + 1 => by simp only [zerosL, zerosL_one z n]; rfl
theorem makeSlice_u8 {H : LH} {n : Nat} (hn : n ≤ growMax) : makeSliceL Try.prog H 22 (.int .i64 (n : Int)) (.int .i64 (n : Int)) = some (.slice (some (H.next, 0)) n (.ex n), H.new (.cells (List.replicate n (.int .u8 0)) 5 true false)) := by
  simp only [makeSliceL, sliceElem, TUnd.out (P := Try.prog) (t := 22), natOf_cast, TSize.out (P := Try.prog) (t := 5), TBytes.out (P := Try.prog) (t := 5), TZero.out (P := Try.prog) (t := 5)]
  rw [if_pos ⟨Nat.le_refl _, by omega, hn, by omega, rfl⟩]
  simp only [LV.cells, zerosL_one]

theorem res_agg {H : LH} {g : Kno} {a t n i : Nat} {xs : List LV} {e : Nat} {own opn : Bool} [ht : TAgg Try.prog t true] [hs : TSize Try.prog t n] (ha : lk g a = some (.ptr (some (i, 0)))) (hi : H.get i = some (.cells xs e own opn)) (hl : xs.length = n) : resK Try.prog H g [.cell a t] = some [.agg xs] := by
  have e1 : loadL Try.prog H t (.ptr (some (i, 0))) = some (.agg xs) := by
    simp only [loadL, ht.out, hs.out, cellsAt, hi]
    rw [if_pos (by omega), List.drop_zero, ← hl, List.take_length]; rfl
  simp only [resK, ha, Option.bind_some, e1]

set_option maxHeartbeats 4000000 in
theorem chain1 (H : LH) (cb : Nat) (last frame : List UInt8) (v : LV) (hcb : cb < H.next) (hc : H.get cb = some (.cells (bytesL last) 53 true false)) (hl : last.length = 4) (hf : BV H v frame) (hfl : frame.length < 2 ^ 40) :
    CallP Try.prog 37 [v, .ptr (some (cb, 0))] H (fun o H' => o = .ret (.agg (bytesL (sumR last frame))) ∧ H'.get cb = some (.cells (bytesL (sumR last frame)) 53 true false) ∧ Ext H H' (fun i => i = cb)) := by
  refine en37 (by simp) ?_
  unfold c37
  -- the result's block, and the bytes to be summed up
  generalize hH1 : H.new (.cells [.int .u8 0, .int .u8 0, .int .u8 0, .int .u8 0] 53 true false) = H1
  have hn1 : H1.next = H.next + 1 := by rw [← hH1]; rfl
  have hE1 : Ext H H1 none' := by rw [← hH1]; exact (Ext.refl _ _).new _
  have hr1 : H1.get H.next = some (.cells [.int .u8 0, .int .u8 0, .int .u8 0, .int .u8 0] 53 true false) := by rw [← hH1]; exact get_new_self
  have hc1 := hE1.get hcb (fun h => h) hc
  have hf1 := hf.ext hE1 (fun i _ h => h)
  have hms := makeSlice_u8 (H := H1) (n := 4 + frame.length) (by unfold growMax; omega)
  generalize hH2 : H1.new (.cells (List.replicate (4 + frame.length) (.int .u8 0)) 5 true false) = H2 at hms
  have hn2 : H2.next = H1.next + 1 := by rw [← hH2]; rfl
  have hE2 : Ext H1 H2 none' := by rw [← hH2]; exact (Ext.refl _ _).new _
  have hb2 : H2.get H1.next = some (.cells (List.replicate (4 + frame.length) (.int .u8 0)) 5 true false) := by rw [← hH2]; exact get_new_self
  have hc2 := hE2.get (by omega) (fun h => h) hc1
  have hf2 := hf1.ext hE2 (fun i _ h => h)
  have hS2 : BV H2 (.slice (some (cb, 0)) 4 (.ex 4)) last := by
    have e : bytesL last = ((bytesL last).drop 0).take (4 * 1) := by rw [List.drop_zero, List.take_of_length_le (by rw [bytesL_length]; omega)]
    unfold BV
    rw [hl]
    exact .inr ⟨cb, 0, _, _, _, _, _, rfl, by omega, hc2, Nat.le_refl _, by rw [bytesL_length]; omega, e.symm⟩
  have hcp2 := copy_call (t := 22) (t' := 22) (off := 0) (n := 4 + frame.length) (c := .ex (4 + frame.length)) hb2 hS2 (bytesL_one _) (by omega) (by simp)
  rw [if_neg (by omega)] at hcp2
  have hsp2 : splice (List.replicate (4 + frame.length) (LV.int .u8 0)) 0 (bytesL last) = bytesL last ++ List.replicate frame.length (.int .u8 0) := by
    unfold splice
    rw [bytesL_length, hl, List.take_zero, List.nil_append, List.drop_replicate]
    congr 2
    omega
  rw [hsp2, hl] at hcp2
  generalize hH3 : H2.put H1.next (.cells (bytesL last ++ List.replicate frame.length (.int .u8 0)) 5 true false) = H3 at hcp2
  have hn3 : H3.next = H2.next := by rw [← hH3]; rfl
  have hE3 : Ext H2 H3 (fun i => i = H1.next) := by rw [← hH3]; exact Ext.put1 _ _ _
  have hb3 : H3.get H1.next = some (.cells (bytesL last ++ List.replicate frame.length (.int .u8 0)) 5 true false) := by rw [← hH3]; exact get_put_self
  have hf3 := hf2.ext hE3 (fun i hi h => by have := hf.lt hi; omega)
  have hsl3 : sliceL Try.prog H3 22 (.slice (some (H1.next, 0)) (4 + frame.length) (.ex (4 + frame.length))) (some (.int .i64 4)) none none = some (.slice (some (H1.next, if 4 + frame.length = 4 then 0 else 0 + 4 * 1)) (4 + frame.length - 4) (.ex (4 + frame.length - 4))) := by
    have e4 : natOf (.int .i64 4) = some 4 := rfl
    simp only [sliceL, TUnd.out (P := Try.prog) (t := 22), TSize.out (P := Try.prog) (t := 5), boundO, e4, knownRoom]
    rw [if_neg (by omega)]
  have hcp3 := copy_call (t := 22) (t' := 22) (n := 4 + frame.length - 4) (off := if 4 + frame.length = 4 then 0 else 0 + 4 * 1) (c := .ex (4 + frame.length - 4)) hb3 hf3 (bytesL_one _) (by omega) (by simp [bytesL_length]; split <;> omega)
  generalize hH4 : (if frame.length = 0 then H3 else H3.put H1.next (.cells (splice (bytesL last ++ List.replicate frame.length (.int .u8 0)) (if 4 + frame.length = 4 then 0 else 0 + 4 * 1) (bytesL frame)) 5 true false)) = H4 at hcp3
  have hn4 : H4.next = H3.next := by rw [← hH4]; split <;> rfl
  have hE4 : Ext H3 H4 (fun i => i = H1.next) := by
    rw [← hH4]
    split
    · exact Ext.refl _ _
    · exact Ext.put1 _ _ _
  have hb4 : H4.get H1.next = some (.cells (bytesL (last ++ frame)) 5 true false) := by
    rw [← hH4]
    by_cases h0 : frame.length = 0
    · rw [if_pos h0, hb3]
      obtain rfl : frame = [] := List.length_eq_zero_iff.1 h0
      simp
    · rw [if_neg h0, get_put_self, if_neg (by omega)]
      congr 2
      unfold splice
      have e1 : (bytesL last ++ List.replicate frame.length (LV.int .u8 0)).take (0 + 4 * 1) = bytesL last := by
        rw [List.take_append_of_le_length (by rw [bytesL_length]; omega), List.take_of_length_le (by rw [bytesL_length]; omega)]
      have e2 : (bytesL last ++ List.replicate frame.length (LV.int .u8 0)).drop (0 + 4 * 1 + (bytesL frame).length) = [] := List.drop_eq_nil_of_le (by simp [bytesL_length]; omega)
      rw [e1, e2, List.append_nil, bytesL_append]
  have hS4 : BV H4 (.slice (some (H1.next, 0)) (4 + frame.length) (.ex (4 + frame.length))) (last ++ frame) := by
    have e : (last ++ frame).length = 4 + frame.length := by rw [List.length_append, hl]
    unfold BV
    rw [e]
    exact .inr ⟨_, 0, _, _, _, _, _, rfl, by omega, hb4, Nat.le_refl _, by rw [bytesL_length, e]; omega, by rw [List.drop_zero, List.take_of_length_le (by rw [bytesL_length, e]; omega)]⟩
  have hc4 : H4.get cb = some (.cells (bytesL last) 53 true false) := by rw [hE4.keep _ (by omega) (by omega), hE3.keep _ (by omega) (by omega)]; exact hc2
  have hr4 : H4.get H.next = some (.cells [.int .u8 0, .int .u8 0, .int .u8 0, .int .u8 0] 53 true false) := by rw [hE4.keep _ (by omega) (by omega), hE3.keep _ (by omega) (by omega), hE2.keep _ (by omega) (fun h => h)]; exact hr1
  have hx := sumC_lt (last ++ frame)
  have hsp : splice (bytesL last) 0 (bytesL (sumR last frame)) = bytesL (sumR last frame) := by
    unfold splice
    rw [List.take_zero, List.nil_append, bytesL_length, sumR_len, List.drop_eq_nil_of_le (by rw [bytesL_length]; omega), List.append_nil]
  have hw1 : IntKind.u8.wrap (((sumC (last ++ frame) : Nat) : Int).fdiv (2 ^ (min (24 : Int).toNat IntKind.u32.bits))) = ((UInt8.ofNat (sumC (last ++ frame) / 16777216)).toNat : Int) := by
    rw [shr_nat (k := .u32) _ (n := 24) (m := 24) rfl (by decide)]; exact byte_of _ _
  have hw2 : IntKind.u8.wrap (((sumC (last ++ frame) : Nat) : Int).fdiv (2 ^ (min (16 : Int).toNat IntKind.u32.bits))) = ((UInt8.ofNat (sumC (last ++ frame) / 65536)).toNat : Int) := by
    rw [shr_nat (k := .u32) _ (n := 16) (m := 16) rfl (by decide)]; exact byte_of _ _
  have hw3 : IntKind.u8.wrap (((sumC (last ++ frame) : Nat) : Int).fdiv (2 ^ (min (8 : Int).toNat IntKind.u32.bits))) = ((UInt8.ofNat (sumC (last ++ frame) / 256)).toNat : Int) := by
    rw [shr_nat (k := .u32) _ (n := 8) (m := 8) rfl (by decide)]; exact byte_of _ _
  have hw4 : IntKind.u8.wrap ((sumC (last ++ frame) : Nat) : Int) = ((UInt8.ofNat (sumC (last ++ frame))).toNat : Int) := by rw [wrap_u8']; simp
  have hsz : splice [LV.int .u8 0, .int .u8 0, .int .u8 0, .int .u8 0] 0 (bytesL (sumR last frame)) = bytesL (sumR last frame) := rfl
  have hr5 : (H4.put cb (.cells (bytesL (sumR last frame)) 53 true false)).get H.next = some (.cells [.int .u8 0, .int .u8 0, .int .u8 0, .int .u8 0] 53 true false) := by rw [get_put_other (by omega)]; exact hr4
  have hE : Ext H H4 none' := (((hE1.trans hE2 (fun i _ h => h)).trans hE3 (fun i hi h => by omega)).trans hE4 (fun i hi h => by omega))
  refine WP.seq ?_
  refine WP.region rfl ?_
  refine WS.val rfl (LK.alloc) ?_
  refine WS.nil ?_
  refine WP.seq ?_
  refine (?_ : WP Try.prog _ _ _ (H.new (.cells [.int .u8 0, .int .u8 0, .int .u8 0, .int .u8 0] 53 true false)) _)
  rw [hH1]
  refine WP.region rfl ?_
  refine WS.val rfl (LK.move rfl) ?_
  refine WS.val rfl (SV.len hf1 rfl) ?_
  refine WS.val rfl (LK.add_to (c := ((4 + frame.length : Nat) : Int)) rfl rfl (by rw [wrap_i64 (by omega) (by omega)]; omega)) ?_
  refine WS.val rfl (LK.makeSlice rfl rfl hms) ?_
  refine WS.val rfl (LK.assign rfl) ?_
  refine WS.nil ?_
  refine WP.sub (gs := [(4, _), (3, _), (0, _), (1, _)]) ?_ ⟨rfl, rfl, rfl, rfl, trivial⟩
  refine WP.seq ?_
  refine WP.region rfl ?_
  refine WS.val rfl (LK.move rfl) ?_
  refine WS.val rfl (LK.slice rfl rfl rfl rfl slice_arr) ?_
  refine WS.val rfl (LK.builtin rfl hcp2) ?_
  refine WS.nil ?_
  refine WP.sub (gs := [(4, _), (3, _), (0, _), (1, _)]) ?_ ⟨rfl, rfl, rfl, rfl, trivial⟩
  refine WP.seq ?_
  refine WP.region rfl ?_
  refine WS.val rfl (LK.move rfl) ?_
  refine WS.val rfl (LK.slice rfl rfl rfl rfl hsl3) ?_
  refine WS.val rfl (LK.move rfl) ?_
  refine WS.val rfl (LK.builtin rfl hcp3) ?_
  refine WS.nil ?_
  refine WP.sub (gs := [(4, _), (3, _), (1, _)]) ?_ ⟨rfl, rfl, rfl, trivial⟩
  refine WP.seq ?_
  refine WP.region rfl ?_
  refine WS.val rfl (LK.move rfl) ?_
  (refine WS.call rfl (LK.call rfl) (CallP.mono (isum H4 _ (last ++ frame) hS4 (by rw [List.length_append]; omega)) ?_); rintro _ Hc ⟨rfl, rfl⟩)
  refine WS.val rfl (LK.assign rfl) ?_
  refine WS.nil ?_
  refine WP.sub (gs := [(5, _), (3, _), (1, _)]) ?_ ⟨rfl, rfl, rfl, trivial⟩
  refine WP.seq ?_
  refine WP.region rfl ?_
  refine WS.val rfl (LK.move rfl) ?_
  refine WS.val rfl (LK.shr rfl rfl (by decide)) ?_
  refine WS.val rfl (LK.conv_to rfl hw1) ?_
  refine WS.val rfl (LK.move rfl) ?_
  refine WS.val rfl (LK.shr rfl rfl (by decide)) ?_
  refine WS.val rfl (LK.conv_to rfl hw2) ?_
  refine WS.val rfl (LK.move rfl) ?_
  refine WS.val rfl (LK.shr rfl rfl (by decide)) ?_
  refine WS.val rfl (LK.conv_to rfl hw3) ?_
  refine WS.val rfl (LK.move rfl) ?_
  refine WS.val rfl (LK.conv_to rfl hw4) ?_
  refine WS.val rfl (LK.build_a rfl rfl) ?_
  refine WS.skip rfl (LK.store (n := 4) rfl rfl hc4 rfl rfl (by rw [bytesL_length]; omega)) ?_
  refine WS.nil ?_
  refine WP.sub (gs := [(3, _), (1, _)]) ?_ ⟨rfl, rfl, trivial⟩
  refine WP.seq ?_
  refine (?_ : WP Try.prog _ _ _ (_root_.Go.Lv.LH.put _ cb (.cells (splice (bytesL last) 0 (bytesL (sumR last frame))) 53 true false)) _)
  rw [hsp]
  refine WP.region rfl ?_
  refine WS.val rfl (LK.load_agg (xs := bytesL (sumR last frame)) rfl get_put_self (by rw [bytesL_length, sumR_len]; omega) (by rw [List.drop_zero]; exact List.take_of_length_le (by rw [bytesL_length, sumR_len]; omega))) ?_
  refine WS.skip rfl (LK.store (n := 4) rfl rfl hr5 rfl (bytesL_one _) (by decide)) ?_
  refine WS.nil ?_
  refine WP.sub (gs := [(3, _)]) ?_ ⟨rfl, trivial⟩
  refine WP.ret rfl (Fin.ret' (vs := [.agg (bytesL (sumR last frame))]) rfl (res_agg (i := H.next) rfl get_put_self rfl) ⟨rfl, ?_, ?_⟩)
  · rw [get_put_other (by omega)]; exact get_put_self
  · exact ((hE.mono (W' := fun i => i = cb) (fun i _ h => h.elim)).put _ (fun _ => rfl)).put _ (fun h => by omega)
/-- A valid record: its command, where it ends, its checksum. -/
structure Rec where
  c : LCmd
  fin : Nat
  sum : List UInt8
/-- The record that begins there. -/
def nextR (bs : List UInt8) (at_ : Nat) (last : List UInt8) : Option Rec := if at_ < bs.length then (getC (bs.drop at_)).bind fun p =>
    if bs.length < at_ + p.2 + 4 then none
    else if (bs.drop (at_ + p.2)).take 4 = sumR last ((bs.drop at_).take p.2) then some ⟨p.1, at_ + p.2 + 4, sumR last ((bs.drop at_).take p.2)⟩ else none
  else none
def recsF : Nat → List UInt8 → Nat → List UInt8 → List Rec
  | 0, _, _, _ => []
  | f + 1, bs, at_, last => match nextR bs at_ last with
    | none => []
    | some r => r :: recsF f bs r.fin r.sum
/-- The valid records of some bytes. -/
def recs (bs : List UInt8) : List Rec := recsF (bs.length + 1) bs 0 [0, 0, 0, 0]
theorem nextR_fin {bs last : List UInt8} {at_ : Nat} {r : Rec} (h : nextR bs at_ last = some r) : at_ + 4 ≤ r.fin ∧ r.fin ≤ bs.length := by
  unfold nextR at h
  split at h
  · cases hg : getC (bs.drop at_) with
    | none => rw [hg] at h; cases h
    | some p =>
      rw [hg, Option.bind_some] at h
      split at h
      · cases h
      · split at h
        · cases h; simp only; omega
        · cases h
  · cases h

/-! ### two arrays of four bytes -/
theorem neq4 {x y : Operand} {a b : List UInt8} (ha : a.length = 4) (hb : b.length = 4) : lbin Try.prog .neq 53 x y (.agg (bytesL a)) (.agg (bytesL b)) = some (.bool (!(decide (a = b)))) := by
  obtain ⟨a0, a1, a2, a3, rfl⟩ : ∃ a0 a1 a2 a3, a = [a0, a1, a2, a3] := by
    match a, ha with
    | [a0, a1, a2, a3], _ => exact ⟨_, _, _, _, rfl⟩
  obtain ⟨b0, b1, b2, b3, rfl⟩ : ∃ b0 b1 b2 b3, b = [b0, b1, b2, b3] := by
    match b, hb with
    | [b0, b1, b2, b3], _ => exact ⟨_, _, _, _, rfl⟩
  have hg : Try.prog.eqGuardType Try.prog.depth 53 = false := by kernel_rfl
  have e1 : ∀ x y : UInt8, leq Try.prog 63 5 (.int .u8 x.toNat) (.int .u8 y.toNat) = some (decide (x = y)) := fun x y => by
    simp only [leq, TUnd.out (P := Try.prog) (t := 5)]
    rw [if_pos trivial]
    congr 1
    by_cases h : x = y
    · subst h; simp
    · have : ¬ (x.toNat : Int) = y.toNat := fun hh => h (UInt8.toNat_inj.1 (by omega))
      simp [h, this]
  have e2 : leq Try.prog 64 53 (.agg (bytesL [a0, a1, a2, a3])) (.agg (bytesL [b0, b1, b2, b3])) = some (decide ([a0, a1, a2, a3] = [b0, b1, b2, b3])) := by
    unfold leq
    simp only [TUnd.out (P := Try.prog) (t := 53), TSize.out (P := Try.prog) (t := 5), List.range, List.range.loop, foldO, partL, TAgg.out (P := Try.prog) (t := 5), bytesL, List.map]
    simp only [Nat.zero_mul, Nat.one_mul, Nat.mul_one, List.getElem?_cons_zero, List.getElem?_cons_succ, e1]
    by_cases h0 : a0 = b0 <;> by_cases h1 : a1 = b1 <;> by_cases h2 : a2 = b2 <;> by_cases h3 : a3 = b3 <;> simp [h0, h1, h2, h3]
  simp only [lbin, guardOk, hg, e2]
  rfl

/-! ### what the records are handed to -/
/-- The cells of a record. -/
def RecV (H : LH) (r : Rec) (cells : List LV) : Prop := ∃ cs, cells = cs ++ (.int .i64 r.fin :: bytesL r.sum) ∧ r.c.Ok ∧ CmdC H r.c cs ∧ r.sum.length = 4
structure Consumer (l : Nat) where
  J : (Nat → Prop) → (Nat → Prop) → List Rec → LH → Prop
  fin : ∀ {F D done H}, J F D done H → ∀ i, F i ∨ D i → i < H.next
  stable : ∀ {F D done H H'} {W : Nat → Prop}, J F D done H → Ext H H' W → (∀ i, F i ∨ D i → ¬ W i) → J F D done H'
  step : ∀ {F D done H r cells}, J F D done H → RecV H r cells → (∀ x ∈ cells, ∀ i, x.bid? = some i → ¬ F i) → done.length < 2 ^ 36 →
    RoundP Try.prog l [.agg cells] H (fun o H' => o = .ret (.bool true) ∧ ∃ F' D', J F' D' (done ++ [r]) H' ∧ Ext H H' F ∧ (∀ i, F' i → F i ∨ H.next ≤ i) ∧ (∀ i, D' i → D i ∨ H.next ≤ i ∨ ∃ x ∈ cells, x.bid? = some i))

def zero12 : List LV := zero7 ++ [.int .i64 0, .int .u8 0, .int .u8 0, .int .u8 0, .int .u8 0]
theorem cmd_len {H : LH} {c : LCmd} {cs : List LV} (h : CmdC H c cs) : cs.length = 7 := by
  obtain ⟨d, b, rfl, _, _⟩ := h; rfl
theorem cmd_one {H : LH} {c : LCmd} {cs : List LV} (h : CmdC H c cs) : cs.all oneCell = true := by
  obtain ⟨d, b, rfl, hd, hb⟩ := h; exact cells7_one (SV.one hd) (SV.one hb)
theorem splice_all {cs xs : List LV} (h : cs.length = xs.length) : splice cs 0 xs = xs := by
  unfold splice
  rw [List.take_zero, List.nil_append, Nat.zero_add, ← h, List.drop_length, List.append_nil]
theorem getC_le {bs : List UInt8} {c : LCmd} {n : Nat} (h : getC bs = some (c, n)) : n ≤ bs.length ∧ 0 < n := by
  unfold getC at h
  cases hr : rdU bs with
  | none => rw [hr] at h; cases h
  | some p =>
    rw [hr, Option.bind_some] at h
    have hs := rdU_spec (x := p.1) (r := p.2) hr
    split at h
    · cases h
    · rename_i hh
      simp only at h
      cases hv : vis ((p.2.take p.1).getD 0 0).toNat with
      | none => rw [hv] at h; cases h
      | some l =>
        rw [hv, Option.bind_some] at h
        cases hd : decL l { zeroC with op := ((p.2.take p.1).getD 0 0).toNat } ((p.2.take p.1).drop 1) with
        | none => rw [hd] at h; cases h
        | some q =>
          rw [hd, Option.bind_some] at h
          split at h
          · cases h; omega
          · cases h
theorem getq (H : LH) (b : LV) (bs : List UInt8) (hb : BV H b bs) (hbl : bs.length < 2 ^ 62) : CallP Try.prog 36 [b] H (fun o H' => Ext H H' none' ∧ ∃ (op : Int) (u v : Nat) (w t : Int) (d b' : LV) (n : Nat) (e : Int), o = .ret (.tuple [.agg (cells7 op u v w t d b'), .int .i64 n, .int .i64 e]) ∧ oneCell d = true ∧ oneCell b' = true ∧ n ≤ bs.length ∧
    (e = 0 → ∃ c, getC bs = some (c, n) ∧ CmdF H' H.next c (cells7 op u v w t d b')) ∧ (e ≠ 0 → getC bs = none)) := by
  refine (get H b bs hb hbl).mono ?_
  rintro o H' ⟨hE, ⟨c, n, cs, hg, rfl, hF⟩ | ⟨hg, rfl⟩⟩
  · obtain ⟨d, b', rfl, hd, hb'⟩ := id hF.2.1
    exact ⟨hE, _, _, _, _, _, d, b', n, 0, rfl, SV.one hd, SV.one hb', (getC_le hg).1, fun _ => ⟨c, hg, hF⟩, fun h => absurd rfl h⟩
  · exact ⟨hE, _, _, _, _, _, nilV, nilV, 0, 15, rfl, rfl, rfl, Nat.zero_le _, fun h => absurd h (by decide), fun _ => hg⟩

/-- The producer's own blocks, and the bytes. -/
structure Own1 (H : LH) (F D : Nat → Prop) (bb cb : Nat) (b : LV) (bs last : List UInt8) : Prop where
  b1 : bb < H.next
  b2 : ∃ own opn, H.get bb = some (.cells [b] 22 own opn)
  b3 : ¬ F bb
  b4 : BV H b bs
  b5 : ∀ i, b.bid? = some i → ¬ F i
  c1 : cb < H.next
  c2 : H.get cb = some (.cells (bytesL last) 53 true false)
  c3 : last.length = 4
  c4 : ¬ F cb ∧ ¬ D cb
  c5 : cb ≠ bb ∧ b.bid? ≠ some cb
theorem Own1.ext {H H' : LH} {F D W : Nat → Prop} {bb cb : Nat} {b : LV} {bs last : List UInt8} (h : Own1 H F D bb cb b bs last) (hE : Ext H H' W) (h1 : ¬ W bb) (h2 : ∀ i, b.bid? = some i → ¬ W i) (h3 : ¬ W cb) : Own1 H' F D bb cb b bs last := by
  obtain ⟨own, opn, hg⟩ := h.b2
  exact ⟨Nat.lt_of_lt_of_le h.b1 hE.next, ⟨own, opn, hE.get h.b1 h1 hg⟩, h.b3, h.b4.ext hE h2, h.b5, Nat.lt_of_lt_of_le h.c1 hE.next, hE.get h.c1 h3 h.c2, h.c3, h.c4, h.c5⟩

/-- How the call of the iterator ends. -/
def RecsR {l : Nat} (V : Consumer l) (F0 D0 : Nat → Prop) (H : LH) (rs : List Rec) (o : LOut) (H' : LH) : Prop := o = .ret (.tuple []) ∧ ∃ F D, V.J F D rs H' ∧ Ext H H' F0 ∧ (∀ i, F i → F0 i ∨ H.next ≤ i) ∧ (∀ i, D i → D0 i ∨ H.next ≤ i)

set_option maxHeartbeats 16000000 in
theorem records1 {l : Nat} (V : Consumer l) (H : LH) (bb : Nat) (b : LV) (bs : List UInt8) (F0 D0 : Nat → Prop) (hJ0 : V.J F0 D0 [] H) (hbb : bb < H.next) (hgb : ∃ own opn, H.get bb = some (.cells [b] 22 own opn)) (hb : BV H b bs) (hbl : bs.length < 2 ^ 36) (hF1 : ¬ F0 bb) (hF2 : ∀ i, b.bid? = some i → ¬ F0 i) :
    CallP Try.prog 35 [.yield l, .ptr (some (bb, 0))] H (RecsR V F0 D0 H (recs bs)) := by
  refine en35 (by simp) ?_
  unfold c35
  refine WP.seq ?_
  refine WP.region rfl ?_
  refine WS.val rfl (LK.build_a rfl rfl) ?_
  (refine WS.call rfl (LK.call rfl) (CallP.mono (chain H [0, 0, 0, 0] rfl) ?_); rintro _ Hc ⟨rfl, rfl⟩)
  refine WS.val rfl (LK.assign rfl) ?_
  refine WS.nil ?_
  refine WP.sub (gs := [(3, _), (0, _), (1, _)]) ?_ ⟨rfl, rfl, rfl, trivial⟩
  refine WP.seq ?_
  refine WP.region rfl ?_
  refine WS.val rfl (LK.assign rfl) ?_
  refine WS.nil ?_
  refine WP.block ?_
  refine WP.loop ?_
  skip
  have hfin := V.fin hJ0
  have hE0 : Ext H (H.new (.cells (bytesL [0, 0, 0, 0]) 53 true false)) none' := (Ext.refl _ _).new _
  have hJ1 := V.stable hJ0 hE0 (fun i _ h => h)
  have hO1 : Own1 (H.new (.cells (bytesL [0, 0, 0, 0]) 53 true false)) F0 D0 bb H.next b bs [0, 0, 0, 0] := by
    obtain ⟨own, opn, hg⟩ := hgb
    exact ⟨by simp; omega, ⟨own, opn, by rw [get_new_old hbb]; exact hg⟩, hF1, hb.ext hE0 (fun i _ h => h), hF2, by simp, get_new_self, rfl, ⟨fun h => by have := hfin _ (.inl h); omega, fun h => by have := hfin _ (.inr h); omega⟩, by omega, fun h => by have := hb.lt h; omega⟩
  generalize hH1 : H.new (.cells (bytesL [0, 0, 0, 0]) 53 true false) = H1 at *
  refine WP.sub (gs := [(0, .yield l), (1, .ptr (some (bb, 0))), (3, .func (.func 37) [] [.ptr (some (H.next, 0))]), (4, .int .i64 ((0 : Nat) : Int))]) ?_ ⟨rfl, rfl, rfl, rfl, trivial⟩
  refine WP.inv (fun n g H' => ∃ (at_ f : Nat) (last : List UInt8) (done : List Rec) (F D : Nat → Prop), n = bs.length - at_ ∧ at_ ≤ bs.length ∧ done.length ≤ at_ ∧ g = [(0, .yield l), (1, .ptr (some (bb, 0))), (3, .func (.func 37) [] [.ptr (some (H.next, 0))]), (4, .int .i64 (at_ : Int))] ∧
      recs bs = done ++ recsF f bs at_ last ∧ bs.length < at_ + f ∧ V.J F D done H' ∧ Own1 H' F D bb H.next b bs last ∧ Ext H H' F0 ∧ (∀ i, F i → F0 i ∨ H.next ≤ i) ∧ (∀ i, D i → D0 i ∨ H.next ≤ i)) (n := bs.length)
    ⟨0, bs.length + 1, [0, 0, 0, 0], [], F0, D0, rfl, Nat.zero_le _, Nat.zero_le _, rfl, rfl, by omega, hJ1, hO1, hE0.mono (fun i _ h => h.elim), fun i h => .inl h, fun i h => .inl h⟩ ?_
  rintro n g H' ⟨at_, f, last, done, F, D, rfl, hat, hdl, rfl, hrec, hf, hJ, hO, hE, hFs, hDs⟩ ih
  obtain ⟨f, rfl⟩ : ∃ k, f = k + 1 := ⟨f - 1, by omega⟩
  obtain ⟨own, opn, hb2⟩ := hO.b2
  have hb4 := hO.b4
  by_cases hlt : at_ < bs.length
  · obtain ⟨v1, hsl1, hb1, hv1⟩ := hb4.slice (t := 22) (lo := some (.int .i64 (at_ : Int))) (hi := none) (l := at_) (r := bs.length) (natOf_cast (k := .i64)) rfl hat (Nat.le_refl _)
    rw [List.take_of_length_le (by simp)] at hb1
    refine WP.seq ?_
    refine WP.seq ?_
    refine WP.region rfl ?_
    refine WS.val rfl (LK.move rfl) ?_
    refine WS.val rfl (LK.load rfl hb2 rfl) ?_
    refine WS.val rfl (SV.len hb4 rfl) ?_
    refine WS.val rfl (LK.lss rfl rfl) ?_
    refine WS.nil ?_
    refine WP.cond rfl (fun h14 => ?_) (fun h14 => ?_)
    rotate_left
    · first | (exfalso; have := of_decide_eq_false h14; omega) | cases h14
    refine WP.skip ?_
    refine WP.block ?_
    refine WP.seq ?_
    refine WP.region rfl ?_
    refine WS.val rfl (LK.load rfl hb2 rfl) ?_
    refine WS.val rfl (LK.move rfl) ?_
    refine WS.val rfl (LK.slice rfl rfl rfl rfl hsl1) ?_
    (refine WS.call rfl (LK.call rfl) (CallP.mono (getq H' v1 (bs.drop at_) hb1 (by simp; omega)) ?_); rintro _ H4 ⟨hE2, op, u, v, w, t, d, b', n, e, rfl, hd1, hb1', hn, he0, he1⟩; rw [List.length_drop] at hn)
    refine WS.val rfl (LK.move rfl) ?_
    refine WS.val rfl (LK.extract rfl rfl) ?_
    refine WS.val rfl (LK.extract rfl rfl) ?_
    refine WS.val rfl (LK.extract rfl rfl) ?_
    refine WS.val rfl (LK.alloc) ?_
    refine WS.skip rfl (LK.store (n := 7) rfl rfl get_new_self rfl (cells7_one hd1 hb1') (Nat.le_refl 7)) ?_
    refine WS.val rfl (LK.assign rfl) ?_
    refine WS.val rfl (LK.assign rfl) ?_
    refine WS.nil ?_
    refine WP.seq ?_
    refine WP.seq ?_
    refine (?_ : WP Try.prog _ _ _ ((H4.new (.cells zero7 28 true false)).put H4.next (.cells (cells7 op u v w t d b') 28 true false)) _)
    generalize hH5 : (H4.new (.cells zero7 28 true false)).put H4.next (.cells (cells7 op u v w t d b') 28 true false) = H5
    have hn5 : H5.next = H4.next + 1 := by rw [← hH5]; rfl
    have hE5 : Ext H4 H5 none' := by rw [← hH5]; exact ((Ext.refl _ _).new _).put _ (fun h => by omega)
    have hg5 : H5.get H4.next = some (.cells (cells7 op u v w t d b') 28 true false) := by rw [← hH5]; exact get_put_self
    have hE15 : Ext H' H5 none' := hE2.trans hE5 (fun i _ h => h)
    have hO5 := hO.ext hE15 (fun h => h) (fun i _ h => h) (fun h => h)
    have hJ5 := V.stable hJ hE15 (fun i _ h => h)
    have hone7 := cells7_one (op := op) (u := u) (v := v) (w := w) (t := t) hd1 hb1'
    obtain ⟨own5, opn5, hb5⟩ := hO5.b2
    have hbb5 := hO5.b4
    have hw1 : IntKind.i64.wrap ((bs.length : Int) - (at_ : Int)) = (bs.length : Int) - at_ := wrap_i64 (by omega) (by omega)
    have hw2 : IntKind.i64.wrap ((bs.length : Int) - at_ - (n : Int)) = (bs.length : Int) - at_ - n := wrap_i64 (by omega) (by omega)
    have hw3 : IntKind.i64.wrap ((at_ : Int) + (n : Int)) = ((at_ + n : Nat) : Int) := by rw [wrap_i64 (by omega) (by omega)]; omega
    have hw4 : IntKind.i64.wrap (((at_ + n : Nat) : Int) + 4) = ((at_ + n + 4 : Nat) : Int) := by rw [wrap_i64 (by omega) (by omega)]; omega
    refine WP.region rfl ?_
    refine WS.val rfl (LK.move rfl) ?_
    refine WS.val rfl (LK.neq rfl rfl) ?_
    refine WS.val rfl (LK.move rfl) ?_
    first | refine WS.val rfl (LK.load rfl hb5 rfl) ?_ | refine WS.no rfl ?_ | (refine WS.guard rfl (fun h25 => ?_) (fun h25 => ?_) <;> first | refine WS.val rfl (LK.load rfl hb5 rfl) ?_ | refine WS.no rfl ?_)
    all_goals first | refine WS.val rfl (SV.len hbb5 rfl) ?_ | refine WS.no rfl ?_
    all_goals first | refine WS.val rfl (LK.move rfl) ?_ | refine WS.no rfl ?_
    all_goals first | refine WS.val rfl (LK.sub_to rfl rfl hw1) ?_ | refine WS.no rfl ?_
    all_goals first | refine WS.val rfl (LK.move rfl) ?_ | refine WS.no rfl ?_
    all_goals first | refine WS.val rfl (LK.sub_to rfl rfl hw2) ?_ | refine WS.no rfl ?_
    all_goals first | refine WS.val rfl (LK.lss rfl rfl) ?_ | refine WS.no rfl ?_
    all_goals first | refine WS.val rfl (LK.pick_t rfl rfl) ?_ | refine WS.val rfl (LK.pick_f rfl rfl) ?_
    all_goals
     refine WS.nil ?_
     refine WP.cond rfl (fun h33 => ?_) (fun h33 => ?_)
     · skip
       first
         | (have hnone : nextR bs at_ last = none := by
              unfold nextR
              rw [if_pos hlt, hgc, Option.bind_some, if_neg (by show ¬ bs.length < at_ + n + 4; omega), if_neg]
              simpa using h60
            have hr : recs bs = done := by rw [hrec]; simp only [recsF, hnone, List.append_nil]
            exact WP.ret rfl (Fin.ret' rfl rfl ⟨rfl, F, D, by rw [hr]; exact hJ7, hE.trans hEF (fun i hi h => by have h : i = H.next := h; omega), hFs, hDs⟩))
         | (have hnone : nextR bs at_ last = none := by
              unfold nextR
              rw [if_pos hlt]
              by_cases he : e = 0
              · obtain ⟨c, hgc, _⟩ := he0 he
                rw [hgc, Option.bind_some, if_pos]
                subst he
                first
                  | exact absurd h25 (by decide)
                  | (simp only [decide_eq_true_eq] at h33
                     show bs.length < at_ + n + 4
                     omega)
              · rw [he1 he]; rfl
            have hr : recs bs = done := by rw [hrec]; simp only [recsF, hnone, List.append_nil]
            exact WP.ret rfl (Fin.ret' rfl rfl ⟨rfl, F, D, by rw [hr]; exact hJ5, hE.trans hE15 (fun i _ h => h.elim), hFs, hDs⟩))
     first
      | ((first | (exfalso; have := of_decide_eq_false h33; omega) | cases h33); done)
      | skip
        refine WP.skip ?_
        refine WP.seq ?_
        have he : e = 0 := by simpa using h25
        obtain ⟨c, hgc, hF⟩ := he0 he
        have h4 : at_ + n + 4 ≤ bs.length := by have := of_decide_eq_false h33; omega
        obtain ⟨v5, hsl5, hb5', hv5⟩ := hbb5.slice (t := 22) (lo := some (.int .i64 (at_ : Int))) (hi := some (.int .i64 ((at_ + n : Nat) : Int))) (l := at_) (r := at_ + n) (natOf_cast (k := .i64)) (natOf_cast (k := .i64)) (by omega) (by omega)
        rw [show at_ + n - at_ = n by omega] at hb5'
        have hF5 := hF.ext hE5 (fun i _ h => h)
        have hHn := hE.next
        have hn2 := hE2.next
        have hfill : fillL (([(0, 7), (7, 1), (8, 4)] : List (Nat × Nat))[·]?) (LV.agg zero12).cells [(0, .agg (cells7 op u v w t d b')), (1, .int .i64 ((at_ + n + 4 : Nat) : Int)), (2, .agg (bytesL (sumR last ((bs.drop at_).take n))))] =
            some (cells7 op u v w t d b' ++ (.int .i64 ((at_ + n + 4 : Nat) : Int) :: bytesL (sumR last ((bs.drop at_).take n)))) := rfl
        have hone12 : (cells7 op u v w t d b' ++ (.int .i64 ((at_ + n + 4 : Nat) : Int) :: bytesL (sumR last ((bs.drop at_).take n)))).all oneCell = true := by
          rw [List.all_append, hone7]; rfl
        have hcn := hO5.c1
        have hcn' := hO.c1
        have hnn5 := hE5.next
        refine WP.conf rfl ?_
        refine WC.read rfl (LK.load_agg (xs := cells7 op u v w t d b') rfl hg5 (Nat.le_refl 7) rfl) (fun o h => by simp only [okind, h]) (by first | exact trivial | exact ⟨.inl rfl, trivial⟩ | exact ⟨.inl rfl, .inl rfl, trivial⟩ | exact ⟨.inl rfl, .inl rfl, .inl rfl, trivial⟩ | exact ⟨.inl rfl, .inl rfl, .inl rfl, .inl rfl, trivial⟩ | exact ⟨.inl rfl, .inl rfl, .inr ⟨_, LK.load_agg (xs := cells7 op u v w t d b') rfl (hE6.get (by omega) (fun h => by have h : H4.next = H.next := h; omega) hg5) (Nat.le_refl 7) rfl⟩, trivial⟩) ?_
        refine WC.val rfl (LK.move rfl) (fun o h => .inl (by simp only [okind, h])) ?_
        refine WC.val rfl (LK.move rfl) (fun o h => .inl (by simp only [okind, h])) ?_
        refine WC.val rfl (LK.add_to rfl rfl hw3) (fun o h => .inl (by simp only [okind, h])) ?_
        refine WC.val rfl (LK.add_to rfl rfl hw4) (fun o h => .inl (by simp only [okind, h])) ?_
        refine WC.val rfl (LK.move rfl) (fun o h => .inl (by simp only [okind, h])) ?_
        refine WC.read rfl (LK.load rfl hb5 rfl) (fun o h => by simp only [okind, h]) (by first | exact trivial | exact ⟨.inl rfl, trivial⟩ | exact ⟨.inl rfl, .inl rfl, trivial⟩ | exact ⟨.inl rfl, .inl rfl, .inl rfl, trivial⟩ | exact ⟨.inl rfl, .inl rfl, .inl rfl, .inl rfl, trivial⟩ | exact ⟨.inl rfl, .inl rfl, .inr ⟨_, LK.load_agg (xs := cells7 op u v w t d b') rfl (hE6.get (by omega) (fun h => by have h : H4.next = H.next := h; omega) hg5) (Nat.le_refl 7) rfl⟩, trivial⟩) ?_
        refine WC.val rfl (LK.move rfl) (fun o h => .inl (by simp only [okind, h])) ?_
        refine WC.val rfl (LK.move rfl) (fun o h => .inl (by simp only [okind, h])) ?_
        refine WC.val rfl (LK.move rfl) (fun o h => .inl (by simp only [okind, h])) ?_
        refine WC.val rfl (LK.add_to rfl rfl hw3) (fun o h => .inl (by simp only [okind, h])) ?_
        refine WC.read rfl (LK.slice rfl rfl rfl rfl hsl5) (fun o h => by simp only [okind, h]) (by first | exact trivial | exact ⟨.inl rfl, trivial⟩ | exact ⟨.inl rfl, .inl rfl, trivial⟩ | exact ⟨.inl rfl, .inl rfl, .inl rfl, trivial⟩ | exact ⟨.inl rfl, .inl rfl, .inl rfl, .inl rfl, trivial⟩ | exact ⟨.inl rfl, .inl rfl, .inr ⟨_, LK.load_agg (xs := cells7 op u v w t d b') rfl (hE6.get (by omega) (fun h => by have h : H4.next = H.next := h; omega) hg5) (Nat.le_refl 7) rfl⟩, trivial⟩) ?_
        (refine WC.call rfl (LK.call_func rfl rfl) (fun o h => by simp only [okind, h]) (CallP.mono (chain1 H5 H.next last ((bs.drop at_).take n) v5 hO5.c1 hO5.c2 hO5.c3 hb5' (by simp; omega)) ?_); rintro _ H6 ⟨rfl, hc6, hE6⟩; refine ⟨(by first | exact trivial | exact ⟨.inl rfl, trivial⟩ | exact ⟨.inl rfl, .inl rfl, trivial⟩ | exact ⟨.inl rfl, .inl rfl, .inl rfl, trivial⟩ | exact ⟨.inl rfl, .inl rfl, .inl rfl, .inl rfl, trivial⟩ | exact ⟨.inl rfl, .inl rfl, .inr ⟨_, LK.load_agg (xs := cells7 op u v w t d b') rfl (hE6.get (by omega) (fun h => by have h : H4.next = H.next := h; omega) hg5) (Nat.le_refl 7) rfl⟩, trivial⟩), ?_⟩; (
            have hn6 := hE6.next
            have hO6 : Own1 H6 F D bb H.next b bs (sumR last ((bs.drop at_).take n)) :=
              ⟨Nat.lt_of_lt_of_le hO5.b1 hE6.next, ⟨own5, opn5, hE6.get hO5.b1 (fun h => hO5.c5.1 h.symm) hb5⟩, hO5.b3, hO5.b4.ext hE6 (fun i hi h => hO5.c5.2 (h ▸ hi)), hO5.b5, Nat.lt_of_lt_of_le hO5.c1 hE6.next, hc6, rfl, hO5.c4, hO5.c5⟩
            have hJ6 := V.stable hJ5 hE6 (fun i h e => by subst e; exact h.elim hO5.c4.1 hO5.c4.2)
            have hF6 := hF5.ext (W := fun i => i = H.next) hE6 (fun i hi e => by have h1 : i = H.next := e; have h2 : H'.next ≤ i := hi; have := hO.c1; omega)))
        refine WC.val rfl (LK.build_s rfl hfill) (fun o h => .inl (by simp only [okind, h])) ?_
        refine WC.val rfl (LK.alloc) (fun o h => .inr (by simp only [okind, h])) ?_
        refine WC.skip rfl (LK.store (n := 12) rfl rfl get_new_self rfl hone12 (Nat.le_refl 12)) (fun o h => by simp only [okind, h]) (by first | exact trivial | exact ⟨.inl rfl, trivial⟩ | exact ⟨.inl rfl, .inl rfl, trivial⟩ | exact ⟨.inl rfl, .inl rfl, .inl rfl, trivial⟩ | exact ⟨.inl rfl, .inl rfl, .inl rfl, .inl rfl, trivial⟩ | exact ⟨.inl rfl, .inl rfl, .inr ⟨_, LK.load_agg (xs := cells7 op u v w t d b') rfl (hE6.get (by omega) (fun h => by have h : H4.next = H.next := h; omega) hg5) (Nat.le_refl 7) rfl⟩, trivial⟩) ?_
        refine WC.nil ?_
        refine WP.seq ?_
        refine WP.seq ?_
        refine (?_ : WP Try.prog _ _ _ ((H6.new (.cells zero12 55 true false)).put H6.next (.cells (cells7 op u v w t d b' ++ (.int .i64 ((at_ + n + 4 : Nat) : Int) :: bytesL (sumR last ((bs.drop at_).take n)))) 55 true false)) _)
        generalize hH7 : (H6.new (.cells zero12 55 true false)).put H6.next (.cells (cells7 op u v w t d b' ++ (.int .i64 ((at_ + n + 4 : Nat) : Int) :: bytesL (sumR last ((bs.drop at_).take n)))) 55 true false) = H7
        have hn7 : H7.next = H6.next + 1 := by rw [← hH7]; rfl
        have hE7 : Ext H6 H7 none' := by rw [← hH7]; exact ((Ext.refl _ _).new _).put _ (fun h => by omega)
        have hg7 : H7.get H6.next = some (.cells (cells7 op u v w t d b' ++ (.int .i64 ((at_ + n + 4 : Nat) : Int) :: bytesL (sumR last ((bs.drop at_).take n)))) 55 true false) := by rw [← hH7]; exact get_put_self
        have hO7 := hO6.ext hE7 (fun h => h) (fun i _ h => h) (fun h => h)
        have hJ7 := V.stable hJ6 hE7 (fun i _ h => h)
        have hF7 := hF6.ext hE7 (fun i _ h => h)
        obtain ⟨own7, opn7, hb7⟩ := hO7.b2
        obtain ⟨v7, hsl7, hbv7, hv7⟩ := hO7.b4.slice (t := 22) (lo := some (.int .i64 ((at_ + n : Nat) : Int))) (hi := some (.int .i64 ((at_ + n + 4 : Nat) : Int))) (l := at_ + n) (r := at_ + n + 4) (natOf_cast (k := .i64)) (natOf_cast (k := .i64)) (by omega) (by omega)
        rw [show at_ + n + 4 - (at_ + n) = 4 by omega] at hbv7
        have hl4 : ((bs.drop (at_ + n)).take 4).length = 4 := by simp; omega
        have hfar : ∀ x ∈ (cells7 op u v w t d b' ++ (.int .i64 ((at_ + n + 4 : Nat) : Int) :: bytesL (sumR last ((bs.drop at_).take n)))), ∀ i, x.bid? = some i → H'.next ≤ i := by
          intro x hx i hi
          rcases List.mem_append.1 hx with hx | hx
          · exact hF7.2.2 x hx i hi
          · rcases List.mem_cons.1 hx with rfl | hx
            · cases hi
            · obtain ⟨y, _, rfl⟩ := List.mem_map.1 hx
              cases hi
        have hFn : ∀ i, F i → i < H'.next := fun i h => V.fin hJ i (.inl h)
        have hstep := V.step (r := ⟨c, at_ + n + 4, sumR last ((bs.drop at_).take n)⟩) hJ7 ⟨_, rfl, hF7.1, hF7.2.1, rfl⟩ (fun x hx i hi h => by have := hfar x hx i hi; have := hFn i h; omega) (by omega)
        have hEF : Ext H' H7 (fun i => i = H.next) := ((hE15.mono (W' := fun i => i = H.next) (fun i _ h => h.elim)).trans hE6 (fun i hi h => h)).trans hE7 (fun i _ h => h.elim)
        rcases id hbv7 with ⟨hh, _, _⟩ | ⟨i7, off7, c7, cs7, e7, ow7, op7, rfl, hi7, hg7', _, hl7, ht7⟩
        · omega
        rw [hl4] at hl7 ht7 hsl7
        refine WP.draw rfl ?_
        refine WD.val rfl (LK.load rfl hb7 rfl) ?_
        refine WD.val rfl (LK.move rfl) ?_
        refine WD.val rfl (LK.move rfl) ?_
        refine WD.val rfl (LK.add_to rfl rfl hw3) ?_
        refine WD.val rfl (LK.fieldAddr rfl rfl) ?_
        refine WD.val rfl (LK.load rfl hg7 rfl) ?_
        refine WD.val rfl (LK.slice rfl rfl rfl rfl hsl7) ?_
        refine WD.val rfl (LK.arrPtr rfl (by decide)) ?_
        refine WD.val rfl (LK.load_agg (xs := bytesL ((bs.drop (at_ + n)).take 4)) rfl hg7' hl7 ht7) ?_
        refine WD.val rfl (LK.fieldAddr rfl rfl) ?_
        refine WD.val rfl (LK.load_agg (xs := bytesL (sumR last ((bs.drop at_).take n))) rfl hg7 (Nat.le_refl 12) rfl) ?_
        refine WD.val rfl (LK.bin rfl rfl (neq4 hl4 rfl)) ?_
        refine WD.val rfl (LK.move rfl) ?_
        first | refine WD.val rfl (LK.move rfl) ?_ | refine WD.no rfl ?_ | (refine WD.guard rfl (fun h60 => ?_) (fun h60 => ?_) <;> first | refine WD.val rfl (LK.move rfl) ?_ | refine WD.no rfl ?_)
        all_goals first | refine WD.val rfl (LK.load_agg rfl hg7 (Nat.le_refl 12) rfl) ?_ | refine WD.no rfl ?_
        all_goals first | (refine WD.round rfl (LK.call_yield rfl rfl) (fun o h => by simp only [okind, h]) (RoundP.mono (hstep) ?_); rintro _ H8 ⟨rfl, F2, D2, hJ2, hE8, hF2, hD2⟩) | refine WD.no rfl ?_
        all_goals first | refine WD.val rfl (LK.not rfl) ?_ | refine WD.no rfl ?_
        all_goals first | refine WD.val rfl (LK.pick_t rfl rfl) ?_ | refine WD.val rfl (LK.pick_f rfl rfl) ?_
        all_goals
         refine WD.nil ?_
         refine WP.cond rfl (fun h65 => ?_) (fun h65 => ?_)
         · first
            | ((first | (exfalso; have := of_decide_eq_false h65; omega) | cases h65); done)
            | skip
              first
                | (have hnone : nextR bs at_ last = none := by
                     unfold nextR
                     rw [if_pos hlt, hgc, Option.bind_some, if_neg (by show ¬ bs.length < at_ + n + 4; omega), if_neg]
                     simpa using h60
                   have hr : recs bs = done := by rw [hrec]; simp only [recsF, hnone, List.append_nil]
                   exact WP.ret rfl (Fin.ret' rfl rfl ⟨rfl, F, D, by rw [hr]; exact hJ7, hE.trans hEF (fun i hi h => by have h : i = H.next := h; omega), hFs, hDs⟩))
                | (have hnone : nextR bs at_ last = none := by
                     unfold nextR
                     rw [if_pos hlt]
                     by_cases he : e = 0
                     · obtain ⟨c, hgc, _⟩ := he0 he
                       rw [hgc, Option.bind_some, if_pos]
                       subst he
                       first
                         | exact absurd h25 (by decide)
                         | (simp only [decide_eq_true_eq] at h33
                            show bs.length < at_ + n + 4
                            omega)
                     · rw [he1 he]; rfl
                   have hr : recs bs = done := by rw [hrec]; simp only [recsF, hnone, List.append_nil]
                   exact WP.ret rfl (Fin.ret' rfl rfl ⟨rfl, F, D, by rw [hr]; exact hJ5, hE.trans hE15 (fun i _ h => h.elim), hFs, hDs⟩))
         first
          | ((first | (exfalso; have := of_decide_eq_false h65; omega) | cases h65); done)
          | skip
            refine WP.skip ?_
            have hg8 := hE8.get (i := H6.next) (by omega) (fun h => by have := hFn _ h; omega) hg7
            refine WP.region rfl ?_
            refine WS.val rfl (LK.fieldAddr rfl rfl) ?_
            refine WS.val rfl (LK.load rfl hg8 rfl) ?_
            refine WS.val rfl (LK.assign rfl) ?_
            refine WS.nil ?_
            refine WP.inBlock ?_
            have hsome : nextR bs at_ last = some ⟨c, at_ + n + 4, sumR last ((bs.drop at_).take n)⟩ := by
              unfold nextR
              rw [if_pos hlt, hgc, Option.bind_some, if_neg (by show ¬ bs.length < at_ + n + 4; omega), if_pos]
              simpa using h60
            refine WP.sub (gs := [(0, _), (1, _), (3, _), (4, .int .i64 ((at_ + n + 4 : Nat) : Int))]) (ih (bs.length - (at_ + n + 4)) _ _ (by omega) ⟨at_ + n + 4, f, sumR last ((bs.drop at_).take n), _, F2, D2, rfl, h4, by rw [List.length_append, List.length_singleton]; omega, rfl, ?_, by omega, hJ2, ?_, ?_, ?_, ?_⟩) ⟨rfl, rfl, rfl, rfl, trivial⟩
            · rw [hrec, recsF, hsome, List.append_assoc]; rfl
            · have n8 := hE8.next
              refine ⟨by have := hO7.b1; omega, ⟨own7, opn7, hE8.get hO7.b1 hO7.b3 hb7⟩, fun h => ?_, hO7.b4.ext hE8 hO7.b5, fun i hi h => ?_, by have := hO7.c1; omega, hE8.get hO7.c1 hO7.c4.1 hO7.c2, rfl, ⟨fun h => ?_, fun h => ?_⟩, hO7.c5⟩
              · rcases hF2 _ h with h | h
                · exact hO7.b3 h
                · have := hO7.b1; omega
              · rcases hF2 _ h with h | h
                · exact hO7.b5 i hi h
                · have := hO7.b4.lt hi; omega
              · rcases hF2 _ h with h | h
                · exact hO7.c4.1 h
                · have := hO7.c1; omega
              · rcases hD2 _ h with h | h | ⟨x, hx, h⟩
                · exact hO7.c4.2 h
                · have := hO7.c1; omega
                · have := hfar x hx _ h; have := hO.c1; omega
            · refine (hE.trans hEF (fun i hi h => by have h : i = H.next := h; omega)).trans hE8 (fun i hi h => ?_)
              rcases hFs i h with h | h
              · exact h
              · omega
            · intro i h
              rcases hF2 i h with h | h
              · exact hFs i h
              · right; omega
            · intro i h
              rcases hD2 i h with h | h | ⟨x, hx, h⟩
              · exact hDs i h
              · right; omega
              · right; have := hfar x hx i h; omega
  · have hnone : nextR bs at_ last = none := by
      unfold nextR
      rw [if_neg hlt]
    have hr : recs bs = done := by rw [hrec]; simp only [recsF, hnone, List.append_nil]
    refine WP.seq ?_
    refine WP.seq ?_
    refine WP.region rfl ?_
    refine WS.val rfl (LK.move rfl) ?_
    refine WS.val rfl (LK.load rfl hb2 rfl) ?_
    refine WS.val rfl (SV.len hb4 rfl) ?_
    refine WS.val rfl (LK.lss rfl rfl) ?_
    refine WS.nil ?_
    refine WP.cond rfl (fun h14 => ?_) (fun h14 => ?_)
    · exfalso; have := of_decide_eq_true h14; omega
    refine WP.exit rfl ?_
    exact WP.nil rfl (Fin.ret' rfl rfl ⟨rfl, F, D, by rw [hr]; exact hJ, hE, hFs, hDs⟩)
end Go.Proofs.Ythakgknamfopcaa
